/- The pure statement of FnExactMetaRead: what the printed functions of this law compute answers true, for every argument within the bounds that the statement names. -/
import Derived.Test.YtnleeeccpepekaaPFnExactMetaReadx4
import Derived.Test.YtnleeeccpepekaaLib
import Derived.Test.YtnleeeccpepekaaLibOrd
import Derived.Test.YtnleeeccpepekaaLibOpen
import Derived.Test.YtnleeeccpepekaaLibBits
namespace Go.Proofs.Ytnleeeccpepekaa.Pure
open Go Go.RowKit Go.Proofs.Ytnleeeccpepekaa.PFnExactMetaRead Go.Proofs.YtnleeeccpepekaaW.PrintWords Go.Proofs.YtnleeeccpepekaaW.PrintLast Go.Proofs.YtnleeeccpepekaaW.PrintMore Go.Proofs.Ytnleeeccpepekaa.Lib
set_option linter.unusedVariables false
set_option linter.unusedSimpArgs false

def G5 (x : Int) : Prop := (Lit.int .u8 x).wf = true
def G22 (xs : List (Int)) : Prop := xs.length * 1 ≤ 140737488351232 ∧ ∀ x ∈ xs, G5 x

/-! ### within -/
theorem within_eq (x lo hi : Int) : impl_within.f x lo hi = some (decide (lo ≤ x ∧ x ≤ hi)) := by
  unfold impl_within.f
  by_cases h : x ≥ lo
  · rw [if_pos h]; simp [h]
  · rw [if_neg h]; simp; omega

/-! ### l01Num -/
theorem l01Num_eq (n : Int) : spec_l01Num.f n = some (decide (0 ≤ n ∧ n ≤ 1099511627775)) := by
  unfold spec_l01Num.f
  by_cases h : n ≥ 0
  · rw [if_pos h]; simp [h]
  · rw [if_neg h]; simp; omega

/-! ### metaOk -/
def metaOk (g r : Int) : Prop := (1 ≤ g ∧ g ≤ 1099511627775) ∧ (r = 0 ∨ (2 ≤ r ∧ r ≤ 399))
instance (g r : Int) : Decidable (metaOk g r) := inferInstanceAs (Decidable (_ ∧ _))
theorem spec_MetaOk_eq (g r : Int) : spec_MetaOk.f g r = some (decide (metaOk g r)) := by
  unfold spec_MetaOk.f
  by_cases h : g ≥ 1
  · rw [if_pos h, l01Num_eq]
    simp only [Option.bind_some, decide_eq_true_eq]
    by_cases h2 : 0 ≤ g ∧ g ≤ 1099511627775
    · rw [if_pos h2]
      by_cases h3 : r = 0
      · rw [if_pos h3]; exact sdt ⟨by omega, .inl h3⟩
      · rw [if_neg h3]
        by_cases h4 : r ≥ 2
        · rw [if_pos h4]; exact sd (by unfold metaOk; omega)
        · rw [if_neg h4]; exact sdf (by unfold metaOk; omega)
    · rw [if_neg h2]; exact sdf (by unfold metaOk; omega)
  · rw [if_neg h]; exact sdf (by unfold metaOk; omega)
theorem impl_MetaOk_eq (g r : Int) : impl_MetaOk.f g r = some (decide (metaOk g r)) := by
  unfold impl_MetaOk.f
  rw [within_eq, within_eq]
  simp only [Option.bind_some, decide_eq_true_eq]
  by_cases h2 : 1 ≤ g ∧ g ≤ 1099511627775
  · rw [if_pos h2]
    by_cases h3 : r = 0
    · rw [if_pos h3]; exact sdt ⟨h2, .inl h3⟩
    · rw [if_neg h3]; exact sd (by unfold metaOk; omega)
  · rw [if_neg h2]; exact sdf (by unfold metaOk; omega)

/-! ### fillD -/
def fill (b : List Int) (n : Int) : List Int × Bool := if 0 ≤ n ∧ n ≤ 4096 ∧ (b.length : Int) ≤ n then (b ++ List.replicate (n.toNat - b.length) 0, true) else ([], false)
theorem fill_len (b : List Int) (n : Int) : (fill b n).1.length ≤ 4096 := by
  unfold fill
  split
  · rename_i h; simp; omega
  · simp

/-! ### specFill -/
theorem spec_Fill_eq (b : List Int) (n : Int) : spec_Fill.f b n = some (fill b n) := by
  unfold spec_Fill.f fill
  by_cases c1 : n < 0
  · rw [if_pos c1, if_neg (by omega)]
  rw [if_neg c1]
  by_cases c2 : n > 4096
  · rw [if_pos c2, if_neg (by omega)]
  rw [if_neg c2]
  by_cases c3 : (b.length : Int) > n
  · rw [if_pos c3, if_neg (by omega)]
  rw [if_neg c3, if_pos (by omega)]
  simp only [Option.bind_some, List.nil_append, List.length_nil, Nat.zero_add]
  have e : (n - (b.length : Int)).toNat = n.toNat - b.length := by omega
  rw [if_pos (by omega), wr (by omega) (by omega), if_pos (by omega), if_pos (by omega), e]

/-! ### implFill -/
theorem impl_Fill_eq (b : List Int) (n : Int) : impl_Fill.f b n = some (fill b n) := by
  unfold impl_Fill.f fill
  rw [within_eq]
  simp only [Option.bind_some]
  by_cases c1 : 0 ≤ n ∧ n ≤ 4096
  · rw [if_pos (decide_eq_true c1)]
    by_cases c3 : (b.length : Int) > n
    · rw [if_pos c3, if_neg (by omega)]
    rw [if_neg c3, if_pos (show 0 ≤ n ∧ n ≤ 4096 ∧ (b.length : Int) ≤ n by omega), if_pos (by omega), if_pos (by omega)]
    rw [if_pos (by simp; omega), List.drop_replicate]
  · rw [if_neg (fun e => c1 (of_decide_eq_true e)), if_neg (by omega)]

/-! ### metaBytes -/
def five (n : Int) : List Int := [n / 4294967296 % 256, n / 16777216 % 256, n / 65536 % 256, n / 256 % 256, n % 256]
def metaB (g r : Int) : List Int := [77] ++ five g ++ [r / 256 % 256, r % 256] ++ List.replicate 499 0 ++ five g
def metaBytes (g r : Int) : List Int × Bool := if metaOk g r then (metaB g r, true) else ([], false)
theorem metaB_len (g r : Int) : (metaB g r).length = 512 := by simp only [metaB, five, List.length_append, List.length_replicate, List.length_cons, List.length_nil]
theorem metaBytes_len (g r : Int) : (metaBytes g r).1.length ≤ 512 := by
  unfold metaBytes
  split
  · rw [metaB_len]; exact Nat.le_refl _
  · simp
theorem five_step (n : Int) (h0 : 0 ≤ n) (h1 : n ≤ 1099511627775) (i : Nat) (acc : List Int) (w : Int) (hi : i < 5) (hw : rd ([4294967296, 16777216, 65536, 256, 1] : List Int) (i : Int) = w) (hp : 0 < w) (ha : acc.length ≤ 10) (k : Nat) :
    spec_l04Five.l0 (k + 1) n acc ([4294967296, 16777216, 65536, 256, 1] : List Int) 5 (i : Int) = spec_l04Five.l0 k n (acc ++ [n / w % 256]) ([4294967296, 16777216, 65536, 256, 1] : List Int) 5 ((i + 1 : Nat) : Int) := by
  have hd : 0 ≤ n / w := Int.ediv_nonneg h0 (by omega)
  have hd2 : n / w ≤ n := Int.ediv_le_self _ h0
  simp only [spec_l04Five.l0]
  rw [if_pos (by omega), if_pos (by omega), if_pos (by simp; omega), hw, if_neg (by omega), if_pos (by omega), wrS (by omega), tdiv_pos h0, wr (by omega) (by omega), tmod_pos hd, Int.emod_emod_of_dvd _ (Int.dvd_refl _)]
theorem spec_five (n : Int) (h0 : 0 ≤ n) (h1 : n ≤ 1099511627775) : Ev (fun k => spec_l04Five.f k n) (five n) := by
  unfold spec_l04Five.f
  simp only [Option.bind_some]
  refine Ev.step (five_step n h0 h1 0 [] 4294967296 (by omega) rfl (by omega) (by simp)) ?_
  refine Ev.step (five_step n h0 h1 1 _ 16777216 (by omega) rfl (by omega) (by simp)) ?_
  refine Ev.step (five_step n h0 h1 2 _ 65536 (by omega) rfl (by omega) (by simp)) ?_
  refine Ev.step (five_step n h0 h1 3 _ 256 (by omega) rfl (by omega) (by simp)) ?_
  refine Ev.step (five_step n h0 h1 4 _ 1 (by omega) rfl (by omega) (by simp)) ?_
  refine Ev.step1 fun k => ?_
  simp only [spec_l04Five.l0]
  rw [if_neg (by decide)]
  simp [five]
/-- A number in m bytes, the highest first. -/
def be (n : Int) : Nat → List Int
  | 0 => []
  | m + 1 => (n / 2 ^ (8 * m) % 256) :: be n m
theorem be_len (n : Int) (m : Nat) : (be n m).length = m := by induction m with
  | zero => rfl
  | succ m ih => simp [be, ih]
theorem high_l0 (n : Int) (m : Nat) : ∀ acc : List Int, m ≤ 8 → acc.length + m ≤ 100000 → Ev (fun k => impl_high.l0 k acc n ((m : Int) - 1)) (acc ++ be n m) := by
  induction m with
  | zero =>
    intro acc _ _
    refine Ev.step1 fun k => ?_
    simp only [impl_high.l0]
    rw [if_neg (by omega)]
    simp [be]
  | succ m ih =>
    intro acc hm ha
    refine Ev.step (fun k => ?_) (by have := ih (acc ++ [n / 2 ^ (8 * m) % 256]) (by omega) (by simp; omega); rw [List.append_assoc] at this; exact this)
    simp only [impl_high.l0]
    have e : ((m + 1 : Nat) : Int) - 1 = (m : Int) := by omega
    have e2 : shr .i64 n (8 * (m : Int)) = n / 2 ^ (8 * m) := by
      unfold shr
      rw [Nat.min_eq_left (show (8 * (m : Int)).toNat ≤ IntKind.i64.bits from (show (8 * (m : Int)).toNat ≤ 64 by omega)), show (8 * (m : Int)).toNat = 8 * m by omega]
    rw [e, if_pos (by omega), wr (n := 8 * (m : Int)) (by omega) (by omega), if_pos (by omega), if_pos (by omega), e2, wr (by omega) (by omega)]
theorem high_ev (acc : List Int) (n : Int) (m : Nat) (hm : m ≤ 8) (ha : acc.length ≤ 10000) : Ev (fun k => impl_high.f k acc n (m : Int)) (acc ++ be n m) := by
  unfold impl_high.f
  rw [wr (by omega) (by omega)]
  exact high_l0 n m acc hm (by omega)
theorem be5 (n : Int) : be n 5 = five n := by simp [be, five]
theorem be2 (n : Int) : be n 2 = [n / 256 % 256, n % 256] := by simp [be]
theorem fill8 (l : List Int) (h : l.length = 8) : fill l 507 = (l ++ List.replicate 499 0, true) := by
  unfold fill
  rw [if_pos (by omega), h]
  rfl
theorem spec_MetaBytes_ev (g r : Int) : Ev (fun k => spec_MetaBytes.f k g r) (metaBytes g r) := by
  unfold spec_MetaBytes.f metaBytes
  rw [spec_MetaOk_eq]
  simp only [Option.bind_some]
  by_cases c : metaOk g r
  · have hg := c.1
    have hr : 0 ≤ r ∧ r ≤ 399 := by have := c.2; omega
    rw [if_pos c]
    simp only [if_pos (decide_eq_true c)]
    have h5 := spec_five g (by omega) hg.2
    refine Ev.bind h5 ?_
    simp only [if_pos (show ([77] : List Int).length + (five g).length < 140737488355328 by simp only [five, List.length_cons, List.length_nil]; omega)]
    have e1 : (wrap64 (Int.tdiv r 256)) % 256 = r / 256 % 256 := by rw [tdiv_pos hr.1, wr (by omega) (by omega)]
    have e2 : (Int.tmod r 256) % 256 = r % 256 := by rw [tmod_pos hr.1, Int.emod_emod_of_dvd _ (Int.dvd_refl _)]
    simp only [e1, e2]
    simp only [if_pos (show ([77] ++ five g : List Int).length + ([r / 256 % 256, r % 256] : List Int).length < 140737488355328 by simp [five])]
    rw [spec_Fill_eq, fill8 _ (by simp [five])]
    simp only [Option.bind_some]
    refine Ev.bind h5 (Ev.one ?_)
    rw [if_pos (by simp only [five, List.length_append, List.length_replicate, List.length_cons, List.length_nil]; omega)]
    rfl
  · simp only [if_neg (fun e => c (of_decide_eq_true e))]
    rw [if_neg c]
    exact Ev.now _
theorem impl_MetaBytes_ev (g r : Int) : Ev (fun k => impl_MetaBytes.f k g r) (metaBytes g r) := by
  unfold impl_MetaBytes.f metaBytes
  rw [impl_MetaOk_eq]
  simp only [Option.bind_some]
  by_cases c : metaOk g r
  · rw [if_pos c]
    simp only [if_pos (decide_eq_true c)]
    refine Ev.bind (high_ev [77] g 5 (by omega) (by decide)) (Ev.bind (high_ev _ r 2 (by omega) (by simp [be_len])) ?_)
    rw [be5, be2, impl_Fill_eq, fill8 _ (by simp [five])]
    simp only [Option.bind_some]
    refine Ev.bind (high_ev _ g 5 (by omega) (by simp only [five, List.length_append, List.length_replicate, List.length_cons, List.length_nil]; omega)) (Ev.one ?_)
    rw [be5]
    rfl
  · simp only [if_neg (fun e => c (of_decide_eq_true e))]
    rw [if_neg c]
    exact Ev.now _

/-! ### metaRead -/
theorem five_byt (n : Int) : Byt (five n) := by
  intro x hx
  simp only [five, List.mem_cons, List.not_mem_nil, or_false] at hx
  rcases hx with rfl | rfl | rfl | rfl | rfl <;> omega
theorem metaB_byt (g r : Int) : Byt (metaB g r) := by
  refine (((Byt.one (by omega)).app (five_byt g)).app (Byt.cons (by omega) (Byt.one (by omega)))).app (fun x hx => by rw [(List.mem_replicate.1 hx).2]; omega) |>.app (five_byt g)
def mgen (b : List Int) : Int := ((((0 * 256 + rd b 1) * 256 + rd b 2) * 256 + rd b 3) * 256 + rd b 4) * 256 + rd b 5
def mroot (b : List Int) : Int := rd b 6 * 256 + rd b 7
def metaRead (b : List Int) : Int × Int × Bool := if b.length = 512 ∧ metaOk (mgen b) (mroot b) ∧ metaB (mgen b) (mroot b) = b then (mgen b, mroot b, true) else (0, 0, false)
theorem impl_mr_end (b : List Int) (hb : Byt b) (hl : b.length = 512) : Ev (fun k => (impl_MetaBytes.f k (mgen b) (mroot b)).bind fun t => (if t.2 = true then (if (strOfNums t.1).toList = (strOfNums b).toList then (some (mgen b, mroot b, true)) else (some (0, 0, false))) else (some (0, 0, false)))) (metaRead b) := by
  refine Ev.bind (impl_MetaBytes_ev _ _) (Ev.one ?_)
  unfold metaBytes metaRead
  by_cases c : metaOk (mgen b) (mroot b)
  · simp only [if_pos c, if_true]
    simp only [sonl_inj (metaB_byt _ _) hb]
    by_cases c2 : metaB (mgen b) (mroot b) = b
    · rw [if_pos c2, if_pos ⟨hl, c, c2⟩]
    · rw [if_neg c2, if_neg (fun f => c2 f.2.2)]
  · simp only [if_neg c, Bool.false_eq_true, if_false]
    rw [if_neg (fun f => c f.2.1)]
theorem impl_mr_step (b xs : List Int) (hb : Byt xs) (hl : xs.length = 5) (i : Nat) (hi : i < 5) (g r : Int) (hg : 0 ≤ g) (hg2 : g ≤ 1125899906842624) (k : Nat) :
    impl_MetaRead.l0 (k + 1) b xs 5 (i : Int) g r = impl_MetaRead.l0 k b xs 5 ((i + 1 : Nat) : Int) (g * 256 + rd xs (i : Int)) r := by
  have hr := rd_byt hb (i : Int)
  simp only [impl_MetaRead.l0]
  rw [if_pos (by omega), if_pos (by omega), if_pos (by omega), wrS (by omega), wr (n := g * 256) (by omega) (by omega), wr (n := rd xs (i : Int)) (by omega) (by omega), or_byte hg hg2 hr.1 hr.2]
theorem impl_MetaRead_ev (b : List Int) (hb : Byt b) : Ev (fun k => impl_MetaRead.f k b) (metaRead b) := by
  unfold impl_MetaRead.f
  by_cases c : (b.length : Int) = 512
  · have hl : b.length = 512 := by omega
    simp only [if_pos c, if_pos (show (6 : Int) < (b.length : Int) by omega), if_pos (show (7 : Int) < (b.length : Int) by omega), if_pos (show (1 : Int) ≤ 6 by omega), if_pos (show (6 : Int) ≤ (b.length : Int) by omega)]
    have h6 := rd_byt hb 6
    have h7 := rd_byt hb 7
    have h1 := rd_byt hb 1
    have h2 := rd_byt hb 2
    have h3 := rd_byt hb 3
    have h4 := rd_byt hb 4
    have h5 := rd_byt hb 5
    have hx : ((b.take 6).drop 1).length = 5 := by rw [List.length_drop, List.length_take]; omega
    have hxb : Byt ((b.take 6).drop 1) := fun x hx => hb x (List.mem_of_mem_take (List.mem_of_mem_drop hx))
    have hrd : ∀ j : Nat, j < 5 → rd ((b.take 6).drop 1) (j : Int) = rd b ((j + 1 : Nat) : Int) := fun j hj => by
      rw [rd_nat (by omega), rd_nat (by omega), List.getElem_drop, List.getElem_take]
      congr 1
      omega
    simp only [Option.bind_some]
    rw [wr (n := rd b 6) (by omega) (by omega), wr (n := rd b 7) (by omega) (by omega), wr (n := rd b 6 * 256) (by omega) (by omega), or_byte h6.1 (by omega) h7.1 h7.2, show (((b.take 6).drop 1).length : Int) = 5 by omega]
    refine Ev.step (impl_mr_step b _ hxb hx 0 (by omega) 0 _ (by omega) (by omega)) ?_
    rw [hrd 0 (by omega)]
    refine Ev.step (impl_mr_step b _ hxb hx 1 (by omega) _ _ (by simp; omega) (by simp; omega)) ?_
    rw [hrd 1 (by omega)]
    refine Ev.step (impl_mr_step b _ hxb hx 2 (by omega) _ _ (by simp; omega) (by simp; omega)) ?_
    rw [hrd 2 (by omega)]
    refine Ev.step (impl_mr_step b _ hxb hx 3 (by omega) _ _ (by simp; omega) (by simp; omega)) ?_
    rw [hrd 3 (by omega)]
    refine Ev.step (impl_mr_step b _ hxb hx 4 (by omega) _ _ (by simp; omega) (by simp; omega)) ?_
    rw [hrd 4 (by omega)]
    refine Ev.step (fun k => ?_) (impl_mr_end b hb hl)
    simp only [impl_MetaRead.l0]
    rw [if_neg (by decide)]
    rfl
  · simp only [if_neg c]
    have : metaRead b = (0, 0, false) := by unfold metaRead; rw [if_neg (fun f => c (by have := f.1; omega))]
    rw [this]
    exact Ev.now _
theorem spec_mr_step (b : List Int) (hb : Byt b) (hl : b.length = 512) (i : Nat) (hi : i < 6) (g r : Int) (hg : 0 ≤ g) (hg2 : g ≤ 1125899906842624) (k : Nat) :
    spec_MetaRead.l0 (k + 1) b (i : Int) g r = spec_MetaRead.l0 k b ((i + 1 : Nat) : Int) (g * 256 + rd b (i : Int)) r := by
  have hr := rd_byt hb (i : Int)
  simp only [spec_MetaRead.l0]
  rw [if_pos (by omega), if_pos (by omega), if_pos (by omega), wrS (by omega), wr (n := g * 256) (by omega) (by omega), wr (n := rd b (i : Int)) (by omega) (by omega), wr (by omega) (by omega)]
theorem spec_mr_end (b : List Int) (hb : Byt b) (hl : b.length = 512) : Ev (fun k => (spec_MetaBytes.f k (mgen b) (mroot b)).bind fun t => (if t.2 = true then ((spec_l04Same.f t.1 b).bind fun s => (if s = true then (some (mgen b, mroot b, true)) else (some (0, 0, false)))) else (some (0, 0, false)))) (metaRead b) := by
  refine Ev.bind (spec_MetaBytes_ev _ _) (Ev.one ?_)
  unfold metaBytes metaRead spec_l04Same.f
  by_cases c : metaOk (mgen b) (mroot b)
  · simp only [if_pos c, if_true, Option.bind_some]
    simp only [beq_iff_eq, sonl_inj (metaB_byt _ _) hb]
    by_cases c2 : metaB (mgen b) (mroot b) = b
    · rw [if_pos c2, if_pos ⟨hl, c, c2⟩]
    · rw [if_neg c2, if_neg (fun f => c2 f.2.2)]
  · simp only [if_neg c, Bool.false_eq_true, if_false]
    rw [if_neg (fun f => c f.2.1)]
theorem spec_MetaRead_ev (b : List Int) (hb : Byt b) : Ev (fun k => spec_MetaRead.f k b) (metaRead b) := by
  unfold spec_MetaRead.f
  by_cases c : (b.length : Int) = 512
  · have hl : b.length = 512 := by omega
    simp only [if_pos c]
    have h6 := rd_byt hb 6
    have h7 := rd_byt hb 7
    have h1 := rd_byt hb 1
    have h2 := rd_byt hb 2
    have h3 := rd_byt hb 3
    have h4 := rd_byt hb 4
    have h5 := rd_byt hb 5
    refine Ev.step (spec_mr_step b hb hl 1 (by omega) 0 0 (by omega) (by omega)) ?_
    refine Ev.step (spec_mr_step b hb hl 2 (by omega) _ _ (by simp; omega) (by simp; omega)) ?_
    refine Ev.step (spec_mr_step b hb hl 3 (by omega) _ _ (by simp; omega) (by simp; omega)) ?_
    refine Ev.step (spec_mr_step b hb hl 4 (by omega) _ _ (by simp; omega) (by simp; omega)) ?_
    refine Ev.step (spec_mr_step b hb hl 5 (by omega) _ _ (by simp; omega) (by simp; omega)) ?_
    refine Ev.step (fun k => ?_) (spec_mr_end b hb hl)
    simp only [spec_MetaRead.l0]
    rw [if_neg (by decide), if_pos (by omega), if_pos (by omega), wr (n := rd b 6) (by omega) (by omega), wr (n := rd b 7) (by omega) (by omega), wr (n := rd b 6 * 256) (by omega) (by omega), wr (by omega) (by omega)]
    rfl
  · simp only [if_neg c]
    have : metaRead b = (0, 0, false) := by unfold metaRead; rw [if_neg (fun f => c (by have := f.1; omega))]
    rw [this]
    exact Ev.now _

/-! ### toByteS -/
theorem toByteS_l0 (l : List Int) (h : l.length ≤ 140737488351232) (d : Nat) : ∀ i : Nat, i + d = l.length →
    Ev (fun k => laws_toByteS.l0 k l (l.take i ++ List.replicate (l.length - i) 0) (i : Int)) l := by
  induction d with
  | zero =>
    intro i hi
    refine Ev.step1 fun k => ?_
    simp only [laws_toByteS.l0]
    rw [if_neg (by omega), set_last l 0 (by omega)]
  | succ d ih =>
    intro i hi
    refine Ev.step (f := fun k => laws_toByteS.l0 k l (l.take (i + 1) ++ List.replicate (l.length - (i + 1)) 0) ((i + 1 : Nat) : Int)) (fun k => ?_) (ih (i + 1) (by omega))
    simp only [laws_toByteS.l0]
    rw [if_pos (by omega), if_pos (by omega), if_pos (by rw [len_mid _ _ (by omega)]; omega), Int.toNat_natCast, wrS (by omega), set_next l 0 _ i (by omega) (rd_nat (by omega))]
theorem toByteS_ev (l : List Int) (h : l.length ≤ 140737488351232) : Ev (fun k => laws_toByteS.f k l) l := by
  unfold laws_toByteS.f
  rw [Int.toNat_natCast]
  simp only [if_pos (show (0 : Int) ≤ l.length by omega), if_pos (show l.length ≤ 281474976710656 by omega)]
  rw [set_first]
  exact toByteS_l0 l h l.length 0 (by omega)

/-! ### eqByteS -/
theorem eqByteS_l0 (l : List Int) (h : l.length ≤ 140737488351232) (d : Nat) : ∀ i : Nat, i + d = l.length → Ev (fun k => laws_eqByteS.l0 k l l (i : Int)) true := by
  induction d with
  | zero =>
    intro i hi
    refine Ev.step1 fun k => ?_
    simp only [laws_eqByteS.l0]
    rw [if_neg (by omega)]
  | succ d ih =>
    intro i hi
    refine Ev.step (f := fun k => laws_eqByteS.l0 k l l ((i + 1 : Nat) : Int)) (fun k => ?_) (ih (i + 1) (by omega))
    simp only [laws_eqByteS.l0]
    rw [if_pos (by omega), if_pos (by omega), if_pos (by omega), if_pos trivial, wrS (by omega)]
theorem eqByteS_self (l : List Int) (h : l.length ≤ 140737488351232) : Ev (fun k => laws_eqByteS.f k l l) true := by
  unfold laws_eqByteS.f
  simp only [if_pos trivial]
  exact eqByteS_l0 l h l.length 0 (by omega)

/-! ### law_FnExactMetaRead -/
theorem eqMeta_self (a b : Int) : laws_eqMeta.f a b a b = some true := by
  unfold laws_eqMeta.f; rw [if_pos rfl, if_pos rfl]
theorem FnExactMetaRead (l0 : List (Int)) (g0 : G22 l0) : ∃ k, laws_FnExactMetaRead.f k l0 = some true := by
  have hl : l0.length ≤ 140737488351232 := by have := g0.1; omega
  have hb : Byt l0 := byt_of g0.2
  have ht := toByteS_ev l0 hl
  refine Ev.rounds ?_
  unfold laws_FnExactMetaRead.f
  by_cases c : (l0.length : Int) > 1048576
  · simp only [if_pos c]; exact Ev.now _
  simp only [if_neg c]
  refine Ev.bind ht (Ev.bind (spec_MetaRead_ev l0 hb) (Ev.bind ht (Ev.bind (impl_MetaRead_ev l0 hb) ?_)))
  rw [eqMeta_self]
  simp only [Option.bind_some, if_true, bne_self_eq_false]
  refine Ev.step (f := fun k => _) (fun k => by simp only [laws_FnExactMetaRead.j0]; rfl) ?_
  simp only [Bool.false_eq_true, if_false]
  refine Ev.bind ht (Ev.bind (eqByteS_self l0 hl) (Ev.one ?_))
  rw [if_pos rfl]

end Go.Proofs.Ytnleeeccpepekaa.Pure
