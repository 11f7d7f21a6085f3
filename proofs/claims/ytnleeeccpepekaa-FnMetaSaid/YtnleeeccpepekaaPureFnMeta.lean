/- The pure statement of FnMeta: what the printed functions of this law compute answers true, for every argument within the bounds that the statement names. -/
import Derived.Test.YtnleeeccpepekaaPFnMetax4
import Derived.Test.YtnleeeccpepekaaLib
import Derived.Test.YtnleeeccpepekaaLibOrd
import Derived.Test.YtnleeeccpepekaaLibOpen
import Derived.Test.YtnleeeccpepekaaLibBits
namespace Go.Proofs.Ytnleeeccpepekaa.Pure
open Go Go.RowKit Go.Proofs.Ytnleeeccpepekaa.PFnMeta Go.Proofs.YtnleeeccpepekaaW.PrintWords Go.Proofs.YtnleeeccpepekaaW.PrintLast Go.Proofs.YtnleeeccpepekaaW.PrintMore Go.Proofs.Ytnleeeccpepekaa.Lib
set_option linter.unusedVariables false
set_option linter.unusedSimpArgs false

def G5 (x : Int) : Prop := (Lit.int .u8 x).wf = true
def G22 (xs : List (Int)) : Prop := xs.length * 1 ≤ 140737488351232 ∧ ∀ x ∈ xs, G5 x

/-! ### draws0 -/
theorem and255 (n : Int) : 0 ≤ Go.bits .and .i64 n 255 ∧ Go.bits .and .i64 n 255 ≤ 255 := by
  have h : Go.bits .and .i64 n 255 = n % 256 := by
    have h255 : (BitVec.ofInt 64 255).toNat = 2 ^ 8 - 1 := by decide
    have key : (BitVec.ofInt 64 n &&& BitVec.ofInt 64 255).toNat = (n % ((2 ^ 64 : Nat) : Int)).toNat % 2 ^ 8 := by
      rw [BitVec.toNat_and, BitVec.toNat_ofInt, h255, Nat.and_two_pow_sub_one_eq_mod]
    show IntKind.i64.wrap ((BitVec.ofInt 64 n &&& BitVec.ofInt 64 255).toNat : Nat) = n % 256
    rw [key, IntKind.wrap_i64]
    omega
  rw [h]
  omega
/-- A cursor's place. -/
def At (b : List Int) (i : Int) : Prop := 0 ≤ i ∧ i ≤ b.length
theorem byte_some (b : List Int) (hl : b.length ≤ 140737488351232) (i h : Int) (hi : At b i) : ∃ v i' h', spec_l01Byte.f b i h = some (v, i', h') ∧ 0 ≤ v ∧ v ≤ 255 ∧ At b i' := by
  unfold spec_l01Byte.f
  by_cases c : i < (b.length : Int)
  · rw [if_pos c, if_pos hi.1]
    exact ⟨_, _, _, rfl, (and255 _).1, (and255 _).2, by unfold At; rw [wr (by have := hi.1; omega) (by omega)]; have := hi.1; omega⟩
  · rw [if_neg c]
    exact ⟨_, _, _, rfl, (and255 _).1, (and255 _).2, hi⟩
theorem below_some (b : List Int) (hl : b.length ≤ 140737488351232) (i h n : Int) (hi : At b i) (h0 : 0 < n) (hn : n ≤ 16777216) : ∃ v i' h', spec_l01Below.f b i h n = some (v, i', h') ∧ 0 ≤ v ∧ v < n ∧ At b i' := by
  unfold spec_l01Below.f
  rw [if_neg (by omega)]
  by_cases c : n ≤ 256
  · rw [if_pos c]
    obtain ⟨v, i', h', e, hv, hv2, ha⟩ := byte_some b hl i h hi
    rw [e]
    simp only [Option.bind_some]
    rw [if_neg (by omega), tmod_pos hv]
    exact ⟨_, _, _, rfl, Int.emod_nonneg _ (by omega), Int.emod_lt_of_pos _ h0, ha⟩
  · rw [if_neg c]
    obtain ⟨v1, i1, h1, e1, p1, q1, a1⟩ := byte_some b hl i h hi
    obtain ⟨v2, i2, h2, e2, p2, q2, a2⟩ := byte_some b hl i1 h1 a1
    obtain ⟨v3, i3, h3, e3, p3, q3, a3⟩ := byte_some b hl i2 h2 a2
    obtain ⟨v4, i4, h4, e4, p4, q4, a4⟩ := byte_some b hl i3 h3 a3
    rw [e1]; simp only [Option.bind_some]
    rw [e2]; simp only [Option.bind_some]
    rw [e3]; simp only [Option.bind_some]
    rw [e4]; simp only [Option.bind_some]
    rw [if_neg (by omega), wr (n := v1 * 16777216) (by omega) (by omega), wr (n := v2 * 65536) (by omega) (by omega), wr (n := v1 * 16777216 + v2 * 65536) (by omega) (by omega), wr (n := v3 * 256) (by omega) (by omega), wr (n := v1 * 16777216 + v2 * 65536 + v3 * 256) (by omega) (by omega), wr (by omega) (by omega), tmod_pos (by omega)]
    exact ⟨_, _, _, rfl, Int.emod_nonneg _ (by omega), Int.emod_lt_of_pos _ h0, a4⟩
theorem new_l0 (b : List Int) (hl : b.length ≤ 140737488351232) (d : Nat) : ∀ (i : Nat) (h : Int), i + d = b.length → ∃ h', Ev (fun k => spec_l01New.l0 k b h (i : Int)) (b, 0, h') := by
  induction d with
  | zero =>
    intro i h hi
    refine ⟨h, Ev.step1 fun k => ?_⟩
    simp only [spec_l01New.l0]
    rw [if_neg (by omega)]
  | succ d ih =>
    intro i h hi
    by_cases c : (i : Int) < 4000
    · obtain ⟨h', hh⟩ := ih (i + 1) (Go.bits .and .i64 (wrap64 ((wrap64 ((wrap64 (h * 137)) + (wrap64 (rd b i)))) + 5)) 1073741823) (by omega)
      refine ⟨h', Ev.step (fun k => ?_) hh⟩
      simp only [spec_l01New.l0]
      rw [if_pos (by omega), if_pos c, if_pos (by omega), wrS (by omega)]
    · refine ⟨h, Ev.step1 fun k => ?_⟩
      simp only [spec_l01New.l0]
      rw [if_pos (by omega), if_neg c]
theorem new_some (b : List Int) (hl : b.length ≤ 140737488351232) : ∃ h, Ev (fun k => spec_l01New.f k b) (b, 0, h) := new_l0 b hl b.length 0 _ (by omega)

/-! ### tearD -/
def sheet (l : List Int) : List Int := if l.length = 0 then List.replicate 512 0 else l
def clamp (n : Int) : Nat := (max 0 (min n 512)).toNat
theorem clamp_le (n : Int) : clamp n ≤ 512 := by unfold clamp; omega
def tearL (a b : List Int) (n : Int) : List Int := if (sheet a).length = 512 ∧ (sheet b).length = 512 then (sheet b).take (clamp n) ++ (sheet a).drop (clamp n) else []
theorem sheet_of {l : List Int} (h : l.length = 512) : sheet l = l := by unfold sheet; rw [if_neg (by omega)]
theorem tearL_of {a b : List Int} (ha : a.length = 512) (hb : b.length = 512) (n : Int) : tearL a b n = b.take (clamp n) ++ a.drop (clamp n) := by unfold tearL; rw [sheet_of ha, sheet_of hb, if_pos ⟨ha, hb⟩]

/-! ### implTear -/
theorem impl_Tear_j0 (a b : List Int) (n : Int) (k : Nat) : impl_Tear.j0 (k + 1) a b n = some (if a.length = 512 ∧ (sheet b).length = 512 then (sheet b).take (clamp n) ++ a.drop (clamp n) else []) := by
  have hc := clamp_le n
  have hm : (mx 0 (mn n 512) : Int) = (clamp n : Int) := by unfold clamp mx mn; split <;> split <;> omega
  have hm2 : (mx 0 (mn n 512) : Int).toNat = clamp n := by rw [hm]; omega
  simp only [impl_Tear.j0, Option.bind_some, hm, Int.toNat_natCast]
  by_cases cb : (b.length : Int) = 0
  · have hb : b.length = 0 := by omega
    rw [if_pos cb, if_pos (by decide)]
    have hs : sheet b = List.replicate 512 0 := by unfold sheet; rw [if_pos hb]
    by_cases ca : (a.length : Int) = 512
    · rw [if_pos ca, if_pos (by rw [List.length_replicate]; rfl), if_pos (by omega), if_pos (by rw [List.length_replicate]; omega), if_pos (by rw [List.length_take, List.length_replicate, List.length_nil]; omega), if_pos (by omega), if_pos (by simp only [List.length_append, List.length_take, List.length_replicate, List.length_drop, List.length_nil]; omega), if_pos ⟨by omega, by rw [hs, List.length_replicate]⟩, hs, List.nil_append]
    · rw [if_neg ca, if_neg (fun f => ca (by omega))]
  · have hs : sheet b = b := by unfold sheet; rw [if_neg (by omega)]
    rw [if_neg cb, hs]
    by_cases ca : (a.length : Int) = 512
    · rw [if_pos ca]
      by_cases cl : (b.length : Int) = 512
      · rw [if_pos cl, if_pos (by omega), if_pos (by omega), if_pos (by rw [List.length_take, List.length_nil]; omega), if_pos (by omega), if_pos (by simp only [List.length_append, List.length_take, List.length_drop, List.length_nil]; omega), if_pos ⟨by omega, by omega⟩, List.nil_append]
      · rw [if_neg cl, if_neg (fun f => cl (by omega))]
    · rw [if_neg ca, if_neg (fun f => ca (by omega))]
theorem impl_Tear_ev (a b : List Int) (n : Int) : Ev (fun k => impl_Tear.f k a b n) (tearL a b n) := by
  unfold impl_Tear.f tearL
  by_cases c : (a.length : Int) = 0
  · simp only [if_pos c, if_pos (show (512 : Nat) ≤ 281474976710656 by decide)]
    have hs : sheet a = List.replicate 512 0 := by unfold sheet; rw [if_pos (by omega)]
    rw [hs]
    exact Ev.step1 fun k => impl_Tear_j0 _ b n k
  · simp only [if_neg c]
    have hs : sheet a = a := by unfold sheet; rw [if_neg (by omega)]
    rw [hs]
    exact Ev.step1 fun k => impl_Tear_j0 _ b n k

/-! ### within -/
theorem within_eq (x lo hi : Int) : impl_within.f x lo hi = some (decide (lo ≤ x ∧ x ≤ hi)) := by
  unfold impl_within.f
  by_cases h : x ≥ lo
  · rw [if_pos h]; simp [h]
  · rw [if_neg h]; simp; omega

/-! ### l01Num -/


/-! ### metaOk -/
def metaOk (g r : Int) : Prop := (1 ≤ g ∧ g ≤ 1099511627775) ∧ (r = 0 ∨ (2 ≤ r ∧ r ≤ 399))
instance (g r : Int) : Decidable (metaOk g r) := inferInstanceAs (Decidable (_ ∧ _))
theorem impl_MetaOk_eq (g r : Int) : impl_MetaOk.f g r = some (decide (metaOk g r)) := by
  unfold impl_MetaOk.f
  rw [within_eq, within_eq]
  simp only [Option.bind_some, decide_eq_true_eq]
  by_cases h2 : 1 ≤ g ∧ g ≤ 1099511627775
  · rw [if_pos h2]
    by_cases h3 : r = 0
    · rw [if_pos h3]; exact sdt ⟨h2, .inl h3⟩
    · rw [if_neg h3]; exact sd (by unfold metaOk; omega)
  · rw [if_neg h2]; exact sdf (by unfold metaOk; omega)

/-! ### fillD -/
def fill (b : List Int) (n : Int) : List Int × Bool := if 0 ≤ n ∧ n ≤ 4096 ∧ (b.length : Int) ≤ n then (b ++ List.replicate (n.toNat - b.length) 0, true) else ([], false)
theorem fill_len (b : List Int) (n : Int) : (fill b n).1.length ≤ 4096 := by
  unfold fill
  split
  · rename_i h; simp; omega
  · simp

/-! ### specFill -/


/-! ### implFill -/
theorem impl_Fill_eq (b : List Int) (n : Int) : impl_Fill.f b n = some (fill b n) := by
  unfold impl_Fill.f fill
  rw [within_eq]
  simp only [Option.bind_some]
  by_cases c1 : 0 ≤ n ∧ n ≤ 4096
  · rw [if_pos (decide_eq_true c1)]
    by_cases c3 : (b.length : Int) > n
    · rw [if_pos c3, if_neg (by omega)]
    rw [if_neg c3, if_pos (show 0 ≤ n ∧ n ≤ 4096 ∧ (b.length : Int) ≤ n by omega), if_pos (by omega), if_pos (by omega)]
    rw [if_pos (by simp; omega), List.drop_replicate]
  · rw [if_neg (fun e => c1 (of_decide_eq_true e)), if_neg (by omega)]

/-! ### metaBytes -/
def five (n : Int) : List Int := [n / 4294967296 % 256, n / 16777216 % 256, n / 65536 % 256, n / 256 % 256, n % 256]
def metaB (g r : Int) : List Int := [77] ++ five g ++ [r / 256 % 256, r % 256] ++ List.replicate 499 0 ++ five g
def metaBytes (g r : Int) : List Int × Bool := if metaOk g r then (metaB g r, true) else ([], false)
theorem metaB_len (g r : Int) : (metaB g r).length = 512 := by simp only [metaB, five, List.length_append, List.length_replicate, List.length_cons, List.length_nil]
theorem metaBytes_len (g r : Int) : (metaBytes g r).1.length ≤ 512 := by
  unfold metaBytes
  split
  · rw [metaB_len]; exact Nat.le_refl _
  · simp
/-- A number in m bytes, the highest first. -/
def be (n : Int) : Nat → List Int
  | 0 => []
  | m + 1 => (n / 2 ^ (8 * m) % 256) :: be n m
theorem be_len (n : Int) (m : Nat) : (be n m).length = m := by induction m with
  | zero => rfl
  | succ m ih => simp [be, ih]
theorem high_l0 (n : Int) (m : Nat) : ∀ acc : List Int, m ≤ 8 → acc.length + m ≤ 100000 → Ev (fun k => impl_high.l0 k acc n ((m : Int) - 1)) (acc ++ be n m) := by
  induction m with
  | zero =>
    intro acc _ _
    refine Ev.step1 fun k => ?_
    simp only [impl_high.l0]
    rw [if_neg (by omega)]
    simp [be]
  | succ m ih =>
    intro acc hm ha
    refine Ev.step (fun k => ?_) (by have := ih (acc ++ [n / 2 ^ (8 * m) % 256]) (by omega) (by simp; omega); rw [List.append_assoc] at this; exact this)
    simp only [impl_high.l0]
    have e : ((m + 1 : Nat) : Int) - 1 = (m : Int) := by omega
    have e2 : shr .i64 n (8 * (m : Int)) = n / 2 ^ (8 * m) := by
      unfold shr
      rw [Nat.min_eq_left (show (8 * (m : Int)).toNat ≤ IntKind.i64.bits from (show (8 * (m : Int)).toNat ≤ 64 by omega)), show (8 * (m : Int)).toNat = 8 * m by omega]
    rw [e, if_pos (by omega), wr (n := 8 * (m : Int)) (by omega) (by omega), if_pos (by omega), if_pos (by omega), e2, wr (by omega) (by omega)]
theorem high_ev (acc : List Int) (n : Int) (m : Nat) (hm : m ≤ 8) (ha : acc.length ≤ 10000) : Ev (fun k => impl_high.f k acc n (m : Int)) (acc ++ be n m) := by
  unfold impl_high.f
  rw [wr (by omega) (by omega)]
  exact high_l0 n m acc hm (by omega)
theorem be5 (n : Int) : be n 5 = five n := by simp [be, five]
theorem be2 (n : Int) : be n 2 = [n / 256 % 256, n % 256] := by simp [be]
theorem fill8 (l : List Int) (h : l.length = 8) : fill l 507 = (l ++ List.replicate 499 0, true) := by
  unfold fill
  rw [if_pos (by omega), h]
  rfl
theorem impl_MetaBytes_ev (g r : Int) : Ev (fun k => impl_MetaBytes.f k g r) (metaBytes g r) := by
  unfold impl_MetaBytes.f metaBytes
  rw [impl_MetaOk_eq]
  simp only [Option.bind_some]
  by_cases c : metaOk g r
  · rw [if_pos c]
    simp only [if_pos (decide_eq_true c)]
    refine Ev.bind (high_ev [77] g 5 (by omega) (by decide)) (Ev.bind (high_ev _ r 2 (by omega) (by simp [be_len])) ?_)
    rw [be5, be2, impl_Fill_eq, fill8 _ (by simp [five])]
    simp only [Option.bind_some]
    refine Ev.bind (high_ev _ g 5 (by omega) (by simp only [five, List.length_append, List.length_replicate, List.length_cons, List.length_nil]; omega)) (Ev.one ?_)
    rw [be5]
    rfl
  · simp only [if_neg (fun e => c (of_decide_eq_true e))]
    rw [if_neg c]
    exact Ev.now _

/-! ### metaRead -/
theorem five_byt (n : Int) : Byt (five n) := by
  intro x hx
  simp only [five, List.mem_cons, List.not_mem_nil, or_false] at hx
  rcases hx with rfl | rfl | rfl | rfl | rfl <;> omega
theorem metaB_byt (g r : Int) : Byt (metaB g r) := by
  refine (((Byt.one (by omega)).app (five_byt g)).app (Byt.cons (by omega) (Byt.one (by omega)))).app (fun x hx => by rw [(List.mem_replicate.1 hx).2]; omega) |>.app (five_byt g)
def mgen (b : List Int) : Int := ((((0 * 256 + rd b 1) * 256 + rd b 2) * 256 + rd b 3) * 256 + rd b 4) * 256 + rd b 5
def mroot (b : List Int) : Int := rd b 6 * 256 + rd b 7
def metaRead (b : List Int) : Int × Int × Bool := if b.length = 512 ∧ metaOk (mgen b) (mroot b) ∧ metaB (mgen b) (mroot b) = b then (mgen b, mroot b, true) else (0, 0, false)
theorem impl_mr_end (b : List Int) (hb : Byt b) (hl : b.length = 512) : Ev (fun k => (impl_MetaBytes.f k (mgen b) (mroot b)).bind fun t => (if t.2 = true then (if (strOfNums t.1).toList = (strOfNums b).toList then (some (mgen b, mroot b, true)) else (some (0, 0, false))) else (some (0, 0, false)))) (metaRead b) := by
  refine Ev.bind (impl_MetaBytes_ev _ _) (Ev.one ?_)
  unfold metaBytes metaRead
  by_cases c : metaOk (mgen b) (mroot b)
  · simp only [if_pos c, if_true]
    simp only [sonl_inj (metaB_byt _ _) hb]
    by_cases c2 : metaB (mgen b) (mroot b) = b
    · rw [if_pos c2, if_pos ⟨hl, c, c2⟩]
    · rw [if_neg c2, if_neg (fun f => c2 f.2.2)]
  · simp only [if_neg c, Bool.false_eq_true, if_false]
    rw [if_neg (fun f => c f.2.1)]
theorem impl_mr_step (b xs : List Int) (hb : Byt xs) (hl : xs.length = 5) (i : Nat) (hi : i < 5) (g r : Int) (hg : 0 ≤ g) (hg2 : g ≤ 1125899906842624) (k : Nat) :
    impl_MetaRead.l0 (k + 1) b xs 5 (i : Int) g r = impl_MetaRead.l0 k b xs 5 ((i + 1 : Nat) : Int) (g * 256 + rd xs (i : Int)) r := by
  have hr := rd_byt hb (i : Int)
  simp only [impl_MetaRead.l0]
  rw [if_pos (by omega), if_pos (by omega), if_pos (by omega), wrS (by omega), wr (n := g * 256) (by omega) (by omega), wr (n := rd xs (i : Int)) (by omega) (by omega), or_byte hg hg2 hr.1 hr.2]
theorem impl_MetaRead_ev (b : List Int) (hb : Byt b) : Ev (fun k => impl_MetaRead.f k b) (metaRead b) := by
  unfold impl_MetaRead.f
  by_cases c : (b.length : Int) = 512
  · have hl : b.length = 512 := by omega
    simp only [if_pos c, if_pos (show (6 : Int) < (b.length : Int) by omega), if_pos (show (7 : Int) < (b.length : Int) by omega), if_pos (show (1 : Int) ≤ 6 by omega), if_pos (show (6 : Int) ≤ (b.length : Int) by omega)]
    have h6 := rd_byt hb 6
    have h7 := rd_byt hb 7
    have h1 := rd_byt hb 1
    have h2 := rd_byt hb 2
    have h3 := rd_byt hb 3
    have h4 := rd_byt hb 4
    have h5 := rd_byt hb 5
    have hx : ((b.take 6).drop 1).length = 5 := by rw [List.length_drop, List.length_take]; omega
    have hxb : Byt ((b.take 6).drop 1) := fun x hx => hb x (List.mem_of_mem_take (List.mem_of_mem_drop hx))
    have hrd : ∀ j : Nat, j < 5 → rd ((b.take 6).drop 1) (j : Int) = rd b ((j + 1 : Nat) : Int) := fun j hj => by
      rw [rd_nat (by omega), rd_nat (by omega), List.getElem_drop, List.getElem_take]
      congr 1
      omega
    simp only [Option.bind_some]
    rw [wr (n := rd b 6) (by omega) (by omega), wr (n := rd b 7) (by omega) (by omega), wr (n := rd b 6 * 256) (by omega) (by omega), or_byte h6.1 (by omega) h7.1 h7.2, show (((b.take 6).drop 1).length : Int) = 5 by omega]
    refine Ev.step (impl_mr_step b _ hxb hx 0 (by omega) 0 _ (by omega) (by omega)) ?_
    rw [hrd 0 (by omega)]
    refine Ev.step (impl_mr_step b _ hxb hx 1 (by omega) _ _ (by simp; omega) (by simp; omega)) ?_
    rw [hrd 1 (by omega)]
    refine Ev.step (impl_mr_step b _ hxb hx 2 (by omega) _ _ (by simp; omega) (by simp; omega)) ?_
    rw [hrd 2 (by omega)]
    refine Ev.step (impl_mr_step b _ hxb hx 3 (by omega) _ _ (by simp; omega) (by simp; omega)) ?_
    rw [hrd 3 (by omega)]
    refine Ev.step (impl_mr_step b _ hxb hx 4 (by omega) _ _ (by simp; omega) (by simp; omega)) ?_
    rw [hrd 4 (by omega)]
    refine Ev.step (fun k => ?_) (impl_mr_end b hb hl)
    simp only [impl_MetaRead.l0]
    rw [if_neg (by decide)]
    rfl
  · simp only [if_neg c]
    have : metaRead b = (0, 0, false) := by unfold metaRead; rw [if_neg (fun f => c (by have := f.1; omega))]
    rw [this]
    exact Ev.now _

/-! ### law_FnMeta -/
theorem rd_torn {a b : List Int} (ha : a.length = 512) (hb : b.length = 512) (c : Nat) (hc : c ≤ 512) (i : Nat) (hi : i < 512) : rd (b.take c ++ a.drop c) (i : Int) = if i < c then rd b (i : Int) else rd a (i : Int) := by
  have hl : (b.take c ++ a.drop c).length = 512 := by rw [List.length_append, List.length_take, List.length_drop]; omega
  rw [rd_nat (by omega)]
  by_cases h : i < c
  · rw [if_pos h, rd_nat (by omega), List.getElem_append_left (by rw [List.length_take]; omega), List.getElem_take]
  · rw [if_neg h, rd_nat (by omega), List.getElem_append_right (by rw [List.length_take]; omega), List.getElem_drop]
    congr 1
    rw [List.length_take]
    omega
theorem metaB_split (g r : Int) : metaB g r = ([77] ++ five g ++ [r / 256 % 256, r % 256]) ++ (List.replicate 499 0 ++ five g) := by simp only [metaB, List.append_assoc]
theorem rd_left (A B : List Int) (i : Nat) (h : i < A.length) : rd (A ++ B) (i : Int) = rd A (i : Int) := by
  rw [rd_nat (by rw [List.length_append]; omega), rd_nat h, List.getElem_append_left h]
theorem rd_right (A B : List Int) (i n : Nat) (hn : A.length = n) (h : i < B.length) : rd (A ++ B) ((n + i : Nat) : Int) = rd B (i : Int) := by
  subst hn
  rw [rd_nat (by rw [List.length_append]; omega), rd_nat h, List.getElem_append_right (by omega)]
  congr 1
  omega
theorem metaB_head (g r : Int) (i : Nat) (h : i < 8) : rd (metaB g r) (i : Int) = rd ([77] ++ five g ++ [r / 256 % 256, r % 256]) (i : Int) := by
  rw [metaB_split]
  exact rd_left _ _ i (show i < 8 from h)
theorem metaB_tail (g r : Int) (i : Nat) (h : i < 5) : rd (metaB g r) ((507 + i : Nat) : Int) = rd (five g) (i : Int) := by
  unfold metaB
  exact rd_right _ _ i 507 (by simp only [five, List.length_append, List.length_replicate, List.length_cons, List.length_nil]) (show i < 5 from h)
theorem mgen_of (b : List Int) (g r : Int) (h0 : 0 ≤ g) (h1 : g ≤ 1099511627775) (h : ∀ i : Nat, 1 ≤ i → i < 6 → rd b (i : Int) = rd (metaB g r) (i : Int)) : mgen b = g := by
  have e := fun i h1 h2 => (h i h1 h2).trans (metaB_head g r i (by omega))
  have e1 := e 1 (by omega) (by omega)
  have e2 := e 2 (by omega) (by omega)
  have e3 := e 3 (by omega) (by omega)
  have e4 := e 4 (by omega) (by omega)
  have e5 := e 5 (by omega) (by omega)
  simp only [five, List.cons_append, List.nil_append, rd] at e1 e2 e3 e4 e5
  simp at e1 e2 e3 e4 e5
  unfold mgen rd
  simp
  rw [e1, e2, e3, e4, e5]
  omega
theorem mroot_of (b : List Int) (g r : Int) (h0 : 0 ≤ r) (h1 : r ≤ 399) (h : ∀ i : Nat, 6 ≤ i → i < 8 → rd b (i : Int) = rd (metaB g r) (i : Int)) : mroot b = r := by
  have e := fun i h1 h2 => (h i h1 h2).trans (metaB_head g r i (by omega))
  have e1 := e 6 (by omega) (by omega)
  have e2 := e 7 (by omega) (by omega)
  simp only [five, List.cons_append, List.nil_append, rd] at e1 e2
  simp at e1 e2
  unfold mroot rd
  simp
  rw [e1, e2]
  omega
theorem five_inj {a b : Int} (a0 : 0 ≤ a) (a1 : a ≤ 1099511627775) (b0 : 0 ≤ b) (b1 : b ≤ 1099511627775) (h : ∀ i : Nat, i < 5 → rd (five a) (i : Int) = rd (five b) (i : Int)) : a = b := by
  have e1 := h 0 (by omega)
  have e2 := h 1 (by omega)
  have e3 := h 2 (by omega)
  have e4 := h 3 (by omega)
  have e5 := h 4 (by omega)
  simp [five, rd] at e1 e2 e3 e4 e5
  omega
/-- What a torn meta tells. -/
theorem torn_tells (g a b n : Int) (hg : 1 ≤ g) (hg2 : g ≤ 1099511627773) (ha : 2 ≤ a) (ha2 : a ≤ 399) (hb : 2 ≤ b) (hb2 : b ≤ 399) :
    let t := tearL (metaB g a) (metaB (g + 2) b) n
    (512 ≤ n → metaRead t = (g + 2, b, true)) ∧ (n < 512 → (metaRead t).2.2 = true → (metaRead t).1 = g ∧ (metaRead t).2.1 = a) := by
  intro t
  have la := metaB_len g a
  have lb := metaB_len (g + 2) b
  have ht : t = (metaB (g + 2) b).take (clamp n) ++ (metaB g a).drop (clamp n) := tearL_of la lb n
  have hlt : t.length = 512 := by rw [ht, List.length_append, List.length_take, List.length_drop]; have := clamp_le n; omega
  have hr : ∀ i : Nat, i < 512 → rd t (i : Int) = if i < clamp n then rd (metaB (g + 2) b) (i : Int) else rd (metaB g a) (i : Int) := fun i hi => by rw [ht]; exact rd_torn la lb _ (clamp_le n) i hi
  constructor
  · intro hn
    have hc : clamp n = 512 := by unfold clamp; omega
    have e : t = metaB (g + 2) b := by rw [ht, hc, List.take_of_length_le (by omega), List.drop_of_length_le (by omega), List.append_nil]
    have e1 : mgen t = g + 2 := mgen_of t (g + 2) b (by omega) (by omega) (fun i _ _ => by rw [e])
    have e2 : mroot t = b := mroot_of t (g + 2) b (by omega) (by omega) (fun i _ _ => by rw [e])
    unfold metaRead
    rw [e1, e2, if_pos ⟨hlt, ⟨⟨by omega, by omega⟩, by omega⟩, e.symm⟩]
  · intro hn hok
    have hc : clamp n < 512 := by unfold clamp; omega
    unfold metaRead at hok ⊢
    by_cases c : t.length = 512 ∧ metaOk (mgen t) (mroot t) ∧ metaB (mgen t) (mroot t) = t
    · rw [if_pos c]
      obtain ⟨_, ⟨hG, hR⟩, hB⟩ := c
      have tail : ∀ i : Nat, i < 5 → rd t ((507 + i : Nat) : Int) = rd (five (mgen t)) (i : Int) := fun i hi => by
        have := metaB_tail (mgen t) (mroot t) i hi
        rwa [hB] at this
      by_cases c6 : clamp n < 6
      · have e1 : mgen t = g := five_inj (by omega) (by omega) (by omega) (by omega) (fun i hi => by
          rw [← tail i hi, hr (507 + i) (by omega), if_neg (by omega), metaB_tail g a i hi])
        have e2 : mroot t = a := mroot_of t g a (by omega) (by omega) (fun i h1 h2 => by rw [hr i (by omega), if_neg (by omega)])
        exact ⟨e1, e2⟩
      · exfalso
        have e1 : mgen t = g + 2 := mgen_of t (g + 2) b (by omega) (by omega) (fun i h1 h2 => by rw [hr i (by omega), if_pos (by omega)])
        have e2 := tail 4 (by omega)
        rw [hr (507 + 4) (by omega), if_neg (by omega), metaB_tail g a 4 (by omega), e1] at e2
        simp [five, rd] at e2
        omega
    · rw [if_neg c] at hok
      simp at hok
def ten : List Int := [1, 2, 253, 254, 255, 256, 65534, 65535, 16777214, 1099511627773]
def sixt : List Int := [0, 1, 2, 3, 4, 5, 6, 7, 8, 506, 507, 508, 509, 510, 511, 512]
theorem tens (v : Int) (h0 : 0 ≤ v) (h1 : v < 10) : 1 ≤ rd ten v ∧ rd ten v ≤ 1099511627773 := by
  obtain ⟨n, rfl⟩ := Int.eq_ofNat_of_zero_le h0
  have : n < 10 := by omega
  match n, this with
  | 0, _ => decide
  | 1, _ => decide
  | 2, _ => decide
  | 3, _ => decide
  | 4, _ => decide
  | 5, _ => decide
  | 6, _ => decide
  | 7, _ => decide
  | 8, _ => decide
  | 9, _ => decide
theorem makeMetas_some (l : List Int) (hl : l.length ≤ 140737488351232) : ∃ g a b n : Int, Ev (fun k => spec_MakeMetas.f k l) (g, a, b, n) ∧ (1 ≤ g ∧ g ≤ 1099511627773) ∧ (2 ≤ a ∧ a ≤ 399) ∧ (2 ≤ b ∧ b ≤ 399) := by
  unfold spec_MakeMetas.f
  obtain ⟨h0, e0⟩ := new_some l hl
  obtain ⟨v1, i1, h1, e1, p1, q1, a1⟩ := below_some l hl 0 h0 10 ⟨by omega, by omega⟩ (by omega) (by omega)
  obtain ⟨v2, i2, h2, e2, p2, q2, a2⟩ := below_some l hl i1 h1 514 a1 (by omega) (by omega)
  obtain ⟨v3, i3, h3, e3, p3, q3, a3⟩ := below_some l hl i2 h2 2 a2 (by omega) (by omega)
  have ht := tens v1 p1 q1
  by_cases c : v3 = 0
  · obtain ⟨v4, i4, h4, e4, p4, q4, a4⟩ := below_some l hl i3 h3 16 a3 (by omega) (by omega)
    obtain ⟨v5, i5, h5, e5, p5, q5, a5⟩ := below_some l hl i4 h4 300 a4 (by omega) (by omega)
    obtain ⟨v6, i6, h6, e6, p6, q6, a6⟩ := below_some l hl i5 h5 300 a5 (by omega) (by omega)
    refine ⟨rd ten v1, 2 + v5, 2 + v6, rd sixt v4, Ev.bind e0 (Ev.one ?_), ht, ⟨by omega, by omega⟩, ⟨by omega, by omega⟩⟩
    simp only [Option.bind_some]
    rw [e1]; simp only [Option.bind_some]
    rw [if_pos p1, if_pos (by show v1 < 10; omega), e2]; simp only [Option.bind_some]
    rw [e3]; simp only [Option.bind_some]
    rw [if_pos c, e4]; simp only [Option.bind_some]
    rw [if_pos p4, if_pos (by show v4 < 16; omega), e5]; simp only [Option.bind_some]
    rw [e6]; simp only [Option.bind_some]
    rw [wr (n := 2 + v5) (by omega) (by omega), wr (n := 2 + v6) (by omega) (by omega)]
    rfl
  · obtain ⟨v5, i5, h5, e5, p5, q5, a5⟩ := below_some l hl i3 h3 300 a3 (by omega) (by omega)
    obtain ⟨v6, i6, h6, e6, p6, q6, a6⟩ := below_some l hl i5 h5 300 a5 (by omega) (by omega)
    refine ⟨rd ten v1, 2 + v5, 2 + v6, v2, Ev.bind e0 (Ev.one ?_), ht, ⟨by omega, by omega⟩, ⟨by omega, by omega⟩⟩
    simp only [Option.bind_some]
    rw [e1]; simp only [Option.bind_some]
    rw [if_pos p1, if_pos (by show v1 < 10; omega), e2]; simp only [Option.bind_some]
    rw [e3]; simp only [Option.bind_some]
    rw [if_neg c, e5]; simp only [Option.bind_some]
    rw [e6]; simp only [Option.bind_some]
    rw [wr (n := 2 + v5) (by omega) (by omega), wr (n := 2 + v6) (by omega) (by omega)]
    rfl
theorem FnMeta (l0 : List Int) (g0 : G22 l0) : ∃ k, laws_FnMeta.f k l0 = some true := by
  have hl : l0.length ≤ 140737488351232 := by have := g0.1; omega
  refine Ev.rounds ?_
  unfold laws_FnMeta.f
  by_cases c : (l0.length : Int) > 1048576
  · simp only [if_pos c]; exact Ev.now _
  simp only [if_neg c]
  obtain ⟨g, a, b, n, e, hg, ha, hb⟩ := makeMetas_some l0 hl
  have oa : metaOk g a := ⟨⟨by omega, by omega⟩, by omega⟩
  have ob : metaOk (g + 2) b := ⟨⟨by omega, by omega⟩, by omega⟩
  have ea := impl_MetaBytes_ev g a
  have eb := impl_MetaBytes_ev (g + 2) b
  rw [show metaBytes g a = (metaB g a, true) from if_pos oa] at ea
  rw [show metaBytes (g + 2) b = (metaB (g + 2) b, true) from if_pos ob] at eb
  refine Ev.bind e ?_
  rw [wr (n := g + 2) (by omega) (by omega)]
  refine Ev.bind ea (Ev.bind eb ?_)
  simp only [if_true, Bool.not_true]
  obtain ⟨tt1, tt2⟩ := torn_tells g a b n hg.1 hg.2 ha.1 ha.2 hb.1 hb.2
  have et := impl_Tear_ev (metaB g a) (metaB (g + 2) b) n
  have htb : Byt (tearL (metaB g a) (metaB (g + 2) b) n) := by
    rw [tearL_of (metaB_len _ _) (metaB_len _ _)]
    exact Byt.app (fun x hx => metaB_byt _ _ x (List.mem_of_mem_take hx)) (fun x hx => metaB_byt _ _ x (List.mem_of_mem_drop hx))
  revert tt1 tt2 et htb
  generalize tearL (metaB g a) (metaB (g + 2) b) n = t
  intro tt1 tt2 et htb
  refine Ev.step (f := fun k => _) (fun k => by simp only [laws_FnMeta.j0]; rfl) ?_
  simp only [Bool.false_eq_true, if_false]
  have hr := impl_MetaRead_ev t htb
  revert tt1 tt2 hr
  generalize metaRead t = m
  obtain ⟨m1, m2, m3⟩ := m
  intro tt1 tt2 hr
  refine Ev.bind et (Ev.bind hr (Ev.one ?_))
  simp only
  rw [wr (n := g + 2) (by omega) (by omega)]
  by_cases hn : n ≥ 512
  · have := tt1 hn
    simp only [Prod.mk.injEq] at this
    obtain ⟨rfl, rfl, rfl⟩ := this
    rw [if_pos hn, if_pos rfl, if_pos rfl, beq_self_eq_true]
  · rw [if_neg hn]
    cases m3 with
    | false => rfl
    | true =>
      obtain ⟨rfl, rfl⟩ := tt2 (by omega) rfl
      rw [if_pos rfl, if_pos rfl, beq_self_eq_true]

end Go.Proofs.Ytnleeeccpepekaa.Pure
