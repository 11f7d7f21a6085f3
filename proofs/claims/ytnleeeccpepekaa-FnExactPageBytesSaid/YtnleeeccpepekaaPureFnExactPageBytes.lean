/- The pure statement of FnExactPageBytes: what the printed functions of this law compute answers true, for every argument within the bounds that the statement names. -/
import Derived.Test.YtnleeeccpepekaaPFnExactPageBytesx8
import Derived.Test.YtnleeeccpepekaaLib
import Derived.Test.YtnleeeccpepekaaLibOrd
import Derived.Test.YtnleeeccpepekaaLibOpen
import Derived.Test.YtnleeeccpepekaaLibRun
import Derived.Test.YtnleeeccpepekaaLibVar
import Derived.Test.YtnleeeccpepekaaLibMark
namespace Go.Proofs.Ytnleeeccpepekaa.Pure
open Go Go.RowKit Go.Proofs.Ytnleeeccpepekaa.PFnExactPageBytes Go.Proofs.YtnleeeccpepekaaW.PrintWords Go.Proofs.YtnleeeccpepekaaW.PrintLast Go.Proofs.YtnleeeccpepekaaW.PrintMore Go.Proofs.Ytnleeeccpepekaa.Lib
set_option linter.unusedVariables false
set_option linter.unusedSimpArgs false

def G9 (s : ByteArray) : Prop := s.size ≤ 140737488351232
def G40 (xs : List (ByteArray)) : Prop := xs.length * 16 ≤ 140737488351232 ∧ ∀ x ∈ xs, G9 x
def G3 (x : Int) : Prop := (Lit.int .i64 x).wf = true
def G41 (xs : List (Int)) : Prop := xs.length * 8 ≤ 140737488351232 ∧ ∀ x ∈ xs, G3 x
def G43 (x : (List (ByteArray)) × (List (ByteArray)) × (List (Int))) : Prop := G40 x.1 ∧ G40 x.2.1 ∧ G41 x.2.2

/-! ### within -/
theorem within_eq (x lo hi : Int) : impl_within.f x lo hi = some (decide (lo ≤ x ∧ x ≤ hi)) := by
  unfold impl_within.f
  by_cases h : x ≥ lo
  · rw [if_pos h]; simp [h]
  · rw [if_neg h]; simp; omega

/-! ### keyOk -/
def keyP (s : ByteArray) : Prop := 1 ≤ s.size ∧ s.size ≤ 16
instance (s : ByteArray) : Decidable (keyP s) := inferInstanceAs (Decidable (_ ∧ _))
theorem spec_KeyOk_eq (s : ByteArray) : spec_KeyOk.f s = some (decide (keyP s)) := by
  unfold spec_KeyOk.f
  by_cases h : (s.size : Int) ≥ 1
  · rw [if_pos h]; exact sd (by unfold keyP; omega)
  · rw [if_neg h]; exact sdf (by unfold keyP; omega)
theorem impl_KeyOk_eq (s : ByteArray) : impl_KeyOk.f s = some (decide (keyP s)) := by
  unfold impl_KeyOk.f; rw [within_eq]; simp only [Option.bind_some]; exact sd (by unfold keyP; omega)

/-! ### stepOk -/
def keyAt (l : List ByteArray) (j : Nat) : ByteArray := l.getD j ByteArray.empty
/-- The key at j is right, and stands behind the one ahead of it. -/
def stepOk (l : List ByteArray) (j : Nat) : Prop := keyP (keyAt l j) ∧ (0 < j → Op.bytesLess (keyAt l (j - 1)).toList (keyAt l j).toList = true)

/-! ### valOk -/
def valP (s : ByteArray) : Prop := s.size ≤ 60
instance (s : ByteArray) : Decidable (valP s) := inferInstanceAs (Decidable (_ ≤ _))
theorem spec_ValOk_eq (s : ByteArray) : spec_ValOk.f s = some (decide (valP s)) := sd (by unfold valP; omega)
theorem impl_ValOk_eq (s : ByteArray) : impl_ValOk.f s = some (decide (valP s)) := sd (by unfold valP; omega)

/-! ### pageOk -/
def kidP (n : Int) : Prop := 2 ≤ n ∧ n ≤ 399
instance (n : Int) : Decidable (kidP n) := inferInstanceAs (Decidable (_ ∧ _))
def pageOk (ks vs : List ByteArray) (cs : List Int) : Prop := (∀ j, j < ks.length → stepOk ks j) ∧
  ((cs.length = 0 ∧ (∀ j, j < vs.length → valP (keyAt vs j)) ∧ 1 ≤ ks.length ∧ ks.length ≤ 4 ∧ vs.length = ks.length) ∨
   (cs.length ≠ 0 ∧ (∀ j : Nat, j < cs.length → kidP (rd cs (j : Int))) ∧ 2 ≤ cs.length ∧ cs.length ≤ 4 ∧ ks.length + 1 = cs.length ∧ vs.length = 0))
set_option linter.unusedSectionVars false
section
variable (ks vs : List ByteArray) (cs : List Int) (hk : ks.length ≤ 8796093021952) (hv : vs.length ≤ 8796093021952) (hc : cs.length ≤ 17592186044032)
include hk hv hc
theorem spec_page_l2 : Ev (fun k => spec_PageOk.l2 k cs (cs.length : Int) 0 ks vs cs) (dec (∀ j : Nat, j < cs.length → kidP (rd cs (j : Int))) && dec (2 ≤ cs.length ∧ cs.length ≤ 4 ∧ ks.length + 1 = cs.length ∧ vs.length = 0)) := by
  refine loop_dec0 (F := fun k i => spec_PageOk.l2 k cs (cs.length : Int) i ks vs cs) (Ev.step1 fun k => ?_) (fun i hi c k => ?_) (fun i hi c k => ?_)
  · simp only [spec_PageOk.l2]
    rw [if_neg (by omega), wr (by omega) (by omega)]
    by_cases c1 : (cs.length : Int) ≥ 2
    · rw [if_pos c1]
      by_cases c2 : (cs.length : Int) ≤ 4
      · rw [if_pos c2]
        by_cases c3 : (ks.length : Int) = (cs.length : Int) - 1
        · rw [if_pos c3]; exact congrArg some ((beq_dec _ _).trans (dec_eq (by omega)))
        · rw [if_neg c3, dec_f (by omega)]
      · rw [if_neg c2, dec_f (by omega)]
    · rw [if_neg c1, dec_f (by omega)]
  · simp only [spec_PageOk.l2]
    unfold kidP at c
    rw [if_pos (by omega), if_pos (by omega), if_pos (by omega), if_neg (by omega), if_neg (by omega), wrS (by omega)]
  · simp only [spec_PageOk.l2]
    unfold kidP at c
    rw [if_pos (by omega), if_pos (by omega), if_pos (by omega)]
    by_cases c1 : rd cs (i : Int) < 2
    · rw [if_pos c1]
    · rw [if_neg c1, if_pos (by omega)]
theorem spec_page_l1 : Ev (fun k => spec_PageOk.l1 k vs (vs.length : Int) 0 ks vs cs) (dec (∀ j, j < vs.length → valP (keyAt vs j)) && dec (1 ≤ ks.length ∧ ks.length ≤ 4 ∧ vs.length = ks.length)) := by
  refine loop_dec0 (F := fun k i => spec_PageOk.l1 k vs (vs.length : Int) i ks vs cs) (Ev.step1 fun k => ?_) (fun i hi c k => ?_) (fun i hi c k => ?_)
  · simp only [spec_PageOk.l1]
    rw [if_neg (by omega)]
    by_cases c1 : (ks.length : Int) ≥ 1
    · rw [if_pos c1]
      by_cases c2 : (ks.length : Int) ≤ 4
      · rw [if_pos c2]; exact congrArg some ((beq_dec _ _).trans (dec_eq (by omega)))
      · rw [if_neg c2, dec_f (by omega)]
    · rw [if_neg c1, dec_f (by omega)]
  · simp only [spec_PageOk.l1]
    rw [if_pos (by omega), if_pos (by omega), if_pos (by omega), rdOf_nat, show vs.getD i ByteArray.empty = keyAt vs i from rfl, spec_ValOk_eq]
    simp only [Option.bind_some]
    rw [if_pos (decide_eq_true c), wrS (by omega)]
  · simp only [spec_PageOk.l1]
    rw [if_pos (by omega), if_pos (by omega), if_pos (by omega), rdOf_nat, show vs.getD i ByteArray.empty = keyAt vs i from rfl, spec_ValOk_eq]
    simp only [Option.bind_some]
    rw [if_neg (fun e => c (of_decide_eq_true e))]
theorem spec_PageOk_ev : Ev (fun k => spec_PageOk.f k ks vs cs) (dec (pageOk ks vs cs)) := by
  unfold spec_PageOk.f
  have e : dec (pageOk ks vs cs) = (dec (∀ j, j < ks.length → stepOk ks j) && dec ((cs.length = 0 ∧ (∀ j, j < vs.length → valP (keyAt vs j)) ∧ 1 ≤ ks.length ∧ ks.length ≤ 4 ∧ vs.length = ks.length) ∨
   (cs.length ≠ 0 ∧ (∀ j : Nat, j < cs.length → kidP (rd cs (j : Int))) ∧ 2 ≤ cs.length ∧ cs.length ≤ 4 ∧ ks.length + 1 = cs.length ∧ vs.length = 0))) := by rw [and_dec]; rfl
  rw [e]
  refine loop_dec0 (F := fun k i => spec_PageOk.l0 k ks (ks.length : Int) i ks vs cs) ?_ (fun i hi c k => ?_) (fun i hi c k => ?_)
  · by_cases c : cs.length = 0
    · have h := spec_page_l1 ks vs cs hk hv hc
      rw [and_dec] at h
      rw [dec_eq (p := _ ∨ _) (q := (∀ j, j < vs.length → valP (keyAt vs j)) ∧ 1 ≤ ks.length ∧ ks.length ≤ 4 ∧ vs.length = ks.length) ⟨fun f => f.elim (fun g => g.2) (fun g => absurd c g.1), fun f => Or.inl ⟨c, f⟩⟩]
      refine Ev.step (fun k => ?_) h
      simp only [spec_PageOk.l0]
      rw [if_neg (by omega), if_pos (by omega)]
    · have h := spec_page_l2 ks vs cs hk hv hc
      rw [and_dec] at h
      rw [dec_eq (p := _ ∨ _) (q := (∀ j : Nat, j < cs.length → kidP (rd cs (j : Int))) ∧ 2 ≤ cs.length ∧ cs.length ≤ 4 ∧ ks.length + 1 = cs.length ∧ vs.length = 0) ⟨fun f => f.elim (fun g => absurd g.1 c) (fun g => g.2), fun f => Or.inr ⟨c, f⟩⟩]
      refine Ev.step (fun k => ?_) h
      simp only [spec_PageOk.l0]
      rw [if_neg (by omega), if_neg (by omega)]
  · simp only [spec_PageOk.l0]
    rw [if_pos (by omega), if_pos (by omega), if_pos (by omega), rdOf_nat, show ks.getD i ByteArray.empty = keyAt ks i from rfl, spec_KeyOk_eq]
    simp only [Option.bind_some]
    rw [if_pos (decide_eq_true c.1)]
    by_cases h0 : (i : Int) > 0
    · have hk2 : rdOf ByteArray.empty ks ((i - 1 : Nat) : Int) = keyAt ks (i - 1) := rdOf_nat _ _ _
      rw [if_pos h0, wrP (by omega) (by omega), if_pos (by omega), if_pos (by omega), hk2, if_pos (c.2 (by omega)), wrS (by omega)]
    · rw [if_neg h0, wrS (by omega)]
  · simp only [spec_PageOk.l0]
    rw [if_pos (by omega), if_pos (by omega), if_pos (by omega), rdOf_nat, show ks.getD i ByteArray.empty = keyAt ks i from rfl, spec_KeyOk_eq]
    simp only [Option.bind_some]
    by_cases c1 : keyP (keyAt ks i)
    · rw [if_pos (decide_eq_true c1)]
      have h0 : 0 < i := by
        rcases Nat.eq_zero_or_pos i with h0 | h0
        · exact absurd ⟨c1, fun h => by omega⟩ c
        · exact h0
      have hk2 : rdOf ByteArray.empty ks ((i - 1 : Nat) : Int) = keyAt ks (i - 1) := rdOf_nat _ _ _
      rw [if_pos (by omega), wrP (by omega) (by omega), if_pos (by omega), if_pos (by omega), hk2, if_neg (fun e => c ⟨c1, fun _ => e⟩)]
    · rw [if_neg (fun e => c1 (of_decide_eq_true e))]
theorem impl_page_l2 : Ev (fun k => impl_PageOk.l2 k cs (cs.length : Int) 0 ks vs cs) (dec (∀ j : Nat, j < cs.length → kidP (rd cs (j : Int))) && dec ((cs.length = 0 ∧ 1 ≤ ks.length ∧ ks.length ≤ 4 ∧ vs.length = ks.length) ∨ (cs.length ≠ 0 ∧ 2 ≤ cs.length ∧ cs.length ≤ 4 ∧ ks.length + 1 = cs.length ∧ vs.length = 0))) := by
  refine loop_dec0 (F := fun k i => impl_PageOk.l2 k cs (cs.length : Int) i ks vs cs) (Ev.step1 fun k => ?_) (fun i hi c k => ?_) (fun i hi c k => ?_)
  · simp only [impl_PageOk.l2]
    rw [if_neg (by omega), wr (by omega) (by omega), within_eq, within_eq]
    simp only [Option.bind_some]
    by_cases c0 : (cs.length : Int) = 0
    · rw [if_pos c0]
      by_cases c1 : (1 : Int) ≤ ks.length ∧ (ks.length : Int) ≤ 4
      · rw [if_pos (decide_eq_true c1)]; exact congrArg some ((beq_dec _ _).trans (dec_eq (by omega)))
      · rw [if_neg (fun e => c1 (of_decide_eq_true e)), dec_f (by omega)]
    · rw [if_neg c0]
      by_cases c1 : (2 : Int) ≤ cs.length ∧ (cs.length : Int) ≤ 4
      · rw [if_pos (decide_eq_true c1)]
        by_cases c3 : (ks.length : Int) = (cs.length : Int) - 1
        · rw [if_pos c3]; exact congrArg some ((beq_dec _ _).trans (dec_eq (by omega)))
        · rw [if_neg c3, dec_f (by omega)]
      · rw [if_neg (fun e => c1 (of_decide_eq_true e)), dec_f (by omega)]
  · simp only [impl_PageOk.l2]
    rw [if_pos (by omega), if_pos (by omega), if_pos (by omega), within_eq]
    simp only [Option.bind_some]
    rw [if_pos (decide_eq_true (show 2 ≤ rd cs (i : Int) ∧ rd cs (i : Int) ≤ 399 from c)), wrS (by omega)]
  · simp only [impl_PageOk.l2]
    rw [if_pos (by omega), if_pos (by omega), if_pos (by omega), within_eq]
    simp only [Option.bind_some]
    rw [if_neg (fun e => c (show 2 ≤ rd cs (i : Int) ∧ rd cs (i : Int) ≤ 399 from of_decide_eq_true e))]
theorem impl_page_l1 : Ev (fun k => impl_PageOk.l1 k vs (vs.length : Int) 0 ks vs cs) (dec (∀ j, j < vs.length → valP (keyAt vs j)) && (dec (∀ j : Nat, j < cs.length → kidP (rd cs (j : Int))) && dec ((cs.length = 0 ∧ 1 ≤ ks.length ∧ ks.length ≤ 4 ∧ vs.length = ks.length) ∨ (cs.length ≠ 0 ∧ 2 ≤ cs.length ∧ cs.length ≤ 4 ∧ ks.length + 1 = cs.length ∧ vs.length = 0)))) := by
  refine loop_dec0 (F := fun k i => impl_PageOk.l1 k vs (vs.length : Int) i ks vs cs) (Ev.step (fun k => ?_) (impl_page_l2 ks vs cs hk hv hc)) (fun i hi c k => ?_) (fun i hi c k => ?_)
  · simp only [impl_PageOk.l1]
    rw [if_neg (by omega)]
  · simp only [impl_PageOk.l1]
    rw [if_pos (by omega), if_pos (by omega), if_pos (by omega), rdOf_nat, show vs.getD i ByteArray.empty = keyAt vs i from rfl, impl_ValOk_eq]
    simp only [Option.bind_some]
    rw [if_pos (decide_eq_true c), wrS (by omega)]
  · simp only [impl_PageOk.l1]
    rw [if_pos (by omega), if_pos (by omega), if_pos (by omega), rdOf_nat, show vs.getD i ByteArray.empty = keyAt vs i from rfl, impl_ValOk_eq]
    simp only [Option.bind_some]
    rw [if_neg (fun e => c (of_decide_eq_true e))]
theorem impl_PageOk_ev : Ev (fun k => impl_PageOk.f k ks vs cs) (dec (pageOk ks vs cs)) := by
  unfold impl_PageOk.f
  have e : dec (pageOk ks vs cs) = (dec (∀ j, j < ks.length → stepOk ks j) && (dec (∀ j, j < vs.length → valP (keyAt vs j)) && (dec (∀ j : Nat, j < cs.length → kidP (rd cs (j : Int))) && dec ((cs.length = 0 ∧ 1 ≤ ks.length ∧ ks.length ≤ 4 ∧ vs.length = ks.length) ∨ (cs.length ≠ 0 ∧ 2 ≤ cs.length ∧ cs.length ≤ 4 ∧ ks.length + 1 = cs.length ∧ vs.length = 0))))) := by
    rw [and_dec, and_dec, and_dec]
    refine dec_eq ⟨?_, ?_⟩
    · rintro ⟨h1, h | h⟩
      · exact ⟨h1, h.2.1, fun j hj => by omega, .inl ⟨h.1, h.2.2⟩⟩
      · exact ⟨h1, fun j hj => by omega, h.2.1, .inr ⟨h.1, h.2.2⟩⟩
    · rintro ⟨h1, h2, h3, h | h⟩
      · exact ⟨h1, .inl ⟨h.1, h2, h.2⟩⟩
      · exact ⟨h1, .inr ⟨h.1, h3, h.2⟩⟩
  rw [e]
  refine loop_dec0 (F := fun k i => impl_PageOk.l0 k ks (ks.length : Int) i ks vs cs) (Ev.step (fun k => ?_) (impl_page_l1 ks vs cs hk hv hc)) (fun i hi c k => ?_) (fun i hi c k => ?_)
  · simp only [impl_PageOk.l0]
    rw [if_neg (by omega)]
  · simp only [impl_PageOk.l0]
    rw [if_pos (by omega), if_pos (by omega), if_pos (by omega), rdOf_nat, show ks.getD i ByteArray.empty = keyAt ks i from rfl, impl_KeyOk_eq]
    simp only [Option.bind_some]
    rw [if_pos (decide_eq_true c.1)]
    by_cases h0 : (i : Int) > 0
    · have hk2 : rdOf ByteArray.empty ks ((i - 1 : Nat) : Int) = keyAt ks (i - 1) := rdOf_nat _ _ _
      rw [if_pos h0, wrP (by omega) (by omega), if_pos (by omega), if_pos (by omega), hk2, if_pos (c.2 (by omega)), wrS (by omega)]
    · rw [if_neg h0, wrS (by omega)]
  · simp only [impl_PageOk.l0]
    rw [if_pos (by omega), if_pos (by omega), if_pos (by omega), rdOf_nat, show ks.getD i ByteArray.empty = keyAt ks i from rfl, impl_KeyOk_eq]
    simp only [Option.bind_some]
    by_cases c1 : keyP (keyAt ks i)
    · rw [if_pos (decide_eq_true c1)]
      have h0 : 0 < i := by
        rcases Nat.eq_zero_or_pos i with h0 | h0
        · exact absurd ⟨c1, fun h => by omega⟩ c
        · exact h0
      have hk2 : rdOf ByteArray.empty ks ((i - 1 : Nat) : Int) = keyAt ks (i - 1) := rdOf_nat _ _ _
      rw [if_pos (by omega), wrP (by omega) (by omega), if_pos (by omega), if_pos (by omega), hk2, if_neg (fun e => c ⟨c1, fun _ => e⟩)]
    · rw [if_neg (fun e => c1 (of_decide_eq_true e))]
end

/-! ### fillD -/
def fill (b : List Int) (n : Int) : List Int × Bool := if 0 ≤ n ∧ n ≤ 4096 ∧ (b.length : Int) ≤ n then (b ++ List.replicate (n.toNat - b.length) 0, true) else ([], false)
theorem fill_len (b : List Int) (n : Int) : (fill b n).1.length ≤ 4096 := by
  unfold fill
  split
  · rename_i h; simp; omega
  · simp

/-! ### putVarD -/
def putVar (b : List Int) (n : Int) : List Int × Bool := if (0 ≤ n ∧ n ≤ 1099511627775) ∧ b.length + (enc n.toNat).length ≤ 4096 then (b ++ enc n.toNat, true) else ([], false)

/-! ### putTextD -/
def putText (b : List Int) (s : ByteArray) : List Int × Bool := if b.length + (enc s.size).length + s.size ≤ 4096 then (b ++ enc s.size ++ bytesOf s, true) else ([], false)
theorem putText_len (b : List Int) (s : ByteArray) : (putText b s).1.length ≤ 4096 := by
  unfold putText
  split
  · rename_i h; simp [len_bytesOf]; omega
  · simp

/-! ### pageBytesD -/
def encT (s : ByteArray) : List Int := enc s.size ++ bytesOf s
def pitem (ks vs : List ByteArray) (cs : List Int) (j : Nat) : List Int := if cs.length = 0 then encT (keyAt ks j) ++ encT (keyAt vs j) else encT (keyAt ks j) ++ enc (rd cs ((j + 1 : Nat) : Int)).toNat
def pitems (ks vs : List ByteArray) (cs : List Int) (n : Nat) : List Int := (List.range n).flatMap (pitem ks vs cs)
def phead (ks : List ByteArray) (cs : List Int) : List Int := if cs.length = 0 then [76] ++ enc ks.length else [66] ++ enc ks.length ++ enc (rd cs 0).toNat
noncomputable def pageBytes (ks vs : List ByteArray) (cs : List Int) : List Int × Bool := if dec (pageOk ks vs cs) = true then fill (phead ks cs ++ pitems ks vs cs ks.length) 512 else ([], false)
theorem pitems_succ (ks vs : List ByteArray) (cs : List Int) (n : Nat) : pitems ks vs cs (n + 1) = pitems ks vs cs n ++ pitem ks vs cs n := by simp [pitems, List.range_succ]
theorem pitems_zero (ks vs : List ByteArray) (cs : List Int) : pitems ks vs cs 0 = [] := rfl
theorem encT_len (s : ByteArray) (h : s.size ≤ 60) : (encT s).length ≤ 61 := by
  unfold encT
  rw [List.length_append, len_bytesOf, enc_lt (by omega)]
  simp
  omega
theorem encT_byt (s : ByteArray) : Byt (encT s) := (enc_byt _).app (bytesOf_Byt s)
theorem page_few {ks vs : List ByteArray} {cs : List Int} (h : pageOk ks vs cs) : ks.length ≤ 4 ∧ cs.length ≤ 4 ∧ vs.length ≤ 4 := by
  rcases h.2 with h | h
  · exact ⟨h.2.2.2.1, by omega, by omega⟩
  · exact ⟨by omega, by omega, by omega⟩
theorem page_key {ks vs : List ByteArray} {cs : List Int} (h : pageOk ks vs cs) {j : Nat} (hj : j < ks.length) : 1 ≤ (keyAt ks j).size ∧ (keyAt ks j).size ≤ 16 := by
  have := (h.1 j hj).1
  unfold keyP at this
  omega
theorem page_val {ks vs : List ByteArray} {cs : List Int} (h : pageOk ks vs cs) (hc : cs.length = 0) {j : Nat} (hj : j < ks.length) : j < vs.length ∧ (keyAt vs j).size ≤ 60 := by
  rcases h.2 with h | h
  · refine ⟨by omega, ?_⟩
    have := h.2.1 j (by omega)
    unfold valP at this
    omega
  · exact absurd hc h.1
theorem page_kid {ks vs : List ByteArray} {cs : List Int} (h : pageOk ks vs cs) (hc : cs.length ≠ 0) {j : Nat} (hj : j ≤ ks.length) : j < cs.length ∧ 2 ≤ rd cs (j : Int) ∧ rd cs (j : Int) ≤ 399 := by
  rcases h.2 with h | h
  · exact absurd h.1 hc
  · have hl : j < cs.length := by omega
    exact ⟨hl, h.2.1 j hl⟩
theorem enc_399 {n : Int} (h : n ≤ 399) : (enc n.toNat).length ≤ 2 := enc_le 1 n.toNat (by omega)
theorem pitem_len {ks vs : List ByteArray} {cs : List Int} (h : pageOk ks vs cs) {j : Nat} (hj : j < ks.length) : (pitem ks vs cs j).length ≤ 122 := by
  have hk := encT_len (keyAt ks j) (by have := page_key h hj; omega)
  unfold pitem
  split
  · rename_i hc
    have := encT_len (keyAt vs j) (page_val h hc hj).2
    rw [List.length_append]; omega
  · rename_i hc
    have := enc_399 (page_kid h hc (j := j + 1) (by omega)).2.2
    rw [List.length_append]; omega
theorem pitems_len {ks vs : List ByteArray} {cs : List Int} (h : pageOk ks vs cs) : ∀ n, n ≤ ks.length → (pitems ks vs cs n).length ≤ 122 * n := by
  intro n
  induction n with
  | zero => intro _; simp [pitems]
  | succ n ih =>
    intro hn
    have := ih (by omega)
    have := pitem_len h (j := n) (by omega)
    rw [pitems_succ, List.length_append]
    omega
theorem phead_len {ks vs : List ByteArray} {cs : List Int} (h : pageOk ks vs cs) : (phead ks cs).length ≤ 4 := by
  have := page_few h
  unfold phead
  rw [enc_lt (n := ks.length) (by omega)]
  split
  · simp
  · rename_i hc
    have := enc_399 (page_kid h hc (j := 0) (by omega)).2.2
    simp at this ⊢
    omega
theorem pb_len {ks vs : List ByteArray} {cs : List Int} (h : pageOk ks vs cs) {n : Nat} (hn : n ≤ ks.length) : (phead ks cs ++ pitems ks vs cs n).length ≤ 492 := by
  have := phead_len h
  have := pitems_len h n hn
  have := page_few h
  rw [List.length_append]
  omega
theorem pageBytes_len (ks vs : List ByteArray) (cs : List Int) : (pageBytes ks vs cs).1.length ≤ 4096 := by
  unfold pageBytes
  split
  · exact fill_len _ _
  · simp

/-! ### l01Num -/
theorem l01Num_eq (n : Int) : spec_l01Num.f n = some (decide (0 ≤ n ∧ n ≤ 1099511627775)) := by
  unfold spec_l01Num.f
  by_cases h : n ≥ 0
  · rw [if_pos h]; simp [h]
  · rw [if_neg h]; simp; omega

/-! ### putVar -/
theorem spec_PutVar_l0 (m : Nat) : ∀ acc : List Int, acc.length + (enc m).length ≤ 140737488355000 → m ≤ 1099511627775 →
    Ev (fun k => spec_PutVar.l0 k (m : Int) acc) (if acc.length + (enc m).length ≤ 4096 then (acc ++ enc m, true) else ([], false)) := by
  induction m using Nat.strongRecOn with
  | _ m ih =>
    intro acc ha hm
    by_cases h : m < 128
    · refine Ev.step1 fun k => ?_
      simp only [spec_PutVar.l0]
      rw [enc_lt h] at ha ⊢
      simp at ha
      rw [if_neg (by omega), if_pos (by omega)]
      simp only [Option.bind_some]
      rw [show (m : Int) % 256 = m by omega]
      by_cases c : acc.length + [(m : Int)].length ≤ 4096
      · rw [if_pos c, if_neg (by simp at c ⊢; omega)]
      · rw [if_neg c, if_pos (by simp at c ⊢; omega)]
    · refine Ev.step (f := fun k => spec_PutVar.l0 k ((m / 128 : Nat) : Int) (acc ++ [((m % 128 + 128 : Nat) : Int)])) (fun k => ?_) ?_
      · simp only [spec_PutVar.l0]
        rw [enc_ge h] at ha
        simp at ha
        rw [if_pos (by omega), if_pos (by omega), show (128 : Int) = ((128 : Nat) : Int) from rfl, tdiv_nat, tmod_nat, wr (n := ((128 : Nat) : Int) + _) (by omega) (by omega), wr (by omega) (by omega), show (((128 : Nat) : Int) + ((m % 128 : Nat) : Int)) % 256 = ((m % 128 + 128 : Nat) : Int) by omega]
      · rw [enc_ge h] at ha ⊢
        simp at ha
        have := ih (m / 128) (by omega) (acc ++ [((m % 128 + 128 : Nat) : Int)]) (by simp; omega) (by omega)
        rw [List.append_assoc] at this
        rw [show acc.length + (((m % 128 + 128 : Nat) : Int) :: enc (m / 128)).length = (acc ++ [((m % 128 + 128 : Nat) : Int)]).length + (enc (m / 128)).length by simp; omega]
        exact this
theorem spec_PutVar_ev (b : List Int) (n : Int) (h : b.length ≤ 140737488351232) : Ev (fun k => spec_PutVar.f k b n) (putVar b n) := by
  unfold spec_PutVar.f putVar
  rw [l01Num_eq]
  simp only [Option.bind_some, decide_eq_true_eq, List.nil_append, List.length_nil]
  by_cases c : 0 ≤ n ∧ n ≤ 1099511627775
  · simp only [if_pos c, if_pos (show 0 + b.length < 140737488355328 by omega)]
    have he := enc_six (n := n.toNat) (by omega)
    have := spec_PutVar_l0 n.toNat b (by omega) (by omega)
    rw [Int.toNat_of_nonneg c.1] at this
    by_cases c2 : b.length + (enc n.toNat).length ≤ 4096
    · rw [if_pos c2] at this; rw [if_pos ⟨c, c2⟩]; exact this
    · rw [if_neg c2] at this; rw [if_neg (fun f => c2 f.2)]; exact this
  · simp only [if_neg c]; rw [if_neg (fun f => c f.1)]; exact Ev.now _

/-! ### specPutText -/
theorem spec_PutText_ev (b : List Int) (s : ByteArray) (h : b.length ≤ 140737488351232) (hs : s.size ≤ 140737488351232) : Ev (fun k => spec_PutText.f k b s) (putText b s) := by
  unfold spec_PutText.f
  refine Ev.bind (spec_PutVar_ev b (s.size : Int) h) ?_
  unfold putVar putText
  rw [Int.toNat_natCast]
  by_cases c : (0 ≤ (s.size : Int) ∧ (s.size : Int) ≤ 1099511627775) ∧ b.length + (enc s.size).length ≤ 4096
  · simp only [if_pos c, if_true]
    simp only [wr (n := (4096 : Int) - ((b ++ enc s.size).length : Int)) (by rw [List.length_append]; omega) (by omega)]
    by_cases c2 : (s.size : Int) > 4096 - ((b ++ enc s.size).length : Int)
    · simp only [if_pos c2]
      rw [if_neg (by rw [List.length_append] at c2; omega)]
      exact Ev.now _
    · simp only [if_neg c2]
      have c3 := c2
      rw [List.length_append] at c3
      refine Ev.one ?_
      rw [if_pos (by omega)]
      simp only [Option.bind_some]
      rw [if_pos (by rw [List.length_append, len_bytesOf]; omega), if_pos (by omega)]
  · simp only [if_neg c, Bool.false_eq_true, if_false]
    rw [if_neg (by omega)]
    exact Ev.now _

/-! ### specFill -/
theorem spec_Fill_eq (b : List Int) (n : Int) : spec_Fill.f b n = some (fill b n) := by
  unfold spec_Fill.f fill
  by_cases c1 : n < 0
  · rw [if_pos c1, if_neg (by omega)]
  rw [if_neg c1]
  by_cases c2 : n > 4096
  · rw [if_pos c2, if_neg (by omega)]
  rw [if_neg c2]
  by_cases c3 : (b.length : Int) > n
  · rw [if_pos c3, if_neg (by omega)]
  rw [if_neg c3, if_pos (by omega)]
  simp only [Option.bind_some, List.nil_append, List.length_nil, Nat.zero_add]
  have e : (n - (b.length : Int)).toNat = n.toNat - b.length := by omega
  rw [if_pos (by omega), wr (by omega) (by omega), if_pos (by omega), if_pos (by omega), e]

/-! ### specPageBytes -/
theorem spv {b : List Int} {n : Int} (hn : 0 ≤ n) (hn2 : n ≤ 399) (hb : b.length ≤ 1000) : Ev (fun k => spec_PutVar.f k b n) (b ++ enc n.toNat, true) := by
  have := spec_PutVar_ev b n (by omega)
  unfold putVar at this
  rwa [if_pos ⟨⟨by omega, by omega⟩, by have := enc_399 hn2; omega⟩] at this
theorem spt {b : List Int} {s : ByteArray} (hs : s.size ≤ 60) (hb : b.length ≤ 1000) : Ev (fun k => spec_PutText.f k b s) (b ++ encT s, true) := by
  have := spec_PutText_ev b s (by omega) (by omega)
  unfold putText at this
  rwa [if_pos (by have := enc_le 0 s.size (by omega); omega), List.append_assoc] at this
theorem spec_pb_l0 {ks vs : List ByteArray} {cs : List Int} (h : pageOk ks vs cs) (d : Nat) : ∀ i : Nat, i + d = ks.length →
    Ev (fun k => spec_PageBytes.l0 k (phead ks cs ++ pitems ks vs cs i) ks (ks.length : Int) (i : Int) ks vs cs) (fill (phead ks cs ++ pitems ks vs cs ks.length) 512) := by
  have hf := page_few h
  induction d with
  | zero =>
    intro i hi
    refine Ev.step1 fun k => ?_
    simp only [spec_PageBytes.l0]
    rw [if_neg (by omega), spec_Fill_eq, show i = ks.length by omega]
    rfl
  | succ d ih =>
    intro i hi
    have hb := pb_len h (n := i) (by omega)
    have hk := page_key h (j := i) (by omega)
    have e1 := spt (b := phead ks cs ++ pitems ks vs cs i) (s := keyAt ks i) (by omega) (by omega)
    have hb1 : (phead ks cs ++ pitems ks vs cs i ++ encT (keyAt ks i)).length ≤ 560 := by rw [List.length_append]; have := encT_len (keyAt ks i) (by omega); omega
    have next := ih (i + 1) (by omega)
    rw [pitems_succ, ← List.append_assoc] at next
    by_cases c : cs.length = 0
    · have hv := page_val h c (j := i) (by omega)
      have e2 := spt (b := phead ks cs ++ pitems ks vs cs i ++ encT (keyAt ks i)) (s := keyAt vs i) hv.2 (by omega)
      rw [show pitem ks vs cs i = encT (keyAt ks i) ++ encT (keyAt vs i) from if_pos c, ← List.append_assoc] at next
      refine Ev.step (f := fun k => (spec_PutText.f k (phead ks cs ++ pitems ks vs cs i) (keyAt ks i)).bind fun t => (spec_PutText.f k t.1 (keyAt vs i)).bind fun t2 => spec_PageBytes.l0 k t2.1 ks (ks.length : Int) ((i + 1 : Nat) : Int) ks vs cs) (fun k => ?_) (Ev.bind e1 (Ev.bind e2 next))
      simp only [spec_PageBytes.l0]
      rw [if_pos (by omega), if_pos (by omega), if_pos (by omega), rdOf_nat, rdOf_nat, wrS (by omega)]
      simp only [if_neg (show ¬ ((cs.length : Int) > 0) by omega), if_pos (show (i : Int) < (vs.length : Int) by omega)]
      rfl
    · have hv := page_kid h c (j := i + 1) (by omega)
      have e2 := spv (b := phead ks cs ++ pitems ks vs cs i ++ encT (keyAt ks i)) (n := rd cs ((i + 1 : Nat) : Int)) (by omega) hv.2.2 (by omega)
      rw [show pitem ks vs cs i = encT (keyAt ks i) ++ enc (rd cs ((i + 1 : Nat) : Int)).toNat from if_neg c, ← List.append_assoc] at next
      refine Ev.step (f := fun k => (spec_PutText.f k (phead ks cs ++ pitems ks vs cs i) (keyAt ks i)).bind fun t => (spec_PutVar.f k t.1 (rd cs ((i + 1 : Nat) : Int))).bind fun t2 => spec_PageBytes.l0 k t2.1 ks (ks.length : Int) ((i + 1 : Nat) : Int) ks vs cs) (fun k => ?_) (Ev.bind e1 (Ev.bind e2 next))
      simp only [spec_PageBytes.l0]
      rw [if_pos (by omega), if_pos (by omega), if_pos (by omega), rdOf_nat, wrS (by omega)]
      simp only [if_pos (show (cs.length : Int) > 0 by omega), if_pos (show (0 : Int) ≤ ((i + 1 : Nat) : Int) by omega), if_pos (show ((i + 1 : Nat) : Int) < (cs.length : Int) by omega)]
      rfl
theorem spec_PageBytes_ev (ks vs : List ByteArray) (cs : List Int) (hk : ks.length ≤ 8796093021952) (hv : vs.length ≤ 8796093021952) (hc : cs.length ≤ 17592186044032) : Ev (fun k => spec_PageBytes.f k ks vs cs) (pageBytes ks vs cs) := by
  unfold spec_PageBytes.f pageBytes
  refine Ev.bind (spec_PageOk_ev ks vs cs hk hv hc) ?_
  by_cases c : dec (pageOk ks vs cs) = true
  · simp only [if_pos c, Option.bind_some]
    have h := dec_iff.1 c
    have hf := page_few h
    have fin : Ev (fun k => spec_PageBytes.l0 k (phead ks cs ++ pitems ks vs cs 0) ks (ks.length : Int) 0 ks vs cs) (fill (phead ks cs ++ pitems ks vs cs ks.length) 512) := spec_pb_l0 h ks.length 0 (by omega)
    rw [pitems_zero, List.append_nil] at fin
    by_cases c2 : cs.length = 0
    · simp only [if_neg (show ¬ ((cs.length : Int) > 0) by omega)]
      have e1 := spv (b := [76]) (n := (ks.length : Int)) (by omega) (by omega) (by decide)
      rw [Int.toNat_natCast] at e1
      rw [show ([76] : List Int) ++ enc ks.length = phead ks cs from (if_pos c2).symm] at e1
      refine Ev.step (f := fun k => (spec_PutVar.f k [76] (ks.length : Int)).bind fun t => spec_PageBytes.j1 k t.1 ks vs cs) (fun k => ?_) (Ev.bind e1 (Ev.step (fun k => by simp only [spec_PageBytes.j1]) fin))
      simp only [spec_PageBytes.j0]
      simp only [if_neg (show ¬ ((cs.length : Int) > 0) by omega)]
    · simp only [if_pos (show (cs.length : Int) > 0 by omega), if_pos (show (0 : Int) < (([76] : List Int).length : Int) by decide)]
      have hq := page_kid h c2 (j := 0) (by omega)
      have e1 := spv (b := [66]) (n := (ks.length : Int)) (by omega) (by omega) (by decide)
      rw [Int.toNat_natCast] at e1
      have e2 := spv (b := [66] ++ enc ks.length) (n := rd cs 0) (by have := hq.2.1; simpa using (by omega : (0:Int) ≤ rd cs ((0 : Nat) : Int))) (by simpa using hq.2.2) (by rw [enc_lt (by omega)]; simp)
      rw [show ([66] : List Int) ++ enc ks.length ++ enc (rd cs 0).toNat = phead ks cs from (if_neg c2).symm] at e2
      refine Ev.step (f := fun k => (spec_PutVar.f k [66] (ks.length : Int)).bind fun t => (spec_PutVar.f k t.1 (rd cs 0)).bind fun t2 => spec_PageBytes.j1 k t2.1 ks vs cs) (fun k => ?_) (Ev.bind e1 (Ev.bind e2 (Ev.step (fun k => by simp only [spec_PageBytes.j1]) fin)))
      simp only [spec_PageBytes.j0]
      simp only [if_pos (show (cs.length : Int) > 0 by omega), if_pos (show (0 : Int) < (cs.length : Int) by omega)]
      rfl
  · simp only [if_neg c]
    exact Ev.now _

/-! ### vary -/
theorem vary_l0 (m : Nat) : ∀ acc : List Int, acc.length + (enc m).length ≤ 140737488355000 → m ≤ 9223372036854775807 → Ev (fun k => impl_vary.l0 k acc (m : Int)) (acc ++ enc m) := by
  induction m using Nat.strongRecOn with
  | _ m ih =>
    intro acc ha hm
    by_cases h : m < 128
    · refine Ev.step1 fun k => ?_
      simp only [impl_vary.l0]
      rw [enc_lt h] at ha ⊢
      simp at ha
      rw [if_neg (by omega), if_pos (by omega), show (m : Int) % 256 = m by omega]
    · rw [enc_ge h] at ha ⊢
      simp at ha
      refine Ev.step (f := fun k => impl_vary.l0 k (acc ++ [((m % 128 + 128 : Nat) : Int)]) ((m / 128 : Nat) : Int)) (fun k => ?_) ?_
      · simp only [impl_vary.l0]
        rw [if_pos (by omega), if_pos (by omega), show (128 : Int) = ((128 : Nat) : Int) from rfl, tdiv_nat, tmod_nat, wr (n := ((m % 128 : Nat) : Int) + _) (by omega) (by omega), wr (by omega) (by omega), show (((m % 128 : Nat) : Int) + ((128 : Nat) : Int)) % 256 = ((m % 128 + 128 : Nat) : Int) by omega]
      · have := ih (m / 128) (by omega) (acc ++ [((m % 128 + 128 : Nat) : Int)]) (by simp; omega) (by omega)
        rw [List.append_assoc] at this
        exact this
theorem vary_ev (b : List Int) (n : Nat) (h : b.length + (enc n).length ≤ 140737488355000) (h2 : n ≤ 9223372036854775807) : Ev (fun k => impl_vary.f k b (n : Int)) (b ++ enc n) := vary_l0 n b h h2

/-! ### implFill -/
theorem impl_Fill_eq (b : List Int) (n : Int) : impl_Fill.f b n = some (fill b n) := by
  unfold impl_Fill.f fill
  rw [within_eq]
  simp only [Option.bind_some]
  by_cases c1 : 0 ≤ n ∧ n ≤ 4096
  · rw [if_pos (decide_eq_true c1)]
    by_cases c3 : (b.length : Int) > n
    · rw [if_pos c3, if_neg (by omega)]
    rw [if_neg c3, if_pos (show 0 ≤ n ∧ n ≤ 4096 ∧ (b.length : Int) ≤ n by omega), if_pos (by omega), if_pos (by omega)]
    rw [if_pos (by simp; omega), List.drop_replicate]
  · rw [if_neg (fun e => c1 (of_decide_eq_true e)), if_neg (by omega)]

/-! ### implPageBytes -/
theorem ivy {b : List Int} {n : Int} (hn : 0 ≤ n) (hn2 : n ≤ 399) (hb : b.length ≤ 1000) : Ev (fun k => impl_vary.f k b n) (b ++ enc n.toNat) := by
  have := vary_ev b n.toNat (by have := enc_399 hn2; omega) (by omega)
  rwa [show ((n.toNat : Nat) : Int) = n by omega] at this
theorem itx {b : List Int} {s : ByteArray} (hs : s.size ≤ 60) (hb : b.length ≤ 1000) : Ev (fun k => impl_text.f k b s) (b ++ encT s) := by
  unfold impl_text.f
  have e := vary_ev b s.size (by have := enc_le 0 s.size (by omega); omega) (by omega)
  refine Ev.bind e (Ev.one ?_)
  rw [if_pos (by rw [List.length_append]; have := enc_le 0 s.size (by omega); omega), List.append_assoc]
  rfl
theorem impl_pb_l0 {ks vs : List ByteArray} {cs : List Int} (h : pageOk ks vs cs) (c : cs.length = 0) (d : Nat) : ∀ i : Nat, i + d = ks.length →
    Ev (fun k => impl_PageBytes.l0 k (phead ks cs ++ pitems ks vs cs i) ks (ks.length : Int) (i : Int) ks vs cs) (fill (phead ks cs ++ pitems ks vs cs ks.length) 512) := by
  have hf := page_few h
  induction d with
  | zero =>
    intro i hi
    refine Ev.step1 fun k => ?_
    simp only [impl_PageBytes.l0]
    rw [if_neg (by omega), impl_Fill_eq, show i = ks.length by omega]
    rfl
  | succ d ih =>
    intro i hi
    have hb := pb_len h (n := i) (by omega)
    have hk := page_key h (j := i) (by omega)
    have e1 := itx (b := phead ks cs ++ pitems ks vs cs i) (s := keyAt ks i) (by omega) (by omega)
    have hb1 : (phead ks cs ++ pitems ks vs cs i ++ encT (keyAt ks i)).length ≤ 560 := by rw [List.length_append]; have := encT_len (keyAt ks i) (by omega); omega
    have next := ih (i + 1) (by omega)
    rw [pitems_succ, ← List.append_assoc] at next
    have hv := page_val h c (j := i) (by omega)
    have e2 := itx (b := phead ks cs ++ pitems ks vs cs i ++ encT (keyAt ks i)) (s := keyAt vs i) hv.2 (by omega)
    rw [show pitem ks vs cs i = encT (keyAt ks i) ++ encT (keyAt vs i) from if_pos c, ← List.append_assoc] at next
    refine Ev.step (f := fun k => (impl_text.f k (phead ks cs ++ pitems ks vs cs i) (keyAt ks i)).bind fun t => (impl_text.f k t (keyAt vs i)).bind fun t2 => impl_PageBytes.l0 k t2 ks (ks.length : Int) ((i + 1 : Nat) : Int) ks vs cs) (fun k => ?_) (Ev.bind e1 (Ev.bind e2 next))
    simp only [impl_PageBytes.l0]
    rw [if_pos (by omega), if_pos (by omega), if_pos (by omega), rdOf_nat, rdOf_nat, wrS (by omega)]
    simp only [if_pos (show (i : Int) < (vs.length : Int) by omega)]
    rfl
theorem impl_pb_l1 {ks vs : List ByteArray} {cs : List Int} (h : pageOk ks vs cs) (c : cs.length ≠ 0) (d : Nat) : ∀ i : Nat, i + d = ks.length →
    Ev (fun k => impl_PageBytes.l1 k (phead ks cs ++ pitems ks vs cs i) ks (ks.length : Int) (i : Int) ks vs cs) (fill (phead ks cs ++ pitems ks vs cs ks.length) 512) := by
  have hf := page_few h
  induction d with
  | zero =>
    intro i hi
    refine Ev.step1 fun k => ?_
    simp only [impl_PageBytes.l1]
    rw [if_neg (by omega), impl_Fill_eq, show i = ks.length by omega]
    rfl
  | succ d ih =>
    intro i hi
    have hb := pb_len h (n := i) (by omega)
    have hk := page_key h (j := i) (by omega)
    have e1 := itx (b := phead ks cs ++ pitems ks vs cs i) (s := keyAt ks i) (by omega) (by omega)
    have hb1 : (phead ks cs ++ pitems ks vs cs i ++ encT (keyAt ks i)).length ≤ 560 := by rw [List.length_append]; have := encT_len (keyAt ks i) (by omega); omega
    have next := ih (i + 1) (by omega)
    rw [pitems_succ, ← List.append_assoc] at next
    have hv := page_kid h c (j := i + 1) (by omega)
    have e2 := ivy (b := phead ks cs ++ pitems ks vs cs i ++ encT (keyAt ks i)) (n := rd cs ((i + 1 : Nat) : Int)) (by omega) hv.2.2 (by omega)
    rw [show pitem ks vs cs i = encT (keyAt ks i) ++ enc (rd cs ((i + 1 : Nat) : Int)).toNat from if_neg c, ← List.append_assoc] at next
    refine Ev.step (f := fun k => (impl_text.f k (phead ks cs ++ pitems ks vs cs i) (keyAt ks i)).bind fun t => (impl_vary.f k t (rd cs ((i + 1 : Nat) : Int))).bind fun t2 => impl_PageBytes.l1 k t2 ks (ks.length : Int) ((i + 1 : Nat) : Int) ks vs cs) (fun k => ?_) (Ev.bind e1 (Ev.bind e2 next))
    simp only [impl_PageBytes.l1]
    rw [if_pos (by omega), if_pos (by omega), if_pos (by omega), rdOf_nat, wrS (by omega)]
    simp only [if_pos (show (0 : Int) ≤ ((i + 1 : Nat) : Int) by omega), if_pos (show ((i + 1 : Nat) : Int) < (cs.length : Int) by omega)]
    rfl
theorem impl_PageBytes_ev (ks vs : List ByteArray) (cs : List Int) (hk : ks.length ≤ 8796093021952) (hv : vs.length ≤ 8796093021952) (hc : cs.length ≤ 17592186044032) : Ev (fun k => impl_PageBytes.f k ks vs cs) (pageBytes ks vs cs) := by
  unfold impl_PageBytes.f pageBytes
  refine Ev.bind (impl_PageOk_ev ks vs cs hk hv hc) ?_
  by_cases c : dec (pageOk ks vs cs) = true
  · simp only [if_pos c]
    have h := dec_iff.1 c
    have hf := page_few h
    by_cases c2 : cs.length = 0
    · have fin : Ev (fun k => impl_PageBytes.l0 k (phead ks cs ++ pitems ks vs cs 0) ks (ks.length : Int) 0 ks vs cs) (fill (phead ks cs ++ pitems ks vs cs ks.length) 512) := impl_pb_l0 h c2 ks.length 0 (by omega)
      rw [pitems_zero, List.append_nil] at fin
      simp only [if_pos (show (cs.length : Int) = 0 by omega)]
      have e1 := ivy (b := [76]) (n := (ks.length : Int)) (by omega) (by omega) (by decide)
      rw [Int.toNat_natCast] at e1
      rw [show ([76] : List Int) ++ enc ks.length = phead ks cs from (if_pos c2).symm] at e1
      exact Ev.bind e1 fin
    · have fin : Ev (fun k => impl_PageBytes.l1 k (phead ks cs ++ pitems ks vs cs 0) ks (ks.length : Int) 0 ks vs cs) (fill (phead ks cs ++ pitems ks vs cs ks.length) 512) := impl_pb_l1 h c2 ks.length 0 (by omega)
      rw [pitems_zero, List.append_nil] at fin
      simp only [if_neg (show ¬ ((cs.length : Int) = 0) by omega)]
      have hq := page_kid h c2 (j := 0) (by omega)
      have e1 := ivy (b := [66]) (n := (ks.length : Int)) (by omega) (by omega) (by decide)
      rw [Int.toNat_natCast] at e1
      have e2 := ivy (b := [66] ++ enc ks.length) (n := rd cs 0) (by have := hq.2.1; simpa using (by omega : (0:Int) ≤ rd cs ((0 : Nat) : Int))) (by simpa using hq.2.2) (by rw [enc_lt (by omega)]; simp)
      rw [show ([66] : List Int) ++ enc ks.length ++ enc (rd cs 0).toNat = phead ks cs from (if_neg c2).symm] at e2
      refine Ev.bind e1 ?_
      simp only [if_pos (show (0 : Int) < (cs.length : Int) by omega)]
      exact Ev.bind e2 fin
  · simp only [if_neg c]
    exact Ev.now _

/-! ### stringS -/
theorem toStringS_l0 (l : List ByteArray) (h : l.length ≤ 8796093021952) (d : Nat) : ∀ i : Nat, i + d = l.length →
    Ev (fun k => laws_toStringS.l0 k l (l.take i ++ List.replicate (l.length - i) (⟨#[]⟩ : ByteArray)) (i : Int)) l := by
  induction d with
  | zero =>
    intro i hi
    refine Ev.step1 fun k => ?_
    simp only [laws_toStringS.l0]
    rw [if_neg (by omega), set_last l _ (by omega)]
  | succ d ih =>
    intro i hi
    refine Ev.step (f := fun k => laws_toStringS.l0 k l (l.take (i + 1) ++ List.replicate (l.length - (i + 1)) (⟨#[]⟩ : ByteArray)) ((i + 1 : Nat) : Int)) (fun k => ?_) (ih (i + 1) (by omega))
    simp only [laws_toStringS.l0]
    rw [if_pos (by omega), if_pos (by omega), if_pos (by rw [len_mid _ _ (by omega)]; omega), Int.toNat_natCast, wrS (by omega), rdOf_nat, set_next l _ _ i (by omega) (getD_lt _ _ (by omega))]
theorem toStringS_ev (l : List ByteArray) (h : l.length ≤ 8796093021952) : Ev (fun k => laws_toStringS.f k l) l := by
  unfold laws_toStringS.f
  rw [Int.toNat_natCast]
  simp only [if_pos (show (0 : Int) ≤ l.length by omega), if_pos (show l.length ≤ 17592186044416 by omega)]
  rw [set_first]
  exact toStringS_l0 l h l.length 0 (by omega)
theorem eqStringS_l0 (l : List ByteArray) (h : l.length ≤ 8796093021952) (d : Nat) : ∀ i : Nat, i + d = l.length → Ev (fun k => laws_eqStringS.l0 k l l (i : Int)) true := by
  induction d with
  | zero =>
    intro i hi
    refine Ev.step1 fun k => ?_
    simp only [laws_eqStringS.l0]
    rw [if_neg (by omega)]
  | succ d ih =>
    intro i hi
    refine Ev.step (f := fun k => laws_eqStringS.l0 k l l ((i + 1 : Nat) : Int)) (fun k => ?_) (ih (i + 1) (by omega))
    simp only [laws_eqStringS.l0]
    rw [if_pos (by omega), if_pos (by omega), if_pos (by omega), if_pos trivial, wrS (by omega)]
theorem eqStringS_self (l : List ByteArray) (h : l.length ≤ 8796093021952) : Ev (fun k => laws_eqStringS.f k l l) true := by
  unfold laws_eqStringS.f
  simp only [if_pos trivial]
  exact eqStringS_l0 l h l.length 0 (by omega)
theorem szStringS_l0 (l : List ByteArray) (h : l.length ≤ 8796093021952) (d : Nat) : ∀ (i : Nat) (n : Int), i + d = l.length → ∃ r, Ev (fun k => laws_szStringS.l0 k l n (i : Int)) r := by
  induction d with
  | zero =>
    intro i n hi
    refine ⟨n, Ev.step1 fun k => ?_⟩
    simp only [laws_szStringS.l0]
    rw [if_neg (by omega)]
  | succ d ih =>
    intro i n hi
    by_cases c : wrap64 (n - ((rdOf ByteArray.empty l (i : Int)).size : Int)) < 0
    · refine ⟨-1, Ev.step1 fun k => ?_⟩
      simp only [laws_szStringS.l0]
      rw [if_pos (by omega), if_pos (by omega), if_pos c]
    · obtain ⟨r, hr⟩ := ih (i + 1) (wrap64 (n - ((rdOf ByteArray.empty l (i : Int)).size : Int))) (by omega)
      refine ⟨r, Ev.step (fun k => ?_) hr⟩
      simp only [laws_szStringS.l0]
      rw [if_pos (by omega), if_pos (by omega), if_neg c, wrS (by omega)]
theorem szStringS_some (l : List ByteArray) (h : l.length ≤ 8796093021952) (n : Int) : ∃ r, Ev (fun k => laws_szStringS.f k l n) r := by
  unfold laws_szStringS.f
  by_cases c : wrap64 (n - (l.length : Int)) < 0
  · simp only [if_pos c]; exact ⟨_, Ev.now _⟩
  · simp only [if_neg c]; exact szStringS_l0 l h l.length 0 _ (by omega)

/-! ### intS -/
theorem toIntS_l0 (l : List Int) (h : l.length ≤ 17592186044032) (d : Nat) : ∀ i : Nat, i + d = l.length →
    Ev (fun k => laws_toIntS.l0 k l (l.take i ++ List.replicate (l.length - i) 0) (i : Int)) l := by
  induction d with
  | zero =>
    intro i hi
    refine Ev.step1 fun k => ?_
    simp only [laws_toIntS.l0]
    rw [if_neg (by omega), set_last l 0 (by omega)]
  | succ d ih =>
    intro i hi
    refine Ev.step (f := fun k => laws_toIntS.l0 k l (l.take (i + 1) ++ List.replicate (l.length - (i + 1)) 0) ((i + 1 : Nat) : Int)) (fun k => ?_) (ih (i + 1) (by omega))
    simp only [laws_toIntS.l0]
    rw [if_pos (by omega), if_pos (by omega), if_pos (by rw [len_mid _ _ (by omega)]; omega), Int.toNat_natCast, wrS (by omega), set_next l 0 _ i (by omega) (rd_nat (by omega))]
theorem toIntS_ev (l : List Int) (h : l.length ≤ 17592186044032) : Ev (fun k => laws_toIntS.f k l) l := by
  unfold laws_toIntS.f
  rw [Int.toNat_natCast]
  simp only [if_pos (show (0 : Int) ≤ l.length by omega), if_pos (show l.length ≤ 35184372088832 by omega)]
  rw [set_first]
  exact toIntS_l0 l h l.length 0 (by omega)
theorem eqIntS_l0 (l : List Int) (h : l.length ≤ 17592186044032) (d : Nat) : ∀ i : Nat, i + d = l.length → Ev (fun k => laws_eqIntS.l0 k l l (i : Int)) true := by
  induction d with
  | zero =>
    intro i hi
    refine Ev.step1 fun k => ?_
    simp only [laws_eqIntS.l0]
    rw [if_neg (by omega)]
  | succ d ih =>
    intro i hi
    refine Ev.step (f := fun k => laws_eqIntS.l0 k l l ((i + 1 : Nat) : Int)) (fun k => ?_) (ih (i + 1) (by omega))
    simp only [laws_eqIntS.l0]
    rw [if_pos (by omega), if_pos (by omega), if_pos (by omega), if_pos trivial, wrS (by omega)]
theorem eqIntS_self (l : List Int) (h : l.length ≤ 17592186044032) : Ev (fun k => laws_eqIntS.f k l l) true := by
  unfold laws_eqIntS.f
  simp only [if_pos trivial]
  exact eqIntS_l0 l h l.length 0 (by omega)
theorem szIntS_some (l : List Int) (n : Int) : ∃ r, laws_szIntS.f l n = some r := by
  unfold laws_szIntS.f
  split <;> exact ⟨_, rfl⟩

/-! ### pageS -/
theorem toPage_ev (ks vs : List ByteArray) (cs : List Int) (hk : ks.length ≤ 8796093021952) (hv : vs.length ≤ 8796093021952) (hc : cs.length ≤ 17592186044032) : Ev (fun k => laws_toPage.f k ks vs cs) (ks, vs, cs) := by
  unfold laws_toPage.f
  exact Ev.bind (toStringS_ev ks hk) (Ev.bind (toStringS_ev vs hv) (Ev.bind (toIntS_ev cs hc) (Ev.now _)))
theorem eqPage_self (ks vs : List ByteArray) (cs : List Int) (hk : ks.length ≤ 8796093021952) (hv : vs.length ≤ 8796093021952) (hc : cs.length ≤ 17592186044032) : Ev (fun k => laws_eqPage.f k ks vs cs ks vs cs) true := by
  unfold laws_eqPage.f
  refine Ev.bind (eqStringS_self ks hk) ?_
  simp only [if_true]
  refine Ev.bind (eqStringS_self vs hv) ?_
  simp only [if_true]
  refine Ev.bind (eqIntS_self cs hc) (Ev.one ?_)
  simp only [if_true]
theorem szPage_some (ks vs : List ByteArray) (cs : List Int) (hk : ks.length ≤ 8796093021952) (hv : vs.length ≤ 8796093021952) (n : Int) : ∃ r, Ev (fun k => laws_szPage.f k ks vs cs n) r := by
  unfold laws_szPage.f
  obtain ⟨r1, h1⟩ := szStringS_some ks hk n
  by_cases c1 : r1 < 0
  · refine ⟨-1, Ev.bind h1 ?_⟩
    simp only [if_pos c1]; exact Ev.now _
  obtain ⟨r2, h2⟩ := szStringS_some vs hv r1
  by_cases c2 : r2 < 0
  · refine ⟨-1, Ev.bind h1 ?_⟩
    simp only [if_neg c1]
    refine Ev.bind h2 ?_
    simp only [if_pos c2]; exact Ev.now _
  obtain ⟨r3, h3⟩ := szIntS_some cs r2
  by_cases c3 : r3 < 0
  · refine ⟨-1, Ev.bind h1 ?_⟩
    simp only [if_neg c1]
    refine Ev.bind h2 ?_
    simp only [if_neg c2, h3, Option.bind_some, if_pos c3]
    exact Ev.now _
  · refine ⟨r3, Ev.bind h1 ?_⟩
    simp only [if_neg c1]
    refine Ev.bind h2 ?_
    simp only [if_neg c2, h3, Option.bind_some, if_neg c3]
    exact Ev.now _

/-! ### eqByteS -/
theorem eqByteS_l0 (l : List Int) (h : l.length ≤ 140737488351232) (d : Nat) : ∀ i : Nat, i + d = l.length → Ev (fun k => laws_eqByteS.l0 k l l (i : Int)) true := by
  induction d with
  | zero =>
    intro i hi
    refine Ev.step1 fun k => ?_
    simp only [laws_eqByteS.l0]
    rw [if_neg (by omega)]
  | succ d ih =>
    intro i hi
    refine Ev.step (f := fun k => laws_eqByteS.l0 k l l ((i + 1 : Nat) : Int)) (fun k => ?_) (ih (i + 1) (by omega))
    simp only [laws_eqByteS.l0]
    rw [if_pos (by omega), if_pos (by omega), if_pos (by omega), if_pos trivial, wrS (by omega)]
theorem eqByteS_self (l : List Int) (h : l.length ≤ 140737488351232) : Ev (fun k => laws_eqByteS.f k l l) true := by
  unfold laws_eqByteS.f
  simp only [if_pos trivial]
  exact eqByteS_l0 l h l.length 0 (by omega)

/-! ### markByteS -/
theorem markByteS_l0 (l : List Int) (a : Int) (h : l.length ≤ 140737488351232) (h0 : 0 ≤ a) (h1 : a ≤ 4611686018427387904) (d : Nat) : ∀ i : Nat, i + d = l.length →
    Ev (fun k => laws_markByteS.l0 k (pat a i ++ l.drop i) (a + i) (i : Int)) (a + l.length, pat a l.length) := by
  induction d with
  | zero =>
    intro i hi
    refine Ev.step1 fun k => ?_
    simp only [laws_markByteS.l0]
    rw [if_neg (by rw [pat_drop_len _ _ (by omega)]; omega), List.drop_of_length_le (by omega), List.append_nil, show i = l.length by omega]
  | succ d ih =>
    intro i hi
    refine Ev.step (f := fun k => laws_markByteS.l0 k (pat a (i + 1) ++ l.drop (i + 1)) (a + ((i + 1 : Nat) : Int)) ((i + 1 : Nat) : Int)) (fun k => ?_) (ih (i + 1) (by omega))
    simp only [laws_markByteS.l0]
    rw [if_pos (by rw [pat_drop_len _ _ (by omega)]; omega), if_pos (by omega), Int.toNat_natCast, pat_set (by omega), wrS (by omega), wr (by omega) (by omega), show a + (i : Int) + 1 = a + ((i + 1 : Nat) : Int) by omega]
theorem markByteS_ev (l : List Int) (a : Int) (h : l.length ≤ 140737488351232) (h0 : 0 ≤ a) (h1 : a ≤ 4611686018427387904) :
    Ev (fun k => laws_markByteS.f k l a) (a + l.length, pat a l.length) := by
  unfold laws_markByteS.f
  have := markByteS_l0 l a h h0 h1 l.length 0 (by omega)
  simpa [pat] using this

/-! ### heldByteS -/
theorem heldByteS_l0 (n : Nat) (a : Int) (h : n ≤ 140737488351232) (h0 : 0 ≤ a) (h1 : a ≤ 4611686018427387904) (d : Nat) : ∀ i : Nat, i + d = n →
    Ev (fun k => laws_heldByteS.l0 k (pat a n) (a + i) (i : Int)) (a + n) := by
  induction d with
  | zero =>
    intro i hi
    refine Ev.step1 fun k => ?_
    simp only [laws_heldByteS.l0]
    rw [if_neg (by rw [pat_len]; omega), show i = n by omega]
  | succ d ih =>
    intro i hi
    refine Ev.step (f := fun k => laws_heldByteS.l0 k (pat a n) (a + ((i + 1 : Nat) : Int)) ((i + 1 : Nat) : Int)) (fun k => ?_) (ih (i + 1) (by omega))
    simp only [laws_heldByteS.l0]
    rw [if_pos (by rw [pat_len]; omega), if_pos (by omega), if_pos (rd_pat (by omega)), wrS (by omega), wr (by omega) (by omega), show a + (i : Int) + 1 = a + ((i + 1 : Nat) : Int) by omega]
theorem heldByteS_ev (n : Nat) (a : Int) (h : n ≤ 140737488351232) (h0 : 0 ≤ a) (h1 : a ≤ 4611686018427387904) : Ev (fun k => laws_heldByteS.f k (pat a n) a) (a + n) := by
  unfold laws_heldByteS.f
  have := heldByteS_l0 n a h h0 h1 n 0 (by omega)
  simpa using this

/-! ### markText -/
theorem markText_l0 (n : Nat) : ∀ s : ByteArray, n ≤ 4611686018427387904 → s.size + n ≤ 4611686018427388904 → ∃ r, Ev (fun k => laws_markText.l0 k (n : Int) s) r := by
  induction n using Nat.strongRecOn with
  | _ n ih =>
    intro s h hs
    by_cases c : (n : Int) > 0
    · obtain ⟨r, hr⟩ := ih (n / 10) (by omega) (strOfNums [(wrap64 (48 + (Int.tmod (n : Int) 10))) % 256] ++ s) (by omega) (by rw [ByteArray.size_append, size_son]; simp; omega)
      refine ⟨r, Ev.step (fun k => ?_) hr⟩
      simp only [laws_markText.l0]
      rw [if_pos c]
      simp only [Option.bind_some]
      rw [if_pos (by rw [size_son]; simp; omega), show Int.tdiv (n : Int) 10 = ((n / 10 : Nat) : Int) from tdiv_nat n 10, wr (n := ((n / 10 : Nat) : Int)) (by omega) (by omega)]
    · refine ⟨(⟨#[109]⟩ : ByteArray) ++ s, Ev.step1 fun k => ?_⟩
      simp only [laws_markText.l0]
      rw [if_neg c, if_pos (by omega)]
theorem markText_some (a : Int) (h : a ≤ 4611686018427387904) : ∃ r, Ev (fun k => laws_markText.f k a) r := by
  unfold laws_markText.f
  by_cases c : a ≤ 0
  · simp only [if_pos c]; exact ⟨_, Ev.now _⟩
  · simp only [if_neg c]
    obtain ⟨n, rfl⟩ := Int.eq_ofNat_of_zero_le (show 0 ≤ a by omega)
    exact markText_l0 n _ (by omega) (by show 0 + n ≤ _; omega)
/-- A mark's text. -/
noncomputable def mtx (a : Int) : ByteArray := if h : a ≤ 4611686018427387904 then (markText_some a h).choose else ⟨#[]⟩
theorem markText_ev (a : Int) (h : a ≤ 4611686018427387904) : Ev (fun k => laws_markText.f k a) (mtx a) := by unfold mtx; rw [dif_pos h]; exact (markText_some a h).choose_spec

/-! ### markStringS -/
theorem markStringS_l0 (l : List ByteArray) (a : Int) (h : l.length ≤ 8796093021952) (h0 : 0 ≤ a) (h1 : a ≤ 2305843009213693952) (d : Nat) : ∀ i : Nat, i + d = l.length →
    Ev (fun k => laws_markStringS.l0 k (mks (fun j => mtx (a + j)) i ++ l.drop i) (a + i) (i : Int)) (a + l.length, mks (fun j => mtx (a + j)) l.length) := by
  induction d with
  | zero =>
    intro i hi
    refine Ev.step1 fun k => ?_
    simp only [laws_markStringS.l0]
    rw [if_neg (by rw [mks_drop_len _ _ (by omega)]; omega), show i = l.length by omega, mks_all]
  | succ d ih =>
    intro i hi
    refine Ev.step (f := fun k => (laws_markText.f k (a + i)).bind fun t => laws_markStringS.l0 k (mks (fun j => mtx (a + j)) i ++ t :: l.drop (i + 1)) (a + ((i + 1 : Nat) : Int)) ((i + 1 : Nat) : Int)) (fun k => ?_) (Ev.bind (markText_ev _ (by omega)) ?_)
    · simp only [laws_markStringS.l0]
      rw [if_pos (by rw [mks_drop_len _ _ (by omega)]; omega), wrS (by omega), wr (by omega) (by omega), show a + (i : Int) + 1 = a + ((i + 1 : Nat) : Int) by omega]
      congr 1
      funext t
      rw [if_pos (by omega), Int.toNat_natCast, mks_set _ _ (by omega)]
    · have := ih (i + 1) (by omega)
      rw [← mks_put] at this
      exact this
theorem markStringS_ev (l : List ByteArray) (a : Int) (h : l.length ≤ 8796093021952) (h0 : 0 ≤ a) (h1 : a ≤ 2305843009213693952) :
    Ev (fun k => laws_markStringS.f k l a) (a + l.length, mks (fun j => mtx (a + j)) l.length) := by
  unfold laws_markStringS.f
  have := markStringS_l0 l a h h0 h1 l.length 0 (by omega)
  simpa [mks_zero] using this

/-! ### markIntS -/
theorem markIntS_l0 (l : List Int) (a : Int) (h : l.length ≤ 17592186044032) (h0 : 0 ≤ a) (h1 : a ≤ 2305843009213693952) (d : Nat) : ∀ i : Nat, i + d = l.length →
    Ev (fun k => laws_markIntS.l0 k (mks (fun j => a + (j : Int)) i ++ l.drop i) (a + (i : Int)) (i : Int)) (a + (l.length : Int), mks (fun j => a + (j : Int)) l.length) := by
  induction d with
  | zero =>
    intro i hi
    refine Ev.step1 fun k => ?_
    simp only [laws_markIntS.l0]
    rw [if_neg (by rw [mks_drop_len _ _ (by omega)]; omega), show i = l.length by omega, mks_all]
  | succ d ih =>
    intro i hi
    refine Ev.step (fun k => ?_) (ih (i + 1) (by omega))
    simp only [laws_markIntS.l0]
    rw [if_pos (by rw [mks_drop_len _ _ (by omega)]; omega), if_pos (by omega), Int.toNat_natCast, mks_set _ _ (by omega), mks_put, wrS (by omega), wr (by omega) (by omega), show a + (i : Int) + 1 = a + ((i + 1 : Nat) : Int) by omega]
theorem markIntS_ev (l : List Int) (a : Int) (h : l.length ≤ 17592186044032) (h0 : 0 ≤ a) (h1 : a ≤ 2305843009213693952) :
    Ev (fun k => laws_markIntS.f k l a) (a + l.length, mks (fun j => a + (j : Int)) l.length) := by
  unfold laws_markIntS.f
  have := markIntS_l0 l a h h0 h1 l.length 0 (by omega)
  simpa [mks_zero] using this

/-! ### law_FnExactPageBytes -/
theorem FnExactPageBytes (x0_0 : List (ByteArray)) (x0_1 : List (ByteArray)) (x0_2 : List (Int)) (g0 : G43 (x0_0, x0_1, x0_2)) : ∃ k, laws_FnExactPageBytes.f k x0_0 x0_1 x0_2 = some true := by
  have hk : x0_0.length ≤ 8796093021952 := by have : x0_0.length * 16 ≤ 140737488351232 := g0.1.1; omega
  have hv : x0_1.length ≤ 8796093021952 := by have : x0_1.length * 16 ≤ 140737488351232 := g0.2.1.1; omega
  have hc : x0_2.length ≤ 17592186044032 := by have : x0_2.length * 8 ≤ 140737488351232 := g0.2.2.1; omega
  refine Ev.rounds ?_
  unfold laws_FnExactPageBytes.f
  obtain ⟨r, hr⟩ := szPage_some x0_0 x0_1 x0_2 hk hv 1048576
  have ht := toPage_ev _ _ _ hk hv hc
  have hs := spec_PageBytes_ev _ _ _ hk hv hc
  have hi := impl_PageBytes_ev _ _ _ hk hv hc
  have hp := pageBytes_len x0_0 x0_1 x0_2
  revert hs hi hp
  generalize pageBytes x0_0 x0_1 x0_2 = g
  intro hs hi hp
  have hq := eqByteS_self g.1 (by omega)
  have hm := markByteS_ev g.1 1 (by omega) (by omega) (by omega)
  have hd := heldByteS_ev g.1.length 1 (by omega) (by omega) (by omega)
  have hmp : Ev (fun k => laws_markPage.f k x0_0 x0_1 x0_2 1) (1 + (x0_0.length : Int) + x0_1.length + x0_2.length, mks (fun j => mtx (1 + j)) x0_0.length, mks (fun j => mtx (1 + (x0_0.length : Int) + j)) x0_1.length, mks (fun j => 1 + (x0_0.length : Int) + x0_1.length + (j : Int)) x0_2.length) := by
    unfold laws_markPage.f
    exact Ev.bind (markStringS_ev _ 1 hk (by omega) (by omega)) (Ev.bind (markStringS_ev _ _ hv (by omega) (by omega)) (Ev.bind (markIntS_ev _ _ hc (by omega) (by omega)) (Ev.now _)))
  refine Ev.bind hr ?_
  by_cases c : r < 0
  · simp only [if_pos c]; exact Ev.now _
  simp only [if_neg c]
  refine Ev.bind ht (Ev.bind hs (Ev.bind ht (Ev.bind hi (Ev.bind hq ?_))))
  simp only [if_true, bne_self_eq_false]
  refine Ev.step (f := fun k => _) (fun k => by simp only [laws_FnExactPageBytes.j0]; rfl) ?_
  simp only [Bool.false_eq_true, if_false]
  refine Ev.bind ht (Ev.bind (eqPage_self _ _ _ hk hv hc) ?_)
  simp only [if_true]
  refine Ev.bind hmp ?_
  simp only [if_neg (show ¬ ((1 : Int) + (x0_0.length : Int) + x0_1.length + x0_2.length < 0) by omega)]
  refine Ev.bind hq ?_
  simp only [if_true, bne_self_eq_false]
  refine Ev.step (f := fun k => _) (fun k => by simp only [laws_FnExactPageBytes.j1]; rfl) ?_
  simp only [Bool.false_eq_true, if_false]
  refine Ev.bind hm (Ev.bind hd ?_)
  simp only [if_neg (show ¬ ((1 : Int) + (g.1.length : Int) < 0) by omega), if_true]
  refine Ev.bind ht (Ev.bind hi (Ev.bind hq ?_))
  simp only [if_true, bne_self_eq_false]
  refine Ev.step (f := fun k => _) (fun k => by simp only [laws_FnExactPageBytes.j2]; rfl) ?_
  simp only [Bool.false_eq_true, if_false]
  refine Ev.bind hd (Ev.one ?_)
  rw [if_neg (by omega), if_pos rfl]

end Go.Proofs.Ytnleeeccpepekaa.Pure
