/- Disks that tear: both by the same words. -/
import Derived.Test.YtnnmpdanfeejbaaAbsLf
namespace Go.Proofs.Ytnnmpdanfeejbaa.Abs
open Go Go.Proofs
set_option maxRecDepth 10000
set_option linter.unusedVariables false
set_option linter.unusedSimpArgs false
theorem eB_zeros (n : Nat) : List.replicate n [CV.v (.int .u8 0)] = eB (List.replicate n 0) := by simp [eB]
theorem eB_app (a b : List UInt8) : eB a ++ eB b = eB (a ++ b) := by simp [eB]
theorem eB_take (a : List UInt8) (n : Nat) : (eB a).take n = eB (a.take n) := by simp [eB]
theorem eB_drop (a : List UInt8) (n : Nat) : (eB a).drop n = eB (a.drop n) := by simp [eB]
/-- A sheet's bytes, noughts where there are none. -/
def sheet (b : List UInt8) : List UInt8 := if b = [] then List.replicate 512 0 else b
def tear (a b : List UInt8) (n : Int) : List UInt8 :=
  if (sheet a).length = 512 ∧ (sheet b).length = 512 then (sheet b).take (max 0 (min n 512)).toNat ++ (sheet a).drop (max 0 (min n 512)).toNat else []
theorem tear_len {a b : List UInt8} {n : Int} (ha : Dk.shOk a) (hb : b.length = 512) : (tear a b n).length = 512 := by
  have h1 : (sheet a).length = 512 := by
    unfold sheet
    split
    · simp
    · rename_i h
      rcases ha with ha | ha
      · exact absurd (List.eq_nil_of_length_eq_zero ha) h
      · exact ha
  have h2 : (sheet b).length = 512 := by
    unfold sheet
    split
    · simp
    · exact hb
  rw [tear, if_pos ⟨h1, h2⟩]
  simp [h1, h2]
  omega
theorem l04Sheet_ok (b : List UInt8) (hb : b.length ≤ 2^40) : CallOk Try.prog 165 [] [Rw (eB b)] (fun r out => r = .tu [.sl 1 (sheet b).length, Bo (decide ((sheet b).length = 512))] ∧ out = [some (.rw 5 1 (eB (sheet b)))]) := by
  refine callOk_z (np := 0) {} mixed Try.func165 (by rfl) Try.ntmps165 Try.results165 (by rfl) (Nat.le_of_ble_eq_true rfl) rfl rfl rfl (vc ?_)
  refine brB_intro (fun h => ?_) (fun h => ?_)
  · have h : b = [] := by simpa using h
    subst h
    have e : sheet [] = List.replicate 512 0 := if_pos rfl
    refine endQ_of [(1, 41)] (.tu [.sl 1 (sheet []).length, Bo (decide ((sheet []).length = 512))]) [some (.rw 5 1 (eB (sheet [])))] (by rfl) (vc ?_) (vc ?_) ⟨rfl, rfl⟩
    · rw [e]; simp
    · rw [e, eB_zeros]
  · have h : ¬ b = [] := by simpa using h
    have e : sheet b = b := if_neg h
    rw [e]
    refine ⟨⟨by unfold maxLen; omega, by omega⟩, ?_⟩
    refine endQ_of [(1, 57)] (.tu [.sl 1 b.length, Bo (decide (b.length = 512))]) [some (.rw 5 1 (eB b))] (by rfl) (vc ?_) (vc trivial) ⟨rfl, rfl⟩
    rw [Bool.eq_iff_iff]; simp; omega
theorem specTear_ok (a b : List UInt8) (n : Int) (ha : a.length ≤ 2^40) (hb : b.length ≤ 2^40) : CallOk Try.prog 154 [] [Rw (eB a), Rw (eB b), In n] (fun r out => r = .sl 1 (tear a b n).length ∧ out = [some (.rw 5 1 (eB (tear a b n)))]) := by
  refine callOk_z (np := 0) {} mixed Try.func154 (by rfl) Try.ntmps154 Try.results154 (by rfl) (Nat.le_of_ble_eq_true rfl) rfl rfl rfl (vc ?_)
  refine callq_of false [] (l04Sheet_ok a ha) rfl trivial (vc trivial) ?_
  rintro r out ⟨rfl, rfl⟩
  refine ⟨by simp, by simp, by simp, vc ?_⟩
  refine callq_of false [] (l04Sheet_ok b hb) rfl trivial (vc trivial) ?_
  rintro r out ⟨rfl, rfl⟩
  refine ⟨by simp, by simp, by simp, vc ?_⟩
  have hno : ¬ ((sheet a).length = 512 ∧ (sheet b).length = 512) → ∀ H : Hp, EndQ 0 H .nul (fun r out => r = .sl 1 (tear a b n).length ∧ out = [some (.rw 5 1 (eB (tear a b n)))]) := fun hk H => by
    rw [show tear a b n = [] from if_neg hk]
    exact endQ_of [(1, 0)] (.sl 1 0) [some (.rw 5 1 [])] (by rfl) (vc trivial) (vc trivial) ⟨rfl, rfl⟩
  refine brB_intro (fun h => hno (fun e => by simp [e.1] at h) _) (fun h => brB_intro (fun h' => hno (fun e => by simp [e.2] at h') _) (fun h' => ?_))
  have h1 : (sheet a).length = 512 := by simpa using h
  have h2 : (sheet b).length = 512 := by simpa using h'
  have ht : tear a b n = (sheet b).take (max 0 (min n 512)).toNat ++ (sheet a).drop (max 0 (min n 512)).toNat := if_pos ⟨h1, h2⟩
  clear h h' hno
  have hmix : ∀ i, i ≤ 512 → (eB ((sheet b).take i ++ (sheet a).drop i)).length = 512 := fun i hi => by simp [eB_length, h1, h2]; omega
  refine loopQ_of (fun i => [(2, In n), (7, .sl 1 (sheet a).length), (9, .sl 2 (sheet b).length), (11, In (i : Nat))]) (fun i => [(1, .rw 5 1 (eB ((sheet b).take i ++ (sheet a).drop i))), (2, .rw 5 1 (eB (sheet b)))]) 3 (fun i => 512 - i) (fun i => i ≤ (max 0 (min n 512)).toNat) 0 (Nat.zero_le _) [(1, 17), (2, 73)] (by rfl) (vc trivial) (vc ?_) (fun i hi N hN => vc (brB_intro (fun h => brB_intro (fun h' => ?_) (fun h' => ?_)) (fun h => ?_)))
  · simp
  · have h : i < 512 := by simp at h; omega
    have h' : (i : Int) < n := by simpa using h'
    have hy := List.getElem?_eq_getElem (l := sheet b) (i := i) (by omega)
    have hx := List.getElem?_eq_getElem (l := sheet a) (i := i) (by omega)
    refine ⟨⟨by omega, by omega⟩, ?_⟩
    rw [eB_some hy]
    refine vc ?_
    have hl : ((sheet b).take i ++ (sheet a).drop i).length = 512 := by simp [h1, h2]; omega
    refine ⟨⟨by omega, by omega⟩, ?_⟩
    have hg : (eB ((sheet b).take i ++ (sheet a).drop i))[i]? = some _ := mix_get (fun b : UInt8 => [CV.v (.int .u8 b.toNat)]) (h2.trans h1.symm) hx
    rw [hg]
    refine vc ?_
    refine hN _ (i + 1) [] (by omega) (by omega) (by rfl) (vc ?_) (vc ?_)
    · rw [w64 _ (by omega)]; simp
    · exact mix_set (fun b : UInt8 => [CV.v (.int .u8 b.toNat)]) (h2.trans h1.symm) hy
  all_goals
    have hk : i = (max 0 (min n 512)).toNat := by simp at *; omega
    have hl : ((sheet b).take i ++ (sheet a).drop i).length = (sheet a).length := by simp [h1, h2]; omega
    rw [ht, ← hk]
    refine endQ_of [(1, 1)] (.sl 1 ((sheet b).take i ++ (sheet a).drop i).length) [some (.rw 5 1 (eB ((sheet b).take i ++ (sheet a).drop i)))] (by rfl) (vc ?_) (vc trivial) ⟨rfl, rfl⟩
    exact hl.symm
theorem implTear_ok (a b : List UInt8) (n : Int) (ha : a.length ≤ 2^40) (hb : b.length ≤ 2^40) : CallOk Try.prog 115 [] [Rw (eB a), Rw (eB b), In n] (fun r out => r = .sl 1 (tear a b n).length ∧ out = [some (.rw 5 1 (eB (tear a b n)))]) := by
  refine callOk_z (np := 0) { fz := [(8, [33, 73, 57])] } mixed Try.func115 (by rfl) Try.ntmps115 Try.results115 (by rfl) (Nat.le_of_ble_eq_true rfl) rfl rfl rfl (vc ?_)
  have hno : ¬ ((sheet a).length = 512 ∧ (sheet b).length = 512) → ∀ H : Hp, EndQ 0 H .nul (fun r out => r = .sl 1 (tear a b n).length ∧ out = [some (.rw 5 1 (eB (tear a b n)))]) := fun hk H => by
    rw [show tear a b n = [] from if_neg hk]
    exact endQ_of [(1, 0)] (.sl 1 0) [some (.rw 5 1 [])] (by rfl) (vc trivial) (vc trivial) ⟨rfl, rfl⟩
  have hz : ∀ l : List UInt8, l = [] → sheet l = List.replicate 512 0 := fun l h => if_pos h
  have hnz : ∀ l : List UInt8, ¬ l = [] → sheet l = l := fun l h => if_neg h
  have hl0 : ∀ l : List UInt8, ((l.length : Int) == 0) = true → l = [] := fun l h => by simpa using h
  have hl1 : ∀ l : List UInt8, ((l.length : Int) == 0) = false → ¬ l = [] := fun l h => by simpa using h
  have hm : (if (if (512 : Int) < n then 512 else n) > 0 then (if (512 : Int) < n then 512 else n) else 0) = (((max 0 (min n 512)).toNat : Nat) : Int) := by split <;> split <;> omega
  have hm2 : (max 0 (min n 512)).toNat ≤ 512 := by omega
  generalize hM : (max 0 (min n 512)).toNat = m at hm hm2
  refine brB_intro (fun h1 => brB_intro (fun h2 => ?_) (fun h2 => ?_)) (fun h1 => brB_intro (fun h2 => ?_) (fun h2 => ?_))
  · have e1 := hz _ (hl0 _ h1)
    have e2 := hz _ (hl0 _ h2)
    rw [hm]
    refine drawQ_of false (by rfl) (by simp) (vc ?_)
    rw [eB_zeros]
    rw [if_pos (by omega)]
    refine vc ?_
    rw [eB_take]
    refine vc ?_
    refine ⟨⟨by unfold maxLen; simp; omega, by simp; omega⟩, ?_⟩
    repeat refine ⟨rfl, ?_⟩
    rw [if_pos (by omega)]
    refine vc ?_
    rw [List.take_of_length_le (by simp [eB_length]), eB_drop]
    refine vc ?_
    refine ⟨⟨by unfold maxLen; simp; omega, by simp; omega⟩, ?_⟩
    repeat refine ⟨rfl, ?_⟩
    rw [eB_app]
    rw [show tear a b n = (sheet b).take m ++ (sheet a).drop m by rw [← hM]; exact if_pos ⟨by rw [e1]; simp, by rw [e2]; simp⟩, e1, e2]
    refine endQ_of [(1, 249)] (.sl 1 (_ : List UInt8).length) [some (.rw 5 1 (eB _))] (by rfl) (vc ?_) (vc trivial) ⟨rfl, rfl⟩
    simp; omega
  · have e1 := hz _ (hl0 _ h1)
    have e2 := hnz _ (hl1 _ h2)
    refine brB_intro (fun h => hno (fun e => by rw [e2] at e; simp [e.2] at h) _) (fun h => ?_)
    have lb : b.length = 512 := by simp at h; omega
    rw [hm]
    refine drawQ_of false (by rfl) (by simp) (vc ?_)
    rw [eB_zeros]
    rw [if_pos (by omega)]
    refine vc ?_
    rw [eB_take]
    refine vc ?_
    refine ⟨⟨by unfold maxLen; simp; omega, by simp; omega⟩, ?_⟩
    repeat refine ⟨rfl, ?_⟩
    rw [if_pos (by omega)]
    refine vc ?_
    rw [List.take_of_length_le (by simp [eB_length]), eB_drop]
    refine vc ?_
    refine ⟨⟨by unfold maxLen; simp; omega, by simp; omega⟩, ?_⟩
    repeat refine ⟨rfl, ?_⟩
    rw [eB_app]
    rw [show tear a b n = (sheet b).take m ++ (sheet a).drop m by rw [← hM]; exact if_pos ⟨by rw [e1]; simp, by rw [e2]; exact lb⟩, e1, e2]
    refine endQ_of [(1, 233)] (.sl 1 (_ : List UInt8).length) [some (.rw 5 1 (eB _))] (by rfl) (vc ?_) (vc trivial) ⟨rfl, rfl⟩
    simp <;> omega
  · have e1 := hnz _ (hl1 _ h1)
    have e2 := hz _ (hl0 _ h2)
    refine brB_intro (fun h => hno (fun e => by rw [e1] at e; simp [e.1] at h) _) (fun h => ?_)
    have la : a.length = 512 := by simp at h; omega
    rw [hm]
    refine drawQ_of false (by rfl) (by simp) (vc ?_)
    rw [eB_zeros]
    rw [if_pos (by omega)]
    refine vc ?_
    rw [eB_take]
    refine vc ?_
    refine ⟨⟨by unfold maxLen; simp; omega, by simp; omega⟩, ?_⟩
    repeat refine ⟨rfl, ?_⟩
    rw [if_pos (by omega)]
    refine vc ?_
    rw [List.take_of_length_le (by simp [eB_length, la]), eB_drop]
    refine vc ?_
    refine ⟨⟨by unfold maxLen; simp; omega, by simp; omega⟩, ?_⟩
    repeat refine ⟨rfl, ?_⟩
    rw [eB_app]
    rw [show tear a b n = (sheet b).take m ++ (sheet a).drop m by rw [← hM]; exact if_pos ⟨by rw [e1]; exact la, by rw [e2]; simp⟩, e1, e2]
    refine endQ_of [(1, 233)] (.sl 1 (_ : List UInt8).length) [some (.rw 5 1 (eB _))] (by rfl) (vc ?_) (vc trivial) ⟨rfl, rfl⟩
    simp <;> omega
  · have e1 := hnz _ (hl1 _ h1)
    have e2 := hnz _ (hl1 _ h2)
    refine brB_intro (fun h => hno (fun e => by rw [e1] at e; simp [e.1] at h) _) (fun h => ?_)
    have la : a.length = 512 := by simp at h; omega
    refine brB_intro (fun h => hno (fun e => by rw [e2] at e; simp [e.2] at h) _) (fun h => ?_)
    have lb : b.length = 512 := by simp at h; omega
    rw [hm]
    refine drawQ_of false (by rfl) (by simp) (vc ?_)
    rw [if_pos (by omega)]
    refine vc ?_
    rw [eB_take]
    refine vc ?_
    refine ⟨⟨by unfold maxLen; simp; omega, by simp; omega⟩, ?_⟩
    repeat refine ⟨rfl, ?_⟩
    rw [if_pos (by omega)]
    refine vc ?_
    rw [List.take_of_length_le (by simp [eB_length, la]), eB_drop]
    refine vc ?_
    refine ⟨⟨by unfold maxLen; simp; omega, by simp; omega⟩, ?_⟩
    repeat refine ⟨rfl, ?_⟩
    rw [eB_app]
    rw [show tear a b n = (sheet b).take m ++ (sheet a).drop m by rw [← hM]; exact if_pos ⟨by rw [e1]; exact la, by rw [e2]; exact lb⟩, e1, e2]
    refine endQ_of [(1, 217)] (.sl 1 (_ : List UInt8).length) [some (.rw 5 1 (eB _))] (by rfl) (vc ?_) (vc trivial) ⟨rfl, rfl⟩
    simp <;> omega
/-- One write comes to its sheet. -/
def crashStep (sh : List (List UInt8)) (w : Int × List UInt8) (n : Int) : List (List UInt8) :=
  if 0 < n then sh.set w.1.toNat (tear (sh[w.1.toNat]?.getD []) w.2 n) else sh
def crashL (sh : List (List UInt8)) (wr : List (Int × List UInt8)) (keep : List Int) : Nat → List (List UInt8)
  | 0 => sh
  | i + 1 => match wr[i]? with
    | some w => crashStep (crashL sh wr keep i) w (keep[i]?.getD 0)
    | none => crashL sh wr keep i
open Classical in
noncomputable def Dk.crash (d : Dk) (keep : List Int) : Dk := if d.ok then ⟨crashL d.sh d.wr keep d.wr.length, []⟩ else ⟨[], []⟩
theorem crashStep_len (sh : List (List UInt8)) (w : Int × List UInt8) (n : Int) : (crashStep sh w n).length = sh.length := by unfold crashStep; split <;> simp
theorem crashL_len (sh : List (List UInt8)) (wr : List (Int × List UInt8)) (keep : List Int) : ∀ i, (crashL sh wr keep i).length = sh.length
  | 0 => rfl
  | i + 1 => by
    rw [crashL]
    split
    · rw [crashStep_len, crashL_len sh wr keep i]
    · exact crashL_len sh wr keep i
theorem crashL_ok {sh : List (List UInt8)} {wr : List (Int × List UInt8)} (keep : List Int) (hs : ∀ x ∈ sh, Dk.shOk x) (hw : ∀ x ∈ wr, Dk.wrOk sh.length x) : ∀ i, ∀ x ∈ crashL sh wr keep i, Dk.shOk x
  | 0 => hs
  | i + 1 => by
    have ih := crashL_ok keep hs hw i
    rw [crashL]
    split
    · rename_i w hh
      have hwo := hw w (List.mem_of_getElem? hh)
      unfold crashStep
      split
      · intro x hx
        rcases List.mem_or_eq_of_mem_set hx with hx | hx
        · exact ih x hx
        · rw [hx]
          refine .inr (tear_len ?_ hwo.2)
          cases hg : (crashL sh wr keep i)[w.1.toNat]? with
          | none => exact .inl rfl
          | some y => exact ih y (List.mem_of_getElem? hg)
      · exact ih
    · exact ih
theorem specDiskCrash_ok (d : Dk) (hd : d.fits (2^40)) (keep : List Int) (hk : keep.length ≤ 2^40) : CallOk Try.prog 134 [] [d.rd, Rw (keep.map inC)] (fun r out => r = (d.crash keep).ow ∧ out = (d.crash keep).obs.map some) := by
  unfold Dk.rd
  have hf1 := hd.1
  have hf2 := hd.2.2.1
  refine callOk_z (np := 0) {} mixed Try.func134 (by rfl) Try.ntmps134 Try.results134 (by rfl) (Nat.le_of_ble_eq_true rfl) rfl rfl rfl (vc ?_)
  refine callq_of false [] (specDiskOk_ok d hd) rfl trivial (by unfold Dk.rd; exact vc trivial) ?_
  rintro r out ⟨rfl, rfl⟩
  refine ⟨by simp, by simp, by simp, vc ?_⟩
  refine brB_intro (fun h => ?_) (fun h => ?_)
  · have h : ¬ d.ok := fun e => by rw [tf_true e] at h; simp at h
    rw [show d.crash keep = ⟨[], []⟩ from if_neg h]
    exact endQ_of [(1, 0), (2, 0)] (⟨[], []⟩ : Dk).ow ((⟨[], []⟩ : Dk).obs.map some) (by rfl) (by unfold Dk.ow; exact vc trivial) (by unfold Dk.obs; exact vc trivial) ⟨rfl, rfl⟩
  have hok : d.ok := by
    by_cases e : d.ok
    · exact e
    · rw [tf_false e] at h; simp at h
  rw [show d.crash keep = ⟨crashL d.sh d.wr keep d.wr.length, []⟩ from if_pos hok]
  refine callq_of false [] (l05Copy_ok d hd) rfl trivial (by unfold Dk.rd; exact vc trivial) ?_
  rintro r out ⟨rfl, rfl⟩
  refine ⟨by simp, by simp [Dk.obs], by simp, ?_⟩
  unfold Dk.ow Dk.obs
  refine vc ?_
  refine loopQ_of (fun i => [(1, Rw (keep.map inC)), (4, .pt 2 0 0), (5, .pt 3 0 0), (17, Rw (d.wr.map (wrC false))), (18, In d.wr.length), (19, In (i : Nat))]) (fun i => [(2, .box 31 [.nul, .nul]), (3, .box 31 [.sl 4 d.sh.length, .nul]), (4, .rw 155 1 ((crashL d.sh d.wr keep i).map (shC true)))]) 5 (fun i => d.wr.length - i) (fun i => i ≤ d.wr.length) 0 (Nat.zero_le _) [(2, 9), (3, 57), (4, 49)] (by rfl) (vc trivial) (vc ?_) (fun i hi N hN => vc (brB_intro (fun h => ?_) (fun h => ?_)))
  · rfl
  · have h : i < d.wr.length := by simpa using h
    have hx := List.getElem?_eq_getElem h
    have hL : crashL d.sh d.wr keep (i + 1) = crashStep (crashL d.sh d.wr keep i) d.wr[i] (keep[i]?.getD 0) := by rw [crashL, hx]
    have hSl := crashL_len d.sh d.wr keep i
    have hSo := crashL_ok keep hok.2.1 hok.2.2 i
    have hwo := hok.2.2 _ (List.getElem_mem h)
    generalize hS : crashL d.sh d.wr keep i = S at hL hSl hSo ⊢
    generalize hW : d.wr[i] = wi at hL hwo hx ⊢
    obtain ⟨wa, wb⟩ := wi
    obtain ⟨⟨ha0, ha1⟩, hwb⟩ := hwo
    simp only at ha0 ha1 hwb
    rw [get_map hx, wrC]
    refine vc ?_
    refine brB_intro (fun hk1 => ?_) (fun hk1 => ?_)
    · have hk1 : i < keep.length := by simpa using hk1
      have hkx := List.getElem?_eq_getElem hk1
      rw [get_map hkx, inC]
      refine vc ?_
      rw [hkx, Option.getD_some] at hL
      refine brB_intro (fun hk2 => ?_) (fun hk2 => ?_)
      · refine drawQ_of false (by rfl) (by simp) (vc ?_)
        have hk2 : 0 < keep[i] := by simpa using hk2
        have hin : wa.toNat < S.length := by omega
        have hy := List.getElem?_eq_getElem hin
        refine ⟨⟨ha0, ha1, by omega⟩, ?_⟩
        rw [get_map hy, shC]
        refine vc ?_
        refine calld_of [] true [] (specTear_ok S[wa.toNat] wb keep[i] (by rcases hSo _ (List.getElem_mem hin) with e | e <;> omega) (by omega)) rfl trivial (vc trivial) (by rfl) ⟨_, _, rfl, rfl⟩ ?_
        rintro r out ⟨rfl, rfl⟩
        refine ⟨by simp, by simp, fun _ => ⟨.sl 1 _ (by simp) (by simp), by simp; exact .inr (own_eB _)⟩, vc ?_⟩
        refine ⟨⟨ha0, ha1, by omega⟩, ?_⟩
        rw [get_map hy, shC]
        refine vc ?_
        repeat refine ⟨rfl, ?_⟩
        refine hN _ (i + 1) [] h (by omega) (by rfl) (vc ?_) (vc ?_)
        · rw [w64 _ (by omega)]; simp
        · rw [hL, crashStep, if_pos hk2, hy, Option.getD_some, List.map_set]; rfl
      · have hk2 : ¬ 0 < keep[i] := by simpa using hk2
        refine hN _ (i + 1) [] h (by omega) (by rfl) (vc ?_) (vc ?_)
        · rw [w64 _ (by omega)]; simp
        · rw [hL, crashStep, if_neg hk2]
    · have hk1 : ¬ i < keep.length := by simpa using hk1
      rw [List.getElem?_eq_none (by omega)] at hL
      refine hN _ (i + 1) [] h (by omega) (by rfl) (vc ?_) (vc ?_)
      · rw [w64 _ (by omega)]; simp
      · rw [hL]; rfl
  · have h : i = d.wr.length := by simp at h; omega
    subst h
    refine endQ_of [(1, 4), (2, 0)] (.ag [.sl 1 (crashL d.sh d.wr keep d.wr.length).length, .sl 2 0]) [some (.rw 155 1 ((crashL d.sh d.wr keep d.wr.length).map (shC true))), some (.rw 90 2 [])] (by rfl) (vc ?_) (vc trivial) ⟨rfl, rfl⟩
    exact (crashL_len ..).symm
theorem implDiskCrash_ok (d : Dk) (hd : d.fits (2^40)) (keep : List Int) (hk : keep.length ≤ 2^40) : CallOk Try.prog 56 [] [d.rd, Rw (keep.map inC)] (fun r out => r = (d.crash keep).ow ∧ out = (d.crash keep).obs.map some) := by
  unfold Dk.rd
  have hf1 := hd.1
  have hf2 := hd.2.2.1
  refine callOk_z (np := 0) {} mixed Try.func56 (by rfl) Try.ntmps56 Try.results56 (by rfl) (Nat.le_of_ble_eq_true rfl) rfl rfl rfl (vc ?_)
  refine callq_of false [] (implDiskOk_ok d hd) rfl trivial (by unfold Dk.rd; exact vc trivial) ?_
  rintro r out ⟨rfl, rfl⟩
  refine ⟨by simp, by simp, by simp, vc ?_⟩
  refine brB_intro (fun h => ?_) (fun h => ?_)
  · have h : ¬ d.ok := fun e => by rw [tf_true e] at h; simp at h
    rw [show d.crash keep = ⟨[], []⟩ from if_neg h]
    exact endQ_of [(1, 0), (2, 0)] (⟨[], []⟩ : Dk).ow ((⟨[], []⟩ : Dk).obs.map some) (by rfl) (by unfold Dk.ow; exact vc trivial) (by unfold Dk.obs; exact vc trivial) ⟨rfl, rfl⟩
  have hok : d.ok := by
    by_cases e : d.ok
    · exact e
    · rw [tf_false e] at h; simp at h
  rw [show d.crash keep = ⟨crashL d.sh d.wr keep d.wr.length, []⟩ from if_pos hok]
  refine callq_of false [] (copyDisk_ok d hd) rfl trivial (by unfold Dk.rd; exact vc trivial) ?_
  rintro r out ⟨rfl, rfl⟩
  refine ⟨by simp, by simp [Dk.obs], by simp, ?_⟩
  unfold Dk.ow Dk.obs
  refine vc ?_
  refine loopQ_of (fun i => [(1, Rw (keep.map inC)), (4, .pt 2 0 0), (5, .pt 3 0 0), (16, Rw (d.wr.map (wrC false))), (17, In d.wr.length), (18, In (i : Nat))]) (fun i => [(2, .box 31 [.nul, .nul]), (3, .box 31 [.sl 4 d.sh.length, .sl 5 d.wr.length]), (4, .rw 155 1 ((crashL d.sh d.wr keep i).map (shC true))), (5, .rw 90 2 (d.wr.map (wrC true)))]) 6 (fun i => d.wr.length - i) (fun i => i ≤ d.wr.length) 0 (Nat.zero_le _) [(2, 9), (3, 57), (4, 49), (5, 50)] (by rfl) (vc trivial) (vc ?_) (fun i hi N hN => vc (brB_intro (fun h => ?_) (fun h => ?_)))
  · rfl
  · have h : i < d.wr.length := by simpa using h
    have hx := List.getElem?_eq_getElem h
    have hL : crashL d.sh d.wr keep (i + 1) = crashStep (crashL d.sh d.wr keep i) d.wr[i] (keep[i]?.getD 0) := by rw [crashL, hx]
    have hSl := crashL_len d.sh d.wr keep i
    have hSo := crashL_ok keep hok.2.1 hok.2.2 i
    have hwo := hok.2.2 _ (List.getElem_mem h)
    generalize hS : crashL d.sh d.wr keep i = S at hL hSl hSo ⊢
    generalize hW : d.wr[i] = wi at hL hwo hx ⊢
    obtain ⟨wa, wb⟩ := wi
    obtain ⟨⟨ha0, ha1⟩, hwb⟩ := hwo
    simp only at ha0 ha1 hwb
    rw [get_map hx, wrC]
    refine vc ?_
    refine brB_intro (fun hk1 => ?_) (fun hk1 => ?_)
    · have hk1 : i < keep.length := by simpa using hk1
      have hkx := List.getElem?_eq_getElem hk1
      rw [get_map hkx, inC]
      refine vc ?_
      rw [hkx, Option.getD_some] at hL
      refine brB_intro (fun hk2 => ?_) (fun hk2 => ?_)
      · have hk2 : 0 < keep[i] := by simpa using hk2
        have hin : wa.toNat < S.length := by omega
        have hy := List.getElem?_eq_getElem hin
        refine ⟨⟨ha0, ha1, by omega⟩, ?_⟩
        refine drawQ_of false (by rfl) (by simp) (vc ?_)
        rw [get_map hy, shC]
        refine vc ?_
        rw [get_map hkx, inC]
        refine vc ?_
        refine calld_of [] true [] (implTear_ok S[wa.toNat] wb keep[i] (by rcases hSo _ (List.getElem_mem hin) with e | e <;> omega) (by omega)) rfl trivial (vc trivial) (by rfl) ⟨_, _, rfl, rfl⟩ ?_
        rintro r out ⟨rfl, rfl⟩
        refine ⟨by simp, by simp, fun _ => ⟨.sl 1 _ (by simp) (by simp), by simp; exact .inr (own_eB _)⟩, vc ?_⟩
        rw [get_map hy, shC]
        refine vc ?_
        repeat refine ⟨rfl, ?_⟩
        refine hN _ (i + 1) [] h (by omega) (by rfl) (vc ?_) (vc ?_)
        · rw [w64 _ (by omega)]; simp
        · rw [hL, crashStep, if_pos hk2, hy, Option.getD_some, List.map_set]; rfl
      · have hk2 : ¬ 0 < keep[i] := by simpa using hk2
        refine hN _ (i + 1) [] h (by omega) (by rfl) (vc ?_) (vc ?_)
        · rw [w64 _ (by omega)]; simp
        · rw [hL, crashStep, if_neg hk2]
    · have hk1 : ¬ i < keep.length := by simpa using hk1
      rw [List.getElem?_eq_none (by omega)] at hL
      refine hN _ (i + 1) [] h (by omega) (by rfl) (vc ?_) (vc ?_)
      · rw [w64 _ (by omega)]; simp
      · rw [hL]; rfl
  · have h : i = d.wr.length := by simp at h; omega
    subst h
    refine endQ_of [(1, 4), (2, 0)] (.ag [.sl 1 (crashL d.sh d.wr keep d.wr.length).length, .sl 2 0]) [some (.rw 155 1 ((crashL d.sh d.wr keep d.wr.length).map (shC true))), some (.rw 90 2 [])] (by rfl) (vc ?_) (vc trivial) ⟨rfl, rfl⟩
    exact (crashL_len ..).symm
end Go.Proofs.Ytnnmpdanfeejbaa.Abs
