/- The laws' helpers on operations: their contracts. -/
import Derived.Test.YtnnmpdanfeejbaaAbsLd
namespace Go.Proofs.Ytnnmpdanfeejbaa.Abs
open Go Go.Proofs
set_option maxRecDepth 10000
set_option linter.unusedVariables false
set_option linter.unusedSimpArgs false
theorem toOp_ok (x : Bool × Int × List UInt8) (hl : x.2.2.length ≤ 2^40) : CallOk Try.prog 98 [] [.ag [Bo x.1, In x.2.1, Rw (eB x.2.2)]] (fun r out => r = .ag [Bo x.1, In x.2.1, .sl 1 x.2.2.length] ∧ out = [some (.rw 5 1 (eB x.2.2))]) := by
  refine callOk_z (np := 0) {} mixed Try.func98 (by rfl) Try.ntmps98 Try.results98 (by rfl) (Nat.le_of_ble_eq_true rfl) rfl rfl rfl (vc ?_)
  refine callq_of false [] (toWrite_ok x.2.1 x.2.2 hl) rfl trivial (vc trivial) ?_
  rintro r out ⟨rfl, rfl⟩
  refine ⟨by simp, by simp, by simp, vc ?_⟩
  exact endQ_of [(1, 73)] (.ag [Bo x.1, In x.2.1, .sl 1 x.2.2.length]) [some (.rw 5 1 (eB x.2.2))] (by rfl) (vc trivial) (vc trivial) ⟨rfl, rfl⟩
theorem toOpS_ok (xs : List (Bool × Int × List UInt8)) (hl : xs.length ≤ 2^40) (hs : ∀ x ∈ xs, x.2.2.length ≤ 2^40) : CallOk Try.prog 38 [] [Rw (xs.map (opC false))] (fun r out => r = .sl 1 xs.length ∧ out = [some (.rw 139 3 (xs.map (opC true)))]) := by
  refine callOk_z (np := 0) {} mixed Try.func38 (by rfl) Try.ntmps38 Try.results38 (by rfl) (Nat.le_of_ble_eq_true rfl) rfl rfl rfl (vc ?_)
  refine ⟨⟨by omega, by omega⟩, ?_⟩
  refine loopQ_of (fun i => [(0, Rw (xs.map (opC false))), (3, .sl 1 xs.length), (4, In (i : Nat))]) (fun i => [(1, .rw 139 3 ((xs.take i).map (opC true) ++ List.replicate (xs.length - i) [.v (.bool false), .v (.int .i64 0), .row true []]))]) 2 (fun i => xs.length - i) (fun i => i ≤ xs.length) 0 (Nat.zero_le _) [(1, 25)] (by rfl) (vc trivial) (vc ?_) (fun i hi N hN => vc (brB_intro (fun h => ?_) (fun h => ?_)))
  · rfl
  · have h : i < xs.length := by simpa using h
    have hx := List.getElem?_eq_getElem h
    rw [get_map hx, opC]
    refine vc ?_
    refine callq_of false [] (toOp_ok xs[i] (hs _ (List.getElem_mem h))) rfl trivial (vc trivial) ?_
    rintro r out ⟨rfl, rfl⟩
    refine ⟨by simp, by simp, by simp, vc ?_⟩
    refine ⟨⟨h, by simp; omega⟩, ?_⟩
    rw [fill_get _ _ _ _ h]
    refine vc ?_
    refine hN _ (i + 1) [] h (by omega) (by rfl) (vc ?_) (vc ?_)
    · rw [w64 _ (by omega)]; simp
    · exact fill_set (opC true) _ xs i _ hx
  · have h : i = xs.length := by simp at h; omega
    refine endQ_of [] (.sl 1 xs.length) [some (.rw 139 3 (xs.map (opC true)))] (by rfl) (vc trivial) (vc ?_) ⟨rfl, rfl⟩
    simp [h]
def szO (x : Bool × Int × List UInt8) : Nat := x.2.2.length
theorem szOp_ok (x : Bool × Int × List UInt8) (k : Int) (hl : x.2.2.length ≤ 2^47) (hk : -1 ≤ k ∧ k ≤ 2^40) : CallOk Try.prog 96 [] [.ag [Bo x.1, In x.2.1, Rw (eB x.2.2)], In k] (fun r out => r = In (szB (szO x) k) ∧ out = []) := by
  refine callOk_z (np := 0) {} mixed Try.func96 (by rfl) Try.ntmps96 Try.results96 (by rfl) (Nat.le_of_ble_eq_true rfl) rfl rfl rfl (vc ?_)
  refine callq_of false [] (szWrite_ok x.2.1 x.2.2 k hl hk) rfl trivial (vc trivial) ?_
  rintro r out ⟨rfl, rfl⟩
  refine ⟨by simp, by simp, by simp, vc ?_⟩
  have hc := szB_cases x.2.2.length k
  refine brB_intro (fun h => EndQ.closed (.v _) ⟨?_, rfl⟩) (fun h => EndQ.closed (.v _) ⟨?_, rfl⟩)
  · have h : szB x.2.2.length k < 0 := by simpa using h
    rw [szO, show szB x.2.2.length k = -1 by omega]
  · rfl
theorem szOpS_ok (xs : List (Bool × Int × List UInt8)) (k : Int) (hl : xs.length ≤ 2^47) (hs : ∀ x ∈ xs, x.2.2.length ≤ 2^47) (hk : -1 ≤ k ∧ k ≤ 2^40) : CallOk Try.prog 36 [] [Rw (xs.map (opC false)), In k] (fun r out => r = In (szB (xs.length + sumL szO xs) k) ∧ out = []) := by
  refine callOk_z (np := 0) {} mixed Try.func36 (by rfl) Try.ntmps36 Try.results36 (by rfl) (Nat.le_of_ble_eq_true rfl) rfl rfl rfl (vc ?_)
  rw [w64 _ (by omega)]
  refine brB_intro (fun h => EndQ.closed (.v _) ⟨?_, rfl⟩) (fun h => ?_)
  · have h : k - xs.length < 0 := by simpa using h
    rw [szB, if_pos (by omega)]
  have h : 0 ≤ k - xs.length := by simpa using h
  refine loopQ_of (fun i => [(0, Rw (xs.map (opC false))), (1, In (k - xs.length - sumL szO (xs.take i))), (5, In (i : Nat))]) (fun i => []) 1 (fun i => xs.length - i) (fun i => i ≤ xs.length ∧ (sumL szO (xs.take i) : Int) ≤ k - xs.length) 0 ⟨Nat.zero_le _, by simpa [sumL] using h⟩ [] (by rfl) (vc ?_) (vc trivial) (fun i hi N hN => vc (brB_intro (fun h => ?_) (fun h => ?_)))
  · simp [sumL]
  · have h : i < xs.length := by simpa using h
    have hx := List.getElem?_eq_getElem h
    rw [get_map hx, opC]
    refine vc ?_
    refine callq_of false [] (szOp_ok xs[i] (k - xs.length - sumL szO (xs.take i)) (hs _ (List.getElem_mem h)) (by omega)) rfl trivial (vc trivial) ?_
    rintro r out ⟨rfl, rfl⟩
    refine ⟨by simp, by simp, by simp, vc ?_⟩
    have hc := szB_cases (szO xs[i]) (k - xs.length - sumL szO (xs.take i))
    have hn := sumL_next szO hx
    have hle := sumL_le szO xs (i + 1)
    refine brB_intro (fun h => EndQ.closed (.v _) ⟨?_, rfl⟩) (fun h => ?_)
    · have h : szB (szO xs[i]) (k - xs.length - sumL szO (xs.take i)) < 0 := by simpa using h
      rw [szB, if_pos (by omega)]
    · have h : 0 ≤ szB (szO xs[i]) (k - xs.length - sumL szO (xs.take i)) := by simpa using h
      refine hN _ (i + 1) [] ⟨by omega, by omega⟩ (by omega) (by rfl) (vc ?_) (vc trivial)
      rw [w64 _ (by omega)]
      exact ⟨by omega, by simp⟩
  · have h : i = xs.length := by simp at h; omega
    refine EndQ.closed (.v _) ⟨?_, rfl⟩
    have hT : xs.take i = xs := by rw [h, List.take_length]
    have h2 := hi.2
    rw [hT] at h2 ⊢
    rw [szB, if_neg (by omega), show k - ((xs.length + sumL szO xs : Nat) : Int) = k - xs.length - sumL szO xs by omega]
theorem eqOp_ok (x y : Bool × Int × List UInt8) (hl : x.2.2.length ≤ 2^40) : CallOk Try.prog 99 [] [.ag [Bo x.1, In x.2.1, Rw (eB x.2.2)], .ag [Bo y.1, In y.2.1, Rw (eB y.2.2)]] (fun r out => r = Bo (decide (x = y)) ∧ out = []) := by
  refine callOk_z (np := 0) {} mixed Try.func99 (by rfl) Try.ntmps99 Try.results99 (by rfl) (Nat.le_of_ble_eq_true rfl) rfl rfl rfl (vc ?_)
  refine brB_intro (fun h => EndQ.closed (.v _) ⟨?_, rfl⟩) (fun h => ?_)
  · have : ¬ x = y := fun e => by rw [e] at h; simp at h
    simp [this]
  have h1 : x.1 = y.1 := by simpa using h
  refine callq_of false [] (eqWrite_ok x.2.1 y.2.1 x.2.2 y.2.2 hl) rfl trivial (vc trivial) ?_
  rintro r out ⟨rfl, rfl⟩
  refine ⟨by simp, by simp, by simp, vc ?_⟩
  refine brB_intro (fun h => EndQ.closed (.v _) ⟨?_, rfl⟩) (fun h => EndQ.closed (.v _) ⟨?_, rfl⟩)
  · have : ¬ x = y := fun e => by rw [e] at h; simp at h
    simp [this]
  · have : x = y := Prod.ext h1 (Prod.ext (by simp at h; exact h.1) (by simp at h; exact h.2))
    simp [this]
theorem eqOpS_ok (xs ys : List (Bool × Int × List UInt8)) (hl : xs.length ≤ 2^40) (hs : ∀ x ∈ xs, x.2.2.length ≤ 2^40) : CallOk Try.prog 40 [] [Rw (xs.map (opC false)), Rw (ys.map (opC false))] (fun r out => r = Bo (decide (xs = ys)) ∧ out = []) := by
  refine callOk_z (np := 0) {} mixed Try.func40 (by rfl) Try.ntmps40 Try.results40 (by rfl) (Nat.le_of_ble_eq_true rfl) rfl rfl rfl (vc ?_)
  refine brB_intro (fun h => EndQ.closed (.v _) ⟨?_, rfl⟩) (fun h => ?_)
  · have : xs ≠ ys := fun e => by simp [e] at h
    simp [this]
  have h0 : xs.length = ys.length := by
    have : ((xs.length : Nat) : Int) = ys.length := by simpa using h
    omega
  refine loopQ_of (fun i => [(0, Rw (xs.map (opC false))), (1, Rw (ys.map (opC false))), (5, In (i : Nat))]) (fun i => []) 1 (fun i => xs.length - i) (fun i => i ≤ xs.length ∧ xs.take i = ys.take i) 0 ⟨Nat.zero_le _, rfl⟩ [] (by rfl) (vc trivial) (vc trivial) (fun i hi N hN => vc (brB_intro (fun h => ?_) (fun h => ?_)))
  · have h : i < xs.length := by simpa using h
    have hx := List.getElem?_eq_getElem h
    have hy := List.getElem?_eq_getElem (h0 ▸ h)
    refine drawQ_of false (by rfl) (by simp) (vc ?_)
    rw [get_map hx, opC]
    refine vc ?_
    rw [get_map hy, opC]
    refine vc ?_
    refine calld_of [] false [] (eqOp_ok xs[i] ys[i] (hs _ (List.getElem_mem h))) rfl trivial (vc trivial) (by rfl) ⟨_, _, rfl, rfl⟩ ?_
    rintro r out ⟨rfl, rfl⟩
    refine ⟨by simp, by simp, by simp, vc ?_⟩
    refine brB_intro (fun hb => EndQ.closed (.v _) ⟨?_, rfl⟩) (fun hb => ?_)
    · have hb : ¬ xs[i] = ys[i] := fun e => by rw [e] at hb; simp at hb
      have : xs ≠ ys := fun e => by subst e; exact hb rfl
      simp [this]
    · have hb : xs[i] = ys[i] := by simpa using hb
      refine hN _ (i + 1) [] ⟨h, take_next hi.2 hx hy hb⟩ (by omega) (by rfl) (vc ?_) (vc trivial)
      rw [w64 _ (by omega)]; simp
  · have h : i = xs.length := by simp at h; omega
    refine EndQ.closed (.v _) ⟨?_, rfl⟩
    have : xs = ys := by have := hi.2; rw [h, List.take_length, h0, List.take_length] at this; exact this
    simp [this]
def mkO (x : Bool × Int × List UInt8) (k : Int) : Bool × Int × List UInt8 := (k.tmod 3 == 0, k + 1, mkB x.2.2.length (k + 2))
def cntO (x : Bool × Int × List UInt8) : Nat := x.2.2.length + 2
theorem mkO_idem (x : Bool × Int × List UInt8) (k : Int) : mkO (mkO x k) k = mkO x k ∧ cntO (mkO x k) = cntO x := by
  simp [mkO, cntO, mkB_length]
theorem markOpS_ok (ty : Nat) (xs : List (Bool × Int × List UInt8)) (k : Int) (hl : xs.length ≤ 2^60) (hk : 0 ≤ k ∧ k + sumL cntO xs ≤ 2^60) : CallOk Try.prog 41 [.rw ty 3 (xs.map (opC true))] [.sl 1 xs.length, In k]
    (fun r out => r = In (k + sumL cntO xs) ∧ out = [some (.rw ty 3 ((mkL mkO cntO xs k).map (opC true)))]) := by
  refine callOk_z (np := 1) { fs := [(8, 5)] } mixed Try.func41 (by rfl) Try.ntmps41 Try.results41 (by rfl) (Nat.le_of_ble_eq_true rfl) rfl rfl rfl (vc ?_)
  generalize hM : mkL mkO cntO xs k = M
  have hl' : M.length = xs.length := by rw [← hM, mkL_length]
  refine loopQ_of (fun i => [(0, .sl 1 xs.length), (1, In (k + (sumL cntO (xs.take i) : Nat))), (5, In (i : Nat))]) (fun i => [(1, .rw ty 3 ((M.take i ++ xs.drop i).map (opC true)))]) 2 (fun i => xs.length - i) (fun i => i ≤ xs.length) 0 (Nat.zero_le _) [] (by rfl) (vc ?_) (vc ?_) (fun i hi N hN => vc (brB_intro (fun h => ?_) (fun h => ?_)))
  · simp [sumL_nil]
  · simp [HpS, wkO]
  · have h : i < xs.length := by simpa using h
    have hx := List.getElem?_eq_getElem h
    have hm : M[i]? = some (mkO xs[i] (k + sumL cntO (xs.take i))) := by rw [← hM, mkL_get _ _ hx]
    have hle := sumL_le cntO xs (i + 1)
    rw [sumL_next _ hx, cntO] at hle
    have hget := mix_get (opC true) hl' hx
    generalize hA : (M.take i ++ xs.drop i).map (opC true) = A at hget ⊢
    generalize hK : k + sumL cntO (xs.take i) = K at hm hle ⊢
    have hAl : A.length = xs.length := by rw [← hA]; simp; omega
    refine ⟨⟨h, by simp; omega⟩, ?_⟩
    rw [hget, opC]
    refine vc ?_
    refine ⟨⟨h, by omega⟩, ?_⟩
    rw [w64 (K + 1) (by omega)]
    have hset : ∀ x : List CV, (A.set i x)[i]? = some x := fun x => List.getElem?_set_self (by omega)
    rw [hset]
    refine vc ?_
    rw [w64 (K + 1 + 1) (by omega), show K + 1 + 1 = K + 2 by omega]
    refine fuseQ_of (vc ?_)
    refine ⟨⟨h, by omega⟩, ?_⟩
    by_cases h0 : xs[i].2.2 = []
    · refine fsK_seq (vc ?_)
      rw [hset, h0]
      refine vc ?_
      refine callq_of true [] (markByteS_nil (K + 2) (by omega) true) rfl trivial (vc trivial) ?_
      rintro r out ⟨rfl, rfl⟩
      refine ⟨by simp, by simp, fun _ => ⟨.v _, by simp⟩, vc ?_⟩
      refine hN _ (i + 1) [] h (by omega) (by rfl) (vc ?_) (vc ?_)
      · rw [w64 _ (by omega), sumL_next _ hx, cntO, h0]; simp; omega
      · rw [mkO, h0] at hm
        rw [← mix_set (opC true) hl' hm, hA]; rfl
    · refine fsK_tri rfl ⟨rfl, rfl, rfl, rfl, rfl, rfl, rfl, rfl⟩ (by rfl) ti26 rfl rfl rfl (hset _) rfl (by simpa [eB] using h0) rfl 1 (eB_one _) _ (eB_length _).symm (fun ty' => markByteS_ok ty' xs[i].2.2 (K + 2) (by omega)) (by rfl) (by simp [eB, mkB]) (own_eB _) (vc ?_)
      refine hN _ (i + 1) [] h (by omega) (by rfl) (vc ?_) (vc ?_)
      · rw [w64 _ (by omega), sumL_next _ hx, cntO]; simp; omega
      · rw [← mix_set (opC true) hl' hm, hA]; rfl
  · have h : i = xs.length := by simp at h; omega
    refine endQ_of [] (In (k + sumL cntO xs)) [some (.rw ty 3 (M.map (opC true)))] (by rfl) (vc ?_) (vc ?_) ⟨rfl, rfl⟩
    · rw [h, List.take_length]
    · rw [mix_all hl' h]
end Go.Proofs.Ytnnmpdanfeejbaa.Abs
