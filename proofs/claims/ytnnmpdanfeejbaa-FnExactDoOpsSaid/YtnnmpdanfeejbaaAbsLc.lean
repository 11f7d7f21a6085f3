/- The laws' helpers on sheets, writes, disks: equality, marks. -/
import Derived.Test.YtnnmpdanfeejbaaAbsLb
namespace Go.Proofs.Ytnnmpdanfeejbaa.Abs
open Go Go.Proofs
set_option maxRecDepth 10000
set_option linter.unusedVariables false
set_option linter.unusedSimpArgs false
theorem eqSheet_ok (l m : List UInt8) (hl : l.length ≤ 2^40) : CallOk Try.prog 121 [] [.ag [Rw (eB l)], .ag [Rw (eB m)]] (fun r out => r = Bo (decide (l = m)) ∧ out = []) := by
  refine callOk_z (np := 0) {} mixed Try.func121 (by rfl) Try.ntmps121 Try.results121 (by rfl) (Nat.le_of_ble_eq_true rfl) rfl rfl rfl (vc ?_)
  refine callq_of false [] (eqByteS_ok l m hl) rfl trivial (vc trivial) ?_
  rintro r out ⟨rfl, rfl⟩
  refine ⟨by simp, by simp, by simp, vc ?_⟩
  refine brB_intro (fun h => EndQ.closed (.v _) ⟨?_, rfl⟩) (fun h => EndQ.closed (.v _) ⟨?_, rfl⟩)
  · have h : ¬ l = m := by simpa using h
    simp [h]
  · have h : l = m := by simpa using h
    simp [h]
theorem eqSheetS_ok (xs ys : List (List UInt8)) (hl : xs.length ≤ 2^40) (hs : ∀ x ∈ xs, x.length ≤ 2^40) : CallOk Try.prog 66 [] [Rw (xs.map (shC false)), Rw (ys.map (shC false))] (fun r out => r = Bo (decide (xs = ys)) ∧ out = []) := by
  refine callOk_z (np := 0) {} mixed Try.func66 (by rfl) Try.ntmps66 Try.results66 (by rfl) (Nat.le_of_ble_eq_true rfl) rfl rfl rfl (vc ?_)
  refine brB_intro (fun h => EndQ.closed (.v _) ⟨?_, rfl⟩) (fun h => ?_)
  · have : xs ≠ ys := fun e => by simp [e] at h
    simp [this]
  have h0 : xs.length = ys.length := by
    have : ((xs.length : Nat) : Int) = ys.length := by simpa using h
    omega
  refine loopQ_of (fun i => [(0, Rw (xs.map (shC false))), (1, Rw (ys.map (shC false))), (5, In (i : Nat))]) (fun i => []) 1 (fun i => xs.length - i) (fun i => i ≤ xs.length ∧ xs.take i = ys.take i) 0 ⟨Nat.zero_le _, rfl⟩ [] (by rfl) (vc trivial) (vc trivial) (fun i hi N hN => vc (brB_intro (fun h => ?_) (fun h => ?_)))
  · have h : i < xs.length := by simpa using h
    have hx := List.getElem?_eq_getElem h
    have hy := List.getElem?_eq_getElem (h0 ▸ h)
    refine drawQ_of false (by rfl) (by simp) (vc ?_)
    rw [get_map hx, shC]
    refine vc ?_
    rw [get_map hy, shC]
    refine vc ?_
    refine calld_of [] false [] (eqSheet_ok xs[i] ys[i] (hs _ (List.getElem_mem h))) rfl trivial (vc trivial) (by rfl) ⟨_, _, rfl, rfl⟩ ?_
    rintro r out ⟨rfl, rfl⟩
    refine ⟨by simp, by simp, by simp, vc ?_⟩
    refine brB_intro (fun hb => EndQ.closed (.v _) ⟨?_, rfl⟩) (fun hb => ?_)
    · have hb : ¬ xs[i] = ys[i] := by simpa using hb
      have : xs ≠ ys := fun e => by subst e; exact hb rfl
      simp [this]
    · have hb : xs[i] = ys[i] := by simpa using hb
      refine hN _ (i + 1) [] ⟨h, take_next hi.2 hx hy hb⟩ (by omega) (by rfl) (vc ?_) (vc trivial)
      rw [w64 _ (by omega)]; simp
  · have h : i = xs.length := by simp at h; omega
    refine EndQ.closed (.v _) ⟨?_, rfl⟩
    have : xs = ys := by have := hi.2; rw [h, List.take_length, h0, List.take_length] at this; exact this
    simp [this]
theorem markSheetS_ok (ty : Nat) (xs : List (List UInt8)) (k : Int) (hl : xs.length ≤ 2^60) (hk : 0 ≤ k ∧ k + sumL List.length xs ≤ 2^60) : CallOk Try.prog 68 [.rw ty 1 (xs.map (shC true))] [.sl 1 xs.length, In k]
    (fun r out => r = In (k + sumL List.length xs) ∧ out = [some (.rw ty 1 ((mkL (fun x k => mkB x.length k) List.length xs k).map (shC true)))]) := by
  refine callOk_z (np := 1) { fs := [(4, 4)] } mixed Try.func68 (by rfl) Try.ntmps68 Try.results68 (by rfl) (Nat.le_of_ble_eq_true rfl) rfl rfl rfl (vc ?_)
  generalize hM : mkL (fun (x : List UInt8) k => mkB x.length k) List.length xs k = M
  have hl' : M.length = xs.length := by rw [← hM, mkL_length]
  refine loopQ_of (fun i => [(0, .sl 1 xs.length), (1, In (k + (sumL List.length (xs.take i) : Nat))), (5, In (i : Nat))]) (fun i => [(1, .rw ty 1 ((M.take i ++ xs.drop i).map (shC true)))]) 2 (fun i => xs.length - i) (fun i => i ≤ xs.length) 0 (Nat.zero_le _) [] (by rfl) (vc ?_) (vc ?_) (fun i hi N hN => vc (brB_intro (fun h => ?_) (fun h => ?_)))
  · simp [sumL_nil]
  · simp [HpS, wkO]
  · have h : i < xs.length := by simpa using h
    have hx := List.getElem?_eq_getElem h
    have hm : M[i]? = some (mkB xs[i].length (k + sumL List.length (xs.take i))) := by rw [← hM, mkL_get _ _ hx]
    refine fuseQ_of (vc ?_)
    refine ⟨⟨h, by simp; omega⟩, ?_⟩
    by_cases h0 : xs[i] = []
    · refine fsK_seq (vc ?_)
      rw [mix_get (shC true) hl' hx, h0, shC]
      refine vc ?_
      refine callq_of true [] (markByteS_nil (k + sumL List.length (xs.take i)) ⟨by omega, by have := sumL_le List.length xs i; omega⟩ true) rfl trivial (vc trivial) ?_
      rintro r out ⟨rfl, rfl⟩
      refine ⟨by simp, by simp, fun _ => ⟨.v _, by simp⟩, vc ?_⟩
      refine hN _ (i + 1) [] h (by omega) (by rfl) (vc ?_) (vc ?_)
      · rw [w64 _ (by omega), sumL_next _ hx, h0]; simp
      · rw [h0] at hm
        rw [← mix_set (shC true) hl' hm]
        exact (set_self (by rw [mix_get (shC true) hl' hx, h0]; rfl)).symm
    · refine fsK_tri rfl ⟨rfl, rfl, rfl, rfl, rfl, rfl, rfl, rfl⟩ (by rfl) ti26 rfl rfl rfl (mix_get (shC true) hl' hx) rfl (by simpa [eB] using h0) rfl 1 (eB_one _) _ (eB_length _).symm (fun ty' => markByteS_ok ty' xs[i] (k + sumL List.length (xs.take i)) (by have := sumL_le List.length xs (i + 1); rw [sumL_next _ hx] at this; omega)) (by rfl) (by simp [eB, mkB]) (own_eB _) (vc ?_)
      refine hN _ (i + 1) [] h (by omega) (by rfl) (vc ?_) (vc ?_)
      · rw [w64 _ (by omega), sumL_next _ hx]; simp; omega
      · exact mix_set (shC true) hl' hm
  · have h : i = xs.length := by simp at h; omega
    refine endQ_of [] (In (k + sumL List.length xs)) [some (.rw ty 1 (M.map (shC true)))] (by rfl) (vc ?_) (vc ?_) ⟨rfl, rfl⟩
    · rw [h, List.take_length]
    · rw [mix_all hl' h]
theorem heldSheetS_ok (xs : List (List UInt8)) (k : Int) (hl : xs.length ≤ 2^60) (hk : 0 ≤ k ∧ k + sumL List.length xs ≤ 2^60) : CallOk Try.prog 70 [] [Rw (xs.map (shC false)), In k]
    (fun r out => r = In (if xs = mkL (fun x k => mkB x.length k) List.length xs k then k + sumL List.length xs else -1) ∧ out = []) := by
  refine callOk_z (np := 0) {} mixed Try.func70 (by rfl) Try.ntmps70 Try.results70 (by rfl) (Nat.le_of_ble_eq_true rfl) rfl rfl rfl (vc ?_)
  generalize hM : mkL (fun (x : List UInt8) k => mkB x.length k) List.length xs k = M
  have hl' : M.length = xs.length := by rw [← hM, mkL_length]
  refine loopQ_of (fun i => [(0, Rw (xs.map (shC false))), (1, In (k + (sumL List.length (xs.take i) : Nat))), (5, In (i : Nat))]) (fun i => []) 1 (fun i => xs.length - i) (fun i => i ≤ xs.length ∧ xs.take i = M.take i) 0 ⟨Nat.zero_le _, rfl⟩ [] (by rfl) (vc ?_) (vc trivial) (fun i hi N hN => vc (brB_intro (fun h => ?_) (fun h => ?_)))
  · simp [sumL_nil]
  · have h : i < xs.length := by simpa using h
    have hx := List.getElem?_eq_getElem h
    have hm : M[i]? = some (mkB xs[i].length (k + sumL List.length (xs.take i))) := by rw [← hM, mkL_get _ _ hx]
    have hle := sumL_le List.length xs (i + 1)
    rw [sumL_next _ hx] at hle
    rw [get_map hx, shC]
    refine vc ?_
    refine callq_of false [] (heldByteS_ok xs[i] (k + sumL List.length (xs.take i)) (by omega)) rfl trivial (vc trivial) ?_
    rintro r out ⟨rfl, rfl⟩
    refine ⟨by simp, by simp, by simp, vc ?_⟩
    by_cases he : xs[i] = mkB xs[i].length (k + sumL List.length (xs.take i))
    · rw [if_pos he]
      refine brB_intro (fun hb => ?_) (fun hb => ?_)
      · have hb : k + sumL List.length (xs.take i) + xs[i].length < 0 := by simpa using hb
        omega
      · refine hN _ (i + 1) [] ⟨h, take_next hi.2 hx hm he⟩ (by omega) (by rfl) (vc ?_) (vc trivial)
        rw [w64 _ (by omega), sumL_next _ hx]; simp; omega
    · rw [if_neg he]
      refine brB_intro (fun hb => EndQ.closed (.v _) ⟨?_, rfl⟩) (fun hb => absurd hb (by decide))
      rw [if_neg (fun e => he (by rw [← e, hx] at hm; exact Option.some.inj hm))]
  · have h : i = xs.length := by simp at h; omega
    refine EndQ.closed (.v _) ⟨?_, rfl⟩
    have : xs = M := by have := hi.2; rw [h, List.take_length, ← hl', List.take_length] at this; exact this
    rw [if_pos this, h, List.take_length]
theorem eqWrite_ok (a b : Int) (l m : List UInt8) (hl : l.length ≤ 2^40) : CallOk Try.prog 122 [] [.ag [In a, Rw (eB l)], .ag [In b, Rw (eB m)]] (fun r out => r = Bo (decide ((a, l) = (b, m))) ∧ out = []) := by
  refine callOk_z (np := 0) {} mixed Try.func122 (by rfl) Try.ntmps122 Try.results122 (by rfl) (Nat.le_of_ble_eq_true rfl) rfl rfl rfl (vc ?_)
  refine brB_intro (fun h => EndQ.closed (.v _) ⟨?_, rfl⟩) (fun h => ?_)
  · have h : ¬ a = b := by simpa using h
    simp [h]
  have h : a = b := by simpa using h
  refine callq_of false [] (eqByteS_ok l m hl) rfl trivial (vc trivial) ?_
  rintro r out ⟨rfl, rfl⟩
  refine ⟨by simp, by simp, by simp, vc ?_⟩
  refine brB_intro (fun h => EndQ.closed (.v _) ⟨?_, rfl⟩) (fun h => EndQ.closed (.v _) ⟨?_, rfl⟩)
  · have h : ¬ l = m := by simpa using h
    simp [h]
  · have h : l = m := by simpa using h
    simp [*]
theorem eqWriteS_ok (xs ys : List (Int × List UInt8)) (hl : xs.length ≤ 2^40) (hs : ∀ x ∈ xs, x.2.length ≤ 2^40) : CallOk Try.prog 67 [] [Rw (xs.map (wrC false)), Rw (ys.map (wrC false))] (fun r out => r = Bo (decide (xs = ys)) ∧ out = []) := by
  refine callOk_z (np := 0) {} mixed Try.func67 (by rfl) Try.ntmps67 Try.results67 (by rfl) (Nat.le_of_ble_eq_true rfl) rfl rfl rfl (vc ?_)
  refine brB_intro (fun h => EndQ.closed (.v _) ⟨?_, rfl⟩) (fun h => ?_)
  · have : xs ≠ ys := fun e => by simp [e] at h
    simp [this]
  have h0 : xs.length = ys.length := by
    have : ((xs.length : Nat) : Int) = ys.length := by simpa using h
    omega
  refine loopQ_of (fun i => [(0, Rw (xs.map (wrC false))), (1, Rw (ys.map (wrC false))), (5, In (i : Nat))]) (fun i => []) 1 (fun i => xs.length - i) (fun i => i ≤ xs.length ∧ xs.take i = ys.take i) 0 ⟨Nat.zero_le _, rfl⟩ [] (by rfl) (vc trivial) (vc trivial) (fun i hi N hN => vc (brB_intro (fun h => ?_) (fun h => ?_)))
  · have h : i < xs.length := by simpa using h
    have hx := List.getElem?_eq_getElem h
    have hy := List.getElem?_eq_getElem (h0 ▸ h)
    refine drawQ_of false (by rfl) (by simp) (vc ?_)
    rw [get_map hx, wrC]
    refine vc ?_
    rw [get_map hy, wrC]
    refine vc ?_
    refine calld_of [] false [] (eqWrite_ok xs[i].1 ys[i].1 xs[i].2 ys[i].2 (hs _ (List.getElem_mem h))) rfl trivial (vc trivial) (by rfl) ⟨_, _, rfl, rfl⟩ ?_
    rintro r out ⟨rfl, rfl⟩
    refine ⟨by simp, by simp, by simp, vc ?_⟩
    refine brB_intro (fun hb => EndQ.closed (.v _) ⟨?_, rfl⟩) (fun hb => ?_)
    · have hb : ¬ xs[i] = ys[i] := fun e => by rw [e] at hb; simp at hb
      have : xs ≠ ys := fun e => by subst e; exact hb rfl
      simp [this]
    · have hb : xs[i] = ys[i] := by simpa [Prod.ext_iff] using hb
      refine hN _ (i + 1) [] ⟨h, take_next hi.2 hx hy hb⟩ (by omega) (by rfl) (vc ?_) (vc trivial)
      rw [w64 _ (by omega)]; simp
  · have h : i = xs.length := by simp at h; omega
    refine EndQ.closed (.v _) ⟨?_, rfl⟩
    have : xs = ys := by have := hi.2; rw [h, List.take_length, h0, List.take_length] at this; exact this
    simp [this]

theorem eqDisk_ok (d e : Dk) (hd : d.fits (2^40)) : CallOk Try.prog 17 [] [d.rd, e.rd] (fun r out => r = Bo (decide (d = e)) ∧ out = []) := by
  unfold Dk.rd
  refine callOk_z (np := 0) {} mixed Try.func17 (by rfl) Try.ntmps17 Try.results17 (by rfl) (Nat.le_of_ble_eq_true rfl) rfl rfl rfl (vc ?_)
  refine callq_of false [] (eqSheetS_ok d.sh e.sh hd.1 hd.2.1) rfl trivial (vc trivial) ?_
  rintro r out ⟨rfl, rfl⟩
  refine ⟨by simp, by simp, by simp, vc ?_⟩
  refine brB_intro (fun h => EndQ.closed (.v _) ⟨?_, rfl⟩) (fun h => ?_)
  · have h : ¬ d.sh = e.sh := by simpa using h
    have : d ≠ e := fun x => h (by rw [x])
    simp [this]
  have h : d.sh = e.sh := by simpa using h
  refine callq_of false [] (eqWriteS_ok d.wr e.wr hd.2.2.1 hd.2.2.2) rfl trivial (vc trivial) ?_
  rintro r out ⟨rfl, rfl⟩
  refine ⟨by simp, by simp, by simp, vc ?_⟩
  refine brB_intro (fun h => EndQ.closed (.v _) ⟨?_, rfl⟩) (fun h => EndQ.closed (.v _) ⟨?_, rfl⟩)
  · have h : ¬ d.wr = e.wr := by simpa using h
    have : d ≠ e := fun x => h (by rw [x])
    simp [this]
  · have h : d.wr = e.wr := by simpa using h
    have : d = e := by cases d; cases e; simp_all
    simp [this]
def mkW (x : Int × List UInt8) (k : Int) : Int × List UInt8 := (k, mkB x.2.length (k + 1))
def cntW (x : Int × List UInt8) : Nat := x.2.length + 1
theorem markWriteS_ok (ty : Nat) (xs : List (Int × List UInt8)) (k : Int) (hl : xs.length ≤ 2^60) (hk : 0 ≤ k ∧ k + sumL cntW xs ≤ 2^60) : CallOk Try.prog 69 [.rw ty 2 (xs.map (wrC true))] [.sl 1 xs.length, In k]
    (fun r out => r = In (k + sumL cntW xs) ∧ out = [some (.rw ty 2 ((mkL mkW cntW xs k).map (wrC true)))]) := by
  refine callOk_z (np := 1) { fs := [(6, 4)] } mixed Try.func69 (by rfl) Try.ntmps69 Try.results69 (by rfl) (Nat.le_of_ble_eq_true rfl) rfl rfl rfl (vc ?_)
  generalize hM : mkL mkW cntW xs k = M
  have hl' : M.length = xs.length := by rw [← hM, mkL_length]
  refine loopQ_of (fun i => [(0, .sl 1 xs.length), (1, In (k + (sumL cntW (xs.take i) : Nat))), (5, In (i : Nat))]) (fun i => [(1, .rw ty 2 ((M.take i ++ xs.drop i).map (wrC true)))]) 2 (fun i => xs.length - i) (fun i => i ≤ xs.length) 0 (Nat.zero_le _) [] (by rfl) (vc ?_) (vc ?_) (fun i hi N hN => vc (brB_intro (fun h => ?_) (fun h => ?_)))
  · simp [sumL_nil]
  · simp [HpS, wkO]
  · have h : i < xs.length := by simpa using h
    have hx := List.getElem?_eq_getElem h
    have hm : M[i]? = some (mkW xs[i] (k + sumL cntW (xs.take i))) := by rw [← hM, mkL_get _ _ hx]
    have hle := sumL_le cntW xs (i + 1)
    rw [sumL_next _ hx, cntW] at hle
    refine ⟨⟨h, by simp; omega⟩, ?_⟩
    rw [mix_get (wrC true) hl' hx, wrC]
    refine vc ?_
    generalize hA : (M.take i ++ xs.drop i).map (wrC true) = A
    have hAl : A.length = xs.length := by rw [← hA]; simp; omega
    have hset : (A.set i [CV.v (.int .i64 (k + ↑(sumL cntW (xs.take i)))), CV.row true (eB xs[i].2)])[i]? = some _ := List.getElem?_set_self (by omega)
    rw [w64 (k + _ + 1) (by omega)]
    refine fuseQ_of (vc ?_)
    refine ⟨⟨h, by omega⟩, ?_⟩
    by_cases h0 : xs[i].2 = []
    · refine fsK_seq (vc ?_)
      rw [hset, h0]
      refine vc ?_
      refine callq_of true [] (markByteS_nil (k + sumL cntW (xs.take i) + 1) (by omega) true) rfl trivial (vc trivial) ?_
      rintro r out ⟨rfl, rfl⟩
      refine ⟨by simp, by simp, fun _ => ⟨.v _, by simp⟩, vc ?_⟩
      refine hN _ (i + 1) [] h (by omega) (by rfl) (vc ?_) (vc ?_)
      · rw [w64 _ (by omega), sumL_next _ hx, cntW, h0]; simp; omega
      · rw [mkW, h0] at hm
        rw [← mix_set (wrC true) hl' hm, hA]; rfl
    · refine fsK_tri rfl ⟨rfl, rfl, rfl, rfl, rfl, rfl, rfl, rfl⟩ (by rfl) ti26 rfl rfl rfl hset rfl (by simpa [eB] using h0) rfl 1 (eB_one _) _ (eB_length _).symm (fun ty' => markByteS_ok ty' xs[i].2 (k + sumL cntW (xs.take i) + 1) (by omega)) (by rfl) (by simp [eB, mkB]) (own_eB _) (vc ?_)
      refine hN _ (i + 1) [] h (by omega) (by rfl) (vc ?_) (vc ?_)
      · rw [w64 _ (by omega), sumL_next _ hx, cntW]; simp; omega
      · rw [← mix_set (wrC true) hl' hm, hA]; rfl
  · have h : i = xs.length := by simp at h; omega
    refine endQ_of [] (In (k + sumL cntW xs)) [some (.rw ty 2 (M.map (wrC true)))] (by rfl) (vc ?_) (vc ?_) ⟨rfl, rfl⟩
    · rw [h, List.take_length]
    · rw [mix_all hl' h]
theorem heldWriteS_ok (xs : List (Int × List UInt8)) (k : Int) (hl : xs.length ≤ 2^60) (hk : 0 ≤ k ∧ k + sumL cntW xs ≤ 2^60) : CallOk Try.prog 71 [] [Rw (xs.map (wrC false)), In k]
    (fun r out => r = In (if xs = mkL mkW cntW xs k then k + sumL cntW xs else -1) ∧ out = []) := by
  refine callOk_z (np := 0) {} mixed Try.func71 (by rfl) Try.ntmps71 Try.results71 (by rfl) (Nat.le_of_ble_eq_true rfl) rfl rfl rfl (vc ?_)
  generalize hM : mkL mkW cntW xs k = M
  have hl' : M.length = xs.length := by rw [← hM, mkL_length]
  refine loopQ_of (fun i => [(0, Rw (xs.map (wrC false))), (1, In (k + (sumL cntW (xs.take i) : Nat))), (5, In (i : Nat))]) (fun i => []) 1 (fun i => xs.length - i) (fun i => i ≤ xs.length ∧ xs.take i = M.take i) 0 ⟨Nat.zero_le _, rfl⟩ [] (by rfl) (vc ?_) (vc trivial) (fun i hi N hN => vc (brB_intro (fun h => ?_) (fun h => ?_)))
  · simp [sumL_nil]
  · have h : i < xs.length := by simpa using h
    have hx := List.getElem?_eq_getElem h
    have hm : M[i]? = some (mkW xs[i] (k + sumL cntW (xs.take i))) := by rw [← hM, mkL_get _ _ hx]
    have hle := sumL_le cntW xs (i + 1)
    rw [sumL_next _ hx, cntW] at hle
    have hne : xs[i] ≠ mkW xs[i] (k + sumL cntW (xs.take i)) → ¬ xs = M := fun he e => he (by rw [← e, hx] at hm; exact Option.some.inj hm)
    rw [get_map hx, wrC]
    refine vc ?_
    refine brB_intro (fun hb => EndQ.closed (.v _) ⟨?_, rfl⟩) (fun hb => ?_)
    · have hb : ¬ xs[i].1 = k + sumL cntW (xs.take i) := by simpa using hb
      rw [if_neg (hne (fun e => hb (congrArg Prod.fst e)))]
    have hb : xs[i].1 = k + sumL cntW (xs.take i) := by simpa using hb
    rw [w64 (k + _ + 1) (by omega), get_map hx, wrC]
    refine vc ?_
    refine callq_of false [] (heldByteS_ok xs[i].2 (k + sumL cntW (xs.take i) + 1) (by omega)) rfl trivial (vc trivial) ?_
    rintro r out ⟨rfl, rfl⟩
    refine ⟨by simp, by simp, by simp, vc ?_⟩
    by_cases he : xs[i].2 = mkB xs[i].2.length (k + sumL cntW (xs.take i) + 1)
    · rw [if_pos he]
      refine brB_intro (fun hb => ?_) (fun hb => ?_)
      · have hb : k + sumL cntW (xs.take i) + 1 + xs[i].2.length < 0 := by simpa using hb
        omega
      · refine hN _ (i + 1) [] ⟨h, take_next hi.2 hx hm (Prod.ext (by assumption) he)⟩ (by omega) (by rfl) (vc ?_) (vc trivial)
        rw [w64 _ (by omega), sumL_next _ hx, cntW]; simp; omega
    · rw [if_neg he]
      refine brB_intro (fun hb => EndQ.closed (.v _) ⟨?_, rfl⟩) (fun hb => absurd hb (by decide))
      rw [if_neg (hne (fun e => he (congrArg Prod.snd e)))]
  · have h : i = xs.length := by simp at h; omega
    refine EndQ.closed (.v _) ⟨?_, rfl⟩
    have : xs = M := by have := hi.2; rw [h, List.take_length, ← hl', List.take_length] at this; exact this
    rw [if_pos this, h, List.take_length]
/-- What a mark writes into a disk. -/
def Dk.cnt (d : Dk) : Nat := sumL List.length d.sh + sumL cntW d.wr
def mkD (d : Dk) (k : Int) : Dk := ⟨mkL (fun x k => mkB x.length k) List.length d.sh k, mkL mkW cntW d.wr (k + sumL List.length d.sh)⟩
theorem mkB_idem (x : List UInt8) (k : Int) : mkB (mkB x.length k).length k = mkB x.length k ∧ (mkB x.length k).length = x.length := by
  rw [mkB_length]; exact ⟨rfl, rfl⟩
theorem mkW_idem (x : Int × List UInt8) (k : Int) : mkW (mkW x k) k = mkW x k ∧ cntW (mkW x k) = cntW x := by
  simp [mkW, cntW, mkB_length]
theorem mkD_idem (d : Dk) (k : Int) : mkD (mkD d k) k = mkD d k ∧ (mkD d k).cnt = d.cnt := by
  have h1 := mkL_idem (f := fun x k => mkB x.length k) (c := List.length) mkB_idem d.sh k
  have h2 := mkL_idem (c := cntW) mkW_idem d.wr (k + sumL List.length d.sh)
  simp only [mkD, Dk.cnt]
  rw [h1.1, h1.2, h2.1, h2.2]
  exact ⟨rfl, rfl⟩
theorem markDisk_ok (ty ty' : Nat) (d : Dk) (k : Int) (hl : d.sh.length ≤ 2^60 ∧ d.wr.length ≤ 2^60) (hk : 0 ≤ k ∧ k + d.cnt ≤ 2^60) : CallOk Try.prog 19 [.rw ty 1 (d.sh.map (shC true)), .rw ty' 2 (d.wr.map (wrC true))] [d.ow, In k]
    (fun r out => r = In (k + d.cnt) ∧ out = [some (.rw ty 1 ((mkD d k).sh.map (shC true))), some (.rw ty' 2 ((mkD d k).wr.map (wrC true)))]) := by
  unfold Dk.ow
  unfold Dk.cnt at hk ⊢
  refine callOk_z (np := 2) {} mixed Try.func19 (by rfl) Try.ntmps19 Try.results19 (by rfl) (Nat.le_of_ble_eq_true rfl) rfl rfl rfl (vc ?_)
  refine callq_of false [1] (markSheetS_ok ty d.sh k hl.1 (by omega)) rfl (vc trivial) (vc trivial) ?_
  rintro r out ⟨rfl, rfl⟩
  refine ⟨by simp, by simp, by simp, vc ?_⟩
  refine callq_of false [2] (markWriteS_ok ty' d.wr (k + sumL List.length d.sh) hl.2 (by omega)) rfl (vc trivial) (vc trivial) ?_
  rintro r out ⟨rfl, rfl⟩
  refine ⟨by simp, by simp, by simp, vc ?_⟩
  refine endQ_of [] (In (k + (sumL List.length d.sh + sumL cntW d.wr : Nat))) [some (.rw ty 1 ((mkD d k).sh.map (shC true))), some (.rw ty' 2 ((mkD d k).wr.map (wrC true)))] (by rfl) (vc ?_) (vc ?_) ⟨rfl, rfl⟩
  all_goals trace_state
  · omega
  · exact ⟨rfl, rfl⟩
theorem heldDisk_ok (d : Dk) (k : Int) (hl : d.sh.length ≤ 2^60 ∧ d.wr.length ≤ 2^60) (hk : 0 ≤ k ∧ k + d.cnt ≤ 2^60) : CallOk Try.prog 21 [] [d.rd, In k]
    (fun r out => r = In (if d = mkD d k then k + d.cnt else -1) ∧ out = []) := by
  unfold Dk.rd
  unfold Dk.cnt at hk ⊢
  refine callOk_z (np := 0) {} mixed Try.func21 (by rfl) Try.ntmps21 Try.results21 (by rfl) (Nat.le_of_ble_eq_true rfl) rfl rfl rfl (vc ?_)
  refine callq_of false [] (heldSheetS_ok d.sh k hl.1 (by omega)) rfl trivial (vc trivial) ?_
  rintro r out ⟨rfl, rfl⟩
  refine ⟨by simp, by simp, by simp, vc ?_⟩
  by_cases h1 : d.sh = mkL (fun x k => mkB x.length k) List.length d.sh k
  · rw [if_pos h1]
    refine brB_intro (fun h => ?_) (fun h => ?_)
    · have h : k + sumL List.length d.sh < 0 := by simpa using h
      omega
    refine callq_of false [] (heldWriteS_ok d.wr (k + sumL List.length d.sh) hl.2 (by omega)) rfl trivial (vc trivial) ?_
    rintro r out ⟨rfl, rfl⟩
    refine ⟨by simp, by simp, by simp, vc ?_⟩
    by_cases h2 : d.wr = mkL mkW cntW d.wr (k + sumL List.length d.sh)
    · rw [if_pos h2]
      have he : d = mkD d k := by rw [mkD, ← h1, ← h2]
      refine brB_intro (fun h => ?_) (fun h => EndQ.closed (.v _) ⟨?_, rfl⟩)
      · have h : k + sumL List.length d.sh + sumL cntW d.wr < 0 := by simpa using h
        omega
      · rw [if_pos he, Int.natCast_add, Int.add_assoc]
    · rw [if_neg h2]
      refine brB_intro (fun hb => EndQ.closed (.v _) ⟨?_, rfl⟩) (fun hb => absurd hb (by decide))
      rw [if_neg (fun e => h2 (congrArg Dk.wr e))]
  · rw [if_neg h1]
    refine brB_intro (fun hb => EndQ.closed (.v _) ⟨?_, rfl⟩) (fun hb => absurd hb (by decide))
    rw [if_neg (fun e => h1 (congrArg Dk.sh e))]
theorem mkD_lens (d : Dk) (k : Int) : (mkD d k).sh.length = d.sh.length ∧ (mkD d k).wr.length = d.wr.length := ⟨mkL_length .., mkL_length ..⟩
theorem heldMarked_ok (d : Dk) (k : Int) (hl : d.sh.length ≤ 2^60 ∧ d.wr.length ≤ 2^60) (hk : 0 ≤ k ∧ k + d.cnt ≤ 2^60) : CallOk Try.prog 21 [] [(mkD d k).rd, In k] (fun r out => r = In (k + d.cnt) ∧ out = []) := by
  have h := heldDisk_ok (mkD d k) k (by rw [(mkD_lens d k).1, (mkD_lens d k).2]; exact hl) (by rw [(mkD_idem d k).2]; exact hk)
  rwa [(mkD_idem d k).1, (mkD_idem d k).2, if_pos rfl] at h
end Go.Proofs.Ytnnmpdanfeejbaa.Abs
