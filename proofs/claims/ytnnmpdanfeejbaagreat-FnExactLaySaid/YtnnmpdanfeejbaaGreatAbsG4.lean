import Derived.Test.YtnnmpdanfeejbaaGreatAbsG3
/- The laws' helpers on sheets, writes, disks: equality, marks. -/
namespace Go.Proofs.YtnnmpdanfeejbaaGreat.Abs
open Go Go.Proofs
set_option maxRecDepth 10000
set_option linter.unusedVariables false
set_option linter.unusedSimpArgs false
theorem eqSheet_ok (l m : List UInt8) (hl : l.length ≤ 2^40) : CallOk Tryz.prog 111 [] [.ag [Rw (eB l)], .ag [Rw (eB m)]] (fun r out => r = Bo (decide (l = m)) ∧ out = []) := by
  refine callOk_z (np := 0) {} mixed Tryz.func111 (by rfl) Tryz.ntmps111 Tryz.results111 (by rfl) (Nat.le_of_ble_eq_true rfl) rfl rfl rfl (vc ?_)
  refine callq_of false [] (eqByteS_ok l m hl) rfl trivial (vc trivial) ?_
  rintro r out ⟨rfl, rfl⟩
  refine ⟨by simp, by simp, by simp, vc ?_⟩
  refine brB_intro (fun h => EndQ.closed (.v _) ⟨?_, rfl⟩) (fun h => EndQ.closed (.v _) ⟨?_, rfl⟩)
  · have h : ¬ l = m := by simpa using h
    simp [h]
  · have h : l = m := by simpa using h
    simp [h]
theorem eqSheetS_ok (xs ys : List (List UInt8)) (hl : xs.length ≤ 2^40) (hs : ∀ x ∈ xs, x.length ≤ 2^40) : CallOk Tryz.prog 52 [] [Rw (xs.map (shC false)), Rw (ys.map (shC false))] (fun r out => r = Bo (decide (xs = ys)) ∧ out = []) := by
  refine callOk_z (np := 0) {} mixed Tryz.func52 (by rfl) Tryz.ntmps52 Tryz.results52 (by rfl) (Nat.le_of_ble_eq_true rfl) rfl rfl rfl (vc ?_)
  refine brB_intro (fun h => EndQ.closed (.v _) ⟨?_, rfl⟩) (fun h => ?_)
  · have : xs ≠ ys := fun e => by simp [e] at h
    simp [this]
  have h0 : xs.length = ys.length := by
    have : ((xs.length : Nat) : Int) = ys.length := by simpa using h
    omega
  refine loopQ_of (fun i => [(0, Rw (xs.map (shC false))), (1, Rw (ys.map (shC false))), (5, In (i : Nat))]) (fun i => []) 1 (fun i => xs.length - i) (fun i => i ≤ xs.length ∧ xs.take i = ys.take i) 0 ⟨Nat.zero_le _, rfl⟩ [] (by rfl) (vc trivial) (vc trivial) (fun i hi N hN => vc (brB_intro (fun h => ?_) (fun h => ?_)))
  · have h : i < xs.length := by simpa using h
    have hx := List.getElem?_eq_getElem h
    have hy := List.getElem?_eq_getElem (h0 ▸ h)
    refine drawQ_of false (by rfl) (by simp) (vc ?_)
    rw [get_map hx, shC]
    refine vc ?_
    rw [get_map hy, shC]
    refine vc ?_
    refine calld_of [] false [] (eqSheet_ok xs[i] ys[i] (hs _ (List.getElem_mem h))) rfl trivial (vc trivial) (by rfl) ⟨_, _, rfl, rfl⟩ ?_
    rintro r out ⟨rfl, rfl⟩
    refine ⟨by simp, by simp, by simp, vc ?_⟩
    refine brB_intro (fun hb => EndQ.closed (.v _) ⟨?_, rfl⟩) (fun hb => ?_)
    · have hb : ¬ xs[i] = ys[i] := by simpa using hb
      have : xs ≠ ys := fun e => by subst e; exact hb rfl
      simp [this]
    · have hb : xs[i] = ys[i] := by simpa using hb
      refine hN _ (i + 1) [] ⟨h, take_next hi.2 hx hy hb⟩ (by omega) (by rfl) (vc ?_) (vc trivial)
      rw [w64 _ (by omega)]; simp
  · have h : i = xs.length := by simp at h; omega
    refine EndQ.closed (.v _) ⟨?_, rfl⟩
    have : xs = ys := by have := hi.2; rw [h, List.take_length, h0, List.take_length] at this; exact this
    simp [this]
theorem markSheetS_ok (ty : Nat) (xs : List (List UInt8)) (k : Int) (hl : xs.length ≤ 2^60) (hk : 0 ≤ k ∧ k + sumL List.length xs ≤ 2^60) : CallOk Tryz.prog 54 [.rw ty 1 (xs.map (shC true))] [.sl 1 xs.length, In k]
    (fun r out => r = In (k + sumL List.length xs) ∧ out = [some (.rw ty 1 ((mkL (fun x k => mkB x.length k) List.length xs k).map (shC true)))]) := by
  refine callOk_z (np := 1) { fs := [(4, 4)] } mixed Tryz.func54 (by rfl) Tryz.ntmps54 Tryz.results54 (by rfl) (Nat.le_of_ble_eq_true rfl) rfl rfl rfl (vc ?_)
  generalize hM : mkL (fun (x : List UInt8) k => mkB x.length k) List.length xs k = M
  have hl' : M.length = xs.length := by rw [← hM, mkL_length]
  refine loopQ_of (fun i => [(0, .sl 1 xs.length), (1, In (k + (sumL List.length (xs.take i) : Nat))), (5, In (i : Nat))]) (fun i => [(1, .rw ty 1 ((M.take i ++ xs.drop i).map (shC true)))]) 2 (fun i => xs.length - i) (fun i => i ≤ xs.length) 0 (Nat.zero_le _) [] (by rfl) (vc ?_) (vc ?_) (fun i hi N hN => vc (brB_intro (fun h => ?_) (fun h => ?_)))
  · simp [sumL_nil]
  · simp [HpS, wkO]
  · have h : i < xs.length := by simpa using h
    have hx := List.getElem?_eq_getElem h
    have hm : M[i]? = some (mkB xs[i].length (k + sumL List.length (xs.take i))) := by rw [← hM, mkL_get _ _ hx]
    refine fuseQ_of (vc ?_)
    refine ⟨⟨h, by simp; omega⟩, ?_⟩
    by_cases h0 : xs[i] = []
    · refine fsK_seq (vc ?_)
      rw [mix_get (shC true) hl' hx, h0, shC]
      refine vc ?_
      refine callq_of true [] (markByteS_nil (k + sumL List.length (xs.take i)) ⟨by omega, by have := sumL_le List.length xs i; omega⟩ true) rfl trivial (vc trivial) ?_
      rintro r out ⟨rfl, rfl⟩
      refine ⟨by simp, by simp, fun _ => ⟨.v _, by simp⟩, vc ?_⟩
      refine hN _ (i + 1) [] h (by omega) (by rfl) (vc ?_) (vc ?_)
      · rw [w64 _ (by omega), sumL_next _ hx, h0]; simp
      · rw [h0] at hm
        rw [← mix_set (shC true) hl' hm]
        exact (set_self (by rw [mix_get (shC true) hl' hx, h0]; rfl)).symm
    · refine fsK_tri rfl ⟨rfl, rfl, rfl, rfl, rfl, rfl, rfl, rfl⟩ (by rfl) ti69 rfl rfl rfl (mix_get (shC true) hl' hx) rfl (by simpa [eB] using h0) rfl 1 (eB_one _) _ (eB_length _).symm (fun ty' => markByteS_ok ty' xs[i] (k + sumL List.length (xs.take i)) (by have := sumL_le List.length xs (i + 1); rw [sumL_next _ hx] at this; omega)) (by rfl) (by simp [eB, mkB]) (own_eB _) (vc ?_)
      refine hN _ (i + 1) [] h (by omega) (by rfl) (vc ?_) (vc ?_)
      · rw [w64 _ (by omega), sumL_next _ hx]; simp; omega
      · exact mix_set (shC true) hl' hm
  · have h : i = xs.length := by simp at h; omega
    refine endQ_of [] (In (k + sumL List.length xs)) [some (.rw ty 1 (M.map (shC true)))] (by rfl) (vc ?_) (vc ?_) ⟨rfl, rfl⟩
    · rw [h, List.take_length]
    · rw [mix_all hl' h]
theorem eqWrite_ok (a b : Int) (l m : List UInt8) (hl : l.length ≤ 2^40) : CallOk Tryz.prog 112 [] [.ag [In a, Rw (eB l)], .ag [In b, Rw (eB m)]] (fun r out => r = Bo (decide ((a, l) = (b, m))) ∧ out = []) := by
  refine callOk_z (np := 0) {} mixed Tryz.func112 (by rfl) Tryz.ntmps112 Tryz.results112 (by rfl) (Nat.le_of_ble_eq_true rfl) rfl rfl rfl (vc ?_)
  refine brB_intro (fun h => EndQ.closed (.v _) ⟨?_, rfl⟩) (fun h => ?_)
  · have h : ¬ a = b := by simpa using h
    simp [h]
  have h : a = b := by simpa using h
  refine callq_of false [] (eqByteS_ok l m hl) rfl trivial (vc trivial) ?_
  rintro r out ⟨rfl, rfl⟩
  refine ⟨by simp, by simp, by simp, vc ?_⟩
  refine brB_intro (fun h => EndQ.closed (.v _) ⟨?_, rfl⟩) (fun h => EndQ.closed (.v _) ⟨?_, rfl⟩)
  · have h : ¬ l = m := by simpa using h
    simp [h]
  · have h : l = m := by simpa using h
    simp [*]
theorem eqWriteS_ok (xs ys : List (Int × List UInt8)) (hl : xs.length ≤ 2^40) (hs : ∀ x ∈ xs, x.2.length ≤ 2^40) : CallOk Tryz.prog 53 [] [Rw (xs.map (wrC false)), Rw (ys.map (wrC false))] (fun r out => r = Bo (decide (xs = ys)) ∧ out = []) := by
  refine callOk_z (np := 0) {} mixed Tryz.func53 (by rfl) Tryz.ntmps53 Tryz.results53 (by rfl) (Nat.le_of_ble_eq_true rfl) rfl rfl rfl (vc ?_)
  refine brB_intro (fun h => EndQ.closed (.v _) ⟨?_, rfl⟩) (fun h => ?_)
  · have : xs ≠ ys := fun e => by simp [e] at h
    simp [this]
  have h0 : xs.length = ys.length := by
    have : ((xs.length : Nat) : Int) = ys.length := by simpa using h
    omega
  refine loopQ_of (fun i => [(0, Rw (xs.map (wrC false))), (1, Rw (ys.map (wrC false))), (5, In (i : Nat))]) (fun i => []) 1 (fun i => xs.length - i) (fun i => i ≤ xs.length ∧ xs.take i = ys.take i) 0 ⟨Nat.zero_le _, rfl⟩ [] (by rfl) (vc trivial) (vc trivial) (fun i hi N hN => vc (brB_intro (fun h => ?_) (fun h => ?_)))
  · have h : i < xs.length := by simpa using h
    have hx := List.getElem?_eq_getElem h
    have hy := List.getElem?_eq_getElem (h0 ▸ h)
    refine drawQ_of false (by rfl) (by simp) (vc ?_)
    rw [get_map hx, wrC]
    refine vc ?_
    rw [get_map hy, wrC]
    refine vc ?_
    refine calld_of [] false [] (eqWrite_ok xs[i].1 ys[i].1 xs[i].2 ys[i].2 (hs _ (List.getElem_mem h))) rfl trivial (vc trivial) (by rfl) ⟨_, _, rfl, rfl⟩ ?_
    rintro r out ⟨rfl, rfl⟩
    refine ⟨by simp, by simp, by simp, vc ?_⟩
    refine brB_intro (fun hb => EndQ.closed (.v _) ⟨?_, rfl⟩) (fun hb => ?_)
    · have hb : ¬ xs[i] = ys[i] := fun e => by rw [e] at hb; simp at hb
      have : xs ≠ ys := fun e => by subst e; exact hb rfl
      simp [this]
    · have hb : xs[i] = ys[i] := by simpa [Prod.ext_iff] using hb
      refine hN _ (i + 1) [] ⟨h, take_next hi.2 hx hy hb⟩ (by omega) (by rfl) (vc ?_) (vc trivial)
      rw [w64 _ (by omega)]; simp
  · have h : i = xs.length := by simp at h; omega
    refine EndQ.closed (.v _) ⟨?_, rfl⟩
    have : xs = ys := by have := hi.2; rw [h, List.take_length, h0, List.take_length] at this; exact this
    simp [this]

theorem eqDisk_ok (d e : Dk) (hd : d.fits (2^40)) : CallOk Tryz.prog 13 [] [d.rd, e.rd] (fun r out => r = Bo (decide (d = e)) ∧ out = []) := by
  unfold Dk.rd
  refine callOk_z (np := 0) {} mixed Tryz.func13 (by rfl) Tryz.ntmps13 Tryz.results13 (by rfl) (Nat.le_of_ble_eq_true rfl) rfl rfl rfl (vc ?_)
  refine callq_of false [] (eqSheetS_ok d.sh e.sh hd.1 hd.2.1) rfl trivial (vc trivial) ?_
  rintro r out ⟨rfl, rfl⟩
  refine ⟨by simp, by simp, by simp, vc ?_⟩
  refine brB_intro (fun h => EndQ.closed (.v _) ⟨?_, rfl⟩) (fun h => ?_)
  · have h : ¬ d.sh = e.sh := by simpa using h
    have : d ≠ e := fun x => h (by rw [x])
    simp [this]
  have h : d.sh = e.sh := by simpa using h
  refine callq_of false [] (eqWriteS_ok d.wr e.wr hd.2.2.1 hd.2.2.2) rfl trivial (vc trivial) ?_
  rintro r out ⟨rfl, rfl⟩
  refine ⟨by simp, by simp, by simp, vc ?_⟩
  refine brB_intro (fun h => EndQ.closed (.v _) ⟨?_, rfl⟩) (fun h => EndQ.closed (.v _) ⟨?_, rfl⟩)
  · have h : ¬ d.wr = e.wr := by simpa using h
    have : d ≠ e := fun x => h (by rw [x])
    simp [this]
  · have h : d.wr = e.wr := by simpa using h
    have : d = e := by cases d; cases e; simp_all
    simp [this]
def mkW (x : Int × List UInt8) (k : Int) : Int × List UInt8 := (k, mkB x.2.length (k + 1))
def cntW (x : Int × List UInt8) : Nat := x.2.length + 1
theorem markWriteS_ok (ty : Nat) (xs : List (Int × List UInt8)) (k : Int) (hl : xs.length ≤ 2^60) (hk : 0 ≤ k ∧ k + sumL cntW xs ≤ 2^60) : CallOk Tryz.prog 55 [.rw ty 2 (xs.map (wrC true))] [.sl 1 xs.length, In k]
    (fun r out => r = In (k + sumL cntW xs) ∧ out = [some (.rw ty 2 ((mkL mkW cntW xs k).map (wrC true)))]) := by
  refine callOk_z (np := 1) { fs := [(6, 4)] } mixed Tryz.func55 (by rfl) Tryz.ntmps55 Tryz.results55 (by rfl) (Nat.le_of_ble_eq_true rfl) rfl rfl rfl (vc ?_)
  generalize hM : mkL mkW cntW xs k = M
  have hl' : M.length = xs.length := by rw [← hM, mkL_length]
  refine loopQ_of (fun i => [(0, .sl 1 xs.length), (1, In (k + (sumL cntW (xs.take i) : Nat))), (5, In (i : Nat))]) (fun i => [(1, .rw ty 2 ((M.take i ++ xs.drop i).map (wrC true)))]) 2 (fun i => xs.length - i) (fun i => i ≤ xs.length) 0 (Nat.zero_le _) [] (by rfl) (vc ?_) (vc ?_) (fun i hi N hN => vc (brB_intro (fun h => ?_) (fun h => ?_)))
  · simp [sumL_nil]
  · simp [HpS, wkO]
  · have h : i < xs.length := by simpa using h
    have hx := List.getElem?_eq_getElem h
    have hm : M[i]? = some (mkW xs[i] (k + sumL cntW (xs.take i))) := by rw [← hM, mkL_get _ _ hx]
    have hle := sumL_le cntW xs (i + 1)
    rw [sumL_next _ hx, cntW] at hle
    refine ⟨⟨h, by simp; omega⟩, ?_⟩
    rw [mix_get (wrC true) hl' hx, wrC]
    refine vc ?_
    generalize hA : (M.take i ++ xs.drop i).map (wrC true) = A
    have hAl : A.length = xs.length := by rw [← hA]; simp; omega
    have hset : (A.set i [CV.v (.int .i64 (k + ↑(sumL cntW (xs.take i)))), CV.row true (eB xs[i].2)])[i]? = some _ := List.getElem?_set_self (by omega)
    rw [w64 (k + _ + 1) (by omega)]
    refine fuseQ_of (vc ?_)
    refine ⟨⟨h, by omega⟩, ?_⟩
    by_cases h0 : xs[i].2 = []
    · refine fsK_seq (vc ?_)
      rw [hset, h0]
      refine vc ?_
      refine callq_of true [] (markByteS_nil (k + sumL cntW (xs.take i) + 1) (by omega) true) rfl trivial (vc trivial) ?_
      rintro r out ⟨rfl, rfl⟩
      refine ⟨by simp, by simp, fun _ => ⟨.v _, by simp⟩, vc ?_⟩
      refine hN _ (i + 1) [] h (by omega) (by rfl) (vc ?_) (vc ?_)
      · rw [w64 _ (by omega), sumL_next _ hx, cntW, h0]; simp; omega
      · rw [mkW, h0] at hm
        rw [← mix_set (wrC true) hl' hm, hA]; rfl
    · refine fsK_tri rfl ⟨rfl, rfl, rfl, rfl, rfl, rfl, rfl, rfl⟩ (by rfl) ti69 rfl rfl rfl hset rfl (by simpa [eB] using h0) rfl 1 (eB_one _) _ (eB_length _).symm (fun ty' => markByteS_ok ty' xs[i].2 (k + sumL cntW (xs.take i) + 1) (by omega)) (by rfl) (by simp [eB, mkB]) (own_eB _) (vc ?_)
      refine hN _ (i + 1) [] h (by omega) (by rfl) (vc ?_) (vc ?_)
      · rw [w64 _ (by omega), sumL_next _ hx, cntW]; simp; omega
      · rw [← mix_set (wrC true) hl' hm, hA]; rfl
  · have h : i = xs.length := by simp at h; omega
    refine endQ_of [] (In (k + sumL cntW xs)) [some (.rw ty 2 (M.map (wrC true)))] (by rfl) (vc ?_) (vc ?_) ⟨rfl, rfl⟩
    · rw [h, List.take_length]
    · rw [mix_all hl' h]
/-- What a mark writes into a disk. -/
def Dk.cnt (d : Dk) : Nat := sumL List.length d.sh + sumL cntW d.wr
def mkD (d : Dk) (k : Int) : Dk := ⟨mkL (fun x k => mkB x.length k) List.length d.sh k, mkL mkW cntW d.wr (k + sumL List.length d.sh)⟩
theorem markDisk_ok (ty ty' : Nat) (d : Dk) (k : Int) (hl : d.sh.length ≤ 2^60 ∧ d.wr.length ≤ 2^60) (hk : 0 ≤ k ∧ k + d.cnt ≤ 2^60) : CallOk Tryz.prog 14 [.rw ty 1 (d.sh.map (shC true)), .rw ty' 2 (d.wr.map (wrC true))] [d.ow, In k]
    (fun r out => r = In (k + d.cnt) ∧ out = [some (.rw ty 1 ((mkD d k).sh.map (shC true))), some (.rw ty' 2 ((mkD d k).wr.map (wrC true)))]) := by
  unfold Dk.ow
  unfold Dk.cnt at hk ⊢
  refine callOk_z (np := 2) {} mixed Tryz.func14 (by rfl) Tryz.ntmps14 Tryz.results14 (by rfl) (Nat.le_of_ble_eq_true rfl) rfl rfl rfl (vc ?_)
  refine callq_of false [1] (markSheetS_ok ty d.sh k hl.1 (by omega)) rfl (vc trivial) (vc trivial) ?_
  rintro r out ⟨rfl, rfl⟩
  refine ⟨by simp, by simp, by simp, vc ?_⟩
  refine callq_of false [2] (markWriteS_ok ty' d.wr (k + sumL List.length d.sh) hl.2 (by omega)) rfl (vc trivial) (vc trivial) ?_
  rintro r out ⟨rfl, rfl⟩
  refine ⟨by simp, by simp, by simp, vc ?_⟩
  refine endQ_of [] (In (k + (sumL List.length d.sh + sumL cntW d.wr : Nat))) [some (.rw ty 1 ((mkD d k).sh.map (shC true))), some (.rw ty' 2 ((mkD d k).wr.map (wrC true)))] (by rfl) (vc ?_) (vc ?_) ⟨rfl, rfl⟩
  all_goals trace_state
  · omega
  · exact ⟨rfl, rfl⟩
end Go.Proofs.YtnnmpdanfeejbaaGreat.Abs

/- The laws' helpers on strings, numbers, pairs, nodes, trees: their contracts. -/
namespace Go.Proofs.YtnnmpdanfeejbaaGreat.Abs
open Go Go.Proofs
set_option maxRecDepth 10000
set_option linter.unusedVariables false
set_option linter.unusedSimpArgs false
theorem toStringS_ok (xs : List (ByteArray)) (hl : xs.length ≤ 2^40) (hs : ∀ x ∈ xs, True) : CallOk Tryz.prog 178 [] [Rw (xs.map stC)] (fun r out => r = .sl 1 xs.length ∧ out = [some (.rw 9 1 (xs.map stC))]) := by
  refine callOk_z (np := 0) {} mixed Tryz.func178 (by rfl) Tryz.ntmps178 Tryz.results178 (by rfl) (Nat.le_of_ble_eq_true rfl) rfl rfl rfl (vc ?_)
  refine ⟨⟨by omega, by omega⟩, ?_⟩
  refine loopQ_of (fun i => [(0, Rw (xs.map stC)), (3, .sl 1 xs.length), (4, In (i : Nat))]) (fun i => [(1, .rw 9 1 ((xs.take i).map stC ++ List.replicate (xs.length - i) [.v (.string ⟨#[]⟩)]))]) 2 (fun i => xs.length - i) (fun i => i ≤ xs.length) 0 (Nat.zero_le _) [(1, 25)] (by rfl) (vc trivial) (vc ?_) (fun i hi N hN => vc (brB_intro (fun h => ?_) (fun h => ?_)))
  · rfl
  · have h : i < xs.length := by simpa using h
    have hx := List.getElem?_eq_getElem h
    rw [get_map hx, stC]
    refine vc ?_
    refine ⟨⟨h, by simp; omega⟩, ?_⟩
    rw [fill_get _ _ _ _ h]
    refine vc ?_
    refine hN _ (i + 1) [] h (by omega) (by rfl) (vc ?_) (vc ?_)
    · rw [w64 _ (by omega)]; simp
    · exact fill_set stC _ xs i _ hx
  · have h : i = xs.length := by simp at h; omega
    refine endQ_of [] (.sl 1 xs.length) [some (.rw 9 1 (xs.map stC))] (by rfl) (vc trivial) (vc ?_) ⟨rfl, rfl⟩
    simp [h]
theorem toIntS_ok (xs : List (Int)) (hl : xs.length ≤ 2^40) (hs : ∀ x ∈ xs, True) : CallOk Tryz.prog 61 [] [Rw (xs.map inC)] (fun r out => r = .sl 1 xs.length ∧ out = [some (.rw 3 1 (xs.map inC))]) := by
  refine callOk_z (np := 0) {} mixed Tryz.func61 (by rfl) Tryz.ntmps61 Tryz.results61 (by rfl) (Nat.le_of_ble_eq_true rfl) rfl rfl rfl (vc ?_)
  refine ⟨⟨by omega, by omega⟩, ?_⟩
  refine loopQ_of (fun i => [(0, Rw (xs.map inC)), (3, .sl 1 xs.length), (4, In (i : Nat))]) (fun i => [(1, .rw 3 1 ((xs.take i).map inC ++ List.replicate (xs.length - i) [.v (.int .i64 0)]))]) 2 (fun i => xs.length - i) (fun i => i ≤ xs.length) 0 (Nat.zero_le _) [(1, 25)] (by rfl) (vc trivial) (vc ?_) (fun i hi N hN => vc (brB_intro (fun h => ?_) (fun h => ?_)))
  · rfl
  · have h : i < xs.length := by simpa using h
    have hx := List.getElem?_eq_getElem h
    rw [get_map hx, inC]
    refine vc ?_
    refine ⟨⟨h, by simp; omega⟩, ?_⟩
    rw [fill_get _ _ _ _ h]
    refine vc ?_
    refine hN _ (i + 1) [] h (by omega) (by rfl) (vc ?_) (vc ?_)
    · rw [w64 _ (by omega)]; simp
    · exact fill_set inC _ xs i _ hx
  · have h : i = xs.length := by simp at h; omega
    refine endQ_of [] (.sl 1 xs.length) [some (.rw 3 1 (xs.map inC))] (by rfl) (vc trivial) (vc ?_) ⟨rfl, rfl⟩
    simp [h]
theorem toPair_ok (x : Pr) : CallOk Tryz.prog 200 [] [.ag [.c (.v (.string x.k)), .c (.v (.string x.v))]] (fun r out => r = .ag [.c (.v (.string x.k)), .c (.v (.string x.v))] ∧ out = []) := by
  refine callOk_z (np := 0) {} mixed Tryz.func200 (by rfl) Tryz.ntmps200 Tryz.results200 (by rfl) (Nat.le_of_ble_eq_true rfl) rfl rfl rfl (vc ?_)
  exact endQ_of [] (.ag [.c (.v (.string x.k)), .c (.v (.string x.v))]) [] (by rfl) (vc trivial) (vc trivial) ⟨rfl, rfl⟩
theorem toPairS_ok (xs : List (Pr)) (hl : xs.length ≤ 2^40) (hs : ∀ x ∈ xs, True) : CallOk Tryz.prog 177 [] [Rw (xs.map prC)] (fun r out => r = .sl 1 xs.length ∧ out = [some (.rw 141 2 (xs.map prC))]) := by
  refine callOk_z (np := 0) {} mixed Tryz.func177 (by rfl) Tryz.ntmps177 Tryz.results177 (by rfl) (Nat.le_of_ble_eq_true rfl) rfl rfl rfl (vc ?_)
  refine ⟨⟨by omega, by omega⟩, ?_⟩
  refine loopQ_of (fun i => [(0, Rw (xs.map prC)), (3, .sl 1 xs.length), (4, In (i : Nat))]) (fun i => [(1, .rw 141 2 ((xs.take i).map prC ++ List.replicate (xs.length - i) [.v (.string ⟨#[]⟩), .v (.string ⟨#[]⟩)]))]) 2 (fun i => xs.length - i) (fun i => i ≤ xs.length) 0 (Nat.zero_le _) [(1, 25)] (by rfl) (vc trivial) (vc ?_) (fun i hi N hN => vc (brB_intro (fun h => ?_) (fun h => ?_)))
  · rfl
  · have h : i < xs.length := by simpa using h
    have hx := List.getElem?_eq_getElem h
    rw [get_map hx, prC]
    refine vc ?_
    refine callq_of false [] (toPair_ok xs[i]) rfl trivial (vc trivial) ?_
    rintro r out ⟨rfl, rfl⟩
    refine ⟨by simp, by simp, by simp, vc ?_⟩
    refine ⟨⟨h, by simp; omega⟩, ?_⟩
    rw [fill_get _ _ _ _ h]
    refine vc ?_
    refine hN _ (i + 1) [] h (by omega) (by rfl) (vc ?_) (vc ?_)
    · rw [w64 _ (by omega)]; simp
    · exact fill_set prC _ xs i _ hx
  · have h : i = xs.length := by simp at h; omega
    refine endQ_of [] (.sl 1 xs.length) [some (.rw 141 2 (xs.map prC))] (by rfl) (vc trivial) (vc ?_) ⟨rfl, rfl⟩
    simp [h]
def Nd.fits (M : Nat) (n : Nd) : Prop := n.ps.length ≤ M ∧ n.ks.length ≤ M ∧ n.cs.length ≤ M ∧ (∀ p ∈ n.ps, p.k.size ≤ M ∧ p.v.size ≤ M) ∧ ∀ k ∈ n.ks, k.size ≤ M
theorem toNode_ok (x : Nd) (hx : x.fits (2^40)) : CallOk Tryz.prog 133 [] [.ag [Rw (x.ps.map prC), Rw (x.ks.map stC), Rw (x.cs.map inC)]]
    (fun r out => r = .ag [.sl 1 x.ps.length, .sl 2 x.ks.length, .sl 3 x.cs.length] ∧ out = [some (.rw 141 2 (x.ps.map prC)), some (.rw 9 1 (x.ks.map stC)), some (.rw 3 1 (x.cs.map inC))]) := by
  refine callOk_z (np := 0) {} mixed Tryz.func133 (by rfl) Tryz.ntmps133 Tryz.results133 (by rfl) (Nat.le_of_ble_eq_true rfl) rfl rfl rfl (vc ?_)
  refine callq_of false [] (toPairS_ok x.ps hx.1 (fun _ _ => trivial)) rfl trivial (vc trivial) ?_
  rintro r out ⟨rfl, rfl⟩
  refine ⟨by simp, by simp, by simp, vc ?_⟩
  refine callq_of false [] (toStringS_ok x.ks hx.2.1 (fun _ _ => trivial)) rfl trivial (vc trivial) ?_
  rintro r out ⟨rfl, rfl⟩
  refine ⟨by simp, by simp, by simp, vc ?_⟩
  refine callq_of false [] (toIntS_ok x.cs hx.2.2.1 (fun _ _ => trivial)) rfl trivial (vc trivial) ?_
  rintro r out ⟨rfl, rfl⟩
  refine ⟨by simp, by simp, by simp, vc ?_⟩
  exact endQ_of [(1, 41), (2, 81), (3, 121)] (.ag [.sl 1 x.ps.length, .sl 2 x.ks.length, .sl 3 x.cs.length]) [some (.rw 141 2 (x.ps.map prC)), some (.rw 9 1 (x.ks.map stC)), some (.rw 3 1 (x.cs.map inC))] (by rfl) (vc trivial) (vc trivial) ⟨rfl, rfl⟩
theorem toNodeS_ok (xs : List (Nd)) (hl : xs.length ≤ 2^40) (hs : ∀ x ∈ xs, x.fits (2^40)) : CallOk Tryz.prog 77 [] [Rw (xs.map (ndC false))] (fun r out => r = .sl 1 xs.length ∧ out = [some (.rw 111 3 (xs.map (ndC true)))]) := by
  refine callOk_z (np := 0) {} mixed Tryz.func77 (by rfl) Tryz.ntmps77 Tryz.results77 (by rfl) (Nat.le_of_ble_eq_true rfl) rfl rfl rfl (vc ?_)
  refine ⟨⟨by omega, by omega⟩, ?_⟩
  refine loopQ_of (fun i => [(0, Rw (xs.map (ndC false))), (3, .sl 1 xs.length), (4, In (i : Nat))]) (fun i => [(1, .rw 111 3 ((xs.take i).map (ndC true) ++ List.replicate (xs.length - i) [.row true [], .row true [], .row true []]))]) 2 (fun i => xs.length - i) (fun i => i ≤ xs.length) 0 (Nat.zero_le _) [(1, 25)] (by rfl) (vc trivial) (vc ?_) (fun i hi N hN => vc (brB_intro (fun h => ?_) (fun h => ?_)))
  · rfl
  · have h : i < xs.length := by simpa using h
    have hx := List.getElem?_eq_getElem h
    rw [get_map hx, ndC]
    refine vc ?_
    refine callq_of false [] (toNode_ok xs[i] (hs _ (List.getElem_mem h))) rfl trivial (vc trivial) ?_
    rintro r out ⟨rfl, rfl⟩
    refine ⟨by simp, by simp, by simp, vc ?_⟩
    refine ⟨⟨h, by simp; omega⟩, ?_⟩
    rw [fill_get _ _ _ _ h]
    refine vc ?_
    refine hN _ (i + 1) [] h (by omega) (by rfl) (vc ?_) (vc ?_)
    · rw [w64 _ (by omega)]; simp
    · exact fill_set (ndC true) _ xs i _ hx
  · have h : i = xs.length := by simp at h; omega
    refine endQ_of [] (.sl 1 xs.length) [some (.rw 111 3 (xs.map (ndC true)))] (by rfl) (vc trivial) (vc ?_) ⟨rfl, rfl⟩
    simp [h]
theorem toTree_ok (t : List Nd) (hl : t.length ≤ 2^40) (hs : ∀ x ∈ t, x.fits (2^40)) : CallOk Tryz.prog 25 [] [.ag [Rw (t.map (ndC false))]] (fun r out => r = .ag [.sl 1 t.length] ∧ out = [some (.rw 111 3 (t.map (ndC true)))]) := by
  refine callOk_z (np := 0) {} mixed Tryz.func25 (by rfl) Tryz.ntmps25 Tryz.results25 (by rfl) (Nat.le_of_ble_eq_true rfl) rfl rfl rfl (vc ?_)
  refine callq_of false [] (toNodeS_ok t hl hs) rfl trivial (vc trivial) ?_
  rintro r out ⟨rfl, rfl⟩
  refine ⟨by simp, by simp, by simp, vc ?_⟩
  exact endQ_of [(1, 41)] (.ag [.sl 1 t.length]) [some (.rw 111 3 (t.map (ndC true)))] (by rfl) (vc trivial) (vc trivial) ⟨rfl, rfl⟩
def szSt (s : ByteArray) : Nat := s.size
theorem szStringS_ok (xs : List (ByteArray)) (k : Int) (hl : xs.length ≤ 2^47) (hs : ∀ x ∈ xs, x.size ≤ 2^47) (hk : -1 ≤ k ∧ k ≤ 2^40) : CallOk Tryz.prog 176 [] [Rw (xs.map stC), In k] (fun r out => r = In (szB (xs.length + sumL szSt xs) k) ∧ out = []) := by
  refine callOk_z (np := 0) {} mixed Tryz.func176 (by rfl) Tryz.ntmps176 Tryz.results176 (by rfl) (Nat.le_of_ble_eq_true rfl) rfl rfl rfl (vc ?_)
  rw [w64 _ (by omega)]
  refine brB_intro (fun h => EndQ.closed (.v _) ⟨?_, rfl⟩) (fun h => ?_)
  · have h : k - xs.length < 0 := by simpa using h
    rw [szB, if_pos (by omega)]
  have h : 0 ≤ k - xs.length := by simpa using h
  refine loopQ_of (fun i => [(0, Rw (xs.map stC)), (1, In (k - xs.length - sumL szSt (xs.take i))), (5, In (i : Nat))]) (fun i => []) 1 (fun i => xs.length - i) (fun i => i ≤ xs.length ∧ (sumL szSt (xs.take i) : Int) ≤ k - xs.length) 0 ⟨Nat.zero_le _, by simpa [sumL] using h⟩ [] (by rfl) (vc ?_) (vc trivial) (fun i hi N hN => vc (brB_intro (fun h => ?_) (fun h => ?_)))
  · simp [sumL]
  · have h : i < xs.length := by simpa using h
    have hx := List.getElem?_eq_getElem h
    rw [get_map hx, stC]
    refine vc ?_
    have hn := sumL_next szSt hx
    have hle := sumL_le szSt xs (i + 1)
    have hfx := hs _ (List.getElem_mem h)
    have hz : szSt xs[i] = xs[i].size := rfl
    rw [w64 (_ - _) (by omega)]
    refine brB_intro (fun h => EndQ.closed (.v _) ⟨?_, rfl⟩) (fun h => ?_)
    · have h : k - xs.length - sumL szSt (xs.take i) - (xs[i].size : Nat) < 0 := by simpa using h
      rw [szB, if_pos (by omega)]
    · have h : ¬ k - xs.length - sumL szSt (xs.take i) - (xs[i].size : Nat) < 0 := by simpa using h
      refine hN _ (i + 1) [] ⟨by omega, by omega⟩ (by omega) (by rfl) (vc ?_) (vc trivial)
      rw [w64 _ (by omega)]
      exact ⟨by omega, by simp⟩
  · have h : i = xs.length := by simp at h; omega
    refine EndQ.closed (.v _) ⟨?_, rfl⟩
    have hT : xs.take i = xs := by rw [h, List.take_length]
    have h2 := hi.2
    rw [hT] at h2 ⊢
    rw [szB, if_neg (by omega), show k - ((xs.length + sumL szSt xs : Nat) : Int) = k - xs.length - sumL szSt xs by omega]
theorem szIntS_ok (xs : List Int) (k : Int) (hl : xs.length ≤ 2^47) (hk : -1 ≤ k ∧ k ≤ 2^40) : CallOk Tryz.prog 58 [] [Rw (xs.map inC), In k] (fun r out => r = In (szB xs.length k) ∧ out = []) := by
  refine callOk_z (np := 0) {} mixed Tryz.func58 (by rfl) Tryz.ntmps58 Tryz.results58 (by rfl) (Nat.le_of_ble_eq_true rfl) rfl rfl rfl (vc ?_)
  rw [w64 _ (by omega)]
  refine brB_intro (fun h => EndQ.closed (.v _) ⟨?_, rfl⟩) (fun h => EndQ.closed (.v _) ⟨?_, rfl⟩)
  · have h : k - xs.length < 0 := by simpa using h
    rw [szB, if_pos h]
  · have h : ¬ k - xs.length < 0 := by simpa using h
    rw [szB, if_neg h]
def szP (p : Pr) : Nat := p.k.size + p.v.size
theorem szPair_ok (x : Pr) (k : Int) (hx : x.k.size ≤ 2^47 ∧ x.v.size ≤ 2^47) (hk : -1 ≤ k ∧ k ≤ 2^40) : CallOk Tryz.prog 199 [] [.ag [.c (.v (.string x.k)), .c (.v (.string x.v))], In k] (fun r out => r = In (szB (szP x) k) ∧ out = []) := by
  refine callOk_z (np := 0) {} mixed Tryz.func199 (by rfl) Tryz.ntmps199 Tryz.results199 (by rfl) (Nat.le_of_ble_eq_true rfl) rfl rfl rfl (vc ?_)
  rw [w64 (k - _) (by omega)]
  have hz : szP x = x.k.size + x.v.size := rfl
  refine brB_intro (fun h => EndQ.closed (.v _) ⟨?_, rfl⟩) (fun h => ?_)
  · have h : k - x.k.size < 0 := by simpa using h
    rw [szB, if_pos (by omega)]
  rw [w64 (k - _ - _) (by omega)]
  refine brB_intro (fun h => EndQ.closed (.v _) ⟨?_, rfl⟩) (fun h => EndQ.closed (.v _) ⟨?_, rfl⟩)
  · have h : k - x.k.size - x.v.size < 0 := by simpa using h
    rw [szB, if_pos (by omega)]
  · have h : ¬ k - x.k.size - x.v.size < 0 := by simpa using h
    rw [szB, if_neg (by omega), hz]
    simp; omega
theorem szPairS_ok (xs : List (Pr)) (k : Int) (hl : xs.length ≤ 2^47) (hs : ∀ x ∈ xs, x.k.size ≤ 2^47 ∧ x.v.size ≤ 2^47) (hk : -1 ≤ k ∧ k ≤ 2^40) : CallOk Tryz.prog 175 [] [Rw (xs.map prC), In k] (fun r out => r = In (szB (xs.length + sumL szP xs) k) ∧ out = []) := by
  refine callOk_z (np := 0) {} mixed Tryz.func175 (by rfl) Tryz.ntmps175 Tryz.results175 (by rfl) (Nat.le_of_ble_eq_true rfl) rfl rfl rfl (vc ?_)
  rw [w64 _ (by omega)]
  refine brB_intro (fun h => EndQ.closed (.v _) ⟨?_, rfl⟩) (fun h => ?_)
  · have h : k - xs.length < 0 := by simpa using h
    rw [szB, if_pos (by omega)]
  have h : 0 ≤ k - xs.length := by simpa using h
  refine loopQ_of (fun i => [(0, Rw (xs.map prC)), (1, In (k - xs.length - sumL szP (xs.take i))), (5, In (i : Nat))]) (fun i => []) 1 (fun i => xs.length - i) (fun i => i ≤ xs.length ∧ (sumL szP (xs.take i) : Int) ≤ k - xs.length) 0 ⟨Nat.zero_le _, by simpa [sumL] using h⟩ [] (by rfl) (vc ?_) (vc trivial) (fun i hi N hN => vc (brB_intro (fun h => ?_) (fun h => ?_)))
  · simp [sumL]
  · have h : i < xs.length := by simpa using h
    have hx := List.getElem?_eq_getElem h
    rw [get_map hx, prC]
    refine vc ?_
    refine callq_of false [] (szPair_ok xs[i] (k - xs.length - sumL szP (xs.take i)) (hs _ (List.getElem_mem h)) (by omega)) rfl trivial (vc trivial) ?_
    rintro r out ⟨rfl, rfl⟩
    refine ⟨by simp, by simp, by simp, vc ?_⟩
    have hc := szB_cases (szP xs[i]) (k - xs.length - sumL szP (xs.take i))
    have hn := sumL_next szP hx
    have hle := sumL_le szP xs (i + 1)
    refine brB_intro (fun h => EndQ.closed (.v _) ⟨?_, rfl⟩) (fun h => ?_)
    · have h : szB (szP xs[i]) (k - xs.length - sumL szP (xs.take i)) < 0 := by simpa using h
      rw [szB, if_pos (by omega)]
    · have h : 0 ≤ szB (szP xs[i]) (k - xs.length - sumL szP (xs.take i)) := by simpa using h
      refine hN _ (i + 1) [] ⟨by omega, by omega⟩ (by omega) (by rfl) (vc ?_) (vc trivial)
      rw [w64 _ (by omega)]
      exact ⟨by omega, by simp⟩
  · have h : i = xs.length := by simp at h; omega
    refine EndQ.closed (.v _) ⟨?_, rfl⟩
    have hT : xs.take i = xs := by rw [h, List.take_length]
    have h2 := hi.2
    rw [hT] at h2 ⊢
    rw [szB, if_neg (by omega), show k - ((xs.length + sumL szP xs : Nat) : Int) = k - xs.length - sumL szP xs by omega]
def szN (n : Nd) : Nat := n.ps.length + sumL szP n.ps + (n.ks.length + sumL szSt n.ks) + n.cs.length
theorem szNode_ok (x : Nd) (k : Int) (hx : x.fits (2^47)) (hk : -1 ≤ k ∧ k ≤ 2^40) : CallOk Tryz.prog 128 [] [.ag [Rw (x.ps.map prC), Rw (x.ks.map stC), Rw (x.cs.map inC)], In k] (fun r out => r = In (szB (szN x) k) ∧ out = []) := by
  refine callOk_z (np := 0) {} mixed Tryz.func128 (by rfl) Tryz.ntmps128 Tryz.results128 (by rfl) (Nat.le_of_ble_eq_true rfl) rfl rfl rfl (vc ?_)
  have hz : szN x = x.ps.length + sumL szP x.ps + (x.ks.length + sumL szSt x.ks) + x.cs.length := rfl
  have h0 := szB_cases (szN x) k
  have h1 := szB_cases (x.ps.length + sumL szP x.ps) k
  refine callq_of false [] (szPairS_ok x.ps k hx.1 hx.2.2.2.1 hk) rfl trivial (vc trivial) ?_
  rintro r out ⟨rfl, rfl⟩
  refine ⟨by simp, by simp, by simp, vc ?_⟩
  refine brB_intro (fun h => EndQ.closed (.v _) ⟨?_, rfl⟩) (fun h => ?_)
  · have h : szB (x.ps.length + sumL szP x.ps) k < 0 := by simpa using h
    rw [show szB (szN x) k = -1 by omega]
  have g1 : ¬ szB (x.ps.length + sumL szP x.ps) k < 0 := by simpa using h
  generalize hK : szB (x.ps.length + sumL szP x.ps) k = K at h1 g1
  have h2 := szB_cases (x.ks.length + sumL szSt x.ks) K
  refine callq_of false [] (szStringS_ok x.ks K hx.2.1 hx.2.2.2.2 (by omega)) rfl trivial (vc trivial) ?_
  rintro r out ⟨rfl, rfl⟩
  refine ⟨by simp, by simp, by simp, vc ?_⟩
  refine brB_intro (fun h => EndQ.closed (.v _) ⟨?_, rfl⟩) (fun h => ?_)
  · have h : szB (x.ks.length + sumL szSt x.ks) K < 0 := by simpa using h
    rw [show szB (szN x) k = -1 by omega]
  have g2 : ¬ szB (x.ks.length + sumL szSt x.ks) K < 0 := by simpa using h
  generalize hK2 : szB (x.ks.length + sumL szSt x.ks) K = K2 at h2 g2
  have h3 := szB_cases x.cs.length K2
  refine callq_of false [] (szIntS_ok x.cs K2 hx.2.2.1 (by omega)) rfl trivial (vc trivial) ?_
  rintro r out ⟨rfl, rfl⟩
  refine ⟨by simp, by simp, by simp, vc ?_⟩
  refine brB_intro (fun h => EndQ.closed (.v _) ⟨?_, rfl⟩) (fun h => EndQ.closed (.v _) ⟨?_, rfl⟩)
  · have h : szB x.cs.length K2 < 0 := by simpa using h
    rw [show szB (szN x) k = -1 by omega]
  · have h : ¬ szB x.cs.length K2 < 0 := by simpa using h
    rw [show szB (szN x) k = szB x.cs.length K2 by omega]
theorem szNodeS_ok (xs : List (Nd)) (k : Int) (hl : xs.length ≤ 2^47) (hs : ∀ x ∈ xs, x.fits (2^47)) (hk : -1 ≤ k ∧ k ≤ 2^40) : CallOk Tryz.prog 72 [] [Rw (xs.map (ndC false)), In k] (fun r out => r = In (szB (xs.length + sumL szN xs) k) ∧ out = []) := by
  refine callOk_z (np := 0) {} mixed Tryz.func72 (by rfl) Tryz.ntmps72 Tryz.results72 (by rfl) (Nat.le_of_ble_eq_true rfl) rfl rfl rfl (vc ?_)
  rw [w64 _ (by omega)]
  refine brB_intro (fun h => EndQ.closed (.v _) ⟨?_, rfl⟩) (fun h => ?_)
  · have h : k - xs.length < 0 := by simpa using h
    rw [szB, if_pos (by omega)]
  have h : 0 ≤ k - xs.length := by simpa using h
  refine loopQ_of (fun i => [(0, Rw (xs.map (ndC false))), (1, In (k - xs.length - sumL szN (xs.take i))), (5, In (i : Nat))]) (fun i => []) 1 (fun i => xs.length - i) (fun i => i ≤ xs.length ∧ (sumL szN (xs.take i) : Int) ≤ k - xs.length) 0 ⟨Nat.zero_le _, by simpa [sumL] using h⟩ [] (by rfl) (vc ?_) (vc trivial) (fun i hi N hN => vc (brB_intro (fun h => ?_) (fun h => ?_)))
  · simp [sumL]
  · have h : i < xs.length := by simpa using h
    have hx := List.getElem?_eq_getElem h
    rw [get_map hx, ndC]
    refine vc ?_
    refine callq_of false [] (szNode_ok xs[i] (k - xs.length - sumL szN (xs.take i)) (hs _ (List.getElem_mem h)) (by omega)) rfl trivial (vc trivial) ?_
    rintro r out ⟨rfl, rfl⟩
    refine ⟨by simp, by simp, by simp, vc ?_⟩
    have hc := szB_cases (szN xs[i]) (k - xs.length - sumL szN (xs.take i))
    have hn := sumL_next szN hx
    have hle := sumL_le szN xs (i + 1)
    refine brB_intro (fun h => EndQ.closed (.v _) ⟨?_, rfl⟩) (fun h => ?_)
    · have h : szB (szN xs[i]) (k - xs.length - sumL szN (xs.take i)) < 0 := by simpa using h
      rw [szB, if_pos (by omega)]
    · have h : 0 ≤ szB (szN xs[i]) (k - xs.length - sumL szN (xs.take i)) := by simpa using h
      refine hN _ (i + 1) [] ⟨by omega, by omega⟩ (by omega) (by rfl) (vc ?_) (vc trivial)
      rw [w64 _ (by omega)]
      exact ⟨by omega, by simp⟩
  · have h : i = xs.length := by simp at h; omega
    refine EndQ.closed (.v _) ⟨?_, rfl⟩
    have hT : xs.take i = xs := by rw [h, List.take_length]
    have h2 := hi.2
    rw [hT] at h2 ⊢
    rw [szB, if_neg (by omega), show k - ((xs.length + sumL szN xs : Nat) : Int) = k - xs.length - sumL szN xs by omega]
def szT (t : List Nd) : Nat := t.length + sumL szN t
theorem szTree_ok (t : List Nd) (k : Int) (hl : t.length ≤ 2^47) (hs : ∀ x ∈ t, x.fits (2^47)) (hk : -1 ≤ k ∧ k ≤ 2^40) : CallOk Tryz.prog 23 [] [.ag [Rw (t.map (ndC false))], In k] (fun r out => r = In (szB (szT t) k) ∧ out = []) := by
  refine callOk_z (np := 0) {} mixed Tryz.func23 (by rfl) Tryz.ntmps23 Tryz.results23 (by rfl) (Nat.le_of_ble_eq_true rfl) rfl rfl rfl (vc ?_)
  refine callq_of false [] (szNodeS_ok t k hl hs hk) rfl trivial (vc trivial) ?_
  rintro r out ⟨rfl, rfl⟩
  refine ⟨by simp, by simp, by simp, vc ?_⟩
  have hc := szB_cases (t.length + sumL szN t) k
  refine brB_intro (fun h => EndQ.closed (.v _) ⟨?_, rfl⟩) (fun h => EndQ.closed (.v _) ⟨?_, rfl⟩)
  · have h : szB (t.length + sumL szN t) k < 0 := by simpa using h
    rw [szT, show szB (t.length + sumL szN t) k = -1 by omega]
  · rfl
theorem Nd.fits_of {n : Nd} {M : Nat} (h : szN n ≤ M) : n.fits M := by
  unfold szN at h
  refine ⟨by omega, by omega, by omega, fun p hp => ?_, fun k hk => ?_⟩
  · have h1 : szP p ≤ sumL szP n.ps := sumL_mem szP hp
    have h2 : szP p = p.k.size + p.v.size := rfl
    omega
  · have h1 : szSt k ≤ sumL szSt n.ks := sumL_mem szSt hk
    have h2 : szSt k = k.size := rfl
    omega
theorem treeFits {t : List Nd} {M : Nat} (h : szT t ≤ M) : t.length ≤ M ∧ ∀ x ∈ t, x.fits M := by
  unfold szT at h
  refine ⟨by omega, fun x hx => Nd.fits_of ?_⟩
  have := sumL_mem szN hx
  omega
theorem ba_ne (a b : ByteArray) : ((!(a.toList == b.toList)) = false) ↔ a = b := by
  constructor
  · intro h
    have h : a.toList = b.toList := by simpa using h
    rw [ByteArray.toList_eq, ByteArray.toList_eq] at h
    obtain ⟨⟨x⟩⟩ := a
    obtain ⟨⟨y⟩⟩ := b
    simp at h
    rw [h]
  · rintro rfl; simp
theorem eqStringS_ok (xs ys : List (ByteArray)) (hl : xs.length ≤ 2^40) (hs : ∀ x ∈ xs, True) : CallOk Tryz.prog 184 [] [Rw (xs.map stC), Rw (ys.map stC)] (fun r out => r = Bo (decide (xs = ys)) ∧ out = []) := by
  refine callOk_z (np := 0) {} mixed Tryz.func184 (by rfl) Tryz.ntmps184 Tryz.results184 (by rfl) (Nat.le_of_ble_eq_true rfl) rfl rfl rfl (vc ?_)
  refine brB_intro (fun h => EndQ.closed (.v _) ⟨?_, rfl⟩) (fun h => ?_)
  · have : xs ≠ ys := fun e => by simp [e] at h
    simp [this]
  have h0 : xs.length = ys.length := by
    have : ((xs.length : Nat) : Int) = ys.length := by simpa using h
    omega
  refine loopQ_of (fun i => [(0, Rw (xs.map stC)), (1, Rw (ys.map stC)), (5, In (i : Nat))]) (fun i => []) 1 (fun i => xs.length - i) (fun i => i ≤ xs.length ∧ xs.take i = ys.take i) 0 ⟨Nat.zero_le _, rfl⟩ [] (by rfl) (vc trivial) (vc trivial) (fun i hi N hN => vc (brB_intro (fun h => ?_) (fun h => ?_)))
  · have h : i < xs.length := by simpa using h
    have hx := List.getElem?_eq_getElem h
    have hy := List.getElem?_eq_getElem (h0 ▸ h)
    refine drawQ_of false (by rfl) (by simp) (vc ?_)
    rw [get_map hx, stC]
    refine vc ?_
    rw [get_map hy, stC]
    refine vc ?_
    refine brB_intro (fun hb => EndQ.closed (.v _) ⟨?_, rfl⟩) (fun hb => ?_)
    · have hb : ¬ xs[i] = ys[i] := fun e => by rw [e] at hb; simp at hb
      have : xs ≠ ys := fun e => by subst e; exact hb rfl
      simp [this]
    · have hb : xs[i] = ys[i] := (ba_ne _ _).1 hb
      refine hN _ (i + 1) [] ⟨h, take_next hi.2 hx hy hb⟩ (by omega) (by rfl) (vc ?_) (vc trivial)
      rw [w64 _ (by omega)]; simp
  · have h : i = xs.length := by simp at h; omega
    refine EndQ.closed (.v _) ⟨?_, rfl⟩
    have : xs = ys := by have := hi.2; rw [h, List.take_length, h0, List.take_length] at this; exact this
    simp [this]
theorem eqIntS_ok (xs ys : List (Int)) (hl : xs.length ≤ 2^40) (hs : ∀ x ∈ xs, True) : CallOk Tryz.prog 27 [] [Rw (xs.map inC), Rw (ys.map inC)] (fun r out => r = Bo (decide (xs = ys)) ∧ out = []) := by
  refine callOk_z (np := 0) {} mixed Tryz.func27 (by rfl) Tryz.ntmps27 Tryz.results27 (by rfl) (Nat.le_of_ble_eq_true rfl) rfl rfl rfl (vc ?_)
  refine brB_intro (fun h => EndQ.closed (.v _) ⟨?_, rfl⟩) (fun h => ?_)
  · have : xs ≠ ys := fun e => by simp [e] at h
    simp [this]
  have h0 : xs.length = ys.length := by
    have : ((xs.length : Nat) : Int) = ys.length := by simpa using h
    omega
  refine loopQ_of (fun i => [(0, Rw (xs.map inC)), (1, Rw (ys.map inC)), (5, In (i : Nat))]) (fun i => []) 1 (fun i => xs.length - i) (fun i => i ≤ xs.length ∧ xs.take i = ys.take i) 0 ⟨Nat.zero_le _, rfl⟩ [] (by rfl) (vc trivial) (vc trivial) (fun i hi N hN => vc (brB_intro (fun h => ?_) (fun h => ?_)))
  · have h : i < xs.length := by simpa using h
    have hx := List.getElem?_eq_getElem h
    have hy := List.getElem?_eq_getElem (h0 ▸ h)
    refine drawQ_of false (by rfl) (by simp) (vc ?_)
    rw [get_map hx, inC]
    refine vc ?_
    rw [get_map hy, inC]
    refine vc ?_
    refine brB_intro (fun hb => EndQ.closed (.v _) ⟨?_, rfl⟩) (fun hb => ?_)
    · have hb : ¬ xs[i] = ys[i] := fun e => by rw [e] at hb; simp at hb
      have : xs ≠ ys := fun e => by subst e; exact hb rfl
      simp [this]
    · have hb : xs[i] = ys[i] := by simpa using hb
      refine hN _ (i + 1) [] ⟨h, take_next hi.2 hx hy hb⟩ (by omega) (by rfl) (vc ?_) (vc trivial)
      rw [w64 _ (by omega)]; simp
  · have h : i = xs.length := by simp at h; omega
    refine EndQ.closed (.v _) ⟨?_, rfl⟩
    have : xs = ys := by have := hi.2; rw [h, List.take_length, h0, List.take_length] at this; exact this
    simp [this]
theorem eqPair_ok (x y : Pr) : CallOk Tryz.prog 204 [] [.ag [.c (.v (.string x.k)), .c (.v (.string x.v))], .ag [.c (.v (.string y.k)), .c (.v (.string y.v))]] (fun r out => r = Bo (decide (x = y)) ∧ out = []) := by
  refine callOk_z (np := 0) {} mixed Tryz.func204 (by rfl) Tryz.ntmps204 Tryz.results204 (by rfl) (Nat.le_of_ble_eq_true rfl) rfl rfl rfl (vc ?_)
  refine brB_intro (fun h => EndQ.closed (.v _) ⟨?_, rfl⟩) (fun h => ?_)
  · have : ¬ x = y := fun e => by rw [e] at h; simp at h
    simp [this]
  have h1 := (ba_ne _ _).1 h
  refine brB_intro (fun h => EndQ.closed (.v _) ⟨?_, rfl⟩) (fun h => EndQ.closed (.v _) ⟨?_, rfl⟩)
  · have : ¬ x = y := fun e => by rw [e] at h; simp at h
    simp [this]
  · have h2 := (ba_ne _ _).1 h
    have : x = y := by cases x; cases y; simp_all
    simp [this]
theorem eqPairS_ok (xs ys : List (Pr)) (hl : xs.length ≤ 2^40) (hs : ∀ x ∈ xs, True) : CallOk Tryz.prog 183 [] [Rw (xs.map prC), Rw (ys.map prC)] (fun r out => r = Bo (decide (xs = ys)) ∧ out = []) := by
  refine callOk_z (np := 0) {} mixed Tryz.func183 (by rfl) Tryz.ntmps183 Tryz.results183 (by rfl) (Nat.le_of_ble_eq_true rfl) rfl rfl rfl (vc ?_)
  refine brB_intro (fun h => EndQ.closed (.v _) ⟨?_, rfl⟩) (fun h => ?_)
  · have : xs ≠ ys := fun e => by simp [e] at h
    simp [this]
  have h0 : xs.length = ys.length := by
    have : ((xs.length : Nat) : Int) = ys.length := by simpa using h
    omega
  refine loopQ_of (fun i => [(0, Rw (xs.map prC)), (1, Rw (ys.map prC)), (5, In (i : Nat))]) (fun i => []) 1 (fun i => xs.length - i) (fun i => i ≤ xs.length ∧ xs.take i = ys.take i) 0 ⟨Nat.zero_le _, rfl⟩ [] (by rfl) (vc trivial) (vc trivial) (fun i hi N hN => vc (brB_intro (fun h => ?_) (fun h => ?_)))
  · have h : i < xs.length := by simpa using h
    have hx := List.getElem?_eq_getElem h
    have hy := List.getElem?_eq_getElem (h0 ▸ h)
    refine drawQ_of false (by rfl) (by simp) (vc ?_)
    rw [get_map hx, prC]
    refine vc ?_
    rw [get_map hy, prC]
    refine vc ?_
    refine calld_of [] false [] (eqPair_ok xs[i] ys[i]) rfl trivial (vc trivial) (by rfl) ⟨_, _, rfl, rfl⟩ ?_
    rintro r out ⟨rfl, rfl⟩
    refine ⟨by simp, by simp, by simp, vc ?_⟩
    refine brB_intro (fun hb => EndQ.closed (.v _) ⟨?_, rfl⟩) (fun hb => ?_)
    · have hb : ¬ xs[i] = ys[i] := fun e => by rw [e] at hb; simp at hb
      have : xs ≠ ys := fun e => by subst e; exact hb rfl
      simp [this]
    · have hb : xs[i] = ys[i] := by simpa using hb
      refine hN _ (i + 1) [] ⟨h, take_next hi.2 hx hy hb⟩ (by omega) (by rfl) (vc ?_) (vc trivial)
      rw [w64 _ (by omega)]; simp
  · have h : i = xs.length := by simp at h; omega
    refine EndQ.closed (.v _) ⟨?_, rfl⟩
    have : xs = ys := by have := hi.2; rw [h, List.take_length, h0, List.take_length] at this; exact this
    simp [this]
theorem eqNode_ok (x y : Nd) (hx : x.fits (2^40)) : CallOk Tryz.prog 137 [] [.ag [Rw (x.ps.map prC), Rw (x.ks.map stC), Rw (x.cs.map inC)], .ag [Rw (y.ps.map prC), Rw (y.ks.map stC), Rw (y.cs.map inC)]] (fun r out => r = Bo (decide (x = y)) ∧ out = []) := by
  refine callOk_z (np := 0) {} mixed Tryz.func137 (by rfl) Tryz.ntmps137 Tryz.results137 (by rfl) (Nat.le_of_ble_eq_true rfl) rfl rfl rfl (vc ?_)
  refine callq_of false [] (eqPairS_ok x.ps y.ps hx.1 (fun _ _ => trivial)) rfl trivial (vc trivial) ?_
  rintro r out ⟨rfl, rfl⟩
  refine ⟨by simp, by simp, by simp, vc ?_⟩
  refine brB_intro (fun h => EndQ.closed (.v _) ⟨?_, rfl⟩) (fun h => ?_)
  · have : ¬ x = y := fun e => by rw [e] at h; simp at h
    simp [this]
  have h1 : x.ps = y.ps := by simpa using h
  refine callq_of false [] (eqStringS_ok x.ks y.ks hx.2.1 (fun _ _ => trivial)) rfl trivial (vc trivial) ?_
  rintro r out ⟨rfl, rfl⟩
  refine ⟨by simp, by simp, by simp, vc ?_⟩
  refine brB_intro (fun h => EndQ.closed (.v _) ⟨?_, rfl⟩) (fun h => ?_)
  · have : ¬ x = y := fun e => by rw [e] at h; simp at h
    simp [this]
  have h2 : x.ks = y.ks := by simpa using h
  refine callq_of false [] (eqIntS_ok x.cs y.cs hx.2.2.1 (fun _ _ => trivial)) rfl trivial (vc trivial) ?_
  rintro r out ⟨rfl, rfl⟩
  refine ⟨by simp, by simp, by simp, vc ?_⟩
  refine brB_intro (fun h => EndQ.closed (.v _) ⟨?_, rfl⟩) (fun h => EndQ.closed (.v _) ⟨?_, rfl⟩)
  · have : ¬ x = y := fun e => by rw [e] at h; simp at h
    simp [this]
  · have h3 : x.cs = y.cs := by simpa using h
    have : x = y := by cases x; cases y; simp_all
    simp [this]
theorem eqNodeS_ok (xs ys : List (Nd)) (hl : xs.length ≤ 2^40) (hs : ∀ x ∈ xs, x.fits (2^40)) : CallOk Tryz.prog 80 [] [Rw (xs.map (ndC false)), Rw (ys.map (ndC false))] (fun r out => r = Bo (decide (xs = ys)) ∧ out = []) := by
  refine callOk_z (np := 0) {} mixed Tryz.func80 (by rfl) Tryz.ntmps80 Tryz.results80 (by rfl) (Nat.le_of_ble_eq_true rfl) rfl rfl rfl (vc ?_)
  refine brB_intro (fun h => EndQ.closed (.v _) ⟨?_, rfl⟩) (fun h => ?_)
  · have : xs ≠ ys := fun e => by simp [e] at h
    simp [this]
  have h0 : xs.length = ys.length := by
    have : ((xs.length : Nat) : Int) = ys.length := by simpa using h
    omega
  refine loopQ_of (fun i => [(0, Rw (xs.map (ndC false))), (1, Rw (ys.map (ndC false))), (5, In (i : Nat))]) (fun i => []) 1 (fun i => xs.length - i) (fun i => i ≤ xs.length ∧ xs.take i = ys.take i) 0 ⟨Nat.zero_le _, rfl⟩ [] (by rfl) (vc trivial) (vc trivial) (fun i hi N hN => vc (brB_intro (fun h => ?_) (fun h => ?_)))
  · have h : i < xs.length := by simpa using h
    have hx := List.getElem?_eq_getElem h
    have hy := List.getElem?_eq_getElem (h0 ▸ h)
    refine drawQ_of false (by rfl) (by simp) (vc ?_)
    rw [get_map hx, ndC]
    refine vc ?_
    rw [get_map hy, ndC]
    refine vc ?_
    refine calld_of [] false [] (eqNode_ok xs[i] ys[i] (hs _ (List.getElem_mem h))) rfl trivial (vc trivial) (by rfl) ⟨_, _, rfl, rfl⟩ ?_
    rintro r out ⟨rfl, rfl⟩
    refine ⟨by simp, by simp, by simp, vc ?_⟩
    refine brB_intro (fun hb => EndQ.closed (.v _) ⟨?_, rfl⟩) (fun hb => ?_)
    · have hb : ¬ xs[i] = ys[i] := fun e => by rw [e] at hb; simp at hb
      have : xs ≠ ys := fun e => by subst e; exact hb rfl
      simp [this]
    · have hb : xs[i] = ys[i] := by simpa using hb
      refine hN _ (i + 1) [] ⟨h, take_next hi.2 hx hy hb⟩ (by omega) (by rfl) (vc ?_) (vc trivial)
      rw [w64 _ (by omega)]; simp
  · have h : i = xs.length := by simp at h; omega
    refine EndQ.closed (.v _) ⟨?_, rfl⟩
    have : xs = ys := by have := hi.2; rw [h, List.take_length, h0, List.take_length] at this; exact this
    simp [this]
theorem eqTree_ok (x y : List Nd) (hl : x.length ≤ 2^40) (hs : ∀ n ∈ x, n.fits (2^40)) : CallOk Tryz.prog 29 [] [.ag [Rw (x.map (ndC false))], .ag [Rw (y.map (ndC false))]] (fun r out => r = Bo (decide (x = y)) ∧ out = []) := by
  refine callOk_z (np := 0) {} mixed Tryz.func29 (by rfl) Tryz.ntmps29 Tryz.results29 (by rfl) (Nat.le_of_ble_eq_true rfl) rfl rfl rfl (vc ?_)
  refine callq_of false [] (eqNodeS_ok x y hl hs) rfl trivial (vc trivial) ?_
  rintro r out ⟨rfl, rfl⟩
  refine ⟨by simp, by simp, by simp, vc ?_⟩
  refine brB_intro (fun h => EndQ.closed (.v _) ⟨?_, rfl⟩) (fun h => EndQ.closed (.v _) ⟨?_, rfl⟩)
  · have h : ¬ x = y := by simpa using h
    simp [h]
  · have h : x = y := by simpa using h
    simp [h]
end Go.Proofs.YtnnmpdanfeejbaaGreat.Abs

/- The laws' marks on strings, numbers, pairs, nodes, trees: their contracts. -/
namespace Go.Proofs.YtnnmpdanfeejbaaGreat.Abs
open Go Go.Proofs
set_option maxRecDepth 10000
set_option linter.unusedVariables false
set_option linter.unusedSimpArgs false
def digB (n : Nat) : ByteArray := ⟨[UInt8.ofNat (48 + n % 10)].toArray⟩
def txA (n : Nat) (out : ByteArray) : ByteArray := if h : n = 0 then out else txA (n / 10) (digB n ++ out)
decreasing_by omega
def mkTx (k : Int) : ByteArray := if k ≤ 0 then ⟨#[109, 48]⟩ else ⟨#[109]⟩ ++ txA k.toNat ⟨#[]⟩
theorem markText_ok (k : Int) (hk : 0 ≤ k ∧ k ≤ 2^61) : CallOk Tryz.prog 185 [] [In k] (fun r out => r = .c (.v (.string (mkTx k))) ∧ out = []) := by
  refine callOk_z (np := 0) {} mixed Tryz.func185 (by rfl) Tryz.ntmps185 Tryz.results185 (by rfl) (Nat.le_of_ble_eq_true rfl) rfl rfl rfl (vc ?_)
  refine brB_intro (fun h => EndQ.closed (.v _) ⟨?_, rfl⟩) (fun h => ?_)
  · have h : k ≤ 0 := by simpa using h
    rw [mkTx, if_pos h]
  have h0 : ¬ k ≤ 0 := by simpa using h
  clear h
  refine loopQ_of (ι := Nat × Nat × ByteArray) (fun i => [(0, In (i.1 : Nat)), (3, .c (.v (.string i.2.2)))]) (fun i => []) 1 (fun i => i.1) (fun i => (i.1 < 10^i.2.1 ∧ i.1 ≤ 2^61) ∧ i.2.1 + i.2.2.size ≤ 100 ∧ txA i.1 i.2.2 = txA k.toNat ⟨#[]⟩) (k.toNat, 61, ⟨#[]⟩) ⟨by simp only; omega, by simp only; decide, rfl⟩ [] (by rfl) (vc ?_) (vc trivial) (fun i hi N hN => ?_)
  · omega
  obtain ⟨n, m, o⟩ := i
  obtain ⟨⟨h1, h5⟩, h2, h3⟩ := hi
  simp only at h1 h2 h3 h5 hN
  refine vc (brB_intro (fun h => ?_) (fun h => ?_))
  · have h : 0 < n := by simp at h; omega
    have hm : (n : Int).tmod 10 = ((n % 10 : Nat) : Int) := rfl
    have hq : (n : Int).tdiv 10 = ((n / 10 : Nat) : Int) := rfl
    have hd : (⟨#[UInt8.ofNat (IntKind.u8.wrap (IntKind.i64.wrap (48 + (n : Int).tmod 10))).toNat]⟩ : ByteArray) = digB n := by
      rw [hm, w64 _ (by omega), w8, digB]
      have : ((48 + ((n % 10 : Nat) : Int)) % 256).toNat = 48 + n % 10 := by omega
      rw [this]
    rw [hd]
    have hsz : (digB n).size = 1 := rfl
    rw [if_pos (by omega)]
    refine vc ?_
    have hm1 : 1 ≤ m := by
      rcases m with _ | m
      · simp at h1; omega
      · omega
    obtain ⟨m, rfl⟩ : ∃ q, m = q + 1 := ⟨m - 1, by omega⟩
    refine hN _ (n / 10, m, digB n ++ o) [] ⟨?_, ?_, ?_⟩ ?_ (by rfl) (vc ?_) (vc trivial)
    · show n / 10 < 10 ^ m ∧ n / 10 ≤ 2^61
      rw [Nat.pow_succ] at h1; omega
    · show m + (digB n ++ o).size ≤ 100
      rw [ByteArray.size_append, hsz]; omega
    · show txA (n / 10) (digB n ++ o) = _
      rw [← h3]
      conv => rhs; rw [txA, dif_neg (by omega)]
    · show n / 10 < n
      omega
    · rw [hq, w64 _ (by omega)]
  · have h : n = 0 := by simp at h; omega
    subst h
    have h4 : o = txA k.toNat ⟨#[]⟩ := by rw [← h3, txA, dif_pos rfl]
    have hsz : (⟨#[109]⟩ : ByteArray).size = 1 := rfl
    rw [if_pos (by omega)]
    refine vc ?_
    refine EndQ.closed (.v _) ⟨?_, rfl⟩
    rw [mkTx, if_neg h0, h4]
def c1 {α : Type} (_ : α) : Nat := 1
def c2 {α : Type} (_ : α) : Nat := 2
def mkSt (_ : ByteArray) (k : Int) : ByteArray := mkTx k
def mkIn (_ : Int) (k : Int) : Int := k
def mkPr (_ : Pr) (k : Int) : Pr := ⟨mkTx k, mkTx (k + 1)⟩
theorem sumL_c1 {α : Type} : ∀ l : List α, sumL c1 l = l.length
  | [] => rfl
  | x :: r => by rw [sumL_cons, sumL_c1 r, c1, List.length_cons]; omega
theorem sumL_c2 {α : Type} : ∀ l : List α, sumL c2 l = 2 * l.length
  | [] => rfl
  | x :: r => by rw [sumL_cons, sumL_c2 r, c2, List.length_cons]; omega
theorem markStringS_ok (ty : Nat) (xs : List (ByteArray)) (k : Int) (hl : xs.length ≤ 2^60) (hk : 0 ≤ k ∧ k + sumL c1 xs ≤ 2^60) : CallOk Tryz.prog 139 [.rw ty 1 (xs.map stC)] [.sl 1 xs.length, In k]
    (fun r out => r = In (k + sumL c1 xs) ∧ out = [some (.rw ty 1 ((mkL mkSt c1 xs k).map stC))]) := by
  refine callOk_z (np := 1) {} mixed Tryz.func139 (by rfl) Tryz.ntmps139 Tryz.results139 (by rfl) (Nat.le_of_ble_eq_true rfl) rfl rfl rfl (vc ?_)
  generalize hM : mkL mkSt c1 xs k = M
  have hl' : M.length = xs.length := by rw [← hM, mkL_length]
  refine loopQ_of (fun i => [(0, .sl 1 xs.length), (1, In (k + (sumL c1 (xs.take i) : Nat))), (5, In (i : Nat))]) (fun i => [(1, .rw ty 1 ((M.take i ++ xs.drop i).map stC))]) 2 (fun i => xs.length - i) (fun i => i ≤ xs.length) 0 (Nat.zero_le _) [] (by rfl) (vc ?_) (vc ?_) (fun i hi N hN => vc (brB_intro (fun h => ?_) (fun h => ?_)))
  · simp [sumL_nil]
  · simp [HpS, wkO]
  · have h : i < xs.length := by simpa using h
    have hx := List.getElem?_eq_getElem h
    have hm : M[i]? = some (mkSt xs[i] (k + sumL c1 (xs.take i))) := by rw [← hM, mkL_get _ _ hx]
    have hle := sumL_le c1 xs (i + 1)
    have hnx := sumL_next c1 hx
    rw [hnx, c1] at hle
    rw [c1] at hnx
    have hget := mix_get stC hl' hx
    have hAl : ((M.take i ++ xs.drop i).map stC).length = xs.length := by simp; omega
    generalize hA : (M.take i ++ xs.drop i).map stC = A at hget hAl ⊢
    generalize hK : k + sumL c1 (xs.take i) = K at hm hle hnx ⊢
    refine callq_of false [] (markText_ok K (by omega)) rfl trivial (vc trivial) ?_
    rintro r out ⟨rfl, rfl⟩
    refine ⟨by simp, by simp, by simp, vc ?_⟩
    refine ⟨⟨h, by first | omega | (simp; omega)⟩, ?_⟩
    rw [hget, stC]
    refine vc ?_
    refine hN _ (i + 1) [] h (by omega) (by rfl) (vc ?_) (vc ?_)
    · rw [w64 _ (by omega), w64 _ (by omega), hnx]; simp; omega
    · rw [← mix_set stC hl' hm, hA]; rfl
  · have h : i = xs.length := by simp at h; omega
    refine endQ_of [] (In (k + sumL c1 xs)) [some (.rw ty 1 (M.map stC))] (by rfl) (vc ?_) (vc ?_) ⟨rfl, rfl⟩
    · rw [h, List.take_length]
    · rw [mix_all hl' h]
theorem markIntS_ok (ty : Nat) (xs : List (Int)) (k : Int) (hl : xs.length ≤ 2^60) (hk : 0 ≤ k ∧ k + sumL c1 xs ≤ 2^60) : CallOk Tryz.prog 31 [.rw ty 1 (xs.map inC)] [.sl 1 xs.length, In k]
    (fun r out => r = In (k + sumL c1 xs) ∧ out = [some (.rw ty 1 ((mkL mkIn c1 xs k).map inC))]) := by
  refine callOk_z (np := 1) {} mixed Tryz.func31 (by rfl) Tryz.ntmps31 Tryz.results31 (by rfl) (Nat.le_of_ble_eq_true rfl) rfl rfl rfl (vc ?_)
  generalize hM : mkL mkIn c1 xs k = M
  have hl' : M.length = xs.length := by rw [← hM, mkL_length]
  refine loopQ_of (fun i => [(0, .sl 1 xs.length), (1, In (k + (sumL c1 (xs.take i) : Nat))), (5, In (i : Nat))]) (fun i => [(1, .rw ty 1 ((M.take i ++ xs.drop i).map inC))]) 2 (fun i => xs.length - i) (fun i => i ≤ xs.length) 0 (Nat.zero_le _) [] (by rfl) (vc ?_) (vc ?_) (fun i hi N hN => vc (brB_intro (fun h => ?_) (fun h => ?_)))
  · simp [sumL_nil]
  · simp [HpS, wkO]
  · have h : i < xs.length := by simpa using h
    have hx := List.getElem?_eq_getElem h
    have hm : M[i]? = some (mkIn xs[i] (k + sumL c1 (xs.take i))) := by rw [← hM, mkL_get _ _ hx]
    have hle := sumL_le c1 xs (i + 1)
    have hnx := sumL_next c1 hx
    rw [hnx, c1] at hle
    rw [c1] at hnx
    have hget := mix_get inC hl' hx
    have hAl : ((M.take i ++ xs.drop i).map inC).length = xs.length := by simp; omega
    generalize hA : (M.take i ++ xs.drop i).map inC = A at hget hAl ⊢
    generalize hK : k + sumL c1 (xs.take i) = K at hm hle hnx ⊢
    refine ⟨⟨h, by first | omega | (simp; omega)⟩, ?_⟩
    rw [hget, inC]
    refine vc ?_
    refine hN _ (i + 1) [] h (by omega) (by rfl) (vc ?_) (vc ?_)
    · rw [w64 _ (by omega), w64 _ (by omega), hnx]; simp; omega
    · rw [← mix_set inC hl' hm, hA]; rfl
  · have h : i = xs.length := by simp at h; omega
    refine endQ_of [] (In (k + sumL c1 xs)) [some (.rw ty 1 (M.map inC))] (by rfl) (vc ?_) (vc ?_) ⟨rfl, rfl⟩
    · rw [h, List.take_length]
    · rw [mix_all hl' h]
theorem markPairS_ok (ty : Nat) (xs : List (Pr)) (k : Int) (hl : xs.length ≤ 2^60) (hk : 0 ≤ k ∧ k + sumL c2 xs ≤ 2^60) : CallOk Tryz.prog 138 [.rw ty 2 (xs.map prC)] [.sl 1 xs.length, In k]
    (fun r out => r = In (k + sumL c2 xs) ∧ out = [some (.rw ty 2 ((mkL mkPr c2 xs k).map prC))]) := by
  refine callOk_z (np := 1) {} mixed Tryz.func138 (by rfl) Tryz.ntmps138 Tryz.results138 (by rfl) (Nat.le_of_ble_eq_true rfl) rfl rfl rfl (vc ?_)
  generalize hM : mkL mkPr c2 xs k = M
  have hl' : M.length = xs.length := by rw [← hM, mkL_length]
  refine loopQ_of (fun i => [(0, .sl 1 xs.length), (1, In (k + (sumL c2 (xs.take i) : Nat))), (5, In (i : Nat))]) (fun i => [(1, .rw ty 2 ((M.take i ++ xs.drop i).map prC))]) 2 (fun i => xs.length - i) (fun i => i ≤ xs.length) 0 (Nat.zero_le _) [] (by rfl) (vc ?_) (vc ?_) (fun i hi N hN => vc (brB_intro (fun h => ?_) (fun h => ?_)))
  · simp [sumL_nil]
  · simp [HpS, wkO]
  · have h : i < xs.length := by simpa using h
    have hx := List.getElem?_eq_getElem h
    have hm : M[i]? = some (mkPr xs[i] (k + sumL c2 (xs.take i))) := by rw [← hM, mkL_get _ _ hx]
    have hle := sumL_le c2 xs (i + 1)
    have hnx := sumL_next c2 hx
    rw [hnx, c2] at hle
    rw [c2] at hnx
    have hget := mix_get prC hl' hx
    have hAl : ((M.take i ++ xs.drop i).map prC).length = xs.length := by simp; omega
    generalize hA : (M.take i ++ xs.drop i).map prC = A at hget hAl ⊢
    generalize hK : k + sumL c2 (xs.take i) = K at hm hle hnx ⊢
    refine callq_of false [] (markText_ok K (by omega)) rfl trivial (vc trivial) ?_
    rintro r out ⟨rfl, rfl⟩
    refine ⟨by simp, by simp, by simp, vc ?_⟩
    refine ⟨⟨h, by first | omega | (simp; omega)⟩, ?_⟩
    rw [hget, prC]
    refine vc ?_
    rw [w64 (K + 1) (by omega)]
    refine callq_of false [] (markText_ok (K + 1) (by omega)) rfl trivial (vc trivial) ?_
    rintro r out ⟨rfl, rfl⟩
    refine ⟨by simp, by simp, by simp, vc ?_⟩
    refine ⟨⟨h, by omega⟩, ?_⟩
    rw [List.getElem?_set_self (by omega)]
    refine vc ?_
    refine hN _ (i + 1) [] h (by omega) (by rfl) (vc ?_) (vc ?_)
    · rw [w64 _ (by omega), w64 _ (by omega), hnx]; simp; omega
    · rw [← mix_set prC hl' hm, hA]; rfl
  · have h : i = xs.length := by simp at h; omega
    refine endQ_of [] (In (k + sumL c2 xs)) [some (.rw ty 2 (M.map prC))] (by rfl) (vc ?_) (vc ?_) ⟨rfl, rfl⟩
    · rw [h, List.take_length]
    · rw [mix_all hl' h]
theorem heldIntS_ok (xs : List (Int)) (k : Int) (hl : xs.length ≤ 2^60) (hk : 0 ≤ k ∧ k + sumL c1 xs ≤ 2^60) : CallOk Tryz.prog 33 [] [Rw (xs.map inC), In k]
    (fun r out => r = In (if xs = mkL mkIn c1 xs k then k + sumL c1 xs else -1) ∧ out = []) := by
  refine callOk_z (np := 0) {} mixed Tryz.func33 (by rfl) Tryz.ntmps33 Tryz.results33 (by rfl) (Nat.le_of_ble_eq_true rfl) rfl rfl rfl (vc ?_)
  generalize hM : mkL mkIn c1 xs k = M
  have hl' : M.length = xs.length := by rw [← hM, mkL_length]
  refine loopQ_of (fun i => [(0, Rw (xs.map inC)), (1, In (k + (sumL c1 (xs.take i) : Nat))), (5, In (i : Nat))]) (fun i => []) 1 (fun i => xs.length - i) (fun i => i ≤ xs.length ∧ xs.take i = M.take i) 0 ⟨Nat.zero_le _, rfl⟩ [] (by rfl) (vc ?_) (vc trivial) (fun i hi N hN => vc (brB_intro (fun h => ?_) (fun h => ?_)))
  · simp [sumL_nil]
  · have h : i < xs.length := by simpa using h
    have hx := List.getElem?_eq_getElem h
    have hm : M[i]? = some (mkIn xs[i] (k + sumL c1 (xs.take i))) := by rw [← hM, mkL_get _ _ hx]
    have hle := sumL_le c1 xs (i + 1)
    have hnx := sumL_next c1 hx
    rw [hnx, c1] at hle
    rw [c1] at hnx
    have hne : xs[i] ≠ mkIn xs[i] (k + sumL c1 (xs.take i)) → ¬ xs = M := fun he e => he (by rw [← e, hx] at hm; exact Option.some.inj hm)
    generalize hK : k + sumL c1 (xs.take i) = K at hm hle hnx hne ⊢
    rw [get_map hx, inC]
    refine vc ?_
    refine brB_intro (fun hb => EndQ.closed (.v _) ⟨?_, rfl⟩) (fun hb => ?_)
    · rw [if_neg (hne (fun e => by rw [mkIn] at e; rw [e] at hb; simp at hb))]
    · have he : xs[i] = K := by simpa using hb
      refine hN _ (i + 1) [] ⟨h, take_next hi.2 hx hm he⟩ (by omega) (by rfl) (vc ?_) (vc trivial)
      rw [w64 _ (by omega), w64 _ (by omega), hnx]; simp; omega
  · have h : i = xs.length := by simp at h; omega
    refine EndQ.closed (.v _) ⟨?_, rfl⟩
    have : xs = M := by have := hi.2; rw [h, List.take_length, ← hl', List.take_length] at this; exact this
    rw [if_pos this, h, List.take_length]
theorem mkIn_idem (x : Int) (k : Int) : mkIn (mkIn x k) k = mkIn x k ∧ (c1 (mkIn x k) : Nat) = c1 x := ⟨rfl, rfl⟩
end Go.Proofs.YtnnmpdanfeejbaaGreat.Abs

/- The laws' marks on nodes and trees: their contracts. -/
namespace Go.Proofs.YtnnmpdanfeejbaaGreat.Abs
open Go Go.Proofs
set_option maxRecDepth 10000
set_option linter.unusedVariables false
set_option linter.unusedSimpArgs false
theorem markPairS_nil (k : Int) (hk : 0 ≤ k ∧ k ≤ 2^60) (b : Bool) : CallOk Tryz.prog 138 [] [.c (.row b []), In k] (fun r out => r = In k ∧ out = []) := by
  refine callOk_z (np := 0) {} mixed Tryz.func138 (by rfl) Tryz.ntmps138 Tryz.results138 (by rfl) (Nat.le_of_ble_eq_true rfl) rfl rfl rfl (vc ?_)
  refine loopQ_of (ι := Unit) (fun i => [(0, .c (.row b [])), (1, In k), (5, In (0 : Nat))]) (fun i => []) 1 (fun i => 0) (fun i => True) () trivial [] (by rfl) (vc trivial) (vc trivial) (fun i hi N hN => vc ?_)
  exact EndQ.closed (.v _) ⟨rfl, rfl⟩
theorem markStringS_nil (k : Int) (hk : 0 ≤ k ∧ k ≤ 2^60) (b : Bool) : CallOk Tryz.prog 139 [] [.c (.row b []), In k] (fun r out => r = In k ∧ out = []) := by
  refine callOk_z (np := 0) {} mixed Tryz.func139 (by rfl) Tryz.ntmps139 Tryz.results139 (by rfl) (Nat.le_of_ble_eq_true rfl) rfl rfl rfl (vc ?_)
  refine loopQ_of (ι := Unit) (fun i => [(0, .c (.row b [])), (1, In k), (5, In (0 : Nat))]) (fun i => []) 1 (fun i => 0) (fun i => True) () trivial [] (by rfl) (vc trivial) (vc trivial) (fun i hi N hN => vc ?_)
  exact EndQ.closed (.v _) ⟨rfl, rfl⟩
theorem markIntS_nil (k : Int) (hk : 0 ≤ k ∧ k ≤ 2^60) (b : Bool) : CallOk Tryz.prog 31 [] [.c (.row b []), In k] (fun r out => r = In k ∧ out = []) := by
  refine callOk_z (np := 0) {} mixed Tryz.func31 (by rfl) Tryz.ntmps31 Tryz.results31 (by rfl) (Nat.le_of_ble_eq_true rfl) rfl rfl rfl (vc ?_)
  refine loopQ_of (ι := Unit) (fun i => [(0, .c (.row b [])), (1, In k), (5, In (0 : Nat))]) (fun i => []) 1 (fun i => 0) (fun i => True) () trivial [] (by rfl) (vc trivial) (vc trivial) (fun i hi N hN => vc ?_)
  exact EndQ.closed (.v _) ⟨rfl, rfl⟩
def mkNd (n : Nd) (k : Int) : Nd := ⟨mkL mkPr c2 n.ps k, mkL mkSt c1 n.ks (k + sumL c2 n.ps), mkL mkIn c1 n.cs (k + sumL c2 n.ps + sumL c1 n.ks)⟩
def cntN (n : Nd) : Nat := sumL c2 n.ps + sumL c1 n.ks + sumL c1 n.cs
theorem markNodeS_ok (ty : Nat) (xs : List Nd) (k : Int) (hl : xs.length ≤ 2^60) (hk : 0 ≤ k ∧ k + sumL cntN xs ≤ 2^60) : CallOk Tryz.prog 81 [.rw ty 3 (xs.map (ndC true))] [.sl 1 xs.length, In k]
    (fun r out => r = In (k + sumL cntN xs) ∧ out = [some (.rw ty 3 ((mkL mkNd cntN xs k).map (ndC true)))]) := by
  refine callOk_z (np := 1) { js := [5, 6], fs := [(4, 4), (5, 4), (6, 4)] } mixed Tryz.func81 (by rfl) Tryz.ntmps81 Tryz.results81 (by rfl) (Nat.le_of_ble_eq_true rfl) rfl rfl rfl (vc ?_)
  generalize hM : mkL mkNd cntN xs k = M
  have hl' : M.length = xs.length := by rw [← hM, mkL_length]
  refine loopQ_of (fun i => [(0, .sl 1 xs.length), (1, In (k + (sumL cntN (xs.take i) : Nat))), (5, In (i : Nat))]) (fun i => [(1, .rw ty 3 ((M.take i ++ xs.drop i).map (ndC true)))]) 2 (fun i => xs.length - i) (fun i => i ≤ xs.length) 0 (Nat.zero_le _) [] (by rfl) (vc ?_) (vc ?_) (fun i hi N hN => vc (brB_intro (fun h => ?_) (fun h => ?_)))
  · simp [sumL_nil]
  · simp [HpS, wkO]
  · have h : i < xs.length := by simpa using h
    have hx := List.getElem?_eq_getElem h
    have hm : M[i]? = some (mkNd xs[i] (k + sumL cntN (xs.take i))) := by rw [← hM, mkL_get _ _ hx]
    have hle := sumL_le cntN xs (i + 1)
    have hnx := sumL_next cntN hx
    rw [hnx, cntN] at hle
    rw [cntN] at hnx
    have hget := mix_get (ndC true) hl' hx
    have hAl : ((M.take i ++ xs.drop i).map (ndC true)).length = xs.length := by simp; omega
    have hset : ∀ x : List CV, (((M.take i ++ xs.drop i).map (ndC true)).set i x)[i]? = some x := fun x => List.getElem?_set_self (by omega)
    generalize hA : (M.take i ++ xs.drop i).map (ndC true) = A at hget hAl hset ⊢
    generalize hK : k + sumL cntN (xs.take i) = K at hm hle hnx ⊢
    generalize hX : xs[i] = x at hm hle hnx hx hget ⊢
    obtain ⟨P, S, C⟩ := x
    simp only [mkNd] at hm
    simp only at hle hnx
    generalize hP1 : mkL mkPr c2 P K = P1 at hm
    generalize hS1 : mkL mkSt c1 S (K + sumL c2 P) = S1 at hm
    generalize hC1 : mkL mkIn c1 C (K + sumL c2 P + sumL c1 S) = C1 at hm
    have nP : P = [] → P1 = P := fun e => by rw [← hP1, e]; rfl
    have nS : S = [] → S1 = S := fun e => by rw [← hS1, e]; rfl
    have nC : C = [] → C1 = C := fun e => by rw [← hC1, e]; rfl
    have hlP := sumL_c2 P
    have hlS := sumL_c1 S
    have hlC := sumL_c1 C
    simp only [ndC] at hget
    refine joinQ_of (ι := Unit) (fun _ => [(0, .sl 1 xs.length), (1, In (K + sumL c2 P)), (5, In (i : Nat))]) (fun _ => [(1, .rw ty 3 (A.set i [.row true (P1.map prC), .row true (S.map stC), .row true (C.map inC)]))]) 2 (fun _ => True) (fun M1 hM1 => vc ?_) (fun _ _ => vc ?_)
    · refine fuseQ_of (vc ?_)
      refine ⟨⟨h, by omega⟩, ?_⟩
      by_cases h0 : P = []
      · refine fsK_seq (vc ?_)
        rw [hget]
        refine vc ?_
        rw [h0]
        refine callq_of true [] (markPairS_nil K (by omega) true) rfl trivial (vc trivial) ?_
        rintro r out ⟨rfl, rfl⟩
        refine ⟨by simp, by simp, fun _ => ⟨.v _, by simp⟩, vc ?_⟩
        refine hM1 _ () [] trivial (by rfl) (vc ?_) (vc ?_)
        · rw [h0, sumL_nil]; simp
        · rw [nP h0]
          exact (set_self hget).symm
      · refine fsK_tri rfl ⟨rfl, rfl, rfl, rfl, rfl, rfl, rfl, rfl⟩ (by rfl) ti109 rfl rfl rfl hget rfl (by simpa using h0) rfl 2 (pr_two _) _ (List.length_map _).symm (fun ty' => markPairS_ok ty' P K (by omega) (by omega)) (by rfl) (by simp [mkL_length]) (own_pr _) (vc ?_)
        rw [hP1]
        refine hM1 _ () [] trivial (by rfl) (vc trivial) (vc ?_)
        rfl
    refine joinQ_of (ι := Unit) (fun _ => [(0, .sl 1 xs.length), (1, In (K + sumL c2 P + sumL c1 S)), (5, In (i : Nat))]) (fun _ => [(1, .rw ty 3 (A.set i [.row true (P1.map prC), .row true (S1.map stC), .row true (C.map inC)]))]) 2 (fun _ => True) (fun M1 hM1 => vc ?_) (fun _ _ => vc ?_)
    · refine fuseQ_of (vc ?_)
      refine ⟨⟨h, by omega⟩, ?_⟩
      by_cases h0 : S = []
      · refine fsK_seq (vc ?_)
        rw [hset]
        refine vc ?_
        rw [h0]
        refine callq_of true [] (markStringS_nil (K + sumL c2 P) (by omega) true) rfl trivial (vc trivial) ?_
        rintro r out ⟨rfl, rfl⟩
        refine ⟨by simp, by simp, fun _ => ⟨.v _, by simp⟩, vc ?_⟩
        refine hM1 _ () [] trivial (by rfl) (vc ?_) (vc ?_)
        · rw [h0, sumL_nil]; simp
        · rw [nS h0, h0]; rfl
      · refine fsK_tri rfl ⟨rfl, rfl, rfl, rfl, rfl, rfl, rfl, rfl⟩ (by rfl) ti105 rfl rfl rfl (hset _) rfl (by simpa using h0) rfl 1 (st_one _) _ (List.length_map _).symm (fun ty' => markStringS_ok ty' S (K + sumL c2 P) (by omega) (by omega)) (by rfl) (by simp [mkL_length]) (own_st _) (vc ?_)
        rw [hS1]
        refine hM1 _ () [] trivial (by rfl) (vc trivial) (vc ?_)
        rfl
    refine fuseQ_of (vc ?_)
    refine ⟨⟨h, by omega⟩, ?_⟩
    by_cases h0 : C = []
    · refine fsK_seq (vc ?_)
      rw [hset]
      refine vc ?_
      rw [h0]
      refine callq_of true [] (markIntS_nil (K + sumL c2 P + sumL c1 S) (by omega) true) rfl trivial (vc trivial) ?_
      rintro r out ⟨rfl, rfl⟩
      refine ⟨by simp, by simp, fun _ => ⟨.v _, by simp⟩, vc ?_⟩
      refine hN _ (i + 1) [] h (by omega) (by rfl) (vc ?_) (vc ?_)
      · rw [w64 _ (by omega), hnx, h0, sumL_nil]; simp; omega
      · rw [← mix_set (ndC true) hl' hm, hA, nC h0, h0]; rfl
    · refine fsK_tri rfl ⟨rfl, rfl, rfl, rfl, rfl, rfl, rfl, rfl⟩ (by rfl) ti34 rfl rfl rfl (hset _) rfl (by simpa using h0) rfl 1 (in_one _) _ (List.length_map _).symm (fun ty' => markIntS_ok ty' C (K + sumL c2 P + sumL c1 S) (by omega) (by omega)) (by rfl) (by simp [mkL_length]) (own_in _) (vc ?_)
      rw [hC1]
      refine hN _ (i + 1) [] h (by omega) (by rfl) (vc ?_) (vc ?_)
      · rw [w64 _ (by omega), hnx]; simp; omega
      · rw [← mix_set (ndC true) hl' hm, hA]; rfl
  · have h : i = xs.length := by simp at h; omega
    refine endQ_of [] (In (k + sumL cntN xs)) [some (.rw ty 3 (M.map (ndC true)))] (by rfl) (vc ?_) (vc ?_) ⟨rfl, rfl⟩
    · rw [h, List.take_length]
    · rw [mix_all hl' h]
theorem markTree_ok (ty : Nat) (t : List Nd) (k : Int) (hl : t.length ≤ 2^60) (hk : 0 ≤ k ∧ k + sumL cntN t ≤ 2^60) : CallOk Tryz.prog 30 [.rw ty 3 (t.map (ndC true))] [.ag [.sl 1 t.length], In k]
    (fun r out => r = In (k + sumL cntN t) ∧ out = [some (.rw ty 3 ((mkL mkNd cntN t k).map (ndC true)))]) := by
  refine callOk_z (np := 1) {} mixed Tryz.func30 (by rfl) Tryz.ntmps30 Tryz.results30 (by rfl) (Nat.le_of_ble_eq_true rfl) rfl rfl rfl (vc ?_)
  refine callq_of false [1] (markNodeS_ok ty t k hl hk) rfl (vc trivial) (vc trivial) ?_
  rintro r out ⟨rfl, rfl⟩
  refine ⟨by simp, by simp, by simp, vc ?_⟩
  exact endQ_of [] (In (k + sumL cntN t)) [some (.rw ty 3 ((mkL mkNd cntN t k).map (ndC true)))] (by rfl) (vc trivial) (vc trivial) ⟨rfl, rfl⟩
theorem cntN_le : ∀ t : List Nd, sumL cntN t ≤ 2 * szT t
  | [] => by simp [sumL_nil]
  | x :: r => by
    have ih := cntN_le r
    have h1 := sumL_c2 x.ps
    have h2 := sumL_c1 x.ks
    have h3 := sumL_c1 x.cs
    simp only [szT, sumL_cons, List.length_cons, cntN, szN] at ih ⊢
    omega
end Go.Proofs.YtnnmpdanfeejbaaGreat.Abs

/- Disks: what is right, copies, writes; both by the same words. -/
namespace Go.Proofs.YtnnmpdanfeejbaaGreat.Abs
open Go Go.Proofs
set_option maxRecDepth 10000
set_option linter.unusedVariables false
set_option linter.unusedSimpArgs false
theorem within_ok (a b c : Int) : CallOk Tryz.prog 104 [] [In a, In b, In c] (fun r out => r = Bo (decide (b ≤ a ∧ a ≤ c)) ∧ out = []) := by
  refine callOk_z (np := 0) {} mixed Tryz.func104 (by rfl) Tryz.ntmps104 Tryz.results104 (by rfl) (Nat.le_of_ble_eq_true rfl) rfl rfl rfl (vc ?_)
  refine brB_intro (fun h => EndQ.closed (.v _) ⟨?_, rfl⟩) (fun h => EndQ.closed (.v _) ⟨?_, rfl⟩)
  · have h : a ≥ b := by simpa using h
    simp; omega
  · have h : ¬ a ≥ b := by simpa using h
    simp; omega
def Dk.shOk (x : List UInt8) : Prop := x.length = 0 ∨ x.length = 512
def Dk.wrOk (n : Nat) (x : Int × List UInt8) : Prop := (0 ≤ x.1 ∧ x.1 < n) ∧ x.2.length = 512
def Dk.ok (d : Dk) : Prop := (2 ≤ d.sh.length ∧ d.sh.length ≤ 400 ∧ d.wr.length ≤ 500) ∧ (∀ x ∈ d.sh, Dk.shOk x) ∧ ∀ x ∈ d.wr, Dk.wrOk d.sh.length x
theorem specDiskOk_ok (d : Dk) (hd : d.fits (2^40)) : CallOk Tryz.prog 40 [] [d.rd] (fun r out => r = Bo (tf d.ok) ∧ out = []) := by
  unfold Dk.rd
  have hf1 := hd.1
  have hf2 := hd.2.2.1
  refine callOk_z (np := 0) {} mixed Tryz.func40 (by rfl) Tryz.ntmps40 Tryz.results40 (by rfl) (Nat.le_of_ble_eq_true rfl) rfl rfl rfl (vc ?_)
  have ho : Dk.ok d ↔ (2 ≤ d.sh.length ∧ d.sh.length ≤ 400 ∧ d.wr.length ≤ 500) ∧ (∀ x ∈ d.sh, Dk.shOk x) ∧ ∀ x ∈ d.wr, Dk.wrOk d.sh.length x := Iff.rfl
  refine brB_intro (fun h => EndQ.closed (.v _) ⟨?_, rfl⟩) (fun h => brB_intro (fun h' => EndQ.closed (.v _) ⟨?_, rfl⟩) (fun h' => brB_intro (fun h'' => EndQ.closed (.v _) ⟨?_, rfl⟩) (fun h'' => ?_)))
  · rw [tf_false (fun hk => by have := hk.1; simp at h; omega)]
  · rw [tf_false (fun hk => by have := hk.1; simp at h'; omega)]
  · rw [tf_false (fun hk => by have := hk.1; simp at h''; omega)]
  have hlen : 2 ≤ d.sh.length ∧ d.sh.length ≤ 400 ∧ d.wr.length ≤ 500 := by simp at h h' h''; omega
  clear h h' h''
  refine loopQ_of (fun i => [(1, .pt 1 0 0), (24, Rw (d.sh.map (shC false))), (25, In d.sh.length), (26, In (i : Nat))]) (fun i => [(1, .box 30 [Rw (d.sh.map (shC false)), Rw (d.wr.map (wrC false))])]) 2 (fun i => d.sh.length - i) (fun i => i ≤ d.sh.length ∧ ∀ x ∈ d.sh.take i, Dk.shOk x) 0 ⟨Nat.zero_le _, by simp⟩ [] (by rfl) (vc trivial) (vc trivial) (fun i hi N hN => vc (brB_intro (fun h => ?_) (fun h => ?_)))
  · have h : i < d.sh.length := by simpa using h
    have hx := List.getElem?_eq_getElem h
    rw [get_map hx, shC]
    refine vc ?_
    have hnext : Dk.shOk d.sh[i] → i + 1 ≤ d.sh.length ∧ ∀ x ∈ d.sh.take (i + 1), Dk.shOk x := fun hp => ⟨h, all_next hi.2 hx hp⟩
    refine brB_intro (fun h1 => brB_intro (fun h2 => EndQ.closed (.v _) ⟨?_, rfl⟩) (fun h2 => ?_)) (fun h1 => ?_)
    · rw [tf_false (fun hk => by rcases hk.2.1 _ (List.getElem_mem h) with e | e <;> simp [e] at h1 h2)]
    · refine hN _ (i + 1) [] (hnext (by show d.sh[i].length = 0 ∨ d.sh[i].length = 512; simp at h2; omega)) (by omega) (by rfl) (vc ?_) (vc trivial)
      rw [w64 _ (by omega)]; simp
    · refine hN _ (i + 1) [] (hnext (by simp at h1; exact .inl (by simp [h1]))) (by omega) (by rfl) (vc ?_) (vc trivial)
      rw [w64 _ (by omega)]; simp
  have h : i = d.sh.length := by simp at h; omega
  have hsh := all_full hi.2 h
  refine loopQ_of (fun i => [(1, .pt 1 0 0), (42, Rw (d.wr.map (wrC false))), (43, In d.wr.length), (44, In (i : Nat))]) (fun i => [(1, .box 30 [Rw (d.sh.map (shC false)), Rw (d.wr.map (wrC false))])]) 2 (fun i => d.wr.length - i) (fun i => i ≤ d.wr.length ∧ ∀ x ∈ d.wr.take i, Dk.wrOk d.sh.length x) 0 ⟨Nat.zero_le _, by simp⟩ [] (by rfl) (vc trivial) (vc trivial) (fun i hi N hN => vc (brB_intro (fun h => ?_) (fun h => ?_)))
  · have h : i < d.wr.length := by simpa using h
    have hx := List.getElem?_eq_getElem h
    rw [get_map hx, wrC]
    refine vc ?_
    have hnext : Dk.wrOk d.sh.length d.wr[i] → i + 1 ≤ d.wr.length ∧ ∀ x ∈ d.wr.take (i + 1), Dk.wrOk d.sh.length x := fun hp => ⟨h, all_next hi.2 hx hp⟩
    refine brB_intro (fun h1 => EndQ.closed (.v _) ⟨?_, rfl⟩) (fun h1 => brB_intro (fun h2 => EndQ.closed (.v _) ⟨?_, rfl⟩) (fun h2 => brB_intro (fun h3 => EndQ.closed (.v _) ⟨?_, rfl⟩) (fun h3 => ?_)))
    · rw [tf_false (fun hk => by have := hk.2.2 _ (List.getElem_mem h); simp [Dk.wrOk] at h1 this; omega)]
    · rw [tf_false (fun hk => by have := hk.2.2 _ (List.getElem_mem h); simp [Dk.wrOk] at h2 this; omega)]
    · rw [tf_false (fun hk => by have := hk.2.2 _ (List.getElem_mem h); simp [Dk.wrOk] at h3 this; omega)]
    · refine hN _ (i + 1) [] (hnext (by simp at h1 h2 h3; exact ⟨⟨by omega, by omega⟩, by omega⟩)) (by omega) (by rfl) (vc ?_) (vc trivial)
      rw [w64 _ (by omega)]; simp
  · have h : i = d.wr.length := by simp at h; omega
    refine EndQ.closed (.v _) ⟨?_, rfl⟩
    rw [tf_true ⟨hlen, hsh, all_full hi.2 h⟩]
theorem implDiskOk_ok (d : Dk) (hd : d.fits (2^40)) : CallOk Tryz.prog 47 [] [d.rd] (fun r out => r = Bo (tf d.ok) ∧ out = []) := by
  unfold Dk.rd
  have hf1 := hd.1
  have hf2 := hd.2.2.1
  refine callOk_z (np := 0) {} mixed Tryz.func47 (by rfl) Tryz.ntmps47 Tryz.results47 (by rfl) (Nat.le_of_ble_eq_true rfl) rfl rfl rfl (vc ?_)
  refine loopQ_of (fun i => [(1, .pt 1 0 0), (8, Rw (d.sh.map (shC false))), (9, In d.sh.length), (10, In (i : Nat))]) (fun i => [(1, .box 30 [Rw (d.sh.map (shC false)), Rw (d.wr.map (wrC false))])]) 2 (fun i => d.sh.length - i) (fun i => i ≤ d.sh.length ∧ ∀ x ∈ d.sh.take i, Dk.shOk x) 0 ⟨Nat.zero_le _, by simp⟩ [] (by rfl) (vc trivial) (vc trivial) (fun i hi N hN => vc (brB_intro (fun h => ?_) (fun h => ?_)))
  · have h : i < d.sh.length := by simpa using h
    have hx := List.getElem?_eq_getElem h
    rw [get_map hx, shC]
    refine vc ?_
    have hnext : Dk.shOk d.sh[i] → i + 1 ≤ d.sh.length ∧ ∀ x ∈ d.sh.take (i + 1), Dk.shOk x := fun hp => ⟨h, all_next hi.2 hx hp⟩
    refine brB_intro (fun h1 => brB_intro (fun h2 => EndQ.closed (.v _) ⟨?_, rfl⟩) (fun h2 => ?_)) (fun h1 => ?_)
    · rw [tf_false (fun hk => by rcases hk.2.1 _ (List.getElem_mem h) with e | e <;> simp [e] at h1 h2)]
    · refine hN _ (i + 1) [] (hnext (by show d.sh[i].length = 0 ∨ d.sh[i].length = 512; simp at h2; omega)) (by omega) (by rfl) (vc ?_) (vc trivial)
      rw [w64 _ (by omega)]; simp
    · refine hN _ (i + 1) [] (hnext (by simp at h1; exact .inl (by simp [h1]))) (by omega) (by rfl) (vc ?_) (vc trivial)
      rw [w64 _ (by omega)]; simp
  have h : i = d.sh.length := by simp at h; omega
  have hsh := all_full hi.2 h
  refine loopQ_of (fun i => [(1, .pt 1 0 0), (26, Rw (d.wr.map (wrC false))), (27, In d.wr.length), (28, In (i : Nat))]) (fun i => [(1, .box 30 [Rw (d.sh.map (shC false)), Rw (d.wr.map (wrC false))])]) 2 (fun i => d.wr.length - i) (fun i => i ≤ d.wr.length ∧ ∀ x ∈ d.wr.take i, Dk.wrOk d.sh.length x) 0 ⟨Nat.zero_le _, by simp⟩ [] (by rfl) (vc trivial) (vc trivial) (fun i hi N hN => vc (brB_intro (fun h => ?_) (fun h => ?_)))
  · have h : i < d.wr.length := by simpa using h
    have hx := List.getElem?_eq_getElem h
    rw [get_map hx, wrC]
    refine vc ?_
    have hnext : Dk.wrOk d.sh.length d.wr[i] → i + 1 ≤ d.wr.length ∧ ∀ x ∈ d.wr.take (i + 1), Dk.wrOk d.sh.length x := fun hp => ⟨h, all_next hi.2 hx hp⟩
    rw [w64 _ (by omega)]
    refine callq_of false [] (within_ok d.wr[i].1 0 (d.sh.length - 1)) rfl trivial (vc trivial) ?_
    rintro r out ⟨rfl, rfl⟩
    refine ⟨by simp, by simp, by simp, vc ?_⟩
    refine brB_intro (fun h1 => EndQ.closed (.v _) ⟨?_, rfl⟩) (fun h1 => ?_)
    · rw [tf_false (fun hk => by have := hk.2.2 _ (List.getElem_mem h); simp [Dk.wrOk] at h1 this; omega)]
    refine brB_intro (fun h3 => EndQ.closed (.v _) ⟨?_, rfl⟩) (fun h3 => ?_)
    · rw [tf_false (fun hk => by have := hk.2.2 _ (List.getElem_mem h); simp [Dk.wrOk] at h3 this; omega)]
    · refine hN _ (i + 1) [] (hnext (by simp at h1 h3; exact ⟨⟨by omega, by omega⟩, by omega⟩)) (by omega) (by rfl) (vc ?_) (vc trivial)
      rw [w64 _ (by omega)]; simp
  have h : i = d.wr.length := by simp at h; omega
  have hwr := all_full hi.2 h
  refine callq_of false [] (within_ok d.sh.length 2 400) rfl trivial (vc trivial) ?_
  rintro r out ⟨rfl, rfl⟩
  refine ⟨by simp, by simp, by simp, vc ?_⟩
  refine brB_intro (fun h1 => EndQ.closed (.v _) ⟨?_, rfl⟩) (fun h1 => EndQ.closed (.v _) ⟨?_, rfl⟩)
  · by_cases h2 : d.wr.length ≤ 500
    · rw [tf_true ⟨by simp at h1; omega, hsh, hwr⟩]; simp; omega
    · rw [tf_false (fun hk => h2 hk.1.2.2)]; simp; omega
  · rw [tf_false (fun hk => by have := hk.1; simp at h1; omega)]
theorem copyBytes_ok (l : List UInt8) (hl : l.length ≤ 2^40) : CallOk Tryz.prog 110 [] [Rw (eB l)] (fun r out => r = .sl 1 l.length ∧ out = [some (.rw 5 1 (eB l))]) := by
  refine callOk_z (np := 0) {} mixed Tryz.func110 (by rfl) Tryz.ntmps110 Tryz.results110 (by rfl) (Nat.le_of_ble_eq_true rfl) rfl rfl rfl (vc ?_)
  refine ⟨⟨by unfold maxLen; omega, by omega⟩, ?_⟩
  exact endQ_of [(1, 17)] (.sl 1 l.length) [some (.rw 5 1 (eB l))] (by rfl) (vc trivial) (vc trivial) ⟨rfl, rfl⟩
theorem l05Copy_ok (d : Dk) (hd : d.fits (2^40)) : CallOk Tryz.prog 42 [] [d.rd] (fun r out => r = d.ow ∧ out = d.obs.map some) := by
  unfold Dk.rd
  have hf1 := hd.1
  have hf2 := hd.2.2.1
  refine callOk_z (np := 0) {} mixed Tryz.func42 (by rfl) Tryz.ntmps42 Tryz.results42 (by rfl) (Nat.le_of_ble_eq_true rfl) rfl rfl rfl (vc ?_)
  refine loopQ_of (fun i => [(1, .pt 1 0 0), (2, .pt 2 0 0), (3, .pt 3 0 0), (10, Rw (d.sh.map (shC false))), (11, In d.sh.length), (12, In (i : Nat))]) (fun i => [(1, .box 30 [Rw (d.sh.map (shC false)), Rw (d.wr.map (wrC false))]), (2, .box 30 [.nul, .nul]), (3, .box 30 [.sl 4 i, .nul]), (4, .rw 135 1 ((d.sh.take i).map (shC true)))]) 5 (fun i => d.sh.length - i) (fun i => i ≤ d.sh.length) 0 (Nat.zero_le _) [(2, 9), (3, 25), (4, 0)] (by rfl) (vc trivial) (vc trivial) (fun i hi N hN => vc (brB_intro (fun h => ?_) (fun h => ?_)))
  · have h : i < d.sh.length := by simpa using h
    have hx := List.getElem?_eq_getElem h
    have hfx := hd.2.1 _ (List.getElem_mem h)
    rw [get_map hx, shC]
    refine vc ?_
    refine drawQ_of false (by rfl) (by simp) (vc ?_)
    refine ⟨⟨by unfold maxLen; omega, by omega⟩, ?_⟩
    repeat refine ⟨rfl, ?_⟩
    refine ⟨⟨by simp; omega, by simp, by unfold maxLen; omega, by omega⟩, ?_⟩
    repeat refine ⟨rfl, ?_⟩
    refine hN _ (i + 1) [(4, 109)] h (by omega) (by rfl) (vc ?_) (vc ?_)
    · rw [w64 _ (by omega)]; simp
    · exact ⟨by simp; omega, map_take_next (shC true) hx⟩
  have h : i = d.sh.length := by simp at h; omega
  subst h
  refine loopQ_of (fun i => [(1, .pt 1 0 0), (2, .pt 2 0 0), (3, .pt 3 0 0), (28, Rw (d.wr.map (wrC false))), (29, In d.wr.length), (30, In (i : Nat))]) (fun i => [(1, .box 30 [Rw (d.sh.map (shC false)), Rw (d.wr.map (wrC false))]), (2, .box 30 [.nul, .nul]), (3, .box 30 [.sl 4 d.sh.length, .sl 5 i]), (4, .rw 135 1 (d.sh.map (shC true))), (5, .rw 113 2 ((d.wr.take i).map (wrC true)))]) 6 (fun i => d.wr.length - i) (fun i => i ≤ d.wr.length) 0 (Nat.zero_le _) [(5, 0)] (by rfl) (vc trivial) (vc ?_) (fun i hi N hN => vc (brB_intro (fun h => ?_) (fun h => ?_)))
  · rw [List.take_length]
  · have h : i < d.wr.length := by simpa using h
    have hx := List.getElem?_eq_getElem h
    have hfx := hd.2.2.2 _ (List.getElem_mem h)
    rw [get_map hx, wrC]
    refine vc ?_
    refine drawQ_of false (by rfl) (by simp) (vc ?_)
    refine ⟨⟨by unfold maxLen; omega, by omega⟩, ?_⟩
    repeat refine ⟨rfl, ?_⟩
    refine ⟨⟨by simp; omega, by simp, by unfold maxLen; omega, by omega⟩, ?_⟩
    repeat refine ⟨rfl, ?_⟩
    refine hN _ (i + 1) [(5, 126)] h (by omega) (by rfl) (vc ?_) (vc ?_)
    · rw [w64 _ (by omega)]; simp
    · exact ⟨by simp; omega, map_take_next (wrC true) hx⟩
  · have h : i = d.wr.length := by simp at h; omega
    subst h
    rw [List.take_length]
    exact endQ_of [(1, 4), (2, 5)] d.ow (d.obs.map some) (by rfl) (by unfold Dk.ow; exact vc trivial) (by unfold Dk.obs; exact vc trivial) ⟨rfl, rfl⟩
theorem copyDisk_ok (d : Dk) (hd : d.fits (2^40)) : CallOk Tryz.prog 51 [] [d.rd] (fun r out => r = d.ow ∧ out = d.obs.map some) := by
  unfold Dk.rd
  have hf1 := hd.1
  have hf2 := hd.2.2.1
  refine callOk_z (np := 0) {} mixed Tryz.func51 (by rfl) Tryz.ntmps51 Tryz.results51 (by rfl) (Nat.le_of_ble_eq_true rfl) rfl rfl rfl (vc ?_)
  refine loopQ_of (fun i => [(1, .pt 1 0 0), (2, .pt 2 0 0), (3, .pt 3 0 0), (10, Rw (d.sh.map (shC false))), (11, In d.sh.length), (12, In (i : Nat))]) (fun i => [(1, .box 30 [Rw (d.sh.map (shC false)), Rw (d.wr.map (wrC false))]), (2, .box 30 [.nul, .nul]), (3, .box 30 [.sl 4 i, .nul]), (4, .rw 135 1 ((d.sh.take i).map (shC true)))]) 5 (fun i => d.sh.length - i) (fun i => i ≤ d.sh.length) 0 (Nat.zero_le _) [(2, 9), (3, 25), (4, 0)] (by rfl) (vc trivial) (vc trivial) (fun i hi N hN => vc (brB_intro (fun h => ?_) (fun h => ?_)))
  · have h : i < d.sh.length := by simpa using h
    have hx := List.getElem?_eq_getElem h
    have hfx := hd.2.1 _ (List.getElem_mem h)
    rw [get_map hx, shC]
    refine vc ?_
    refine drawQ_of false (by rfl) (by simp) (vc ?_)
    refine calld_of [] false [] (copyBytes_ok d.sh[i] hfx) rfl trivial (vc trivial) (by rfl) ⟨_, _, rfl, rfl⟩ ?_
    rintro r out ⟨rfl, rfl⟩
    refine ⟨by simp, by simp, by simp, vc ?_⟩
    repeat refine ⟨rfl, ?_⟩
    refine ⟨⟨by simp; omega, by simp, by unfold maxLen; omega, by omega⟩, ?_⟩
    repeat refine ⟨rfl, ?_⟩
    refine hN _ (i + 1) [(4, 101)] h (by omega) (by rfl) (vc ?_) (vc ?_)
    · rw [w64 _ (by omega)]; simp
    · exact ⟨by simp; omega, map_take_next (shC true) hx⟩
  have h : i = d.sh.length := by simp at h; omega
  subst h
  refine loopQ_of (fun i => [(1, .pt 1 0 0), (2, .pt 2 0 0), (3, .pt 3 0 0), (27, Rw (d.wr.map (wrC false))), (28, In d.wr.length), (29, In (i : Nat))]) (fun i => [(1, .box 30 [Rw (d.sh.map (shC false)), Rw (d.wr.map (wrC false))]), (2, .box 30 [.nul, .nul]), (3, .box 30 [.sl 4 d.sh.length, .sl 5 i]), (4, .rw 135 1 (d.sh.map (shC true))), (5, .rw 113 2 ((d.wr.take i).map (wrC true)))]) 6 (fun i => d.wr.length - i) (fun i => i ≤ d.wr.length) 0 (Nat.zero_le _) [(5, 0)] (by rfl) (vc trivial) (vc ?_) (fun i hi N hN => vc (brB_intro (fun h => ?_) (fun h => ?_)))
  · rw [List.take_length]
  · have h : i < d.wr.length := by simpa using h
    have hx := List.getElem?_eq_getElem h
    have hfx := hd.2.2.2 _ (List.getElem_mem h)
    rw [get_map hx, wrC]
    refine vc ?_
    refine drawQ_of false (by rfl) (by simp) (vc ?_)
    refine calld_of [] false [] (copyBytes_ok d.wr[i].2 hfx) rfl trivial (vc trivial) (by rfl) ⟨_, _, rfl, rfl⟩ ?_
    rintro r out ⟨rfl, rfl⟩
    refine ⟨by simp, by simp, by simp, vc ?_⟩
    repeat refine ⟨rfl, ?_⟩
    refine ⟨⟨by simp; omega, by simp, by unfold maxLen; omega, by omega⟩, ?_⟩
    repeat refine ⟨rfl, ?_⟩
    refine hN _ (i + 1) [(5, 118)] h (by omega) (by rfl) (vc ?_) (vc ?_)
    · rw [w64 _ (by omega)]; simp
    · exact ⟨by simp; omega, map_take_next (wrC true) hx⟩
  · have h : i = d.wr.length := by simp at h; omega
    subst h
    rw [List.take_length]
    exact endQ_of [(1, 4), (2, 5)] d.ow (d.obs.map some) (by rfl) (by unfold Dk.ow; exact vc trivial) (by unfold Dk.obs; exact vc trivial) ⟨rfl, rfl⟩
theorem Dk.cnt_eq (d : Dk) : d.cnt = sumL List.length d.sh + (sumL (fun x => x.2.length) d.wr + d.wr.length) := by
  have : ∀ l : List (Int × List UInt8), sumL cntW l = sumL (fun x => x.2.length) l + l.length := by
    intro l
    induction l with
    | nil => rfl
    | cons x r ih => simp only [sumL_cons, ih, cntW, List.length_cons]; omega
  rw [Dk.cnt, this]
theorem Dk.cnt_le (d : Dk) : d.cnt ≤ d.size := by rw [d.cnt_eq, Dk.size]; omega
theorem Dk.lens (d : Dk) : d.sh.length ≤ d.size ∧ d.wr.length ≤ d.size := by unfold Dk.size; omega
end Go.Proofs.YtnnmpdanfeejbaaGreat.Abs

/- Stores: the laws' helpers. -/
namespace Go.Proofs.YtnnmpdanfeejbaaGreat.Abs
open Go Go.Proofs
set_option maxRecDepth 10000
set_option linter.unusedVariables false
set_option linter.unusedSimpArgs false
structure St where
  d : Dk
  g : Int
  t : List Nd
  ps : List Int
def St.rd (s : St) : AV := .ag [Rw (s.d.sh.map (shC false)), Rw (s.d.wr.map (wrC false)), In s.g, Rw (s.t.map (ndC false)), Rw (s.ps.map inC)]
def St.ow (s : St) : AV := .ag [.sl 1 s.d.sh.length, .sl 2 s.d.wr.length, In s.g, .sl 3 s.t.length, .sl 4 s.ps.length]
def St.obs (s : St) : List Ob := [.rw 135 1 (s.d.sh.map (shC true)), .rw 113 2 (s.d.wr.map (wrC true)), .rw 111 3 (s.t.map (ndC true)), .rw 3 1 (s.ps.map inC)]
def St.fits (M : Nat) (s : St) : Prop := s.d.fits M ∧ s.t.length ≤ M ∧ (∀ n ∈ s.t, n.fits M) ∧ s.ps.length ≤ M
theorem eqStore_ok (s : St) (h : s.fits (2^40)) : CallOk Tryz.prog 12 [] [s.rd, s.rd] (fun r out => r = Bo true ∧ out = []) := by
  obtain ⟨h1, h2, h3, h4⟩ := h
  have c1 := eqDisk_ok s.d s.d h1
  unfold Dk.rd at c1
  unfold St.rd
  refine callOk_z (np := 0) {} mixed Tryz.func12 (by rfl) Tryz.ntmps12 Tryz.results12 (by rfl) (Nat.le_of_ble_eq_true rfl) rfl rfl rfl (vc ?_)
  refine callq_of false [] c1 rfl trivial (vc trivial) ?_
  rintro r out ⟨rfl, rfl⟩
  refine vc4 (by simp) (by simp) (by simp) ?_
  refine callq_of false [] (eqTree_ok s.t s.t h2 h3) rfl trivial (vc trivial) ?_
  rintro r out ⟨rfl, rfl⟩
  refine vc4 (by simp) (by simp) (by simp) ?_
  refine callq_of false [] (eqIntS_ok s.ps s.ps h4 (fun _ _ => trivial)) rfl trivial (vc trivial) ?_
  rintro r out ⟨rfl, rfl⟩
  refine vc4 (by simp) (by simp) (by simp) ?_
  exact EndQ.closed (.v _) ⟨rfl, rfl⟩
def St.cnt (s : St) : Nat := s.d.cnt + sumL cntN s.t + sumL c1 s.ps
def mkS (s : St) (k : Int) : St := ⟨mkD s.d k, s.g, mkL mkNd cntN s.t (k + s.d.cnt), mkL mkIn c1 s.ps (k + s.d.cnt + sumL cntN s.t)⟩
def St.lens (M : Nat) (s : St) : Prop := s.d.sh.length ≤ M ∧ s.d.wr.length ≤ M ∧ s.t.length ≤ M ∧ s.ps.length ≤ M
theorem markStore_ok (s : St) (k : Int) (h : s.lens (2^60)) (hk : 0 ≤ k ∧ k + s.cnt ≤ 2^60) : CallOk Tryz.prog 15 s.obs [s.ow, In k] (fun r out => r = In (k + s.cnt) ∧ out = (mkS s k).obs.map some) := by
  obtain ⟨h1, h1', h2, h4⟩ := h
  unfold St.cnt at hk ⊢
  have m1 := markDisk_ok 135 113 s.d k ⟨h1, h1'⟩ (by omega)
  have m2 := markTree_ok 111 s.t (k + s.d.cnt) h2 (by omega)
  have m3 := markIntS_ok 3 s.ps (k + s.d.cnt + sumL cntN s.t) h4 (by omega)
  unfold Dk.ow at m1
  unfold St.obs St.ow
  refine callOk_z (np := 4) {} mixed Tryz.func15 (by rfl) Tryz.ntmps15 Tryz.results15 (by rfl) (Nat.le_of_ble_eq_true rfl) rfl rfl rfl (vc ?_)
  refine callq_of false [1, 2] m1 rfl (vc trivial) (vc trivial) ?_
  rintro r out ⟨rfl, rfl⟩
  refine vc4 (by simp) (by simp) (by simp) ?_
  refine callq_of false [3] m2 rfl (vc trivial) (vc trivial) ?_
  rintro r out ⟨rfl, rfl⟩
  refine vc4 (by simp) (by simp) (by simp) ?_
  refine callq_of false [4] m3 rfl (vc trivial) (vc trivial) ?_
  rintro r out ⟨rfl, rfl⟩
  refine vc4 (by simp) (by simp) (by simp) ?_
  refine endQ_of [] (In (k + (s.d.cnt + sumL cntN s.t + sumL c1 s.ps : Nat))) [some (.rw 135 1 ((mkD s.d k).sh.map (shC true))), some (.rw 113 2 ((mkD s.d k).wr.map (wrC true))), some (.rw 111 3 ((mkL mkNd cntN s.t (k + s.d.cnt)).map (ndC true))), some (.rw 3 1 ((mkL mkIn c1 s.ps (k + s.d.cnt + sumL cntN s.t)).map inC))] (by rfl) (vc ?_) (vc trivial) ⟨rfl, rfl⟩
  omega
end Go.Proofs.YtnnmpdanfeejbaaGreat.Abs

/- Trees within: what the reference's functions come to. -/
namespace Go.Proofs.YtnnmpdanfeejbaaGreat.Abs
open Go Go.Proofs
set_option linter.unusedVariables false
set_option linter.unusedSimpArgs false
def keyOk (k : ByteArray) : Prop := 1 ≤ k.size ∧ k.size ≤ 16
def valOk (v : ByteArray) : Prop := v.size ≤ 60
/-- Less, by bytes. -/
def ltB (a b : ByteArray) : Bool := Op.bytesLess a.toList b.toList
def pairsOk (l : List Pr) : Prop := l.length ≤ 200 ∧ (∀ p ∈ l, keyOk p.k ∧ valOk p.v) ∧ ∀ i (p q : Pr), l[i]? = some p → l[i + 1]? = some q → ltB p.k q.k = true
mutual
def Sub.sz : Sub → Nat
  | .mk _ _ ks => 1 + Sub.szL ks
def Sub.szL : List Sub → Nat
  | [] => 0
  | x :: r => x.sz + Sub.szL r
end
theorem Sub.sz_mem {x : Sub} : ∀ {l : List Sub}, x ∈ l → x.sz ≤ Sub.szL l
  | y :: r, h => by
    rw [Sub.szL]
    rcases List.mem_cons.1 h with rfl | h
    · omega
    · have := Sub.sz_mem h; omega
theorem Sub.sz_kid {s x : Sub} (h : x ∈ s.ks) : x.sz < s.sz := by
  cases s with
  | mk l ps ks =>
    have : x.sz ≤ Sub.szL ks := Sub.sz_mem h
    rw [Sub.sz]; omega
theorem Sub.sz_pos (s : Sub) : 1 ≤ s.sz := by cases s; rw [Sub.sz]; omega
theorem Sub.szL_len : ∀ l : List Sub, l.length ≤ Sub.szL l
  | [] => Nat.le_refl _
  | x :: r => by
    have h1 := Sub.szL_len r
    have h2 := x.sz_pos
    rw [Sub.szL, List.length_cons]; omega
theorem Sub.ks_len (s : Sub) : s.ks.length < s.sz := by
  cases s with
  | mk l ps ks =>
    have : ks.length ≤ Sub.szL ks := Sub.szL_len ks
    rw [Sub.sz]; show ks.length < _; omega
def fstK : List Pr → ByteArray
  | [] => ⟨#[]⟩
  | p :: _ => p.k
mutual
def Sub.least : Sub → ByteArray
  | .mk l ps ks => if l = true then fstK ps else (Sub.leastL ks).getD (fstK ps)
def Sub.leastL : List Sub → Option ByteArray
  | [] => none
  | x :: _ => some x.least
end
mutual
def Sub.pairs : Sub → List Pr
  | .mk _ ps ks => ps ++ Sub.pairsL ks
def Sub.pairsL : List Sub → List Pr
  | [] => []
  | x :: r => x.pairs ++ Sub.pairsL r
end
mutual
def Sub.deep : Sub → Int
  | .mk l _ ks => if l = true then 1 else Sub.deepL true 0 ks
def Sub.deepL : Bool → Int → List Sub → Int
  | _, d, [] => d
  | f, d, x :: r => if x.deep < 0 ∨ (f = false ∧ x.deep + 1 ≠ d) then -1 else Sub.deepL false (x.deep + 1) r
end
mutual
def Sub.full : Bool → Sub → Bool
  | root, .mk l ps ks => if l = true then decide (ps.length ≤ 4 ∧ (2 ≤ ps.length ∨ root = true ∧ ps.length = 1)) else decide (2 ≤ ks.length ∧ ks.length ≤ 4 ∧ ps = []) && Sub.fullL ks
def Sub.fullL : List Sub → Bool
  | [] => true
  | x :: r => x.full false && Sub.fullL r
end
theorem Sub.least_eq (s : Sub) : s.least = if s.leaf = true then fstK s.ps else (Sub.leastL s.ks).getD (fstK s.ps) := by cases s; rw [Sub.least]; rfl
theorem Sub.pairs_eq (s : Sub) : s.pairs = s.ps ++ Sub.pairsL s.ks := by cases s; rw [Sub.pairs]; rfl
theorem Sub.deep_eq (s : Sub) : s.deep = if s.leaf = true then 1 else Sub.deepL true 0 s.ks := by cases s; rw [Sub.deep]; rfl
theorem Sub.full_eq (s : Sub) (root : Bool) : s.full root = if s.leaf = true then decide (s.ps.length ≤ 4 ∧ (2 ≤ s.ps.length ∨ root = true ∧ s.ps.length = 1)) else decide (2 ≤ s.ks.length ∧ s.ks.length ≤ 4 ∧ s.ps = []) && Sub.fullL s.ks := by cases s; rw [Sub.full]; rfl
theorem Sub.pairsL_app (a b : List Sub) : Sub.pairsL (a ++ b) = Sub.pairsL a ++ Sub.pairsL b := by
  induction a with
  | nil => rfl
  | cons x r ih => rw [List.cons_append, Sub.pairsL, Sub.pairsL, ih, List.append_assoc]
theorem Sub.pairsL_next {l : List Sub} {i : Nat} {x : Sub} (h : l[i]? = some x) : Sub.pairsL (l.take (i + 1)) = Sub.pairsL (l.take i) ++ x.pairs := by
  rw [List.take_add_one, h, Sub.pairsL_app]; simp [Sub.pairsL]
theorem Sub.fullL_all (l : List Sub) : Sub.fullL l = true ↔ ∀ x ∈ l, x.full false = true := by
  induction l with
  | nil => simp [Sub.fullL]
  | cons x r ih => rw [Sub.fullL, Bool.and_eq_true, ih]; simp
mutual
/-- The nodes, laid from a place on. -/
def Sub.lay : Nat → Sub → List Nd
  | at', .mk l ps ks => if l = true then [⟨ps, [], []⟩] else ⟨[], (Sub.leasts ks).drop 1, Sub.plcs (at' + 1) ks⟩ :: Sub.layL (at' + 1) ks
def Sub.layL : Nat → List Sub → List Nd
  | _, [] => []
  | at', x :: r => x.lay at' ++ Sub.layL (at' + (x.lay at').length) r
def Sub.plcs : Nat → List Sub → List Int
  | _, [] => []
  | at', x :: r => (at' : Int) :: Sub.plcs (at' + (x.lay at').length) r
def Sub.leasts : List Sub → List ByteArray
  | [] => []
  | x :: r => x.least :: Sub.leasts r
end
theorem Sub.lay_eq (a : Nat) (s : Sub) : s.lay a = if s.leaf = true then [⟨s.ps, [], []⟩] else ⟨[], (Sub.leasts s.ks).drop 1, Sub.plcs (a + 1) s.ks⟩ :: Sub.layL (a + 1) s.ks := by cases s; rw [Sub.lay]; rfl
/-- What is read of the nodes from a place on; f: how deep it may yet go. -/
def rdT (t : List Nd) : Nat → Int → Option (Sub × Int)
  | 0, _ => none
  | f + 1, a => if a < 0 ∨ (t.length : Int) ≤ a then none else (rdK (rdT t f) (t[a.toNat]?.getD default).cs (a + 1)).map fun x => (.mk (decide ((t[a.toNat]?.getD default).cs.length = 0)) (t[a.toNat]?.getD default).ps x.1, x.2)
where
  rdK (rd : Int → Option (Sub × Int)) : List Int → Int → Option (List Sub × Int)
    | [], nx => some ([], nx)
    | k :: r, nx => if k = nx then (rd k).bind fun x => (rdK rd r x.2).map fun y => (x.1 :: y.1, y.2) else none
/-- A tree is read whole. -/
def rootT (t : List Nd) : Sub × Bool := if t.length = 0 then (.mk true [] [], true) else match rdT t 13 0 with
  | some (s, nx) => (s, decide (nx = t.length))
  | none => (.mk false [] [], false)
end Go.Proofs.YtnnmpdanfeejbaaGreat.Abs

/- Numbers and texts in bytes, and pages: pure. -/
namespace Go.Proofs.YtnnmpdanfeejbaaGreat.Abs
open Go Go.Proofs
set_option maxRecDepth 10000
set_option linter.unusedVariables false
set_option linter.unusedSimpArgs false
/-- A number in base 128, the lowest figure first. -/
def enc (n : Nat) : List UInt8 := if h : n < 128 then [UInt8.ofNat n] else UInt8.ofNat (n % 128 + 128) :: enc (n / 128)
termination_by n
decreasing_by omega
theorem enc_lt {n : Nat} (h : n < 128) : enc n = [UInt8.ofNat n] := by unfold enc; rw [dif_pos h]
theorem enc_ge {n : Nat} (h : ¬ n < 128) : enc n = UInt8.ofNat (n % 128 + 128) :: enc (n / 128) := by rw [enc, dif_neg h]
theorem enc_pos (n : Nat) : 0 < (enc n).length := by
  by_cases h : n < 128
  · rw [enc_lt h]; simp
  · rw [enc_ge h]; simp
theorem enc_le (j : Nat) : ∀ n, n < 128 ^ (j + 1) → (enc n).length ≤ j + 1 := by
  induction j with
  | zero => intro n h; rw [enc_lt (by simpa using h)]; simp
  | succ j ih =>
    intro n h
    by_cases c : n < 128
    · rw [enc_lt c]; simp
    · rw [enc_ge c]
      have := ih (n / 128) (by rw [Nat.div_lt_iff_lt_mul (by omega)]; rw [Nat.pow_succ] at h; exact h)
      simp; omega
theorem enc_gt (j : Nat) : ∀ n, 128 ^ j ≤ n → j + 1 ≤ (enc n).length := by
  induction j with
  | zero => intro n _; have := enc_pos n; omega
  | succ j ih =>
    intro n h
    have h1 : 1 ≤ 128 ^ j := Nat.pow_pos (by omega)
    have c : ¬ n < 128 := by rw [Nat.pow_succ] at h; omega
    rw [enc_ge c]
    have := ih (n / 128) (by rw [Nat.le_div_iff_mul_le (by omega)]; rw [Nat.pow_succ] at h; exact h)
    simp; omega
theorem enc_six {n : Nat} (h : n ≤ 1099511627775) : (enc n).length ≤ 6 := enc_le 5 n (by omega)
/-- What is read of a row of figures: the number, and how many they were; j: how many were read, n: what they say, u: the next one's weight. -/
def gv : List UInt8 → Nat → Nat → Nat → Option (Nat × Nat)
  | [], _, _, _ => none
  | b :: r, j, n, u => if 6 ≤ j then none else if 128 ≤ b.toNat then gv r (j + 1) (n + b.toNat % 128 * u) (u * 128) else
      if 1099511627775 < n + b.toNat % 128 * u ∨ (b.toNat = 0 ∧ 0 < j) then none else some (n + b.toNat % 128 * u, j + 1)
def gvRes (a : Nat) : Option (Nat × Nat) → Int × Int
  | some (n, c) => ((n : Int), ((a + c : Nat) : Int))
  | none => (0, -1)
def getVar (b : List UInt8) (a : Int) : Int × Int := if a < 0 then (0, -1) else gvRes a.toNat (gv (b.drop a.toNat) 0 0 1)
theorem getVar_out {b : List UInt8} {a : Int} (h : a < 0 ∨ (b.length : Int) ≤ a) : getVar b a = (0, -1) := by
  unfold getVar
  by_cases c : a < 0
  · rw [if_pos c]
  · rw [if_neg c, List.drop_of_length_le (by omega)]; rfl
theorem pow128 {j : Nat} (h : j ≤ 6) : 1 ≤ 128 ^ j ∧ 128 ^ j ≤ 4398046511104 := ⟨Nat.pow_pos (by omega), Nat.le_trans (Nat.pow_le_pow_right (by omega) h) (by decide)⟩
/-- The figures as they are written, one ahead of the others: the highest one is none only if it is alone. -/
theorem enc_len_iff {n b j : Nat} (hn : n < 128 ^ j) (hb : b < 128) : (enc (n + b * 128 ^ j)).length = j + 1 ↔ ¬ (b = 0 ∧ 0 < j) := by
  have hp : 1 ≤ 128 ^ j := Nat.pow_pos (by omega)
  have hle := enc_le j (n + b * 128 ^ j) (by
    rw [Nat.pow_succ]
    have : b * 128 ^ j ≤ 127 * 128 ^ j := Nat.mul_le_mul_right _ (by omega)
    omega)
  rcases Nat.eq_zero_or_pos b with h0 | h0
  · subst h0
    rcases Nat.eq_zero_or_pos j with hj | hj
    · subst hj
      have := enc_pos (n + 0 * 128 ^ 0)
      constructor
      · intro _ h; omega
      · intro _; omega
    · obtain ⟨i, rfl⟩ : ∃ i, j = i + 1 := ⟨j - 1, by omega⟩
      have := enc_le i (n + 0 * 128 ^ (i + 1)) (by omega)
      constructor
      · intro h; omega
      · intro h; exact absurd ⟨rfl, hj⟩ h
  · have : 128 ^ j ≤ b * 128 ^ j := Nat.le_mul_of_pos_left _ h0
    have := enc_gt j (n + b * 128 ^ j) (by omega)
    constructor
    · intro _ h; omega
    · intro _; omega
theorem gv_enc (r : List UInt8) : ∀ (m j n u : Nat), (enc m).length + j ≤ 6 → n + m * u ≤ 1099511627775 → (m ≠ 0 ∨ j = 0) →
    gv (enc m ++ r) j n u = some (n + m * u, j + (enc m).length) := by
  intro m
  induction m using Nat.strongRecOn with
  | _ m ih =>
    intro j n u hl hm hz
    by_cases h : m < 128
    · rw [enc_lt h] at hl ⊢
      simp only [List.cons_append, List.nil_append, gv]
      simp at hl
      have e : (UInt8.ofNat m).toNat = m := by simp; omega
      rw [e, if_neg (by omega), if_neg (by omega), Nat.mod_eq_of_lt h, if_neg (by omega)]
      simp
    · rw [enc_ge h] at hl ⊢
      simp only [List.cons_append, gv]
      simp at hl
      have hp := enc_pos (m / 128)
      have e : (UInt8.ofNat (m % 128 + 128)).toNat = m % 128 + 128 := by simp; omega
      have e1 : (m % 128 + 128) % 128 = m % 128 := by omega
      have e2 : m % 128 * u + m / 128 * (u * 128) = m * u := by
        rw [Nat.mul_comm u 128, ← Nat.mul_assoc, ← Nat.add_mul]
        congr 1
        omega
      rw [e, e1, if_neg (by omega), if_pos (by omega), ih (m / 128) (by omega) (j + 1) _ _ (by omega) (by omega) (by omega)]
      simp
      omega
theorem gv_enc0 {m : Nat} (r : List UInt8) (hm : m ≤ 1099511627775) : gv (enc m ++ r) 0 0 1 = some (m, (enc m).length) := by
  have := gv_enc r m 0 0 1 (by have := enc_six hm; omega) (by omega) (.inr rfl)
  simpa using this
theorem gv_bound : ∀ (l : List UInt8) (j n u : Nat) (m c : Nat), gv l j n u = some (m, c) → m ≤ 1099511627775 ∧ j < c ∧ c ≤ j + l.length
  | [], _, _, _, _, _, h => by simp [gv] at h
  | b :: r, j, n, u, m, c, h => by
    unfold gv at h
    split at h
    · cases h
    · split at h
      · have := gv_bound r _ _ _ _ _ h
        simp; omega
      · split at h
        · cases h
        · simp only [Option.some.injEq, Prod.mk.injEq] at h
          obtain ⟨rfl, rfl⟩ := h
          simp; omega
theorem getVar_cases (b : List UInt8) (a : Int) : getVar b a = (0, -1) ∨ ∃ m e : Nat, getVar b a = ((m : Int), (e : Int)) ∧ m ≤ 1099511627775 ∧ e ≤ b.length ∧ a < (e : Int) ∧ 0 ≤ a := by
  unfold getVar
  by_cases c : a < 0
  · rw [if_pos c]; exact .inl rfl
  · rw [if_neg c]
    cases h : gv (b.drop a.toNat) 0 0 1 with
    | none => exact .inl rfl
    | some p =>
      obtain ⟨m, c2⟩ := p
      have hb := gv_bound _ _ _ _ _ _ h
      rw [List.length_drop] at hb
      refine .inr ⟨m, a.toNat + c2, rfl, hb.1, ?_, ?_, by omega⟩
      · omega
      · omega
/-- A text's bytes, read. -/
def strB (l : List UInt8) : ByteArray := ⟨l.toArray⟩
theorem strB_data (b : ByteArray) : strB b.data.toList = b := rfl
/-- A text, behind its length. -/
def getText (b : List UInt8) (a : Int) : ByteArray × Int :=
  if (getVar b a).2 < 0 ∨ (b.length : Int) - (getVar b a).2 < (getVar b a).1 then (⟨#[]⟩, -1)
  else (strB ((b.drop (getVar b a).2.toNat).take (getVar b a).1.toNat), (getVar b a).2 + (getVar b a).1)
theorem getVar_at {b : List UInt8} {a : Int} {m : Nat} {r : List UInt8} (ha : 0 ≤ a) (h : b.drop a.toNat = enc m ++ r) (hm : m ≤ 1099511627775) :
    getVar b a = ((m : Int), a + (enc m).length) ∧ b.drop (a + (enc m).length).toNat = r := by
  constructor
  · unfold getVar
    rw [if_neg (by omega), h, gv_enc0 r hm]
    refine Prod.ext rfl ?_
    simp only [gvRes]; omega
  · rw [show (a + (enc m).length).toNat = a.toNat + (enc m).length by omega, ← List.drop_drop, h, List.drop_append_of_le_length (Nat.le_refl _), List.drop_length]; rfl
def txt (s : ByteArray) : List UInt8 := enc s.size ++ s.data.toList
theorem txt_len (s : ByteArray) : (txt s).length = (enc s.size).length + s.size := by rw [txt, List.length_append]; rfl
theorem getText_at {b : List UInt8} {a : Int} {s : ByteArray} {r : List UInt8} (ha : 0 ≤ a) (h : b.drop a.toNat = txt s ++ r) (hm : s.size ≤ 1099511627775) :
    getText b a = (s, a + (txt s).length) ∧ b.drop (a + (txt s).length).toNat = r := by
  rw [txt, List.append_assoc] at h
  obtain ⟨h1, h2⟩ := getVar_at ha h hm
  have hs : s.data.toList.length = s.size := rfl
  have hl : (b.drop a.toNat).length = b.length - a.toNat := List.length_drop
  rw [h, List.length_append, List.length_append, hs] at hl
  have hp := enc_pos s.size
  rw [txt_len]
  constructor
  · unfold getText
    rw [h1]
    simp only
    rw [if_neg (by omega), h2, Int.toNat_natCast, List.take_append_of_le_length (by omega), List.take_of_length_le (by omega), strB_data]
    refine Prod.ext rfl ?_
    simp only; omega
  · rw [show (a + (((enc s.size).length + s.size : Nat) : Int)).toNat = (a + (enc s.size).length).toNat + s.size by omega, ← List.drop_drop, h2, List.drop_append_of_le_length (by omega), List.drop_of_length_le (by omega)]; rfl
theorem getText_cases (b : List UInt8) (a : Int) : getText b a = (⟨#[]⟩, -1) ∨ ∃ (s : ByteArray) (e : Nat), getText b a = (s, (e : Int)) ∧ e ≤ b.length ∧ s.size ≤ b.length ∧ a < (e : Int) ∧ 0 ≤ a := by
  unfold getText
  split
  · exact .inl rfl
  · rename_i h
    rcases getVar_cases b a with e | ⟨m, e, h1, h2, h3, h4, h5⟩
    · rw [e] at h; simp at h
    · rw [h1] at h ⊢
      refine .inr ⟨_, e + m, rfl, ?_, ?_, ?_, h5⟩
      · simp only at h; omega
      · simp only [strB, ByteArray.size, List.size_toArray, List.length_take, List.length_drop]; omega
      · omega
/-- A page. -/
structure Pg where
  ks : List ByteArray
  vs : List ByteArray
  cs : List Int
  deriving DecidableEq, Inhabited
def keysOk (l : List ByteArray) : Prop := (∀ k ∈ l, keyOk k) ∧ ∀ i (p q : ByteArray), l[i]? = some p → l[i + 1]? = some q → ltB p q = true
def pageOk (p : Pg) : Prop := keysOk p.ks ∧ (∀ v ∈ p.vs, valOk v) ∧ (∀ c ∈ p.cs, 2 ≤ c ∧ c ≤ 399) ∧
  ((p.cs = [] ∧ 1 ≤ p.ks.length ∧ p.ks.length ≤ 4 ∧ p.vs.length = p.ks.length) ∨ (2 ≤ p.cs.length ∧ p.cs.length ≤ 4 ∧ p.ks.length + 1 = p.cs.length ∧ p.vs = []))
def leafB : List ByteArray → List ByteArray → List UInt8
  | k :: ks, v :: vs => txt k ++ (txt v ++ leafB ks vs)
  | _, _ => []
def innB : List ByteArray → List Int → List UInt8
  | k :: ks, c :: cs => txt k ++ (enc c.toNat ++ innB ks cs)
  | _, _ => []
def pageB (p : Pg) : List UInt8 := match p.cs with
  | [] => 76 :: (enc p.ks.length ++ leafB p.ks p.vs)
  | c :: cs => 66 :: (enc p.ks.length ++ (enc c.toNat ++ innB p.ks cs))
def padTo (n : Nat) (l : List UInt8) : List UInt8 := l ++ List.replicate (n - l.length) 0
theorem padTo_len {n : Nat} {l : List UInt8} (h : l.length ≤ n) : (padTo n l).length = n := by rw [padTo, List.length_append, List.length_replicate]; omega
theorem enc_one {n : Nat} (h : n < 128) : (enc n).length = 1 := by rw [enc_lt h]; rfl
theorem leafB_len : ∀ (ks vs : List ByteArray), (∀ k ∈ ks, keyOk k) → (∀ v ∈ vs, valOk v) → (leafB ks vs).length ≤ 78 * ks.length
  | [], vs, _, _ => by simp [leafB]
  | k :: ks, [], _, _ => by simp [leafB]
  | k :: ks, v :: vs, h1, h2 => by
    have ih := leafB_len ks vs (fun x hx => h1 x (List.mem_cons_of_mem _ hx)) (fun x hx => h2 x (List.mem_cons_of_mem _ hx))
    have a1 := (h1 k (List.mem_cons_self ..)).2
    have a2 := h2 v (List.mem_cons_self ..)
    unfold valOk at a2
    rw [leafB, List.length_append, List.length_append, txt_len, txt_len, enc_one (by omega), enc_one (by omega), List.length_cons]; omega
theorem innB_len : ∀ (ks : List ByteArray) (cs : List Int), (∀ k ∈ ks, keyOk k) → (∀ c ∈ cs, 2 ≤ c ∧ c ≤ 399) → (innB ks cs).length ≤ 19 * ks.length
  | [], vs, _, _ => by simp [innB]
  | k :: ks, [], _, _ => by simp [innB]
  | k :: ks, v :: vs, h1, h2 => by
    have ih := innB_len ks vs (fun x hx => h1 x (List.mem_cons_of_mem _ hx)) (fun x hx => h2 x (List.mem_cons_of_mem _ hx))
    have a1 := (h1 k (List.mem_cons_self ..)).2
    have a2 := h2 v (List.mem_cons_self ..)
    have a3 : (enc v.toNat).length ≤ 2 := enc_le 1 _ (by omega)
    rw [innB, List.length_append, List.length_append, txt_len, enc_one (by omega), List.length_cons]; omega
theorem pageB_len {p : Pg} (h : pageOk p) : (pageB p).length ≤ 320 := by
  obtain ⟨⟨h1, h1'⟩, h2, h3, h4⟩ := h
  unfold pageB
  obtain ⟨ks, vs, cs⟩ := p
  simp only at *
  rcases h4 with ⟨rfl, h5, h6, h7⟩ | ⟨h5, h6, h7, rfl⟩
  · have := leafB_len ks vs h1 h2
    simp only [List.length_cons, List.length_append]
    rw [enc_one (by omega)]; omega
  · cases cs with
    | nil => simp at h5
    | cons c cs =>
      have := innB_len ks cs h1 (fun x hx => h3 x (List.mem_cons_of_mem _ hx))
      have a2 := h3 c (List.mem_cons_self ..)
      have a3 : (enc c.toNat).length ≤ 2 := enc_le 1 _ (by omega)
      simp only [List.length_cons, List.length_append] at *
      rw [enc_one (by omega)]; omega
/-- A page's bytes, the whole sheet. -/
def sheetB (p : Pg) : List UInt8 := padTo 512 (pageB p)
/-- This sheet is this page's. -/
def goodPg (p : Pg) (b : List UInt8) : Prop := pageOk p ∧ sheetB p = b
theorem goodPg_leaf {p : Pg} {b : List UInt8} (h : goodPg p b) (hc : p.cs = []) : ∃ z, b = 76 :: (enc p.ks.length ++ (leafB p.ks p.vs ++ z)) := by
  refine ⟨List.replicate (512 - (pageB p).length) 0, ?_⟩
  rw [← h.2, sheetB, padTo, pageB, hc]
  simp
theorem goodPg_inn {p : Pg} {b : List UInt8} (h : goodPg p b) {c : Int} {cs : List Int} (hc : p.cs = c :: cs) : ∃ z, b = 66 :: (enc p.ks.length ++ (enc c.toNat ++ (innB p.ks cs ++ z))) := by
  refine ⟨List.replicate (512 - (pageB p).length) 0, ?_⟩
  rw [← h.2, sheetB, padTo, pageB, hc]
  simp
open Classical in
/-- The page that this sheet is, if any. -/
noncomputable def pgOf (b : List UInt8) : Option Pg := if h : ∃ p, goodPg p b then some h.choose else none
theorem pgOf_some {b : List UInt8} {p : Pg} (h : goodPg p b) (hu : ∀ q, goodPg q b → p = q) : pgOf b = some p := by
  unfold pgOf
  rw [dif_pos ⟨p, h⟩]
  exact congrArg some (hu _ (Exists.choose_spec (⟨p, h⟩ : ∃ p, goodPg p b))).symm
theorem pgOf_none {b : List UInt8} {p : Pg} (h : ¬ goodPg p b) (hu : ∀ q, goodPg q b → p = q) : pgOf b = none := by
  unfold pgOf
  rw [dif_neg]
  rintro ⟨q, hq⟩
  exact h (hu q hq ▸ hq)
theorem pgOf_no {b : List UInt8} (h : b.length ≠ 512) : pgOf b = none := by
  unfold pgOf
  rw [dif_neg]
  rintro ⟨q, hq⟩
  have := pageB_len hq.1
  have := padTo_len (n := 512) (l := pageB q) (by omega)
  rw [← hq.2] at h
  exact h this
theorem pgOf_good {b : List UInt8} {p : Pg} (h : pgOf b = some p) : goodPg p b := by
  unfold pgOf at h
  split at h
  · rename_i hx; cases h; exact hx.choose_spec
  · cases h
end Go.Proofs.YtnnmpdanfeejbaaGreat.Abs

/- The laws' helpers on operations: their contracts. -/
namespace Go.Proofs.YtnnmpdanfeejbaaGreat.Abs
open Go Go.Proofs
set_option maxRecDepth 10000
set_option linter.unusedVariables false
set_option linter.unusedSimpArgs false
theorem eqOp_ok (x y : Bool × Int × List UInt8) (hl : x.2.2.length ≤ 2^40) : CallOk Tryz.prog 79 [] [.ag [Bo x.1, In x.2.1, Rw (eB x.2.2)], .ag [Bo y.1, In y.2.1, Rw (eB y.2.2)]] (fun r out => r = Bo (decide (x = y)) ∧ out = []) := by
  refine callOk_z (np := 0) {} mixed Tryz.func79 (by rfl) Tryz.ntmps79 Tryz.results79 (by rfl) (Nat.le_of_ble_eq_true rfl) rfl rfl rfl (vc ?_)
  refine brB_intro (fun h => EndQ.closed (.v _) ⟨?_, rfl⟩) (fun h => ?_)
  · have : ¬ x = y := fun e => by rw [e] at h; simp at h
    simp [this]
  have h1 : x.1 = y.1 := by simpa using h
  refine callq_of false [] (eqWrite_ok x.2.1 y.2.1 x.2.2 y.2.2 hl) rfl trivial (vc trivial) ?_
  rintro r out ⟨rfl, rfl⟩
  refine ⟨by simp, by simp, by simp, vc ?_⟩
  refine brB_intro (fun h => EndQ.closed (.v _) ⟨?_, rfl⟩) (fun h => EndQ.closed (.v _) ⟨?_, rfl⟩)
  · have : ¬ x = y := fun e => by rw [e] at h; simp at h
    simp [this]
  · have : x = y := Prod.ext h1 (Prod.ext (by simp at h; exact h.1) (by simp at h; exact h.2))
    simp [this]
theorem eqOpS_ok (xs ys : List (Bool × Int × List UInt8)) (hl : xs.length ≤ 2^40) (hs : ∀ x ∈ xs, x.2.2.length ≤ 2^40) : CallOk Tryz.prog 28 [] [Rw (xs.map (opC false)), Rw (ys.map (opC false))] (fun r out => r = Bo (decide (xs = ys)) ∧ out = []) := by
  refine callOk_z (np := 0) {} mixed Tryz.func28 (by rfl) Tryz.ntmps28 Tryz.results28 (by rfl) (Nat.le_of_ble_eq_true rfl) rfl rfl rfl (vc ?_)
  refine brB_intro (fun h => EndQ.closed (.v _) ⟨?_, rfl⟩) (fun h => ?_)
  · have : xs ≠ ys := fun e => by simp [e] at h
    simp [this]
  have h0 : xs.length = ys.length := by
    have : ((xs.length : Nat) : Int) = ys.length := by simpa using h
    omega
  refine loopQ_of (fun i => [(0, Rw (xs.map (opC false))), (1, Rw (ys.map (opC false))), (5, In (i : Nat))]) (fun i => []) 1 (fun i => xs.length - i) (fun i => i ≤ xs.length ∧ xs.take i = ys.take i) 0 ⟨Nat.zero_le _, rfl⟩ [] (by rfl) (vc trivial) (vc trivial) (fun i hi N hN => vc (brB_intro (fun h => ?_) (fun h => ?_)))
  · have h : i < xs.length := by simpa using h
    have hx := List.getElem?_eq_getElem h
    have hy := List.getElem?_eq_getElem (h0 ▸ h)
    refine drawQ_of false (by rfl) (by simp) (vc ?_)
    rw [get_map hx, opC]
    refine vc ?_
    rw [get_map hy, opC]
    refine vc ?_
    refine calld_of [] false [] (eqOp_ok xs[i] ys[i] (hs _ (List.getElem_mem h))) rfl trivial (vc trivial) (by rfl) ⟨_, _, rfl, rfl⟩ ?_
    rintro r out ⟨rfl, rfl⟩
    refine ⟨by simp, by simp, by simp, vc ?_⟩
    refine brB_intro (fun hb => EndQ.closed (.v _) ⟨?_, rfl⟩) (fun hb => ?_)
    · have hb : ¬ xs[i] = ys[i] := fun e => by rw [e] at hb; simp at hb
      have : xs ≠ ys := fun e => by subst e; exact hb rfl
      simp [this]
    · have hb : xs[i] = ys[i] := by simpa using hb
      refine hN _ (i + 1) [] ⟨h, take_next hi.2 hx hy hb⟩ (by omega) (by rfl) (vc ?_) (vc trivial)
      rw [w64 _ (by omega)]; simp
  · have h : i = xs.length := by simp at h; omega
    refine EndQ.closed (.v _) ⟨?_, rfl⟩
    have : xs = ys := by have := hi.2; rw [h, List.take_length, h0, List.take_length] at this; exact this
    simp [this]
def mkO (x : Bool × Int × List UInt8) (k : Int) : Bool × Int × List UInt8 := (k.tmod 3 == 0, k + 1, mkB x.2.2.length (k + 2))
def cntO (x : Bool × Int × List UInt8) : Nat := x.2.2.length + 2
theorem mkO_idem (x : Bool × Int × List UInt8) (k : Int) : mkO (mkO x k) k = mkO x k ∧ cntO (mkO x k) = cntO x := by
  simp [mkO, cntO, mkB_length]
theorem markOpS_ok (ty : Nat) (xs : List (Bool × Int × List UInt8)) (k : Int) (hl : xs.length ≤ 2^60) (hk : 0 ≤ k ∧ k + sumL cntO xs ≤ 2^60) : CallOk Tryz.prog 32 [.rw ty 3 (xs.map (opC true))] [.sl 1 xs.length, In k]
    (fun r out => r = In (k + sumL cntO xs) ∧ out = [some (.rw ty 3 ((mkL mkO cntO xs k).map (opC true)))]) := by
  refine callOk_z (np := 1) { fs := [(8, 5)] } mixed Tryz.func32 (by rfl) Tryz.ntmps32 Tryz.results32 (by rfl) (Nat.le_of_ble_eq_true rfl) rfl rfl rfl (vc ?_)
  generalize hM : mkL mkO cntO xs k = M
  have hl' : M.length = xs.length := by rw [← hM, mkL_length]
  refine loopQ_of (fun i => [(0, .sl 1 xs.length), (1, In (k + (sumL cntO (xs.take i) : Nat))), (5, In (i : Nat))]) (fun i => [(1, .rw ty 3 ((M.take i ++ xs.drop i).map (opC true)))]) 2 (fun i => xs.length - i) (fun i => i ≤ xs.length) 0 (Nat.zero_le _) [] (by rfl) (vc ?_) (vc ?_) (fun i hi N hN => vc (brB_intro (fun h => ?_) (fun h => ?_)))
  · simp [sumL_nil]
  · simp [HpS, wkO]
  · have h : i < xs.length := by simpa using h
    have hx := List.getElem?_eq_getElem h
    have hm : M[i]? = some (mkO xs[i] (k + sumL cntO (xs.take i))) := by rw [← hM, mkL_get _ _ hx]
    have hle := sumL_le cntO xs (i + 1)
    rw [sumL_next _ hx, cntO] at hle
    have hget := mix_get (opC true) hl' hx
    generalize hA : (M.take i ++ xs.drop i).map (opC true) = A at hget ⊢
    generalize hK : k + sumL cntO (xs.take i) = K at hm hle ⊢
    have hAl : A.length = xs.length := by rw [← hA]; simp; omega
    refine ⟨⟨h, by simp; omega⟩, ?_⟩
    rw [hget, opC]
    refine vc ?_
    refine ⟨⟨h, by omega⟩, ?_⟩
    rw [w64 (K + 1) (by omega)]
    have hset : ∀ x : List CV, (A.set i x)[i]? = some x := fun x => List.getElem?_set_self (by omega)
    rw [hset]
    refine vc ?_
    rw [w64 (K + 1 + 1) (by omega), show K + 1 + 1 = K + 2 by omega]
    refine fuseQ_of (vc ?_)
    refine ⟨⟨h, by omega⟩, ?_⟩
    by_cases h0 : xs[i].2.2 = []
    · refine fsK_seq (vc ?_)
      rw [hset, h0]
      refine vc ?_
      refine callq_of true [] (markByteS_nil (K + 2) (by omega) true) rfl trivial (vc trivial) ?_
      rintro r out ⟨rfl, rfl⟩
      refine ⟨by simp, by simp, fun _ => ⟨.v _, by simp⟩, vc ?_⟩
      refine hN _ (i + 1) [] h (by omega) (by rfl) (vc ?_) (vc ?_)
      · rw [w64 _ (by omega), sumL_next _ hx, cntO, h0]; simp; omega
      · rw [mkO, h0] at hm
        rw [← mix_set (opC true) hl' hm, hA]; rfl
    · refine fsK_tri rfl ⟨rfl, rfl, rfl, rfl, rfl, rfl, rfl, rfl⟩ (by rfl) ti69 rfl rfl rfl (hset _) rfl (by simpa [eB] using h0) rfl 1 (eB_one _) _ (eB_length _).symm (fun ty' => markByteS_ok ty' xs[i].2.2 (K + 2) (by omega)) (by rfl) (by simp [eB, mkB]) (own_eB _) (vc ?_)
      refine hN _ (i + 1) [] h (by omega) (by rfl) (vc ?_) (vc ?_)
      · rw [w64 _ (by omega), sumL_next _ hx, cntO]; simp; omega
      · rw [← mix_set (opC true) hl' hm, hA]; rfl
  · have h : i = xs.length := by simp at h; omega
    refine endQ_of [] (In (k + sumL cntO xs)) [some (.rw ty 3 (M.map (opC true)))] (by rfl) (vc ?_) (vc ?_) ⟨rfl, rfl⟩
    · rw [h, List.take_length]
    · rw [mix_all hl' h]
end Go.Proofs.YtnnmpdanfeejbaaGreat.Abs

/- Disks that tear: both by the same words. -/
namespace Go.Proofs.YtnnmpdanfeejbaaGreat.Abs
open Go Go.Proofs
set_option maxRecDepth 10000
set_option linter.unusedVariables false
set_option linter.unusedSimpArgs false
theorem eB_zeros (n : Nat) : List.replicate n [CV.v (.int .u8 0)] = eB (List.replicate n 0) := by simp [eB]
theorem eB_app (a b : List UInt8) : eB a ++ eB b = eB (a ++ b) := by simp [eB]
theorem eB_take (a : List UInt8) (n : Nat) : (eB a).take n = eB (a.take n) := by simp [eB]
theorem eB_drop (a : List UInt8) (n : Nat) : (eB a).drop n = eB (a.drop n) := by simp [eB]
/-- A sheet's bytes, noughts where there are none. -/
def sheet (b : List UInt8) : List UInt8 := if b = [] then List.replicate 512 0 else b
theorem l04Sheet_ok (b : List UInt8) (hb : b.length ≤ 2^40) : CallOk Tryz.prog 153 [] [Rw (eB b)] (fun r out => r = .tu [.sl 1 (sheet b).length, Bo (decide ((sheet b).length = 512))] ∧ out = [some (.rw 5 1 (eB (sheet b)))]) := by
  refine callOk_z (np := 0) {} mixed Tryz.func153 (by rfl) Tryz.ntmps153 Tryz.results153 (by rfl) (Nat.le_of_ble_eq_true rfl) rfl rfl rfl (vc ?_)
  refine brB_intro (fun h => ?_) (fun h => ?_)
  · have h : b = [] := by simpa using h
    subst h
    have e : sheet [] = List.replicate 512 0 := if_pos rfl
    refine endQ_of [(1, 41)] (.tu [.sl 1 (sheet []).length, Bo (decide ((sheet []).length = 512))]) [some (.rw 5 1 (eB (sheet [])))] (by rfl) (vc ?_) (vc ?_) ⟨rfl, rfl⟩
    · rw [e]; simp
    · rw [e, eB_zeros]
  · have h : ¬ b = [] := by simpa using h
    have e : sheet b = b := if_neg h
    rw [e]
    refine ⟨⟨by unfold maxLen; omega, by omega⟩, ?_⟩
    refine endQ_of [(1, 57)] (.tu [.sl 1 b.length, Bo (decide (b.length = 512))]) [some (.rw 5 1 (eB b))] (by rfl) (vc ?_) (vc trivial) ⟨rfl, rfl⟩
    rw [Bool.eq_iff_iff]; simp; omega
end Go.Proofs.YtnnmpdanfeejbaaGreat.Abs

/- Numbers in base 128, written and read: contracts. -/
namespace Go.Proofs.YtnnmpdanfeejbaaGreat.Abs
open Go Go.Proofs
set_option maxRecDepth 10000
set_option linter.unusedVariables false
set_option linter.unusedSimpArgs false
theorem wrap8 (x : Int) (hx : 0 ≤ x) : IntKind.u8.wrap x = ((UInt8.ofNat x.toNat).toNat : Int) := by
  simp [IntKind.wrap, IntKind.bits, IntKind.signed]; omega
theorem eB_snoc (acc : List UInt8) (x : Int) (hx : 0 ≤ x) : eB acc ++ [[CV.v (.int .u8 (IntKind.u8.wrap x))]] = eB (acc ++ [UInt8.ofNat x.toNat]) := by
  rw [wrap8 x hx]; simp [eB]
theorem specNum_ok (n : Int) : CallOk Tryz.prog 172 [] [In n] (fun r out => r = Bo (decide (0 ≤ n ∧ n ≤ 1099511627775)) ∧ out = []) := by
  refine callOk_z (np := 0) {} mixed Tryz.func172 (by rfl) Tryz.ntmps172 Tryz.results172 (by rfl) (Nat.le_of_ble_eq_true rfl) rfl rfl rfl (vc ?_)
  refine brB_intro (fun h => EndQ.closed (.v _) ⟨?_, rfl⟩) (fun h => EndQ.closed (.v _) ⟨?_, rfl⟩)
  · have h : n ≥ 0 := by simpa using h
    rw [show decide (n ≤ 1099511627775) = decide (0 ≤ n ∧ n ≤ 1099511627775) from decide_eq_decide.2 (by omega)]
  · have h : ¬ n ≥ 0 := by simpa using h
    rw [decide_eq_false (show ¬ (0 ≤ n ∧ n ≤ 1099511627775) by omega)]
def putVar (pre : List UInt8) (n : Int) : Option (List UInt8) := if (0 ≤ n ∧ n ≤ 1099511627775) ∧ (pre ++ enc n.toNat).length ≤ 4096 then some (pre ++ enc n.toNat) else none
def byO : Option (List UInt8) → List UInt8
  | some l => l
  | none => []
def byR (x : Option (List UInt8)) : AV := .tu [.sl 1 (byO x).length, Bo x.isSome]
def byH (x : Option (List UInt8)) : List (Option Ob) := [some (.rw 5 1 (eB (byO x)))]
theorem byNo (H : Hp) (R : AV → List (Option Ob) → Prop) (h : R (byR none) (byH none)) : EndQ 0 H (.tu [.nul, Bo false]) R :=
  endQ_of [(1, 0)] (.tu [.sl 1 0, Bo false]) [some (.rw 5 1 [])] (by rfl) (vc trivial) (vc trivial) h
theorem specPutVar_ok (pre : List UInt8) (n : Int) (hp : pre.length ≤ 2^40) : CallOk Tryz.prog 131 [] [Rw (eB pre), In n] (fun r out => r = byR (putVar pre n) ∧ out = byH (putVar pre n)) := by
  refine callOk_z (np := 0) {} mixed Tryz.func131 (by rfl) Tryz.ntmps131 Tryz.results131 (by rfl) (Nat.le_of_ble_eq_true rfl) rfl rfl rfl (vc ?_)
  refine callq_of false [] (specNum_ok n) rfl trivial (vc trivial) ?_
  rintro r out ⟨rfl, rfl⟩
  refine ⟨by simp, by simp, by simp, vc ?_⟩
  refine brB_intro (fun h => byNo _ _ ?_) (fun h => ?_)
  · have h : ¬ (0 ≤ n ∧ n ≤ 1099511627775) := fun e => by rw [decide_eq_true e] at h; cases h
    rw [putVar, if_neg (fun e => h e.1)]; exact ⟨rfl, rfl⟩
  have h : 0 ≤ n ∧ n ≤ 1099511627775 := by simpa using h
  obtain ⟨m, rfl⟩ : ∃ m : Nat, n = m := ⟨n.toNat, by omega⟩
  refine ⟨⟨by unfold maxLen; omega, by omega⟩, ?_⟩
  refine loopQ_of (ι := Nat × List UInt8) (fun i => [(1, In (i.1 : Nat)), (6, .sl 1 i.2.length)]) (fun i => [(1, .rw 5 1 (eB i.2))]) 2 (fun i => i.1) (fun i => i.2 ++ enc i.1 = pre ++ enc m ∧ i.1 ≤ 1099511627775) (m, pre) ⟨rfl, by omega⟩ [(1, 57)] (by rfl) (vc ?_) (vc ?_) (fun i hi N hN => ?_)
  · trivial
  · trivial
  obtain ⟨k, acc⟩ := i
  obtain ⟨hL, hk⟩ := hi
  simp only at hL hk hN
  have hlen : acc.length + (enc k).length = pre.length + (enc m).length := by rw [← List.length_append, hL, List.length_append]
  have he6 : (enc m).length ≤ 6 := enc_six (by omega)
  refine vc (brB_intro (fun h1 => ?_) (fun h1 => ?_))
  · have h1 : 128 ≤ k := by simp at h1; omega
    rw [enc_ge (by omega)] at hL hlen
    simp only [List.length_cons] at hlen
    refine ⟨⟨by unfold maxLen; omega, by omega⟩, ?_⟩
    refine hN _ (k / 128, acc ++ [UInt8.ofNat (k % 128 + 128)]) [(1, 66)] ⟨by rw [List.append_assoc]; exact hL, by show k / 128 ≤ _; omega⟩ (by show k / 128 < k; omega) (by rfl) (vc ?_) (vc ?_)
    · rw [show ((k : Nat) : Int).tdiv 128 = ((k / 128 : Nat) : Int) from rfl, w64 _ (by omega)]
      exact ⟨rfl, by simp⟩
    · rw [show ((k : Nat) : Int).tmod 128 = ((k % 128 : Nat) : Int) from rfl, w64 _ (by omega), eB_snoc _ _ (by omega)]
      congr 3
      congr 1
      omega
  · have h1 : k < 128 := by simp at h1; omega
    rw [enc_lt h1] at hL hlen
    refine ⟨⟨by unfold maxLen; omega, by omega⟩, ?_⟩
    simp only [List.length_singleton] at hlen
    refine brB_intro (fun h2 => byNo _ _ ?_) (fun h2 => ?_)
    · have h2 : ¬ (pre ++ enc m).length ≤ 4096 := by rw [List.length_append]; simp at h2; omega
      rw [putVar, if_neg (fun e => h2 e.2)]; exact ⟨rfl, rfl⟩
    · have h2 : (pre ++ enc m).length ≤ 4096 := by rw [List.length_append]; simp at h2; omega
      rw [putVar, if_pos ⟨h, h2⟩, Int.toNat_natCast, ← hL]
      refine endQ_of [(1, 50)] (.tu [.sl 1 (acc ++ [UInt8.ofNat k]).length, Bo true]) [some (.rw 5 1 (eB (acc ++ [UInt8.ofNat k])))] (by rfl) (vc ?_) (vc ?_) ⟨rfl, rfl⟩
      · simp
      · rw [eB_snoc _ _ (by omega), Int.toNat_natCast]
end Go.Proofs.YtnnmpdanfeejbaaGreat.Abs

/- Numbers and texts in bytes: the program's writing, both sides' reading. -/
namespace Go.Proofs.YtnnmpdanfeejbaaGreat.Abs
open Go Go.Proofs
set_option maxRecDepth 10000
set_option linter.unusedVariables false
set_option linter.unusedSimpArgs false
theorem vary_ok (pre : List UInt8) (m : Nat) (hp : pre.length ≤ 2^40) (hm : m ≤ 1099511627775) : CallOk Tryz.prog 181 [.rw 5 1 (eB pre)] [.sl 1 pre.length, In m] (fun r out => r = .sl 2 (pre ++ enc m).length ∧ out = [none, some (.rw 5 1 (eB (pre ++ enc m)))]) := by
  refine callOk_z (np := 1) {} mixed Tryz.func181 (by rfl) Tryz.ntmps181 Tryz.results181 (by rfl) (Nat.le_of_ble_eq_true rfl) rfl rfl rfl (vc ?_)
  refine loopQ_of (ι := Nat × List UInt8) (fun i => [(0, .sl 2 i.2.length), (1, In (i.1 : Nat))]) (fun i => [(2, .rw 5 1 (eB i.2))]) 3 (fun i => i.1) (fun i => i.2 ++ enc i.1 = pre ++ enc m ∧ i.1 ≤ 1099511627775) (m, pre) ⟨rfl, hm⟩ [(2, 1)] (by rfl) (vc ?_) (vc ?_) (fun i hi N hN => ?_)
  · trivial
  · trivial
  obtain ⟨k, acc⟩ := i
  obtain ⟨hL, hk⟩ := hi
  simp only at hL hk hN
  have hlen : acc.length + (enc k).length = pre.length + (enc m).length := by rw [← List.length_append, hL, List.length_append]
  have he6 : (enc m).length ≤ 6 := enc_six (by omega)
  refine vc (brB_intro (fun h1 => ?_) (fun h1 => ?_))
  · have h1 : 128 ≤ k := by simp at h1; omega
    rw [enc_ge (by omega)] at hL hlen
    simp only [List.length_cons] at hlen
    refine ⟨⟨by unfold maxLen; omega, by omega⟩, ?_⟩
    refine hN _ (k / 128, acc ++ [UInt8.ofNat (k % 128 + 128)]) [(2, 67)] ⟨by rw [List.append_assoc]; exact hL, by show k / 128 ≤ _; omega⟩ (by show k / 128 < k; omega) (by rfl) (vc ?_) (vc ?_)
    · rw [show ((k : Nat) : Int).tdiv 128 = ((k / 128 : Nat) : Int) from rfl, w64 _ (by omega)]
      exact ⟨by simp, rfl⟩
    · rw [show ((k : Nat) : Int).tmod 128 = ((k % 128 : Nat) : Int) from rfl, w64 _ (by omega), eB_snoc _ _ (by omega)]
      congr 3
  · have h1 : k < 128 := by simp at h1; omega
    rw [enc_lt h1] at hL hlen
    refine ⟨⟨by unfold maxLen; omega, by omega⟩, ?_⟩
    rw [← hL]
    refine endQ_of [(2, 51)] (.sl 2 (acc ++ [UInt8.ofNat k]).length) [none, some (.rw 5 1 (eB (acc ++ [UInt8.ofNat k])))] (by rfl) (vc ?_) (vc ?_) ⟨rfl, rfl⟩
    · simp
    · rw [eB_snoc _ _ (by omega), Int.toNat_natCast]
theorem text_ok (pre : List UInt8) (x : ByteArray) (hp : pre.length ≤ 2^40) (hx : x.size ≤ 2^20) : CallOk Tryz.prog 182 [.rw 5 1 (eB pre)] [.sl 1 pre.length, .c (.v (.string x))] (fun r out => r = .sl 2 (pre ++ txt x).length ∧ out = [none, some (.rw 5 1 (eB (pre ++ txt x)))]) := by
  refine callOk_z (np := 1) {} mixed Tryz.func182 (by rfl) Tryz.ntmps182 Tryz.results182 (by rfl) (Nat.le_of_ble_eq_true rfl) rfl rfl rfl (vc ?_)
  refine callq_of false [1] (vary_ok pre x.size hp (by omega)) rfl (vc trivial) (vc trivial) ?_
  rintro r out ⟨rfl, rfl⟩
  refine ⟨by simp, by simp, by simp, vc ?_⟩
  have he6 : (enc x.size).length ≤ 6 := enc_six (by omega)
  have hxl : x.data.toList.length = x.size := rfl
  rw [hxl, List.length_append]
  refine ⟨⟨by unfold maxLen; omega, by omega⟩, ?_⟩
  refine endQ_of [(2, 50)] (.sl 2 (pre ++ txt x).length) [none, some (.rw 5 1 (eB (pre ++ txt x)))] (by rfl) (vc ?_) (vc ?_) ⟨rfl, rfl⟩
  · rw [List.length_append, txt_len]; omega
  · rw [eB_app, List.append_assoc]; rfl
theorem specPutText_ok (pre : List UInt8) (x : ByteArray) (hp : pre.length ≤ 2^10) (hx : x.size ≤ 2^10) : CallOk Tryz.prog 132 [] [Rw (eB pre), .c (.v (.string x))] (fun r out => r = .tu [.sl 1 (pre ++ txt x).length, Bo true] ∧ out = [some (.rw 5 1 (eB (pre ++ txt x)))]) := by
  have he6 : (enc x.size).length ≤ 6 := enc_six (by omega)
  have hc := specPutVar_ok pre x.size (by omega)
  rw [putVar, if_pos ⟨by omega, by rw [List.length_append, Int.toNat_natCast]; omega⟩, Int.toNat_natCast] at hc
  unfold byR byH byO at hc
  refine callOk_z (np := 0) {} mixed Tryz.func132 (by rfl) Tryz.ntmps132 Tryz.results132 (by rfl) (Nat.le_of_ble_eq_true rfl) rfl rfl rfl (vc ?_)
  refine callq_of false [] hc rfl trivial (vc trivial) ?_
  rintro r out ⟨rfl, rfl⟩
  refine ⟨by simp, by simp, by simp, vc ?_⟩
  have hxl : x.data.toList.length = x.size := rfl
  rw [hxl, List.length_append, w64 _ (by omega)]
  refine brB_intro (fun h => by simp at h; omega) (fun h => ?_)
  refine ⟨by omega, ⟨by unfold maxLen; omega, by omega⟩, ?_⟩
  refine endQ_of [(1, 193)] (.tu [.sl 1 (pre ++ txt x).length, Bo true]) [some (.rw 5 1 (eB (pre ++ txt x)))] (by rfl) (vc ?_) (vc ?_) ⟨rfl, rfl⟩
  · rw [List.length_append, txt_len]; omega
  · rw [eB_app, List.append_assoc]; rfl
theorem specFill_ok (l : List UInt8) (n : Nat) (hn : n ≤ 4096) (hl : l.length ≤ n) : CallOk Tryz.prog 122 [] [Rw (eB l), In n] (fun r out => r = .tu [.sl 1 n, Bo true] ∧ out = [some (.rw 5 1 (eB (padTo n l)))]) := by
  refine callOk_z (np := 0) {} mixed Tryz.func122 (by rfl) Tryz.ntmps122 Tryz.results122 (by rfl) (Nat.le_of_ble_eq_true rfl) rfl rfl rfl (vc ?_)
  refine brB_intro (fun h => by simp at h; omega) (fun h => ?_)
  refine brB_intro (fun h => by simp at h; omega) (fun h => ?_)
  refine brB_intro (fun h => by simp at h; omega) (fun h => ?_)
  refine ⟨⟨by unfold maxLen; omega, by omega⟩, ?_⟩
  have hw : IntKind.i64.wrap ((n : Int) - l.length) = ((n - l.length : Nat) : Int) := by rw [w64 _ (by omega)]; omega
  rw [hw, if_pos ⟨by omega, by omega⟩]
  refine vc ?_
  refine ⟨⟨by unfold maxLen; omega, by omega⟩, ?_⟩
  refine endQ_of [(1, 169)] (.tu [.sl 1 n, Bo true]) [some (.rw 5 1 (eB (padTo n l)))] (by rfl) (vc ?_) (vc ?_) ⟨rfl, rfl⟩
  · omega
  · rw [eB_zeros, eB_app]; rfl
theorem implFill_ok (l : List UInt8) (n : Nat) (hn : n ≤ 4096) (hl : l.length ≤ n) : CallOk Tryz.prog 126 [] [Rw (eB l), In n] (fun r out => r = .tu [.sl 1 n, Bo true] ∧ out = [some (.rw 5 1 (eB (padTo n l)))]) := by
  refine callOk_z (np := 0) {} mixed Tryz.func126 (by rfl) Tryz.ntmps126 Tryz.results126 (by rfl) (Nat.le_of_ble_eq_true rfl) rfl rfl rfl (vc ?_)
  refine callq_of false [] (within_ok n 0 4096) rfl trivial (vc trivial) ?_
  rintro r out ⟨rfl, rfl⟩
  refine ⟨by simp, by simp, by simp, vc ?_⟩
  refine brB_intro (fun h => by simp at h; omega) (fun h => ?_)
  refine brB_intro (fun h => by simp at h; omega) (fun h => ?_)
  refine ⟨by omega, ⟨hl, by unfold maxLen; omega⟩, ?_⟩
  refine endQ_of [(1, 97)] (.tu [.sl 1 n, Bo true]) [some (.rw 5 1 (eB (padTo n l)))] (by rfl) (vc ?_) (vc ?_) ⟨rfl, rfl⟩
  · trivial
  · rw [List.drop_replicate, eB_zeros, eB_app]; rfl
theorem strB_eq (a b : List UInt8) : (({ data := a.toArray } : ByteArray).toList == ({ data := b.toArray } : ByteArray).toList) = decide (a = b) := by
  by_cases h : a = b
  · subst h; simp
  · rw [decide_eq_false h]
    have h1 : ¬ ({ data := a.toArray } : ByteArray) = ({ data := b.toArray } : ByteArray) := fun e => h (by
      have := congrArg (fun x : ByteArray => x.data.toList) e
      simpa using this)
    have h2 := mt (ba_ne _ _).1 h1
    simpa using h2
theorem l04Same_ok (a b : List UInt8) : CallOk Tryz.prog 154 [] [Rw (eB a), Rw (eB b)] (fun r out => r = Bo (decide (a = b)) ∧ out = []) := by
  refine callOk_z (np := 0) {} mixed Tryz.func154 (by rfl) Tryz.ntmps154 Tryz.results154 (by rfl) (Nat.le_of_ble_eq_true rfl) rfl rfl rfl (vc ?_)
  refine EndQ.closed (.v _) ⟨?_, rfl⟩
  rw [strB_eq]
theorem implGetVar_ok (b : List UInt8) (at' : Int) (hb : b.length ≤ 2^40) (ha : at' ≤ 2^40) : CallOk Tryz.prog 194 [] [Rw (eB b), In at'] (fun r out => r = .tu [In (getVar b at').1, In (getVar b at').2] ∧ out = []) := by
  refine callOk_z (np := 0) {} mixed Tryz.func194 (by rfl) Tryz.ntmps194 Tryz.results194 (by rfl) (Nat.le_of_ble_eq_true rfl) rfl rfl rfl (vc ?_)
  refine brB_intro (fun h => ?_) (fun h => ?_)
  · rw [getVar_out (.inl (by simpa using h))]
    exact EndQ.closed (.tu _ (by simp; exact ⟨.v _, .v _⟩)) ⟨rfl, rfl⟩
  obtain ⟨a, rfl⟩ : ∃ a : Nat, at' = a := ⟨at'.toNat, by simp at h; omega⟩
  rw [getVar, if_neg (by omega), Int.toNat_natCast]
  refine loopQ_of (ι := Nat × Nat) (fun i => [(0, Rw (eB b)), (1, In a), (6, In i.2), (7, In (128 ^ i.1 : Nat)), (8, In (a + i.1 : Nat))]) (fun i => []) 1 (fun i => 7 - i.1) (fun i => i.1 ≤ 6 ∧ i.2 < 128 ^ i.1 ∧ gv (b.drop a) 0 0 1 = gv (b.drop (a + i.1)) i.1 i.2 (128 ^ i.1)) (0, 0) ⟨by omega, by simp, by simp⟩ [] (by rfl) (vc ?_) (vc ?_) (fun i hi N hN => ?_)
  · rfl
  · trivial
  obtain ⟨j, n⟩ := i
  obtain ⟨hj, hn, hL⟩ := hi
  simp only at hj hn hL hN
  rw [hL]
  have hp := pow128 hj
  have hno : gv (b.drop (a + j)) j n (128 ^ j) = none → ∀ H : Hp, EndQ 0 H (.tu [In 0, In (-1)]) (fun r out => r = .tu [In (gvRes a (gv (b.drop (a + j)) j n (128 ^ j))).1, In (gvRes a (gv (b.drop (a + j)) j n (128 ^ j))).2] ∧ out = []) := fun e H => by
    rw [e]
    exact EndQ.closed (.tu _ (by simp; exact ⟨.v _, .v _⟩)) ⟨rfl, rfl⟩
  refine vc (brB_intro (fun h1 => ?_) (fun h1 => ?_))
  · have h1 : a + j < b.length := by simp at h1; omega
    have hx := List.getElem?_eq_getElem h1
    rw [w64 _ (by omega)]
    refine brB_intro (fun h2 => ?_) (fun h2 => ?_)
    · have h2 : j < 6 := by simp at h2; omega
      rw [List.drop_eq_getElem_cons h1, gv, if_neg (by omega)] at hL hno ⊢
      generalize b[a + j] = x at hx hL hno ⊢
      rw [eB_some hx]
      refine vc ?_
      have hx8 : x.toNat < 256 := x.toNat_lt
      have hmul : x.toNat % 128 * 128 ^ j ≤ 127 * 128 ^ j := Nat.mul_le_mul_right _ (by omega)
      have hps : 128 ^ (j + 1) = 128 ^ j * 128 := Nat.pow_succ ..
      rw [w64 (x.toNat : Int) (by omega), show ((x.toNat : Nat) : Int).tmod 128 = ((x.toNat % 128 : Nat) : Int) from rfl, ← Int.natCast_mul, w64 ((x.toNat % 128 * 128 ^ j : Nat) : Int) (by omega), ← Int.natCast_add, w64 ((n + x.toNat % 128 * 128 ^ j : Nat) : Int) (by omega)]
      rw [show (128 : Int) = ((128 : Nat) : Int) from rfl, ← Int.natCast_mul, w64 ((128 ^ j * 128 : Nat) : Int) (by omega)]
      refine brB_intro (fun h3 => ?_) (fun h3 => ?_)
      · have h3 : 128 ≤ x.toNat := by simp at h3; omega
        rw [if_pos h3, ← hps] at hL
        refine hN _ (j + 1, n + x.toNat % 128 * 128 ^ j) [] ⟨by omega, by show _ < 128 ^ (j + 1); omega, hL⟩ (by show 7 - (j + 1) < 7 - j; omega) (by rfl) (vc ?_) (vc trivial)
        rw [hps, w64 _ (by omega)]
        exact ⟨rfl, rfl⟩
      · have h3 : x.toNat < 128 := by simp at h3; omega
        rw [if_neg (by omega)] at hno ⊢
        generalize n + x.toNat % 128 * 128 ^ j = M at hno ⊢
        have hfin : ¬ (1099511627775 < M ∨ (x.toNat = 0 ∧ 0 < j)) → ∀ H : Hp, EndQ 0 H (.tu [In M, In (IntKind.i64.wrap ((a + j : Nat) + 1))]) (fun r out => r = .tu [In (gvRes a (if 1099511627775 < M ∨ (x.toNat = 0 ∧ 0 < j) then none else some (M, j + 1))).1, In (gvRes a (if 1099511627775 < M ∨ (x.toNat = 0 ∧ 0 < j) then none else some (M, j + 1))).2] ∧ out = []) := fun e H => by
          rw [if_neg e, w64 _ (by omega)]
          exact EndQ.closed (.tu _ (by simp; exact ⟨.v _, .v _⟩)) ⟨rfl, rfl⟩
        refine brB_intro (fun h4 => ?_) (fun h4 => ?_)
        · have h4 : 1099511627775 < M := by simp at h4; omega
          exact hno (if_pos (.inl h4)) _
        · have h4 : M ≤ 1099511627775 := by simp at h4; omega
          refine brB_intro (fun h5 => ?_) (fun h5 => ?_)
          · have h5 : x.toNat = 0 := by have := eq_of_beq h5; omega
            refine brB_intro (fun h6 => ?_) (fun h6 => ?_)
            · have h6 : 0 < j := by simp at h6; omega
              exact hno (if_pos (.inr ⟨h5, h6⟩)) _
            · have h6 : ¬ 0 < j := by simp at h6; omega
              exact hfin (fun e => e.elim (fun e => by omega) (fun e => h6 e.2)) _
          · have h5 : ¬ x.toNat = 0 := fun e => by rw [e] at h5; simp at h5
            exact hfin (fun e => e.elim (fun e => by omega) (fun e => h5 e.1)) _
    · have h2 : j = 6 := by simp at h2; omega
      refine hno ?_ _
      subst h2
      rw [List.drop_eq_getElem_cons h1, gv, if_pos (by omega)]
  · have h1 : b.length ≤ a + j := by simp at h1; omega
    refine hno ?_ _
    rw [List.drop_of_length_le h1]; rfl
theorem specGetVar_ok (b : List UInt8) (at' : Int) (hb : b.length ≤ 2^40) (ha : at' ≤ 2^40) : CallOk Tryz.prog 155 [] [Rw (eB b), In at'] (fun r out => r = .tu [In (getVar b at').1, In (getVar b at').2] ∧ out = []) := by
  refine callOk_z (np := 0) {} mixed Tryz.func155 (by rfl) Tryz.ntmps155 Tryz.results155 (by rfl) (Nat.le_of_ble_eq_true rfl) rfl rfl rfl (vc ?_)
  have hout : (at' < 0 ∨ (b.length : Int) ≤ at') → ∀ H : Hp, EndQ 0 H (.tu [In 0, In (-1)]) (fun r out => r = .tu [In (getVar b at').1, In (getVar b at').2] ∧ out = []) := fun e H => by
    rw [getVar_out e]
    exact EndQ.closed (.tu _ (by simp; exact ⟨.v _, .v _⟩)) ⟨rfl, rfl⟩
  refine brB_intro (fun h => hout (.inl (by simpa using h)) _) (fun h => brB_intro (fun h' => hout (.inr (by simpa using h')) _) (fun h' => ?_))
  clear hout
  obtain ⟨a, rfl⟩ : ∃ a : Nat, at' = a := ⟨at'.toNat, by simp at h; omega⟩
  have h' : a < b.length := by simp at h'; omega
  rw [getVar, if_neg (by omega), Int.toNat_natCast]
  refine loopQ_of (ι := Nat × Nat) (fun i => [(0, Rw (eB b)), (1, In a), (6, In i.2), (7, In (128 ^ i.1 : Nat)), (8, In (a + i.1 : Nat))]) (fun i => []) 1 (fun i => 7 - i.1) (fun i => i.1 ≤ 6 ∧ i.2 < 128 ^ i.1 ∧ gv (b.drop a) 0 0 1 = gv (b.drop (a + i.1)) i.1 i.2 (128 ^ i.1)) (0, 0) ⟨by omega, by simp, by simp⟩ [] (by rfl) (vc ?_) (vc ?_) (fun i hi N hN => ?_)
  · rfl
  · trivial
  obtain ⟨j, n⟩ := i
  obtain ⟨hj, hn, hL⟩ := hi
  simp only at hj hn hL hN
  rw [hL]
  have hp := pow128 hj
  have hno : gv (b.drop (a + j)) j n (128 ^ j) = none → ∀ H : Hp, EndQ 0 H (.tu [In 0, In (-1)]) (fun r out => r = .tu [In (gvRes a (gv (b.drop (a + j)) j n (128 ^ j))).1, In (gvRes a (gv (b.drop (a + j)) j n (128 ^ j))).2] ∧ out = []) := fun e H => by
    rw [e]
    exact EndQ.closed (.tu _ (by simp; exact ⟨.v _, .v _⟩)) ⟨rfl, rfl⟩
  refine vc (brB_intro (fun h1 => ?_) (fun h1 => ?_))
  · have h1 : a + j < b.length := by simp at h1; omega
    have hx := List.getElem?_eq_getElem h1
    rw [w64 _ (by omega)]
    refine brB_intro (fun h2 => ?_) (fun h2 => ?_)
    · have h2 : j < 6 := by simp at h2; omega
      rw [List.drop_eq_getElem_cons h1, gv, if_neg (by omega)] at hL hno ⊢
      generalize b[a + j] = x at hx hL hno ⊢
      rw [eB_some hx]
      refine vc ?_
      have hx8 : x.toNat < 256 := x.toNat_lt
      have hmul : x.toNat % 128 * 128 ^ j ≤ 127 * 128 ^ j := Nat.mul_le_mul_right _ (by omega)
      have hps : 128 ^ (j + 1) = 128 ^ j * 128 := Nat.pow_succ ..
      rw [w64 (x.toNat : Int) (by omega), show ((x.toNat : Nat) : Int).tmod 128 = ((x.toNat % 128 : Nat) : Int) from rfl, ← Int.natCast_mul, w64 ((x.toNat % 128 * 128 ^ j : Nat) : Int) (by omega), ← Int.natCast_add, w64 ((n + x.toNat % 128 * 128 ^ j : Nat) : Int) (by omega)]
      rw [eB_some hx]
      refine vc ?_
      refine brB_intro (fun h3 => ?_) (fun h3 => ?_)
      · have h3 : 128 ≤ x.toNat := by simp at h3; omega
        rw [if_pos h3, ← hps] at hL
        rw [show (128 : Int) = ((128 : Nat) : Int) from rfl, ← Int.natCast_mul, w64 ((128 ^ j * 128 : Nat) : Int) (by omega)]
        refine hN _ (j + 1, n + x.toNat % 128 * 128 ^ j) [] ⟨by omega, by show _ < 128 ^ (j + 1); omega, hL⟩ (by show 7 - (j + 1) < 7 - j; omega) (by rfl) (vc ?_) (vc trivial)
        rw [hps, w64 _ (by omega)]
        exact ⟨rfl, rfl⟩
      · have h3 : x.toNat < 128 := by simp at h3; omega
        have hle := enc_len_iff (b := x.toNat) hn h3
        rw [if_neg (by omega)] at hno ⊢
        rw [show x.toNat % 128 = x.toNat by omega] at hno ⊢
        generalize n + x.toNat * 128 ^ j = M at hno hle ⊢
        have hc := specPutVar_ok [] (M : Nat) (by simp)
        rw [eB_nil] at hc
        by_cases h4 : M ≤ 1099511627775
        · have he6 : (enc M).length ≤ 6 := enc_six h4
          rw [putVar, if_pos ⟨by omega, by rw [List.nil_append, Int.toNat_natCast]; omega⟩, Int.toNat_natCast, List.nil_append] at hc
          unfold byR byH byO at hc
          refine callq_of false [] hc rfl trivial (by refine vc ?_; exact ⟨false, rfl⟩) ?_
          rintro r out ⟨rfl, rfl⟩
          refine ⟨by simp, by simp, by simp, vc ?_⟩
          rw [w64 ((a + j : Nat) + 1) (by omega), w64 _ (by omega)]
          refine brB_intro (fun h5 => ?_) (fun h5 => ?_)
          · have h5 : ¬ (enc M).length = j + 1 := fun e => by rw [e] at h5; simp at h5; omega
            exact hno (if_pos (.inr (Classical.byContradiction fun e => h5 (hle.2 e)))) _
          · have h5 : (enc M).length = j + 1 := by simp at h5; omega
            rw [if_neg (fun e => e.elim (fun e => by omega) (hle.1 h5))]
            exact EndQ.closed (.tu _ (by simp; exact ⟨.v _, .v _⟩)) ⟨rfl, rfl⟩
        · rw [putVar, if_neg (fun e => h4 (by omega))] at hc
          unfold byR byH byO at hc
          refine callq_of false [] hc rfl trivial (by refine vc ?_; exact ⟨false, rfl⟩) ?_
          rintro r out ⟨rfl, rfl⟩
          refine ⟨by simp, by simp, by simp, vc ?_⟩
          exact hno (if_pos (.inl (by omega))) _
    · have h2 : j = 6 := by simp at h2; omega
      refine hno ?_ _
      subst h2
      rw [List.drop_eq_getElem_cons h1, gv, if_pos (by omega)]
  · have h1 : b.length ≤ a + j := by simp at h1; omega
    refine hno ?_ _
    rw [List.drop_of_length_le h1]; rfl
theorem specGetText_ok (b : List UInt8) (at' : Int) (hb : b.length ≤ 2^40) (ha : at' ≤ 2^40) : CallOk Tryz.prog 156 [] [Rw (eB b), In at'] (fun r out => r = .tu [.c (.v (.string (getText b at').1)), In (getText b at').2] ∧ out = []) := by
  refine callOk_z (np := 0) {} mixed Tryz.func156 (by rfl) Tryz.ntmps156 Tryz.results156 (by rfl) (Nat.le_of_ble_eq_true rfl) rfl rfl rfl (vc ?_)
  refine callq_of false [] (specGetVar_ok b at' hb ha) rfl trivial (vc trivial) ?_
  rintro r out ⟨rfl, rfl⟩
  refine ⟨by simp, by simp, by simp, vc ?_⟩
  unfold getText
  rcases getVar_cases b at' with e | ⟨m, q, e, h1, h2, h3, h4⟩
  · rw [e]
    refine vc ?_
    exact EndQ.closed (.tu _ (by simp; exact ⟨.v _, .v _⟩)) ⟨rfl, rfl⟩
  · rw [e]
    simp only
    refine brB_intro (fun h => by simp at h; omega) (fun h => ?_)
    rw [w64 _ (by omega)]
    refine brB_intro (fun h5 => ?_) (fun h5 => ?_)
    · rw [if_pos (.inr (by simp at h5 ⊢; omega))]
      exact EndQ.closed (.tu _ (by simp; exact ⟨.v _, .v _⟩)) ⟨rfl, rfl⟩
    · have h5 : m ≤ b.length - q := by simp at h5; omega
      rw [if_neg (show ¬ ((q : Int) < 0 ∨ (b.length : Int) - q < m) by omega), w64 _ (by omega), if_pos ⟨by omega, by omega⟩, ← Int.natCast_add, Int.toNat_natCast]
      refine vc ?_
      rw [if_pos (by omega), Option.bind_some, eB_take, eB_drop, List.drop_take, show q + m - q = m by omega]
      refine vc ?_
      refine EndQ.closed (.tu _ (by simp; exact ⟨.v _, .v _⟩)) ⟨?_, rfl⟩
      rw [w64 _ (by omega)]
      simp [strB]
theorem implGetText_ok (b : List UInt8) (at' : Int) (hb : b.length ≤ 2^40) (ha : at' ≤ 2^40) : CallOk Tryz.prog 195 [] [Rw (eB b), In at'] (fun r out => r = .tu [.c (.v (.string (getText b at').1)), In (getText b at').2] ∧ out = []) := by
  refine callOk_z (np := 0) {} mixed Tryz.func195 (by rfl) Tryz.ntmps195 Tryz.results195 (by rfl) (Nat.le_of_ble_eq_true rfl) rfl rfl rfl (vc ?_)
  refine callq_of false [] (implGetVar_ok b at' hb ha) rfl trivial (vc trivial) ?_
  rintro r out ⟨rfl, rfl⟩
  refine ⟨by simp, by simp, by simp, vc ?_⟩
  unfold getText
  rcases getVar_cases b at' with e | ⟨m, q, e, h1, h2, h3, h4⟩
  · rw [e]
    refine vc ?_
    exact EndQ.closed (.tu _ (by simp; exact ⟨.v _, .v _⟩)) ⟨rfl, rfl⟩
  · rw [e]
    simp only
    refine brB_intro (fun h => by simp at h; omega) (fun h => ?_)
    rw [w64 _ (by omega)]
    refine brB_intro (fun h5 => ?_) (fun h5 => ?_)
    · rw [if_pos (.inr (by simp at h5 ⊢; omega))]
      exact EndQ.closed (.tu _ (by simp; exact ⟨.v _, .v _⟩)) ⟨rfl, rfl⟩
    · have h5 : m ≤ b.length - q := by simp at h5; omega
      rw [if_neg (show ¬ ((q : Int) < 0 ∨ (b.length : Int) - q < m) by omega), w64 _ (by omega), if_pos ⟨by omega, by omega⟩, ← Int.natCast_add, Int.toNat_natCast]
      refine vc ?_
      rw [if_pos (by omega), Option.bind_some, eB_take, eB_drop, List.drop_take, show q + m - q = m by omega]
      refine vc ?_
      refine EndQ.closed (.tu _ (by simp; exact ⟨.v _, .v _⟩)) ⟨?_, rfl⟩
      rw [w64 _ (by omega)]
      simp [strB]
end Go.Proofs.YtnnmpdanfeejbaaGreat.Abs

/- The reference's functions on trees within: their contracts. -/
namespace Go.Proofs.YtnnmpdanfeejbaaGreat.Abs
open Go Go.Proofs
set_option maxRecDepth 10000
set_option linter.unusedVariables false
set_option linter.unusedSimpArgs false
theorem specKeyOk_ok (k : ByteArray) : CallOk Tryz.prog 158 [] [.c (.v (.string k))] (fun r out => r = Bo (tf (keyOk k)) ∧ out = []) := by
  refine callOk_z (np := 0) {} mixed Tryz.func158 (by rfl) Tryz.ntmps158 Tryz.results158 (by rfl) (Nat.le_of_ble_eq_true rfl) rfl rfl rfl (vc ?_)
  refine brB_intro (fun h => EndQ.closed (.v _) ⟨?_, rfl⟩) (fun h => EndQ.closed (.v _) ⟨?_, rfl⟩)
  · by_cases h2 : k.size ≤ 16
    · rw [tf_true ⟨by simp at h; omega, h2⟩]; simp; omega
    · rw [tf_false (fun e => h2 e.2)]; simp; omega
  · rw [tf_false (fun e => by have := e.1; simp at h; omega)]
theorem specValOk_ok (k : ByteArray) : CallOk Tryz.prog 159 [] [.c (.v (.string k))] (fun r out => r = Bo (tf (valOk k)) ∧ out = []) := by
  refine callOk_z (np := 0) {} mixed Tryz.func159 (by rfl) Tryz.ntmps159 Tryz.results159 (by rfl) (Nat.le_of_ble_eq_true rfl) rfl rfl rfl (vc ?_)
  refine EndQ.closed (.v _) ⟨?_, rfl⟩
  by_cases h2 : k.size ≤ 60
  · rw [tf_true (show valOk k from h2)]; simp; omega
  · rw [tf_false (show ¬ valOk k from h2)]; simp; omega
/-- A sub, handed over to be read. -/
def Sub.rd (s : Sub) : AV := .ag [Bo s.leaf, Rw (s.ps.map prC), Rw (s.ks.map (suC false))]
theorem least_ok : ∀ (n : Nat) (s : Sub), s.sz ≤ n → CallOk Tryz.prog 160 [] [s.rd] (fun r out => r = .c (.v (.string s.least)) ∧ out = []) := by
  intro n
  induction n with
  | zero => intro s hs; cases s; rw [Sub.sz] at hs; omega
  | succ n ih =>
    intro s hs
    unfold Sub.rd
    refine callOk_z (np := 0) {} mixed Tryz.func160 (by rfl) Tryz.ntmps160 Tryz.results160 (by rfl) (Nat.le_of_ble_eq_true rfl) rfl rfl rfl (vc ?_)
    obtain ⟨l, ps, ks⟩ := s
    have hq : ∀ H : Hp, ∀ v : ByteArray, v = fstK ps → (l = true ∨ ks = []) → EndQ 0 H (.c (.v (.string v))) (fun r out => r = .c (.v (.string (Sub.mk l ps ks).least)) ∧ out = []) := fun H v e h => EndQ.closed (.v _) ⟨by
      rw [e, Sub.least]
      rcases h with h | h
      · rw [if_pos h]
      · subst h; cases l <;> rfl, rfl⟩
    have hps : ∀ (A B : Prop), (∀ p r, ps = p :: r → A) → (ps = [] → B) → brB (decide ((((Sub.mk l ps ks).ps.length : Nat) : Int) > 0)) A B := fun A B hA hB => by
      cases ps with
      | nil => exact brB_intro (fun h => by simp [Sub.ps] at h) (fun _ => hB rfl)
      | cons p r => exact brB_intro (fun _ => hA p r rfl) (fun h => by simp [Sub.ps] at h <;> omega)
    refine brB_intro (fun h => brB_intro (fun h2 => ?_) (fun h2 => ?_)) (fun h => ?_)
    · cases ks with
      | nil => simp [Sub.ks] at h2
      | cons x r =>
        have hl : l = false := by simpa [Sub.leaf] using h
        subst hl
        have hx := ih x (by have := Sub.sz_kid (s := .mk false ps (x :: r)) (x := x) (by simp [Sub.ks]); omega)
        unfold Sub.rd at hx
        show bindK _ _
        rw [Sub.ks, List.map_cons, suC_eq]
        refine vc ?_
        refine callq_of false [] hx rfl trivial (vc trivial) ?_
        rintro r out ⟨rfl, rfl⟩
        refine ⟨by simp, by simp, by simp, vc ?_⟩
        refine EndQ.closed (.v _) ⟨?_, rfl⟩
        rfl
    · have hk : ks = [] := by
        cases ks with
        | nil => rfl
        | cons x r => simp [Sub.ks] at h2 <;> omega
      refine hps _ _ (fun p r hp => ?_) (fun hp => ?_)
      · subst hp
        show bindK _ _
        rw [Sub.ps, List.map_cons, prC]
        refine vc ?_
        exact hq _ _ rfl (.inr hk)
      · exact hq _ _ (by rw [hp]; rfl) (.inr hk)
    · have hl : l = true := by simpa [Sub.leaf] using h
      refine hps _ _ (fun p r hp => ?_) (fun hp => ?_)
      · subst hp
        show bindK _ _
        rw [Sub.ps, List.map_cons, prC]
        refine vc ?_
        exact hq _ _ rfl (.inl hl)
      · exact hq _ _ (by rw [hp]; rfl) (.inl hl)
theorem pairs_ok : ∀ (n : Nat) (s : Sub), s.sz ≤ n → s.sz ≤ 2^40 → s.pairs.length ≤ 2^40 → CallOk Tryz.prog 99 [] [s.rd] (fun r out => r = .sl 1 s.pairs.length ∧ out = [some (.rw 141 2 (s.pairs.map prC))]) := by
  intro n
  induction n with
  | zero => intro s hs; cases s; rw [Sub.sz] at hs; omega
  | succ n ih =>
    intro s hs hk hp
    unfold Sub.rd
    have hkl := s.ks_len
    refine callOk_z (np := 0) {} mixed Tryz.func99 (by rfl) Tryz.ntmps99 Tryz.results99 (by rfl) (Nat.le_of_ble_eq_true rfl) rfl rfl rfl (vc ?_)
    rw [Sub.pairs_eq] at hp ⊢
    have hp' := hp
    rw [List.length_append] at hp'
    refine ⟨⟨by unfold maxLen; omega, by omega⟩, ?_⟩
    refine loopQ_of (fun i => [(1, .pt 1 0 0), (3, .sl 2 (s.ps ++ Sub.pairsL (s.ks.take i)).length), (11, In s.ks.length), (12, In (i : Nat))]) (fun i => [(1, .box 144 [Bo s.leaf, Rw (s.ps.map prC), Rw (s.ks.map (suC false))]), (2, .rw 141 2 ((s.ps ++ Sub.pairsL (s.ks.take i)).map prC))]) 3 (fun i => s.ks.length - i) (fun i => i ≤ s.ks.length) 0 (Nat.zero_le _) [(2, 41)] (by rfl) (vc ?_) (vc ?_) (fun i hi N hN => vc (brB_intro (fun h => ?_) (fun h => ?_)))
    · simp [Sub.pairsL]
    · simp [Sub.pairsL]
    · have h : i < s.ks.length := by simpa using h
      have hx := List.getElem?_eq_getElem h
      have hm := List.getElem_mem h
      have hnx := Sub.pairsL_next hx
      have hle : (Sub.pairsL (s.ks.take (i + 1))).length ≤ (Sub.pairsL s.ks).length := by
        conv => rhs; rw [← List.take_append_drop (i + 1) s.ks, Sub.pairsL_app]
        rw [List.length_append]; omega
      rw [hnx, List.length_append] at hle
      have hc := ih s.ks[i] (by have := Sub.sz_kid hm; omega) (by have := Sub.sz_kid hm; omega) (by omega)
      unfold Sub.rd at hc
      rw [get_map hx, suC_eq]
      refine vc ?_
      refine callq_of false [] hc rfl trivial (vc trivial) ?_
      rintro r out ⟨rfl, rfl⟩
      refine ⟨by simp, by simp, by simp, vc ?_⟩
      refine ⟨⟨by unfold maxLen; simp; omega, by simp; omega⟩, ?_⟩
      refine hN _ (i + 1) [(2, 83)] h (by omega) (by rfl) (vc ?_) (vc ?_)
      · rw [hnx, w64 _ (by omega)]; simp; omega
      · rw [hnx]; simp
    · have h : i = s.ks.length := by simp at h; omega
      subst h
      rw [List.take_length]
      exact endQ_of [(1, 2)] (.sl 1 (s.ps ++ Sub.pairsL s.ks).length) [some (.rw 141 2 ((s.ps ++ Sub.pairsL s.ks).map prC))] (by rfl) (vc trivial) (vc trivial) ⟨rfl, rfl⟩
theorem deep_ok : ∀ (n : Nat) (s : Sub), s.sz ≤ n → s.sz ≤ 2^40 → (-1 ≤ s.deep ∧ s.deep ≤ s.sz) ∧ CallOk Tryz.prog 97 [] [s.rd] (fun r out => r = In s.deep ∧ out = []) := by
  intro n
  induction n with
  | zero => intro s hs; cases s; rw [Sub.sz] at hs; omega
  | succ n ih =>
    intro s hs hk
    have hkl := s.ks_len
    have hkid : ∀ x ∈ s.ks, (-1 ≤ x.deep ∧ x.deep ≤ x.sz) ∧ CallOk Tryz.prog 97 [] [x.rd] (fun r out => r = In x.deep ∧ out = []) := fun x hx => ih x (by have := Sub.sz_kid hx; omega) (by have := Sub.sz_kid hx; omega)
    have hb : ∀ (l : List Sub) (f : Bool) (d : Int), (∀ x ∈ l, x ∈ s.ks) → 0 ≤ d ∧ d ≤ s.sz → -1 ≤ Sub.deepL f d l ∧ Sub.deepL f d l ≤ s.sz := by
      intro l
      induction l with
      | nil => intro f d _ hd; rw [Sub.deepL]; omega
      | cons x r ihl =>
        intro f d hm hd
        have h1 := hkid x (hm x (List.mem_cons_self ..))
        have h2 := Sub.sz_kid (hm x (List.mem_cons_self ..))
        rw [Sub.deepL]
        split
        · omega
        · rename_i hc
          have hc : ¬ x.deep < 0 := fun e => hc (.inl e)
          exact ihl false (x.deep + 1) (fun y hy => hm y (List.mem_cons_of_mem _ hy)) (by omega)
    have hbd : -1 ≤ s.deep ∧ s.deep ≤ s.sz := by
      rw [Sub.deep_eq]
      have := s.sz_pos
      split
      · omega
      · exact hb s.ks true 0 (fun x hx => hx) (by omega)
    refine ⟨hbd, ?_⟩
    unfold Sub.rd
    refine callOk_z (np := 0) {} mixed Tryz.func97 (by rfl) Tryz.ntmps97 Tryz.results97 (by rfl) (Nat.le_of_ble_eq_true rfl) rfl rfl rfl (vc ?_)
    rw [Sub.deep_eq]
    refine brB_intro (fun h => EndQ.closed (.v _) ⟨?_, rfl⟩) (fun h => ?_)
    · rw [if_pos h]
    rw [if_neg (by simp [h])]
    refine loopQ_of (ι := Nat × Int) (fun i => [(1, .pt 1 0 0), (3, In i.2), (10, In s.ks.length), (11, In (i.1 : Nat))]) (fun i => [(1, .box 144 [Bo s.leaf, Rw (s.ps.map prC), Rw (s.ks.map (suC false))])]) 2 (fun i => s.ks.length - i.1) (fun i => i.1 ≤ s.ks.length ∧ (0 ≤ i.2 ∧ i.2 ≤ s.sz) ∧ Sub.deepL true 0 s.ks = Sub.deepL (i.1 == 0) i.2 (s.ks.drop i.1)) (0, 0) ⟨Nat.zero_le _, ⟨Int.le_refl _, by simp only; omega⟩, rfl⟩ [] (by rfl) (vc trivial) (vc trivial) (fun i hi N hN => ?_)
    obtain ⟨i, d⟩ := i
    obtain ⟨hi, hd, hL⟩ := hi
    simp only at hi hd hL hN
    refine vc (brB_intro (fun h => ?_) (fun h => ?_))
    · have h : i < s.ks.length := by simpa using h
      have hx := List.getElem?_eq_getElem h
      have hm := List.getElem_mem h
      have hc := (hkid _ hm).2
      have hcb := (hkid _ hm).1
      have hsz := Sub.sz_kid hm
      rw [List.drop_eq_getElem_cons h, Sub.deepL] at hL
      unfold Sub.rd at hc
      rw [get_map hx, suC_eq]
      refine vc ?_
      refine callq_of false [] hc rfl trivial (vc trivial) ?_
      rintro r out ⟨rfl, rfl⟩
      refine ⟨by simp, by simp, by simp, vc ?_⟩
      have hng : Sub.deepL true 0 s.ks = -1 → ∀ H : Hp, EndQ 0 H (In (-1)) fun r out => r = In (Sub.deepL true 0 s.ks) ∧ out = [] := fun e H => EndQ.closed (.v _) ⟨by rw [e], rfl⟩
      refine brB_intro (fun h1 => hng (by rw [hL, if_pos (.inl (by simpa using h1))]) _) (fun h1 => ?_)
      have h1 : 0 ≤ s.ks[i].deep := by simpa using h1
      rw [w64 _ (by omega)]
      have hgo : (i = 0 ∨ s.ks[i].deep + 1 = d) → 0 ≤ s.ks[i].deep + 1 ∧ s.ks[i].deep + 1 ≤ s.sz ∧ Sub.deepL true 0 s.ks = Sub.deepL (i + 1 == 0) (s.ks[i].deep + 1) (s.ks.drop (i + 1)) := fun e => ⟨by omega, by omega, by
        rw [hL, if_neg]
        · rfl
        · rintro (h2 | ⟨h2, h3⟩)
          · omega
          · rcases e with e | e
            · subst e; simp at h2
            · exact h3 e⟩
      refine brB_intro (fun h2 => brB_intro (fun h3 => hng (by rw [hL, if_pos (.inr ⟨by simp at h2 ⊢; omega, by simpa using h3⟩)]) _) (fun h3 => ?_)) (fun h2 => ?_)
      · obtain ⟨g1, g2, g3⟩ := hgo (.inr (by simpa using h3))
        refine hN _ (i + 1, s.ks[i].deep + 1) [] ⟨by simp only; omega, ⟨g1, g2⟩, g3⟩ (by simp only; omega) (by rfl) (vc ?_) (vc trivial)
        rw [w64 _ (by omega)]; simp
      · obtain ⟨g1, g2, g3⟩ := hgo (.inl (by simp at h2; omega))
        refine hN _ (i + 1, s.ks[i].deep + 1) [] ⟨by simp only; omega, ⟨g1, g2⟩, g3⟩ (by simp only; omega) (by rfl) (vc ?_) (vc trivial)
        rw [w64 _ (by omega)]; simp
    · have h : i = s.ks.length := by simp at h; omega
      refine EndQ.closed (.v _) ⟨?_, rfl⟩
      rw [hL, List.drop_of_length_le (by omega)]; rfl
end Go.Proofs.YtnnmpdanfeejbaaGreat.Abs

/- The reference's functions on trees within: full, pairs that rise. -/
namespace Go.Proofs.YtnnmpdanfeejbaaGreat.Abs
open Go Go.Proofs
set_option maxRecDepth 10000
set_option linter.unusedVariables false
set_option linter.unusedSimpArgs false
theorem full_ok : ∀ (n : Nat) (s : Sub) (root : Bool), s.sz ≤ n → s.sz ≤ 2^40 → CallOk Tryz.prog 96 [] [s.rd, Bo root] (fun r out => r = Bo (s.full root) ∧ out = []) := by
  intro n
  induction n with
  | zero => intro s root hs; cases s; rw [Sub.sz] at hs; omega
  | succ n ih =>
    intro s root hs hk
    have hkl := s.ks_len
    have hkid : ∀ x ∈ s.ks, CallOk Tryz.prog 96 [] [x.rd, Bo false] (fun r out => r = Bo (x.full false) ∧ out = []) := fun x hx => ih x false (by have := Sub.sz_kid hx; omega) (by have := Sub.sz_kid hx; omega)
    unfold Sub.rd
    refine callOk_z (np := 0) {} mixed Tryz.func96 (by rfl) Tryz.ntmps96 Tryz.results96 (by rfl) (Nat.le_of_ble_eq_true rfl) rfl rfl rfl (vc ?_)
    rw [Sub.full_eq]
    refine brB_intro (fun h => ?_) (fun h => ?_)
    · rw [if_pos h]
      have hq : ∀ (H : Hp) (b : Bool), b = decide (s.ps.length ≤ 4 ∧ (2 ≤ s.ps.length ∨ root = true ∧ s.ps.length = 1)) → EndQ 0 H (Bo b) (fun r out => r = Bo (decide (s.ps.length ≤ 4 ∧ (2 ≤ s.ps.length ∨ root = true ∧ s.ps.length = 1))) ∧ out = []) := fun H b e => EndQ.closed (.v _) ⟨by rw [e], rfl⟩
      refine brB_intro (fun h1 => brB_intro (fun h2 => hq _ _ ?_) (fun h2 => brB_intro (fun h3 => hq _ _ ?_) (fun h3 => hq _ _ ?_))) (fun h1 => hq _ _ ?_)
      · simp at h1 h2; rw [eq_comm, decide_eq_true_eq]; omega
      · simp at h1 h2 h3; rw [Bool.eq_iff_iff]; simp only [decide_eq_true_eq, beq_iff_eq, h3, true_and]; omega
      · simp at h1 h2 h3
        rw [eq_comm, decide_eq_false_iff_not, h3]
        rintro ⟨_, e | e⟩
        · omega
        · cases e.1
      · simp at h1; rw [eq_comm, decide_eq_false_iff_not]; omega
    · rw [if_neg (by simp [h])]
      have hf : ∀ H : Hp, ¬ (2 ≤ s.ks.length ∧ s.ks.length ≤ 4 ∧ s.ps = []) → EndQ 0 H (Bo false) (fun r out => r = Bo (decide (2 ≤ s.ks.length ∧ s.ks.length ≤ 4 ∧ s.ps = []) && Sub.fullL s.ks) ∧ out = []) := fun H e => EndQ.closed (.v _) ⟨by rw [decide_eq_false e]; rfl, rfl⟩
      refine brB_intro (fun h1 => hf _ (by simp at h1; omega)) (fun h1 => brB_intro (fun h2 => hf _ (by simp at h2; omega)) (fun h2 => brB_intro (fun h3 => hf _ (fun e => by rw [e.2.2] at h3; simp at h3)) (fun h3 => ?_)))
      have hcond : 2 ≤ s.ks.length ∧ s.ks.length ≤ 4 ∧ s.ps = [] := ⟨by simp at h1; omega, by simp at h2; omega, by simpa using h3⟩
      rw [decide_eq_true hcond, Bool.true_and]
      refine loopQ_of (fun i => [(2, .pt 1 0 0), (45, In s.ks.length), (46, In (i : Nat))]) (fun i => [(1, .box 144 [Bo s.leaf, Rw (s.ps.map prC), Rw (s.ks.map (suC false))])]) 2 (fun i => s.ks.length - i) (fun i => i ≤ s.ks.length ∧ ∀ x ∈ s.ks.take i, x.full false = true) 0 ⟨Nat.zero_le _, by simp⟩ [] (by rfl) (vc trivial) (vc trivial) (fun i hi N hN => vc (brB_intro (fun h => ?_) (fun h => ?_)))
      · have h : i < s.ks.length := by simpa using h
        have hx := List.getElem?_eq_getElem h
        have hm := List.getElem_mem h
        have hc := hkid _ hm
        unfold Sub.rd at hc
        rw [get_map hx, suC_eq]
        refine vc ?_
        refine callq_of false [] hc rfl trivial (vc trivial) ?_
        rintro r out ⟨rfl, rfl⟩
        refine ⟨by simp, by simp, by simp, vc ?_⟩
        refine brB_intro (fun hb => EndQ.closed (.v _) ⟨?_, rfl⟩) (fun hb => ?_)
        · have : ¬ Sub.fullL s.ks = true := fun e => by
            have := (Sub.fullL_all _).1 e _ hm
            rw [this] at hb; simp at hb
          simp [this]
        · have hb : s.ks[i].full false = true := by simpa using hb
          refine hN _ (i + 1) [] ⟨h, fun x hx' => ?_⟩ (by omega) (by rfl) (vc ?_) (vc trivial)
          · rw [List.take_add_one, hx] at hx'
            rcases List.mem_append.1 hx' with hx' | hx'
            · exact hi.2 x hx'
            · simp at hx'; rw [hx']; exact hb
          · rw [w64 _ (by omega)]; simp
      · have h : i = s.ks.length := by have := hi.1; simp at h; omega
        subst h
        refine EndQ.closed (.v _) ⟨?_, rfl⟩
        rw [(Sub.fullL_all _).2 (by have := hi.2; rwa [List.take_length] at this)]
theorem specPairsOk_ok (l : List Pr) (hl : l.length ≤ 2^40) : CallOk Tryz.prog 98 [] [Rw (l.map prC)] (fun r out => r = Bo (tf (pairsOk l)) ∧ out = []) := by
  refine callOk_z (np := 0) {} mixed Tryz.func98 (by rfl) Tryz.ntmps98 Tryz.results98 (by rfl) (Nat.le_of_ble_eq_true rfl) rfl rfl rfl (vc ?_)
  refine brB_intro (fun h => EndQ.closed (.v _) ⟨?_, rfl⟩) (fun h0 => ?_)
  · rw [tf_false (fun e => by have := e.1; simp at h; omega)]
  have h0 : l.length ≤ 200 := by simp at h0; omega
  have hbad : ∀ H : Hp, ¬ pairsOk l → EndQ 0 H (Bo false) (fun r out => r = Bo (tf (pairsOk l)) ∧ out = []) := fun H e => EndQ.closed (.v _) ⟨by rw [tf_false e], rfl⟩
  refine loopQ_of (fun i => [(0, Rw (l.map prC)), (8, Rw (l.map prC)), (9, In l.length), (10, In (i : Nat))]) (fun i => []) 1 (fun i => l.length - i) (fun i => i ≤ l.length ∧ (∀ p ∈ l.take i, keyOk p.k ∧ valOk p.v) ∧ ∀ j (p q : Pr), j + 1 < i → l[j]? = some p → l[j + 1]? = some q → ltB p.k q.k = true) 0 ⟨Nat.zero_le _, by simp, by simp⟩ [] (by rfl) (vc trivial) (vc trivial) (fun i hi N hN => vc (brB_intro (fun h => ?_) (fun h => ?_)))
  · have h : i < l.length := by simpa using h
    have hx := List.getElem?_eq_getElem h
    have hm := List.getElem_mem h
    rw [get_map hx, prC]
    refine vc ?_
    refine drawQ_of false (by rfl) (by simp) (vc ?_)
    refine calld_of [] false [] (specKeyOk_ok l[i].k) rfl trivial (vc trivial) (by rfl) ⟨_, _, rfl, rfl⟩ ?_
    rintro r out ⟨rfl, rfl⟩
    refine ⟨by simp, by simp, by simp, vc ?_⟩
    refine brB_intro (fun h1 => hbad _ (fun e => ?_)) (fun h1 => ?_)
    · have := (e.2.1 _ hm).1
      rw [tf_true this] at h1; cases h1
    have h1 : keyOk l[i].k := by
      by_cases e : keyOk l[i].k
      · exact e
      · rw [tf_false e] at h1; cases h1
    refine calld_of [] false [] (specValOk_ok l[i].v) rfl trivial (vc trivial) (by rfl) ⟨_, _, rfl, rfl⟩ ?_
    rintro r out ⟨rfl, rfl⟩
    refine ⟨by simp, by simp, by simp, vc ?_⟩
    refine brB_intro (fun h2 => hbad _ (fun e => ?_)) (fun h2 => ?_)
    · have := (e.2.1 _ hm).2
      rw [tf_true this] at h2; cases h2
    have h2 : valOk l[i].v := by
      by_cases e : valOk l[i].v
      · exact e
      · rw [tf_false e] at h2; cases h2
    have hall : ∀ p ∈ l.take (i + 1), keyOk p.k ∧ valOk p.v := fun p hp => by
      rw [List.take_add_one, hx] at hp
      rcases List.mem_append.1 hp with hp | hp
      · exact hi.2.1 p hp
      · simp at hp; rw [hp]; exact ⟨h1, h2⟩
    refine brB_intro (fun h3 => ?_) (fun h3 => ?_)
    · rw [w64 _ (by omega)]
      have h3 : 0 < i := by simpa using h3
      obtain ⟨k, rfl⟩ : ∃ k, i = k + 1 := ⟨i - 1, by omega⟩
      rw [show (((k + 1 : Nat) : Int) - 1) = ((k : Nat) : Int) by omega]
      have hy := List.getElem?_eq_getElem (show k < l.length by omega)
      refine vc ?_
      rw [get_map hy, prC]
      refine vc ?_
      refine brB_intro (fun h4 => hbad _ (fun e => ?_)) (fun h4 => ?_)
      · have := e.2.2 k _ _ hy hx
        unfold ltB at this
        rw [this] at h4; cases h4
      have h4 : ltB l[k].k l[k + 1].k = true := by unfold ltB; simpa using h4
      refine hN _ (k + 2) [] ⟨h, hall, fun j p q hj hp hq => ?_⟩ (by omega) (by rfl) (vc ?_) (vc trivial)
      · by_cases e : j = k
        · subst e
          rw [hy] at hp
          rw [hx] at hq
          cases hp; cases hq; exact h4
        · exact hi.2.2 j p q (by omega) hp hq
      · rw [w64 _ (by omega)]; simp; omega
    · have h3 : i = 0 := by simp at h3; omega
      subst h3
      refine hN _ 1 [] ⟨h, hall, fun j p q hj => by omega⟩ (by omega) (by rfl) (vc ?_) (vc trivial)
      rw [w64 _ (by omega)]; simp
  · have h : i = l.length := by have := hi.1; simp at h; omega
    subst h
    refine EndQ.closed (.v _) ⟨?_, rfl⟩
    rw [tf_true ⟨h0, by have := hi.2.1; rwa [List.take_length] at this, fun j p q h1 h2 => hi.2.2 j p q (List.getElem?_eq_some_iff.1 h2).1 h1 h2⟩]
end Go.Proofs.YtnnmpdanfeejbaaGreat.Abs

/- The program's functions on pairs: their contracts. -/
namespace Go.Proofs.YtnnmpdanfeejbaaGreat.Abs
open Go Go.Proofs
set_option maxRecDepth 10000
set_option linter.unusedVariables false
set_option linter.unusedSimpArgs false
theorem implKeyOk_ok (k : ByteArray) (hk : k.size ≤ 2^60) : CallOk Tryz.prog 202 [] [.c (.v (.string k))] (fun r out => r = Bo (tf (keyOk k)) ∧ out = []) := by
  refine callOk_z (np := 0) {} mixed Tryz.func202 (by rfl) Tryz.ntmps202 Tryz.results202 (by rfl) (Nat.le_of_ble_eq_true rfl) rfl rfl rfl (vc ?_)
  refine callq_of false [] (within_ok k.size 1 16) rfl trivial (vc trivial) ?_
  rintro r out ⟨rfl, rfl⟩
  refine ⟨by simp, by simp, by simp, vc ?_⟩
  refine EndQ.closed (.v _) ⟨?_, rfl⟩
  by_cases h : keyOk k
  · rw [tf_true h]; have := h.1; have := h.2; simp; omega
  · rw [tf_false h]; unfold keyOk at h; simp; omega
theorem implValOk_ok (k : ByteArray) : CallOk Tryz.prog 203 [] [.c (.v (.string k))] (fun r out => r = Bo (tf (valOk k)) ∧ out = []) := by
  refine callOk_z (np := 0) {} mixed Tryz.func203 (by rfl) Tryz.ntmps203 Tryz.results203 (by rfl) (Nat.le_of_ble_eq_true rfl) rfl rfl rfl (vc ?_)
  refine EndQ.closed (.v _) ⟨?_, rfl⟩
  by_cases h2 : k.size ≤ 60
  · rw [tf_true (show valOk k from h2)]; simp; omega
  · rw [tf_false (show ¬ valOk k from h2)]; simp; omega
theorem pairOk_ok (p : Pr) (hk : p.k.size ≤ 2^60) : CallOk Tryz.prog 213 [] [.ag [.c (.v (.string p.k)), .c (.v (.string p.v))]] (fun r out => r = Bo (tf (keyOk p.k ∧ valOk p.v)) ∧ out = []) := by
  refine callOk_z (np := 0) {} mixed Tryz.func213 (by rfl) Tryz.ntmps213 Tryz.results213 (by rfl) (Nat.le_of_ble_eq_true rfl) rfl rfl rfl (vc ?_)
  refine callq_of false [] (implKeyOk_ok p.k hk) rfl trivial (vc trivial) ?_
  rintro r out ⟨rfl, rfl⟩
  refine ⟨by simp, by simp, by simp, vc ?_⟩
  refine brB_intro (fun h => ?_) (fun h => ?_)
  · have h1 : keyOk p.k := by
      by_cases e : keyOk p.k
      · exact e
      · rw [tf_false e] at h; cases h
    refine callq_of false [] (implValOk_ok p.v) rfl trivial (vc trivial) ?_
    rintro r out ⟨rfl, rfl⟩
    refine ⟨by simp, by simp, by simp, vc ?_⟩
    refine EndQ.closed (.v _) ⟨?_, rfl⟩
    by_cases e : valOk p.v
    · rw [tf_true e, tf_true ⟨h1, e⟩]
    · rw [tf_false e, tf_false (fun x => e x.2)]
  · refine EndQ.closed (.v _) ⟨?_, rfl⟩
    rw [tf_false (fun x => by rw [tf_true x.1] at h; cases h)]
def riseOk (l : List Pr) : Prop := (∀ p ∈ l, keyOk p.k ∧ valOk p.v) ∧ ∀ i (p q : Pr), l[i]? = some p → l[i + 1]? = some q → ltB p.k q.k = true
theorem pairsOk_iff (l : List Pr) : pairsOk l ↔ riseOk l ∧ l.length ≤ 200 := by
  unfold pairsOk riseOk
  exact ⟨fun h => ⟨h.2, h.1⟩, fun h => ⟨h.2, h.1⟩⟩
theorem rise_ok (l : List Pr) (hl : l.length ≤ 2^40) (hk : ∀ p ∈ l, p.k.size ≤ 2^60) : CallOk Tryz.prog 198 [] [Rw (l.map prC)] (fun r out => r = Bo (tf (riseOk l)) ∧ out = []) := by
  refine callOk_z (np := 0) {} mixed Tryz.func198 (by rfl) Tryz.ntmps198 Tryz.results198 (by rfl) (Nat.le_of_ble_eq_true rfl) rfl rfl rfl (vc ?_)
  have hbad : ∀ H : Hp, ¬ riseOk l → EndQ 0 H (Bo false) (fun r out => r = Bo (tf (riseOk l)) ∧ out = []) := fun H e => EndQ.closed (.v _) ⟨by rw [tf_false e], rfl⟩
  refine loopQ_of (fun i => [(0, Rw (l.map prC)), (5, Rw (l.map prC)), (6, In l.length), (7, In (i : Nat))]) (fun i => []) 1 (fun i => l.length - i) (fun i => i ≤ l.length ∧ (∀ p ∈ l.take i, keyOk p.k ∧ valOk p.v) ∧ ∀ j (p q : Pr), j + 1 < i → l[j]? = some p → l[j + 1]? = some q → ltB p.k q.k = true) 0 ⟨Nat.zero_le _, by simp, by simp⟩ [] (by rfl) (vc trivial) (vc trivial) (fun i hi N hN => vc (brB_intro (fun h => ?_) (fun h => ?_)))
  · have h : i < l.length := by simpa using h
    have hx := List.getElem?_eq_getElem h
    have hm := List.getElem_mem h
    rw [get_map hx, prC]
    refine vc ?_
    refine drawQ_of false (by rfl) (by simp) (vc ?_)
    refine calld_of [] false [] (pairOk_ok l[i] (hk _ hm)) rfl trivial (vc trivial) (by rfl) ⟨_, _, rfl, rfl⟩ ?_
    rintro r out ⟨rfl, rfl⟩
    refine ⟨by simp, by simp, by simp, vc ?_⟩
    refine brB_intro (fun h1 => hbad _ (fun e => ?_)) (fun h1 => ?_)
    · have := e.1 _ hm
      rw [tf_true this] at h1; cases h1
    have h1 : keyOk l[i].k ∧ valOk l[i].v := by
      by_cases e : keyOk l[i].k ∧ valOk l[i].v
      · exact e
      · rw [tf_false e] at h1; cases h1
    have hall : ∀ p ∈ l.take (i + 1), keyOk p.k ∧ valOk p.v := fun p hp => by
      rw [List.take_add_one, hx] at hp
      rcases List.mem_append.1 hp with hp | hp
      · exact hi.2.1 p hp
      · simp at hp; rw [hp]; exact h1
    refine brB_intro (fun h3 => ?_) (fun h3 => ?_)
    · rw [w64 _ (by omega)]
      have h3 : 0 < i := by simpa using h3
      obtain ⟨k, rfl⟩ : ∃ k, i = k + 1 := ⟨i - 1, by omega⟩
      rw [show (((k + 1 : Nat) : Int) - 1) = ((k : Nat) : Int) by omega]
      have hy := List.getElem?_eq_getElem (show k < l.length by omega)
      refine vc ?_
      rw [get_map hy, prC]
      refine vc ?_
      refine brB_intro (fun h4 => hbad _ (fun e => ?_)) (fun h4 => ?_)
      · have := e.2 k _ _ hy hx
        unfold ltB at this
        rw [this] at h4; cases h4
      have h4 : ltB l[k].k l[k + 1].k = true := by unfold ltB; simpa using h4
      refine hN _ (k + 2) [] ⟨h, hall, fun j p q hj hp hq => ?_⟩ (by omega) (by rfl) (vc ?_) (vc trivial)
      · by_cases e : j = k
        · subst e
          rw [hy] at hp
          rw [hx] at hq
          cases hp; cases hq; exact h4
        · exact hi.2.2 j p q (by omega) hp hq
      · rw [w64 _ (by omega)]; simp; omega
    · have h3 : i = 0 := by simp at h3; omega
      subst h3
      refine hN _ 1 [] ⟨h, hall, fun j p q hj => by omega⟩ (by omega) (by rfl) (vc ?_) (vc trivial)
      rw [w64 _ (by omega)]; simp
  · have h : i = l.length := by have := hi.1; simp at h; omega
    subst h
    refine EndQ.closed (.v _) ⟨?_, rfl⟩
    rw [tf_true ⟨by have := hi.2.1; rwa [List.take_length] at this, fun j p q h1 h2 => hi.2.2 j p q (List.getElem?_eq_some_iff.1 h2).1 h1 h2⟩]
theorem implPairsOk_ok (l : List Pr) (hl : l.length ≤ 2^40) (hk : ∀ p ∈ l, p.k.size ≤ 2^60) : CallOk Tryz.prog 167 [] [Rw (l.map prC)] (fun r out => r = Bo (tf (pairsOk l)) ∧ out = []) := by
  refine callOk_z (np := 0) {} mixed Tryz.func167 (by rfl) Tryz.ntmps167 Tryz.results167 (by rfl) (Nat.le_of_ble_eq_true rfl) rfl rfl rfl (vc ?_)
  refine callq_of false [] (rise_ok l hl hk) rfl trivial (vc trivial) ?_
  rintro r out ⟨rfl, rfl⟩
  refine ⟨by simp, by simp, by simp, vc ?_⟩
  refine brB_intro (fun h => EndQ.closed (.v _) ⟨?_, rfl⟩) (fun h => EndQ.closed (.v _) ⟨?_, rfl⟩)
  · have h1 : riseOk l := by
      by_cases e : riseOk l
      · exact e
      · rw [tf_false e] at h; cases h
    by_cases e : l.length ≤ 200
    · rw [tf_true ((pairsOk_iff l).2 ⟨h1, e⟩)]; simp; omega
    · rw [tf_false (fun x => e ((pairsOk_iff l).1 x).2)]; simp; omega
  · rw [tf_false (fun x => by rw [tf_true ((pairsOk_iff l).1 x).1] at h; cases h)]
theorem copyPairs_ok (l : List Pr) (hl : l.length ≤ 2^40) : CallOk Tryz.prog 196 [] [Rw (l.map prC)] (fun r out => r = .sl 1 l.length ∧ out = [some (.rw 141 2 (l.map prC))]) := by
  refine callOk_z (np := 0) {} mixed Tryz.func196 (by rfl) Tryz.ntmps196 Tryz.results196 (by rfl) (Nat.le_of_ble_eq_true rfl) rfl rfl rfl (vc ?_)
  refine ⟨⟨by unfold maxLen; omega, by omega⟩, ?_⟩
  exact endQ_of [(1, 17)] (.sl 1 l.length) [some (.rw 141 2 (l.map prC))] (by rfl) (vc trivial) (vc trivial) ⟨rfl, rfl⟩
end Go.Proofs.YtnnmpdanfeejbaaGreat.Abs

/- Is it a page? Both sides: contracts. -/
namespace Go.Proofs.YtnnmpdanfeejbaaGreat.Abs
open Go Go.Proofs
set_option maxRecDepth 10000
set_option linter.unusedVariables false
set_option linter.unusedSimpArgs false
def Pg.rd (p : Pg) : AV := .ag [Rw (p.ks.map stC), Rw (p.vs.map stC), Rw (p.cs.map inC)]
def Pg.le (p : Pg) (n : Nat) : Prop := p.ks.length ≤ n ∧ p.vs.length ≤ n ∧ p.cs.length ≤ n ∧ ∀ k ∈ p.ks, k.size ≤ 2^60
theorem implPageOk_ok (p : Pg) (hp : p.le (2^40)) : CallOk Tryz.prog 180 [] [p.rd] (fun r out => r = Bo (tf (pageOk p)) ∧ out = []) := by
  obtain ⟨ks, vs, cs⟩ := p
  obtain ⟨hp1, hp2, hp3, hp4⟩ := hp
  simp only at hp1 hp2 hp3 hp4
  unfold Pg.rd
  refine callOk_z (np := 0) {} mixed Tryz.func180 (by rfl) Tryz.ntmps180 Tryz.results180 (by rfl) (Nat.le_of_ble_eq_true rfl) rfl rfl rfl (vc ?_)
  have hbad : ∀ H : Hp, ¬ pageOk ⟨ks, vs, cs⟩ → EndQ 0 H (Bo false) (fun r out => r = Bo (tf (pageOk ⟨ks, vs, cs⟩)) ∧ out = []) := fun H e => EndQ.closed (.v _) ⟨by rw [tf_false e], rfl⟩
  refine loopQ_of (fun i => [(1, .pt 1 0 0), (10, Rw (ks.map stC)), (11, In ks.length), (12, In (i : Nat))]) (fun i => [(1, .box 107 [Rw (ks.map stC), Rw (vs.map stC), Rw (cs.map inC)])]) 2 (fun i => ks.length - i) (fun i => i ≤ ks.length ∧ (∀ k ∈ ks.take i, keyOk k) ∧ ∀ j (p q : ByteArray), j + 1 < i → ks[j]? = some p → ks[j + 1]? = some q → ltB p q = true) 0 ⟨Nat.zero_le _, by simp, fun j p q h => by omega⟩ [(1, 1)] (by rfl) (vc trivial) (vc trivial) (fun i hi N hN => vc (brB_intro (fun h => ?_) (fun h => ?_)))
  · have h : i < ks.length := by simpa using h
    have hx := List.getElem?_eq_getElem h
    have hm := List.getElem_mem h
    rw [get_map hx, stC]
    refine vc ?_
    refine callq_of false [] (implKeyOk_ok ks[i] (hp4 _ hm)) rfl trivial (vc trivial) ?_
    rintro r out ⟨rfl, rfl⟩
    refine ⟨by simp, by simp, by simp, vc ?_⟩
    refine brB_intro (fun h1 => hbad _ (fun e => ?_)) (fun h1 => ?_)
    · rw [tf_true (e.1.1 _ hm)] at h1; cases h1
    have h1 : keyOk ks[i] := by
      by_cases e : keyOk ks[i]
      · exact e
      · rw [tf_false e] at h1; cases h1
    have hall : ∀ k ∈ ks.take (i + 1), keyOk k := fun k hk => by
      rw [List.take_add_one, hx] at hk
      rcases List.mem_append.1 hk with hk | hk
      · exact hi.2.1 k hk
      · simp at hk; rw [hk]; exact h1
    refine brB_intro (fun h3 => ?_) (fun h3 => ?_)
    · rw [w64 _ (by omega)]
      have h3 : 0 < i := by simpa using h3
      obtain ⟨k, rfl⟩ : ∃ k, i = k + 1 := ⟨i - 1, by omega⟩
      rw [show (((k + 1 : Nat) : Int) - 1) = ((k : Nat) : Int) by omega]
      have hy := List.getElem?_eq_getElem (show k < ks.length by omega)
      refine vc ?_
      rw [get_map hy, stC]
      refine vc ?_
      refine brB_intro (fun h4 => hbad _ (fun e => ?_)) (fun h4 => ?_)
      · have := e.1.2 k _ _ hy hx
        unfold ltB at this
        rw [this] at h4; cases h4
      have h4 : ltB ks[k] ks[k + 1] = true := by unfold ltB; simpa using h4
      refine hN _ (k + 2) [] ⟨h, hall, fun j p q hj hp hq => ?_⟩ (by omega) (by rfl) (vc ?_) (vc trivial)
      · by_cases e : j = k
        · subst e
          rw [hy] at hp
          rw [hx] at hq
          cases hp; cases hq; exact h4
        · exact hi.2.2 j p q (by omega) hp hq
      · rw [w64 _ (by omega)]; simp; omega
    · have h3 : i = 0 := by simp at h3; omega
      subst h3
      refine hN _ 1 [] ⟨h, hall, fun j p q hj => by omega⟩ (by omega) (by rfl) (vc ?_) (vc trivial)
      rw [w64 _ (by omega)]; simp
  have h : i = ks.length := by have := hi.1; simp at h; omega
  subst h
  have hkeys : keysOk ks := ⟨by have := hi.2.1; rwa [List.take_length] at this, fun j p q h2 h3 => hi.2.2 j p q (List.getElem?_eq_some_iff.1 h3).1 h2 h3⟩
  clear hi hN
  refine loopQ_of (fun i => [(1, .pt 1 0 0), (36, Rw (vs.map stC)), (37, In vs.length), (38, In (i : Nat))]) (fun i => [(1, .box 107 [Rw (ks.map stC), Rw (vs.map stC), Rw (cs.map inC)])]) 2 (fun i => vs.length - i) (fun i => i ≤ vs.length ∧ ∀ k ∈ vs.take i, valOk k) 0 ⟨Nat.zero_le _, by simp⟩ [(1, 1)] (by rfl) (vc trivial) (vc trivial) (fun i hi N hN => vc (brB_intro (fun h => ?_) (fun h => ?_)))
  · have h : i < vs.length := by simpa using h
    have hx := List.getElem?_eq_getElem h
    have hm := List.getElem_mem h
    have hall : (valOk vs[i]) → ∀ k ∈ vs.take (i + 1), valOk k := fun h1 k hk => by
      rw [List.take_add_one, hx] at hk
      rcases List.mem_append.1 hk with hk | hk
      · exact hi.2 k hk
      · simp at hk; rw [hk]; exact h1
    rw [get_map hx, stC]
    refine vc ?_
    refine callq_of false [] (implValOk_ok vs[i]) rfl trivial (vc trivial) ?_
    rintro r out ⟨rfl, rfl⟩
    refine ⟨by simp, by simp, by simp, vc ?_⟩
    refine brB_intro (fun h1 => hbad _ (fun e => ?_)) (fun h1 => ?_)
    · have h2 := e.2.1 _ hm
      first | (rw [tf_true h2] at h1; cases h1) | (rw [decide_eq_true h2] at h1; cases h1)
    · have h1 : valOk vs[i] := by
        by_cases e : valOk vs[i]
        · exact e
        · first | (rw [tf_false e] at h1; cases h1) | (rw [decide_eq_false e] at h1; cases h1)
      refine hN _ (i + 1) [] ⟨h, hall h1⟩ (by omega) (by rfl) (vc ?_) (vc trivial)
      rw [w64 _ (by omega)]; simp
  have h : i = vs.length := by have := hi.1; simp at h; omega
  subst h
  have hvals : ∀ k ∈ vs, valOk k := by have := hi.2; rwa [List.take_length] at this
  clear hi hN
  refine loopQ_of (fun i => [(1, .pt 1 0 0), (47, Rw (cs.map inC)), (48, In cs.length), (49, In (i : Nat))]) (fun i => [(1, .box 107 [Rw (ks.map stC), Rw (vs.map stC), Rw (cs.map inC)])]) 2 (fun i => cs.length - i) (fun i => i ≤ cs.length ∧ ∀ k ∈ cs.take i, 2 ≤ k ∧ k ≤ 399) 0 ⟨Nat.zero_le _, by simp⟩ [(1, 1)] (by rfl) (vc trivial) (vc trivial) (fun i hi N hN => vc (brB_intro (fun h => ?_) (fun h => ?_)))
  · have h : i < cs.length := by simpa using h
    have hx := List.getElem?_eq_getElem h
    have hm := List.getElem_mem h
    have hall : (2 ≤ cs[i] ∧ cs[i] ≤ 399) → ∀ k ∈ cs.take (i + 1), 2 ≤ k ∧ k ≤ 399 := fun h1 k hk => by
      rw [List.take_add_one, hx] at hk
      rcases List.mem_append.1 hk with hk | hk
      · exact hi.2 k hk
      · simp at hk; rw [hk]; exact h1
    rw [get_map hx, inC]
    refine vc ?_
    refine callq_of false [] (within_ok cs[i] 2 399) rfl trivial (vc trivial) ?_
    rintro r out ⟨rfl, rfl⟩
    refine ⟨by simp, by simp, by simp, vc ?_⟩
    refine brB_intro (fun h1 => hbad _ (fun e => ?_)) (fun h1 => ?_)
    · have h2 := e.2.2.1 _ hm
      first | (rw [tf_true h2] at h1; cases h1) | (rw [decide_eq_true h2] at h1; cases h1)
    · have h1 : 2 ≤ cs[i] ∧ cs[i] ≤ 399 := by
        by_cases e : 2 ≤ cs[i] ∧ cs[i] ≤ 399
        · exact e
        · first | (rw [tf_false e] at h1; cases h1) | (rw [decide_eq_false e] at h1; cases h1)
      refine hN _ (i + 1) [] ⟨h, hall h1⟩ (by omega) (by rfl) (vc ?_) (vc trivial)
      rw [w64 _ (by omega)]; simp
  have h : i = cs.length := by have := hi.1; simp at h; omega
  subst h
  have hkids : ∀ k ∈ cs, 2 ≤ k ∧ k ≤ 399 := by have := hi.2; rwa [List.take_length] at this
  clear hi hN
  have hiff : pageOk ⟨ks, vs, cs⟩ ↔ ((cs = [] ∧ 1 ≤ ks.length ∧ ks.length ≤ 4 ∧ vs.length = ks.length) ∨ (2 ≤ cs.length ∧ cs.length ≤ 4 ∧ ks.length + 1 = cs.length ∧ vs = [])) := ⟨fun e => e.2.2.2, fun e => ⟨hkeys, hvals, hkids, e⟩⟩
  refine brB_intro (fun h => ?_) (fun h => ?_)
  · have h : cs = [] := List.length_eq_zero_iff.1 (by simp at h; simp [h])
    subst h
    refine callq_of false [] (within_ok ks.length 1 4) rfl trivial (vc trivial) ?_
    rintro r out ⟨rfl, rfl⟩
    refine ⟨by simp, by simp, by simp, vc ?_⟩
    refine brB_intro (fun h1 => EndQ.closed (.v _) ⟨?_, rfl⟩) (fun h1 => hbad _ (fun e => ?_))
    · have h1 : 1 ≤ ks.length ∧ ks.length ≤ 4 := by simp at h1; omega
      by_cases h2 : vs.length = ks.length
      · rw [tf_true (hiff.2 (.inl ⟨rfl, h1.1, h1.2, h2⟩))]; simp [h2]
      · rw [tf_false (fun e => by rcases hiff.1 e with e | e; exact h2 e.2.2.2; simp at e)]; simp; omega
    · rcases hiff.1 e with e | e
      · simp at h1; omega
      · simp at e
  have h : cs.length ≠ 0 := fun e => by rw [e] at h; simp at h
  refine callq_of false [] (within_ok cs.length 2 4) rfl trivial (vc trivial) ?_
  rintro r out ⟨rfl, rfl⟩
  refine ⟨by simp, by simp, by simp, vc ?_⟩
  rw [w64 _ (by omega)]
  have hno : ¬ (2 ≤ cs.length ∧ cs.length ≤ 4 ∧ ks.length + 1 = cs.length ∧ vs = []) → ¬ pageOk ⟨ks, vs, cs⟩ := fun e e' => by
    rcases hiff.1 e' with e' | e'
    · exact h (by simp [e'.1])
    · exact e e'
  refine brB_intro (fun h1 => ?_) (fun h1 => hbad _ (hno (fun e => by simp at h1; omega)))
  have h1 : 2 ≤ cs.length ∧ cs.length ≤ 4 := by simp at h1; omega
  refine brB_intro (fun h2 => EndQ.closed (.v _) ⟨?_, rfl⟩) (fun h2 => hbad _ (hno (fun e => by simp at h2; omega)))
  have h2 : ks.length + 1 = cs.length := by simp at h2; omega
  by_cases h3 : vs = []
  · rw [tf_true (hiff.2 (.inr ⟨h1.1, h1.2, h2, h3⟩))]; simp [h3]
  · rw [tf_false (hno (fun e => h3 e.2.2.2))]; simp [h3]
theorem specPageOk_ok (p : Pg) (hp : p.le (2^40)) : CallOk Tryz.prog 130 [] [p.rd] (fun r out => r = Bo (tf (pageOk p)) ∧ out = []) := by
  obtain ⟨ks, vs, cs⟩ := p
  obtain ⟨hp1, hp2, hp3, hp4⟩ := hp
  simp only at hp1 hp2 hp3 hp4
  unfold Pg.rd
  refine callOk_z (np := 0) {} mixed Tryz.func130 (by rfl) Tryz.ntmps130 Tryz.results130 (by rfl) (Nat.le_of_ble_eq_true rfl) rfl rfl rfl (vc ?_)
  have hbad : ∀ H : Hp, ¬ pageOk ⟨ks, vs, cs⟩ → EndQ 0 H (Bo false) (fun r out => r = Bo (tf (pageOk ⟨ks, vs, cs⟩)) ∧ out = []) := fun H e => EndQ.closed (.v _) ⟨by rw [tf_false e], rfl⟩
  refine loopQ_of (fun i => [(1, .pt 1 0 0), (10, Rw (ks.map stC)), (11, In ks.length), (12, In (i : Nat))]) (fun i => [(1, .box 107 [Rw (ks.map stC), Rw (vs.map stC), Rw (cs.map inC)])]) 2 (fun i => ks.length - i) (fun i => i ≤ ks.length ∧ (∀ k ∈ ks.take i, keyOk k) ∧ ∀ j (p q : ByteArray), j + 1 < i → ks[j]? = some p → ks[j + 1]? = some q → ltB p q = true) 0 ⟨Nat.zero_le _, by simp, fun j p q h => by omega⟩ [(1, 1)] (by rfl) (vc trivial) (vc trivial) (fun i hi N hN => vc (brB_intro (fun h => ?_) (fun h => ?_)))
  · have h : i < ks.length := by simpa using h
    have hx := List.getElem?_eq_getElem h
    have hm := List.getElem_mem h
    rw [get_map hx, stC]
    refine vc ?_
    refine callq_of false [] (specKeyOk_ok ks[i]) rfl trivial (vc trivial) ?_
    rintro r out ⟨rfl, rfl⟩
    refine ⟨by simp, by simp, by simp, vc ?_⟩
    refine brB_intro (fun h1 => hbad _ (fun e => ?_)) (fun h1 => ?_)
    · rw [tf_true (e.1.1 _ hm)] at h1; cases h1
    have h1 : keyOk ks[i] := by
      by_cases e : keyOk ks[i]
      · exact e
      · rw [tf_false e] at h1; cases h1
    have hall : ∀ k ∈ ks.take (i + 1), keyOk k := fun k hk => by
      rw [List.take_add_one, hx] at hk
      rcases List.mem_append.1 hk with hk | hk
      · exact hi.2.1 k hk
      · simp at hk; rw [hk]; exact h1
    refine brB_intro (fun h3 => ?_) (fun h3 => ?_)
    · rw [w64 _ (by omega)]
      have h3 : 0 < i := by simpa using h3
      obtain ⟨k, rfl⟩ : ∃ k, i = k + 1 := ⟨i - 1, by omega⟩
      rw [show (((k + 1 : Nat) : Int) - 1) = ((k : Nat) : Int) by omega]
      have hy := List.getElem?_eq_getElem (show k < ks.length by omega)
      refine vc ?_
      rw [get_map hy, stC]
      refine vc ?_
      refine brB_intro (fun h4 => hbad _ (fun e => ?_)) (fun h4 => ?_)
      · have := e.1.2 k _ _ hy hx
        unfold ltB at this
        rw [this] at h4; cases h4
      have h4 : ltB ks[k] ks[k + 1] = true := by unfold ltB; simpa using h4
      refine hN _ (k + 2) [] ⟨h, hall, fun j p q hj hp hq => ?_⟩ (by omega) (by rfl) (vc ?_) (vc trivial)
      · by_cases e : j = k
        · subst e
          rw [hy] at hp
          rw [hx] at hq
          cases hp; cases hq; exact h4
        · exact hi.2.2 j p q (by omega) hp hq
      · rw [w64 _ (by omega)]; simp; omega
    · have h3 : i = 0 := by simp at h3; omega
      subst h3
      refine hN _ 1 [] ⟨h, hall, fun j p q hj => by omega⟩ (by omega) (by rfl) (vc ?_) (vc trivial)
      rw [w64 _ (by omega)]; simp
  have h : i = ks.length := by have := hi.1; simp at h; omega
  subst h
  have hkeys : keysOk ks := ⟨by have := hi.2.1; rwa [List.take_length] at this, fun j p q h2 h3 => hi.2.2 j p q (List.getElem?_eq_some_iff.1 h3).1 h2 h3⟩
  clear hi hN
  refine brB_intro (fun h => ?_) (fun h => ?_)
  · have h : cs = [] := List.length_eq_zero_iff.1 (by simp at h; simp [h])
    subst h
    refine loopQ_of (fun i => [(1, .pt 1 0 0), (40, Rw (vs.map stC)), (41, In vs.length), (42, In (i : Nat))]) (fun i => [(1, .box 107 [Rw (ks.map stC), Rw (vs.map stC), Rw (([] : List Int).map inC)])]) 2 (fun i => vs.length - i) (fun i => i ≤ vs.length ∧ ∀ k ∈ vs.take i, valOk k) 0 ⟨Nat.zero_le _, by simp⟩ [(1, 1)] (by rfl) (vc trivial) (vc trivial) (fun i hi N hN => vc (brB_intro (fun h => ?_) (fun h => ?_)))
    · have h : i < vs.length := by simpa using h
      have hx := List.getElem?_eq_getElem h
      have hm := List.getElem_mem h
      have hall : (valOk vs[i]) → ∀ k ∈ vs.take (i + 1), valOk k := fun h1 k hk => by
        rw [List.take_add_one, hx] at hk
        rcases List.mem_append.1 hk with hk | hk
        · exact hi.2 k hk
        · simp at hk; rw [hk]; exact h1
      rw [get_map hx, stC]
      refine vc ?_
      refine callq_of false [] (specValOk_ok vs[i]) rfl trivial (vc trivial) ?_
      rintro r out ⟨rfl, rfl⟩
      refine ⟨by simp, by simp, by simp, vc ?_⟩
      refine brB_intro (fun h1 => hbad _ (fun e => ?_)) (fun h1 => ?_)
      · have h2 := e.2.1 _ hm
        first | (rw [tf_true h2] at h1; cases h1) | (rw [decide_eq_true h2] at h1; cases h1)
      · have h1 : valOk vs[i] := by
          by_cases e : valOk vs[i]
          · exact e
          · first | (rw [tf_false e] at h1; cases h1) | (rw [decide_eq_false e] at h1; cases h1)
        refine hN _ (i + 1) [] ⟨h, hall h1⟩ (by omega) (by rfl) (vc ?_) (vc trivial)
        rw [w64 _ (by omega)]; simp
    have h : i = vs.length := by have := hi.1; simp at h; omega
    subst h
    have hvals : ∀ k ∈ vs, valOk k := by have := hi.2; rwa [List.take_length] at this
    clear hi hN
    have hiff : pageOk ⟨ks, vs, []⟩ ↔ (1 ≤ ks.length ∧ ks.length ≤ 4 ∧ vs.length = ks.length) := ⟨fun e => e.2.2.2.elim (fun e => e.2) (fun e => by simp at e), fun e => ⟨hkeys, hvals, by simp, .inl ⟨rfl, e⟩⟩⟩
    refine brB_intro (fun h1 => ?_) (fun h1 => hbad _ (fun e => by have := hiff.1 e; simp at h1; omega))
    refine brB_intro (fun h2 => EndQ.closed (.v _) ⟨?_, rfl⟩) (fun h2 => hbad _ (fun e => by have := hiff.1 e; simp at h2; omega))
    have h1 : 1 ≤ ks.length := by simp at h1; omega
    have h2 : ks.length ≤ 4 := by simp at h2; omega
    by_cases h3 : vs.length = ks.length
    · rw [tf_true (hiff.2 ⟨h1, h2, h3⟩)]; simp [h3]
    · rw [tf_false (fun e => h3 (hiff.1 e).2.2)]; simp; omega
  have hcz : cs.length ≠ 0 := fun e => by rw [e] at h; simp at h
  refine loopQ_of (fun i => [(1, .pt 1 0 0), (70, Rw (cs.map inC)), (71, In cs.length), (72, In (i : Nat))]) (fun i => [(1, .box 107 [Rw (ks.map stC), Rw (vs.map stC), Rw (cs.map inC)])]) 2 (fun i => cs.length - i) (fun i => i ≤ cs.length ∧ ∀ k ∈ cs.take i, 2 ≤ k ∧ k ≤ 399) 0 ⟨Nat.zero_le _, by simp⟩ [(1, 1)] (by rfl) (vc trivial) (vc trivial) (fun i hi N hN => vc (brB_intro (fun h => ?_) (fun h => ?_)))
  · have h : i < cs.length := by simpa using h
    have hx := List.getElem?_eq_getElem h
    have hm := List.getElem_mem h
    have hall : (2 ≤ cs[i] ∧ cs[i] ≤ 399) → ∀ k ∈ cs.take (i + 1), 2 ≤ k ∧ k ≤ 399 := fun h1 k hk => by
      rw [List.take_add_one, hx] at hk
      rcases List.mem_append.1 hk with hk | hk
      · exact hi.2 k hk
      · simp at hk; rw [hk]; exact h1
    rw [get_map hx, inC]
    refine vc ?_
    refine brB_intro (fun h1 => hbad _ (fun e => ?_)) (fun h1 => brB_intro (fun h2 => hbad _ (fun e => ?_)) (fun h2 => ?_))
    · have := e.2.2.1 _ hm; simp at h1; omega
    · have := e.2.2.1 _ hm; simp at h2; omega
    · have h1 : 2 ≤ cs[i] ∧ cs[i] ≤ 399 := by simp at h1 h2; omega
      refine hN _ (i + 1) [] ⟨h, hall h1⟩ (by omega) (by rfl) (vc ?_) (vc trivial)
      rw [w64 _ (by omega)]; simp
  have h : i = cs.length := by have := hi.1; simp at h; omega
  subst h
  have hkids : ∀ k ∈ cs, 2 ≤ k ∧ k ≤ 399 := by have := hi.2; rwa [List.take_length] at this
  clear hi hN
  have hiff : pageOk ⟨ks, vs, cs⟩ ↔ (2 ≤ cs.length ∧ cs.length ≤ 4 ∧ ks.length + 1 = cs.length ∧ vs = []) := by
    constructor
    · intro e
      rcases e.2.2.2 with e | e
      · exact absurd (List.length_eq_zero_iff.2 e.1) hcz
      · exact e
    · intro e
      exact ⟨hkeys, by rw [e.2.2.2]; simp, hkids, .inr e⟩
  refine brB_intro (fun h1 => ?_) (fun h1 => hbad _ (fun e => by have := hiff.1 e; simp at h1; omega))
  refine brB_intro (fun h2 => ?_) (fun h2 => hbad _ (fun e => by have := hiff.1 e; simp at h2; omega))
  rw [w64 _ (by omega)]
  refine brB_intro (fun h3 => EndQ.closed (.v _) ⟨?_, rfl⟩) (fun h3 => hbad _ (fun e => by have := hiff.1 e; simp at h3; omega))
  have h1 : 2 ≤ cs.length := by simp at h1; omega
  have h2 : cs.length ≤ 4 := by simp at h2; omega
  have h3 : ks.length + 1 = cs.length := by simp at h3; omega
  by_cases h4 : vs = []
  · rw [tf_true (hiff.2 ⟨h1, h2, h3, h4⟩)]; simp [h4]
  · rw [tf_false (fun e => h4 (hiff.1 e).2.2.2)]; simp [h4]
end Go.Proofs.YtnnmpdanfeejbaaGreat.Abs

/- A page's bytes, both sides: contracts. -/
namespace Go.Proofs.YtnnmpdanfeejbaaGreat.Abs
open Go Go.Proofs
set_option maxRecDepth 10000
set_option linter.unusedVariables false
set_option linter.unusedSimpArgs false
theorem nb_upd {t : Nat → AV} {i : Nat} {v : AV} (hv : nbA v = true) (h : ∀ k, nbA (t k) = true) : ∀ k, nbA (upd t i v k) = true := by
  intro k; unfold upd; split; exact hv; exact h k
theorem nbo_upd {t : Nat → Option Ob} {i : Nat} {v : Option Ob} (hv : nbO v = true) (h : ∀ k, nbO (t k) = true) : ∀ k, nbO (upd t i v k) = true := by
  intro k; unfold upd; split; exact hv; exact h k
mutual
theorem nbk_A : ∀ x : AV, nbA (killA x) = true
  | .bw _ => rfl
  | .ag cs => nbk_L cs
  | .tu cs => nbk_L cs
  | .c _ => rfl
  | .nul => rfl
  | .any => rfl
  | .sl _ _ => rfl
  | .pt _ _ _ => rfl
  | .sv _ _ _ => rfl
  | .mr _ => rfl
theorem nbk_L : ∀ l : List AV, nbL (killL l) = true
  | [] => rfl
  | x :: r => by rw [killL, nbL, nbk_A x, nbk_L r]; rfl
end
theorem nbo_kill (x : Option Ob) : nbO (x.map killO) = true := by
  cases x with
  | none => rfl
  | some ob => cases ob with
    | box ty cs => exact nbk_L cs
    | rw ty sz es => rfl
    | rx ty sz es i j v => exact nbk_A v
    | mp m => rfl
theorem nbo_HpS0 (k : Nat) : nbO (HpS [] k) = true := by unfold HpS; split <;> simp [nbO]
theorem specPutVar_some (pre : List UInt8) (n : Nat) (hp : pre.length ≤ 2^10) (hn : n ≤ 1099511627775) : CallOk Tryz.prog 131 [] [Rw (eB pre), In n] (fun r out => r = .tu [.sl 1 (pre ++ enc n).length, Bo true] ∧ out = [some (.rw 5 1 (eB (pre ++ enc n)))]) := by
  have he6 : (enc n).length ≤ 6 := enc_six hn
  have hc := specPutVar_ok pre n (by omega)
  rw [putVar, if_pos ⟨by omega, by rw [List.length_append, Int.toNat_natCast]; omega⟩, Int.toNat_natCast] at hc
  exact hc
noncomputable def pgB (p : Pg) : Option (List UInt8) := open Classical in if pageOk p then some (sheetB p) else none
theorem sheetB_len {p : Pg} (h : pageOk p) : (sheetB p).length = 512 := padTo_len (by have := pageB_len h; omega)
theorem by_rs {l : List UInt8} {k : Nat} (h : k = l.length) (b : Bool) : true = true → Rs true 1 (.tu [.sl 1 k, Bo b]) ∧ ∀ ob, some ob ∈ [some (Ob.rw 5 1 (eB l))] → RsOb true 1 ob := fun _ => ⟨.tu _ (by simp; exact ⟨.sl 1 _ (by omega) (by simp), .v _⟩), by intro ob h; simp at h; subst h; exact .inr (own_eB _)⟩
theorem leafB_next {ks vs : List ByteArray} {i : Nat} {k v : ByteArray} (hk : ks[i]? = some k) (hv : vs[i]? = some v) : leafB (ks.drop i) (vs.drop i) = txt k ++ (txt v ++ leafB (ks.drop (i + 1)) (vs.drop (i + 1))) := by
  obtain ⟨h1, e1⟩ := List.getElem?_eq_some_iff.1 hk
  obtain ⟨h2, e2⟩ := List.getElem?_eq_some_iff.1 hv
  rw [List.drop_eq_getElem_cons h1, List.drop_eq_getElem_cons h2, leafB, e1, e2]
theorem innB_next {ks : List ByteArray} {cs : List Int} {i : Nat} {k : ByteArray} {c : Int} (hk : ks[i]? = some k) (hc : cs[i]? = some c) : innB (ks.drop i) (cs.drop i) = txt k ++ (enc c.toNat ++ innB (ks.drop (i + 1)) (cs.drop (i + 1))) := by
  obtain ⟨h1, e1⟩ := List.getElem?_eq_some_iff.1 hk
  obtain ⟨h2, e2⟩ := List.getElem?_eq_some_iff.1 hc
  rw [List.drop_eq_getElem_cons h1, List.drop_eq_getElem_cons h2, innB, e1, e2]
theorem implPageBytes_ok (p : Pg) (hp : p.le (2^40)) : CallOk Tryz.prog 135 [] [p.rd] (fun r out => r = byR (pgB p) ∧ out = byH (pgB p)) := by
  have hpo := implPageOk_ok p hp
  obtain ⟨ks, vs, cs⟩ := p
  unfold Pg.rd at hpo ⊢
  refine callOk_z (np := 0) {} mixed Tryz.func135 (by rfl) Tryz.ntmps135 Tryz.results135 (by rfl) (Nat.le_of_ble_eq_true rfl) rfl rfl rfl (vc ?_)
  refine callq_of false [] hpo rfl trivial (vc trivial) ?_
  rintro r out ⟨rfl, rfl⟩
  refine ⟨by simp, by simp, by simp, vc ?_⟩
  unfold pgB
  by_cases hok : pageOk ⟨ks, vs, cs⟩
  case neg =>
    rw [tf_false hok, if_neg hok]
    refine vc ?_
    exact byNo _ _ ⟨rfl, rfl⟩
  rw [tf_true hok, if_pos hok]
  have hsl := sheetB_len hok
  have hpl := pageB_len hok
  obtain ⟨⟨hk1, -⟩, hv1, hc1, h4⟩ := hok
  simp only at hk1 hv1 hc1 h4
  have hfill := implFill_ok (pageB ⟨ks, vs, cs⟩) 512 (by omega) (by omega)
  refine vc ?_
  rcases h4 with ⟨rfl, h5, h6, h7⟩ | ⟨h5, h6, h7, rfl⟩
  · refine vc ?_
    refine callq_of false [81] (vary_ok [76] ks.length (by simp) (by omega)) rfl (by refine vc ?_; rfl) (vc trivial) ?_
    rintro r out ⟨rfl, rfl⟩
    refine ⟨by simp, by simp, by simp, vc ?_⟩
    refine loopQ_of (ι := Nat × List UInt8) (fun i => [(1, .pt 1 0 0), (4, .sl 2 i.2.length), (23, Rw (ks.map stC)), (24, In ks.length), (25, In (i.1 : Nat))]) (fun i => [(1, .box 107 [Rw (ks.map stC), Rw (vs.map stC), Rw (([] : List Int).map inC)]), (2, .rw 5 1 (eB i.2))]) 3 (fun i => ks.length - i.1) (fun i => i.1 ≤ ks.length ∧ i.2 ++ leafB (ks.drop i.1) (vs.drop i.1) = pageB ⟨ks, vs, []⟩) (0, [76] ++ enc ks.length) ⟨Nat.zero_le _, by simp [pageB]⟩ [(1, 1), (2, 113)] (by rfl) (vc ?_) (vc ?_) (fun i hi N hN => ?_)
    · trivial
    · trivial
    obtain ⟨i, acc⟩ := i
    obtain ⟨hi, hL⟩ := hi
    simp only at hi hL hN
    have hal : acc.length ≤ 320 := by have := congrArg List.length hL; rw [List.length_append] at this; omega
    refine vc (brB_intro (fun h => ?_) (fun h => ?_))
    · have h : i < ks.length := by simpa using h
      have hx := List.getElem?_eq_getElem h
      have hy := List.getElem?_eq_getElem (show i < vs.length by omega)
      have hkx := (hk1 _ (List.getElem_mem h)).2
      have hvy := hv1 _ (List.getElem_mem (show i < vs.length by omega))
      unfold valOk at hvy
      rw [leafB_next hx hy] at hL
      rw [get_map hx, stC]
      refine vc ?_
      refine drawQ_of true (by rfl) (by intro _; refine ⟨?_, ?_⟩; (repeat first | exact fun _ => rfl | exact fun _ => nbk_A _ | refine nb_upd rfl ?_); (repeat first | exact fun _ => rfl | exact fun _ => nbo_kill _ | exact nbo_HpS0 | refine nbo_upd rfl ?_)) (vc ?_)
      refine calld_of [2] false [2] (text_ok acc ks[i] (by omega) (by omega)) rfl (vc trivial) (vc trivial) (by rfl) ⟨_, _, rfl, rfl⟩ ?_
      rintro r out ⟨rfl, rfl⟩
      refine ⟨by simp, by simp, by simp, vc ?_⟩
      rw [get_map hy, stC]
      refine vc ?_
      refine calld_of [67] false [67] (text_ok (acc ++ txt ks[i]) vs[i] (by rw [List.length_append, txt_len, enc_one (by omega)]; omega) (by omega)) rfl (vc trivial) (vc trivial) (by rfl) ⟨_, _, rfl, rfl⟩ ?_
      rintro r out ⟨rfl, rfl⟩
      refine ⟨by simp, by simp, by simp, vc ?_⟩
      repeat refine ⟨rfl, ?_⟩
      refine hN _ (i + 1, acc ++ txt ks[i] ++ txt vs[i]) [(1, 1), (2, 115)] ⟨h, by rw [← hL]; simp⟩ (by show ks.length - (i + 1) < ks.length - i; omega) (by rfl) (vc ?_) (vc ?_)
      · rw [w64 _ (by omega)]; simp
      · trivial
    · have h : i = ks.length := by simp at h; omega
      subst h
      rw [List.drop_length] at hL
      rw [show leafB [] (vs.drop ks.length) = [] by cases vs.drop ks.length <;> rfl, List.append_nil] at hL
      subst hL
      refine callq_of true [] hfill rfl trivial (vc trivial) ?_
      rintro r out ⟨rfl, rfl⟩
      refine ⟨by simp, by simp, by_rs hsl.symm true, vc ?_⟩
      refine endQ_of [(1, 19)] (.tu [.sl 1 (sheetB ⟨ks, vs, []⟩).length, Bo true]) [some (.rw 5 1 (eB (sheetB ⟨ks, vs, []⟩)))] (by rfl) (vc ?_) (vc ?_) ⟨rfl, rfl⟩
      · exact hsl.symm
      · rfl
  · cases cs with
    | nil => simp at h5
    | cons c cs =>
      simp only [List.length_cons] at h5 h6 h7
      have hc0 := hc1 c (List.mem_cons_self ..)
      have hcS : ∀ x ∈ cs, 2 ≤ x ∧ x ≤ 399 := fun x hx => hc1 x (List.mem_cons_of_mem _ hx)
      have hb : ((((c :: cs).length : Nat) : Int) == 0) = false := by simp; omega
      rw [hb]
      rw [List.map_cons, inC]
      refine vc ?_
      refine drawQ_of true (by rfl) (by intro _; refine ⟨?_, ?_⟩; (repeat first | exact fun _ => rfl | exact fun _ => nbk_A _ | refine nb_upd rfl ?_); (repeat first | exact fun _ => rfl | exact fun _ => nbo_kill _ | exact nbo_HpS0 | refine nbo_upd rfl ?_)) (vc ?_)
      refine calld_of [81] false [81] (vary_ok [66] ks.length (by simp) (by omega)) rfl (by refine vc ?_; rfl) (vc trivial) (by rfl) ⟨_, _, rfl, rfl⟩ ?_
      rintro r out ⟨rfl, rfl⟩
      refine ⟨by simp, by simp, by simp, vc ?_⟩
      have hcn : c = ((c.toNat : Nat) : Int) := by omega
      have hvc := vary_ok ([66] ++ enc ks.length) c.toNat (by rw [List.length_append, enc_one (by omega)]; simp) (by omega)
      rw [← hcn] at hvc
      refine calld_of [113] false [113] hvc rfl (vc trivial) (vc trivial) (by rfl) ⟨_, _, rfl, rfl⟩ ?_
      rintro r out ⟨rfl, rfl⟩
      refine ⟨by simp, by simp, by simp, vc ?_⟩
      repeat refine ⟨rfl, ?_⟩
      refine loopQ_of (ι := Nat × List UInt8) (fun i => [(1, .pt 1 0 0), (7, .sl 2 i.2.length), (55, Rw (ks.map stC)), (56, In ks.length), (57, In (i.1 : Nat))]) (fun i => [(1, .box 107 [Rw (ks.map stC), Rw (([] : List ByteArray).map stC), Rw ((c :: cs).map inC)]), (2, .rw 5 1 (eB i.2))]) 3 (fun i => ks.length - i.1) (fun i => i.1 ≤ ks.length ∧ i.2 ++ innB (ks.drop i.1) (cs.drop i.1) = pageB ⟨ks, [], c :: cs⟩) (0, [66] ++ enc ks.length ++ enc c.toNat) ⟨Nat.zero_le _, by simp [pageB]⟩ [(1, 1), (2, 153)] (by rfl) (vc ?_) (vc ?_) (fun i hi N hN => ?_)
      · trivial
      · exact .inl rfl
      obtain ⟨i, acc⟩ := i
      obtain ⟨hi, hL⟩ := hi
      simp only at hi hL hN
      have hal : acc.length ≤ 320 := by have := congrArg List.length hL; rw [List.length_append] at this; omega
      refine vc (brB_intro (fun h => ?_) (fun h => ?_))
      · have h : i < ks.length := by simpa using h
        have hx := List.getElem?_eq_getElem h
        have hy := List.getElem?_eq_getElem (show i < cs.length by omega)
        have hkx := (hk1 _ (List.getElem_mem h)).2
        have hcy := hcS _ (List.getElem_mem (show i < cs.length by omega))
        rw [innB_next hx hy] at hL
        rw [get_map hx, stC]
        refine vc ?_
        refine drawQ_of true (by rfl) (by intro _; refine ⟨?_, ?_⟩; (repeat first | exact fun _ => rfl | exact fun _ => nbk_A _ | refine nb_upd rfl ?_); (repeat first | exact fun _ => rfl | exact fun _ => nbo_kill _ | exact nbo_HpS0 | refine nbo_upd rfl ?_)) (vc ?_)
        refine calld_of [2] false [2] (text_ok acc ks[i] (by omega) (by omega)) rfl (vc trivial) (vc trivial) (by rfl) ⟨_, _, rfl, rfl⟩ ?_
        rintro r out ⟨rfl, rfl⟩
        refine ⟨by simp, by simp, by simp, vc ?_⟩
        rw [w64 _ (by omega), show ((i : Nat) : Int) + 1 = ((i + 1 : Nat) : Int) by omega]
        refine vc ?_
        rw [get_map hy, inC]
        refine vc ?_
        have hcn : cs[i] = ((cs[i].toNat : Nat) : Int) := by omega
        have hvc := vary_ok (acc ++ txt ks[i]) cs[i].toNat (by rw [List.length_append, txt_len, enc_one (by omega)]; omega) (by omega)
        rw [← hcn] at hvc
        refine calld_of [67] false [67] hvc rfl (vc trivial) (vc trivial) (by rfl) ⟨_, _, rfl, rfl⟩ ?_
        rintro r out ⟨rfl, rfl⟩
        refine ⟨by simp, by simp, by simp, vc ?_⟩
        repeat refine ⟨rfl, ?_⟩
        refine hN _ (i + 1, acc ++ txt ks[i] ++ enc cs[i].toNat) [(1, 1), (2, 123)] ⟨h, by rw [← hL]; simp⟩ (by show ks.length - (i + 1) < ks.length - i; omega) (by rfl) (vc ?_) (vc ?_)
        · rw [w64 _ (by omega)]; simp
        · trivial
      · have h : i = ks.length := by simp at h; omega
        subst h
        rw [List.drop_length] at hL
        rw [show innB [] (cs.drop ks.length) = [] by cases cs.drop ks.length <;> rfl, List.append_nil] at hL
        subst hL
        refine callq_of true [] hfill rfl trivial (vc trivial) ?_
        rintro r out ⟨rfl, rfl⟩
        refine ⟨by simp, by simp, by_rs hsl.symm true, vc ?_⟩
        refine endQ_of [(1, 19)] (.tu [.sl 1 (sheetB ⟨ks, [], c :: cs⟩).length, Bo true]) [some (.rw 5 1 (eB (sheetB ⟨ks, [], c :: cs⟩)))] (by rfl) (vc ?_) (vc ?_) ⟨rfl, rfl⟩
        · exact hsl.symm
        · rfl
end Go.Proofs.YtnnmpdanfeejbaaGreat.Abs

/- Metas written, both sides: contracts. -/
namespace Go.Proofs.YtnnmpdanfeejbaaGreat.Abs
open Go Go.Proofs
set_option maxRecDepth 10000
set_option linter.unusedVariables false
set_option linter.unusedSimpArgs false
def metaOk (g r : Int) : Prop := (1 ≤ g ∧ g ≤ 1099511627775) ∧ (r = 0 ∨ (2 ≤ r ∧ r ≤ 399))
def highB (n : Nat) : Nat → List UInt8
  | 0 => []
  | j + 1 => UInt8.ofNat (n / 256 ^ j % 256) :: highB n j
theorem highB_len (n : Nat) : ∀ j, (highB n j).length = j
  | 0 => rfl
  | j + 1 => by rw [highB, List.length_cons, highB_len n j]
def metaB (g r : Nat) : List UInt8 := padTo 507 (77 :: (highB g 5 ++ highB r 2)) ++ highB g 5
theorem metaB_len (g r : Nat) : (metaB g r).length = 512 := by
  have h : (77 :: (highB g 5 ++ highB r 2)).length = 8 := by simp [highB_len]
  rw [metaB, List.length_append, padTo_len (by omega), highB_len]
noncomputable def mtB (g r : Int) : Option (List UInt8) := open Classical in if metaOk g r then some (metaB g.toNat r.toNat) else none
theorem specMetaOk_ok (g r : Int) : CallOk Tryz.prog 120 [] [.ag [In g, In r]] (fun x out => x = Bo (tf (metaOk g r)) ∧ out = []) := by
  refine callOk_z (np := 0) {} mixed Tryz.func120 (by rfl) Tryz.ntmps120 Tryz.results120 (by rfl) (Nat.le_of_ble_eq_true rfl) rfl rfl rfl (vc ?_)
  have hno : ¬ metaOk g r → ∀ H : Hp, EndQ 0 H (Bo false) (fun x out => x = Bo (tf (metaOk g r)) ∧ out = []) := fun e H => EndQ.closed (.v _) ⟨by rw [tf_false e], rfl⟩
  have hyes : metaOk g r → ∀ H : Hp, EndQ 0 H (Bo true) (fun x out => x = Bo (tf (metaOk g r)) ∧ out = []) := fun e H => EndQ.closed (.v _) ⟨by rw [tf_true e], rfl⟩
  refine brB_intro (fun h => ?_) (fun h => hno (fun e => by have := e.1.1; simp at h; omega) _)
  refine callq_of false [] (specNum_ok g) rfl trivial (vc trivial) ?_
  rintro x out ⟨rfl, rfl⟩
  refine ⟨by simp, by simp, by simp, vc ?_⟩
  refine brB_intro (fun h1 => ?_) (fun h1 => hno (fun e => by have := e.1; simp at h1; omega) _)
  have h : 1 ≤ g := by simp at h; omega
  have h1 : g ≤ 1099511627775 := by simp at h1; omega
  refine brB_intro (fun h2 => hyes ⟨⟨h, h1⟩, .inl (by simpa using h2)⟩ _) (fun h2 => ?_)
  have h2 : r ≠ 0 := by simpa using h2
  refine brB_intro (fun h3 => ?_) (fun h3 => hno (fun e => by have := e.2; simp at h3; omega) _)
  have h3 : 2 ≤ r := by simp at h3; omega
  refine EndQ.closed (.v _) ⟨?_, rfl⟩
  by_cases h4 : r < 400
  · rw [tf_true (show metaOk g r from ⟨⟨h, h1⟩, .inr ⟨h3, by omega⟩⟩), decide_eq_true h4]
  · rw [tf_false (show ¬ metaOk g r from fun e => by have := e.2; omega), decide_eq_false h4]
theorem implMetaOk_ok (g r : Int) : CallOk Tryz.prog 124 [] [.ag [In g, In r]] (fun x out => x = Bo (tf (metaOk g r)) ∧ out = []) := by
  refine callOk_z (np := 0) {} mixed Tryz.func124 (by rfl) Tryz.ntmps124 Tryz.results124 (by rfl) (Nat.le_of_ble_eq_true rfl) rfl rfl rfl (vc ?_)
  have hno : ¬ metaOk g r → ∀ H : Hp, EndQ 0 H (Bo false) (fun x out => x = Bo (tf (metaOk g r)) ∧ out = []) := fun e H => EndQ.closed (.v _) ⟨by rw [tf_false e], rfl⟩
  have hyes : metaOk g r → ∀ H : Hp, EndQ 0 H (Bo true) (fun x out => x = Bo (tf (metaOk g r)) ∧ out = []) := fun e H => EndQ.closed (.v _) ⟨by rw [tf_true e], rfl⟩
  refine callq_of false [] (within_ok g 1 1099511627775) rfl trivial (vc trivial) ?_
  rintro x out ⟨rfl, rfl⟩
  refine ⟨by simp, by simp, by simp, vc ?_⟩
  refine brB_intro (fun h => ?_) (fun h => hno (fun e => by have := e.1; simp at h; omega) _)
  have h : 1 ≤ g ∧ g ≤ 1099511627775 := by simp at h; omega
  refine brB_intro (fun h2 => hyes ⟨h, .inl (by simpa using h2)⟩ _) (fun h2 => ?_)
  have h2 : r ≠ 0 := by simpa using h2
  refine callq_of false [] (within_ok r 2 399) rfl trivial (vc trivial) ?_
  rintro x out ⟨rfl, rfl⟩
  refine ⟨by simp, by simp, by simp, vc ?_⟩
  refine EndQ.closed (.v _) ⟨?_, rfl⟩
  by_cases h4 : 2 ≤ r ∧ r ≤ 399
  · rw [tf_true (show metaOk g r from ⟨h, .inr h4⟩), decide_eq_true h4]
  · rw [tf_false (show ¬ metaOk g r from fun e => by have := e.2; omega), decide_eq_false h4]
theorem shrV (x j : Nat) (hj : j ≤ 7) (ky : IntKind) : pureV (Op.shift .shr .i64 (x : Int) ky (8 * (j : Int))) = some (.int .i64 ((x / 256 ^ j : Nat) : Int)) := by
  have h1 : ¬ (8 * (j : Int) < 0) := by omega
  have h2 : min (8 * (j : Int)).toNat IntKind.i64.bits = 8 * j := by show min _ 64 = _; omega
  unfold Op.shift
  rw [if_neg h1]
  simp only [h2]
  show some (Value.int .i64 ((x : Int).fdiv (2 ^ (8 * j)))) = _
  have h3 : (2 : Int) ^ (8 * j) = ((256 ^ j : Nat) : Int) := by rw [Int.pow_mul]; simp
  rw [h3, Int.fdiv_eq_ediv_of_nonneg _ (Int.natCast_nonneg _)]
  rfl
theorem ofNat_mod (x : Nat) : UInt8.ofNat (x % 256) = UInt8.ofNat x := UInt8.toNat_inj.1 (by simp)
theorem high_ok (pre : List UInt8) (n s : Nat) (hp : pre.length ≤ 2^40) (hs : s ≤ 7) (hn : n ≤ 2^60) : CallOk Tryz.prog 125 [.rw 5 1 (eB pre)] [.sl 1 pre.length, In n, In s] (fun r out => r = .sl 2 (pre ++ highB n s).length ∧ out = [none, some (.rw 5 1 (eB (pre ++ highB n s)))]) := by
  refine callOk_z (np := 1) {} mixed Tryz.func125 (by rfl) Tryz.ntmps125 Tryz.results125 (by rfl) (Nat.le_of_ble_eq_true rfl) rfl rfl rfl (vc ?_)
  refine loopQ_of (ι := Nat × List UInt8) (fun i => [(0, .sl 2 i.2.length), (1, In n), (7, In ((i.1 : Nat) - 1))]) (fun i => [(2, .rw 5 1 (eB i.2))]) 3 (fun i => i.1) (fun i => i.1 ≤ 7 ∧ i.2 ++ highB n i.1 = pre ++ highB n s) (s, pre) ⟨hs, rfl⟩ [(2, 1)] (by rfl) (vc ?_) (vc ?_) (fun i hi N hN => ?_)
  · rw [w64 _ (by omega)]
  · trivial
  obtain ⟨j, acc⟩ := i
  obtain ⟨hj, hL⟩ := hi
  simp only at hj hL hN
  have hlen : acc.length + j = pre.length + s := by have := congrArg List.length hL; simpa [highB_len] using this
  refine vc (brB_intro (fun h => ?_) (fun h => ?_))
  · obtain ⟨k, rfl⟩ : ∃ k, j = k + 1 := ⟨j - 1, by simp at h; omega⟩
    rw [show (((k + 1 : Nat) : Int) - 1) = (k : Int) by omega, w64 (8 * (k : Int)) (by omega), shrV n k (by omega)]
    rw [highB] at hL
    refine vc ?_
    refine ⟨⟨by unfold maxLen; omega, by omega⟩, ?_⟩
    refine hN _ (k, acc ++ [UInt8.ofNat (n / 256 ^ k % 256)]) [(2, 75)] ⟨by show k ≤ 7; omega, by rw [List.append_assoc]; exact hL⟩ (by show k < k + 1; omega) (by rfl) (vc ?_) (vc ?_)
    · exact ⟨by simp, w64 _ (by omega)⟩
    · rw [eB_snoc _ _ (Int.natCast_nonneg _), Int.toNat_natCast, ofNat_mod]
  · have h : j = 0 := by simp at h; omega
    subst h
    rw [highB, List.append_nil] at hL
    subst hL
    refine endQ_of [] (.sl 2 (pre ++ highB n s).length) [none, some (.rw 5 1 (eB (pre ++ highB n s)))] (by rfl) (vc ?_) (vc ?_) ⟨rfl, rfl⟩
    · trivial
    · trivial
theorem weights (i : Nat) (h : i < 5) : [inC 4294967296, inC 16777216, inC 65536, inC 256, inC 1][i]? = some (inC ((256 ^ (4 - i) : Nat) : Int)) := by
  match i, h with
  | 0, _ => rfl
  | 1, _ => rfl
  | 2, _ => rfl
  | 3, _ => rfl
  | 4, _ => rfl
theorem l04Five_ok (g : Nat) (hg : g ≤ 1099511627775) : CallOk Tryz.prog 121 [] [In g] (fun r out => r = .sl 1 5 ∧ out = [some (.rw 5 1 (eB (highB g 5)))]) := by
  refine callOk_z (np := 0) {} mixed Tryz.func121 (by rfl) Tryz.ntmps121 Tryz.results121 (by rfl) (Nat.le_of_ble_eq_true rfl) rfl rfl rfl (vc ?_)
  refine loopQ_of (ι := Nat × List UInt8) (fun i => [(0, In g), (3, .sl 1 i.2.length), (7, .sl 2 5), (8, In 5), (9, In (i.1 : Nat))]) (fun i => [(1, .rw 5 1 (eB i.2)), (2, .rw 3 1 (([4294967296, 16777216, 65536, 256, 1] : List Int).map inC))]) 3 (fun i => 5 - i.1) (fun i => i.1 ≤ 5 ∧ i.2 ++ highB g (5 - i.1) = highB g 5) (0, []) ⟨by omega, by simp⟩ [(1, 9), (2, 25)] (by rfl) (vc ?_) (vc ?_) (fun i hi N hN => ?_)
  · rfl
  · rfl
  obtain ⟨i, acc⟩ := i
  obtain ⟨hj, hL⟩ := hi
  simp only at hj hL hN
  have hlen : acc.length + (5 - i) = 5 := by have := congrArg List.length hL; simpa [highB_len] using this
  refine vc (brB_intro (fun h => ?_) (fun h => ?_))
  · have h : i < 5 := by simp at h; omega
    have hp : 1 ≤ 256 ^ (4 - i) ∧ 256 ^ (4 - i) ≤ 4294967296 := ⟨Nat.pow_pos (by omega), Nat.le_trans (Nat.pow_le_pow_right (by omega) (show 4 - i ≤ 4 by omega)) (by decide)⟩
    rw [show 5 - i = (4 - i) + 1 by omega, highB] at hL
    refine ⟨h, ?_⟩
    rw [weights i h, inC]
    generalize 256 ^ (4 - i) = w at hp hL ⊢
    have hq : g / w ≤ g := Nat.div_le_self _ _
    refine vc ?_
    rw [if_pos (show ¬ ((w : Nat) : Int) = 0 by omega), show ((g : Nat) : Int).tdiv ((w : Nat) : Int) = ((g / w : Nat) : Int) from rfl]
    generalize g / w = q at hq hL ⊢
    rw [w64 (q : Int) (by omega), Option.bind_some]
    refine vc ?_
    refine ⟨⟨by unfold maxLen; omega, by omega⟩, ?_⟩
    refine hN _ (i + 1, acc ++ [UInt8.ofNat (q % 256)]) [(1, 91), (2, 2)] ⟨h, by rw [List.append_assoc]; show acc ++ UInt8.ofNat (q % 256) :: highB g (5 - (i + 1)) = _; rw [show 5 - (i + 1) = 4 - i by omega]; exact hL⟩ (by show 5 - (i + 1) < 5 - i; omega) (by rfl) (vc ?_) (vc ?_)
    · exact ⟨by simp, by rw [w64 _ (by omega)]; simp⟩
    · rw [show ((q : Nat) : Int).tmod 256 = ((q % 256 : Nat) : Int) from rfl, eB_snoc _ _ (Int.natCast_nonneg _), Int.toNat_natCast]
  · have h : i = 5 := by simp at h; omega
    subst h
    rw [highB, List.append_nil] at hL
    subst hL
    refine endQ_of [] (.sl 1 5) [some (.rw 5 1 (eB (highB g 5)))] (by rfl) (vc ?_) (vc ?_) ⟨rfl, rfl⟩
    · exact highB_len g 5
    · trivial
end Go.Proofs.YtnnmpdanfeejbaaGreat.Abs

/- Metas' bytes, both sides: contracts. -/
namespace Go.Proofs.YtnnmpdanfeejbaaGreat.Abs
open Go Go.Proofs
set_option maxRecDepth 10000
set_option linter.unusedVariables false
set_option linter.unusedSimpArgs false
theorem specMetaBytes_ok (g r : Int) : CallOk Tryz.prog 65 [] [.ag [In g, In r]] (fun x out => x = byR (mtB g r) ∧ out = byH (mtB g r)) := by
  refine callOk_z (np := 0) {} mixed Tryz.func65 (by rfl) Tryz.ntmps65 Tryz.results65 (by rfl) (Nat.le_of_ble_eq_true rfl) rfl rfl rfl (vc ?_)
  refine callq_of false [] (specMetaOk_ok g r) rfl trivial (vc trivial) ?_
  rintro x out ⟨rfl, rfl⟩
  refine vc4 (by simp) (by simp) (by simp) ?_
  unfold mtB
  by_cases hok : metaOk g r
  case neg =>
    rw [tf_false hok, if_neg hok]
    refine vc ?_
    exact byNo _ _ ⟨rfl, rfl⟩
  rw [tf_true hok, if_pos hok]
  obtain ⟨g, rfl⟩ : ∃ m : Nat, g = m := ⟨g.toNat, by have := hok.1.1; omega⟩
  obtain ⟨r, rfl⟩ : ∃ m : Nat, r = m := ⟨r.toNat, by have := hok.2; omega⟩
  rw [Int.toNat_natCast, Int.toNat_natCast]
  have hg : g ≤ 1099511627775 := by have := hok.1.2; omega
  have hr : r ≤ 399 := by have := hok.2; omega
  refine vc ?_
  have hfive := l04Five_ok g hg
  have hm : metaB g r = padTo 507 (77 :: (highB g 5 ++ [UInt8.ofNat (r / 256), UInt8.ofNat (r % 256)])) ++ highB g 5 := by
    unfold metaB
    rw [show highB r 2 = [UInt8.ofNat (r / 256 % 256), UInt8.ofNat (r % 256)] by simp [highB], ofNat_mod]
  have hFl := highB_len g 5
  rw [hm]
  clear hm
  generalize highB g 5 = F at hfive hFl ⊢
  refine callq_of false [] hfive rfl trivial (vc trivial) ?_
  rintro x out ⟨rfl, rfl⟩
  refine vc4 (by simp) (by simp) (by simp) ?_
  rw [if_pos hFl.symm]
  refine vc ?_
  rw [hFl]
  refine ⟨⟨by unfold maxLen; omega, by omega⟩, ⟨by omega, by unfold maxLen; omega, by omega⟩, ?_⟩
  have hl : (77 :: (F ++ [UInt8.ofNat (r / 256), UInt8.ofNat (r % 256)])).length = 8 := by simp [hFl]
  have hfill := specFill_ok (77 :: (F ++ [UInt8.ofNat (r / 256), UInt8.ofNat (r % 256)])) 507 (by omega) (by omega)
  have hp := padTo_len (n := 507) (l := 77 :: (F ++ [UInt8.ofNat (r / 256), UInt8.ofNat (r % 256)])) (by omega)
  have hes : ([CV.v (.int .u8 77)] :: (eB F ++ [[CV.v (.int .u8 (IntKind.u8.wrap (IntKind.i64.wrap ((r : Int).tdiv 256))))], [CV.v (.int .u8 (IntKind.u8.wrap ((r : Int).tmod 256)))]])) = eB (77 :: (F ++ [UInt8.ofNat (r / 256), UInt8.ofNat (r % 256)])) := by
    rw [show (r : Int).tdiv 256 = ((r / 256 : Nat) : Int) from rfl, show (r : Int).tmod 256 = ((r % 256 : Nat) : Int) from rfl, w64 _ (by omega), wrap8 _ (by omega), wrap8 _ (by omega), Int.toNat_natCast, Int.toNat_natCast]
    simp [eB]
  refine callq_of true [] hfill rfl trivial (by refine vc ?_; rw [hes]; exact ⟨⟨by simp [hFl, eB_length], sim_eB _ _ _ (by decide)⟩, rfl⟩) ?_
  generalize padTo 507 (77 :: (F ++ [UInt8.ofNat (r / 256), UInt8.ofNat (r % 256)])) = G at hp ⊢
  rintro x out ⟨rfl, rfl⟩
  refine vc4 (by simp) (by simp) (by_rs hp.symm true) ?_
  refine callq_of false [] hfive rfl trivial (vc trivial) ?_
  rintro x out ⟨rfl, rfl⟩
  refine vc4 (by simp) (by simp) (by simp) ?_
  rw [if_pos hFl.symm]
  refine vc ?_
  rw [hFl, hp]
  refine ⟨⟨rfl, by unfold maxLen; omega, by omega⟩, ?_⟩
  refine endQ_of [(1, 273)] (.tu [.sl 1 (G ++ F).length, Bo true]) [some (.rw 5 1 (eB (G ++ F)))] (by rfl) (vc ?_) (vc ?_) ⟨rfl, rfl⟩
  · rw [List.length_append, hp, hFl]
  · rw [eB_app]
theorem implMetaBytes_ok (g r : Int) : CallOk Tryz.prog 69 [] [.ag [In g, In r]] (fun x out => x = byR (mtB g r) ∧ out = byH (mtB g r)) := by
  refine callOk_z (np := 0) {} mixed Tryz.func69 (by rfl) Tryz.ntmps69 Tryz.results69 (by rfl) (Nat.le_of_ble_eq_true rfl) rfl rfl rfl (vc ?_)
  refine callq_of false [] (implMetaOk_ok g r) rfl trivial (vc trivial) ?_
  rintro x out ⟨rfl, rfl⟩
  refine vc4 (by simp) (by simp) (by simp) ?_
  unfold mtB
  by_cases hok : metaOk g r
  case neg =>
    rw [tf_false hok, if_neg hok]
    refine vc ?_
    exact byNo _ _ ⟨rfl, rfl⟩
  rw [tf_true hok, if_pos hok]
  obtain ⟨g, rfl⟩ : ∃ m : Nat, g = m := ⟨g.toNat, by have := hok.1.1; omega⟩
  obtain ⟨r, rfl⟩ : ∃ m : Nat, r = m := ⟨r.toNat, by have := hok.2; omega⟩
  rw [Int.toNat_natCast, Int.toNat_natCast]
  have hg : g ≤ 1099511627775 := by have := hok.1.2; omega
  have hr : r ≤ 399 := by have := hok.2; omega
  have hl1 := highB_len g 5
  have hl2 := highB_len r 2
  have hl : (77 :: (highB g 5 ++ highB r 2)).length = 8 := by simp [highB_len]
  refine vc ?_
  refine drawQ_of true (by rfl) (by intro _; refine ⟨?_, ?_⟩; (repeat first | exact fun _ => rfl | exact fun _ => nbk_A _ | refine nb_upd rfl ?_); (repeat first | exact fun _ => rfl | exact fun _ => nbo_kill _ | exact nbo_HpS0 | refine nbo_upd rfl ?_)) (vc ?_)
  refine calld_of [49] false [49] (high_ok [77] g 5 (by simp) (by omega) (by omega)) rfl (by refine vc ?_; rfl) (by refine vc ?_; rfl) (by rfl) ⟨_, _, rfl, rfl⟩ ?_
  rintro x out ⟨rfl, rfl⟩
  refine vc4 (by simp) (by simp) (by simp) ?_
  refine calld_of [73] false [73] (high_ok ([77] ++ highB g 5) r 2 (by simp; omega) (by omega) (by omega)) rfl (vc trivial) (by refine vc ?_; rfl) (by rfl) ⟨_, _, rfl, rfl⟩ ?_
  rintro x out ⟨rfl, rfl⟩
  refine vc4 (by simp) (by simp) (by simp) ?_
  repeat refine ⟨rfl, ?_⟩
  have hfill := implFill_ok ([77] ++ highB g 5 ++ highB r 2) 507 (by omega) (by simp; omega)
  refine callq_of true [] hfill rfl trivial (by refine vc ?_; rfl) ?_
  rintro x out ⟨rfl, rfl⟩
  refine ⟨by simp, by simp, ?_, vc ?_⟩
  · exact by_rs (by rw [padTo_len (by simp; omega)]) true
  have hp : (padTo 507 ([77] ++ highB g 5 ++ highB r 2)).length = 507 := padTo_len (by simp; omega)
  have hh := high_ok (padTo 507 ([77] ++ highB g 5 ++ highB r 2)) g 5 (by omega) (by omega) (by omega)
  rw [hp] at hh
  refine callq_of false [121] hh rfl (vc trivial) (by refine vc ?_; rfl) ?_
  rintro x out ⟨rfl, rfl⟩
  refine vc4 (by simp) (by simp) (by simp) ?_
  refine endQ_of [(1, 185)] (.tu [.sl 1 (metaB g r).length, Bo true]) [some (.rw 5 1 (eB (metaB g r)))] (by rfl) (vc ?_) (vc ?_) ⟨rfl, rfl⟩
  · rfl
  · rfl
end Go.Proofs.YtnnmpdanfeejbaaGreat.Abs

/- A page's bytes, the reference: contract. -/
namespace Go.Proofs.YtnnmpdanfeejbaaGreat.Abs
open Go Go.Proofs
set_option maxRecDepth 10000
set_option linter.unusedVariables false
set_option linter.unusedSimpArgs false
theorem specPageBytes_ok (p : Pg) (hp : p.le (2^40)) : CallOk Tryz.prog 75 [] [p.rd] (fun r out => r = byR (pgB p) ∧ out = byH (pgB p)) := by
  have hpo := specPageOk_ok p hp
  obtain ⟨ks, vs, cs⟩ := p
  unfold Pg.rd at hpo ⊢
  refine callOk_z (np := 0) {} mixed Tryz.func75 (by rfl) Tryz.ntmps75 Tryz.results75 (by rfl) (Nat.le_of_ble_eq_true rfl) rfl rfl rfl (vc ?_)
  refine callq_of false [] hpo rfl trivial (vc trivial) ?_
  rintro r out ⟨rfl, rfl⟩
  refine ⟨by simp, by simp, by simp, vc ?_⟩
  unfold pgB
  by_cases hok : pageOk ⟨ks, vs, cs⟩
  case neg =>
    rw [tf_false hok, if_neg hok]
    refine vc ?_
    exact byNo _ _ ⟨rfl, rfl⟩
  rw [tf_true hok, if_pos hok]
  have hsl := sheetB_len hok
  have hpl := pageB_len hok
  obtain ⟨⟨hk1, -⟩, hv1, hc1, h4⟩ := hok
  simp only at hk1 hv1 hc1 h4
  have hfill := specFill_ok (pageB ⟨ks, vs, cs⟩) 512 (by omega) (by omega)
  refine vc ?_
  rcases h4 with ⟨rfl, h5, h6, h7⟩ | ⟨h5, h6, h7, rfl⟩
  · refine vc ?_
    refine callq_of true [] (specPutVar_some [76] ks.length (by simp) (by omega)) rfl trivial (by refine vc ?_; exact sim_eB [76] true false (by decide)) ?_
    rintro r out ⟨rfl, rfl⟩
    refine ⟨by simp, by simp, by_rs rfl true, vc ?_⟩
    refine loopQ_of (ι := Nat × List UInt8) (fun i => [(1, .pt 1 0 0), (4, .sl 2 i.2.length), (39, Rw (ks.map stC)), (40, In ks.length), (41, In (i.1 : Nat))]) (fun i => [(1, .box 107 [Rw (ks.map stC), Rw (vs.map stC), Rw (([] : List Int).map inC)]), (2, .rw 5 1 (eB i.2))]) 3 (fun i => ks.length - i.1) (fun i => i.1 ≤ ks.length ∧ i.2 ++ leafB (ks.drop i.1) (vs.drop i.1) = pageB ⟨ks, vs, []⟩) (0, [76] ++ enc ks.length) ⟨Nat.zero_le _, by simp [pageB]⟩ [(1, 1), (2, 129)] (by rfl) (vc ?_) (vc ?_) (fun i hi N hN => ?_)
    · trivial
    · trivial
    obtain ⟨i, acc⟩ := i
    obtain ⟨hi, hL⟩ := hi
    simp only at hi hL hN
    have hal : acc.length ≤ 320 := by have := congrArg List.length hL; rw [List.length_append] at this; omega
    refine vc (brB_intro (fun h => ?_) (fun h => ?_))
    · have h : i < ks.length := by simpa using h
      have hx := List.getElem?_eq_getElem h
      have hy := List.getElem?_eq_getElem (show i < vs.length by omega)
      have hkx := (hk1 _ (List.getElem_mem h)).2
      have hvy := hv1 _ (List.getElem_mem (show i < vs.length by omega))
      unfold valOk at hvy
      rw [leafB_next hx hy] at hL
      rw [get_map hx, stC]
      refine vc ?_
      refine callq_of true [] (specPutText_ok acc ks[i] (by omega) (by omega)) rfl trivial (vc trivial) ?_
      rintro r out ⟨rfl, rfl⟩
      refine ⟨by simp, by simp, by_rs rfl true, vc ?_⟩
      rw [get_map hy, stC]
      refine vc ?_
      refine callq_of true [] (specPutText_ok (acc ++ txt ks[i]) vs[i] (by rw [List.length_append, txt_len, enc_one (by omega)]; omega) (by omega)) rfl trivial (vc trivial) ?_
      rintro r out ⟨rfl, rfl⟩
      refine ⟨by simp, by simp, by_rs rfl true, vc ?_⟩
      refine hN _ (i + 1, acc ++ txt ks[i] ++ txt vs[i]) [(1, 1), (2, 187)] ⟨h, by rw [← hL]; simp⟩ (by show ks.length - (i + 1) < ks.length - i; omega) (by rfl) (vc ?_) (vc ?_)
      · rw [w64 _ (by omega)]; simp
      · trivial
    · have h : i = ks.length := by simp at h; omega
      subst h
      rw [List.drop_length] at hL
      rw [show leafB [] (vs.drop ks.length) = [] by cases vs.drop ks.length <;> rfl, List.append_nil] at hL
      subst hL
      refine callq_of true [] hfill rfl trivial (vc trivial) ?_
      rintro r out ⟨rfl, rfl⟩
      refine ⟨by simp, by simp, by_rs hsl.symm true, vc ?_⟩
      refine endQ_of [(1, 19)] (.tu [.sl 1 (sheetB ⟨ks, vs, []⟩).length, Bo true]) [some (.rw 5 1 (eB (sheetB ⟨ks, vs, []⟩)))] (by rfl) (vc ?_) (vc ?_) ⟨rfl, rfl⟩
      · exact hsl.symm
      · rfl
  · cases cs with
    | nil => simp at h5
    | cons c cs =>
      simp only [List.length_cons] at h5 h6 h7
      have hc0 := hc1 c (List.mem_cons_self ..)
      have hcS : ∀ x ∈ cs, 2 ≤ x ∧ x ≤ 399 := fun x hx => hc1 x (List.mem_cons_of_mem _ hx)
      have hb : decide ((((c :: cs).length : Nat) : Int) > 0) = true := by simp
      rw [hb]
      rw [List.map_cons, inC]
      refine vc ?_
      refine callq_of true [] (specPutVar_some [66] ks.length (by simp) (by omega)) rfl trivial (by refine vc ?_; exact sim_eB [66] true false (by decide)) ?_
      rintro r out ⟨rfl, rfl⟩
      refine ⟨by simp, by simp, by_rs rfl true, vc ?_⟩
      rw [show decide (((cs.length + 1 : Nat) : Int) > 0) = true by simp]
      have hcn : c = ((c.toNat : Nat) : Int) := by omega
      have hvc := specPutVar_some ([66] ++ enc ks.length) c.toNat (by rw [List.length_append, enc_one (by omega)]; simp) (by omega)
      rw [← hcn] at hvc
      refine vc ?_
      refine callq_of true [] hvc rfl trivial (vc trivial) ?_
      rintro r out ⟨rfl, rfl⟩
      refine ⟨by simp, by simp, by_rs rfl true, vc ?_⟩
      refine loopQ_of (ι := Nat × List UInt8) (fun i => [(1, .pt 1 0 0), (4, .sl 2 i.2.length), (39, Rw (ks.map stC)), (40, In ks.length), (41, In (i.1 : Nat))]) (fun i => [(1, .box 107 [Rw (ks.map stC), Rw (([] : List ByteArray).map stC), Rw ((c :: cs).map inC)]), (2, .rw 5 1 (eB i.2))]) 3 (fun i => ks.length - i.1) (fun i => i.1 ≤ ks.length ∧ i.2 ++ innB (ks.drop i.1) (cs.drop i.1) = pageB ⟨ks, [], c :: cs⟩) (0, [66] ++ enc ks.length ++ enc c.toNat) ⟨Nat.zero_le _, by simp [pageB]⟩ [(1, 1), (2, 265)] (by rfl) (vc ?_) (vc ?_) (fun i hi N hN => ?_)
      · trivial
      · exact .inl rfl
      obtain ⟨i, acc⟩ := i
      obtain ⟨hi, hL⟩ := hi
      simp only at hi hL hN
      have hal : acc.length ≤ 320 := by have := congrArg List.length hL; rw [List.length_append] at this; omega
      refine vc (brB_intro (fun h => ?_) (fun h => ?_))
      · have h : i < ks.length := by simpa using h
        have hx := List.getElem?_eq_getElem h
        have hy := List.getElem?_eq_getElem (show i < cs.length by omega)
        have hkx := (hk1 _ (List.getElem_mem h)).2
        have hcy := hcS _ (List.getElem_mem (show i < cs.length by omega))
        rw [innB_next hx hy] at hL
        rw [get_map hx, stC]
        refine vc ?_
        refine callq_of true [] (specPutText_ok acc ks[i] (by omega) (by omega)) rfl trivial (vc trivial) ?_
        rintro r out ⟨rfl, rfl⟩
        refine ⟨by simp, by simp, by_rs rfl true, vc ?_⟩
        rw [show decide (((cs.length + 1 : Nat) : Int) > 0) = true by simp]
        refine vc ?_
        rw [w64 _ (by omega), show ((i : Nat) : Int) + 1 = ((i + 1 : Nat) : Int) by omega]
        refine vc ?_
        rw [get_map hy, inC]
        refine vc ?_
        have hcn : cs[i] = ((cs[i].toNat : Nat) : Int) := by omega
        have hvc := specPutVar_some (acc ++ txt ks[i]) cs[i].toNat (by rw [List.length_append, txt_len, enc_one (by omega)]; omega) (by omega)
        rw [← hcn] at hvc
        refine callq_of true [] hvc rfl trivial (vc trivial) ?_
        rintro r out ⟨rfl, rfl⟩
        refine ⟨by simp, by simp, by_rs rfl true, vc ?_⟩
        refine hN _ (i + 1, acc ++ txt ks[i] ++ enc cs[i].toNat) [(1, 1), (2, 195)] ⟨h, by rw [← hL]; simp⟩ (by show ks.length - (i + 1) < ks.length - i; omega) (by rfl) (vc ?_) (vc ?_)
        · rw [w64 _ (by omega)]; simp
        · trivial
      · have h : i = ks.length := by simp at h; omega
        subst h
        rw [List.drop_length] at hL
        rw [show innB [] (cs.drop ks.length) = [] by cases cs.drop ks.length <;> rfl, List.append_nil] at hL
        subst hL
        refine callq_of true [] hfill rfl trivial (vc trivial) ?_
        rintro r out ⟨rfl, rfl⟩
        refine ⟨by simp, by simp, by_rs hsl.symm true, vc ?_⟩
        refine endQ_of [(1, 19)] (.tu [.sl 1 (sheetB ⟨ks, [], c :: cs⟩).length, Bo true]) [some (.rw 5 1 (eB (sheetB ⟨ks, [], c :: cs⟩)))] (by rfl) (vc ?_) (vc ?_) ⟨rfl, rfl⟩
        · exact hsl.symm
        · rfl
end Go.Proofs.YtnnmpdanfeejbaaGreat.Abs
