/- The laws' helpers on sheets, writes, disks: their contracts. -/
import Derived.Test.YtnnmpdanfeejbaaAbsLa
namespace Go.Proofs.Ytnnmpdanfeejbaa.Abs
open Go Go.Proofs
set_option maxRecDepth 10000
set_option linter.unusedVariables false
set_option linter.unusedSimpArgs false
theorem toSheet_ok (l : List UInt8) (hl : l.length ≤ 2^40) : CallOk Try.prog 119 [] [.ag [Rw (eB l)]] (fun r out => r = .ag [.sl 1 l.length] ∧ out = [some (.rw 5 1 (eB l))]) := by
  refine callOk_z (np := 0) {} mixed Try.func119 (by rfl) Try.ntmps119 Try.results119 (by rfl) (Nat.le_of_ble_eq_true rfl) rfl rfl rfl (vc ?_)
  refine callq_of false [] (toByteS_ok l hl) rfl trivial (vc trivial) ?_
  rintro r out ⟨rfl, rfl⟩
  refine ⟨by simp, by simp, by simp, vc ?_⟩
  exact endQ_of [(1, 41)] (.ag [.sl 1 l.length]) [some (.rw 5 1 (eB l))] (by rfl) (vc trivial) (vc trivial) ⟨rfl, rfl⟩
theorem get_map {α β : Type} {f : α → β} {l : List α} {i : Nat} {x : α} (h : l[i]? = some x) : (l.map f)[i]? = some (f x) := by rw [List.getElem?_map, h]; rfl
theorem toSheetS_ok (xs : List (List UInt8)) (hl : xs.length ≤ 2^40) (hs : ∀ x ∈ xs, x.length ≤ 2^40) : CallOk Try.prog 61 [] [Rw (xs.map (shC false))] (fun r out => r = .sl 1 xs.length ∧ out = [some (.rw 155 1 (xs.map (shC true)))]) := by
  refine callOk_z (np := 0) {} mixed Try.func61 (by rfl) Try.ntmps61 Try.results61 (by rfl) (Nat.le_of_ble_eq_true rfl) rfl rfl rfl (vc ?_)
  refine ⟨⟨by omega, by omega⟩, ?_⟩
  refine loopQ_of (fun i => [(0, Rw (xs.map (shC false))), (3, .sl 1 xs.length), (4, In (i : Nat))]) (fun i => [(1, .rw 155 1 ((xs.take i).map (shC true) ++ List.replicate (xs.length - i) [.row true []]))]) 2 (fun i => xs.length - i) (fun i => i ≤ xs.length) 0 (Nat.zero_le _) [(1, 25)] (by rfl) (vc trivial) (vc ?_) (fun i hi N hN => vc (brB_intro (fun h => ?_) (fun h => ?_)))
  · rfl
  · have h : i < xs.length := by simpa using h
    have hx := List.getElem?_eq_getElem h
    rw [get_map hx, shC]
    refine vc ?_
    refine callq_of false [] (toSheet_ok _ (hs _ (List.getElem_mem h))) rfl trivial (vc trivial) ?_
    rintro r out ⟨rfl, rfl⟩
    refine ⟨by simp, by simp, by simp, vc ?_⟩
    refine ⟨⟨h, by simp; omega⟩, ?_⟩
    rw [fill_get _ _ _ _ h]
    refine vc ?_
    refine hN _ (i + 1) [] h (by omega) (by rfl) (vc ?_) (vc ?_)
    · rw [w64 _ (by omega)]; simp
    · exact fill_set (shC true) _ xs i _ hx
  · have h : i = xs.length := by simp at h; omega
    refine endQ_of [] (.sl 1 xs.length) [some (.rw 155 1 (xs.map (shC true)))] (by rfl) (vc trivial) (vc ?_) ⟨rfl, rfl⟩
    simp [h]

theorem toWrite_ok (a : Int) (l : List UInt8) (hl : l.length ≤ 2^40) : CallOk Try.prog 120 [] [.ag [In a, Rw (eB l)]] (fun r out => r = .ag [In a, .sl 1 l.length] ∧ out = [some (.rw 5 1 (eB l))]) := by
  refine callOk_z (np := 0) {} mixed Try.func120 (by rfl) Try.ntmps120 Try.results120 (by rfl) (Nat.le_of_ble_eq_true rfl) rfl rfl rfl (vc ?_)
  refine callq_of false [] (toByteS_ok l hl) rfl trivial (vc trivial) ?_
  rintro r out ⟨rfl, rfl⟩
  refine ⟨by simp, by simp, by simp, vc ?_⟩
  exact endQ_of [(1, 73)] (.ag [In a, .sl 1 l.length]) [some (.rw 5 1 (eB l))] (by rfl) (vc trivial) (vc trivial) ⟨rfl, rfl⟩
theorem toWriteS_ok (xs : List (Int × List UInt8)) (hl : xs.length ≤ 2^40) (hs : ∀ x ∈ xs, x.2.length ≤ 2^40) : CallOk Try.prog 62 [] [Rw (xs.map (wrC false))] (fun r out => r = .sl 1 xs.length ∧ out = [some (.rw 90 2 (xs.map (wrC true)))]) := by
  refine callOk_z (np := 0) {} mixed Try.func62 (by rfl) Try.ntmps62 Try.results62 (by rfl) (Nat.le_of_ble_eq_true rfl) rfl rfl rfl (vc ?_)
  refine ⟨⟨by omega, by omega⟩, ?_⟩
  refine loopQ_of (fun i => [(0, Rw (xs.map (wrC false))), (3, .sl 1 xs.length), (4, In (i : Nat))]) (fun i => [(1, .rw 90 2 ((xs.take i).map (wrC true) ++ List.replicate (xs.length - i) [.v (.int .i64 0), .row true []]))]) 2 (fun i => xs.length - i) (fun i => i ≤ xs.length) 0 (Nat.zero_le _) [(1, 25)] (by rfl) (vc trivial) (vc ?_) (fun i hi N hN => vc (brB_intro (fun h => ?_) (fun h => ?_)))
  · rfl
  · have h : i < xs.length := by simpa using h
    have hx := List.getElem?_eq_getElem h
    rw [get_map hx, wrC]
    refine vc ?_
    refine callq_of false [] (toWrite_ok xs[i].1 xs[i].2 (hs _ (List.getElem_mem h))) rfl trivial (vc trivial) ?_
    rintro r out ⟨rfl, rfl⟩
    refine ⟨by simp, by simp, by simp, vc ?_⟩
    refine ⟨⟨h, by simp; omega⟩, ?_⟩
    rw [fill_get _ _ _ _ h]
    refine vc ?_
    refine hN _ (i + 1) [] h (by omega) (by rfl) (vc ?_) (vc ?_)
    · rw [w64 _ (by omega)]; simp
    · exact fill_set (wrC true) _ xs i _ hx
  · have h : i = xs.length := by simp at h; omega
    refine endQ_of [] (.sl 1 xs.length) [some (.rw 90 2 (xs.map (wrC true)))] (by rfl) (vc trivial) (vc ?_) ⟨rfl, rfl⟩
    simp [h]

/-- A disk. -/
structure Dk where
  sh : List (List UInt8)
  wr : List (Int × List UInt8)
  deriving DecidableEq, Inhabited
/-- Its sizes are in bounds. -/
def Dk.fits (M : Nat) (d : Dk) : Prop := d.sh.length ≤ M ∧ (∀ x ∈ d.sh, x.length ≤ M) ∧ d.wr.length ≤ M ∧ ∀ x ∈ d.wr, x.2.length ≤ M
def Dk.rd (d : Dk) : AV := .ag [Rw (d.sh.map (shC false)), Rw (d.wr.map (wrC false))]
def Dk.ow (d : Dk) : AV := .ag [.sl 1 d.sh.length, .sl 2 d.wr.length]
def Dk.obs (d : Dk) : List Ob := [.rw 155 1 (d.sh.map (shC true)), .rw 90 2 (d.wr.map (wrC true))]
theorem toDisk_ok (d : Dk) (hd : d.fits (2^40)) : CallOk Try.prog 14 [] [d.rd] (fun r out => r = d.ow ∧ out = d.obs.map some) := by
  unfold Dk.rd
  refine callOk_z (np := 0) {} mixed Try.func14 (by rfl) Try.ntmps14 Try.results14 (by rfl) (Nat.le_of_ble_eq_true rfl) rfl rfl rfl (vc ?_)
  refine callq_of false [] (toSheetS_ok d.sh hd.1 hd.2.1) rfl trivial (vc trivial) ?_
  rintro r out ⟨rfl, rfl⟩
  refine ⟨by simp, by simp, by simp, vc ?_⟩
  refine callq_of false [] (toWriteS_ok d.wr hd.2.2.1 hd.2.2.2) rfl trivial (vc trivial) ?_
  rintro r out ⟨rfl, rfl⟩
  refine ⟨by simp, by simp, by simp, vc ?_⟩
  exact endQ_of [(1, 41), (2, 81)] d.ow (d.obs.map some) (by rfl) (by unfold Dk.ow; exact vc trivial) (by unfold Dk.obs; exact vc trivial) ⟨rfl, rfl⟩

theorem szB_cases (n : Nat) (k : Int) : (k < n ∧ szB n k = -1) ∨ (n ≤ k ∧ szB n k = k - n) := by
  unfold szB
  split
  · exact .inl ⟨by omega, rfl⟩
  · exact .inr ⟨by omega, rfl⟩
theorem szSheet_ok (l : List UInt8) (k : Int) (hl : l.length ≤ 2^47) (hk : -1 ≤ k ∧ k ≤ 2^40) : CallOk Try.prog 117 [] [.ag [Rw (eB l)], In k] (fun r out => r = In (szB l.length k) ∧ out = []) := by
  refine callOk_z (np := 0) {} mixed Try.func117 (by rfl) Try.ntmps117 Try.results117 (by rfl) (Nat.le_of_ble_eq_true rfl) rfl rfl rfl (vc ?_)
  refine callq_of false [] (szByteS_ok l k hl hk) rfl trivial (vc trivial) ?_
  rintro r out ⟨rfl, rfl⟩
  refine ⟨by simp, by simp, by simp, vc ?_⟩
  have hc := szB_cases l.length k
  refine brB_intro (fun h => EndQ.closed (.v _) ⟨?_, rfl⟩) (fun h => EndQ.closed (.v _) ⟨?_, rfl⟩)
  · have h : szB l.length k < 0 := by simpa using h
    rw [show szB l.length k = -1 by omega]
  · rfl
theorem szWrite_ok (a : Int) (l : List UInt8) (k : Int) (hl : l.length ≤ 2^47) (hk : -1 ≤ k ∧ k ≤ 2^40) : CallOk Try.prog 118 [] [.ag [In a, Rw (eB l)], In k] (fun r out => r = In (szB l.length k) ∧ out = []) := by
  refine callOk_z (np := 0) {} mixed Try.func118 (by rfl) Try.ntmps118 Try.results118 (by rfl) (Nat.le_of_ble_eq_true rfl) rfl rfl rfl (vc ?_)
  refine callq_of false [] (szByteS_ok l k hl hk) rfl trivial (vc trivial) ?_
  rintro r out ⟨rfl, rfl⟩
  refine ⟨by simp, by simp, by simp, vc ?_⟩
  have hc := szB_cases l.length k
  refine brB_intro (fun h => EndQ.closed (.v _) ⟨?_, rfl⟩) (fun h => EndQ.closed (.v _) ⟨?_, rfl⟩)
  · have h : szB l.length k < 0 := by simpa using h
    rw [show szB l.length k = -1 by omega]
  · rfl

theorem szSheetS_ok (xs : List (List UInt8)) (k : Int) (hl : xs.length ≤ 2^47) (hs : ∀ x ∈ xs, x.length ≤ 2^47) (hk : -1 ≤ k ∧ k ≤ 2^40) : CallOk Try.prog 58 [] [Rw (xs.map (shC false)), In k] (fun r out => r = In (szB (xs.length + sumL List.length xs) k) ∧ out = []) := by
  refine callOk_z (np := 0) {} mixed Try.func58 (by rfl) Try.ntmps58 Try.results58 (by rfl) (Nat.le_of_ble_eq_true rfl) rfl rfl rfl (vc ?_)
  rw [w64 _ (by omega)]
  refine brB_intro (fun h => EndQ.closed (.v _) ⟨?_, rfl⟩) (fun h => ?_)
  · have h : k - xs.length < 0 := by simpa using h
    rw [szB, if_pos (by omega)]
  have h : 0 ≤ k - xs.length := by simpa using h
  refine loopQ_of (fun i => [(0, Rw (xs.map (shC false))), (1, In (k - xs.length - sumL List.length (xs.take i))), (5, In (i : Nat))]) (fun i => []) 1 (fun i => xs.length - i) (fun i => i ≤ xs.length ∧ (sumL List.length (xs.take i) : Int) ≤ k - xs.length) 0 ⟨Nat.zero_le _, by simpa [sumL] using h⟩ [] (by rfl) (vc ?_) (vc trivial) (fun i hi N hN => vc (brB_intro (fun h => ?_) (fun h => ?_)))
  · simp [sumL]
  · have h : i < xs.length := by simpa using h
    have hx := List.getElem?_eq_getElem h
    rw [get_map hx, shC]
    refine vc ?_
    refine callq_of false [] (szSheet_ok xs[i] (k - xs.length - sumL List.length (xs.take i)) (hs _ (List.getElem_mem h)) (by omega)) rfl trivial (vc trivial) ?_
    rintro r out ⟨rfl, rfl⟩
    refine ⟨by simp, by simp, by simp, vc ?_⟩
    have hc := szB_cases xs[i].length (k - xs.length - sumL List.length (xs.take i))
    have hn := sumL_next List.length hx
    have hle := sumL_le List.length xs (i + 1)
    refine brB_intro (fun h => EndQ.closed (.v _) ⟨?_, rfl⟩) (fun h => ?_)
    · have h : szB xs[i].length (k - xs.length - sumL List.length (xs.take i)) < 0 := by simpa using h
      rw [szB, if_pos (by omega)]
    · have h : 0 ≤ szB xs[i].length (k - xs.length - sumL List.length (xs.take i)) := by simpa using h
      refine hN _ (i + 1) [] ⟨by omega, by omega⟩ (by omega) (by rfl) (vc ?_) (vc trivial)
      rw [w64 _ (by omega)]
      exact ⟨by omega, by simp⟩
  · have h : i = xs.length := by simp at h; omega
    refine EndQ.closed (.v _) ⟨?_, rfl⟩
    have hT : xs.take i = xs := by rw [h, List.take_length]
    have h2 := hi.2
    rw [hT] at h2 ⊢
    rw [szB, if_neg (by omega), show k - ((xs.length + sumL List.length xs : Nat) : Int) = k - xs.length - sumL List.length xs by omega]
theorem szWriteS_ok (xs : List (Int × List UInt8)) (k : Int) (hl : xs.length ≤ 2^47) (hs : ∀ x ∈ xs, x.2.length ≤ 2^47) (hk : -1 ≤ k ∧ k ≤ 2^40) : CallOk Try.prog 59 [] [Rw (xs.map (wrC false)), In k] (fun r out => r = In (szB (xs.length + sumL (fun x => x.2.length) xs) k) ∧ out = []) := by
  refine callOk_z (np := 0) {} mixed Try.func59 (by rfl) Try.ntmps59 Try.results59 (by rfl) (Nat.le_of_ble_eq_true rfl) rfl rfl rfl (vc ?_)
  rw [w64 _ (by omega)]
  refine brB_intro (fun h => EndQ.closed (.v _) ⟨?_, rfl⟩) (fun h => ?_)
  · have h : k - xs.length < 0 := by simpa using h
    rw [szB, if_pos (by omega)]
  have h : 0 ≤ k - xs.length := by simpa using h
  refine loopQ_of (fun i => [(0, Rw (xs.map (wrC false))), (1, In (k - xs.length - sumL (fun x => x.2.length) (xs.take i))), (5, In (i : Nat))]) (fun i => []) 1 (fun i => xs.length - i) (fun i => i ≤ xs.length ∧ (sumL (fun x => x.2.length) (xs.take i) : Int) ≤ k - xs.length) 0 ⟨Nat.zero_le _, by simpa [sumL] using h⟩ [] (by rfl) (vc ?_) (vc trivial) (fun i hi N hN => vc (brB_intro (fun h => ?_) (fun h => ?_)))
  · simp [sumL]
  · have h : i < xs.length := by simpa using h
    have hx := List.getElem?_eq_getElem h
    rw [get_map hx, wrC]
    refine vc ?_
    refine callq_of false [] (szWrite_ok xs[i].1 xs[i].2 (k - xs.length - sumL (fun x => x.2.length) (xs.take i)) (hs _ (List.getElem_mem h)) (by omega)) rfl trivial (vc trivial) ?_
    rintro r out ⟨rfl, rfl⟩
    refine ⟨by simp, by simp, by simp, vc ?_⟩
    have hc := szB_cases xs[i].2.length (k - xs.length - sumL (fun x => x.2.length) (xs.take i))
    have hn := sumL_next (fun x : Int × List UInt8 => x.2.length) hx
    have hle := sumL_le (fun x : Int × List UInt8 => x.2.length) xs (i + 1)
    refine brB_intro (fun h => EndQ.closed (.v _) ⟨?_, rfl⟩) (fun h => ?_)
    · have h : szB xs[i].2.length (k - xs.length - sumL (fun x => x.2.length) (xs.take i)) < 0 := by simpa using h
      rw [szB, if_pos (by omega)]
    · have h : 0 ≤ szB xs[i].2.length (k - xs.length - sumL (fun x => x.2.length) (xs.take i)) := by simpa using h
      refine hN _ (i + 1) [] ⟨by omega, by omega⟩ (by omega) (by rfl) (vc ?_) (vc trivial)
      rw [w64 _ (by omega)]
      exact ⟨by omega, by simp⟩
  · have h : i = xs.length := by simp at h; omega
    refine EndQ.closed (.v _) ⟨?_, rfl⟩
    have hT : xs.take i = xs := by rw [h, List.take_length]
    have h2 := hi.2
    rw [hT] at h2 ⊢
    rw [szB, if_neg (by omega), show k - ((xs.length + sumL (fun x => x.2.length) xs : Nat) : Int) = k - xs.length - sumL (fun x => x.2.length) xs by omega]

def Dk.size (d : Dk) : Nat := d.sh.length + sumL List.length d.sh + (d.wr.length + sumL (fun x => x.2.length) d.wr)
theorem szDisk_ok (d : Dk) (k : Int) (hd : d.fits (2^47)) (hk : -1 ≤ k ∧ k ≤ 2^40) : CallOk Try.prog 12 [] [d.rd, In k] (fun r out => r = In (szB d.size k) ∧ out = []) := by
  unfold Dk.rd
  refine callOk_z (np := 0) {} mixed Try.func12 (by rfl) Try.ntmps12 Try.results12 (by rfl) (Nat.le_of_ble_eq_true rfl) rfl rfl rfl (vc ?_)
  refine callq_of false [] (szSheetS_ok d.sh k hd.1 hd.2.1 hk) rfl trivial (vc trivial) ?_
  rintro r out ⟨rfl, rfl⟩
  refine ⟨by simp, by simp, by simp, vc ?_⟩
  have hc := szB_cases (d.sh.length + sumL List.length d.sh) k
  have hz : d.size = d.sh.length + sumL List.length d.sh + (d.wr.length + sumL (fun x => x.2.length) d.wr) := rfl
  refine brB_intro (fun h => EndQ.closed (.v _) ⟨?_, rfl⟩) (fun h => ?_)
  · have h : szB (d.sh.length + sumL List.length d.sh) k < 0 := by simpa using h
    rw [szB, if_pos (by omega)]
  have h : 0 ≤ szB (d.sh.length + sumL List.length d.sh) k := by simpa using h
  refine callq_of false [] (szWriteS_ok d.wr (szB (d.sh.length + sumL List.length d.sh) k) hd.2.2.1 hd.2.2.2 (by omega)) rfl trivial (vc trivial) ?_
  rintro r out ⟨rfl, rfl⟩
  refine ⟨by simp, by simp, by simp, vc ?_⟩
  have hc2 := szB_cases (d.wr.length + sumL (fun x => x.2.length) d.wr) (szB (d.sh.length + sumL List.length d.sh) k)
  have hc3 := szB_cases d.size k
  refine brB_intro (fun h => EndQ.closed (.v _) ⟨?_, rfl⟩) (fun h => EndQ.closed (.v _) ⟨?_, rfl⟩)
  · have h : szB (d.wr.length + sumL (fun x => x.2.length) d.wr) (szB (d.sh.length + sumL List.length d.sh) k) < 0 := by simpa using h
    rw [show szB d.size k = -1 by omega]
  · have h : 0 ≤ szB (d.wr.length + sumL (fun x => x.2.length) d.wr) (szB (d.sh.length + sumL List.length d.sh) k) := by simpa using h
    rw [show szB d.size k = szB (d.wr.length + sumL (fun x => x.2.length) d.wr) (szB (d.sh.length + sumL List.length d.sh) k) by omega]
theorem sumL_mem {α : Type} (f : α → Nat) {xs : List α} {x : α} (h : x ∈ xs) : f x ≤ sumL f xs := by
  induction xs with
  | nil => cases h
  | cons y r ih =>
    rw [sumL_cons]
    rcases List.mem_cons.1 h with rfl | h
    · omega
    · have := ih h; omega
theorem Dk.fits_of {d : Dk} {M : Nat} (h : d.size ≤ M) : d.fits M := by
  unfold Dk.size at h
  refine ⟨by omega, fun x hx => ?_, by omega, fun x hx => ?_⟩
  · have := sumL_mem List.length hx; omega
  · have := sumL_mem (fun x : Int × List UInt8 => x.2.length) hx; omega
end Go.Proofs.Ytnnmpdanfeejbaa.Abs
