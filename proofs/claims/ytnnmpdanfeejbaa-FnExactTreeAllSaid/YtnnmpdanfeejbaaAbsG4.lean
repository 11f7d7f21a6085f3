import Derived.Test.YtnnmpdanfeejbaaAbsG3
import Derived.Deep.Slices
import Derived.SizedLaws
import Derived.Lib.SmallJoins
/- Disks: what is right, copies, writes; both by the same words. -/
namespace Go.Proofs.Ytnnmpdanfeejbaa.Abs
open Go Go.Proofs
set_option maxRecDepth 10000
set_option linter.unusedVariables false
set_option linter.unusedSimpArgs false
theorem within_ok (a b c : Int) : CallOk Try.prog 63 [] [In a, In b, In c] (fun r out => r = Bo (decide (b ≤ a ∧ a ≤ c)) ∧ out = []) := by
  refine callOk_z (np := 0) {} mixed Try.func63 (by rfl) Try.ntmps63 Try.results63 (by rfl) (Nat.le_of_ble_eq_true rfl) rfl rfl rfl (vc ?_)
  refine brB_intro (fun h => EndQ.closed (.v _) ⟨?_, rfl⟩) (fun h => EndQ.closed (.v _) ⟨?_, rfl⟩)
  · have h : a ≥ b := by simpa using h
    simp; omega
  · have h : ¬ a ≥ b := by simpa using h
    simp; omega
def Dk.shOk (x : List UInt8) : Prop := x.length = 0 ∨ x.length = 512
def Dk.wrOk (n : Nat) (x : Int × List UInt8) : Prop := (0 ≤ x.1 ∧ x.1 < n) ∧ x.2.length = 512
def Dk.ok (d : Dk) : Prop := (2 ≤ d.sh.length ∧ d.sh.length ≤ 400 ∧ d.wr.length ≤ 500) ∧ (∀ x ∈ d.sh, Dk.shOk x) ∧ ∀ x ∈ d.wr, Dk.wrOk d.sh.length x
theorem specDiskOk_ok (d : Dk) (hd : d.fits (2^40)) : CallOk Try.prog 54 [] [d.rd] (fun r out => r = Bo (tf d.ok) ∧ out = []) := by
  unfold Dk.rd
  have hf1 := hd.1
  have hf2 := hd.2.2.1
  refine callOk_z (np := 0) {} mixed Try.func54 (by rfl) Try.ntmps54 Try.results54 (by rfl) (Nat.le_of_ble_eq_true rfl) rfl rfl rfl (vc ?_)
  have ho : Dk.ok d ↔ (2 ≤ d.sh.length ∧ d.sh.length ≤ 400 ∧ d.wr.length ≤ 500) ∧ (∀ x ∈ d.sh, Dk.shOk x) ∧ ∀ x ∈ d.wr, Dk.wrOk d.sh.length x := Iff.rfl
  refine brB_intro (fun h => EndQ.closed (.v _) ⟨?_, rfl⟩) (fun h => brB_intro (fun h' => EndQ.closed (.v _) ⟨?_, rfl⟩) (fun h' => brB_intro (fun h'' => EndQ.closed (.v _) ⟨?_, rfl⟩) (fun h'' => ?_)))
  · rw [tf_false (fun hk => by have := hk.1; simp at h; omega)]
  · rw [tf_false (fun hk => by have := hk.1; simp at h'; omega)]
  · rw [tf_false (fun hk => by have := hk.1; simp at h''; omega)]
  have hlen : 2 ≤ d.sh.length ∧ d.sh.length ≤ 400 ∧ d.wr.length ≤ 500 := by simp at h h' h''; omega
  clear h h' h''
  refine loopQ_of (fun i => [(1, .pt 1 0 0), (24, Rw (d.sh.map (shC false))), (25, In d.sh.length), (26, In (i : Nat))]) (fun i => [(1, .box 31 [Rw (d.sh.map (shC false)), Rw (d.wr.map (wrC false))])]) 2 (fun i => d.sh.length - i) (fun i => i ≤ d.sh.length ∧ ∀ x ∈ d.sh.take i, Dk.shOk x) 0 ⟨Nat.zero_le _, by simp⟩ [] (by rfl) (vc trivial) (vc trivial) (fun i hi N hN => vc (brB_intro (fun h => ?_) (fun h => ?_)))
  · have h : i < d.sh.length := by simpa using h
    have hx := List.getElem?_eq_getElem h
    rw [get_map hx, shC]
    refine vc ?_
    have hnext : Dk.shOk d.sh[i] → i + 1 ≤ d.sh.length ∧ ∀ x ∈ d.sh.take (i + 1), Dk.shOk x := fun hp => ⟨h, all_next hi.2 hx hp⟩
    refine brB_intro (fun h1 => brB_intro (fun h2 => EndQ.closed (.v _) ⟨?_, rfl⟩) (fun h2 => ?_)) (fun h1 => ?_)
    · rw [tf_false (fun hk => by rcases hk.2.1 _ (List.getElem_mem h) with e | e <;> simp [e] at h1 h2)]
    · refine hN _ (i + 1) [] (hnext (by show d.sh[i].length = 0 ∨ d.sh[i].length = 512; simp at h2; omega)) (by omega) (by rfl) (vc ?_) (vc trivial)
      rw [w64 _ (by omega)]; simp
    · refine hN _ (i + 1) [] (hnext (by simp at h1; exact .inl (by simp [h1]))) (by omega) (by rfl) (vc ?_) (vc trivial)
      rw [w64 _ (by omega)]; simp
  have h : i = d.sh.length := by simp at h; omega
  have hsh := all_full hi.2 h
  refine loopQ_of (fun i => [(1, .pt 1 0 0), (42, Rw (d.wr.map (wrC false))), (43, In d.wr.length), (44, In (i : Nat))]) (fun i => [(1, .box 31 [Rw (d.sh.map (shC false)), Rw (d.wr.map (wrC false))])]) 2 (fun i => d.wr.length - i) (fun i => i ≤ d.wr.length ∧ ∀ x ∈ d.wr.take i, Dk.wrOk d.sh.length x) 0 ⟨Nat.zero_le _, by simp⟩ [] (by rfl) (vc trivial) (vc trivial) (fun i hi N hN => vc (brB_intro (fun h => ?_) (fun h => ?_)))
  · have h : i < d.wr.length := by simpa using h
    have hx := List.getElem?_eq_getElem h
    rw [get_map hx, wrC]
    refine vc ?_
    have hnext : Dk.wrOk d.sh.length d.wr[i] → i + 1 ≤ d.wr.length ∧ ∀ x ∈ d.wr.take (i + 1), Dk.wrOk d.sh.length x := fun hp => ⟨h, all_next hi.2 hx hp⟩
    refine brB_intro (fun h1 => EndQ.closed (.v _) ⟨?_, rfl⟩) (fun h1 => brB_intro (fun h2 => EndQ.closed (.v _) ⟨?_, rfl⟩) (fun h2 => brB_intro (fun h3 => EndQ.closed (.v _) ⟨?_, rfl⟩) (fun h3 => ?_)))
    · rw [tf_false (fun hk => by have := hk.2.2 _ (List.getElem_mem h); simp [Dk.wrOk] at h1 this; omega)]
    · rw [tf_false (fun hk => by have := hk.2.2 _ (List.getElem_mem h); simp [Dk.wrOk] at h2 this; omega)]
    · rw [tf_false (fun hk => by have := hk.2.2 _ (List.getElem_mem h); simp [Dk.wrOk] at h3 this; omega)]
    · refine hN _ (i + 1) [] (hnext (by simp at h1 h2 h3; exact ⟨⟨by omega, by omega⟩, by omega⟩)) (by omega) (by rfl) (vc ?_) (vc trivial)
      rw [w64 _ (by omega)]; simp
  · have h : i = d.wr.length := by simp at h; omega
    refine EndQ.closed (.v _) ⟨?_, rfl⟩
    rw [tf_true ⟨hlen, hsh, all_full hi.2 h⟩]
theorem implDiskOk_ok (d : Dk) (hd : d.fits (2^40)) : CallOk Try.prog 55 [] [d.rd] (fun r out => r = Bo (tf d.ok) ∧ out = []) := by
  unfold Dk.rd
  have hf1 := hd.1
  have hf2 := hd.2.2.1
  refine callOk_z (np := 0) {} mixed Try.func55 (by rfl) Try.ntmps55 Try.results55 (by rfl) (Nat.le_of_ble_eq_true rfl) rfl rfl rfl (vc ?_)
  refine loopQ_of (fun i => [(1, .pt 1 0 0), (8, Rw (d.sh.map (shC false))), (9, In d.sh.length), (10, In (i : Nat))]) (fun i => [(1, .box 31 [Rw (d.sh.map (shC false)), Rw (d.wr.map (wrC false))])]) 2 (fun i => d.sh.length - i) (fun i => i ≤ d.sh.length ∧ ∀ x ∈ d.sh.take i, Dk.shOk x) 0 ⟨Nat.zero_le _, by simp⟩ [] (by rfl) (vc trivial) (vc trivial) (fun i hi N hN => vc (brB_intro (fun h => ?_) (fun h => ?_)))
  · have h : i < d.sh.length := by simpa using h
    have hx := List.getElem?_eq_getElem h
    rw [get_map hx, shC]
    refine vc ?_
    have hnext : Dk.shOk d.sh[i] → i + 1 ≤ d.sh.length ∧ ∀ x ∈ d.sh.take (i + 1), Dk.shOk x := fun hp => ⟨h, all_next hi.2 hx hp⟩
    refine brB_intro (fun h1 => brB_intro (fun h2 => EndQ.closed (.v _) ⟨?_, rfl⟩) (fun h2 => ?_)) (fun h1 => ?_)
    · rw [tf_false (fun hk => by rcases hk.2.1 _ (List.getElem_mem h) with e | e <;> simp [e] at h1 h2)]
    · refine hN _ (i + 1) [] (hnext (by show d.sh[i].length = 0 ∨ d.sh[i].length = 512; simp at h2; omega)) (by omega) (by rfl) (vc ?_) (vc trivial)
      rw [w64 _ (by omega)]; simp
    · refine hN _ (i + 1) [] (hnext (by simp at h1; exact .inl (by simp [h1]))) (by omega) (by rfl) (vc ?_) (vc trivial)
      rw [w64 _ (by omega)]; simp
  have h : i = d.sh.length := by simp at h; omega
  have hsh := all_full hi.2 h
  refine loopQ_of (fun i => [(1, .pt 1 0 0), (26, Rw (d.wr.map (wrC false))), (27, In d.wr.length), (28, In (i : Nat))]) (fun i => [(1, .box 31 [Rw (d.sh.map (shC false)), Rw (d.wr.map (wrC false))])]) 2 (fun i => d.wr.length - i) (fun i => i ≤ d.wr.length ∧ ∀ x ∈ d.wr.take i, Dk.wrOk d.sh.length x) 0 ⟨Nat.zero_le _, by simp⟩ [] (by rfl) (vc trivial) (vc trivial) (fun i hi N hN => vc (brB_intro (fun h => ?_) (fun h => ?_)))
  · have h : i < d.wr.length := by simpa using h
    have hx := List.getElem?_eq_getElem h
    rw [get_map hx, wrC]
    refine vc ?_
    have hnext : Dk.wrOk d.sh.length d.wr[i] → i + 1 ≤ d.wr.length ∧ ∀ x ∈ d.wr.take (i + 1), Dk.wrOk d.sh.length x := fun hp => ⟨h, all_next hi.2 hx hp⟩
    rw [w64 _ (by omega)]
    refine callq_of false [] (within_ok d.wr[i].1 0 (d.sh.length - 1)) rfl trivial (vc trivial) ?_
    rintro r out ⟨rfl, rfl⟩
    refine ⟨by simp, by simp, by simp, vc ?_⟩
    refine brB_intro (fun h1 => EndQ.closed (.v _) ⟨?_, rfl⟩) (fun h1 => ?_)
    · rw [tf_false (fun hk => by have := hk.2.2 _ (List.getElem_mem h); simp [Dk.wrOk] at h1 this; omega)]
    refine brB_intro (fun h3 => EndQ.closed (.v _) ⟨?_, rfl⟩) (fun h3 => ?_)
    · rw [tf_false (fun hk => by have := hk.2.2 _ (List.getElem_mem h); simp [Dk.wrOk] at h3 this; omega)]
    · refine hN _ (i + 1) [] (hnext (by simp at h1 h3; exact ⟨⟨by omega, by omega⟩, by omega⟩)) (by omega) (by rfl) (vc ?_) (vc trivial)
      rw [w64 _ (by omega)]; simp
  have h : i = d.wr.length := by simp at h; omega
  have hwr := all_full hi.2 h
  refine callq_of false [] (within_ok d.sh.length 2 400) rfl trivial (vc trivial) ?_
  rintro r out ⟨rfl, rfl⟩
  refine ⟨by simp, by simp, by simp, vc ?_⟩
  refine brB_intro (fun h1 => EndQ.closed (.v _) ⟨?_, rfl⟩) (fun h1 => EndQ.closed (.v _) ⟨?_, rfl⟩)
  · by_cases h2 : d.wr.length ≤ 500
    · rw [tf_true ⟨by simp at h1; omega, hsh, hwr⟩]; simp; omega
    · rw [tf_false (fun hk => h2 hk.1.2.2)]; simp; omega
  · rw [tf_false (fun hk => by have := hk.1; simp at h1; omega)]
theorem copyBytes_ok (l : List UInt8) (hl : l.length ≤ 2^40) : CallOk Try.prog 65 [] [Rw (eB l)] (fun r out => r = .sl 1 l.length ∧ out = [some (.rw 5 1 (eB l))]) := by
  refine callOk_z (np := 0) {} mixed Try.func65 (by rfl) Try.ntmps65 Try.results65 (by rfl) (Nat.le_of_ble_eq_true rfl) rfl rfl rfl (vc ?_)
  refine ⟨⟨by unfold maxLen; omega, by omega⟩, ?_⟩
  exact endQ_of [(1, 17)] (.sl 1 l.length) [some (.rw 5 1 (eB l))] (by rfl) (vc trivial) (vc trivial) ⟨rfl, rfl⟩
theorem l05Copy_ok (d : Dk) (hd : d.fits (2^40)) : CallOk Try.prog 60 [] [d.rd] (fun r out => r = d.ow ∧ out = d.obs.map some) := by
  unfold Dk.rd
  have hf1 := hd.1
  have hf2 := hd.2.2.1
  refine callOk_z (np := 0) {} mixed Try.func60 (by rfl) Try.ntmps60 Try.results60 (by rfl) (Nat.le_of_ble_eq_true rfl) rfl rfl rfl (vc ?_)
  refine loopQ_of (fun i => [(1, .pt 1 0 0), (2, .pt 2 0 0), (3, .pt 3 0 0), (10, Rw (d.sh.map (shC false))), (11, In d.sh.length), (12, In (i : Nat))]) (fun i => [(1, .box 31 [Rw (d.sh.map (shC false)), Rw (d.wr.map (wrC false))]), (2, .box 31 [.nul, .nul]), (3, .box 31 [.sl 4 i, .nul]), (4, .rw 155 1 ((d.sh.take i).map (shC true)))]) 5 (fun i => d.sh.length - i) (fun i => i ≤ d.sh.length) 0 (Nat.zero_le _) [(2, 9), (3, 25), (4, 0)] (by rfl) (vc trivial) (vc trivial) (fun i hi N hN => vc (brB_intro (fun h => ?_) (fun h => ?_)))
  · have h : i < d.sh.length := by simpa using h
    have hx := List.getElem?_eq_getElem h
    have hfx := hd.2.1 _ (List.getElem_mem h)
    rw [get_map hx, shC]
    refine vc ?_
    refine drawQ_of false (by rfl) (by simp) (vc ?_)
    refine ⟨⟨by unfold maxLen; omega, by omega⟩, ?_⟩
    repeat refine ⟨rfl, ?_⟩
    refine ⟨⟨by simp; omega, by simp, by unfold maxLen; omega, by omega⟩, ?_⟩
    repeat refine ⟨rfl, ?_⟩
    refine hN _ (i + 1) [(4, 109)] h (by omega) (by rfl) (vc ?_) (vc ?_)
    · rw [w64 _ (by omega)]; simp
    · exact ⟨by simp; omega, map_take_next (shC true) hx⟩
  have h : i = d.sh.length := by simp at h; omega
  subst h
  refine loopQ_of (fun i => [(1, .pt 1 0 0), (2, .pt 2 0 0), (3, .pt 3 0 0), (28, Rw (d.wr.map (wrC false))), (29, In d.wr.length), (30, In (i : Nat))]) (fun i => [(1, .box 31 [Rw (d.sh.map (shC false)), Rw (d.wr.map (wrC false))]), (2, .box 31 [.nul, .nul]), (3, .box 31 [.sl 4 d.sh.length, .sl 5 i]), (4, .rw 155 1 (d.sh.map (shC true))), (5, .rw 90 2 ((d.wr.take i).map (wrC true)))]) 6 (fun i => d.wr.length - i) (fun i => i ≤ d.wr.length) 0 (Nat.zero_le _) [(5, 0)] (by rfl) (vc trivial) (vc ?_) (fun i hi N hN => vc (brB_intro (fun h => ?_) (fun h => ?_)))
  · rw [List.take_length]
  · have h : i < d.wr.length := by simpa using h
    have hx := List.getElem?_eq_getElem h
    have hfx := hd.2.2.2 _ (List.getElem_mem h)
    rw [get_map hx, wrC]
    refine vc ?_
    refine drawQ_of false (by rfl) (by simp) (vc ?_)
    refine ⟨⟨by unfold maxLen; omega, by omega⟩, ?_⟩
    repeat refine ⟨rfl, ?_⟩
    refine ⟨⟨by simp; omega, by simp, by unfold maxLen; omega, by omega⟩, ?_⟩
    repeat refine ⟨rfl, ?_⟩
    refine hN _ (i + 1) [(5, 126)] h (by omega) (by rfl) (vc ?_) (vc ?_)
    · rw [w64 _ (by omega)]; simp
    · exact ⟨by simp; omega, map_take_next (wrC true) hx⟩
  · have h : i = d.wr.length := by simp at h; omega
    subst h
    rw [List.take_length]
    exact endQ_of [(1, 4), (2, 5)] d.ow (d.obs.map some) (by rfl) (by unfold Dk.ow; exact vc trivial) (by unfold Dk.obs; exact vc trivial) ⟨rfl, rfl⟩
theorem copyDisk_ok (d : Dk) (hd : d.fits (2^40)) : CallOk Try.prog 64 [] [d.rd] (fun r out => r = d.ow ∧ out = d.obs.map some) := by
  unfold Dk.rd
  have hf1 := hd.1
  have hf2 := hd.2.2.1
  refine callOk_z (np := 0) {} mixed Try.func64 (by rfl) Try.ntmps64 Try.results64 (by rfl) (Nat.le_of_ble_eq_true rfl) rfl rfl rfl (vc ?_)
  refine loopQ_of (fun i => [(1, .pt 1 0 0), (2, .pt 2 0 0), (3, .pt 3 0 0), (10, Rw (d.sh.map (shC false))), (11, In d.sh.length), (12, In (i : Nat))]) (fun i => [(1, .box 31 [Rw (d.sh.map (shC false)), Rw (d.wr.map (wrC false))]), (2, .box 31 [.nul, .nul]), (3, .box 31 [.sl 4 i, .nul]), (4, .rw 155 1 ((d.sh.take i).map (shC true)))]) 5 (fun i => d.sh.length - i) (fun i => i ≤ d.sh.length) 0 (Nat.zero_le _) [(2, 9), (3, 25), (4, 0)] (by rfl) (vc trivial) (vc trivial) (fun i hi N hN => vc (brB_intro (fun h => ?_) (fun h => ?_)))
  · have h : i < d.sh.length := by simpa using h
    have hx := List.getElem?_eq_getElem h
    have hfx := hd.2.1 _ (List.getElem_mem h)
    rw [get_map hx, shC]
    refine vc ?_
    refine drawQ_of false (by rfl) (by simp) (vc ?_)
    refine calld_of [] false [] (copyBytes_ok d.sh[i] hfx) rfl trivial (vc trivial) (by rfl) ⟨_, _, rfl, rfl⟩ ?_
    rintro r out ⟨rfl, rfl⟩
    refine ⟨by simp, by simp, by simp, vc ?_⟩
    repeat refine ⟨rfl, ?_⟩
    refine ⟨⟨by simp; omega, by simp, by unfold maxLen; omega, by omega⟩, ?_⟩
    repeat refine ⟨rfl, ?_⟩
    refine hN _ (i + 1) [(4, 101)] h (by omega) (by rfl) (vc ?_) (vc ?_)
    · rw [w64 _ (by omega)]; simp
    · exact ⟨by simp; omega, map_take_next (shC true) hx⟩
  have h : i = d.sh.length := by simp at h; omega
  subst h
  refine loopQ_of (fun i => [(1, .pt 1 0 0), (2, .pt 2 0 0), (3, .pt 3 0 0), (27, Rw (d.wr.map (wrC false))), (28, In d.wr.length), (29, In (i : Nat))]) (fun i => [(1, .box 31 [Rw (d.sh.map (shC false)), Rw (d.wr.map (wrC false))]), (2, .box 31 [.nul, .nul]), (3, .box 31 [.sl 4 d.sh.length, .sl 5 i]), (4, .rw 155 1 (d.sh.map (shC true))), (5, .rw 90 2 ((d.wr.take i).map (wrC true)))]) 6 (fun i => d.wr.length - i) (fun i => i ≤ d.wr.length) 0 (Nat.zero_le _) [(5, 0)] (by rfl) (vc trivial) (vc ?_) (fun i hi N hN => vc (brB_intro (fun h => ?_) (fun h => ?_)))
  · rw [List.take_length]
  · have h : i < d.wr.length := by simpa using h
    have hx := List.getElem?_eq_getElem h
    have hfx := hd.2.2.2 _ (List.getElem_mem h)
    rw [get_map hx, wrC]
    refine vc ?_
    refine drawQ_of false (by rfl) (by simp) (vc ?_)
    refine calld_of [] false [] (copyBytes_ok d.wr[i].2 hfx) rfl trivial (vc trivial) (by rfl) ⟨_, _, rfl, rfl⟩ ?_
    rintro r out ⟨rfl, rfl⟩
    refine ⟨by simp, by simp, by simp, vc ?_⟩
    repeat refine ⟨rfl, ?_⟩
    refine ⟨⟨by simp; omega, by simp, by unfold maxLen; omega, by omega⟩, ?_⟩
    repeat refine ⟨rfl, ?_⟩
    refine hN _ (i + 1) [(5, 118)] h (by omega) (by rfl) (vc ?_) (vc ?_)
    · rw [w64 _ (by omega)]; simp
    · exact ⟨by simp; omega, map_take_next (wrC true) hx⟩
  · have h : i = d.wr.length := by simp at h; omega
    subst h
    rw [List.take_length]
    exact endQ_of [(1, 4), (2, 5)] d.ow (d.obs.map some) (by rfl) (by unfold Dk.ow; exact vc trivial) (by unfold Dk.obs; exact vc trivial) ⟨rfl, rfl⟩
theorem Dk.fits.snoc {M : Nat} {d : Dk} (hd : d.fits M) {a : Int} {b : List UInt8} (h : d.wr.length < M) (hb : b.length ≤ M) : (⟨d.sh, d.wr ++ [(a, b)]⟩ : Dk).fits M := by
  refine ⟨hd.1, hd.2.1, by simp; omega, fun x hx => ?_⟩
  rcases List.mem_append.1 hx with hx | hx
  · exact hd.2.2.2 x hx
  · simp at hx; subst hx; exact hb
open Classical in
/-- A write put behind. -/
noncomputable def Dk.write (d : Dk) (a : Int) (b : List UInt8) : Dk × Bool :=
  if d.ok ∧ Dk.wrOk d.sh.length (a, b) ∧ d.wr.length < 500 then (⟨d.sh, d.wr ++ [(a, b)]⟩, true) else (⟨[], []⟩, false)
theorem specDiskWrite_ok (d : Dk) (hd : d.fits (2^40)) (a : Int) (b : List UInt8) (hb : b.length ≤ 2^40) : CallOk Try.prog 13 [] [d.rd, In a, Rw (eB b)]
    (fun r out => r = .tu [(d.write a b).1.ow, Bo (d.write a b).2] ∧ out = (d.write a b).1.obs.map some) := by
  unfold Dk.rd
  have hf1 := hd.1
  have hf2 := hd.2.2.1
  refine callOk_z (np := 0) {} mixed Try.func13 (by rfl) Try.ntmps13 Try.results13 (by rfl) (Nat.le_of_ble_eq_true rfl) rfl rfl rfl (vc ?_)
  refine callq_of false [] (specDiskOk_ok d hd) rfl trivial (by unfold Dk.rd; exact vc trivial) ?_
  rintro r out ⟨rfl, rfl⟩
  refine ⟨by simp, by simp, by simp, vc ?_⟩
  refine brB_intro (fun h => ?_) (fun h => ?_)
  · have h : ¬ d.ok := fun e => by rw [tf_true e] at h; simp at h
    rw [show d.write a b = (⟨[], []⟩, false) from if_neg (fun e => h e.1)]
    exact endQ_of [(1, 0), (2, 0)] (.tu [(⟨[], []⟩ : Dk).ow, Bo false]) ((⟨[], []⟩ : Dk).obs.map some) (by rfl) (by unfold Dk.ow; exact vc trivial) (by unfold Dk.obs; exact vc trivial) ⟨rfl, rfl⟩
  have hok : d.ok := by
    by_cases e : d.ok
    · exact e
    · rw [tf_false e] at h; simp at h
  refine callq_of false [] (l05Copy_ok d hd) rfl trivial (by unfold Dk.rd; exact vc trivial) ?_
  rintro r out ⟨rfl, rfl⟩
  refine ⟨by simp, by simp [Dk.obs], by simp, ?_⟩
  unfold Dk.ow Dk.obs
  refine vc ?_
  refine drawQ_of false (by rfl) (by simp) (vc ?_)
  refine ⟨⟨by unfold maxLen; omega, by omega⟩, ?_⟩
  repeat refine ⟨rfl, ?_⟩
  refine ⟨⟨by simp, by unfold maxLen; omega, by omega⟩, ?_⟩
  repeat refine ⟨rfl, ?_⟩
  rw [show d.wr.map (wrC true) ++ [[CV.v (.int .i64 a), CV.row true (eB b)]] = (d.wr ++ [(a, b)]).map (wrC true) by simp [wrC]]
  have hd' : (⟨d.sh, d.wr ++ [(a, b)]⟩ : Dk).fits (2^40) := hd.snoc (by have := hok.1; omega) hb
  refine callq_of true [] (specDiskOk_ok ⟨d.sh, d.wr ++ [(a, b)]⟩ hd') rfl trivial (by unfold Dk.rd; refine vc ?_; simp) ?_
  rintro r out ⟨rfl, rfl⟩
  refine ⟨by simp, by simp, fun _ => ⟨.v _, by simp⟩, vc ?_⟩
  have hiff : (⟨d.sh, d.wr ++ [(a, b)]⟩ : Dk).ok ↔ d.ok ∧ Dk.wrOk d.sh.length (a, b) ∧ d.wr.length < 500 := by
    constructor
    · intro e
      have h1 := e.1
      have h2 := e.2.2 (a, b) (by simp)
      exact ⟨hok, h2, by simp at h1; omega⟩
    · rintro ⟨e, e1, e2⟩
      refine ⟨by have := e.1; simp; omega, e.2.1, fun x hx => ?_⟩
      rcases List.mem_append.1 hx with hx | hx
      · exact e.2.2 x hx
      · simp at hx; subst hx; exact e1
  by_cases hk : d.ok ∧ Dk.wrOk d.sh.length (a, b) ∧ d.wr.length < 500
  · rw [tf_true (hiff.2 hk), show d.write a b = (⟨d.sh, d.wr ++ [(a, b)]⟩, true) from if_pos hk]
    refine vc ?_
    refine endQ_of [(1, 57), (2, 145)] (.tu [.ag [.sl 1 d.sh.length, .sl 2 (d.wr ++ [(a, b)]).length], Bo true]) [some (.rw 155 1 (d.sh.map (shC true))), some (.rw 90 2 ((d.wr ++ [(a, b)]).map (wrC true)))] (by rfl) (vc ?_) (vc trivial) ⟨rfl, rfl⟩
    simp
  · rw [tf_false (fun e => hk (hiff.1 e)), show d.write a b = (⟨[], []⟩, false) from if_neg hk]
    refine vc ?_
    exact endQ_of [(1, 0), (2, 0)] (.tu [.ag [.sl 1 0, .sl 2 0], Bo false]) [some (.rw 155 1 []), some (.rw 90 2 [])] (by rfl) (vc trivial) (vc trivial) ⟨rfl, rfl⟩
theorem implDiskWrite_ok (d : Dk) (hd : d.fits (2^40)) (a : Int) (b : List UInt8) (hb : b.length ≤ 2^40) : CallOk Try.prog 16 [] [d.rd, In a, Rw (eB b)]
    (fun r out => r = .tu [(d.write a b).1.ow, Bo (d.write a b).2] ∧ out = (d.write a b).1.obs.map some) := by
  unfold Dk.rd
  have hf1 := hd.1
  have hf2 := hd.2.2.1
  have hno : (¬ (d.ok ∧ Dk.wrOk d.sh.length (a, b) ∧ d.wr.length < 500)) → ∀ H : Hp, EndQ 0 H (.tu [.ag [.nul, .nul], Bo false]) (fun r out => r = .tu [(d.write a b).1.ow, Bo (d.write a b).2] ∧ out = (d.write a b).1.obs.map some) := fun hk H => by
    rw [show d.write a b = (⟨[], []⟩, false) from if_neg hk]
    exact endQ_of [(1, 0), (2, 0)] (.tu [.ag [.sl 1 0, .sl 2 0], Bo false]) [some (.rw 155 1 []), some (.rw 90 2 [])] (by rfl) (vc trivial) (vc trivial) ⟨rfl, rfl⟩
  refine callOk_z (np := 0) {} mixed Try.func16 (by rfl) Try.ntmps16 Try.results16 (by rfl) (Nat.le_of_ble_eq_true rfl) rfl rfl rfl (vc ?_)
  refine callq_of false [] (implDiskOk_ok d hd) rfl trivial (by unfold Dk.rd; exact vc trivial) ?_
  rintro r out ⟨rfl, rfl⟩
  refine ⟨by simp, by simp, by simp, vc ?_⟩
  refine brB_intro (fun h => ?_) (fun h => ?_)
  · exact hno (fun e => by rw [tf_true e.1] at h; simp at h) _
  have hok : d.ok := by
    by_cases e : d.ok
    · exact e
    · rw [tf_false e] at h; simp at h
  rw [w64 _ (by omega)]
  refine callq_of false [] (within_ok a 0 (d.sh.length - 1)) rfl trivial (vc trivial) ?_
  rintro r out ⟨rfl, rfl⟩
  refine ⟨by simp, by simp, by simp, vc ?_⟩
  refine brB_intro (fun h => ?_) (fun h => ?_)
  · exact hno (fun e => by have := e.2.1.1; simp at h this; omega) _
  have h1 : 0 ≤ a ∧ a < d.sh.length := by simp at h; omega
  refine brB_intro (fun h => ?_) (fun h => ?_)
  · exact hno (fun e => by have := e.2.1.2; simp at h this; omega) _
  have h2 : b.length = 512 := by simp at h; omega
  refine brB_intro (fun h => ?_) (fun h => ?_)
  · exact hno (fun e => by have := e.2.2; simp at h; omega) _
  have h3 : d.wr.length < 500 := by have := hok.1; simp at h; omega
  rw [show d.write a b = (⟨d.sh, d.wr ++ [(a, b)]⟩, true) from if_pos ⟨hok, ⟨h1, h2⟩, h3⟩]
  refine callq_of false [] (copyDisk_ok d hd) rfl trivial (by unfold Dk.rd; exact vc trivial) ?_
  rintro r out ⟨rfl, rfl⟩
  refine ⟨by simp, by simp [Dk.obs], by simp, ?_⟩
  unfold Dk.ow Dk.obs
  refine vc ?_
  refine drawQ_of false (by rfl) (by simp) (vc ?_)
  refine calld_of [] false [] (copyBytes_ok b hb) rfl trivial (vc trivial) (by rfl) ⟨_, _, rfl, rfl⟩ ?_
  rintro r out ⟨rfl, rfl⟩
  refine ⟨by simp, by simp, by simp, vc ?_⟩
  repeat refine ⟨rfl, ?_⟩
  refine ⟨⟨by simp, by unfold maxLen; omega, by omega⟩, ?_⟩
  repeat refine ⟨rfl, ?_⟩
  rw [show d.wr.map (wrC true) ++ [[CV.v (.int .i64 a), CV.row true (eB b)]] = (d.wr ++ [(a, b)]).map (wrC true) by simp [wrC]]
  refine endQ_of [(1, 217), (2, 297)] (.tu [.ag [.sl 1 d.sh.length, .sl 2 (d.wr ++ [(a, b)]).length], Bo true]) [some (.rw 155 1 (d.sh.map (shC true))), some (.rw 90 2 ((d.wr ++ [(a, b)]).map (wrC true)))] (by rfl) (vc ?_) (vc trivial) ⟨rfl, rfl⟩
  simp
theorem sumL_app {α : Type} (f : α → Nat) (a b : List α) : sumL f (a ++ b) = sumL f a + sumL f b := by simp [sumL]
theorem Dk.cnt_eq (d : Dk) : d.cnt = sumL List.length d.sh + (sumL (fun x => x.2.length) d.wr + d.wr.length) := by
  have : ∀ l : List (Int × List UInt8), sumL cntW l = sumL (fun x => x.2.length) l + l.length := by
    intro l
    induction l with
    | nil => rfl
    | cons x r ih => simp only [sumL_cons, ih, cntW, List.length_cons]; omega
  rw [Dk.cnt, this]
theorem Dk.write_size (d : Dk) (a : Int) (b : List UInt8) : (d.write a b).1.size ≤ d.size + b.length + 1 := by
  unfold Dk.write
  split
  · simp only [Dk.size, sumL_app, List.length_append, sumL_cons, sumL_nil, List.length_cons, List.length_nil]; omega
  · simp [Dk.size, sumL_nil]
theorem Dk.cnt_le (d : Dk) : d.cnt ≤ d.size := by rw [d.cnt_eq, Dk.size]; omega
theorem Dk.lens (d : Dk) : d.sh.length ≤ d.size ∧ d.wr.length ≤ d.size := by unfold Dk.size; omega
theorem rs_ow (d : Dk) {m : Nat} (h : 2 ≤ m) : Rs true m d.ow := .ag _ (by intro c hc; simp at hc; rcases hc with rfl | rfl; exact .sl 1 _ (by omega) (by omega); exact .sl 2 _ (by omega) h)
theorem rso_ow (d : Dk) {m : Nat} : ∀ ob, some ob ∈ d.obs.map some → RsOb true m ob := by
  intro ob h
  simp [Dk.obs] at h
  rcases h with rfl | rfl
  · exact .inr (own_sh _)
  · exact .inr (own_wr _)
end Go.Proofs.Ytnnmpdanfeejbaa.Abs

/- The program's functions on pairs: their contracts. -/
namespace Go.Proofs.Ytnnmpdanfeejbaa.Abs
open Go Go.Proofs
set_option maxRecDepth 10000
set_option linter.unusedVariables false
set_option linter.unusedSimpArgs false
theorem implKeyOk_ok (k : ByteArray) (hk : k.size ≤ 2^60) : CallOk Try.prog 140 [] [.c (.v (.string k))] (fun r out => r = Bo (tf (keyOk k)) ∧ out = []) := by
  refine callOk_z (np := 0) {} mixed Try.func140 (by rfl) Try.ntmps140 Try.results140 (by rfl) (Nat.le_of_ble_eq_true rfl) rfl rfl rfl (vc ?_)
  refine callq_of false [] (within_ok k.size 1 16) rfl trivial (vc trivial) ?_
  rintro r out ⟨rfl, rfl⟩
  refine ⟨by simp, by simp, by simp, vc ?_⟩
  refine EndQ.closed (.v _) ⟨?_, rfl⟩
  by_cases h : keyOk k
  · rw [tf_true h]; have := h.1; have := h.2; simp; omega
  · rw [tf_false h]; unfold keyOk at h; simp; omega
theorem implValOk_ok (k : ByteArray) : CallOk Try.prog 141 [] [.c (.v (.string k))] (fun r out => r = Bo (tf (valOk k)) ∧ out = []) := by
  refine callOk_z (np := 0) {} mixed Try.func141 (by rfl) Try.ntmps141 Try.results141 (by rfl) (Nat.le_of_ble_eq_true rfl) rfl rfl rfl (vc ?_)
  refine EndQ.closed (.v _) ⟨?_, rfl⟩
  by_cases h2 : k.size ≤ 60
  · rw [tf_true (show valOk k from h2)]; simp; omega
  · rw [tf_false (show ¬ valOk k from h2)]; simp; omega
theorem pairOk_ok (p : Pr) (hk : p.k.size ≤ 2^60) : CallOk Try.prog 164 [] [.ag [.c (.v (.string p.k)), .c (.v (.string p.v))]] (fun r out => r = Bo (tf (keyOk p.k ∧ valOk p.v)) ∧ out = []) := by
  refine callOk_z (np := 0) {} mixed Try.func164 (by rfl) Try.ntmps164 Try.results164 (by rfl) (Nat.le_of_ble_eq_true rfl) rfl rfl rfl (vc ?_)
  refine callq_of false [] (implKeyOk_ok p.k hk) rfl trivial (vc trivial) ?_
  rintro r out ⟨rfl, rfl⟩
  refine ⟨by simp, by simp, by simp, vc ?_⟩
  refine brB_intro (fun h => ?_) (fun h => ?_)
  · have h1 : keyOk p.k := by
      by_cases e : keyOk p.k
      · exact e
      · rw [tf_false e] at h; cases h
    refine callq_of false [] (implValOk_ok p.v) rfl trivial (vc trivial) ?_
    rintro r out ⟨rfl, rfl⟩
    refine ⟨by simp, by simp, by simp, vc ?_⟩
    refine EndQ.closed (.v _) ⟨?_, rfl⟩
    by_cases e : valOk p.v
    · rw [tf_true e, tf_true ⟨h1, e⟩]
    · rw [tf_false e, tf_false (fun x => e x.2)]
  · refine EndQ.closed (.v _) ⟨?_, rfl⟩
    rw [tf_false (fun x => by rw [tf_true x.1] at h; cases h)]
def riseOk (l : List Pr) : Prop := (∀ p ∈ l, keyOk p.k ∧ valOk p.v) ∧ ∀ i (p q : Pr), l[i]? = some p → l[i + 1]? = some q → ltB p.k q.k = true
theorem pairsOk_iff (l : List Pr) : pairsOk l ↔ riseOk l ∧ l.length ≤ 200 := by
  unfold pairsOk riseOk
  exact ⟨fun h => ⟨h.2, h.1⟩, fun h => ⟨h.2, h.1⟩⟩
theorem rise_ok (l : List Pr) (hl : l.length ≤ 2^40) (hk : ∀ p ∈ l, p.k.size ≤ 2^60) : CallOk Try.prog 153 [] [Rw (l.map prC)] (fun r out => r = Bo (tf (riseOk l)) ∧ out = []) := by
  refine callOk_z (np := 0) {} mixed Try.func153 (by rfl) Try.ntmps153 Try.results153 (by rfl) (Nat.le_of_ble_eq_true rfl) rfl rfl rfl (vc ?_)
  have hbad : ∀ H : Hp, ¬ riseOk l → EndQ 0 H (Bo false) (fun r out => r = Bo (tf (riseOk l)) ∧ out = []) := fun H e => EndQ.closed (.v _) ⟨by rw [tf_false e], rfl⟩
  refine loopQ_of (fun i => [(0, Rw (l.map prC)), (5, Rw (l.map prC)), (6, In l.length), (7, In (i : Nat))]) (fun i => []) 1 (fun i => l.length - i) (fun i => i ≤ l.length ∧ (∀ p ∈ l.take i, keyOk p.k ∧ valOk p.v) ∧ ∀ j (p q : Pr), j + 1 < i → l[j]? = some p → l[j + 1]? = some q → ltB p.k q.k = true) 0 ⟨Nat.zero_le _, by simp, by simp⟩ [] (by rfl) (vc trivial) (vc trivial) (fun i hi N hN => vc (brB_intro (fun h => ?_) (fun h => ?_)))
  · have h : i < l.length := by simpa using h
    have hx := List.getElem?_eq_getElem h
    have hm := List.getElem_mem h
    rw [get_map hx, prC]
    refine vc ?_
    refine drawQ_of false (by rfl) (by simp) (vc ?_)
    refine calld_of [] false [] (pairOk_ok l[i] (hk _ hm)) rfl trivial (vc trivial) (by rfl) ⟨_, _, rfl, rfl⟩ ?_
    rintro r out ⟨rfl, rfl⟩
    refine ⟨by simp, by simp, by simp, vc ?_⟩
    refine brB_intro (fun h1 => hbad _ (fun e => ?_)) (fun h1 => ?_)
    · have := e.1 _ hm
      rw [tf_true this] at h1; cases h1
    have h1 : keyOk l[i].k ∧ valOk l[i].v := by
      by_cases e : keyOk l[i].k ∧ valOk l[i].v
      · exact e
      · rw [tf_false e] at h1; cases h1
    have hall : ∀ p ∈ l.take (i + 1), keyOk p.k ∧ valOk p.v := fun p hp => by
      rw [List.take_add_one, hx] at hp
      rcases List.mem_append.1 hp with hp | hp
      · exact hi.2.1 p hp
      · simp at hp; rw [hp]; exact h1
    refine brB_intro (fun h3 => ?_) (fun h3 => ?_)
    · rw [w64 _ (by omega)]
      have h3 : 0 < i := by simpa using h3
      obtain ⟨k, rfl⟩ : ∃ k, i = k + 1 := ⟨i - 1, by omega⟩
      rw [show (((k + 1 : Nat) : Int) - 1) = ((k : Nat) : Int) by omega]
      have hy := List.getElem?_eq_getElem (show k < l.length by omega)
      refine vc ?_
      rw [get_map hy, prC]
      refine vc ?_
      refine brB_intro (fun h4 => hbad _ (fun e => ?_)) (fun h4 => ?_)
      · have := e.2 k _ _ hy hx
        unfold ltB at this
        rw [this] at h4; cases h4
      have h4 : ltB l[k].k l[k + 1].k = true := by unfold ltB; simpa using h4
      refine hN _ (k + 2) [] ⟨h, hall, fun j p q hj hp hq => ?_⟩ (by omega) (by rfl) (vc ?_) (vc trivial)
      · by_cases e : j = k
        · subst e
          rw [hy] at hp
          rw [hx] at hq
          cases hp; cases hq; exact h4
        · exact hi.2.2 j p q (by omega) hp hq
      · rw [w64 _ (by omega)]; simp; omega
    · have h3 : i = 0 := by simp at h3; omega
      subst h3
      refine hN _ 1 [] ⟨h, hall, fun j p q hj => by omega⟩ (by omega) (by rfl) (vc ?_) (vc trivial)
      rw [w64 _ (by omega)]; simp
  · have h : i = l.length := by have := hi.1; simp at h; omega
    subst h
    refine EndQ.closed (.v _) ⟨?_, rfl⟩
    rw [tf_true ⟨by have := hi.2.1; rwa [List.take_length] at this, fun j p q h1 h2 => hi.2.2 j p q (List.getElem?_eq_some_iff.1 h2).1 h1 h2⟩]
theorem implPairsOk_ok (l : List Pr) (hl : l.length ≤ 2^40) (hk : ∀ p ∈ l, p.k.size ≤ 2^60) : CallOk Try.prog 131 [] [Rw (l.map prC)] (fun r out => r = Bo (tf (pairsOk l)) ∧ out = []) := by
  refine callOk_z (np := 0) {} mixed Try.func131 (by rfl) Try.ntmps131 Try.results131 (by rfl) (Nat.le_of_ble_eq_true rfl) rfl rfl rfl (vc ?_)
  refine callq_of false [] (rise_ok l hl hk) rfl trivial (vc trivial) ?_
  rintro r out ⟨rfl, rfl⟩
  refine ⟨by simp, by simp, by simp, vc ?_⟩
  refine brB_intro (fun h => EndQ.closed (.v _) ⟨?_, rfl⟩) (fun h => EndQ.closed (.v _) ⟨?_, rfl⟩)
  · have h1 : riseOk l := by
      by_cases e : riseOk l
      · exact e
      · rw [tf_false e] at h; cases h
    by_cases e : l.length ≤ 200
    · rw [tf_true ((pairsOk_iff l).2 ⟨h1, e⟩)]; simp; omega
    · rw [tf_false (fun x => e ((pairsOk_iff l).1 x).2)]; simp; omega
  · rw [tf_false (fun x => by rw [tf_true ((pairsOk_iff l).1 x).1] at h; cases h)]
theorem copyPairs_ok (l : List Pr) (hl : l.length ≤ 2^40) : CallOk Try.prog 151 [] [Rw (l.map prC)] (fun r out => r = .sl 1 l.length ∧ out = [some (.rw 133 2 (l.map prC))]) := by
  refine callOk_z (np := 0) {} mixed Try.func151 (by rfl) Try.ntmps151 Try.results151 (by rfl) (Nat.le_of_ble_eq_true rfl) rfl rfl rfl (vc ?_)
  refine ⟨⟨by unfold maxLen; omega, by omega⟩, ?_⟩
  exact endQ_of [(1, 17)] (.sl 1 l.length) [some (.rw 133 2 (l.map prC))] (by rfl) (vc trivial) (vc trivial) ⟨rfl, rfl⟩
end Go.Proofs.Ytnnmpdanfeejbaa.Abs

/- The reference: one node or another; trees laid out. -/
namespace Go.Proofs.Ytnnmpdanfeejbaa.Abs
open Go Go.Proofs
set_option maxRecDepth 10000
set_option linter.unusedVariables false
set_option linter.unusedSimpArgs false
/-- A node, handed over to be read. -/
def Nd.rd (n : Nd) : AV := .ag [Rw (n.ps.map prC), Rw (n.ks.map stC), Rw (n.cs.map inC)]
def Nd.le (n : Nd) (b : Nat) : Prop := n.ps.length ≤ b ∧ n.ks.length ≤ b ∧ n.cs.length ≤ b
theorem ba_ext {a b : ByteArray} (h : a.toList = b.toList) : a = b := by
  refine (ba_ne a b).1 ?_
  rw [h]; simp
theorem pr_ext {p q : Pr} (h1 : p.k = q.k) (h2 : p.v = q.v) : p = q := by
  cases p; cases q; simp at h1 h2; rw [h1, h2]
theorem sameNode_ok (a b : Nd) (ha : a.le (2^40)) (hb : b.le (2^40)) : CallOk Try.prog 91 [] [a.rd, b.rd] (fun r out => r = Bo (decide (a = b)) ∧ out = []) := by
  obtain ⟨p1, k1, c1⟩ := a
  obtain ⟨p2, k2, c2⟩ := b
  obtain ⟨a1, a2, a3⟩ := ha
  obtain ⟨b1, b2, b3⟩ := hb
  simp only at a1 a2 a3 b1 b2 b3
  unfold Nd.rd
  refine callOk_z (np := 0) {} mixed Try.func91 (by rfl) Try.ntmps91 Try.results91 (by rfl) (Nat.le_of_ble_eq_true rfl) rfl rfl rfl (vc ?_)
  have hno : ∀ H : Hp, (p1 ≠ p2 ∨ k1 ≠ k2 ∨ c1 ≠ c2) → EndQ 0 H (Bo false) (fun r out => r = Bo (decide (Nd.mk p1 k1 c1 = Nd.mk p2 k2 c2)) ∧ out = []) := fun H e => EndQ.closed (.v _) ⟨by
    rw [decide_eq_false]
    intro e2
    cases e2
    simp at e, rfl⟩
  refine brB_intro (fun h => hno _ (.inl (fun e => by subst e; simp at h))) (fun h1 => brB_intro (fun h => hno _ (.inr (.inl (fun e => by subst e; simp at h)))) (fun h2 => brB_intro (fun h => hno _ (.inr (.inr (fun e => by subst e; simp at h)))) (fun h3 => ?_)))
  have h1 : p1.length = p2.length := by simp at h1; omega
  have h2 : k1.length = k2.length := by simp at h2; omega
  have h3 : c1.length = c2.length := by simp at h3; omega
  refine loopQ_of (fun i => [(2, .pt 1 0 0), (3, .pt 2 0 0), (35, In p1.length), (36, In (i : Nat))]) (fun i => [(1, .box 125 [Rw (p1.map prC), Rw (k1.map stC), Rw (c1.map inC)]), (2, .box 125 [Rw (p2.map prC), Rw (k2.map stC), Rw (c2.map inC)])]) 3 (fun i => p1.length - i) (fun i => i ≤ p1.length ∧ p1.take i = p2.take i) 0 ⟨Nat.zero_le _, rfl⟩ [(2, 9)] (by rfl) (vc trivial) (vc trivial) (fun i hi N hN => vc (brB_intro (fun h => ?_) (fun h => ?_)))
  · have h : i < p1.length := by simpa using h
    have hx := List.getElem?_eq_getElem h
    have hy := List.getElem?_eq_getElem (show i < p2.length by omega)
    refine drawQ_of false (by rfl) (by simp) (vc ?_)
    rw [get_map hx, prC]
    refine vc ?_
    rw [get_map hy, prC]
    refine vc ?_
    refine brB_intro (fun hb => ?_) (fun hb => ?_)
    · refine hno _ (.inl (fun e => ?_))
      have : p1[i] = p2[i] := by subst e; rfl
      rw [this] at hb; simp at hb
    · have hb : p1[i] = p2[i] := by
        simp only [Bool.not_eq_false', Bool.and_eq_true, beq_iff_eq] at hb
        exact pr_ext (ba_ext hb.1) (ba_ext hb.2)
      refine hN _ (i + 1) [(2, 2)] ⟨h, take_next hi.2 hx hy hb⟩ (by omega) (by rfl) (vc ?_) (vc trivial)
      rw [w64 _ (by omega)]; simp
  · have h : i = p1.length := by simp at h; omega
    have e1: p1 = p2 := by have := hi.2; rwa [h, List.take_length, show p1.length = p2.length by omega, List.take_length] at this
    refine loopQ_of (fun i => [(2, .pt 1 0 0), (3, .pt 2 0 0), (53, In k1.length), (54, In (i : Nat))]) (fun i => [(1, .box 125 [Rw (p1.map prC), Rw (k1.map stC), Rw (c1.map inC)]), (2, .box 125 [Rw (p2.map prC), Rw (k2.map stC), Rw (c2.map inC)])]) 3 (fun i => k1.length - i) (fun i => i ≤ k1.length ∧ k1.take i = k2.take i) 0 ⟨Nat.zero_le _, rfl⟩ [(2, 2)] (by rfl) (vc trivial) (vc trivial) (fun i hi N hN => vc (brB_intro (fun h => ?_) (fun h => ?_)))
    · have h : i < k1.length := by simpa using h
      have hx := List.getElem?_eq_getElem h
      have hy := List.getElem?_eq_getElem (show i < k2.length by omega)
      refine drawQ_of false (by rfl) (by simp) (vc ?_)
      rw [get_map hx, stC]
      refine vc ?_
      rw [get_map hy, stC]
      refine vc ?_
      refine brB_intro (fun hb => ?_) (fun hb => ?_)
      · refine hno _ (.inr <| .inl (fun e => ?_))
        have : k1[i] = k2[i] := by subst e; rfl
        rw [this] at hb; simp at hb
      · have hb : k1[i] = k2[i] := (ba_ne _ _).1 hb
        refine hN _ (i + 1) [(2, 2)] ⟨h, take_next hi.2 hx hy hb⟩ (by omega) (by rfl) (vc ?_) (vc trivial)
        rw [w64 _ (by omega)]; simp
    · have h : i = k1.length := by simp at h; omega
      have e2: k1 = k2 := by have := hi.2; rwa [h, List.take_length, show k1.length = k2.length by omega, List.take_length] at this
      refine loopQ_of (fun i => [(2, .pt 1 0 0), (3, .pt 2 0 0), (71, In c1.length), (72, In (i : Nat))]) (fun i => [(1, .box 125 [Rw (p1.map prC), Rw (k1.map stC), Rw (c1.map inC)]), (2, .box 125 [Rw (p2.map prC), Rw (k2.map stC), Rw (c2.map inC)])]) 3 (fun i => c1.length - i) (fun i => i ≤ c1.length ∧ c1.take i = c2.take i) 0 ⟨Nat.zero_le _, rfl⟩ [(2, 2)] (by rfl) (vc trivial) (vc trivial) (fun i hi N hN => vc (brB_intro (fun h => ?_) (fun h => ?_)))
      · have h : i < c1.length := by simpa using h
        have hx := List.getElem?_eq_getElem h
        have hy := List.getElem?_eq_getElem (show i < c2.length by omega)
        refine drawQ_of false (by rfl) (by simp) (vc ?_)
        rw [get_map hx, inC]
        refine vc ?_
        rw [get_map hy, inC]
        refine vc ?_
        refine brB_intro (fun hb => ?_) (fun hb => ?_)
        · refine hno _ (.inr <| .inr (fun e => ?_))
          have : c1[i] = c2[i] := by subst e; rfl
          rw [this] at hb; simp at hb
        · have hb : c1[i] = c2[i] := by simpa using hb
          refine hN _ (i + 1) [(2, 2)] ⟨h, take_next hi.2 hx hy hb⟩ (by omega) (by rfl) (vc ?_) (vc trivial)
          rw [w64 _ (by omega)]; simp
      · have h : i = c1.length := by simp at h; omega
        have e3: c1 = c2 := by have := hi.2; rwa [h, List.take_length, show c1.length = c2.length by omega, List.take_length] at this
        refine EndQ.closed (.v _) ⟨?_, rfl⟩
        subst e1 e2 e3
        simp
end Go.Proofs.Ytnnmpdanfeejbaa.Abs

/- The reference: trees laid out. -/
namespace Go.Proofs.Ytnnmpdanfeejbaa.Abs
open Go Go.Proofs
set_option maxRecDepth 10000
set_option linter.unusedVariables false
set_option linter.unusedSimpArgs false
theorem Sub.leasts_eq : ∀ l : List Sub, Sub.leasts l = l.map Sub.least
  | [] => by rw [Sub.leasts]; rfl
  | x :: r => by rw [Sub.leasts, Sub.leasts_eq r]; rfl
theorem Sub.layL_app : ∀ (l m : List Sub) (a : Nat), Sub.layL a (l ++ m) = Sub.layL a l ++ Sub.layL (a + (Sub.layL a l).length) m
  | [], m, a => by rw [Sub.layL]; rfl
  | x :: r, m, a => by
    rw [List.cons_append, Sub.layL, Sub.layL, Sub.layL_app r m, List.append_assoc, List.length_append]
    rw [show a + (x.lay a).length + (Sub.layL (a + (x.lay a).length) r).length = a + ((x.lay a).length + (Sub.layL (a + (x.lay a).length) r).length) by omega]
theorem Sub.plcs_app : ∀ (l m : List Sub) (a : Nat), Sub.plcs a (l ++ m) = Sub.plcs a l ++ Sub.plcs (a + (Sub.layL a l).length) m
  | [], m, a => by rw [Sub.plcs, Sub.layL]; rfl
  | x :: r, m, a => by
    rw [List.cons_append, Sub.plcs, Sub.plcs, Sub.plcs_app r m, Sub.layL, List.length_append]
    rw [show a + (x.lay a).length + (Sub.layL (a + (x.lay a).length) r).length = a + ((x.lay a).length + (Sub.layL (a + (x.lay a).length) r).length) by omega]
    rfl
theorem Sub.plcs_len : ∀ (l : List Sub) (a : Nat), (Sub.plcs a l).length = l.length
  | [], a => by rw [Sub.plcs]; rfl
  | x :: r, a => by rw [Sub.plcs, List.length_cons, Sub.plcs_len r]; rfl
theorem Sub.layL_next {l : List Sub} {i : Nat} {x : Sub} (h : l[i]? = some x) (a : Nat) : Sub.layL a (l.take (i + 1)) = Sub.layL a (l.take i) ++ x.lay (a + (Sub.layL a (l.take i)).length) := by
  rw [List.take_add_one, h, Sub.layL_app]
  simp [Sub.layL]
theorem Sub.plcs_next {l : List Sub} {i : Nat} {x : Sub} (h : l[i]? = some x) (a : Nat) : Sub.plcs a (l.take (i + 1)) = Sub.plcs a (l.take i) ++ [((a + (Sub.layL a (l.take i)).length : Nat) : Int)] := by
  rw [List.take_add_one, h, Sub.plcs_app]
  simp [Sub.plcs]
mutual
theorem Sub.lay_len : ∀ (s : Sub) (a : Nat), 1 ≤ (s.lay a).length ∧ (s.lay a).length ≤ s.sz
  | .mk l ps ks, a => by
    rw [Sub.lay, Sub.sz]
    have := Sub.layL_len ks (a + 1)
    split
    · simp
    · rw [List.length_cons]; omega
theorem Sub.layL_len : ∀ (l : List Sub) (a : Nat), (Sub.layL a l).length ≤ Sub.szL l
  | [], a => by rw [Sub.layL, Sub.szL]; exact Nat.le_refl _
  | x :: r, a => by
    have h1 := (Sub.lay_len x a).2
    have h2 := Sub.layL_len r (a + (x.lay a).length)
    rw [Sub.layL, Sub.szL, List.length_append]; omega
end
theorem Sub.szL_take (l : List Sub) (i : Nat) : Sub.szL (l.take i) ≤ Sub.szL l := by
  induction l generalizing i with
  | nil => simp
  | cons x r ih =>
    cases i with
    | zero => simp [Sub.szL]
    | succ i => have := ih i; rw [List.take_succ_cons, Sub.szL, Sub.szL]; omega
theorem Sub.pairsL_mem {x : Sub} : ∀ {l : List Sub}, x ∈ l → x.pairs.length ≤ (Sub.pairsL l).length
  | y :: r, h => by
    rw [Sub.pairsL, List.length_append]
    rcases List.mem_cons.1 h with rfl | h
    · omega
    · have := Sub.pairsL_mem h; omega
theorem Sub.szL_split {l : List Sub} {i : Nat} {x : Sub} (h : l[i]? = some x) : Sub.szL (l.take i) + x.sz ≤ Sub.szL l := by
  induction l generalizing i with
  | nil => simp at h
  | cons y r ih =>
    cases i with
    | zero => cases h; simp [Sub.szL]
    | succ i => have := ih h; rw [List.take_succ_cons, Sub.szL, Sub.szL]; omega
def nd0 : Nd := ⟨[], [], []⟩
theorem set_last {α : Type} (l m : List α) (x y : α) (n : Nat) (h : n = l.length) : (l ++ x :: m).set n y = l ++ y :: m := by
  subst h
  rw [List.set_append, if_neg (by omega), Nat.sub_self]; rfl
theorem get_last {α : Type} (l m : List α) (x : α) (n : Nat) (h : n = l.length) : (l ++ x :: m)[n]? = some x := by
  subst h
  rw [List.getElem?_append_right (Nat.le_refl _), Nat.sub_self]; rfl
/-- What a laid list comes to. -/
def layT (pre : List Nd) (s : Sub) : List Nd := pre ++ s.lay pre.length
theorem lay_ok : ∀ (n : Nat) (s : Sub) (pre : List Nd), s.sz ≤ n → pre.length + s.sz ≤ 2^40 → s.pairs.length ≤ 2^40 → CallOk Try.prog 90 [.rw 125 3 (pre.map (ndC true))] [.sl 1 pre.length, s.rd] (fun r out => r = .sl 2 (layT pre s).length ∧ out = [none, some (.rw 125 3 ((layT pre s).map (ndC true)))]) := by
  intro n
  induction n with
  | zero => intro s pre hs; cases s; rw [Sub.sz] at hs; omega
  | succ n ih =>
    intro s pre hs hk hp
    unfold Sub.rd
    have hkl := s.ks_len
    have hll := s.lay_len pre.length
    have hpl : s.ps.length ≤ 2^40 := by rw [Sub.pairs_eq, List.length_append] at hp; omega
    refine callOk_z (np := 1) { js := [13] } mixed Try.func90 (by rfl) Try.ntmps90 Try.results90 (by rfl) (Nat.le_of_ble_eq_true rfl) rfl rfl rfl (vc ?_)
    refine ⟨⟨by simp, by unfold maxLen; omega, by omega⟩, brB_intro (fun h => ⟨⟨by unfold maxLen; omega, by omega⟩, ⟨by omega, by simp⟩, ?_⟩) (fun h => ?_)⟩
    · rw [get_last _ _ _ _ (by simp)]
      refine vc ?_
      rw [set_last _ _ _ _ _ (by simp)]
      refine endQ_of [(2, 66)] (.sl 2 (layT pre s).length) [none, some (.rw 125 3 ((layT pre s).map (ndC true)))] (by rfl) (vc ?_) (vc ?_) ⟨rfl, rfl⟩
      · unfold layT; rw [Sub.lay_eq, if_pos h]; simp
      · unfold layT; rw [Sub.lay_eq, if_pos h]; simp [ndC]
    have h1 : s.leaf = false := h
    have h1 : s.leaf = false := h
    have hkp : ∀ x ∈ s.ks, x.pairs.length ≤ 2^40 := fun x hx => by
      have := Sub.pairsL_mem hx
      rw [Sub.pairs_eq, List.length_append] at hp
      omega
    have hsz : s.sz = 1 + Sub.szL s.ks := by cases s; rw [Sub.sz]; rfl
    refine loopQ_of (fun i => [(0, .sl 3 (pre ++ nd0 :: Sub.layL (pre.length + 1) (s.ks.take i)).length), (3, .pt 2 0 0), (5, In pre.length), (6, .pt 4 0 0), (28, In s.ks.length), (29, In (i : Nat))]) (fun i => [(2, .box 115 [Bo s.leaf, Rw (s.ps.map prC), Rw (s.ks.map (suC false))]), (3, .rw 125 3 ((pre ++ nd0 :: Sub.layL (pre.length + 1) (s.ks.take i)).map (ndC true))), (4, .box 125 [.nul, .sl 5 ((Sub.leasts (s.ks.take i)).drop 1).length, .sl 6 i]), (5, .rw 9 1 (((Sub.leasts (s.ks.take i)).drop 1).map stC)), (6, .rw 3 1 ((Sub.plcs (pre.length + 1) (s.ks.take i)).map inC))]) 7 (fun i => s.ks.length - i) (fun i => i ≤ s.ks.length) 0 (Nat.zero_le _) [(3, 66), (4, 106), (5, 0), (6, 0)] (by rfl) (vc ?_) (vc ?_) (fun i hi N hN => vc (brB_intro (fun h => ?_) (fun h => ?_)))
    · simp [Sub.layL]
    · simp [Sub.layL, Sub.leasts, Sub.plcs, nd0, ndC]
    · have h : i < s.ks.length := by simpa using h
      have hx := List.getElem?_eq_getElem h
      have hm := List.getElem_mem h
      have hnx := Sub.layL_next hx (pre.length + 1)
      have hpn := Sub.plcs_next hx (pre.length + 1)
      have hss := Sub.szL_split hx
      have hl1 := Sub.layL_len (s.ks.take i) (pre.length + 1)
      have hpli : (Sub.plcs (pre.length + 1) (s.ks.take i)).length = i := by rw [Sub.plcs_len, List.length_take]; omega
      have hat : (pre ++ nd0 :: Sub.layL (pre.length + 1) (s.ks.take i)).length = pre.length + 1 + (Sub.layL (pre.length + 1) (s.ks.take i)).length := by simp; omega
      have hat0 : i = 0 → (pre ++ nd0 :: Sub.layL (pre.length + 1) (s.ks.take i)).length = pre.length + 1 := fun e => by subst e; simp [Sub.layL]
      have hlsi : (Sub.leasts (s.ks.take i)).length = i := by rw [Sub.leasts_eq, List.length_map, List.length_take]; omega
      refine ⟨⟨by omega, by unfold maxLen; omega, by omega⟩, ?_⟩
      refine joinQ_of (ι := Unit) (fun _ => [(0, .sl 3 (pre ++ nd0 :: Sub.layL (pre.length + 1) (s.ks.take i)).length), (3, .pt 2 0 0), (5, In pre.length), (6, .pt 4 0 0), (7, In (i : Nat)), (28, In s.ks.length), (29, In (i : Nat))]) (fun _ => [(2, .box 115 [Bo s.leaf, Rw (s.ps.map prC), Rw (s.ks.map (suC false))]), (3, .rw 125 3 ((pre ++ nd0 :: Sub.layL (pre.length + 1) (s.ks.take i)).map (ndC true))), (4, .box 125 [.nul, .sl 5 ((Sub.leasts (s.ks.take (i + 1))).drop 1).length, .sl 6 (i + 1)]), (5, .rw 9 1 (((Sub.leasts (s.ks.take (i + 1))).drop 1).map stC)), (6, .rw 3 1 ((Sub.plcs (pre.length + 1) (s.ks.take (i + 1))).map inC))]) 7 (fun _ => True) (fun M hM => vc (brB_intro (fun h0 => ?_) (fun h0 => ?_))) (fun _ _ => vc ?_)
      · have h0 : 0 < i := by simpa using h0
        refine drawQ_of false (by rfl) (by simp) (vc ?_)
        rw [get_map hx, suC_eq]
        refine vc ?_
        have hc := least_ok s.ks[i].sz s.ks[i] (Nat.le_refl _)
        unfold Sub.rd at hc
        refine calld_of [] false [] hc rfl trivial (vc trivial) (by rfl) ⟨_, _, rfl, rfl⟩ ?_
        rintro r out ⟨rfl, rfl⟩
        refine ⟨by simp, by simp, by simp, vc ?_⟩
        refine ⟨⟨by unfold maxLen; simp; omega, by simp; omega⟩, ?_⟩
        have hln : (Sub.leasts (s.ks.take (i + 1))).drop 1 = (Sub.leasts (s.ks.take i)).drop 1 ++ [s.ks[i].least] := by
          rw [List.take_add_one, hx, Sub.leasts_eq, Sub.leasts_eq, List.map_append, List.drop_append_of_le_length (by simp; omega)]; rfl
        repeat refine ⟨rfl, ?_⟩
        refine hM _ () [(6, 71), (5, 183)] trivial (by rfl) (vc trivial) (vc ?_)
        rw [hln, hpn]
        simp [stC, inC, hlsi, hpli, hat, show i - 1 + 1 = i by omega]
      · have h0 : i = 0 := by simp at h0; omega
        subst h0
        refine hM _ () [(6, 71)] trivial (by rfl) (vc trivial) (vc ?_)
        have hln : (Sub.leasts (s.ks.take 1)).drop 1 = [] := by
          rw [List.drop_eq_nil_iff, Sub.leasts_eq, List.length_map, List.length_take]; omega
        have hl0 : Sub.leasts [] = [] := by rw [Sub.leasts]
        rw [hln, hpn, hl0]
        simp [stC, inC, hat0, Sub.plcs, Sub.layL]
      · rw [get_map hx, suC_eq]
        refine vc ?_
        have hc := ih s.ks[i] (pre ++ nd0 :: Sub.layL (pre.length + 1) (s.ks.take i)) (by have := Sub.sz_kid hm; omega) (by simp; omega) (hkp _ hm)
        unfold Sub.rd at hc
        refine callq_of false [3] hc rfl (vc trivial) (vc trivial) ?_
        rintro r out ⟨rfl, rfl⟩
        refine ⟨by simp, by simp, by simp, vc ?_⟩
        refine hN _ (i + 1) [(3, 55)] h (by omega) (by rfl) (vc ?_) (vc ?_)
        · rw [w64 _ (by omega), hnx]; unfold layT; rw [hat]; simp
        · rw [hnx]; unfold layT; rw [hat]; simp
    · have h : i = s.ks.length := by simp at h; omega
      subst h
      rw [List.take_length]
      have hsl : (((pre ++ nd0 :: Sub.layL (pre.length + 1) s.ks).map (ndC true)).set pre.length (ndC true ⟨[], (Sub.leasts s.ks).drop 1, Sub.plcs (pre.length + 1) s.ks⟩)) = (layT pre s).map (ndC true) := by
        rw [List.map_append, List.map_cons, set_last _ _ _ _ _ (by simp)]
        unfold layT
        rw [Sub.lay_eq, if_neg (by simp [h1]), List.map_append, List.map_cons]
      have hll : (layT pre s).length = (pre ++ nd0 :: Sub.layL (pre.length + 1) s.ks).length := by
        unfold layT
        rw [Sub.lay_eq, if_neg (by simp [h1])]; simp
      refine ⟨by simp, ?_⟩
      rw [if_pos (Sub.plcs_len _ _).symm, get_map (get_last _ _ _ _ rfl), ndC]
      refine vc ?_
      refine endQ_of [(2, 3)] (.sl 2 (layT pre s).length) [none, some (.rw 125 3 ((layT pre s).map (ndC true)))] (by rfl) (vc ?_) (vc ?_) ⟨rfl, rfl⟩
      · exact hll.symm
      · rw [← hsl]; rfl
theorem lay0_ok (s : Sub) (hk : s.sz ≤ 2^40) (hp : s.pairs.length ≤ 2^40) : CallOk Try.prog 90 [] [.nul, s.rd] (fun r out => r = .sl 1 (layT [] s).length ∧ out = [some (.rw 125 3 ((layT [] s).map (ndC true)))]) := by
    unfold Sub.rd
    have hkl := s.ks_len
    have hll := s.lay_len 0
    have hpl : s.ps.length ≤ 2^40 := by rw [Sub.pairs_eq, List.length_append] at hp; omega
    refine callOk_z (np := 0) { js := [13] } mixed Try.func90 (by rfl) Try.ntmps90 Try.results90 (by rfl) (Nat.le_of_ble_eq_true rfl) rfl rfl rfl (vc ?_)
    refine ⟨by unfold maxLen; omega, brB_intro (fun h => ⟨⟨by unfold maxLen; omega, by omega⟩, ?_⟩) (fun h => ?_)⟩
    · rw [List.set_cons_zero]
      refine endQ_of [(1, 65)] (.sl 1 (layT [] s).length) [some (.rw 125 3 ((layT [] s).map (ndC true)))] (by rfl) (vc ?_) (vc ?_) ⟨rfl, rfl⟩
      · unfold layT; rw [Sub.lay_eq, if_pos h]; simp
      · unfold layT; rw [Sub.lay_eq, if_pos h]; simp [ndC]
    have h1 : s.leaf = false := h
    have h1 : s.leaf = false := h
    have hkp : ∀ x ∈ s.ks, x.pairs.length ≤ 2^40 := fun x hx => by
      have := Sub.pairsL_mem hx
      rw [Sub.pairs_eq, List.length_append] at hp
      omega
    have hsz : s.sz = 1 + Sub.szL s.ks := by cases s; rw [Sub.sz]; rfl
    refine loopQ_of (fun i => [(0, .sl 2 (nd0 :: Sub.layL 1 (s.ks.take i)).length), (3, .pt 1 0 0), (5, In 0), (6, .pt 3 0 0), (28, In s.ks.length), (29, In (i : Nat))]) (fun i => [(1, .box 115 [Bo s.leaf, Rw (s.ps.map prC), Rw (s.ks.map (suC false))]), (2, .rw 125 3 ((nd0 :: Sub.layL 1 (s.ks.take i)).map (ndC true))), (3, .box 125 [.nul, .sl 4 ((Sub.leasts (s.ks.take i)).drop 1).length, .sl 5 i]), (4, .rw 9 1 (((Sub.leasts (s.ks.take i)).drop 1).map stC)), (5, .rw 3 1 ((Sub.plcs 1 (s.ks.take i)).map inC))]) 6 (fun i => s.ks.length - i) (fun i => i ≤ s.ks.length) 0 (Nat.zero_le _) [(2, 65), (3, 105), (4, 0), (5, 0)] (by rfl) (vc ?_) (vc ?_) (fun i hi N hN => vc (brB_intro (fun h => ?_) (fun h => ?_)))
    · simp [Sub.layL]
    · simp [Sub.layL, Sub.leasts, Sub.plcs, nd0, ndC]
    · have h : i < s.ks.length := by simpa using h
      have hx := List.getElem?_eq_getElem h
      have hm := List.getElem_mem h
      have hnx := Sub.layL_next hx 1
      have hpn := Sub.plcs_next hx 1
      have hss := Sub.szL_split hx
      have hl1 := Sub.layL_len (s.ks.take i) 1
      have hpli : (Sub.plcs 1 (s.ks.take i)).length = i := by rw [Sub.plcs_len, List.length_take]; omega
      have hat : (nd0 :: Sub.layL 1 (s.ks.take i)).length = 0 + 1 + (Sub.layL 1 (s.ks.take i)).length := by simp; omega
      have hat0 : i = 0 → (nd0 :: Sub.layL 1 (s.ks.take i)).length = 0 + 1 := fun e => by subst e; simp [Sub.layL]
      have hlsi : (Sub.leasts (s.ks.take i)).length = i := by rw [Sub.leasts_eq, List.length_map, List.length_take]; omega
      refine ⟨⟨by omega, by unfold maxLen; omega, by omega⟩, ?_⟩
      refine joinQ_of (ι := Unit) (fun _ => [(0, .sl 2 (nd0 :: Sub.layL 1 (s.ks.take i)).length), (3, .pt 1 0 0), (5, In 0), (6, .pt 3 0 0), (7, In (i : Nat)), (28, In s.ks.length), (29, In (i : Nat))]) (fun _ => [(1, .box 115 [Bo s.leaf, Rw (s.ps.map prC), Rw (s.ks.map (suC false))]), (2, .rw 125 3 ((nd0 :: Sub.layL 1 (s.ks.take i)).map (ndC true))), (3, .box 125 [.nul, .sl 4 ((Sub.leasts (s.ks.take (i + 1))).drop 1).length, .sl 5 (i + 1)]), (4, .rw 9 1 (((Sub.leasts (s.ks.take (i + 1))).drop 1).map stC)), (5, .rw 3 1 ((Sub.plcs 1 (s.ks.take (i + 1))).map inC))]) 6 (fun _ => True) (fun M hM => vc (brB_intro (fun h0 => ?_) (fun h0 => ?_))) (fun _ _ => vc ?_)
      · have h0 : 0 < i := by simpa using h0
        refine drawQ_of false (by rfl) (by simp) (vc ?_)
        rw [get_map hx, suC_eq]
        refine vc ?_
        have hc := least_ok s.ks[i].sz s.ks[i] (Nat.le_refl _)
        unfold Sub.rd at hc
        refine calld_of [] false [] hc rfl trivial (vc trivial) (by rfl) ⟨_, _, rfl, rfl⟩ ?_
        rintro r out ⟨rfl, rfl⟩
        refine ⟨by simp, by simp, by simp, vc ?_⟩
        refine ⟨⟨by unfold maxLen; simp; omega, by simp; omega⟩, ?_⟩
        have hln : (Sub.leasts (s.ks.take (i + 1))).drop 1 = (Sub.leasts (s.ks.take i)).drop 1 ++ [s.ks[i].least] := by
          rw [List.take_add_one, hx, Sub.leasts_eq, Sub.leasts_eq, List.map_append, List.drop_append_of_le_length (by simp; omega)]; rfl
        repeat refine ⟨rfl, ?_⟩
        refine hM _ () [(5, 70), (4, 182)] trivial (by rfl) (vc trivial) (vc ?_)
        rw [hln, hpn]
        simp [stC, inC, hlsi, hpli, hat, show i - 1 + 1 = i by omega]; omega
      · have h0 : i = 0 := by simp at h0; omega
        subst h0
        refine hM _ () [(5, 70)] trivial (by rfl) (vc trivial) (vc ?_)
        have hln : (Sub.leasts (s.ks.take 1)).drop 1 = [] := by
          rw [List.drop_eq_nil_iff, Sub.leasts_eq, List.length_map, List.length_take]; omega
        have hl0 : Sub.leasts [] = [] := by rw [Sub.leasts]
        rw [hln, hpn, hl0]
        simp [stC, inC, hat0, Sub.plcs, Sub.layL]
      · rw [get_map hx, suC_eq]
        refine vc ?_
        have hc := lay_ok s.ks[i].sz s.ks[i] (nd0 :: Sub.layL 1 (s.ks.take i)) (Nat.le_refl _) (by simp; omega) (hkp _ hm)
        unfold Sub.rd at hc
        refine callq_of false [2] hc rfl (vc trivial) (vc trivial) ?_
        rintro r out ⟨rfl, rfl⟩
        refine ⟨by simp, by simp, by simp, vc ?_⟩
        refine hN _ (i + 1) [(2, 54)] h (by omega) (by rfl) (vc ?_) (vc ?_)
        · rw [w64 _ (by omega), hnx]; unfold layT; rw [hat]; simp
        · rw [hnx]; unfold layT; rw [hat]; simp
    · have h : i = s.ks.length := by simp at h; omega
      subst h
      rw [List.take_length]
      have hsl : (((nd0 :: Sub.layL 1 s.ks).map (ndC true)).set 0 (ndC true ⟨[], (Sub.leasts s.ks).drop 1, Sub.plcs 1 s.ks⟩)) = (layT [] s).map (ndC true) := by
        rw [List.map_cons, List.set_cons_zero]
        unfold layT
        rw [Sub.lay_eq, if_neg (by simp [h1]), List.nil_append, List.map_cons]; rfl
      have hll : (layT [] s).length = (nd0 :: Sub.layL 1 s.ks).length := by
        unfold layT
        rw [Sub.lay_eq, if_neg (by simp [h1])]; simp only [List.length_nil, Nat.zero_add, List.nil_append, List.length_cons]
      refine ⟨by omega, ?_⟩
      rw [if_pos (Sub.plcs_len _ _).symm, ndC]
      refine vc ?_
      refine endQ_of [(1, 2)] (.sl 1 (layT [] s).length) [some (.rw 125 3 ((layT [] s).map (ndC true)))] (by rfl) (vc ?_) (vc ?_) ⟨rfl, rfl⟩
      · exact hll.symm
      · rw [← hsl]; rfl
end Go.Proofs.Ytnnmpdanfeejbaa.Abs

/- The reference: trees read. -/
namespace Go.Proofs.Ytnnmpdanfeejbaa.Abs
open Go Go.Proofs
set_option maxRecDepth 10000
set_option linter.unusedVariables false
set_option linter.unusedSimpArgs false
def treeAg (t : List Nd) : AV := .ag [Rw (t.map (ndC false))]
/-- What has been read, or nothing. -/
def rdO : Option (Sub × Int) → Sub × Int × Bool
  | some (s, nx) => (s, nx, true)
  | none => (.mk false [] [], 0, false)
def Sub.ow (s : Sub) : AV := .ag [Bo s.leaf, .sl 1 s.ps.length, .sl 2 s.ks.length]
def Sub.obs (s : Sub) : List (Option Ob) := [some (.rw 133 2 (s.ps.map prC)), some (.rw 115 3 (s.ks.map (suC true)))]
theorem readNone (H : Hp) : EndQ 0 H (.tu [.ag [Bo false, .nul, .nul], In 0, Bo false]) (fun r out => r = .tu [(rdO none).1.ow, In (rdO none).2.1, Bo (rdO none).2.2] ∧ out = (rdO none).1.obs) :=
  endQ_of [(1, 0), (2, 0)] (.tu [.ag [Bo false, .sl 1 0, .sl 2 0], In 0, Bo false]) [some (.rw 133 2 []), some (.rw 115 3 [])] (by rfl) (vc trivial) (vc trivial) ⟨rfl, rfl⟩
theorem read_ok (t : List Nd) (ht : t.length ≤ 2^40) (hn : ∀ x ∈ t, x.le (2^40)) : ∀ (f deep : Nat) (a : Int), f + deep = 13 → CallOk Try.prog 127 [] [treeAg t, In a, In deep] (fun r out => r = .tu [(rdO (rdT t f a)).1.ow, In (rdO (rdT t f a)).2.1, Bo (rdO (rdT t f a)).2.2] ∧ out = (rdO (rdT t f a)).1.obs) := by
  intro f
  induction f with
  | zero => 
    intro deep a hfd
    unfold treeAg
    refine callOk_z (np := 0) {} mixed Try.func127 (by rfl) Try.ntmps127 Try.results127 (by rfl) (Nat.le_of_ble_eq_true rfl) rfl rfl rfl (vc ?_)
    have hq : ∀ H : Hp, EndQ 0 H (.tu [.ag [Bo false, .nul, .nul], In 0, Bo false]) (fun r out => r = .tu [(rdO (rdT t 0 a)).1.ow, In (rdO (rdT t 0 a)).2.1, Bo (rdO (rdT t 0 a)).2.2] ∧ out = (rdO (rdT t 0 a)).1.obs) := fun H => by
      rw [rdT]
      exact readNone H
    refine brB_intro (fun h => hq _) (fun h1 => brB_intro (fun h => hq _) (fun h2 => brB_intro (fun h => hq _) (fun h3 => ?_)))
    simp at h3
    omega
  | succ f ih =>
    intro deep a hfd
    unfold treeAg
    refine callOk_z (np := 0) {} mixed Try.func127 (by rfl) Try.ntmps127 Try.results127 (by rfl) (Nat.le_of_ble_eq_true rfl) rfl rfl rfl (vc ?_)
    have hq : ∀ H : Hp, rdT t (f + 1) a = none → EndQ 0 H (.tu [.ag [Bo false, .nul, .nul], In 0, Bo false]) (fun r out => r = .tu [(rdO (rdT t (f + 1) a)).1.ow, In (rdO (rdT t (f + 1) a)).2.1, Bo (rdO (rdT t (f + 1) a)).2.2] ∧ out = (rdO (rdT t (f + 1) a)).1.obs) := fun H e => by
      rw [e]
      exact readNone H
    refine brB_intro (fun h => hq _ (by rw [rdT, if_pos (.inl (by simpa using h))])) (fun h1 => brB_intro (fun h => hq _ (by rw [rdT, if_pos (.inr (by simpa using h))])) (fun h2 => brB_intro (fun h => by simp at h; omega) (fun h3 => ?_)))
    have h1 : 0 ≤ a := by simpa using h1
    have h2 : a < t.length := by simpa using h2
    obtain ⟨a, rfl⟩ : ∃ k : Nat, a = k := ⟨a.toNat, by omega⟩
    have h2 : a < t.length := by omega
    have hx := List.getElem?_eq_getElem h2
    have hxl := hn _ (List.getElem_mem h2)
    have hrd : rdT t (f + 1) a = (rdT.rdK (rdT t f) t[a].cs (a + 1)).map fun x => (.mk (decide (t[a].cs.length = 0)) t[a].ps x.1, x.2) := by
      rw [rdT, if_neg (by omega), Int.toNat_natCast, hx]; rfl
    refine vc ?_
    rw [get_map hx, ndC]
    refine vc ?_
    refine drawQ_of false (by rfl) (by simp) (vc ?_)
    obtain ⟨x1, x2, x3⟩ := hxl
    refine ⟨⟨by unfold maxLen; omega, by omega⟩, ?_⟩
    repeat refine ⟨rfl, ?_⟩
    rw [w64 _ (by omega)]
    refine loopQ_of (ι := Nat × Int × List Sub) (fun i => [(2, In deep), (3, .pt 1 0 0), (6, .pt 2 0 0), (10, .pt 3 0 0), (11, In i.2.1), (48, Rw (t[a].cs.map inC)), (49, In t[a].cs.length), (50, In (i.1 : Nat))]) (fun i => [(1, .box 57 [Rw (t.map (ndC false))]), (2, .box 115 [Bo false, .nul, .nul]), (3, .box 115 [Bo (decide (t[a].cs.length = 0)), .sl 4 t[a].ps.length, .sl 5 i.1]), (4, .rw 133 2 (t[a].ps.map prC)), (5, .rw 115 3 (i.2.2.map (suC true)))]) 6 (fun i => t[a].cs.length - i.1)
      (fun i => i.1 ≤ t[a].cs.length ∧ i.2.2.length = i.1 ∧ rdT.rdK (rdT t f) t[a].cs (a + 1) = (rdT.rdK (rdT t f) (t[a].cs.drop i.1) i.2.1).map fun x => (i.2.2 ++ x.1, x.2)) (0, a + 1, []) ⟨Nat.zero_le _, rfl, by simp⟩ [(2, 9), (3, 265), (4, 249), (5, 0)] (by rfl) (vc ?_) (vc ?_) (fun i hi N hN => ?_)
    · trivial
    · rw [Bool.eq_iff_iff]; simp
    · obtain ⟨i, nx, acc⟩ := i
      obtain ⟨hi, hacc, hL⟩ := hi
      simp only at hi hacc hL hN
      refine vc (brB_intro (fun h => ?_) (fun h => ?_))
      · have h : i < t[a].cs.length := by simpa using h
        have hy := List.getElem?_eq_getElem h
        rw [List.drop_eq_getElem_cons h, rdT.rdK] at hL
        rw [get_map hy, inC]
        refine vc (brB_intro (fun h5 => ?_) (fun h5 => ?_))
        · have h5 : ¬ t[a].cs[i] = nx := by simpa using h5
          rw [if_neg h5] at hL
          exact hq _ (by rw [hrd, hL]; rfl)
        · have h5 : t[a].cs[i] = nx := by simpa using h5
          rw [if_pos h5] at hL
          rw [w64 _ (by omega)]
          have hc := ih (deep + 1) t[a].cs[i] (by omega)
          rw [show ((deep + 1 : Nat) : Int) = (deep : Int) + 1 by omega] at hc
          unfold treeAg at hc
          cases hr : rdT t f t[a].cs[i] with
          | none =>
            rw [hr] at hL hc
            simp only [rdO, Sub.ow, Sub.obs, Sub.leaf, Sub.ps, Sub.ks, List.length_nil, List.map_nil] at hc
            refine callq_of false [] hc rfl trivial (vc trivial) ?_
            rintro r out ⟨rfl, rfl⟩
            refine ⟨by simp, by simp, by simp, vc ?_⟩
            exact hq _ (by rw [hrd, hL]; rfl)
          | some x =>
            obtain ⟨x, nx'⟩ := x
            rw [hr] at hL hc
            simp only [rdO, Sub.ow, Sub.obs] at hc
            refine callq_of false [] hc rfl trivial (vc trivial) ?_
            rintro r out ⟨rfl, rfl⟩
            refine ⟨by simp, by simp, by simp, vc ?_⟩
            refine ⟨⟨hacc.symm, by simp, by unfold maxLen; omega, by omega⟩, ?_⟩
            refine hN _ (i + 1, nx', acc ++ [x]) [(5, 214)] ⟨h, by simp [hacc], by rw [hL]; simp [Function.comp_def]⟩ (by simp only; omega) (by rfl) (vc ?_) (vc ?_)
            · rw [w64 _ (by omega)]; simp
            · exact ⟨hacc, by rw [List.map_append, List.map_cons, suC_eq]; rfl⟩
      · have h : i = t[a].cs.length := by simp at h; omega
        rw [List.drop_of_length_le (by omega), rdT.rdK] at hL
        have hfin : rdT t (f + 1) a = some (.mk (decide (t[a].cs.length = 0)) t[a].ps acc, nx) := by
          rw [hrd, hL]; simp
        rw [hfin]
        refine endQ_of [(1, 4), (2, 5)] (.tu [.ag [Bo (decide (t[a].cs.length = 0)), .sl 1 t[a].ps.length, .sl 2 acc.length], In nx, Bo true]) [some (.rw 133 2 (t[a].ps.map prC)), some (.rw 115 3 (acc.map (suC true)))] (by rfl) (vc ?_) (vc trivial) ⟨rfl, rfl⟩
        exact hacc.symm
theorem root_ok (t : List Nd) (ht : t.length ≤ 2^40) (hn : ∀ x ∈ t, x.le (2^40)) : CallOk Try.prog 85 [] [treeAg t] (fun r out => r = .tu [(rootT t).1.ow, Bo (rootT t).2] ∧ out = (rootT t).1.obs) := by
  unfold treeAg
  refine callOk_z (np := 0) {} mixed Try.func85 (by rfl) Try.ntmps85 Try.results85 (by rfl) (Nat.le_of_ble_eq_true rfl) rfl rfl rfl (vc ?_)
  refine brB_intro (fun h => ?_) (fun h => ?_)
  · have h : t.length = 0 := by simp at h; simp [h]
    unfold rootT
    rw [if_pos h]
    exact endQ_of [(1, 0), (2, 0)] (.tu [.ag [Bo true, .sl 1 0, .sl 2 0], Bo true]) [some (.rw 133 2 []), some (.rw 115 3 [])] (by rfl) (vc trivial) (vc trivial) ⟨rfl, rfl⟩
  have h : ¬ t.length = 0 := fun e => by simp [e] at h
  have hc := read_ok t ht hn 13 0 0 rfl
  unfold treeAg at hc
  unfold rootT
  rw [if_neg h]
  cases hr : rdT t 13 0 with
  | none =>
    rw [hr] at hc
    simp only [rdO, Sub.ow, Sub.obs, Sub.leaf, Sub.ps, Sub.ks, List.length_nil, List.map_nil] at hc
    refine callq_of false [] hc rfl trivial (vc trivial) ?_
    rintro r out ⟨rfl, rfl⟩
    refine ⟨by simp, by simp, by simp, vc ?_⟩
    refine drawQ_of false (by rfl) (by simp) (vc ?_)
    exact endQ_of [(1, 65), (2, 66)] (.tu [.ag [Bo false, .sl 1 0, .sl 2 0], Bo false]) [some (.rw 133 2 []), some (.rw 115 3 [])] (by rfl) (vc trivial) (vc trivial) ⟨rfl, rfl⟩
  | some x =>
    obtain ⟨x, nx'⟩ := x
    rw [hr] at hc
    simp only [rdO, Sub.ow, Sub.obs] at hc
    refine callq_of false [] hc rfl trivial (vc trivial) ?_
    rintro r out ⟨rfl, rfl⟩
    refine ⟨by simp, by simp, by simp, vc ?_⟩
    refine drawQ_of false (by rfl) (by simp) (vc ?_)
    refine endQ_of [(1, 65), (2, 66)] (.tu [.ag [Bo x.leaf, .sl 1 x.ps.length, .sl 2 x.ks.length], Bo (decide (nx' = t.length))]) [some (.rw 133 2 (x.ps.map prC)), some (.rw 115 3 (x.ks.map (suC true)))] (by rfl) (vc ?_) (vc trivial) ⟨rfl, rfl⟩
    rw [Bool.eq_iff_iff]; simp
end Go.Proofs.Ytnnmpdanfeejbaa.Abs

/- The reference: is it a tree? -/
namespace Go.Proofs.Ytnnmpdanfeejbaa.Abs
open Go Go.Proofs
set_option maxRecDepth 10000
set_option linter.unusedVariables false
set_option linter.unusedSimpArgs false
/-- As the reference sees it. -/
def specOk (t : List Nd) : Prop := t = [] ∨ (t.length ≤ 400 ∧ (rootT t).2 = true ∧ (rootT t).1.full true = true ∧ 0 ≤ (rootT t).1.deep ∧ pairsOk (rootT t).1.pairs ∧ layT [] (rootT t).1 = t)
/-- What is read is no bigger than the list. -/
def nodesLe (t : List Nd) (b : Nat) : Prop := t.length ≤ b ∧ ∀ x ∈ t, x.le b
theorem specTreeOk_ok (t : List Nd) (ht : t.length ≤ 2^40) (hn : ∀ x ∈ t, x.le (2^40)) (hsz : (rootT t).1.sz ≤ 2^40) (hps : (rootT t).1.pairs.length ≤ 2^40) (hly : ∀ x ∈ layT [] (rootT t).1, x.le (2^40)) : CallOk Try.prog 28 [] [treeAg t] (fun r out => r = Bo (tf (specOk t)) ∧ out = []) := by
  unfold treeAg
  refine callOk_z (np := 0) {} mixed Try.func28 (by rfl) Try.ntmps28 Try.results28 (by rfl) (Nat.le_of_ble_eq_true rfl) rfl rfl rfl (vc ?_)
  refine brB_intro (fun h => EndQ.closed (.v _) ⟨?_, rfl⟩) (fun h => ?_)
  · rw [tf_true (.inl (List.length_eq_zero_iff.1 (by simp at h; simp [h])))]
  have h0 : ¬ t = [] := fun e => by subst e; simp at h
  have hno : ∀ H : Hp, ¬ (t.length ≤ 400 ∧ (rootT t).2 = true ∧ (rootT t).1.full true = true ∧ 0 ≤ (rootT t).1.deep ∧ pairsOk (rootT t).1.pairs ∧ layT [] (rootT t).1 = t) → EndQ 0 H (Bo false) (fun r out => r = Bo (tf (specOk t)) ∧ out = []) := fun H e => EndQ.closed (.v _) ⟨by
    rw [tf_false (fun x => x.elim h0 e)], rfl⟩
  refine brB_intro (fun h1 => hno _ (fun e => by have := e.1; simp at h1; omega)) (fun h1 => ?_)
  have h1 : t.length ≤ 400 := by simp at h1; omega
  have hc := root_ok t ht hn
  unfold treeAg at hc
  simp only [Sub.ow, Sub.obs] at hc
  refine callq_of false [] hc rfl trivial (vc trivial) ?_
  rintro r out ⟨rfl, rfl⟩
  refine ⟨by simp, by simp, by simp, vc ?_⟩
  refine brB_intro (fun h2 => hno _ (fun e => by rw [e.2.1] at h2; cases h2)) (fun h2 => ?_)
  have h2 : (rootT t).2 = true := by simpa using h2
  have hf := full_ok (rootT t).1.sz (rootT t).1 true (Nat.le_refl _) hsz
  unfold Sub.rd at hf
  refine callq_of true [] hf rfl trivial (vc trivial) ?_
  rintro r out ⟨rfl, rfl⟩
  refine ⟨by simp, by simp, fun _ => ⟨.v _, by simp⟩, vc ?_⟩
  refine brB_intro (fun h3 => hno _ (fun e => by rw [e.2.2.1] at h3; cases h3)) (fun h3 => ?_)
  have h3 : (rootT t).1.full true = true := by simpa using h3
  have hd := (deep_ok (rootT t).1.sz (rootT t).1 (Nat.le_refl _) hsz).2
  unfold Sub.rd at hd
  refine callq_of true [] hd rfl trivial (vc trivial) ?_
  rintro r out ⟨rfl, rfl⟩
  refine ⟨by simp, by simp, fun _ => ⟨.v _, by simp⟩, vc ?_⟩
  refine brB_intro (fun h4 => hno _ (fun e => by have := e.2.2.2.1; simp at h4; omega)) (fun h4 => ?_)
  have h4 : 0 ≤ (rootT t).1.deep := by simpa using h4
  have hp := pairs_ok (rootT t).1.sz (rootT t).1 (Nat.le_refl _) hsz hps
  unfold Sub.rd at hp
  refine callq_of true [] hp rfl trivial (vc trivial) ?_
  rintro r out ⟨rfl, rfl⟩
  refine ⟨by simp, by simp, ?_, vc ?_⟩
  · exact fun _ => ⟨.sl 1 _ (by omega) (by simp), by intro ob h; simp at h; subst h; exact .inr (own_pr _)⟩
  refine callq_of true [] (specPairsOk_ok (rootT t).1.pairs hps) rfl trivial (vc trivial) ?_
  rintro r out ⟨rfl, rfl⟩
  refine ⟨by simp, by simp, fun _ => ⟨.v _, by simp⟩, vc ?_⟩
  refine brB_intro (fun h5 => hno _ (fun e => by rw [tf_true e.2.2.2.2.1] at h5; cases h5)) (fun h5 => ?_)
  have h5 : pairsOk (rootT t).1.pairs := by
    by_cases e : pairsOk (rootT t).1.pairs
    · exact e
    · rw [tf_false e] at h5; cases h5
  have hl := lay0_ok (rootT t).1 hsz hps
  unfold Sub.rd at hl
  refine callq_of true [] hl rfl trivial (vc trivial) ?_
  rintro r out ⟨rfl, rfl⟩
  refine ⟨by simp, by simp, ?_, vc ?_⟩
  · exact fun _ => ⟨.sl 1 _ (by omega) (by simp), by intro ob h; simp at h; subst h; exact .inr (own_nd _)⟩
  refine brB_intro (fun h6 => hno _ (fun e => by rw [e.2.2.2.2.2] at h6; simp at h6)) (fun h6 => ?_)
  have h6 : (layT [] (rootT t).1).length = t.length := by simp at h6; omega
  generalize hL : layT [] (rootT t).1 = L at *
  refine loopQ_of (fun i => [(1, .pt 1 0 0), (5, .sl 2 L.length), (47, In L.length), (48, In (i : Nat))]) (fun i => [(1, .box 57 [Rw (t.map (ndC false))]), (2, .rw 125 3 (L.map (ndC true)))]) 3 (fun i => L.length - i) (fun i => i ≤ L.length ∧ L.take i = t.take i) 0 ⟨Nat.zero_le _, rfl⟩ [(2, 297)] (by rfl) (vc ?_) (vc ?_) (fun i hi N hN => vc (brB_intro (fun h => ?_) (fun h => ?_)))
  · trivial
  · trivial
  · have h : i < L.length := by simpa using h
    have hx := List.getElem?_eq_getElem h
    have hy := List.getElem?_eq_getElem (show i < t.length by omega)
    refine drawQ_of false (by rfl) (by simp) (vc ?_)
    refine ⟨h, ?_⟩
    rw [get_map hx, ndC]
    refine vc ?_
    rw [get_map hy, ndC]
    refine vc ?_
    have hs := sameNode_ok L[i] t[i] (hly _ (List.getElem_mem h)) (hn _ (List.getElem_mem (show i < t.length by omega)))
    unfold Nd.rd at hs
    refine calld_of [] true [] hs rfl trivial (vc trivial) (by rfl) ⟨_, _, rfl, rfl⟩ ?_
    rintro r out ⟨rfl, rfl⟩
    refine ⟨by simp, by simp, fun _ => ⟨.v _, by simp⟩, vc ?_⟩
    refine brB_intro (fun hb => hno _ (fun e => ?_)) (fun hb => ?_)
    · have e2 := e.2.2.2.2.2
      subst e2
      simp at hb
    · have hb : L[i] = t[i] := by simpa using hb
      refine hN _ (i + 1) [] ⟨h, take_next hi.2 hx hy hb⟩ (by omega) (by rfl) (vc ?_) (vc trivial)
      rw [w64 _ (by omega)]; simp
  · have h : i = L.length := by simp at h; omega
    refine EndQ.closed (.v _) ⟨?_, rfl⟩
    have e : L = t := by have := hi.2; rwa [h, List.take_length, h6, List.take_length] at this
    rw [tf_true (.inr ⟨h1, h2, h3, h4, h5, by rw [hL]; exact e⟩)]
end Go.Proofs.Ytnnmpdanfeejbaa.Abs

/- What is read of a tree: its size. -/
namespace Go.Proofs.Ytnnmpdanfeejbaa.Abs
open Go Go.Proofs
set_option maxRecDepth 10000
set_option linter.unusedVariables false
set_option linter.unusedSimpArgs false
theorem rdT_size (t : List Nd) (b : Nat) (hb : ∀ x ∈ t, x.ps.length ≤ b) : ∀ (f : Nat) (a : Int) (s : Sub) (nx : Int), rdT t f a = some (s, nx) → 0 ≤ a ∧ nx = a + s.sz ∧ nx ≤ t.length ∧ s.pairs.length ≤ b * s.sz
  | 0, a, s, nx, h => by rw [rdT] at h; cases h
  | f + 1, a, s, nx, h => by
    rw [rdT] at h
    split at h
    · cases h
    rename_i hc
    have ha : 0 ≤ a := by omega
    obtain ⟨a, rfl⟩ : ∃ k : Nat, a = k := ⟨a.toNat, by omega⟩
    have h2 : a < t.length := by omega
    rw [Int.toNat_natCast, List.getElem?_eq_getElem h2, Option.getD_some] at h
    have hk : ∀ (cs : List Int) (m : Int) (ks : List Sub) (nx : Int), m ≤ t.length → rdT.rdK (rdT t f) cs m = some (ks, nx) → nx = m + Sub.szL ks ∧ nx ≤ t.length ∧ (Sub.pairsL ks).length ≤ b * Sub.szL ks := by
      intro cs
      induction cs with
      | nil => intro m ks nx hm h; rw [rdT.rdK] at h; cases h; simp [Sub.szL, Sub.pairsL, hm]
      | cons k r ih =>
        intro m ks nx hm h
        rw [rdT.rdK] at h
        split at h
        · rename_i hk
          subst hk
          cases hr : rdT t f k with
          | none => rw [hr] at h; cases h
          | some x =>
            obtain ⟨x, nx1⟩ := x
            obtain ⟨g1, g2, g3, g4⟩ := rdT_size t b hb f k x nx1 hr
            rw [hr, Option.bind_some] at h
            cases hr2 : rdT.rdK (rdT t f) r nx1 with
            | none => simp only [hr2] at h; cases h
            | some y =>
              obtain ⟨y, nx2⟩ := y
              simp only [hr2, Option.map_some, Option.some.injEq, Prod.mk.injEq] at h
              obtain ⟨rfl, rfl⟩ := h
              obtain ⟨q1, q2, q3⟩ := ih nx1 y nx2 g3 hr2
              refine ⟨?_, q2, ?_⟩
              · rw [Sub.szL]; omega
              · rw [Sub.pairsL, Sub.szL, List.length_append, Nat.mul_add]; omega
        · cases h
    cases hr : rdT.rdK (rdT t f) t[a].cs (a + 1) with
    | none => rw [hr] at h; cases h
    | some y =>
      obtain ⟨y, nx2⟩ := y
      rw [hr] at h
      simp only [Option.map_some, Option.some.injEq, Prod.mk.injEq] at h
      obtain ⟨rfl, rfl⟩ := h
      obtain ⟨q1, q2, q3⟩ := hk _ _ _ _ (by omega) hr
      refine ⟨by omega, ?_, q2, ?_⟩
      · rw [Sub.sz]; omega
      · rw [Sub.pairs, Sub.sz, List.length_append, Nat.mul_add]
        have := hb _ (List.getElem_mem h2)
        omega
theorem rootT_size (t : List Nd) (b : Nat) (hb : ∀ x ∈ t, x.ps.length ≤ b) : (rootT t).1.sz ≤ t.length + 1 ∧ (rootT t).1.pairs.length ≤ b * t.length := by
  have h0 : ∀ l : Bool, (Sub.mk l [] []).sz = 1 ∧ (Sub.mk l [] []).pairs.length = 0 := fun l => by rw [Sub.sz, Sub.pairs]; simp [Sub.szL, Sub.pairsL]
  unfold rootT
  split
  · simp only [h0]; omega
  · cases hr : rdT t 13 0 with
    | none => simp only [h0]; omega
    | some x =>
      obtain ⟨s, nx⟩ := x
      obtain ⟨g1, g2, g3, g4⟩ := rdT_size t b hb 13 0 s nx hr
      have : s.sz ≤ t.length := by omega
      refine ⟨by show s.sz ≤ _; omega, ?_⟩
      show s.pairs.length ≤ _
      exact Nat.le_trans g4 (Nat.mul_le_mul_left b (by omega))
mutual
theorem Sub.lay_le : ∀ (s : Sub) (a : Nat), ∀ x ∈ s.lay a, x.ps.length ≤ s.pairs.length ∧ x.ks.length ≤ s.sz ∧ x.cs.length ≤ s.sz
  | .mk l ps ks, a, x, hx => by
    rw [Sub.lay] at hx
    rw [Sub.pairs, Sub.sz, List.length_append]
    split at hx
    · simp at hx; subst hx; simp
    · rcases List.mem_cons.1 hx with rfl | hx
      · have := Sub.szL_len ks
        have h1 := Sub.plcs_len ks (a + 1)
        have h2 : (Sub.leasts ks).length = ks.length := by rw [Sub.leasts_eq, List.length_map]
        simp only [List.length_nil, List.length_drop]
        omega
      · have := Sub.layL_le ks (a + 1) x hx
        omega
theorem Sub.layL_le : ∀ (l : List Sub) (a : Nat), ∀ x ∈ Sub.layL a l, x.ps.length ≤ (Sub.pairsL l).length ∧ x.ks.length ≤ Sub.szL l ∧ x.cs.length ≤ Sub.szL l
  | [], a, x, hx => by rw [Sub.layL] at hx; simp at hx
  | y :: r, a, x, hx => by
    rw [Sub.layL] at hx
    rw [Sub.pairsL, Sub.szL, List.length_append]
    rcases List.mem_append.1 hx with hx | hx
    · have := Sub.lay_le y a x hx; omega
    · have := Sub.layL_le r _ x hx; omega
end
/-- A list of nodes of a moderate size. -/
def small (t : List Nd) : Prop := t.length ≤ 2^20 ∧ ∀ x ∈ t, x.fits (2^20)
theorem small_ok {t : List Nd} (h : small t) : (t.length ≤ 2^40 ∧ ∀ x ∈ t, x.le (2^40)) ∧ (rootT t).1.sz ≤ 2^40 ∧ (rootT t).1.pairs.length ≤ 2^40 ∧ ∀ x ∈ layT [] (rootT t).1, x.le (2^40) := by
  have h1 := rootT_size t (2^20) (fun x hx => (h.2 x hx).1)
  have h2 := h.1
  have h3 : (rootT t).1.pairs.length ≤ 2^40 := Nat.le_trans h1.2 (Nat.le_trans (Nat.mul_le_mul_left _ h2) (by decide))
  refine ⟨⟨by omega, fun x hx => ?_⟩, by omega, h3, fun x hx => ?_⟩
  · obtain ⟨g1, g2, g3, _⟩ := h.2 x hx
    exact ⟨by omega, by omega, by omega⟩
  · have := Sub.lay_le _ _ x hx
    exact ⟨by omega, by omega, by omega⟩
theorem specTreeOk_small {t : List Nd} (h : small t) : CallOk Try.prog 28 [] [treeAg t] (fun r out => r = Bo (tf (specOk t)) ∧ out = []) := by
  obtain ⟨⟨h1, h2⟩, h3, h4, h5⟩ := small_ok h
  exact specTreeOk_ok t h1 h2 h3 h4 h5
end Go.Proofs.Ytnnmpdanfeejbaa.Abs

/- The reference: how deep, all pairs, one pair. -/
namespace Go.Proofs.Ytnnmpdanfeejbaa.Abs
open Go Go.Proofs
set_option maxRecDepth 10000
set_option linter.unusedVariables false
set_option linter.unusedSimpArgs false
noncomputable def specDepth (t : List Nd) : Int := if tf (specOk t) = true then (if t.length = 0 then 0 else (rootT t).1.deep) else -1
noncomputable def specAll (t : List Nd) : List Pr := if tf (specOk t) = true then (rootT t).1.pairs else []
theorem specDepth_ok {t : List Nd} (hs : small t) : CallOk Try.prog 32 [] [treeAg t] (fun r out => r = In (specDepth t) ∧ out = []) := by
  obtain ⟨⟨h1, h2⟩, h3, h4, h5⟩ := small_ok hs
  have hc := specTreeOk_small hs
  unfold treeAg at hc ⊢
  refine callOk_z (np := 0) {} mixed Try.func32 (by rfl) Try.ntmps32 Try.results32 (by rfl) (Nat.le_of_ble_eq_true rfl) rfl rfl rfl (vc ?_)
  refine callq_of false [] hc rfl trivial (vc trivial) ?_
  rintro r out ⟨rfl, rfl⟩
  refine ⟨by simp, by simp, by simp, vc ?_⟩
  unfold specDepth
  refine brB_intro (fun h => EndQ.closed (.v _) ⟨?_, rfl⟩) (fun h => brB_intro (fun h0 => EndQ.closed (.v _) ⟨?_, rfl⟩) (fun h0 => ?_))
  · rw [if_neg (by simpa using h)]
  · rw [if_pos (by simpa using h), if_pos (by simp at h0; simp [h0])]
  rw [if_pos (by simpa using h), if_neg (fun e => by simp [List.length_eq_zero_iff.1 e] at h0)]
  have hr := root_ok t h1 h2
  unfold treeAg at hr
  simp only [Sub.ow, Sub.obs] at hr
  refine callq_of false [] hr rfl trivial (vc trivial) ?_
  rintro r out ⟨rfl, rfl⟩
  refine ⟨by simp, by simp, by simp, vc ?_⟩
  have hd := (deep_ok (rootT t).1.sz (rootT t).1 (Nat.le_refl _) h3).2
  unfold Sub.rd at hd
  refine callq_of true [] hd rfl trivial (vc trivial) ?_
  rintro r out ⟨rfl, rfl⟩
  refine ⟨by simp, by simp, fun _ => ⟨.v _, by simp⟩, vc ?_⟩
  exact EndQ.closed (.v _) ⟨rfl, rfl⟩
theorem specAll_ok {t : List Nd} (hs : small t) : CallOk Try.prog 42 [] [treeAg t] (fun r out => r = .sl 1 (specAll t).length ∧ out = [some (.rw 133 2 ((specAll t).map prC))]) := by
  obtain ⟨⟨h1, h2⟩, h3, h4, h5⟩ := small_ok hs
  have hc := specTreeOk_small hs
  unfold treeAg at hc ⊢
  refine callOk_z (np := 0) {} mixed Try.func42 (by rfl) Try.ntmps42 Try.results42 (by rfl) (Nat.le_of_ble_eq_true rfl) rfl rfl rfl (vc ?_)
  refine callq_of false [] hc rfl trivial (vc trivial) ?_
  rintro r out ⟨rfl, rfl⟩
  refine ⟨by simp, by simp, by simp, vc ?_⟩
  unfold specAll
  refine brB_intro (fun h => ?_) (fun h => ?_)
  · rw [if_neg (by simpa using h)]
    exact endQ_of [(1, 0)] (.sl 1 0) [some (.rw 133 2 [])] (by rfl) (vc trivial) (vc trivial) ⟨rfl, rfl⟩
  rw [if_pos (by simpa using h)]
  have hr := root_ok t h1 h2
  unfold treeAg at hr
  simp only [Sub.ow, Sub.obs] at hr
  refine callq_of false [] hr rfl trivial (vc trivial) ?_
  rintro r out ⟨rfl, rfl⟩
  refine ⟨by simp, by simp, by simp, vc ?_⟩
  have hp := pairs_ok (rootT t).1.sz (rootT t).1 (Nat.le_refl _) h3 h4
  unfold Sub.rd at hp
  refine callq_of true [] hp rfl trivial (vc trivial) ?_
  rintro r out ⟨rfl, rfl⟩
  refine ⟨by simp, by simp, ?_, vc ?_⟩
  · exact fun _ => ⟨.sl 1 _ (by omega) (by simp), by intro ob h; simp at h; subst h; exact .inr (own_pr _)⟩
  exact endQ_of [(1, 113)] (.sl 1 (rootT t).1.pairs.length) [some (.rw 133 2 ((rootT t).1.pairs.map prC))] (by rfl) (vc trivial) (vc trivial) ⟨rfl, rfl⟩
/-- The first pair with a key. -/
def getL (k : ByteArray) : List Pr → ByteArray × Bool
  | [] => (⟨#[]⟩, false)
  | p :: r => if p.k = k then (p.v, true) else getL k r
theorem specAll_len {t : List Nd} (hs : small t) : (specAll t).length ≤ 2^40 := by
  unfold specAll
  split
  · exact (small_ok hs).2.2.1
  · simp
noncomputable def specGet (t : List Nd) (k : ByteArray) : ByteArray × Bool := if tf (keyOk k) = true then getL k (specAll t) else (⟨#[]⟩, false)
theorem specGet_ok {t : List Nd} (hs : small t) (k : ByteArray) : CallOk Try.prog 34 [] [treeAg t, .c (.v (.string k))] (fun r out => r = .tu [.c (.v (.string (specGet t k).1)), Bo (specGet t k).2] ∧ out = []) := by
  have hl := specAll_len hs
  have hc := specAll_ok hs
  unfold treeAg at hc ⊢
  refine callOk_z (np := 0) {} mixed Try.func34 (by rfl) Try.ntmps34 Try.results34 (by rfl) (Nat.le_of_ble_eq_true rfl) rfl rfl rfl (vc ?_)
  refine callq_of false [] (specKeyOk_ok k) rfl trivial (vc trivial) ?_
  rintro r out ⟨rfl, rfl⟩
  refine ⟨by simp, by simp, by simp, vc ?_⟩
  unfold specGet
  refine brB_intro (fun h => ?_) (fun h => ?_)
  · rw [if_neg (by simpa using h)]
    exact endQ_of [] (.tu [.c (.v (.string ⟨#[]⟩)), Bo false]) [] (by rfl) (vc trivial) (vc trivial) ⟨rfl, rfl⟩
  rw [if_pos (by simpa using h)]
  refine callq_of false [] hc rfl trivial (vc trivial) ?_
  rintro r out ⟨rfl, rfl⟩
  refine ⟨by simp, by simp, by simp, vc ?_⟩
  generalize specAll t = l at *
  refine loopQ_of (fun i => [(1, .c (.v (.string k))), (12, .sl 1 l.length), (13, In l.length), (14, In (i : Nat))]) (fun i => [(1, .rw 133 2 (l.map prC))]) 2 (fun i => l.length - i) (fun i => i ≤ l.length ∧ getL k l = getL k (l.drop i)) 0 ⟨Nat.zero_le _, rfl⟩ [(1, 57)] (by rfl) (vc trivial) (vc trivial) (fun i hi N hN => vc (brB_intro (fun h => ?_) (fun h => ?_)))
  · have h : i < l.length := by simpa using h
    have hx := List.getElem?_eq_getElem h
    have hL := hi.2
    rw [List.drop_eq_getElem_cons h, getL] at hL
    refine ⟨h, ?_⟩
    rw [get_map hx, prC]
    refine vc (brB_intro (fun hb => ?_) (fun hb => ?_))
    · have hb : l[i].k = k := ba_ext (by simpa using hb)
      rw [hL, if_pos hb]
      exact endQ_of [] (.tu [.c (.v (.string l[i].v)), Bo true]) [] (by rfl) (vc trivial) (vc trivial) ⟨rfl, rfl⟩
    · have hb : ¬ l[i].k = k := fun e => by rw [e] at hb; simp at hb
      rw [if_neg hb] at hL
      refine hN _ (i + 1) [] ⟨h, hL⟩ (by omega) (by rfl) (vc ?_) (vc trivial)
      rw [w64 _ (by omega)]; simp
  · have h : i = l.length := by have := hi.1; simp at h; omega
    have hL := hi.2
    rw [List.drop_of_length_le (by omega), getL] at hL
    rw [hL]
    exact endQ_of [] (.tu [.c (.v (.string ⟨#[]⟩)), Bo false]) [] (by rfl) (vc trivial) (vc trivial) ⟨rfl, rfl⟩
end Go.Proofs.Ytnnmpdanfeejbaa.Abs

/- The program's trees within: leaf, least, all. -/
namespace Go.Proofs.Ytnnmpdanfeejbaa.Abs
open Go Go.Proofs
set_option maxRecDepth 10000
set_option linter.unusedVariables false
set_option linter.unusedSimpArgs false
mutual
/-- A twig's cells. -/
def twC : Sub → List CV
  | .mk _ ps ks => [.row false (ps.map prC), .row false (twL ks)]
def twL : List Sub → List (List CV)
  | [] => []
  | x :: r => [.ptr (twC x) 0] :: twL r
end
theorem twL_map : ∀ l : List Sub, twL l = l.map fun x => [.ptr (twC x) 0]
  | [] => by rw [twL]; rfl
  | x :: r => by rw [twL, twL_map r]; rfl
theorem twC_eq (s : Sub) : twC s = [.row false (s.ps.map prC), .row false (s.ks.map fun x => [.ptr (twC x) 0])] := by
  cases s; rw [twC, twL_map]; rfl
def Sub.tw (s : Sub) : AV := .c (.ptr (twC s) 0)
theorem isLeaf_ok (s : Sub) : CallOk Try.prog 163 [] [s.tw] (fun r out => r = Bo (decide (s.ks.length = 0)) ∧ out = []) := by
  unfold Sub.tw
  rw [twC_eq]
  refine callOk_z (np := 0) {} mixed Try.func163 (by rfl) Try.ntmps163 Try.results163 (by rfl) (Nat.le_of_ble_eq_true rfl) rfl rfl rfl (vc ?_)
  refine EndQ.closed (.v _) ⟨?_, rfl⟩
  have : (((s.ks.length : Nat) : Int) == 0) = decide (s.ks.length = 0) := by rw [Bool.eq_iff_iff]; simp
  rw [this]
mutual
/-- The pairs of the leaf that lies leftmost. -/
def Sub.lmost : Sub → List Pr
  | .mk _ ps ks => (Sub.lmostL ks).getD ps
def Sub.lmostL : List Sub → Option (List Pr)
  | [] => none
  | x :: _ => some x.lmost
end
theorem Sub.lmost_eq (s : Sub) : s.lmost = match s.ks with | [] => s.ps | x :: _ => x.lmost := by
  obtain ⟨l, ps, ks⟩ := s
  rw [Sub.lmost]
  cases ks with
  | nil => rw [Sub.lmostL]; rfl
  | cons x r => rw [Sub.lmostL]; rfl
theorem twLeast_ok (s : Sub) (hs : s.lmost ≠ []) : CallOk Try.prog 152 [] [.c (.ptr (twC s) 0)] (fun r out => r = .c (.v (.string (fstK s.lmost))) ∧ out = []) := by
  refine callOk_z (np := 0) {} mixed Try.func152 (by rfl) Try.ntmps152 Try.results152 (by rfl) (Nat.le_of_ble_eq_true rfl) rfl rfl rfl (vc ?_)
  refine loopQ_of (ι := Sub) (fun x => [(0, .c (.ptr (twC x) 0))]) (fun x => []) 1 (fun x => x.sz) (fun x => x.lmost = s.lmost) s rfl [] (by rfl) (vc trivial) (vc trivial) (fun x hx N hN => vc ?_)
  have hl := isLeaf_ok x
  unfold Sub.tw at hl
  refine callq_of false [] hl rfl trivial (vc trivial) ?_
  rintro r out ⟨rfl, rfl⟩
  refine ⟨by simp, by simp, by simp, vc ?_⟩
  obtain ⟨l, ps, ks⟩ := x
  rw [Sub.lmost_eq] at hx
  rw [twC_eq]
  simp only [Sub.ps, Sub.ks] at hx ⊢
  cases ks with
  | nil =>
    refine brB_intro (fun h => by simp at h) (fun h => vc ?_)
    cases ps with
    | nil => exact absurd hx.symm hs
    | cons p r =>
      rw [List.map_cons, prC]
      refine vc ?_
      refine EndQ.closed (.v _) ⟨?_, rfl⟩
      rw [← hx]; rfl
  | cons y r =>
    refine brB_intro (fun h => vc ?_) (fun h => by simp at h)
    refine hN _ y [] hx (Sub.sz_kid (s := .mk l ps (y :: r)) (List.mem_cons_self ..)) (by rfl) (vc trivial) (vc trivial)
end Go.Proofs.Ytnnmpdanfeejbaa.Abs

/- The program's trees within: all pairs. -/
namespace Go.Proofs.Ytnnmpdanfeejbaa.Abs
open Go Go.Proofs
set_option maxRecDepth 10000
set_option linter.unusedVariables false
set_option linter.unusedSimpArgs false
mutual
/-- All pairs, as the program gathers them. -/
def Sub.gath : Sub → List Pr
  | .mk _ ps ks => Sub.gathL ks ++ ps
def Sub.gathL : List Sub → List Pr
  | [] => []
  | x :: r => x.gath ++ Sub.gathL r
end
theorem Sub.gath_eq (s : Sub) : s.gath = Sub.gathL s.ks ++ s.ps := by cases s; rw [Sub.gath]; rfl
theorem Sub.gathL_app (a b : List Sub) : Sub.gathL (a ++ b) = Sub.gathL a ++ Sub.gathL b := by
  induction a with
  | nil => rfl
  | cons x r ih => rw [List.cons_append, Sub.gathL, Sub.gathL, ih, List.append_assoc]
theorem Sub.gathL_next {l : List Sub} {i : Nat} {x : Sub} (h : l[i]? = some x) : Sub.gathL (l.take (i + 1)) = Sub.gathL (l.take i) ++ x.gath := by
  rw [List.take_add_one, h, Sub.gathL_app]; simp [Sub.gathL]
theorem all_ok : ∀ (n : Nat) (s : Sub) (acc : List Pr), s.sz ≤ n → s.sz ≤ 2^40 → acc.length + s.gath.length ≤ 2^40 → CallOk Try.prog 132 [.rw 133 2 (acc.map prC)] [.c (.ptr (twC s) 0), .sl 1 acc.length] (fun r out => r = .sl 2 (acc ++ s.gath).length ∧ out = [none, some (.rw 133 2 ((acc ++ s.gath).map prC))]) := by
  intro n
  induction n with
  | zero => intro s acc hs; cases s; rw [Sub.sz] at hs; omega
  | succ n ih =>
    intro s acc hs hk hp
    rw [twC_eq, Sub.gath_eq] at *
    have hkl := s.ks_len
    refine callOk_z (np := 1) {} mixed Try.func132 (by rfl) Try.ntmps132 Try.results132 (by rfl) (Nat.le_of_ble_eq_true rfl) rfl rfl rfl (vc ?_)
    rw [List.length_append] at hp
    refine loopQ_of (fun i => [(0, .c (.ptr [.row false (s.ps.map prC), .row false (s.ks.map fun x => [.ptr (twC x) 0])] 0)), (1, .sl 2 (acc ++ Sub.gathL (s.ks.take i)).length), (10, Rw (s.ks.map fun x => [.ptr (twC x) 0])), (11, In s.ks.length), (12, In (i : Nat))]) (fun i => [(2, .rw 133 2 ((acc ++ Sub.gathL (s.ks.take i)).map prC))]) 3 (fun i => s.ks.length - i) (fun i => i ≤ s.ks.length) 0 (Nat.zero_le _) [(2, 1)] (by rfl) (vc ?_) (vc ?_) (fun i hi N hN => vc (brB_intro (fun h => ?_) (fun h => ?_)))
    · simp [Sub.gathL]
    · simp [Sub.gathL]
    · have h : i < s.ks.length := by simpa using h
      have hx := List.getElem?_eq_getElem h
      have hm := List.getElem_mem h
      have hnx := Sub.gathL_next hx
      have hle : (Sub.gathL (s.ks.take (i + 1))).length ≤ (Sub.gathL s.ks).length := by
        conv => rhs; rw [← List.take_append_drop (i + 1) s.ks, Sub.gathL_app]
        rw [List.length_append]; omega
      rw [hnx, List.length_append] at hle
      rw [get_map hx]
      refine vc ?_
      have hc := ih s.ks[i] (acc ++ Sub.gathL (s.ks.take i)) (by have := Sub.sz_kid hm; omega) (by have := Sub.sz_kid hm; omega) (by rw [List.length_append]; omega)
      refine callq_of false [2] hc rfl (vc trivial) (vc trivial) ?_
      rintro r out ⟨rfl, rfl⟩
      refine ⟨by simp, by simp, by simp, vc ?_⟩
      refine hN _ (i + 1) [(2, 51)] h (by omega) (by rfl) (vc ?_) (vc ?_)
      · rw [hnx, w64 _ (by omega)]; simp
      · rw [hnx]; simp
    · have h : i = s.ks.length := by simp at h; omega
      subst h
      rw [List.take_length]
      refine ⟨⟨by unfold maxLen; simp; omega, by simp; omega⟩, ?_⟩
      refine endQ_of [(2, 51)] (.sl 2 (acc ++ (Sub.gathL s.ks ++ s.ps)).length) [none, some (.rw 133 2 ((acc ++ (Sub.gathL s.ks ++ s.ps)).map prC))] (by rfl) (vc ?_) (vc ?_) ⟨rfl, rfl⟩
      · simp; omega
      · simp
theorem all0_ok (s : Sub) (hk : s.sz ≤ 2^40) (hp : s.gath.length ≤ 2^40) : CallOk Try.prog 132 [] [.c (.ptr (twC s) 0), .nul] (fun r out => r = .sl 1 s.gath.length ∧ out = [some (.rw 133 2 (s.gath.map prC))]) := by
  rw [twC_eq, Sub.gath_eq] at *
  have hkl := s.ks_len
  refine callOk_z (np := 0) {} mixed Try.func132 (by rfl) Try.ntmps132 Try.results132 (by rfl) (Nat.le_of_ble_eq_true rfl) rfl rfl rfl (vc ?_)
  rw [List.length_append] at hp
  refine loopQ_of (fun i => [(0, .c (.ptr [.row false (s.ps.map prC), .row false (s.ks.map fun x => [.ptr (twC x) 0])] 0)), (1, .sl 1 (Sub.gathL (s.ks.take i)).length), (10, Rw (s.ks.map fun x => [.ptr (twC x) 0])), (11, In s.ks.length), (12, In (i : Nat))]) (fun i => [(1, .rw 133 2 ((Sub.gathL (s.ks.take i)).map prC))]) 2 (fun i => s.ks.length - i) (fun i => i ≤ s.ks.length) 0 (Nat.zero_le _) [(1, 0)] (by rfl) (vc ?_) (vc ?_) (fun i hi N hN => vc (brB_intro (fun h => ?_) (fun h => ?_)))
  · simp [Sub.gathL]
  · simp [Sub.gathL]
  · have h : i < s.ks.length := by simpa using h
    have hx := List.getElem?_eq_getElem h
    have hm := List.getElem_mem h
    have hnx := Sub.gathL_next hx
    have hle : (Sub.gathL (s.ks.take (i + 1))).length ≤ (Sub.gathL s.ks).length := by
      conv => rhs; rw [← List.take_append_drop (i + 1) s.ks, Sub.gathL_app]
      rw [List.length_append]; omega
    rw [hnx, List.length_append] at hle
    rw [get_map hx]
    refine vc ?_
    have hc := all_ok s.ks[i].sz s.ks[i] (Sub.gathL (s.ks.take i)) (Nat.le_refl _) (by have := Sub.sz_kid hm; omega) (by omega)
    refine callq_of false [1] hc rfl (vc trivial) (vc trivial) ?_
    rintro r out ⟨rfl, rfl⟩
    refine ⟨by simp, by simp, by simp, vc ?_⟩
    refine hN _ (i + 1) [(1, 50)] h (by omega) (by rfl) (vc ?_) (vc ?_)
    · rw [hnx, w64 _ (by omega)]; simp
    · rw [hnx]
  · have h : i = s.ks.length := by simp at h; omega
    subst h
    rw [List.take_length]
    refine ⟨⟨by unfold maxLen; omega, by omega⟩, ?_⟩
    refine endQ_of [(1, 50)] (.sl 1 ((Sub.gathL s.ks ++ s.ps)).length) [some (.rw 133 2 (((Sub.gathL s.ks ++ s.ps)).map prC))] (by rfl) (vc ?_) (vc ?_) ⟨rfl, rfl⟩
    · simp
    · simp
end Go.Proofs.Ytnnmpdanfeejbaa.Abs

/- The program's trees within, pure: what is grown of nodes, and that both sides call the same trees right. -/
namespace Go.Proofs.Ytnnmpdanfeejbaa.Abs
open Go Go.Proofs
set_option maxRecDepth 10000
set_option linter.unusedVariables false
set_option linter.unusedSimpArgs false
/-- What is grown of the nodes from a place on: the sub, the place behind it, how far the leaves are. -/
def gK (rd : Int → Option (Sub × Int × Int)) : List Int → List ByteArray → Bool → Int → Int → Option (List Sub × Int × Int)
  | [], _, _, nx, d => some ([], nx, d)
  | k :: r, ks, first, nx, d => if k = nx then (rd k).bind fun x => if first = false ∧ (x.2.2 ≠ d ∨ ks.head? ≠ some (fstK x.1.lmost)) then none else (gK rd r ks.tail false x.2.1 x.2.2).map fun y => (x.1 :: y.1, y.2) else none
def gN (rd : Int → Option (Sub × Int × Int)) (n : Nd) (a : Int) (root : Bool) : Option (Sub × Int × Int) :=
  if n.cs.length = 0 then (if (if root = true then 1 else 2) ≤ n.ps.length ∧ n.ps.length ≤ 4 ∧ n.ks.length = 0 then some (.mk true n.ps [], a + 1, 1) else none)
  else if (2 ≤ n.cs.length ∧ n.cs.length ≤ 4) ∧ n.ks.length + 1 = n.cs.length ∧ n.ps.length = 0 then (gK rd n.cs (⟨#[]⟩ :: n.ks) true (a + 1) 0).map fun x => (.mk false [] x.1, x.2.1, x.2.2 + 1) else none
def gT (t : List Nd) : Nat → Int → Bool → Option (Sub × Int × Int)
  | 0, _, _ => none
  | f + 1, a, root => if (t.length : Int) ≤ a then none else gN (fun k => gT t f k false) (t[a.toNat]?.getD default) a root
mutual
/-- A leaf has no kids. -/
def Sub.wf : Sub → Prop
  | .mk l _ ks => (l = true → ks = []) ∧ Sub.wfL ks
def Sub.wfL : List Sub → Prop
  | [] => True
  | x :: r => x.wf ∧ Sub.wfL r
end
/-- These nodes lie in the tree from a place on. -/
def At (t : List Nd) : Nat → List Nd → Prop
  | _, [] => True
  | a, x :: l => t[a]? = some x ∧ At t (a + 1) l
theorem At_app {t : List Nd} : ∀ {l m : List Nd} {a : Nat}, At t a (l ++ m) ↔ At t a l ∧ At t (a + l.length) m
  | [], m, a => by simp [At]
  | x :: l, m, a => by
    rw [List.cons_append, At, At, At_app, List.length_cons, and_assoc, show a + 1 + l.length = a + (l.length + 1) by omega]
theorem At_len {t : List Nd} : ∀ {l : List Nd} {a : Nat}, At t a l → l = [] ∨ a + l.length ≤ t.length
  | [], a, _ => .inl rfl
  | x :: l, a, h => by
    have h1 : a < t.length := (List.getElem?_eq_some_iff.1 h.1).1
    refine .inr ?_
    rcases At_len h.2 with e | e
    · subst e; simp; omega
    · simp; omega
theorem At_eq {t : List Nd} : ∀ {l : List Nd} {a : Nat}, At t a l → a + l.length = t.length → l = t.drop a
  | [], a, _, e => by simp at e; rw [List.drop_of_length_le (by omega)]
  | x :: l, a, h, e => by
    obtain ⟨h1, h2⟩ := List.getElem?_eq_some_iff.1 h.1
    rw [List.drop_eq_getElem_cons h1, h2, ← At_eq h.2 (by simp at e; omega)]
theorem At_self (t : List Nd) : ∀ (a : Nat), At t a (t.drop a)
  | a => by
    by_cases h : a < t.length
    · rw [List.drop_eq_getElem_cons h]
      exact ⟨List.getElem?_eq_getElem h, At_self t (a + 1)⟩
    · rw [List.drop_of_length_le (by omega)]; trivial
  termination_by a => t.length - a
/-- What is known of a grown sub. -/
def gOk (t : List Nd) (a : Nat) (root : Bool) (x : Sub × Int × Int) : Prop :=
  At t a (x.1.lay a) ∧ x.2.1 = ((a + (x.1.lay a).length : Nat) : Int) ∧ x.1.wf ∧ x.1.full root = true ∧ x.1.deep = x.2.2 ∧ 1 ≤ x.2.2 ∧ x.1.lmost ≠ [] ∧ fstK x.1.lmost = x.1.least
theorem gK_sound {t : List Nd} {rd : Int → Option (Sub × Int × Int)} (hrd : ∀ (k : Nat) x, rd k = some x → gOk t k false x) : ∀ (cs : List Int) (ks : List ByteArray) (nx : Nat) (d : Int) (y : List Sub × Int × Int), gK rd cs ks false nx d = some y → ks.length = cs.length → 1 ≤ d →
    y.1.length = cs.length ∧ cs = Sub.plcs nx y.1 ∧ ks = Sub.leasts y.1 ∧ At t nx (Sub.layL nx y.1) ∧ y.2.1 = ((nx + (Sub.layL nx y.1).length : Nat) : Int) ∧ Sub.wfL y.1 ∧ Sub.fullL y.1 = true ∧ Sub.deepL false (d + 1) y.1 = d + 1 ∧ y.2.2 = d := by
  intro cs
  induction cs with
  | nil =>
    intro ks nx d y h hk hd
    simp only [gK, Option.some.injEq] at h
    subst h
    simp at hk
    subst hk
    simp [Sub.plcs, Sub.leasts, Sub.layL, At, Sub.wfL, Sub.fullL, Sub.deepL]
  | cons k r ih =>
    intro ks nx d y h hk hd
    rw [gK] at h
    by_cases e : k = (nx : Int)
    · rw [if_pos e] at h
      subst e
      cases hr : rd (nx : Int) with
      | none => rw [hr] at h; simp at h
      | some x =>
        rw [hr, Option.bind_some] at h
        obtain ⟨g1, g2, g3, g4, g5, g6, g7, g8⟩ := hrd nx x hr
        split at h
        · simp at h
        · rename_i hx
          simp only [true_and, not_or, Decidable.not_not] at hx
          obtain ⟨hx1, hx2⟩ := hx
          obtain ⟨z, hz, rfl⟩ := Option.map_eq_some_iff.1 h
          cases ks with
          | nil => simp at hk
          | cons kk ks =>
            simp only [List.length_cons, List.tail_cons, List.head?_cons, Option.some.injEq] at hk hx2 hz
            rw [g2] at hz
            obtain ⟨i1, i2, i3, i4, i5, i6, i7, i8, i9⟩ := ih ks _ _ z hz (by omega) g6
            rw [hx1] at i8 i9
            refine ⟨by simp [i1], ?_, ?_, ?_, ?_, ⟨g3, i6⟩, ?_, ?_, i9⟩
            · rw [Sub.plcs, ← i2]
            · rw [Sub.leasts, ← i3, hx2, g8]
            · rw [Sub.layL, At_app]; exact ⟨g1, i4⟩
            · rw [i5, Sub.layL, List.length_append]; omega
            · rw [Sub.fullL, g4, i7]; rfl
            · rw [Sub.deepL, g5, hx1, if_neg (by simp; omega)]; exact i8
    · rw [if_neg e] at h; cases h
theorem gN_sound {t : List Nd} {rd : Int → Option (Sub × Int × Int)} (hrd : ∀ (k : Nat) x, rd k = some x → gOk t k false x) {n : Nd} {a : Nat} (hn : t[a]? = some n) {root : Bool} {x : Sub × Int × Int} (h : gN rd n a root = some x) : gOk t a root x := by
  unfold gN at h
  obtain ⟨ps, ks, cs⟩ := n
  simp only at h
  by_cases h0 : cs.length = 0
  · rw [if_pos h0] at h
    by_cases h1 : (if root = true then 1 else 2) ≤ ps.length ∧ ps.length ≤ 4 ∧ ks.length = 0
    · rw [if_pos h1] at h
      cases h
      have hks : ks = [] := List.length_eq_zero_iff.1 h1.2.2
      have hcs : cs = [] := List.length_eq_zero_iff.1 h0
      subst hks hcs
      refine ⟨?_, ?_, ⟨fun _ => rfl, trivial⟩, ?_, ?_, by simp, ?_, ?_⟩
      · rw [Sub.lay, if_pos rfl]; exact ⟨hn, trivial⟩
      · rw [Sub.lay, if_pos rfl]; rfl
      · rw [Sub.full, if_pos rfl]
        cases root <;> simp at h1 ⊢ <;> omega
      · rw [Sub.deep, if_pos rfl]
      · rw [Sub.lmost_eq]
        simp only [Sub.ks, Sub.ps]
        intro e
        rw [e] at h1
        cases root <;> simp at h1
      · rw [Sub.lmost_eq, Sub.least, if_pos rfl]; rfl
    · rw [if_neg h1] at h; cases h
  · rw [if_neg h0] at h
    split at h
    · rename_i h1
      obtain ⟨⟨h1, h2⟩, h3, h4⟩ := h1
      have hps : ps = [] := List.length_eq_zero_iff.1 h4
      subst hps
      obtain ⟨y, hy, rfl⟩ := Option.map_eq_some_iff.1 h
      cases cs with
      | nil => simp at h0
      | cons c cs =>
        rw [gK] at hy
        split at hy
        · rename_i hc
          subst hc
          cases hr : rd ((a : Int) + 1) with
          | none => rw [hr] at hy; simp at hy
          | some x =>
            rw [hr, Option.bind_some, if_neg (by simp)] at hy
            have hr' : rd ((a + 1 : Nat) : Int) = some x := hr
            obtain ⟨g1, g2, g3, g4, g5, g6, g7, g8⟩ := hrd _ x hr'
            obtain ⟨z, hz, rfl⟩ := Option.map_eq_some_iff.1 hy
            simp only [List.length_cons, List.tail_cons] at h1 h2 h3 hz
            rw [g2] at hz
            obtain ⟨i1, i2, i3, i4, i5, i6, i7, i8, i9⟩ := gK_sound hrd _ _ _ _ z hz (by omega) g6
            refine ⟨?_, ?_, ⟨by simp, g3, i6⟩, ?_, ?_, ?_, ?_, ?_⟩
            · rw [Sub.lay, if_neg (by simp)]
              refine ⟨?_, ?_⟩
              · rw [hn, Sub.leasts, Sub.plcs, ← i2, i3]; rfl
              · rw [Sub.layL, At_app]; exact ⟨g1, i4⟩
            · rw [Sub.lay, if_neg (by simp), List.length_cons, Sub.layL, List.length_append]
              simp only [i5]; omega
            · rw [Sub.full, if_neg (by simp), Sub.fullL, g4, i7]; simp; omega
            · rw [Sub.deep, if_neg (by simp), Sub.deepL, g5, if_neg (by simp; omega)]
              simp only [i9]; exact i8
            · simp only [i9]; omega
            · rw [Sub.lmost_eq]; exact g7
            · rw [Sub.lmost_eq, Sub.least, if_neg (by simp)]; exact g8
        · cases hy
    · cases h
theorem gT_sound (t : List Nd) : ∀ (f a : Nat) (root : Bool) (x : Sub × Int × Int), gT t f a root = some x → gOk t a root x := by
  intro f
  induction f with
  | zero => intro a root x h; simp [gT] at h
  | succ f ih =>
    intro a root x h
    rw [gT] at h
    split at h
    · cases h
    · rename_i ha
      have ha : a < t.length := by omega
      rw [Int.toNat_natCast, List.getElem?_eq_getElem ha] at h
      exact gN_sound (fun k x hx => ih k false x hx) (List.getElem?_eq_getElem ha) h
theorem deepL_cons {x : Sub} {r : List Sub} {f : Bool} {d : Int} (h : 0 ≤ Sub.deepL f d (x :: r)) : 0 ≤ x.deep ∧ (f = true ∨ x.deep + 1 = d) ∧ 0 ≤ Sub.deepL false (x.deep + 1) r ∧ Sub.deepL f d (x :: r) = Sub.deepL false (x.deep + 1) r := by
  rw [Sub.deepL] at h ⊢
  split at h
  · omega
  · rename_i hx
    rw [if_neg hx]
    refine ⟨by omega, ?_, h, rfl⟩
    cases f
    · right; simp at hx; omega
    · left; rfl
theorem deepL_all : ∀ {l : List Sub} {d : Int}, 0 ≤ Sub.deepL false d l → Sub.deepL false d l = d ∧ ∀ x ∈ l, x.deep + 1 = d ∧ 0 ≤ x.deep
  | [], d, h => by simp [Sub.deepL]
  | x :: r, d, h => by
    obtain ⟨h1, h2, h3, h4⟩ := deepL_cons h
    have h2 : x.deep + 1 = d := by simpa using h2
    rw [h2] at h3 h4
    obtain ⟨i1, i2⟩ := deepL_all h3
    rw [h4]
    refine ⟨i1, fun y hy => ?_⟩
    rcases List.mem_cons.1 hy with rfl | hy
    · exact ⟨h2, h1⟩
    · exact i2 y hy
theorem Sub.wf_mem {x : Sub} : ∀ {l : List Sub}, Sub.wfL l → x ∈ l → x.wf
  | y :: r, h, hx => by
    rcases List.mem_cons.1 hx with rfl | hx
    · exact h.1
    · exact Sub.wf_mem h.2 hx
/-- Of a sub that is right: what its head says. -/
theorem Sub.head {s : Sub} {root : Bool} (hw : s.wf) (hf : s.full root = true) (hd : 0 ≤ s.deep) :
    (s.leaf = true ∧ s.ks = [] ∧ s.ps ≠ [] ∧ s.deep = 1 ∧ s.ps.length ≤ 4 ∧ (if root = true then 1 else 2) ≤ s.ps.length) ∨
    (s.leaf = false ∧ s.ps = [] ∧ 2 ≤ s.ks.length ∧ s.ks.length ≤ 4 ∧ (∀ x ∈ s.ks, x.wf ∧ x.full false = true ∧ x.deep + 1 = s.deep ∧ 0 ≤ x.deep)) := by
  obtain ⟨l, ps, ks⟩ := s
  simp only [Sub.leaf, Sub.ks, Sub.ps]
  rw [Sub.wf] at hw
  rw [Sub.full] at hf
  rw [Sub.deep] at hd ⊢
  cases l with
  | true =>
    left
    rw [if_pos rfl] at hf ⊢
    have h1 : (if root = true then 1 else 2) ≤ ps.length := by cases root <;> simp at hf ⊢ <;> omega
    refine ⟨rfl, hw.1 rfl, ?_, rfl, ?_, h1⟩
    · intro e; subst e; cases root <;> simp at h1
    · simp at hf; omega
  | false =>
    right
    rw [if_neg (by simp)] at hf hd ⊢
    simp only [Bool.and_eq_true, decide_eq_true_eq] at hf
    obtain ⟨⟨h1, h2, h3⟩, h4⟩ := hf
    refine ⟨rfl, h3, h1, h2, fun x hx => ?_⟩
    have hfx := (Sub.fullL_all ks).1 h4 x hx
    have hwx := Sub.wf_mem hw.2 hx
    cases ks with
    | nil => simp at h1
    | cons y r =>
      obtain ⟨i1, i2, i3, i4⟩ := deepL_cons hd
      obtain ⟨j1, j2⟩ := deepL_all i3
      refine ⟨hwx, hfx, ?_⟩
      rw [i4, j1]
      rcases List.mem_cons.1 hx with rfl | hx
      · exact ⟨rfl, i1⟩
      · exact ⟨(j2 x hx).1, (j2 x hx).2⟩
theorem Sub.facts : ∀ (n : Nat) (s : Sub) (root : Bool), s.sz ≤ n → s.wf → s.full root = true → 0 ≤ s.deep → s.lmost ≠ [] ∧ fstK s.lmost = s.least ∧ 1 ≤ s.deep ∧ s.gath = s.pairs ∧ (root = false ∨ s.leaf = false → s.sz + 1 ≤ s.pairs.length ∧ 2 ^ s.deep.toNat ≤ s.pairs.length) := by
  intro n
  induction n with
  | zero => intro s root hs; have := s.sz_pos; omega
  | succ n ih =>
    intro s root hs hw hf hd
    have hh := Sub.head hw hf hd
    have hk := fun x hx => ih x false (by have := Sub.sz_kid (s := s) (x := x) hx; omega)
    rw [Sub.lmost_eq, Sub.least_eq, Sub.gath_eq, Sub.pairs_eq]
    rcases hh with ⟨h1, h2, h3, h4, h5, h6⟩ | ⟨h1, h2, h3, h4, h5⟩
    · rw [h2, h1, h4]
      refine ⟨h3, by rw [if_pos rfl], by omega, by simp [Sub.gathL, Sub.pairsL], fun h => ?_⟩
      have hr : root = false := by simpa using h
      rw [hr] at h6
      have hsz : s.sz = 1 := by obtain ⟨l, ps, ks⟩ := s; simp only [Sub.ks] at h2; subst h2; rw [Sub.sz, Sub.szL]
      rw [hsz]
      simp [Sub.pairsL] at h6 ⊢
      omega
    · rw [h1, h2]
      have hall : ∀ (l : List Sub), (∀ x ∈ l, x ∈ s.ks) → Sub.gathL l = Sub.pairsL l ∧ Sub.szL l + l.length ≤ (Sub.pairsL l).length ∧ l.length * 2 ^ (s.deep - 1).toNat ≤ (Sub.pairsL l).length := by
        intro l
        induction l with
        | nil => intro _; simp [Sub.gathL, Sub.pairsL, Sub.szL]
        | cons x r ihl =>
          intro hm
          obtain ⟨a1, a2, a3⟩ := ihl (fun y hy => hm y (List.mem_cons_of_mem _ hy))
          have hx := hm x (List.mem_cons_self ..)
          obtain ⟨f1, f2, f3, f4⟩ := h5 x hx
          obtain ⟨b1, b2, b3, b4, b5⟩ := hk x hx f1 f2 f4
          obtain ⟨b5, b6⟩ := b5 (.inl rfl)
          rw [show s.deep - 1 = x.deep by omega] at a3 ⊢
          rw [Sub.gathL, Sub.pairsL, Sub.szL, List.length_append, List.length_cons, b4, a1, Nat.add_mul]
          refine ⟨rfl, by omega, by omega⟩
      obtain ⟨a1, a2, a3⟩ := hall s.ks (fun _ h => h)
      have hsz : s.sz = 1 + Sub.szL s.ks := by obtain ⟨l, ps, ks⟩ := s; rw [Sub.sz]; rfl
      cases hks : s.ks with
      | nil => rw [hks] at h3; simp at h3
      | cons y r =>
        obtain ⟨f1, f2, f3, f4⟩ := h5 y (by rw [hks]; exact List.mem_cons_self ..)
        obtain ⟨b1, b2, b3, b4, b5⟩ := hk y (by rw [hks]; exact List.mem_cons_self ..) f1 f2 f4
        refine ⟨b1, ?_, by omega, by rw [← hks, a1]; simp, fun _ => ?_⟩
        · rw [Sub.leastL, if_neg (by simp)]; exact b2
        rw [← hks]
        · rw [List.nil_append]
          refine ⟨by omega, ?_⟩
          rw [show s.deep.toNat = (s.deep - 1).toNat + 1 by omega, Nat.pow_succ]
          have := Nat.mul_le_mul_right (2 ^ (s.deep - 1).toNat) h3
          omega
theorem gK_complete {t : List Nd} {rd : Int → Option (Sub × Int × Int)} : ∀ (l : List Sub) (nx : Nat) (d : Int), (∀ x ∈ l, ∀ a : Nat, At t a (x.lay a) → rd a = some (x, ((a + (x.lay a).length : Nat) : Int), d)) → (∀ x ∈ l, fstK x.lmost = x.least) → At t nx (Sub.layL nx l) →
    gK rd (Sub.plcs nx l) (Sub.leasts l) false nx d = some (l, ((nx + (Sub.layL nx l).length : Nat) : Int), d) := by
  intro l
  induction l with
  | nil => intro nx d h1 h2 h3; simp [Sub.plcs, Sub.layL, gK]
  | cons x r ih =>
    intro nx d h1 h2 h3
    rw [Sub.layL, At_app] at h3
    rw [Sub.plcs, Sub.leasts, gK, if_pos rfl, h1 x (List.mem_cons_self ..) nx h3.1, Option.bind_some]
    simp only [List.tail_cons, List.head?_cons]
    rw [if_neg (by rw [h2 x (List.mem_cons_self ..)]; simp), ih _ _ (fun y hy => h1 y (List.mem_cons_of_mem _ hy)) (fun y hy => h2 y (List.mem_cons_of_mem _ hy)) h3.2, Sub.layL, List.length_append]
    simp only [Option.map_some, Nat.add_assoc]
theorem gT_complete (t : List Nd) : ∀ (f : Nat) (s : Sub) (a : Nat) (root : Bool), s.sz ≤ f → s.wf → s.full root = true → 0 ≤ s.deep → At t a (s.lay a) → gT t f a root = some (s, ((a + (s.lay a).length : Nat) : Int), s.deep) := by
  intro f
  induction f with
  | zero => intro s a root hs; have := s.sz_pos; omega
  | succ f ih =>
    intro s a root hs hw hf hd ha
    have hlen := At_len ha
    have hl1 := (Sub.lay_len s a).1
    have hal : a < t.length := by rcases hlen with e | e; (rw [e] at hl1; simp at hl1); omega
    rw [gT, if_neg (by omega), Int.toNat_natCast]
    have hh := Sub.head hw hf hd
    have hkid := fun x hx => Sub.sz_kid (s := s) (x := x) hx
    rcases hh with ⟨h1, h2, h3, h4, h5, h6⟩ | ⟨h1, h2, h3, h4, h5⟩
    · obtain ⟨l, ps, ks⟩ := s
      simp only [Sub.leaf, Sub.ps, Sub.ks] at *
      subst h1 h2
      rw [Sub.lay, if_pos rfl] at ha ⊢
      rw [ha.1, h4]
      unfold gN
      simp only [Option.getD_some, List.length_nil, List.length_singleton]
      rw [if_pos trivial, if_pos ⟨h6, h5, trivial⟩]
      rfl
    · obtain ⟨l, ps, ks⟩ := s
      simp only [Sub.leaf, Sub.ps, Sub.ks] at *
      subst h1 h2
      rw [Sub.lay, if_neg (by simp)] at ha ⊢
      have hk : ∀ x ∈ ks, ∀ b : Nat, At t b (x.lay b) → gT t f b false = some (x, ((b + (x.lay b).length : Nat) : Int), (Sub.mk false [] ks).deep - 1) := fun x hx b hb => by
        obtain ⟨i1, i2, i3, i4⟩ := h5 x hx
        rw [ih x b false (by have := hkid x hx; omega) i1 i2 i4 hb, show (Sub.mk false [] ks).deep - 1 = x.deep by omega]
      have hkl : ∀ x ∈ ks, fstK x.lmost = x.least := fun x hx => by
        obtain ⟨i1, i2, i3, i4⟩ := h5 x hx
        exact (Sub.facts x.sz x false (Nat.le_refl _) i1 i2 i4).2.1
      generalize (Sub.mk false [] ks).deep = D at *
      cases ks with
      | nil => simp at h3
      | cons y r =>
        rw [ha.1]
        have h3' := ha.2
        rw [Sub.layL, At_app] at h3'
        unfold gN
        simp only [Option.getD_some, Sub.plcs, Sub.leasts, List.drop_succ_cons, List.drop_zero, List.length_cons, Sub.plcs_len, List.length_nil]
        simp only [List.length_cons] at h3 h4
        have hlr : (Sub.leasts r).length = r.length := by rw [Sub.leasts_eq, List.length_map]
        rw [if_neg (by omega), if_pos ⟨⟨by omega, by omega⟩, by omega, trivial⟩, gK, if_pos (by omega)]
        rw [hk y (List.mem_cons_self ..) (a + 1) h3'.1, Option.bind_some, if_neg (by simp), List.tail_cons]
        rw [gK_complete r _ (D - 1) (fun x hx => hk x (List.mem_cons_of_mem _ hx)) (fun x hx => hkl x (List.mem_cons_of_mem _ hx)) h3'.2]
        simp only [Option.map_some, Sub.layL, List.length_append]
        refine congrArg some (Prod.ext rfl (Prod.ext ?_ ?_))
        · simp only; omega
        · simp only; omega
theorem rdK_complete {t : List Nd} {rd : Int → Option (Sub × Int)} : ∀ (l : List Sub) (nx : Nat), (∀ x ∈ l, ∀ a : Nat, At t a (x.lay a) → rd a = some (x, ((a + (x.lay a).length : Nat) : Int))) → At t nx (Sub.layL nx l) →
    rdT.rdK rd (Sub.plcs nx l) nx = some (l, ((nx + (Sub.layL nx l).length : Nat) : Int)) := by
  intro l
  induction l with
  | nil => intro nx h1 h3; simp [Sub.plcs, Sub.layL, rdT.rdK]
  | cons x r ih =>
    intro nx h1 h3
    rw [Sub.layL, At_app] at h3
    rw [Sub.plcs, rdT.rdK, if_pos rfl, h1 x (List.mem_cons_self ..) nx h3.1, Option.bind_some]
    simp only
    rw [ih _ (fun y hy => h1 y (List.mem_cons_of_mem _ hy)) h3.2, Sub.layL, List.length_append]
    simp only [Option.map_some, Nat.add_assoc]
theorem rdT_complete (t : List Nd) : ∀ (f : Nat) (s : Sub) (a : Nat) (root : Bool), s.deep ≤ f → s.wf → s.full root = true → 0 ≤ s.deep → At t a (s.lay a) → rdT t f a = some (s, ((a + (s.lay a).length : Nat) : Int)) := by
  intro f
  induction f with
  | zero => intro s a root hs hw hf hd; have := (Sub.facts s.sz s root (Nat.le_refl _) hw hf hd).2.2.1; omega
  | succ f ih =>
    intro s a root hs hw hf hd ha
    have hlen := At_len ha
    have hl1 := (Sub.lay_len s a).1
    have hal : a < t.length := by rcases hlen with e | e; (rw [e] at hl1; simp at hl1); omega
    rw [rdT, if_neg (by omega), Int.toNat_natCast]
    have hh := Sub.head hw hf hd
    rcases hh with ⟨h1, h2, h3, h4, h5, h6⟩ | ⟨h1, h2, h3, h4, h5⟩
    · obtain ⟨l, ps, ks⟩ := s
      simp only [Sub.leaf, Sub.ps, Sub.ks] at *
      subst h1 h2
      rw [Sub.lay, if_pos rfl] at ha ⊢
      rw [ha.1]
      simp [rdT.rdK]
    · obtain ⟨l, ps, ks⟩ := s
      simp only [Sub.leaf, Sub.ps, Sub.ks] at *
      subst h1 h2
      rw [Sub.lay, if_neg (by simp)] at ha ⊢
      have hk : ∀ x ∈ ks, ∀ b : Nat, At t b (x.lay b) → rdT t f b = some (x, ((b + (x.lay b).length : Nat) : Int)) := fun x hx b hb => by
        obtain ⟨i1, i2, i3, i4⟩ := h5 x hx
        exact ih x b false (by omega) i1 i2 i4 hb
      rw [ha.1]
      simp only [Option.getD_some, Sub.plcs_len]
      have := rdK_complete ks (a + 1) hk ha.2
      rw [show ((a + 1 : Nat) : Int) = (a : Int) + 1 by omega] at this
      rw [this, Option.map_some]
      refine congrArg some (Prod.ext ?_ ?_)
      · simp; intro e; rw [e] at h3; simp at h3
      · simp only [List.length_cons]; omega
theorem rdT_wf (t : List Nd) : ∀ (f : Nat) (a : Int) (x : Sub × Int), rdT t f a = some x → x.1.wf := by
  intro f
  induction f with
  | zero => intro a x h; simp [rdT] at h
  | succ f ih =>
    intro a x h
    rw [rdT] at h
    split at h
    · cases h
    · generalize t[a.toNat]?.getD default = n at h
      obtain ⟨y, hy, rfl⟩ := Option.map_eq_some_iff.1 h
      have hK : ∀ (cs : List Int) (nx : Int) (y : List Sub × Int), rdT.rdK (rdT t f) cs nx = some y → Sub.wfL y.1 ∧ y.1.length = cs.length := by
        intro cs
        induction cs with
        | nil => intro nx y h; simp only [rdT.rdK, Option.some.injEq] at h; subst h; exact ⟨trivial, rfl⟩
        | cons c r ihc =>
          intro nx y h
          rw [rdT.rdK] at h
          split at h
          · cases hr : rdT t f c with
            | none => rw [hr] at h; simp at h
            | some z =>
              rw [hr, Option.bind_some] at h
              obtain ⟨w, hw, rfl⟩ := Option.map_eq_some_iff.1 h
              obtain ⟨i1, i2⟩ := ihc _ _ hw
              exact ⟨⟨ih _ _ hr, i1⟩, by simp [i2]⟩
          · cases h
      obtain ⟨i1, i2⟩ := hK _ _ _ hy
      refine ⟨fun e => ?_, i1⟩
      simp at e
      rw [e] at i2
      exact List.length_eq_zero_iff.1 i2
mutual
theorem Sub.sz_lay : ∀ (s : Sub) (a : Nat), s.wf → (s.lay a).length = s.sz
  | .mk l ps ks, a, h => by
    rw [Sub.lay, Sub.sz]
    have := Sub.szL_lay ks (a + 1) h.2
    split
    · rename_i e
      rw [h.1 e, Sub.szL]; rfl
    · rw [List.length_cons]; omega
theorem Sub.szL_lay : ∀ (l : List Sub) (a : Nat), Sub.wfL l → (Sub.layL a l).length = Sub.szL l
  | [], a, h => by rw [Sub.layL, Sub.szL]; rfl
  | x :: r, a, h => by
    have h1 := Sub.sz_lay x a h.1
    have h2 := Sub.szL_lay r (a + (x.lay a).length) h.2
    rw [Sub.layL, Sub.szL, List.length_append]; omega
end
/-- What the program's root comes to. -/
def gR (t : List Nd) : Option (Sub × Int) := match gT t (t.length + 1) 0 true with
  | some (s, nx, d) => if nx = t.length then some (s, d) else none
  | none => none
/-- A right tree: laid of a right sub. -/
def goodT (t : List Nd) (s : Sub) : Prop := s.wf ∧ s.full true = true ∧ 0 ≤ s.deep ∧ s.lay 0 = t
theorem gR_iff (t : List Nd) (s : Sub) (d : Int) : gR t = some (s, d) ↔ goodT t s ∧ d = s.deep := by
  unfold gR
  constructor
  · intro h
    cases hg : gT t (t.length + 1) 0 true with
    | none => rw [hg] at h; cases h
    | some x =>
      obtain ⟨s', nx, d'⟩ := x
      rw [hg] at h
      simp only at h
      split at h
      · rename_i hn
        cases h
        obtain ⟨g1, g2, g3, g4, g5, g6, g7, g8⟩ := gT_sound t (t.length + 1) 0 true _ hg
        refine ⟨⟨g3, g4, by simp only at g5 g6 ⊢; omega, ?_⟩, g5.symm⟩
        have := At_eq g1 (by simp only at g2 ⊢; omega)
        simpa using this
      · cases h
  · rintro ⟨⟨h1, h2, h3, h4⟩, rfl⟩
    have hs := Sub.sz_lay s 0 h1
    rw [h4] at hs
    have := gT_complete t (t.length + 1) s 0 true (by omega) h1 h2 h3 (by rw [h4]; exact At_self t 0)
    rw [h4] at this
    have this : gT t (t.length + 1) 0 true = some (s, ((0 + t.length : Nat) : Int), s.deep) := this
    rw [this]
    simp
theorem good_bounds {t : List Nd} {s : Sub} (h : goodT t s) (hp : s.pairs.length ≤ 200) : t.length ≤ 400 ∧ s.deep ≤ 13 := by
  obtain ⟨h1, h2, h3, h4⟩ := h
  obtain ⟨f1, f2, f3, f4, f5⟩ := Sub.facts s.sz s true (Nat.le_refl _) h1 h2 h3
  have hs := Sub.sz_lay s 0 h1
  rw [h4] at hs
  rcases Sub.head h1 h2 h3 with ⟨k1, k2, k3, k4, k5, k6⟩ | ⟨k1, k2, k3, k4, k5⟩
  · obtain ⟨l, ps, ks⟩ := s
    simp only [Sub.ks] at k2
    subst k2
    rw [Sub.sz, Sub.szL] at hs
    omega
  · obtain ⟨f5, f6⟩ := f5 (.inr k1)
    refine ⟨by omega, ?_⟩
    by_cases hd : s.deep ≤ 13
    · exact hd
    · have : 2 ^ 13 ≤ 2 ^ s.deep.toNat := Nat.pow_le_pow_right (by omega) (by omega)
      omega
theorem specOk_iff (t : List Nd) : specOk t ↔ t = [] ∨ ∃ s, goodT t s ∧ pairsOk s.pairs := by
  unfold specOk
  constructor
  · rintro (h | ⟨h1, h2, h3, h4, h5, h6⟩)
    · exact .inl h
    · by_cases h0 : t = []
      · exact .inl h0
      · refine .inr ⟨_, ⟨?_, h3, h4, h6⟩, h5⟩
        unfold rootT
        rw [if_neg (fun e => h0 (List.length_eq_zero_iff.1 e))]
        cases hr : rdT t 13 0 with
        | none => exact ⟨by simp, trivial⟩
        | some x => exact rdT_wf _ _ _ _ hr
  · rintro (h | ⟨s, hs, hp⟩)
    · exact .inl h
    · obtain ⟨b1, b2⟩ := good_bounds hs hp.1
      obtain ⟨h1, h2, h3, h4⟩ := hs
      have hr := rdT_complete t 13 s 0 true (by omega) h1 h2 h3 (by rw [h4]; exact At_self t 0)
      have hr : rdT t 13 0 = some (s, ((0 + (s.lay 0).length : Nat) : Int)) := hr
      rw [h4] at hr
      have h0 : ¬ t.length = 0 := by
        have := (Sub.lay_len s 0).1
        rw [h4] at this; omega
      have hR : rootT t = (s, true) := by
        unfold rootT
        rw [if_neg h0, hr]
        simp
      rw [hR]
      exact .inr ⟨b1, rfl, h2, h3, hp, h4⟩
theorem rootT_good {t : List Nd} {s : Sub} (h : goodT t s) (hp : pairsOk s.pairs) : (rootT t).1 = s := by
  obtain ⟨b1, b2⟩ := good_bounds h hp.1
  obtain ⟨h1, h2, h3, h4⟩ := h
  have hr := rdT_complete t 13 s 0 true (by omega) h1 h2 h3 (by rw [h4]; exact At_self t 0)
  have hr : rdT t 13 0 = some (s, ((0 + (s.lay 0).length : Nat) : Int)) := hr
  have h0 : ¬ t.length = 0 := by
    have := (Sub.lay_len s 0).1
    rw [h4] at this; omega
  unfold rootT
  rw [if_neg h0, hr]
mutual
theorem Sub.pairs_le : ∀ (s : Sub) (root : Bool), s.wf → s.full root = true → s.pairs.length ≤ 4 * s.sz
  | .mk l ps ks, root, hw, hf => by
    rw [Sub.wf] at hw
    rw [Sub.full] at hf
    rw [Sub.pairs, Sub.sz, List.length_append]
    cases l with
    | true =>
      rw [if_pos rfl] at hf
      rw [hw.1 rfl, Sub.pairsL, Sub.szL]
      simp at hf ⊢; omega
    | false =>
      rw [if_neg (by simp)] at hf
      simp only [Bool.and_eq_true, decide_eq_true_eq] at hf
      have := Sub.pairsL_le ks hw.2 hf.2
      rw [hf.1.2.2]
      simp; omega
theorem Sub.pairsL_le : ∀ (l : List Sub), Sub.wfL l → Sub.fullL l = true → (Sub.pairsL l).length ≤ 4 * Sub.szL l
  | [], hw, hf => by simp [Sub.pairsL]
  | x :: r, hw, hf => by
    rw [Sub.fullL, Bool.and_eq_true] at hf
    have h1 := Sub.pairs_le x false hw.1 hf.1
    have h2 := Sub.pairsL_le r hw.2 hf.2
    rw [Sub.pairsL, Sub.szL, List.length_append]; omega
end
mutual
theorem Sub.pairs_in : ∀ (s : Sub) (root : Bool) (a : Nat) (p : Pr), s.wf → s.full root = true → p ∈ s.pairs → ∃ x ∈ s.lay a, p ∈ x.ps
  | .mk l ps ks, root, a, p, hw, hf, hp => by
    rw [Sub.wf] at hw
    rw [Sub.full] at hf
    rw [Sub.pairs] at hp
    rw [Sub.lay]
    cases l with
    | true =>
      rw [hw.1 rfl, Sub.pairsL, List.append_nil] at hp
      rw [if_pos rfl]
      exact ⟨_, List.mem_singleton.2 rfl, hp⟩
    | false =>
      rw [if_neg (by simp)] at hf ⊢
      simp only [Bool.and_eq_true, decide_eq_true_eq] at hf
      rw [hf.1.2.2, List.nil_append] at hp
      obtain ⟨x, h1, h2⟩ := Sub.pairsL_in ks (a + 1) p hw.2 hf.2 hp
      exact ⟨x, List.mem_cons_of_mem _ h1, h2⟩
theorem Sub.pairsL_in : ∀ (l : List Sub) (a : Nat) (p : Pr), Sub.wfL l → Sub.fullL l = true → p ∈ Sub.pairsL l → ∃ x ∈ Sub.layL a l, p ∈ x.ps
  | [], a, p, hw, hf, hp => by simp [Sub.pairsL] at hp
  | y :: r, a, p, hw, hf, hp => by
    rw [Sub.fullL, Bool.and_eq_true] at hf
    rw [Sub.pairsL] at hp
    rw [Sub.layL]
    rcases List.mem_append.1 hp with hp | hp
    · obtain ⟨x, h1, h2⟩ := Sub.pairs_in y false a p hw.1 hf.1 hp
      exact ⟨x, List.mem_append_left _ h1, h2⟩
    · obtain ⟨x, h1, h2⟩ := Sub.pairsL_in r _ p hw.2 hf.2 hp
      exact ⟨x, List.mem_append_right _ h1, h2⟩
end
/-- Of a right tree: its sizes. -/
theorem good_sizes {t : List Nd} {s : Sub} (h : goodT t s) : s.gath = s.pairs ∧ s.sz = t.length ∧ s.gath.length ≤ 4 * t.length ∧ ∀ p ∈ s.gath, ∃ x ∈ t, p ∈ x.ps := by
  obtain ⟨h1, h2, h3, h4⟩ := h
  obtain ⟨f1, f2, f3, f4, f5⟩ := Sub.facts s.sz s true (Nat.le_refl _) h1 h2 h3
  have hs := Sub.sz_lay s 0 h1
  rw [h4] at hs
  have := Sub.pairs_le s true h1 h2
  rw [f4]
  refine ⟨rfl, hs.symm, by omega, fun p hp => ?_⟩
  obtain ⟨x, hx, hp⟩ := Sub.pairs_in s true 0 p h1 h2 hp
  rw [h4] at hx
  exact ⟨x, hx, hp⟩
/-- The program's root: a right sub, or none of no nodes, and how deep; or not right. -/
noncomputable def gRoot (t : List Nd) : Option (Option Sub × Int) := if t.length = 0 then some (none, 0) else match gR t with
  | some (s, d) => open Classical in if pairsOk s.gath then some (some s, d) else none
  | none => none
theorem gRoot_spec (t : List Nd) : (specOk t ↔ (gRoot t).isSome = true) ∧ (∀ x, gRoot t = some x → (t = [] ∧ x = (none, 0)) ∨ (t ≠ [] ∧ ∃ s, goodT t s ∧ pairsOk s.pairs ∧ x = (some s, s.deep) ∧ (rootT t).1 = s)) := by
  have h2 : ∀ x, gRoot t = some x → (t = [] ∧ x = (none, 0)) ∨ (t ≠ [] ∧ ∃ s, goodT t s ∧ pairsOk s.pairs ∧ x = (some s, s.deep) ∧ (rootT t).1 = s) := by
    intro x h
    unfold gRoot at h
    split at h
    · rename_i h0; cases h; exact .inl ⟨List.length_eq_zero_iff.1 h0, rfl⟩
    · rename_i h0
      split at h
      · rename_i s d hg
        split at h
        · rename_i hp
          cases h
          obtain ⟨g1, rfl⟩ := (gR_iff t s d).1 hg
          have hp' : pairsOk s.pairs := by rw [← (good_sizes g1).1]; exact hp
          exact .inr ⟨fun e => h0 (by simp [e]), s, g1, hp', rfl, rootT_good g1 hp'⟩
        · cases h
      · cases h
  refine ⟨?_, h2⟩
  rw [specOk_iff]
  constructor
  · rintro (h | ⟨s, h1, h3⟩)
    · unfold gRoot; rw [if_pos (by simp [h])]; rfl
    · unfold gRoot
      split
      · rfl
      · rw [(gR_iff t s s.deep).2 ⟨h1, rfl⟩]
        simp only
        rw [if_pos (by rw [(good_sizes h1).1]; exact h3)]; rfl
  · intro h
    cases hg : gRoot t with
    | none => rw [hg] at h; cases h
    | some x =>
      rcases h2 x hg with ⟨e, _⟩ | ⟨_, s, h1, h3, _⟩
      · exact .inl e
      · exact .inr ⟨s, h1, h3⟩
theorem Sub.deep_sz : ∀ (n : Nat) (s : Sub) (root : Bool), s.sz ≤ n → s.wf → s.full root = true → 0 ≤ s.deep → s.deep ≤ s.sz := by
  intro n
  induction n with
  | zero => intro s root hs; have := s.sz_pos; omega
  | succ n ih =>
    intro s root hs hw hf hd
    rcases Sub.head hw hf hd with ⟨k1, k2, k3, k4, k5, k6⟩ | ⟨k1, k2, k3, k4, k5⟩
    · have := s.sz_pos; omega
    · cases hks : s.ks with
      | nil => rw [hks] at k3; simp at k3
      | cons y r =>
        have hy : y ∈ s.ks := by rw [hks]; exact List.mem_cons_self ..
        obtain ⟨f1, f2, f3, f4⟩ := k5 y hy
        have hz := Sub.sz_kid hy
        have := ih y false (by omega) f1 f2 f4
        omega
theorem gOk_sizes {t : List Nd} {a : Nat} {root : Bool} {x : Sub × Int × Int} (h : gOk t a root x) : (a : Int) + 1 ≤ x.2.1 ∧ x.2.1 ≤ t.length ∧ x.2.2 ≤ t.length ∧ 1 ≤ x.2.2 ∧ x.1.lmost ≠ [] ∧ ∃ n : Nat, x.2.1 = n := by
  obtain ⟨g1, g2, g3, g4, g5, g6, g7, g8⟩ := h
  have hl := (Sub.lay_len x.1 a).1
  have hz := Sub.sz_lay x.1 a g3
  have hd := Sub.deep_sz x.1.sz x.1 root (Nat.le_refl _) g3 g4 (by omega)
  rcases At_len g1 with e | e
  · rw [e] at hl; simp at hl
  · exact ⟨by omega, by omega, by omega, g6, g7, _, g2⟩
end Go.Proofs.Ytnnmpdanfeejbaa.Abs

/- The program's trees within: grow. -/
namespace Go.Proofs.Ytnnmpdanfeejbaa.Abs
open Go Go.Proofs
set_option maxRecDepth 10000
set_option linter.unusedVariables false
set_option linter.unusedSimpArgs false
def growR : Option (Sub × Int × Int) → AV → Prop
  | some x, r => r = .tu [.c (.ptr (twC x.1) 0), In x.2.1, In x.2.2, Bo true]
  | none, r => ∃ y n m, r = .tu [.c y, In n, In m, Bo false]
theorem gN_leaf (rd : Int → Option (Sub × Int × Int)) (ps : List Pr) (ks : List ByteArray) (a : Int) (root : Bool) : gN rd ⟨ps, ks, []⟩ a root = if (if root = true then 1 else 2) ≤ ps.length ∧ ps.length ≤ 4 ∧ ks.length = 0 then some (.mk true ps [], a + 1, 1) else none := by
  unfold gN; simp
theorem grow_ok (t : List Nd) (ht : t.length ≤ 2^40) (hn : ∀ x ∈ t, x.le (2^40)) : ∀ (f a : Nat) (root : Bool), t.length < a + f → a ≤ 2^41 → CallOk Try.prog 130 [.box 57 [Rw (t.map (ndC false))]] [.pt 1 0 0, In a, Bo root] (fun r out => growR (gT t f a root) r ∧ out = [some (.box 57 [Rw (t.map (ndC false))])]) := by
  intro f
  induction f with
  | zero =>
    intro a root ha hb
    refine callOk_z (np := 1) {} mixed Try.func130 (by rfl) Try.ntmps130 Try.results130 (by rfl) (Nat.le_of_ble_eq_true rfl) rfl rfl rfl (vc ?_)
    refine brB_intro (fun h => ?_) (fun h => by simp at h; omega)
    exact endQ_of [] (.tu [.c (.v (.pointer none)), In 0, In 0, Bo false]) [some (.box 57 [Rw (t.map (ndC false))])] (by rfl) (vc trivial) (vc trivial) ⟨⟨_, _, _, rfl⟩, rfl⟩
  | succ f ih =>
    intro a root ha hb
    refine callOk_z (np := 1) { fz := [(10, [242, 170]), (25, [4, 3])] } mixed Try.func130 (by rfl) Try.ntmps130 Try.results130 (by rfl) (Nat.le_of_ble_eq_true rfl) rfl rfl rfl (vc ?_)
    have hno : gT t (f + 1) a root = none → growR (gT t (f + 1) a root) (.tu [.c (.v (.pointer none)), In 0, In 0, Bo false]) := fun e => by rw [e]; exact ⟨_, _, _, rfl⟩
    refine brB_intro (fun h => ?_) (fun h => ?_)
    · exact endQ_of [] (.tu [.c (.v (.pointer none)), In 0, In 0, Bo false]) [some (.box 57 [Rw (t.map (ndC false))])] (by rfl) (vc trivial) (vc trivial) ⟨hno (by rw [gT, if_pos (by simp at h; omega)]), rfl⟩
    have h2 : a < t.length := by simp at h; omega
    have hx := List.getElem?_eq_getElem h2
    obtain ⟨x1, x2, x3⟩ := hn _ (List.getElem_mem h2)
    have hg : gT t (f + 1) a root = gN (fun k => gT t f k false) t[a] a root := by
      rw [gT, if_neg (by omega), Int.toNat_natCast, hx]; rfl
    rw [hg] at hno ⊢
    generalize t[a] = n at hx x1 x2 x3 hno ⊢
    clear hg
    rw [get_map hx, ndC]
    refine vc ?_
    obtain ⟨ps, ks, cs⟩ := n
    simp only at x1 x2 x3 ⊢
    refine brB_intro (fun h3 => ?_) (fun h3 => ?_)
    · have h3 : cs = [] := List.length_eq_zero_iff.1 (by simp at h3; simp [h3])
      subst h3
      refine callq_of false [] (copyPairs_ok ps x1) rfl trivial (vc trivial) ?_
      rintro r out ⟨rfl, rfl⟩
      refine ⟨by simp, by simp, by simp, vc ?_⟩
      cases root
      · refine vc ?_
        refine drawQ_of false (by rfl) (by simp) (vc ?_)
        refine calld_of [] false [] (within_ok ps.length 2 4) rfl trivial (vc trivial) (by rfl) ⟨_, _, rfl, rfl⟩ ?_
        rintro r out ⟨rfl, rfl⟩
        refine ⟨by simp, by simp, by simp, vc ?_⟩
        rw [w64 _ (by omega)]
        refine brB_intro (fun h4 => ?_) (fun h4 => ?_)
        · have h4 : 2 ≤ ps.length ∧ ps.length ≤ 4 := by simp at h4; omega
          refine endQ_of [] (.tu [.c (.ptr (twC (.mk true ps [])) 0), In (a + 1), In 1, Bo (decide (ks.length = 0))]) [some (.box 57 [Rw (t.map (ndC false))])] (by rfl) (vc ?_) (vc trivial) ⟨?_, rfl⟩
          · rw [twC_eq]
            refine ⟨.inl rfl, ?_⟩
            rw [Bool.eq_iff_iff]; simp
          · rw [gN_leaf]
            by_cases h5 : ks.length = 0
            · rw [if_pos ⟨h4.1, h4.2, h5⟩, decide_eq_true h5]; rfl
            · rw [if_neg (fun e => h5 e.2.2), decide_eq_false h5]; exact ⟨_, _, _, rfl⟩
        · have h4 : ¬ (2 ≤ ps.length ∧ ps.length ≤ 4) := by simp at h4; omega
          refine endQ_of [] (.tu [.c (.ptr (twC (.mk true ps [])) 0), In (a + 1), In 1, Bo false]) [some (.box 57 [Rw (t.map (ndC false))])] (by rfl) (vc ?_) (vc trivial) ⟨?_, rfl⟩
          · rw [twC_eq]
            exact .inl rfl
          · rw [gN_leaf, if_neg (fun e => h4 ⟨e.1, e.2.1⟩)]; exact ⟨_, _, _, rfl⟩
      · refine vc ?_
        refine drawQ_of false (by rfl) (by simp) (vc ?_)
        refine calld_of [] false [] (within_ok ps.length 1 4) rfl trivial (vc trivial) (by rfl) ⟨_, _, rfl, rfl⟩ ?_
        rintro r out ⟨rfl, rfl⟩
        refine ⟨by simp, by simp, by simp, vc ?_⟩
        rw [w64 _ (by omega)]
        refine brB_intro (fun h4 => ?_) (fun h4 => ?_)
        · have h4 : 1 ≤ ps.length ∧ ps.length ≤ 4 := by simp at h4; omega
          refine endQ_of [] (.tu [.c (.ptr (twC (.mk true ps [])) 0), In (a + 1), In 1, Bo (decide (ks.length = 0))]) [some (.box 57 [Rw (t.map (ndC false))])] (by rfl) (vc ?_) (vc trivial) ⟨?_, rfl⟩
          · rw [twC_eq]
            refine ⟨.inl rfl, ?_⟩
            rw [Bool.eq_iff_iff]; simp
          · rw [gN_leaf]
            by_cases h5 : ks.length = 0
            · rw [if_pos ⟨h4.1, h4.2, h5⟩, decide_eq_true h5]; rfl
            · rw [if_neg (fun e => h5 e.2.2), decide_eq_false h5]; exact ⟨_, _, _, rfl⟩
        · have h4 : ¬ (1 ≤ ps.length ∧ ps.length ≤ 4) := by simp at h4; omega
          refine endQ_of [] (.tu [.c (.ptr (twC (.mk true ps [])) 0), In (a + 1), In 1, Bo false]) [some (.box 57 [Rw (t.map (ndC false))])] (by rfl) (vc ?_) (vc trivial) ⟨?_, rfl⟩
          · rw [twC_eq]
            exact .inl rfl
          · rw [gN_leaf, if_neg (fun e => h4 ⟨e.1, e.2.1⟩)]; exact ⟨_, _, _, rfl⟩
    have h3 : cs.length ≠ 0 := by simp at h3; intro e; exact h3 (by simpa using e)
    have hfail : ∀ H, H = 1 → True := fun _ _ => trivial
    refine callq_of false [] (within_ok cs.length 2 4) rfl trivial (vc trivial) ?_
    rintro r out ⟨rfl, rfl⟩
    refine ⟨by simp, by simp, by simp, vc ?_⟩
    have hbad : ¬ ((2 ≤ cs.length ∧ cs.length ≤ 4) ∧ ks.length + 1 = cs.length ∧ ps.length = 0) → growR (gN (fun k => gT t f k false) ⟨ps, ks, cs⟩ a root) (.tu [.c (.v (.pointer none)), In 0, In 0, Bo false]) := fun e => hno (by unfold gN; rw [if_neg h3, if_neg e])
    refine brB_intro (fun h4 => ?_) (fun h4 => ?_)
    · have h4 : ¬ (2 ≤ cs.length ∧ cs.length ≤ 4) := by simp at h4; omega
      exact endQ_of [] (.tu [.c (.v (.pointer none)), In 0, In 0, Bo false]) [some (.box 57 [Rw (t.map (ndC false))])] (by rfl) (vc trivial) (vc trivial) ⟨hbad (fun e => h4 e.1), rfl⟩
    have h4 : 2 ≤ cs.length ∧ cs.length ≤ 4 := by simp at h4; omega
    rw [w64 _ (by omega)]
    refine brB_intro (fun h5 => ?_) (fun h5 => ?_)
    · have h5 : ¬ ks.length + 1 = cs.length := by simp at h5; omega
      exact endQ_of [] (.tu [.c (.v (.pointer none)), In 0, In 0, Bo false]) [some (.box 57 [Rw (t.map (ndC false))])] (by rfl) (vc trivial) (vc trivial) ⟨hbad (fun e => h5 e.2.1), rfl⟩
    have h5 : ks.length + 1 = cs.length := by simp at h5; omega
    refine brB_intro (fun h6 => ?_) (fun h6 => ?_)
    · have h6 : ¬ ps.length = 0 := fun e => by rw [e] at h6; simp at h6
      exact endQ_of [] (.tu [.c (.v (.pointer none)), In 0, In 0, Bo false]) [some (.box 57 [Rw (t.map (ndC false))])] (by rfl) (vc trivial) (vc trivial) ⟨hbad (fun e => h6 e.2.2), rfl⟩
    have h6 : ps.length = 0 := by simp at h6; simp [h6]
    have hgN : gN (fun k => gT t f k false) ⟨ps, ks, cs⟩ a root = (gK (fun k => gT t f k false) cs (⟨#[]⟩ :: ks) true (a + 1) 0).map fun x => (.mk false [] x.1, x.2.1, x.2.2 + 1) := by
      unfold gN; rw [if_neg h3, if_pos ⟨h4, h5, h6⟩]
    rw [hgN] at hno ⊢
    clear hbad hgN
    rw [w64 _ (by omega)]
    refine loopQ_of (ι := Nat × Nat × Int × List Sub) (fun i => [(0, .pt 1 0 0), (10, .pt 2 0 0), (11, .pt 3 0 0), (13, In (i.2.1 : Nat)), (14, In i.2.2.1), (86, Rw (cs.map inC)), (87, In cs.length), (88, In (i.1 : Nat))]) (fun i => [(1, .box 57 [Rw (t.map (ndC false))]), (2, .box 125 [Rw (ps.map prC), Rw (ks.map stC), Rw (cs.map inC)]), (3, .box 191 [.nul, .sl 4 i.1]), (4, .rw 127 1 (i.2.2.2.map fun x => [CV.ptr (twC x) 0]))]) 5 (fun i => cs.length - i.1)
      (fun i => i.1 ≤ cs.length ∧ i.2.2.2.length = i.1 ∧ a + 1 ≤ i.2.1 ∧ i.2.1 ≤ t.length ∧ 0 ≤ i.2.2.1 ∧ i.2.2.1 ≤ t.length ∧ gK (fun k => gT t f k false) cs (⟨#[]⟩ :: ks) true (a + 1) 0 = (gK (fun k => gT t f k false) (cs.drop i.1) (((⟨#[]⟩ : ByteArray) :: ks).drop i.1) (decide (i.1 = 0)) i.2.1 i.2.2.1).map fun y => (i.2.2.2 ++ y.1, y.2)) (0, a + 1, 0, []) ⟨Nat.zero_le _, rfl, Nat.le_refl _, h2, Int.le_refl _, Int.natCast_nonneg _, by simp⟩ [(2, 146), (3, 170), (4, 0)] (by rfl) (vc ?_) (vc ?_) (fun i hi N hN => ?_)
    · omega
    · trivial
    obtain ⟨i, nx, d, acc⟩ := i
    obtain ⟨hi, hacc, hnx1, hnx2, hd1, hd2, hL⟩ := hi
    simp only at hi hacc hnx1 hnx2 hd1 hd2 hL hN
    refine vc (brB_intro (fun h => ?_) (fun h => ?_))
    · have h : i < cs.length := by simpa using h
      have hy := List.getElem?_eq_getElem h
      rw [List.drop_eq_getElem_cons h, gK] at hL
      rw [get_map hy, inC]
      refine vc (brB_intro (fun h7 => ?_) (fun h7 => ?_))
      · have h7 : ¬ cs[i] = (nx : Int) := by simpa using h7
        rw [if_neg h7] at hL
        exact endQ_of [] (.tu [.c (.v (.pointer none)), In 0, In 0, Bo false]) [some (.box 57 [Rw (t.map (ndC false))])] (by rfl) (vc trivial) (vc trivial) ⟨hno (by rw [hL]; rfl), rfl⟩
      have h7 : cs[i] = (nx : Int) := by simpa using h7
      rw [if_pos h7] at hL
      have hc := ih nx false (by omega) (by omega)
      have hsn := gT_sound t f nx false
      rw [← h7] at hc hsn
      cases hr : gT t f cs[i] false with
      | none =>
        rw [hr] at hc hL
        refine callq_of false [1] hc rfl (vc trivial) (vc trivial) ?_
        rintro r out ⟨⟨y, n, m, rfl⟩, rfl⟩
        refine ⟨by simp, by simp, by simp, vc ?_⟩
        refine drawQ_of false (by rfl) (by simp) (vc ?_)
        exact endQ_of [] (.tu [.c (.v (.pointer none)), In 0, In 0, Bo false]) [some (.box 57 [Rw (t.map (ndC false))])] (by rfl) (vc trivial) (vc trivial) ⟨hno (by rw [hL]; rfl), rfl⟩
      | some x =>
        obtain ⟨s1, s2, s3, s4, s5, n', s6⟩ := gOk_sizes (hsn x hr)
        obtain ⟨x, nx', d'⟩ := x
        simp only at s1 s2 s3 s4 s5 s6
        subst s6
        rw [hr, Option.bind_some] at hL
        simp only at hL
        rw [hr] at hc
        refine callq_of false [1] hc rfl (vc trivial) (vc trivial) ?_
        rintro r out ⟨rfl, rfl⟩
        refine ⟨by simp, by simp, by simp, vc ?_⟩
        refine drawQ_of false (by rfl) (by simp) (vc ?_)
        refine brB_intro (fun h8 => ?_) (fun h8 => ?_)
        · have h8 : 0 < i := by simpa using h8
          obtain ⟨k, rfl⟩ : ∃ k, i = k + 1 := ⟨i - 1, by omega⟩
          have hk : k < ks.length := by omega
          have hky := List.getElem?_eq_getElem hk
          have hhd : (((⟨#[]⟩ : ByteArray) :: ks).drop (k + 1)).head? = some ks[k] := by rw [List.drop_succ_cons, List.head?_drop, hky]
          rw [hhd] at hL
          refine brB_intro (fun h9 => ?_) (fun h9 => ?_)
          · have h9 : d' ≠ d := by simpa using h9
            rw [if_pos ⟨by simp, .inl h9⟩] at hL
            exact endQ_of [] (.tu [.c (.v (.pointer none)), In 0, In 0, Bo false]) [some (.box 57 [Rw (t.map (ndC false))])] (by rfl) (vc trivial) (vc trivial) ⟨hno (by rw [hL]; rfl), rfl⟩
          have h9 : d' = d := by simpa using h9
          rw [w64 _ (by omega), show (((k + 1 : Nat) : Int) - 1) = ((k : Nat) : Int) by omega]
          refine vc ?_
          rw [get_map hky, stC]
          refine vc ?_
          refine calld_of [] false [] (twLeast_ok x s5) rfl trivial (vc trivial) (by rfl) ⟨_, _, rfl, rfl⟩ ?_
          rintro r out ⟨rfl, rfl⟩
          refine ⟨by simp, by simp, by simp, vc ?_⟩
          refine brB_intro (fun hb => ?_) (fun hb => ?_)
          · have hb : ks[k] ≠ fstK x.lmost := fun e => by rw [e] at hb; simp at hb
            rw [if_pos ⟨by simp, .inr (fun e => hb (Option.some.inj e))⟩] at hL
            exact endQ_of [] (.tu [.c (.v (.pointer none)), In 0, In 0, Bo false]) [some (.box 57 [Rw (t.map (ndC false))])] (by rfl) (vc trivial) (vc trivial) ⟨hno (by rw [hL]; rfl), rfl⟩
          have hb : ks[k] = fstK x.lmost := ba_ext (by simpa using hb)
          rw [if_neg (fun e => e.2.elim (fun e => e h9) (fun e => e (by rw [hb])))] at hL
          refine ⟨⟨hacc.symm, by simp, by unfold maxLen; omega, by omega⟩, ?_⟩
          refine hN _ (k + 1 + 1, n', d', acc ++ [x]) [(4, 437)] ⟨h, by simp [hacc], show a + 1 ≤ n' by omega, show n' ≤ t.length by omega, show 0 ≤ d' by omega, show d' ≤ t.length by omega, ?_⟩ (by simp only; omega) (by rfl) (vc ?_) (vc ?_)
          · rw [hL, List.tail_drop]; simp [Function.comp_def]
          · rw [w64 _ (by omega)]; simp
          · exact ⟨hacc, by simp⟩
        · have h8 : i = 0 := by simp at h8; omega
          subst h8
          rw [if_neg (by simp)] at hL
          refine ⟨⟨hacc.symm, by simp, by unfold maxLen; omega, by omega⟩, ?_⟩
          refine hN _ (0 + 1, n', d', acc ++ [x]) [(4, 437)] ⟨h, by simp [hacc], show a + 1 ≤ n' by omega, show n' ≤ t.length by omega, show 0 ≤ d' by omega, show d' ≤ t.length by omega, ?_⟩ (by simp only; omega) (by rfl) (vc ?_) (vc ?_)
          · rw [hL, List.tail_drop]; simp [Function.comp_def]
          · rw [w64 _ (by omega)]; simp
          · exact ⟨hacc, by simp⟩
    · have h : i = cs.length := by simp at h; omega
      rw [List.drop_of_length_le (by omega), gK] at hL
      rw [hL]
      rw [if_pos hacc.symm]
      refine endQ_of [] (.tu [.c (.ptr (twC (.mk false [] acc)) 0), In nx, In (d + 1), Bo true]) [some (.box 57 [Rw (t.map (ndC false))])] (by rfl) (vc ?_) (vc ?_) ⟨?_, rfl⟩
      · rw [twC_eq, w64 _ (by omega)]
        exact ⟨.inl rfl, rfl⟩
      · trivial
      · simp [growR]
end Go.Proofs.Ytnnmpdanfeejbaa.Abs

/- The program's trees within: root, TreeOk, TreeAll, TreeGet, Depth. -/
namespace Go.Proofs.Ytnnmpdanfeejbaa.Abs
open Go Go.Proofs
set_option maxRecDepth 10000
set_option linter.unusedVariables false
set_option linter.unusedSimpArgs false
def rootR : Option (Option Sub × Int) → AV
  | some (none, d) => .tu [.c (.v (.pointer none)), In d, Bo true]
  | some (some s, d) => .tu [.c (.ptr (twC s) 0), In d, Bo true]
  | none => .tu [.c (.v (.pointer none)), In 0, Bo false]
theorem small_keys {t : List Nd} {s : Sub} (hs : small t) (h : goodT t s) : s.sz ≤ 2^40 ∧ s.gath.length ≤ 2^40 ∧ ∀ p ∈ s.gath, p.k.size ≤ 2^60 := by
  obtain ⟨h1, h2, h3, h4⟩ := good_sizes h
  have hl := hs.1
  refine ⟨by omega, by omega, fun p hp => ?_⟩
  obtain ⟨x, hx, hp⟩ := h4 p hp
  have := ((hs.2 x hx).2.2.2.1 p hp).1
  omega
theorem implRoot_ok {t : List Nd} (hs : small t) : CallOk Try.prog 93 [.box 57 [Rw (t.map (ndC false))]] [.pt 1 0 0] (fun r out => r = rootR (gRoot t) ∧ out = [some (.box 57 [Rw (t.map (ndC false))])]) := by
  obtain ⟨⟨h1, h2⟩, h3, h4, h5⟩ := small_ok hs
  refine callOk_z (np := 1) {} mixed Try.func93 (by rfl) Try.ntmps93 Try.results93 (by rfl) (Nat.le_of_ble_eq_true rfl) rfl rfl rfl (vc ?_)
  unfold gRoot
  refine brB_intro (fun h => ?_) (fun h => ?_)
  · rw [if_pos (by simp at h; simp [h])]
    exact endQ_of [] (.tu [.c (.v (.pointer none)), In 0, Bo true]) [some (.box 57 [Rw (t.map (ndC false))])] (by rfl) (vc trivial) (vc trivial) ⟨rfl, rfl⟩
  rw [if_neg (fun e => by simp [List.length_eq_zero_iff.1 e] at h)]
  have hc := grow_ok t h1 h2 (t.length + 1) 0 true (by omega) (by omega)
  rw [show ((0 : Nat) : Int) = 0 from rfl] at hc
  have hsn := gT_sound t (t.length + 1) 0 true
  have hgr := gR_iff t
  unfold gR at hgr ⊢
  rw [show ((0 : Nat) : Int) = 0 from rfl] at hsn
  cases hg : gT t (t.length + 1) 0 true with
  | none =>
    rw [hg] at hc
    refine callq_of false [1] hc rfl (vc trivial) (vc trivial) ?_
    rintro r out ⟨⟨y, n, m, rfl⟩, rfl⟩
    refine ⟨by simp, by simp, by simp, vc ?_⟩
    exact endQ_of [] (.tu [.c (.v (.pointer none)), In 0, Bo false]) [some (.box 57 [Rw (t.map (ndC false))])] (by rfl) (vc trivial) (vc trivial) ⟨rfl, rfl⟩
  | some x =>
    obtain ⟨s, nx, d⟩ := x
    rw [hg] at hc hgr
    refine callq_of false [1] hc rfl (vc trivial) (vc trivial) ?_
    rintro r out ⟨rfl, rfl⟩
    refine ⟨by simp, by simp, by simp, vc ?_⟩
    refine brB_intro (fun h6 => ?_) (fun h6 => ?_)
    · rw [if_neg (by simpa using h6)]
      exact endQ_of [] (.tu [.c (.v (.pointer none)), In 0, Bo false]) [some (.box 57 [Rw (t.map (ndC false))])] (by rfl) (vc trivial) (vc trivial) ⟨rfl, rfl⟩
    have h6 : nx = t.length := by simpa using h6
    simp only [if_pos h6] at hgr ⊢
    have hgd := ((hgr s d).1 rfl).1
    obtain ⟨k1, k2, k3⟩ := small_keys hs hgd
    refine callq_of false [] (all0_ok s k1 k2) rfl trivial (vc trivial) ?_
    rintro r out ⟨rfl, rfl⟩
    refine ⟨by simp, by simp, by simp, vc ?_⟩
    refine callq_of true [] (implPairsOk_ok s.gath k2 k3) rfl trivial (vc trivial) ?_
    rintro r out ⟨rfl, rfl⟩
    refine ⟨by simp, by simp, fun _ => ⟨.v _, by simp⟩, vc ?_⟩
    by_cases hp : pairsOk s.gath
    · rw [tf_true hp]
      simp only [if_pos hp]
      refine vc ?_
      exact endQ_of [] (.tu [.c (.ptr (twC s) 0), In d, Bo true]) [some (.box 57 [Rw (t.map (ndC false))])] (by rfl) (vc trivial) (vc trivial) ⟨rfl, rfl⟩
    · rw [tf_false hp]
      simp only [if_neg hp]
      refine vc ?_
      exact endQ_of [] (.tu [.c (.v (.pointer none)), In 0, Bo false]) [some (.box 57 [Rw (t.map (ndC false))])] (by rfl) (vc trivial) (vc trivial) ⟨rfl, rfl⟩
theorem implTreeOk_ok {t : List Nd} (hs : small t) : CallOk Try.prog 30 [] [treeAg t] (fun r out => r = Bo (tf (specOk t)) ∧ out = []) := by
  have hc := implRoot_ok hs
  have hg := (gRoot_spec t).1
  unfold treeAg
  refine callOk_z (np := 0) {} mixed Try.func30 (by rfl) Try.ntmps30 Try.results30 (by rfl) (Nat.le_of_ble_eq_true rfl) rfl rfl rfl (vc ?_)
  refine callq_of false [1] hc rfl (vc trivial) (vc trivial) ?_
  rintro r out ⟨rfl, rfl⟩
  refine ⟨by simp, by simp, by simp, ?_⟩
  cases hr : gRoot t with
  | none =>
    rw [hr] at hg
    rw [rootR]
    refine vc ?_
    refine EndQ.closed (.v _) ⟨?_, rfl⟩
    rw [tf_false (fun e => by simpa using hg.1 e)]
  | some x =>
    obtain ⟨x, d⟩ := x
    rw [hr] at hg
    rw [tf_true (hg.2 rfl)]
    cases x with
    | none => rw [rootR]; refine vc ?_; exact EndQ.closed (.v _) ⟨rfl, rfl⟩
    | some s => rw [rootR]; refine vc ?_; exact EndQ.closed (.v _) ⟨rfl, rfl⟩
theorem implDepth_ok {t : List Nd} (hs : small t) : CallOk Try.prog 33 [] [treeAg t] (fun r out => r = In (specDepth t) ∧ out = []) := by
  have hc := implRoot_ok hs
  obtain ⟨hg, hg2⟩ := gRoot_spec t
  unfold treeAg
  refine callOk_z (np := 0) {} mixed Try.func33 (by rfl) Try.ntmps33 Try.results33 (by rfl) (Nat.le_of_ble_eq_true rfl) rfl rfl rfl (vc ?_)
  refine callq_of false [1] hc rfl (vc trivial) (vc trivial) ?_
  rintro r out ⟨rfl, rfl⟩
  refine ⟨by simp, by simp, by simp, ?_⟩
  unfold specDepth
  cases hr : gRoot t with
  | none =>
    rw [hr] at hg
    rw [rootR, tf_false (fun e => by simpa using hg.1 e)]
    refine vc ?_; exact EndQ.closed (.v _) ⟨rfl, rfl⟩
  | some x =>
    rw [hr] at hg
    rw [tf_true (hg.2 rfl)]
    rcases hg2 x hr with ⟨h1, rfl⟩ | ⟨h1, s, h2, h3, rfl, h4⟩
    · rw [rootR]
      refine vc ?_
      refine EndQ.closed (.v _) ⟨?_, rfl⟩
      simp [h1]
    · rw [rootR]
      refine vc ?_
      refine EndQ.closed (.v _) ⟨?_, rfl⟩
      rw [h4]
      simp [h1]
theorem pairs0_ok : CallOk Try.prog 100 [] [.c (.v (.pointer none))] (fun r out => r = .sl 1 0 ∧ out = [some (.rw 133 2 [])]) := by
  refine callOk_z (np := 0) {} mixed Try.func100 (by rfl) Try.ntmps100 Try.results100 (by rfl) (Nat.le_of_ble_eq_true rfl) rfl rfl rfl (vc ?_)
  exact endQ_of [(1, 0)] (.sl 1 0) [some (.rw 133 2 [])] (by rfl) (vc trivial) (vc trivial) ⟨rfl, rfl⟩
theorem implTwPairs_ok (s : Sub) (hk : s.sz ≤ 2^40) (hp : s.gath.length ≤ 2^40) : CallOk Try.prog 100 [] [.c (.ptr (twC s) 0)] (fun r out => r = .sl 1 s.gath.length ∧ out = [some (.rw 133 2 (s.gath.map prC))]) := by
  refine callOk_z (np := 0) {} mixed Try.func100 (by rfl) Try.ntmps100 Try.results100 (by rfl) (Nat.le_of_ble_eq_true rfl) rfl rfl rfl (vc ?_)
  refine ⟨rfl, ?_⟩
  refine callq_of false [] (all0_ok s hk hp) rfl trivial (vc trivial) ?_
  rintro r out ⟨rfl, rfl⟩
  refine ⟨by simp, by simp, by simp, vc ?_⟩
  exact endQ_of [(1, 33)] (.sl 1 s.gath.length) [some (.rw 133 2 (s.gath.map prC))] (by rfl) (vc trivial) (vc trivial) ⟨rfl, rfl⟩
theorem implAll_ok {t : List Nd} (hs : small t) : CallOk Try.prog 43 [] [treeAg t] (fun r out => r = .sl 1 (specAll t).length ∧ out = [some (.rw 133 2 ((specAll t).map prC))]) := by
  have hc := implRoot_ok hs
  obtain ⟨hg, hg2⟩ := gRoot_spec t
  unfold treeAg
  refine callOk_z (np := 0) {} mixed Try.func43 (by rfl) Try.ntmps43 Try.results43 (by rfl) (Nat.le_of_ble_eq_true rfl) rfl rfl rfl (vc ?_)
  refine callq_of false [1] hc rfl (vc trivial) (vc trivial) ?_
  rintro r out ⟨rfl, rfl⟩
  refine ⟨by simp, by simp, by simp, ?_⟩
  unfold specAll
  cases hr : gRoot t with
  | none =>
    rw [hr] at hg
    rw [rootR, tf_false (fun e => by simpa using hg.1 e)]
    refine vc ?_
    exact endQ_of [(1, 0)] (.sl 1 0) [some (.rw 133 2 [])] (by rfl) (vc trivial) (vc trivial) ⟨rfl, rfl⟩
  | some x =>
    rw [hr] at hg
    rw [tf_true (hg.2 rfl)]
    rcases hg2 x hr with ⟨h1, rfl⟩ | ⟨h1, s, h2, h3, rfl, h4⟩
    · rw [rootR]
      refine vc ?_
      refine callq_of false [] pairs0_ok rfl trivial (vc trivial) ?_
      rintro r out ⟨rfl, rfl⟩
      refine ⟨by simp, by simp, by simp, vc ?_⟩
      subst h1
      exact endQ_of [(1, 105)] (.sl 1 0) [some (.rw 133 2 [])] (by rfl) (vc trivial) (vc trivial) ⟨rfl, rfl⟩
    · rw [rootR]
      refine vc ?_
      obtain ⟨k1, k2, k3⟩ := small_keys hs h2
      refine callq_of false [] (implTwPairs_ok s k1 k2) rfl trivial (vc trivial) ?_
      rintro r out ⟨rfl, rfl⟩
      refine ⟨by simp, by simp, by simp, vc ?_⟩
      rw [h4, ← (good_sizes h2).1]
      exact endQ_of [(1, 105)] (.sl 1 s.gath.length) [some (.rw 133 2 (s.gath.map prC))] (by rfl) (vc trivial) (vc trivial) ⟨rfl, rfl⟩
theorem getL_no {k : ByteArray} : ∀ {l : List Pr}, (∀ p ∈ l, p.k ≠ k) → getL k l = (⟨#[]⟩, false)
  | [], _ => rfl
  | p :: r, h => by rw [getL, if_neg (h p (List.mem_cons_self ..)), getL_no (fun q hq => h q (List.mem_cons_of_mem _ hq))]
theorem specGet_eq (t : List Nd) (k : ByteArray) : specGet t k = getL k (specAll t) := by
  unfold specGet
  by_cases hk : keyOk k
  · rw [tf_true hk, if_pos rfl]
  · rw [tf_false hk, if_neg (by simp), getL_no]
    intro p hp e
    unfold specAll at hp
    obtain ⟨hg, hg2⟩ := gRoot_spec t
    cases hr : gRoot t with
    | none =>
      rw [hr] at hg
      rw [tf_false (fun e => by simpa using hg.1 e)] at hp
      simp at hp
    | some x =>
      rw [hr] at hg
      rw [tf_true (hg.2 rfl), if_pos rfl] at hp
      rcases hg2 x hr with ⟨h1, rfl⟩ | ⟨h1, s, h2, h3, rfl, h4⟩
      · subst h1
        simp [rootT, Sub.pairs, Sub.pairsL] at hp
      · rw [h4] at hp
        exact hk (e ▸ (h3.2.1 p hp).1)
theorem implGet_ok {t : List Nd} (hs : small t) (k : ByteArray) : CallOk Try.prog 35 [] [treeAg t, .c (.v (.string k))] (fun r out => r = .tu [.c (.v (.string (specGet t k).1)), Bo (specGet t k).2] ∧ out = []) := by
  have hl := specAll_len hs
  have hc := implAll_ok hs
  rw [specGet_eq]
  unfold treeAg at hc ⊢
  refine callOk_z (np := 0) {} mixed Try.func35 (by rfl) Try.ntmps35 Try.results35 (by rfl) (Nat.le_of_ble_eq_true rfl) rfl rfl rfl (vc ?_)
  refine callq_of false [] hc rfl trivial (vc trivial) ?_
  rintro r out ⟨rfl, rfl⟩
  refine ⟨by simp, by simp, by simp, vc ?_⟩
  generalize specAll t = l at *
  refine loopQ_of (fun i => [(1, .c (.v (.string k))), (9, .sl 1 l.length), (10, In l.length), (11, In (i : Nat))]) (fun i => [(1, .rw 133 2 (l.map prC))]) 2 (fun i => l.length - i) (fun i => i ≤ l.length ∧ getL k l = getL k (l.drop i)) 0 ⟨Nat.zero_le _, rfl⟩ [(1, 33)] (by rfl) (vc trivial) (vc trivial) (fun i hi N hN => vc (brB_intro (fun h => ?_) (fun h => ?_)))
  · have h : i < l.length := by simpa using h
    have hx := List.getElem?_eq_getElem h
    have hL := hi.2
    rw [List.drop_eq_getElem_cons h, getL] at hL
    refine ⟨h, ?_⟩
    rw [get_map hx, prC]
    refine vc (brB_intro (fun hb => ?_) (fun hb => ?_))
    · have hb : l[i].k = k := ba_ext (by simpa using hb)
      rw [hL, if_pos hb]
      exact endQ_of [] (.tu [.c (.v (.string l[i].v)), Bo true]) [] (by rfl) (vc trivial) (vc trivial) ⟨rfl, rfl⟩
    · have hb : ¬ l[i].k = k := fun e => by rw [e] at hb; simp at hb
      rw [if_neg hb] at hL
      refine hN _ (i + 1) [] ⟨h, hL⟩ (by omega) (by rfl) (vc ?_) (vc trivial)
      rw [w64 _ (by omega)]; simp
  · have h : i = l.length := by have := hi.1; simp at h; omega
    have hL := hi.2
    rw [List.drop_of_length_le (by omega), getL] at hL
    rw [hL]
    exact endQ_of [] (.tu [.c (.v (.string ⟨#[]⟩)), Bo false]) [] (by rfl) (vc trivial) (vc trivial) ⟨rfl, rfl⟩
end Go.Proofs.Ytnnmpdanfeejbaa.Abs

/- The laws on trees, walked. -/
namespace Go.Proofs.Ytnnmpdanfeejbaa.Abs
open Go Go.Proofs
set_option maxRecDepth 10000
set_option linter.unusedVariables false
set_option linter.unusedSimpArgs false
theorem lawTreeOk_ok (t : List Nd) (hls : t.length ≤ 2^47 ∧ ∀ x ∈ t, x.fits (2^47)) : CallOk Try.prog 5 [] [.ag [Rw (t.map (ndC false))]] (fun r out => r = Bo true ∧ out = []) := by
  refine callOk_z (np := 0) {} mixed Try.func5 (by rfl) Try.ntmps5 Try.results5 (by rfl) (Nat.le_of_ble_eq_true rfl) rfl rfl rfl (vc ?_)
  refine callq_of false [] (szTree_ok t 1048576 hls.1 hls.2 (by omega)) rfl trivial (vc trivial) ?_
  rintro r out ⟨rfl, rfl⟩
  refine ⟨by simp, by simp, by simp, vc ?_⟩
  have hc := szB_cases (szT t) 1048576
  refine brB_intro (fun h => EndQ.closed (.v _) ⟨rfl, rfl⟩) (fun h => ?_)
  have h1 : ¬ szB (szT t) 1048576 < 0 := by simpa using h
  have hsm : small t := treeFits (by omega)
  have hf : t.length ≤ 2^40 ∧ ∀ x ∈ t, x.fits (2^40) := treeFits (by omega)
  have hsp := specTreeOk_small hsm
  have him := implTreeOk_ok hsm
  unfold treeAg at hsp him
  refine callq_of false [] (toTree_ok t hf.1 hf.2) rfl trivial (vc trivial) ?_
  rintro r out ⟨rfl, rfl⟩
  refine ⟨by simp, by simp, by simp, vc ?_⟩
  refine callq_of true [] hsp rfl trivial (vc trivial) ?_
  rintro r out ⟨rfl, rfl⟩
  refine ⟨by simp, by simp, fun _ => ⟨.v _, by simp⟩, vc ?_⟩
  refine callq_of false [] (toTree_ok t hf.1 hf.2) rfl trivial (vc trivial) ?_
  rintro r out ⟨rfl, rfl⟩
  refine ⟨by simp, by simp, by simp, vc ?_⟩
  refine callq_of true [] him rfl trivial (vc trivial) ?_
  rintro r out ⟨rfl, rfl⟩
  refine ⟨by simp, by simp, fun _ => ⟨.v _, by simp⟩, vc ?_⟩
  refine drawQ_of false (by rfl) (by simp) (vc ?_)
  refine calld_of [] false [] (toTree_ok t hf.1 hf.2) rfl trivial (vc trivial) (by rfl) ⟨_, _, rfl, rfl⟩ ?_
  rintro r out ⟨rfl, rfl⟩
  refine ⟨by simp, by simp, by simp, vc ?_⟩
  refine calld_of [113, 201] true [] (eqTree_ok t t hf.1 hf.2) rfl trivial (vc trivial) (by rfl) ⟨_, _, rfl, rfl⟩ ?_
  rintro r out ⟨rfl, rfl⟩
  refine ⟨by simp, by simp, fun _ => ⟨.v _, by simp⟩, vc ?_⟩
  exact EndQ.closed (.v _) ⟨rfl, rfl⟩
theorem lawDepth_ok (t : List Nd) (hls : t.length ≤ 2^47 ∧ ∀ x ∈ t, x.fits (2^47)) : CallOk Try.prog 6 [] [.ag [Rw (t.map (ndC false))]] (fun r out => r = Bo true ∧ out = []) := by
  refine callOk_z (np := 0) {} mixed Try.func6 (by rfl) Try.ntmps6 Try.results6 (by rfl) (Nat.le_of_ble_eq_true rfl) rfl rfl rfl (vc ?_)
  refine callq_of false [] (szTree_ok t 1048576 hls.1 hls.2 (by omega)) rfl trivial (vc trivial) ?_
  rintro r out ⟨rfl, rfl⟩
  refine ⟨by simp, by simp, by simp, vc ?_⟩
  have hc := szB_cases (szT t) 1048576
  refine brB_intro (fun h => EndQ.closed (.v _) ⟨rfl, rfl⟩) (fun h => ?_)
  have h1 : ¬ szB (szT t) 1048576 < 0 := by simpa using h
  have hsm : small t := treeFits (by omega)
  have hf : t.length ≤ 2^40 ∧ ∀ x ∈ t, x.fits (2^40) := treeFits (by omega)
  have hsp := specDepth_ok hsm
  have him := implDepth_ok hsm
  unfold treeAg at hsp him
  refine callq_of false [] (toTree_ok t hf.1 hf.2) rfl trivial (vc trivial) ?_
  rintro r out ⟨rfl, rfl⟩
  refine ⟨by simp, by simp, by simp, vc ?_⟩
  refine callq_of true [] hsp rfl trivial (vc trivial) ?_
  rintro r out ⟨rfl, rfl⟩
  refine ⟨by simp, by simp, fun _ => ⟨.v _, by simp⟩, vc ?_⟩
  refine callq_of false [] (toTree_ok t hf.1 hf.2) rfl trivial (vc trivial) ?_
  rintro r out ⟨rfl, rfl⟩
  refine ⟨by simp, by simp, by simp, vc ?_⟩
  refine callq_of true [] him rfl trivial (vc trivial) ?_
  rintro r out ⟨rfl, rfl⟩
  refine ⟨by simp, by simp, fun _ => ⟨.v _, by simp⟩, vc ?_⟩
  refine drawQ_of false (by rfl) (by simp) (vc ?_)
  refine calld_of [] false [] (toTree_ok t hf.1 hf.2) rfl trivial (vc trivial) (by rfl) ⟨_, _, rfl, rfl⟩ ?_
  rintro r out ⟨rfl, rfl⟩
  refine ⟨by simp, by simp, by simp, vc ?_⟩
  refine calld_of [113, 201] true [] (eqTree_ok t t hf.1 hf.2) rfl trivial (vc trivial) (by rfl) ⟨_, _, rfl, rfl⟩ ?_
  rintro r out ⟨rfl, rfl⟩
  refine ⟨by simp, by simp, fun _ => ⟨.v _, by simp⟩, vc ?_⟩
  exact EndQ.closed (.v _) ⟨rfl, rfl⟩
theorem lawTreeGet_ok (t : List Nd) (k : ByteArray) (hls : t.length ≤ 2^47 ∧ ∀ x ∈ t, x.fits (2^47)) (hk : k.size ≤ 140737488351232) : CallOk Try.prog 7 [] [.ag [Rw (t.map (ndC false))], .c (.v (.string k))] (fun r out => r = Bo true ∧ out = []) := by
  refine callOk_z (np := 0) {} mixed Try.func7 (by rfl) Try.ntmps7 Try.results7 (by rfl) (Nat.le_of_ble_eq_true rfl) rfl rfl rfl (vc ?_)
  refine brB_intro (fun h => EndQ.closed (.v _) ⟨rfl, rfl⟩) (fun h => ?_)
  refine callq_of false [] (szTree_ok t 1048576 hls.1 hls.2 (by omega)) rfl trivial (vc trivial) ?_
  rintro r out ⟨rfl, rfl⟩
  refine ⟨by simp, by simp, by simp, vc ?_⟩
  have hc := szB_cases (szT t) 1048576
  refine brB_intro (fun h => EndQ.closed (.v _) ⟨rfl, rfl⟩) (fun h => ?_)
  have h1 : ¬ szB (szT t) 1048576 < 0 := by simpa using h
  have hsm : small t := treeFits (by omega)
  have hf : t.length ≤ 2^40 ∧ ∀ x ∈ t, x.fits (2^40) := treeFits (by omega)
  have hsp := specGet_ok hsm k
  have him := implGet_ok hsm k
  unfold treeAg at hsp him
  refine callq_of false [] (toTree_ok t hf.1 hf.2) rfl trivial (vc trivial) ?_
  rintro r out ⟨rfl, rfl⟩
  refine ⟨by simp, by simp, by simp, vc ?_⟩
  refine callq_of true [] hsp rfl trivial (vc trivial) ?_
  rintro r out ⟨rfl, rfl⟩
  refine ⟨by simp, by simp, fun _ => ⟨.tu _ (by simp; exact ⟨.v _, .v _⟩), by simp⟩, vc ?_⟩
  refine callq_of false [] (toTree_ok t hf.1 hf.2) rfl trivial (vc trivial) ?_
  rintro r out ⟨rfl, rfl⟩
  refine ⟨by simp, by simp, by simp, vc ?_⟩
  refine callq_of true [] him rfl trivial (vc trivial) ?_
  rintro r out ⟨rfl, rfl⟩
  refine ⟨by simp, by simp, fun _ => ⟨.tu _ (by simp; exact ⟨.v _, .v _⟩), by simp⟩, vc ?_⟩
  refine drawQ_of false (by rfl) (by simp) (vc ?_)
  refine calld_of [] false [] (toTree_ok t hf.1 hf.2) rfl trivial (vc trivial) (by rfl) ⟨_, _, rfl, rfl⟩ ?_
  rintro r out ⟨rfl, rfl⟩
  refine ⟨by simp, by simp, by simp, vc ?_⟩
  refine calld_of [177, 345] true [] (eqTree_ok t t hf.1 hf.2) rfl trivial (vc trivial) (by rfl) ⟨_, _, rfl, rfl⟩ ?_
  rintro r out ⟨rfl, rfl⟩
  refine ⟨by simp, by simp, fun _ => ⟨.v _, by simp⟩, vc ?_⟩
  exact EndQ.closed (.v _) ⟨rfl, rfl⟩
theorem lawTreeAll_ok (t : List Nd) (hls : t.length ≤ 2^47 ∧ ∀ x ∈ t, x.fits (2^47)) : CallOk Try.prog 9 [] [.ag [Rw (t.map (ndC false))]] (fun r out => r = Bo true ∧ out = []) := by
  refine callOk_z (np := 0) {} mixed Try.func9 (by rfl) Try.ntmps9 Try.results9 (by rfl) (Nat.le_of_ble_eq_true rfl) rfl rfl rfl (vc ?_)
  refine callq_of false [] (szTree_ok t 1048576 hls.1 hls.2 (by omega)) rfl trivial (vc trivial) ?_
  rintro r out ⟨rfl, rfl⟩
  refine ⟨by simp, by simp, by simp, vc ?_⟩
  have hc := szB_cases (szT t) 1048576
  refine brB_intro (fun h => EndQ.closed (.v _) ⟨rfl, rfl⟩) (fun h => ?_)
  have h1 : ¬ szB (szT t) 1048576 < 0 := by simpa using h
  have hsm : small t := treeFits (by omega)
  have hf : t.length ≤ 2^40 ∧ ∀ x ∈ t, x.fits (2^40) := treeFits (by omega)
  have hsp := specAll_ok hsm
  have him := implAll_ok hsm
  unfold treeAg at hsp him
  have hal := specAll_len hsm
  generalize specAll t = l at hsp him hal
  have hc2 := sumL_c2 l
  have hct := cntN_le t
  refine callq_of false [] (toTree_ok t hf.1 hf.2) rfl trivial (vc trivial) ?_
  rintro r out ⟨rfl, rfl⟩
  refine ⟨by simp, by simp, by simp, vc ?_⟩
  have hrs : true = true → Rs true 1 (.sl 1 l.length) ∧ ∀ ob, some ob ∈ [some (Ob.rw 133 2 (l.map prC))] → RsOb true 1 ob := fun _ => ⟨.sl 1 _ (by omega) (by simp), by intro ob h; simp at h; subst h; exact .inr (own_pr _)⟩
  refine callq_of true [] hsp rfl trivial (vc trivial) ?_
  rintro r out ⟨rfl, rfl⟩
  refine ⟨by simp, by simp, hrs, vc ?_⟩
  refine callq_of false [] (toTree_ok t hf.1 hf.2) rfl trivial (vc trivial) ?_
  rintro r out ⟨rfl, rfl⟩
  refine ⟨by simp, by simp, by simp, vc ?_⟩
  refine callq_of true [] him rfl trivial (vc trivial) ?_
  rintro r out ⟨rfl, rfl⟩
  refine ⟨by simp, by simp, hrs, vc ?_⟩
  refine callq_of true [] (eqPairS_ok l l hal (fun _ _ => trivial)) rfl trivial (vc trivial) ?_
  rintro r out ⟨rfl, rfl⟩
  refine ⟨by simp, by simp, fun _ => ⟨.v _, by simp⟩, vc ?_⟩
  refine drawQ_of false (by rfl) (by simp) (vc ?_)
  refine calld_of [] false [] (toTree_ok t hf.1 hf.2) rfl trivial (vc trivial) (by rfl) ⟨_, _, rfl, rfl⟩ ?_
  rintro r out ⟨rfl, rfl⟩
  refine ⟨by simp, by simp, by simp, vc ?_⟩
  refine calld_of [113, 209] true [] (eqTree_ok t t hf.1 hf.2) rfl trivial (vc trivial) (by rfl) ⟨_, _, rfl, rfl⟩ ?_
  rintro r out ⟨rfl, rfl⟩
  refine ⟨by simp, by simp, fun _ => ⟨.v _, by simp⟩, vc ?_⟩
  refine callq_of false [113] (markTree_ok 125 t 1 (by omega) (by omega)) rfl (vc trivial) (vc trivial) ?_
  rintro r out ⟨rfl, rfl⟩
  refine ⟨by simp, by simp, by simp, vc ?_⟩
  refine brB_intro (fun h => by simp at h; omega) (fun h => ?_)
  refine callq_of true [] (eqPairS_ok l l hal (fun _ _ => trivial)) rfl trivial (vc trivial) ?_
  rintro r out ⟨rfl, rfl⟩
  refine ⟨by simp, by simp, fun _ => ⟨.v _, by simp⟩, vc ?_⟩
  refine callq_of false [145] (markPairS_ok 133 l 1 (by omega) (by omega)) rfl (vc trivial) (vc trivial) ?_
  rintro r out ⟨rfl, rfl⟩
  refine ⟨by simp, by simp, by simp, vc ?_⟩
  refine callq_of true [] (heldMarkedPairS_ok l 1 (by omega) (by omega)) rfl trivial (by refine vc ?_; exact (mkL_length ..).symm) ?_
  rintro r out ⟨rfl, rfl⟩
  refine ⟨by simp, by simp, fun _ => ⟨.v _, by simp⟩, vc ?_⟩
  refine brB_intro (fun h => by simp at h; omega) (fun h => ?_)
  refine callq_of false [] (toTree_ok t hf.1 hf.2) rfl trivial (vc trivial) ?_
  rintro r out ⟨rfl, rfl⟩
  refine ⟨by simp, by simp, by simp, vc ?_⟩
  refine callq_of true [] him rfl trivial (vc trivial) ?_
  rintro r out ⟨rfl, rfl⟩
  refine ⟨by simp, by simp, hrs, vc ?_⟩
  refine callq_of true [] (eqPairS_ok l l hal (fun _ _ => trivial)) rfl trivial (vc trivial) ?_
  rintro r out ⟨rfl, rfl⟩
  refine ⟨by simp, by simp, fun _ => ⟨.v _, by simp⟩, vc ?_⟩
  refine callq_of true [] (heldMarkedPairS_ok l 1 (by omega) (by omega)) rfl trivial (by refine vc ?_; exact (mkL_length ..).symm) ?_
  rintro r out ⟨rfl, rfl⟩
  refine ⟨by simp, by simp, fun _ => ⟨.v _, by simp⟩, vc ?_⟩
  refine brB_intro (fun h => by simp at h; omega) (fun h => ?_)
  exact EndQ.closed (.v _) ⟨rfl, rfl⟩
end Go.Proofs.Ytnnmpdanfeejbaa.Abs

/- What a statement reads as data is what the contracts take. -/
namespace Go.Proofs.Ytnnmpdanfeejbaa.Abs
open Go Go.RowKit Go.ChangeShapes Go.WideShapes
set_option linter.unusedVariables false
set_option linter.unusedSimpArgs false
def CellsR (w : World) (l : List CV) (cs : List Value) : Prop := cs.length = l.length ∧ ∀ (j : Nat) c u, l[j]? = some c → cs[j]? = some u → RdR w (fun _ => True) c u
/-- What of type t can be read as data stands in these cells; G: its bounds. -/
def OpA (P : Program) (t : TypeId) {α : Type} (enc : α → List CV) (G : α → Prop) : Prop :=
  (∀ a, (enc a).length = P.cellsOf t) ∧ ∀ (H : Type) (en : TypeId × Value → H) (w : World) (fuel : Nat) (cs : List Value) (x : DataW H × List MemPlace),
    DataW.trod en P w 0 (fun _ => true) true fuel t cs = some x → (∀ n ∈ x.1.weights P t, n ≤ reachBytes) → ∃ a, CellsR w (enc a) cs ∧ G a
theorem cellsR_one {w : World} {c : CV} {u : Value} (h : RdR w (fun _ => True) c u) : CellsR w [c] [u] :=
  ⟨rfl, fun j c' u' hc hu => by cases j with | zero => simp at hc hu; subst hc hu; exact h | succ j => simp at hc⟩
theorem list_choose' {α : Type} (n : Nat) {p : Nat → α → Prop} (h : ∀ i, i < n → ∃ x, p i x) : ∃ xs : List α, xs.length = n ∧ ∀ i x, xs[i]? = some x → p i x := by
  induction n with
  | zero => exact ⟨[], rfl, fun i x hx => by simp at hx⟩
  | succ n ih =>
    obtain ⟨xs, hl, hx⟩ := ih (fun i hi => h i (by omega))
    obtain ⟨y, hy⟩ := h n (by omega)
    refine ⟨xs ++ [y], by simp [hl], fun i x hi => ?_⟩
    rcases Nat.lt_or_ge i xs.length with hlt | hge
    · rw [List.getElem?_append_left hlt] at hi
      exact hx i x hi
    · have : i = n := by
        have := (List.getElem?_eq_some_iff.1 hi).1
        simp at this; omega
      subst this
      rw [List.getElem?_append_right hge, ← hl, Nat.sub_self] at hi
      injection hi with hi
      rw [← hi]; exact hy
theorem weightsAll_mem' {H : Type} {P : Program} {e : TypeId} {D : DataW H} : ∀ {l : List (DataW H)}, D ∈ l → ∀ n ∈ D.weights P e, n ∈ DataW.weightsAll P e l
  | a :: l, h, n, hn => by
    rw [DataW.weightsAll, List.mem_append]
    rcases List.mem_cons.1 h with rfl | h
    · exact .inl hn
    · exact .inr (weightsAll_mem' h n hn)
section
variable {P : Program} {t e : TypeId}
theorem opA_int (h : P.underlying t = some (.int .i64)) (hc : P.cellsOf t = 1) : OpA P t (fun n : Int => [CV.v (.int .i64 n)]) (fun n => -9223372036854775808 ≤ n ∧ n ≤ 9223372036854775807) := by
  refine ⟨fun a => hc.symm, fun H en w fuel cs x hx _ => ?_⟩
  obtain ⟨n, rfl, _, hw⟩ := DataW.trod_int h hx
  refine ⟨n, cellsR_one (.v _ rfl), ?_⟩
  simp [Lit.wf, IntKind.min, IntKind.max, IntKind.bits, IntKind.signed] at hw
  omega
theorem opA_byte (h : P.underlying t = some (.int .u8)) (hc : P.cellsOf t = 1) : OpA P t (fun n : UInt8 => [CV.v (.int .u8 n.toNat)]) (fun _ => True) := by
  refine ⟨fun a => hc.symm, fun H en w fuel cs x hx _ => ?_⟩
  obtain ⟨n, rfl, _, hw⟩ := DataW.trod_int h hx
  simp [Lit.wf, IntKind.min, IntKind.max, IntKind.bits, IntKind.signed] at hw
  have he : n = (((UInt8.ofNat n.toNat).toNat : Nat) : Int) := by
    rw [UInt8.toNat_ofNat', Nat.mod_eq_of_lt (by omega)]; omega
  refine ⟨UInt8.ofNat n.toNat, ?_, trivial⟩
  show CellsR w [CV.v (.int .u8 (((UInt8.ofNat n.toNat).toNat : Nat) : Int))] _
  rw [← he]
  exact cellsR_one (.v _ rfl)
theorem opA_bool (h : P.underlying t = some .bool) (hc : P.cellsOf t = 1) : OpA P t (fun b : Bool => [CV.v (.bool b)]) (fun _ => True) := by
  refine ⟨fun a => hc.symm, fun H en w fuel cs x hx _ => ?_⟩
  obtain ⟨n, rfl, _⟩ := DataW.trod_bool h hx
  exact ⟨n, cellsR_one (.v _ rfl), trivial⟩
theorem opA_string (h : P.underlying t = some .string) (hc : P.cellsOf t = 1) : OpA P t stC (fun s => s.size ≤ 2^47) := by
  refine ⟨fun a => hc.symm, fun H en w fuel cs x hx hn => ?_⟩
  obtain ⟨s, rfl, rfl, _⟩ := DataW.trod_string h hx
  refine ⟨s, cellsR_one (.v _ rfl), ?_⟩
  have := hn s.data.toList.length (by simp [DataW.weights])
  rw [Array.length_toList] at this
  have h2 : reachBytes ≤ 2^47 := by decide
  have h3 : s.size = s.data.size := rfl
  omega
theorem opA_slice {α : Type} {enc : α → List CV} {G : α → Prop} (h : P.underlying t = some (.slice e)) (hc : P.cellsOf t = 1) {m0 : Nat} (he1 : P.cellsOf e = m0) (he2 : 0 < m0) {B : Nat} (hB : P.bytesOf e = B) (hB0 : 0 < B) (he : OpA P e enc G) :
    OpA P t (fun xs : List α => [CV.row false (xs.map enc)]) (fun xs => xs.length ≤ 2^47 ∧ ∀ x ∈ xs, G x) := by
  have he0 : 0 < P.cellsOf e := by omega
  refine ⟨fun a => hc.symm, fun H en w fuel cs x hx hn => ?_⟩
  rcases Go.Deep.open_slice h hx with ⟨rfl, rfl⟩ | ⟨a, len, cap, m, n, D, Pl, rfl, hb, hl, hm, hmm, rfl, hel⟩
  · exact ⟨[], cellsR_one (.nil _ _ _), by simp, by simp⟩
  · have hm' : m = cap := by simpa using hmm
    subst hm'
    have hlen : len ≤ 2^47 := by
      have h1 := hn ((len + (m - len)) * B) (by simp [DataW.weights, h, hB])
      have h2 : reachBytes ≤ 2^47 := by decide
      have h3 : (len + (m - len)) * 1 ≤ (len + (m - len)) * B := Nat.mul_le_mul_left _ hB0
      omega
    have key : ∀ i, i < len → ∃ p : α, (∃ cs', w.cells? 0 (a.add (i * P.cellsOf e)) (P.cellsOf e) = some cs' ∧ CellsR w (enc p) cs') ∧ G p := by
      intro i hi
      obtain ⟨cs', h1, h2⟩ := hel i (by omega)
      obtain ⟨p, h3, h4⟩ := he.2 H en w n cs' _ h2 (fun q hq => hn q (by
        have h5 : q ∈ DataW.weightsAll P e ((List.range len).map D) := weightsAll_mem' (List.mem_map.2 ⟨i, List.mem_range.2 hi, rfl⟩) q hq
        simp only [DataW.weights, h]
        exact List.mem_cons_of_mem _ (List.mem_append_left _ h5)))
      exact ⟨p, ⟨cs', h1, h3⟩, h4⟩
    obtain ⟨xs, hxl, hxs⟩ := list_choose' len key
    refine ⟨xs, cellsR_one ?_, by rw [hxl]; exact hlen, fun x hx => ?_⟩
    · subst hxl
      by_cases h0 : xs = []
      · subst h0; exact .nil _ _ _
      obtain ⟨x0, r0, hxr⟩ := List.exists_cons_of_ne_nil h0
      have hpos : 0 < xs.length := by rw [hxr]; simp
      have hcell : ∀ i j, i < xs.length → j < P.cellsOf e → ∃ u, w.cell? (a.add (i * P.cellsOf e + j)) = some u ∧ True := by
        intro i j hi hj
        obtain ⟨⟨cs', h1, h2⟩, _⟩ := hxs i _ (List.getElem?_eq_getElem hi)
        obtain ⟨_, h4, h5⟩ := World.cells?_some h1
        have := h5 j hj
        rw [Go.Deep.add_add, List.getElem?_eq_getElem (by omega)] at this
        exact ⟨_, this, trivial⟩
      have hnone : a.spot = none ∧ ∃ arr ty fz, w.heap[a.block]? = some (.cells arr ty fz) := by
        obtain ⟨u, hu, _⟩ := hcell 0 0 hpos he0
        rw [Nat.zero_mul, Nat.add_zero] at hu
        unfold Addr.add World.cell? at hu
        simp only [↓reduceIte] at hu
        split at hu
        · rename_i arr ty fz hh
          split at hu
          · cases hu
          · rename_i hs
            exact ⟨by simpa using hs, arr, ty, fz, hh⟩
        · cases hu
      obtain ⟨hs, arr, ty, fz, hh⟩ := hnone
      obtain ⟨bl, off, sp⟩ := a
      have hs : sp = none := hs
      subst hs
      have hadd : ∀ k, (⟨bl, off, none⟩ : Addr).add k = ⟨bl, off + k, none⟩ := fun k => by unfold Addr.add; split
                                                                                           · rename_i e; rw [e]; rfl
                                                                                           · rfl
      have hcell' : ∀ i j, i < xs.length → j < P.cellsOf e → arr[off + (i * P.cellsOf e + j)]? = some (arr.getD (off + (i * P.cellsOf e + j)) undef) := by
        intro i j hi hj
        obtain ⟨u, hu, _⟩ := hcell i j hi hj
        rw [hadd, cell_at hh] at hu
        have := (Array.getElem?_eq_some_iff.1 hu).1
        rw [Array.getElem?_eq_getElem this]
        simp [Array.getD, this]
      have := RdR.row (w := w) (T := fun _ => True) false bl off (P.cellsOf e) m (xs.map enc) arr ty fz (fun i j => arr.getD (off + (i * P.cellsOf e + j)) undef) trivial hh
        (fun c hc => by obtain ⟨x, _, rfl⟩ := List.mem_map.1 hc; exact he.1 x) (by rw [List.length_map]; unfold maxLen at hm ⊢; omega) (by rw [List.length_map]; omega) (fun i j hi hj => hcell' i j (by simpa using hi) hj) (fun i j c1 c2 h1 h2 => by
          rw [List.getElem?_map, Option.map_eq_some_iff] at h1
          obtain ⟨x, hx, rfl⟩ := h1
          have hi : i < xs.length := (List.getElem?_eq_some_iff.1 hx).1
          obtain ⟨⟨cs', h3, h4⟩, _⟩ := hxs i x hx
          obtain ⟨_, h5, h6⟩ := World.cells?_some h3
          have hj : j < P.cellsOf e := by
            have := (List.getElem?_eq_some_iff.1 h2).1
            rw [he.1] at this; exact this
          have h7 := h6 j hj
          rw [Go.Deep.add_add, hadd, cell_at hh, hcell' i j hi hj] at h7
          exact h4.2 j _ _ h2 h7.symm)
      rw [List.length_map] at this
      exact this
    · obtain ⟨j, hj, rfl⟩ := List.mem_iff_getElem.1 hx
      exact (hxs j _ (List.getElem?_eq_getElem hj)).2
/-- Fields in line, from offset o on. -/
def OpFs (P : Program) (fs : List Field) (o : Nat) {α : Type} (enc : α → List CV) (n : Nat) (G : α → Prop) : Prop :=
  (∀ a, (enc a).length = n) ∧ ∀ (H : Type) (en : TypeId × Value → H) (w : World) (k : Nat) (cs : List Value) (xs : List (DataW H × List MemPlace)), xs.length = fs.length →
    (∀ (i : Nat) (f : Field), fs[i]? = some f → DataW.trod en P w 0 (fun _ => true) true k f.type ((cs.drop f.offset).take (P.cellsOf f.type)) = xs[i]?) →
    (∀ q ∈ DataW.weightsEach P (fs.map (·.type)) (xs.map (·.1)), q ≤ reachBytes) → ∃ a, CellsR w (enc a) ((cs.drop o).take n) ∧ G a
theorem cellsR_app {w : World} {l l' : List CV} {cs cs' : List Value} (h : CellsR w l cs) (h' : CellsR w l' cs') : CellsR w (l ++ l') (cs ++ cs') := by
  refine ⟨by simp [h.1, h'.1], fun j c u hc hu => ?_⟩
  rcases Nat.lt_or_ge j l.length with hj | hj
  · rw [List.getElem?_append_left hj] at hc
    rw [List.getElem?_append_left (by rw [h.1]; exact hj)] at hu
    exact h.2 j c u hc hu
  · rw [List.getElem?_append_right hj] at hc
    rw [List.getElem?_append_right (by rw [h.1]; exact hj), h.1] at hu
    exact h'.2 _ c u hc hu
theorem fsA_one {α : Type} {enc : α → List CV} {G : α → Prop} {f : Field} {o n : Nat} (h : OpA P e enc G) (ht : f.type = e) (ho : f.offset = o) (hn : P.cellsOf e = n) : OpFs P [f] o enc n G := by
  subst ht; subst ho; subst hn
  refine ⟨h.1, fun H en w k cs xs hl hx hq => ?_⟩
  obtain ⟨x, rfl⟩ : ∃ x, xs = [x] := by
    match xs, hl with
    | [x], _ => exact ⟨x, rfl⟩
  exact h.2 H en w k _ x (hx 0 f rfl) (fun q hm => hq q (by simpa [DataW.weightsEach] using hm))
theorem fsA_cons {α β : Type} {enc : α → List CV} {enc' : β → List CV} {G : α → Prop} {G' : β → Prop} {f : Field} {fs : List Field} {o o' n n' : Nat} (h : OpA P e enc G) (h' : OpFs P fs o' enc' n' G') (ht : f.type = e) (ho : f.offset = o) (hn : P.cellsOf e = n) (hs : o + n = o') :
    OpFs P (f :: fs) o (fun x : α × β => enc x.1 ++ enc' x.2) (n + n') (fun x => G x.1 ∧ G' x.2) := by
  subst ht; subst ho; subst hn; subst hs
  refine ⟨fun a => by rw [List.length_append, h.1, h'.1], fun H en w k cs xs hl hx hq => ?_⟩
  obtain ⟨x, ys, rfl⟩ : ∃ x ys, xs = x :: ys := by
    match xs, hl with
    | x :: ys, _ => exact ⟨x, ys, rfl⟩
  obtain ⟨a, ha, ga⟩ := h.2 H en w k _ x (hx 0 f rfl) (fun q hm => hq q (by simp only [List.map_cons, DataW.weightsEach]; exact List.mem_append_left _ hm))
  obtain ⟨b, hb, gb⟩ := h'.2 H en w k cs ys (by simpa using hl) (fun i g hg => by have := hx (i + 1) g (by simpa using hg); simpa using this)
    (fun q hm => hq q (by simp only [List.map_cons, DataW.weightsEach]; exact List.mem_append_right _ hm))
  refine ⟨(a, b), ?_, ga, gb⟩
  rw [List.take_add, List.drop_drop]
  exact cellsR_app ha hb
theorem opA_struct {α : Type} {enc : α → List CV} {n : Nat} {G : α → Prop} {fs : Array Field} (h : P.underlying t = some (.struct fs)) (hc : P.cellsOf t = n) (hf : OpFs P fs.toList 0 enc n G) : OpA P t enc G := by
  subst hc
  refine ⟨hf.1, fun H en w fuel cs x hx hn => ?_⟩
  obtain ⟨xs, k, _, rfl, hl, hxl, hel⟩ := DataW.trod_struct h hx
  obtain ⟨a, ha, ga⟩ := hf.2 H en w k cs xs (by rw [hxl]; simp) (fun i f hi => hel i f (by simpa using hi)) (fun q hq => hn q (by simpa [DataW.weights, h] using hq))
  rw [List.drop_zero, List.take_of_length_le (by omega)] at ha
  exact ⟨a, ha, ga⟩
theorem OpA.iso {α β : Type} {enc : α → List CV} {enc' : β → List CV} {G : α → Prop} {G' : β → Prop} (h : OpA P t enc G) (g : α → β) (he : ∀ a, enc' (g a) = enc a) (hl : ∀ b, (enc' b).length = P.cellsOf t) (hG : ∀ a, G a → G' (g a)) : OpA P t enc' G' :=
  ⟨hl, fun H en w fuel cs x hx hn => by obtain ⟨a, ha, ga⟩ := h.2 H en w fuel cs x hx hn; exact ⟨g a, by rw [he]; exact ha, hG a ga⟩⟩
variable {H : Type} {en : TypeId × Value → H} {W : World} {v : Value} {D : DataW H} {p : List MemPlace}
/-- A parameter. -/
theorem OpA.param {α : Type} {enc : α → List CV} {G : α → Prop} (ho : OpA P t enc G) (h : DataW.Trod en P W 0 (fun _ => true) true t v D p) {ts : List TypeId} {ds : List (DataW H)} {j : Nat}
    (hsz : (DataW.weightsEach P ts ds).all (· ≤ reachBytes) = true) (ht : ts[j]? = some t) (hd : ds[j]? = some D) : ∃ a, CellsR W (enc a) v.cells.toList ∧ G a := by
  obtain ⟨fuel, hf⟩ := h
  exact ho.2 H en W fuel _ _ hf (fun n hn => by simpa using List.all_eq_true.1 hsz _ (DataW.weights_mem_each ht hd n hn))
end
/-- Nothing is owned. -/
def E0 : Env := ⟨fun _ => none, fun _ => none⟩
theorem rd_agg {w : World} {l : List CV} {us : Array Value} {H : Hp} (h : CellsR w l us.toList) : RdV w E0 H (.ag (l.map .c)) (.agg us) := by
  refine .ag _ _ (by have := h.1; simpa using this) (fun i c u hc hu => ?_)
  rw [List.getElem?_map, Option.map_eq_some_iff] at hc
  obtain ⟨c', hc', rfl⟩ := hc
  exact .c _ _ ((h.2 i c' u hc' (by simpa using hu)).mono (fun b _ _ => ⟨rfl, rfl⟩))
theorem rd_one {w : World} {c : CV} {u : Value} {H : Hp} (h : CellsR w [c] u.cells.toList) (hu : u.cells = #[u]) : RdV w E0 H (.c c) u := by
  rw [hu] at h
  exact .c _ _ ((h.2 0 c u rfl rfl).mono (fun b _ _ => ⟨rfl, rfl⟩))
/-- A law's call, by its contract. -/
theorem law_calls {P : Program} {f : Nat} {args : List AV} (h : CallOk P f [] args (fun r out => r = Bo true ∧ out = [])) (W : World) (vals : Array Value) (hs : vals.size = args.length)
    (hv : ∀ (i : Nat) x u, args[i]? = some x → vals[i]? = some u → RdV W E0 (HpS []) x u) : Calls P f vals W (fun e W' => e = .returned (.bool true) ∧ Below W.heap.size W W') := by
  refine (h.2 W E0 vals (fun k ob hk => by unfold HpS at hk; split at hk <;> simp at hk) (fun b ℓ hb => by cases hb) hs hv).mono fun e W' hh => ?_
  obtain ⟨u, r, out, E', rfl, ⟨rfl, rfl⟩, hr, _, _, _, _, hevo, _, _⟩ := hh
  refine ⟨?_, hevo.os, hevo.tape, hevo.output, hevo.size, fun k hk => hevo.block k hk (by rintro ⟨k', p, hp, _⟩; cases hp)⟩
  cases hr with
  | c _ _ h => cases h; rfl
end Go.Proofs.Ytnnmpdanfeejbaa.Abs

/- The laws' parameters, as they are read. -/
namespace Go.Proofs.Ytnnmpdanfeejbaa.Abs
open Go Go.Proofs
set_option linter.unusedVariables false
theorem oInt : OpA Try.prog 3 (fun n : Int => [CV.v (.int .i64 n)]) (fun n => -9223372036854775808 ≤ n ∧ n ≤ 9223372036854775807) := opA_int Try.underlying3 (by kernel_rfl)
theorem oByte : OpA Try.prog 5 (fun n : UInt8 => [CV.v (.int .u8 n.toNat)]) (fun _ => True) := opA_byte Try.underlying5 (by kernel_rfl)
theorem oByteS : OpA Try.prog 26 (fun l : List UInt8 => [CV.row false (eB l)]) (fun l => l.length ≤ 2^47) :=
  (opA_slice Try.underlying26 (by kernel_rfl) (m0 := 1) (by kernel_rfl) (by decide) (B := 1) (by kernel_rfl) (by decide) oByte).iso id (fun _ => rfl) (fun _ => by kernel_rfl) (fun _ h => h.1)
theorem oSheet : OpA Try.prog 160 (shC false) (fun l => l.length ≤ 2^47) :=
  (opA_struct Try.underlying160 (by kernel_rfl) (fsA_one (n := 1) oByteS (by rfl) (by rfl) (by kernel_rfl))).iso id (fun _ => rfl) (fun _ => by kernel_rfl) (fun _ h => h)
theorem oSheetS : OpA Try.prog 22 (fun xs : List (List UInt8) => [CV.row false (xs.map (shC false))]) (fun xs => xs.length ≤ 2^47 ∧ ∀ x ∈ xs, x.length ≤ 2^47) :=
  opA_slice Try.underlying22 (by kernel_rfl) (m0 := 1) (by kernel_rfl) (by decide) (B := 24) (by kernel_rfl) (by decide) oSheet
theorem oWrite : OpA Try.prog 135 (wrC false) (fun x => x.2.length ≤ 2^47) :=
  (opA_struct Try.underlying135 (by kernel_rfl) (fsA_cons (n := 1) oInt (fsA_one (n := 1) oByteS (by rfl) (by rfl) (by kernel_rfl)) (by rfl) (by rfl) (by kernel_rfl) (by rfl))).iso id (fun _ => rfl) (fun _ => by kernel_rfl) (fun _ h => h.2)
theorem oWriteS : OpA Try.prog 23 (fun xs : List (Int × List UInt8) => [CV.row false (xs.map (wrC false))]) (fun xs => xs.length ≤ 2^47 ∧ ∀ x ∈ xs, x.2.length ≤ 2^47) :=
  opA_slice Try.underlying23 (by kernel_rfl) (m0 := 2) (by kernel_rfl) (by decide) (B := 32) (by kernel_rfl) (by decide) oWrite
theorem oDisk : OpA Try.prog 25 (fun d : Dk => [CV.row false (d.sh.map (shC false)), CV.row false (d.wr.map (wrC false))]) (Dk.fits (2^47)) :=
  (opA_struct Try.underlying25 (by kernel_rfl) (fsA_cons (n := 1) oSheetS (fsA_one (n := 1) oWriteS (by rfl) (by rfl) (by kernel_rfl)) (by rfl) (by rfl) (by kernel_rfl) (by rfl))).iso (fun x => ⟨x.1, x.2⟩) (fun _ => rfl) (fun _ => by kernel_rfl) (fun _ h => ⟨h.1.1, h.1.2, h.2.1, h.2.2⟩)
theorem rd_nil {W : World} {H : Hp} : ∀ (i : Nat) x u, ([] : List AV)[i]? = some x → (#[] : Array Value)[i]? = some u → RdV W E0 H x u := fun i x u h => by simp at h
theorem rd_cons {W : World} {H : Hp} {a : AV} {v : Value} {l : List AV} {vs : List Value} (h : RdV W E0 H a v) (hl : ∀ (i : Nat) x u, l[i]? = some x → (vs.toArray)[i]? = some u → RdV W E0 H x u) :
    ∀ (i : Nat) x u, (a :: l)[i]? = some x → ((v :: vs).toArray)[i]? = some u → RdV W E0 H x u := by
  intro i x u hx hu
  cases i with
  | zero => simp at hx hu; subst hx hu; exact h
  | succ i => exact hl i x u (by simpa using hx) (by simpa using hu)
end Go.Proofs.Ytnnmpdanfeejbaa.Abs

/- Parameters of operations, as they are read. -/
namespace Go.Proofs.Ytnnmpdanfeejbaa.Abs
open Go Go.Proofs
set_option linter.unusedVariables false
theorem oBool : OpA Try.prog 4 (fun b : Bool => [CV.v (.bool b)]) (fun _ => True) := opA_bool Try.underlying4 (by kernel_rfl)
theorem oOp : OpA Try.prog 137 (opC false) (fun x => x.2.2.length ≤ 2^47) :=
  (opA_struct Try.underlying137 (by kernel_rfl) (fsA_cons (n := 1) oBool (fsA_one (n := 2) oWrite (by rfl) (by rfl) (by kernel_rfl)) (by rfl) (by rfl) (by kernel_rfl) (by rfl))).iso id (fun _ => rfl) (fun _ => by kernel_rfl) (fun _ h => h.2)
theorem oOpS : OpA Try.prog 65 (fun xs : List (Bool × Int × List UInt8) => [CV.row false (xs.map (opC false))]) (fun xs => xs.length ≤ 2^47 ∧ ∀ x ∈ xs, x.2.2.length ≤ 2^47) :=
  opA_slice Try.underlying65 (by kernel_rfl) (m0 := 3) (by kernel_rfl) (by decide) (B := 40) (by kernel_rfl) (by decide) oOp
end Go.Proofs.Ytnnmpdanfeejbaa.Abs

/- Parameters of trees, as they are read. -/
namespace Go.Proofs.Ytnnmpdanfeejbaa.Abs
open Go Go.Proofs
set_option linter.unusedVariables false
theorem oStr : OpA Try.prog 9 stC (fun s => s.size ≤ 2^47) := opA_string Try.underlying9 (by kernel_rfl)
theorem oStrS : OpA Try.prog 41 (fun xs : List ByteArray => [CV.row false (xs.map stC)]) (fun xs => xs.length ≤ 2^47 ∧ ∀ x ∈ xs, x.size ≤ 2^47) :=
  opA_slice Try.underlying41 (by kernel_rfl) (m0 := 1) (by kernel_rfl) (by decide) (B := 16) (by kernel_rfl) (by decide) oStr
theorem oIntS : OpA Try.prog 42 (fun xs : List Int => [CV.row false (xs.map inC)]) (fun xs => xs.length ≤ 2^47) :=
  (opA_slice Try.underlying42 (by kernel_rfl) (m0 := 1) (by kernel_rfl) (by decide) (B := 8) (by kernel_rfl) (by decide) oInt).iso id (fun _ => rfl) (fun _ => by kernel_rfl) (fun _ h => h.1)
theorem oPair : OpA Try.prog 196 prC (fun p => p.k.size ≤ 2^47 ∧ p.v.size ≤ 2^47) :=
  (opA_struct Try.underlying196 (by kernel_rfl) (fsA_cons (n := 1) oStr (fsA_one (n := 1) oStr (by rfl) (by rfl) (by kernel_rfl)) (by rfl) (by rfl) (by kernel_rfl) (by rfl))).iso (fun x => ⟨x.1, x.2⟩) (fun _ => rfl) (fun _ => by kernel_rfl) (fun _ h => h)
theorem oPairS : OpA Try.prog 167 (fun xs : List Pr => [CV.row false (xs.map prC)]) (fun xs => xs.length ≤ 2^47 ∧ ∀ x ∈ xs, x.k.size ≤ 2^47 ∧ x.v.size ≤ 2^47) :=
  opA_slice Try.underlying167 (by kernel_rfl) (m0 := 2) (by kernel_rfl) (by decide) (B := 32) (by kernel_rfl) (by decide) oPair
theorem oNode : OpA Try.prog 169 (ndC false) (Nd.fits (2^47)) :=
  (opA_struct Try.underlying169 (by kernel_rfl) (fsA_cons (n := 1) oPairS (fsA_cons (n := 1) oStrS (fsA_one (n := 1) oIntS (by rfl) (by rfl) (by kernel_rfl)) (by rfl) (by rfl) (by kernel_rfl) (by rfl)) (by rfl) (by rfl) (by kernel_rfl) (by rfl))).iso (fun x => ⟨x.1, x.2.1, x.2.2⟩) (fun _ => rfl) (fun _ => by kernel_rfl) (fun _ h => ⟨h.1.1, h.2.1.1, h.2.2, h.1.2, h.2.1.2⟩)
theorem oNodeS : OpA Try.prog 50 (fun xs : List Nd => [CV.row false (xs.map (ndC false))]) (fun xs => xs.length ≤ 2^47 ∧ ∀ x ∈ xs, x.fits (2^47)) :=
  opA_slice Try.underlying50 (by kernel_rfl) (m0 := 3) (by kernel_rfl) (by decide) (B := 72) (by kernel_rfl) (by decide) oNode
theorem oTree : OpA Try.prog 52 (fun t : List Nd => [CV.row false (t.map (ndC false))]) (fun xs => xs.length ≤ 2^47 ∧ ∀ x ∈ xs, x.fits (2^47)) :=
  (opA_struct Try.underlying52 (by kernel_rfl) (fsA_one (n := 1) oNodeS (by rfl) (by rfl) (by kernel_rfl))).iso id (fun _ => rfl) (fun _ => by kernel_rfl) (fun _ h => h)
end Go.Proofs.Ytnnmpdanfeejbaa.Abs
