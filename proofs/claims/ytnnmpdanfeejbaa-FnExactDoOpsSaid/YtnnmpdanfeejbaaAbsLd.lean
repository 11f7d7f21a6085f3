/- Disks: what is right, copies, writes; both by the same words. -/
import Derived.Test.YtnnmpdanfeejbaaAbsLc
namespace Go.Proofs.Ytnnmpdanfeejbaa.Abs
open Go Go.Proofs
set_option maxRecDepth 10000
set_option linter.unusedVariables false
set_option linter.unusedSimpArgs false
theorem within_ok (a b c : Int) : CallOk Try.prog 63 [] [In a, In b, In c] (fun r out => r = Bo (decide (b ≤ a ∧ a ≤ c)) ∧ out = []) := by
  refine callOk_z (np := 0) {} mixed Try.func63 (by rfl) Try.ntmps63 Try.results63 (by rfl) (Nat.le_of_ble_eq_true rfl) rfl rfl rfl (vc ?_)
  refine brB_intro (fun h => EndQ.closed (.v _) ⟨?_, rfl⟩) (fun h => EndQ.closed (.v _) ⟨?_, rfl⟩)
  · have h : a ≥ b := by simpa using h
    simp; omega
  · have h : ¬ a ≥ b := by simpa using h
    simp; omega
def Dk.shOk (x : List UInt8) : Prop := x.length = 0 ∨ x.length = 512
def Dk.wrOk (n : Nat) (x : Int × List UInt8) : Prop := (0 ≤ x.1 ∧ x.1 < n) ∧ x.2.length = 512
def Dk.ok (d : Dk) : Prop := (2 ≤ d.sh.length ∧ d.sh.length ≤ 400 ∧ d.wr.length ≤ 500) ∧ (∀ x ∈ d.sh, Dk.shOk x) ∧ ∀ x ∈ d.wr, Dk.wrOk d.sh.length x
open Classical in
noncomputable def tf (p : Prop) : Bool := decide p
theorem tf_true {p : Prop} (h : p) : tf p = true := by simp [tf, h]
theorem tf_false {p : Prop} (h : ¬ p) : tf p = false := by simp [tf, h]
theorem tf_dec {p : Prop} [Decidable p] : decide p = tf p := by by_cases h : p <;> simp [tf, h]
theorem all_next {α : Type} {p : α → Prop} {xs : List α} {i : Nat} {x : α} (h : ∀ y ∈ xs.take i, p y) (hx : xs[i]? = some x) (hp : p x) : ∀ y ∈ xs.take (i + 1), p y := by
  intro y hy
  rw [List.take_add_one, hx, List.mem_append] at hy
  rcases hy with hy | hy
  · exact h y hy
  · simp at hy; subst hy; exact hp
theorem all_full {α : Type} {p : α → Prop} {xs : List α} {i : Nat} (h : ∀ y ∈ xs.take i, p y) (hi : i = xs.length) : ∀ y ∈ xs, p y := by
  rw [hi, List.take_length] at h; exact h
theorem specDiskOk_ok (d : Dk) (hd : d.fits (2^40)) : CallOk Try.prog 54 [] [d.rd] (fun r out => r = Bo (tf d.ok) ∧ out = []) := by
  unfold Dk.rd
  have hf1 := hd.1
  have hf2 := hd.2.2.1
  refine callOk_z (np := 0) {} mixed Try.func54 (by rfl) Try.ntmps54 Try.results54 (by rfl) (Nat.le_of_ble_eq_true rfl) rfl rfl rfl (vc ?_)
  have ho : Dk.ok d ↔ (2 ≤ d.sh.length ∧ d.sh.length ≤ 400 ∧ d.wr.length ≤ 500) ∧ (∀ x ∈ d.sh, Dk.shOk x) ∧ ∀ x ∈ d.wr, Dk.wrOk d.sh.length x := Iff.rfl
  refine brB_intro (fun h => EndQ.closed (.v _) ⟨?_, rfl⟩) (fun h => brB_intro (fun h' => EndQ.closed (.v _) ⟨?_, rfl⟩) (fun h' => brB_intro (fun h'' => EndQ.closed (.v _) ⟨?_, rfl⟩) (fun h'' => ?_)))
  · rw [tf_false (fun hk => by have := hk.1; simp at h; omega)]
  · rw [tf_false (fun hk => by have := hk.1; simp at h'; omega)]
  · rw [tf_false (fun hk => by have := hk.1; simp at h''; omega)]
  have hlen : 2 ≤ d.sh.length ∧ d.sh.length ≤ 400 ∧ d.wr.length ≤ 500 := by simp at h h' h''; omega
  clear h h' h''
  refine loopQ_of (fun i => [(1, .pt 1 0 0), (24, Rw (d.sh.map (shC false))), (25, In d.sh.length), (26, In (i : Nat))]) (fun i => [(1, .box 31 [Rw (d.sh.map (shC false)), Rw (d.wr.map (wrC false))])]) 2 (fun i => d.sh.length - i) (fun i => i ≤ d.sh.length ∧ ∀ x ∈ d.sh.take i, Dk.shOk x) 0 ⟨Nat.zero_le _, by simp⟩ [] (by rfl) (vc trivial) (vc trivial) (fun i hi N hN => vc (brB_intro (fun h => ?_) (fun h => ?_)))
  · have h : i < d.sh.length := by simpa using h
    have hx := List.getElem?_eq_getElem h
    rw [get_map hx, shC]
    refine vc ?_
    have hnext : Dk.shOk d.sh[i] → i + 1 ≤ d.sh.length ∧ ∀ x ∈ d.sh.take (i + 1), Dk.shOk x := fun hp => ⟨h, all_next hi.2 hx hp⟩
    refine brB_intro (fun h1 => brB_intro (fun h2 => EndQ.closed (.v _) ⟨?_, rfl⟩) (fun h2 => ?_)) (fun h1 => ?_)
    · rw [tf_false (fun hk => by rcases hk.2.1 _ (List.getElem_mem h) with e | e <;> simp [e] at h1 h2)]
    · refine hN _ (i + 1) [] (hnext (by show d.sh[i].length = 0 ∨ d.sh[i].length = 512; simp at h2; omega)) (by omega) (by rfl) (vc ?_) (vc trivial)
      rw [w64 _ (by omega)]; simp
    · refine hN _ (i + 1) [] (hnext (by simp at h1; exact .inl (by simp [h1]))) (by omega) (by rfl) (vc ?_) (vc trivial)
      rw [w64 _ (by omega)]; simp
  have h : i = d.sh.length := by simp at h; omega
  have hsh := all_full hi.2 h
  refine loopQ_of (fun i => [(1, .pt 1 0 0), (42, Rw (d.wr.map (wrC false))), (43, In d.wr.length), (44, In (i : Nat))]) (fun i => [(1, .box 31 [Rw (d.sh.map (shC false)), Rw (d.wr.map (wrC false))])]) 2 (fun i => d.wr.length - i) (fun i => i ≤ d.wr.length ∧ ∀ x ∈ d.wr.take i, Dk.wrOk d.sh.length x) 0 ⟨Nat.zero_le _, by simp⟩ [] (by rfl) (vc trivial) (vc trivial) (fun i hi N hN => vc (brB_intro (fun h => ?_) (fun h => ?_)))
  · have h : i < d.wr.length := by simpa using h
    have hx := List.getElem?_eq_getElem h
    rw [get_map hx, wrC]
    refine vc ?_
    have hnext : Dk.wrOk d.sh.length d.wr[i] → i + 1 ≤ d.wr.length ∧ ∀ x ∈ d.wr.take (i + 1), Dk.wrOk d.sh.length x := fun hp => ⟨h, all_next hi.2 hx hp⟩
    refine brB_intro (fun h1 => EndQ.closed (.v _) ⟨?_, rfl⟩) (fun h1 => brB_intro (fun h2 => EndQ.closed (.v _) ⟨?_, rfl⟩) (fun h2 => brB_intro (fun h3 => EndQ.closed (.v _) ⟨?_, rfl⟩) (fun h3 => ?_)))
    · rw [tf_false (fun hk => by have := hk.2.2 _ (List.getElem_mem h); simp [Dk.wrOk] at h1 this; omega)]
    · rw [tf_false (fun hk => by have := hk.2.2 _ (List.getElem_mem h); simp [Dk.wrOk] at h2 this; omega)]
    · rw [tf_false (fun hk => by have := hk.2.2 _ (List.getElem_mem h); simp [Dk.wrOk] at h3 this; omega)]
    · refine hN _ (i + 1) [] (hnext (by simp at h1 h2 h3; exact ⟨⟨by omega, by omega⟩, by omega⟩)) (by omega) (by rfl) (vc ?_) (vc trivial)
      rw [w64 _ (by omega)]; simp
  · have h : i = d.wr.length := by simp at h; omega
    refine EndQ.closed (.v _) ⟨?_, rfl⟩
    rw [tf_true ⟨hlen, hsh, all_full hi.2 h⟩]
theorem implDiskOk_ok (d : Dk) (hd : d.fits (2^40)) : CallOk Try.prog 55 [] [d.rd] (fun r out => r = Bo (tf d.ok) ∧ out = []) := by
  unfold Dk.rd
  have hf1 := hd.1
  have hf2 := hd.2.2.1
  refine callOk_z (np := 0) {} mixed Try.func55 (by rfl) Try.ntmps55 Try.results55 (by rfl) (Nat.le_of_ble_eq_true rfl) rfl rfl rfl (vc ?_)
  refine loopQ_of (fun i => [(1, .pt 1 0 0), (8, Rw (d.sh.map (shC false))), (9, In d.sh.length), (10, In (i : Nat))]) (fun i => [(1, .box 31 [Rw (d.sh.map (shC false)), Rw (d.wr.map (wrC false))])]) 2 (fun i => d.sh.length - i) (fun i => i ≤ d.sh.length ∧ ∀ x ∈ d.sh.take i, Dk.shOk x) 0 ⟨Nat.zero_le _, by simp⟩ [] (by rfl) (vc trivial) (vc trivial) (fun i hi N hN => vc (brB_intro (fun h => ?_) (fun h => ?_)))
  · have h : i < d.sh.length := by simpa using h
    have hx := List.getElem?_eq_getElem h
    rw [get_map hx, shC]
    refine vc ?_
    have hnext : Dk.shOk d.sh[i] → i + 1 ≤ d.sh.length ∧ ∀ x ∈ d.sh.take (i + 1), Dk.shOk x := fun hp => ⟨h, all_next hi.2 hx hp⟩
    refine brB_intro (fun h1 => brB_intro (fun h2 => EndQ.closed (.v _) ⟨?_, rfl⟩) (fun h2 => ?_)) (fun h1 => ?_)
    · rw [tf_false (fun hk => by rcases hk.2.1 _ (List.getElem_mem h) with e | e <;> simp [e] at h1 h2)]
    · refine hN _ (i + 1) [] (hnext (by show d.sh[i].length = 0 ∨ d.sh[i].length = 512; simp at h2; omega)) (by omega) (by rfl) (vc ?_) (vc trivial)
      rw [w64 _ (by omega)]; simp
    · refine hN _ (i + 1) [] (hnext (by simp at h1; exact .inl (by simp [h1]))) (by omega) (by rfl) (vc ?_) (vc trivial)
      rw [w64 _ (by omega)]; simp
  have h : i = d.sh.length := by simp at h; omega
  have hsh := all_full hi.2 h
  refine loopQ_of (fun i => [(1, .pt 1 0 0), (26, Rw (d.wr.map (wrC false))), (27, In d.wr.length), (28, In (i : Nat))]) (fun i => [(1, .box 31 [Rw (d.sh.map (shC false)), Rw (d.wr.map (wrC false))])]) 2 (fun i => d.wr.length - i) (fun i => i ≤ d.wr.length ∧ ∀ x ∈ d.wr.take i, Dk.wrOk d.sh.length x) 0 ⟨Nat.zero_le _, by simp⟩ [] (by rfl) (vc trivial) (vc trivial) (fun i hi N hN => vc (brB_intro (fun h => ?_) (fun h => ?_)))
  · have h : i < d.wr.length := by simpa using h
    have hx := List.getElem?_eq_getElem h
    rw [get_map hx, wrC]
    refine vc ?_
    have hnext : Dk.wrOk d.sh.length d.wr[i] → i + 1 ≤ d.wr.length ∧ ∀ x ∈ d.wr.take (i + 1), Dk.wrOk d.sh.length x := fun hp => ⟨h, all_next hi.2 hx hp⟩
    rw [w64 _ (by omega)]
    refine callq_of false [] (within_ok d.wr[i].1 0 (d.sh.length - 1)) rfl trivial (vc trivial) ?_
    rintro r out ⟨rfl, rfl⟩
    refine ⟨by simp, by simp, by simp, vc ?_⟩
    refine brB_intro (fun h1 => EndQ.closed (.v _) ⟨?_, rfl⟩) (fun h1 => ?_)
    · rw [tf_false (fun hk => by have := hk.2.2 _ (List.getElem_mem h); simp [Dk.wrOk] at h1 this; omega)]
    refine brB_intro (fun h3 => EndQ.closed (.v _) ⟨?_, rfl⟩) (fun h3 => ?_)
    · rw [tf_false (fun hk => by have := hk.2.2 _ (List.getElem_mem h); simp [Dk.wrOk] at h3 this; omega)]
    · refine hN _ (i + 1) [] (hnext (by simp at h1 h3; exact ⟨⟨by omega, by omega⟩, by omega⟩)) (by omega) (by rfl) (vc ?_) (vc trivial)
      rw [w64 _ (by omega)]; simp
  have h : i = d.wr.length := by simp at h; omega
  have hwr := all_full hi.2 h
  refine callq_of false [] (within_ok d.sh.length 2 400) rfl trivial (vc trivial) ?_
  rintro r out ⟨rfl, rfl⟩
  refine ⟨by simp, by simp, by simp, vc ?_⟩
  refine brB_intro (fun h1 => EndQ.closed (.v _) ⟨?_, rfl⟩) (fun h1 => EndQ.closed (.v _) ⟨?_, rfl⟩)
  · by_cases h2 : d.wr.length ≤ 500
    · rw [tf_true ⟨by simp at h1; omega, hsh, hwr⟩]; simp; omega
    · rw [tf_false (fun hk => h2 hk.1.2.2)]; simp; omega
  · rw [tf_false (fun hk => by have := hk.1; simp at h1; omega)]
theorem copyBytes_ok (l : List UInt8) (hl : l.length ≤ 2^40) : CallOk Try.prog 65 [] [Rw (eB l)] (fun r out => r = .sl 1 l.length ∧ out = [some (.rw 5 1 (eB l))]) := by
  refine callOk_z (np := 0) {} mixed Try.func65 (by rfl) Try.ntmps65 Try.results65 (by rfl) (Nat.le_of_ble_eq_true rfl) rfl rfl rfl (vc ?_)
  refine ⟨⟨by unfold maxLen; omega, by omega⟩, ?_⟩
  exact endQ_of [(1, 17)] (.sl 1 l.length) [some (.rw 5 1 (eB l))] (by rfl) (vc trivial) (vc trivial) ⟨rfl, rfl⟩
theorem l05Copy_ok (d : Dk) (hd : d.fits (2^40)) : CallOk Try.prog 60 [] [d.rd] (fun r out => r = d.ow ∧ out = d.obs.map some) := by
  unfold Dk.rd
  have hf1 := hd.1
  have hf2 := hd.2.2.1
  refine callOk_z (np := 0) {} mixed Try.func60 (by rfl) Try.ntmps60 Try.results60 (by rfl) (Nat.le_of_ble_eq_true rfl) rfl rfl rfl (vc ?_)
  refine loopQ_of (fun i => [(1, .pt 1 0 0), (2, .pt 2 0 0), (3, .pt 3 0 0), (10, Rw (d.sh.map (shC false))), (11, In d.sh.length), (12, In (i : Nat))]) (fun i => [(1, .box 31 [Rw (d.sh.map (shC false)), Rw (d.wr.map (wrC false))]), (2, .box 31 [.nul, .nul]), (3, .box 31 [.sl 4 i, .nul]), (4, .rw 155 1 ((d.sh.take i).map (shC true)))]) 5 (fun i => d.sh.length - i) (fun i => i ≤ d.sh.length) 0 (Nat.zero_le _) [(2, 9), (3, 25), (4, 0)] (by rfl) (vc trivial) (vc trivial) (fun i hi N hN => vc (brB_intro (fun h => ?_) (fun h => ?_)))
  · have h : i < d.sh.length := by simpa using h
    have hx := List.getElem?_eq_getElem h
    have hfx := hd.2.1 _ (List.getElem_mem h)
    rw [get_map hx, shC]
    refine vc ?_
    refine drawQ_of false (by rfl) (by simp) (vc ?_)
    refine ⟨⟨by unfold maxLen; omega, by omega⟩, ?_⟩
    repeat refine ⟨rfl, ?_⟩
    refine ⟨⟨by simp; omega, by simp, by unfold maxLen; omega, by omega⟩, ?_⟩
    repeat refine ⟨rfl, ?_⟩
    refine hN _ (i + 1) [(4, 109)] h (by omega) (by rfl) (vc ?_) (vc ?_)
    · rw [w64 _ (by omega)]; simp
    · exact ⟨by simp; omega, map_take_next (shC true) hx⟩
  have h : i = d.sh.length := by simp at h; omega
  subst h
  refine loopQ_of (fun i => [(1, .pt 1 0 0), (2, .pt 2 0 0), (3, .pt 3 0 0), (28, Rw (d.wr.map (wrC false))), (29, In d.wr.length), (30, In (i : Nat))]) (fun i => [(1, .box 31 [Rw (d.sh.map (shC false)), Rw (d.wr.map (wrC false))]), (2, .box 31 [.nul, .nul]), (3, .box 31 [.sl 4 d.sh.length, .sl 5 i]), (4, .rw 155 1 (d.sh.map (shC true))), (5, .rw 90 2 ((d.wr.take i).map (wrC true)))]) 6 (fun i => d.wr.length - i) (fun i => i ≤ d.wr.length) 0 (Nat.zero_le _) [(5, 0)] (by rfl) (vc trivial) (vc ?_) (fun i hi N hN => vc (brB_intro (fun h => ?_) (fun h => ?_)))
  · rw [List.take_length]
  · have h : i < d.wr.length := by simpa using h
    have hx := List.getElem?_eq_getElem h
    have hfx := hd.2.2.2 _ (List.getElem_mem h)
    rw [get_map hx, wrC]
    refine vc ?_
    refine drawQ_of false (by rfl) (by simp) (vc ?_)
    refine ⟨⟨by unfold maxLen; omega, by omega⟩, ?_⟩
    repeat refine ⟨rfl, ?_⟩
    refine ⟨⟨by simp; omega, by simp, by unfold maxLen; omega, by omega⟩, ?_⟩
    repeat refine ⟨rfl, ?_⟩
    refine hN _ (i + 1) [(5, 126)] h (by omega) (by rfl) (vc ?_) (vc ?_)
    · rw [w64 _ (by omega)]; simp
    · exact ⟨by simp; omega, map_take_next (wrC true) hx⟩
  · have h : i = d.wr.length := by simp at h; omega
    subst h
    rw [List.take_length]
    exact endQ_of [(1, 4), (2, 5)] d.ow (d.obs.map some) (by rfl) (by unfold Dk.ow; exact vc trivial) (by unfold Dk.obs; exact vc trivial) ⟨rfl, rfl⟩
theorem copyDisk_ok (d : Dk) (hd : d.fits (2^40)) : CallOk Try.prog 64 [] [d.rd] (fun r out => r = d.ow ∧ out = d.obs.map some) := by
  unfold Dk.rd
  have hf1 := hd.1
  have hf2 := hd.2.2.1
  refine callOk_z (np := 0) {} mixed Try.func64 (by rfl) Try.ntmps64 Try.results64 (by rfl) (Nat.le_of_ble_eq_true rfl) rfl rfl rfl (vc ?_)
  refine loopQ_of (fun i => [(1, .pt 1 0 0), (2, .pt 2 0 0), (3, .pt 3 0 0), (10, Rw (d.sh.map (shC false))), (11, In d.sh.length), (12, In (i : Nat))]) (fun i => [(1, .box 31 [Rw (d.sh.map (shC false)), Rw (d.wr.map (wrC false))]), (2, .box 31 [.nul, .nul]), (3, .box 31 [.sl 4 i, .nul]), (4, .rw 155 1 ((d.sh.take i).map (shC true)))]) 5 (fun i => d.sh.length - i) (fun i => i ≤ d.sh.length) 0 (Nat.zero_le _) [(2, 9), (3, 25), (4, 0)] (by rfl) (vc trivial) (vc trivial) (fun i hi N hN => vc (brB_intro (fun h => ?_) (fun h => ?_)))
  · have h : i < d.sh.length := by simpa using h
    have hx := List.getElem?_eq_getElem h
    have hfx := hd.2.1 _ (List.getElem_mem h)
    rw [get_map hx, shC]
    refine vc ?_
    refine drawQ_of false (by rfl) (by simp) (vc ?_)
    refine calld_of [] false [] (copyBytes_ok d.sh[i] hfx) rfl trivial (vc trivial) (by rfl) ⟨_, _, rfl, rfl⟩ ?_
    rintro r out ⟨rfl, rfl⟩
    refine ⟨by simp, by simp, by simp, vc ?_⟩
    repeat refine ⟨rfl, ?_⟩
    refine ⟨⟨by simp; omega, by simp, by unfold maxLen; omega, by omega⟩, ?_⟩
    repeat refine ⟨rfl, ?_⟩
    refine hN _ (i + 1) [(4, 101)] h (by omega) (by rfl) (vc ?_) (vc ?_)
    · rw [w64 _ (by omega)]; simp
    · exact ⟨by simp; omega, map_take_next (shC true) hx⟩
  have h : i = d.sh.length := by simp at h; omega
  subst h
  refine loopQ_of (fun i => [(1, .pt 1 0 0), (2, .pt 2 0 0), (3, .pt 3 0 0), (27, Rw (d.wr.map (wrC false))), (28, In d.wr.length), (29, In (i : Nat))]) (fun i => [(1, .box 31 [Rw (d.sh.map (shC false)), Rw (d.wr.map (wrC false))]), (2, .box 31 [.nul, .nul]), (3, .box 31 [.sl 4 d.sh.length, .sl 5 i]), (4, .rw 155 1 (d.sh.map (shC true))), (5, .rw 90 2 ((d.wr.take i).map (wrC true)))]) 6 (fun i => d.wr.length - i) (fun i => i ≤ d.wr.length) 0 (Nat.zero_le _) [(5, 0)] (by rfl) (vc trivial) (vc ?_) (fun i hi N hN => vc (brB_intro (fun h => ?_) (fun h => ?_)))
  · rw [List.take_length]
  · have h : i < d.wr.length := by simpa using h
    have hx := List.getElem?_eq_getElem h
    have hfx := hd.2.2.2 _ (List.getElem_mem h)
    rw [get_map hx, wrC]
    refine vc ?_
    refine drawQ_of false (by rfl) (by simp) (vc ?_)
    refine calld_of [] false [] (copyBytes_ok d.wr[i].2 hfx) rfl trivial (vc trivial) (by rfl) ⟨_, _, rfl, rfl⟩ ?_
    rintro r out ⟨rfl, rfl⟩
    refine ⟨by simp, by simp, by simp, vc ?_⟩
    repeat refine ⟨rfl, ?_⟩
    refine ⟨⟨by simp; omega, by simp, by unfold maxLen; omega, by omega⟩, ?_⟩
    repeat refine ⟨rfl, ?_⟩
    refine hN _ (i + 1) [(5, 118)] h (by omega) (by rfl) (vc ?_) (vc ?_)
    · rw [w64 _ (by omega)]; simp
    · exact ⟨by simp; omega, map_take_next (wrC true) hx⟩
  · have h : i = d.wr.length := by simp at h; omega
    subst h
    rw [List.take_length]
    exact endQ_of [(1, 4), (2, 5)] d.ow (d.obs.map some) (by rfl) (by unfold Dk.ow; exact vc trivial) (by unfold Dk.obs; exact vc trivial) ⟨rfl, rfl⟩
theorem Dk.fits.snoc {M : Nat} {d : Dk} (hd : d.fits M) {a : Int} {b : List UInt8} (h : d.wr.length < M) (hb : b.length ≤ M) : (⟨d.sh, d.wr ++ [(a, b)]⟩ : Dk).fits M := by
  refine ⟨hd.1, hd.2.1, by simp; omega, fun x hx => ?_⟩
  rcases List.mem_append.1 hx with hx | hx
  · exact hd.2.2.2 x hx
  · simp at hx; subst hx; exact hb
open Classical in
/-- A write put behind. -/
noncomputable def Dk.write (d : Dk) (a : Int) (b : List UInt8) : Dk × Bool :=
  if d.ok ∧ Dk.wrOk d.sh.length (a, b) ∧ d.wr.length < 500 then (⟨d.sh, d.wr ++ [(a, b)]⟩, true) else (⟨[], []⟩, false)
theorem specDiskWrite_ok (d : Dk) (hd : d.fits (2^40)) (a : Int) (b : List UInt8) (hb : b.length ≤ 2^40) : CallOk Try.prog 13 [] [d.rd, In a, Rw (eB b)]
    (fun r out => r = .tu [(d.write a b).1.ow, Bo (d.write a b).2] ∧ out = (d.write a b).1.obs.map some) := by
  unfold Dk.rd
  have hf1 := hd.1
  have hf2 := hd.2.2.1
  refine callOk_z (np := 0) {} mixed Try.func13 (by rfl) Try.ntmps13 Try.results13 (by rfl) (Nat.le_of_ble_eq_true rfl) rfl rfl rfl (vc ?_)
  refine callq_of false [] (specDiskOk_ok d hd) rfl trivial (by unfold Dk.rd; exact vc trivial) ?_
  rintro r out ⟨rfl, rfl⟩
  refine ⟨by simp, by simp, by simp, vc ?_⟩
  refine brB_intro (fun h => ?_) (fun h => ?_)
  · have h : ¬ d.ok := fun e => by rw [tf_true e] at h; simp at h
    rw [show d.write a b = (⟨[], []⟩, false) from if_neg (fun e => h e.1)]
    exact endQ_of [(1, 0), (2, 0)] (.tu [(⟨[], []⟩ : Dk).ow, Bo false]) ((⟨[], []⟩ : Dk).obs.map some) (by rfl) (by unfold Dk.ow; exact vc trivial) (by unfold Dk.obs; exact vc trivial) ⟨rfl, rfl⟩
  have hok : d.ok := by
    by_cases e : d.ok
    · exact e
    · rw [tf_false e] at h; simp at h
  refine callq_of false [] (l05Copy_ok d hd) rfl trivial (by unfold Dk.rd; exact vc trivial) ?_
  rintro r out ⟨rfl, rfl⟩
  refine ⟨by simp, by simp [Dk.obs], by simp, ?_⟩
  unfold Dk.ow Dk.obs
  refine vc ?_
  refine drawQ_of false (by rfl) (by simp) (vc ?_)
  refine ⟨⟨by unfold maxLen; omega, by omega⟩, ?_⟩
  repeat refine ⟨rfl, ?_⟩
  refine ⟨⟨by simp, by unfold maxLen; omega, by omega⟩, ?_⟩
  repeat refine ⟨rfl, ?_⟩
  rw [show d.wr.map (wrC true) ++ [[CV.v (.int .i64 a), CV.row true (eB b)]] = (d.wr ++ [(a, b)]).map (wrC true) by simp [wrC]]
  have hd' : (⟨d.sh, d.wr ++ [(a, b)]⟩ : Dk).fits (2^40) := hd.snoc (by have := hok.1; omega) hb
  refine callq_of true [] (specDiskOk_ok ⟨d.sh, d.wr ++ [(a, b)]⟩ hd') rfl trivial (by unfold Dk.rd; refine vc ?_; simp) ?_
  rintro r out ⟨rfl, rfl⟩
  refine ⟨by simp, by simp, fun _ => ⟨.v _, by simp⟩, vc ?_⟩
  have hiff : (⟨d.sh, d.wr ++ [(a, b)]⟩ : Dk).ok ↔ d.ok ∧ Dk.wrOk d.sh.length (a, b) ∧ d.wr.length < 500 := by
    constructor
    · intro e
      have h1 := e.1
      have h2 := e.2.2 (a, b) (by simp)
      exact ⟨hok, h2, by simp at h1; omega⟩
    · rintro ⟨e, e1, e2⟩
      refine ⟨by have := e.1; simp; omega, e.2.1, fun x hx => ?_⟩
      rcases List.mem_append.1 hx with hx | hx
      · exact e.2.2 x hx
      · simp at hx; subst hx; exact e1
  by_cases hk : d.ok ∧ Dk.wrOk d.sh.length (a, b) ∧ d.wr.length < 500
  · rw [tf_true (hiff.2 hk), show d.write a b = (⟨d.sh, d.wr ++ [(a, b)]⟩, true) from if_pos hk]
    refine vc ?_
    refine endQ_of [(1, 57), (2, 145)] (.tu [.ag [.sl 1 d.sh.length, .sl 2 (d.wr ++ [(a, b)]).length], Bo true]) [some (.rw 155 1 (d.sh.map (shC true))), some (.rw 90 2 ((d.wr ++ [(a, b)]).map (wrC true)))] (by rfl) (vc ?_) (vc trivial) ⟨rfl, rfl⟩
    simp
  · rw [tf_false (fun e => hk (hiff.1 e)), show d.write a b = (⟨[], []⟩, false) from if_neg hk]
    refine vc ?_
    exact endQ_of [(1, 0), (2, 0)] (.tu [.ag [.sl 1 0, .sl 2 0], Bo false]) [some (.rw 155 1 []), some (.rw 90 2 [])] (by rfl) (vc trivial) (vc trivial) ⟨rfl, rfl⟩
theorem implDiskWrite_ok (d : Dk) (hd : d.fits (2^40)) (a : Int) (b : List UInt8) (hb : b.length ≤ 2^40) : CallOk Try.prog 16 [] [d.rd, In a, Rw (eB b)]
    (fun r out => r = .tu [(d.write a b).1.ow, Bo (d.write a b).2] ∧ out = (d.write a b).1.obs.map some) := by
  unfold Dk.rd
  have hf1 := hd.1
  have hf2 := hd.2.2.1
  have hno : (¬ (d.ok ∧ Dk.wrOk d.sh.length (a, b) ∧ d.wr.length < 500)) → ∀ H : Hp, EndQ 0 H (.tu [.ag [.nul, .nul], Bo false]) (fun r out => r = .tu [(d.write a b).1.ow, Bo (d.write a b).2] ∧ out = (d.write a b).1.obs.map some) := fun hk H => by
    rw [show d.write a b = (⟨[], []⟩, false) from if_neg hk]
    exact endQ_of [(1, 0), (2, 0)] (.tu [.ag [.sl 1 0, .sl 2 0], Bo false]) [some (.rw 155 1 []), some (.rw 90 2 [])] (by rfl) (vc trivial) (vc trivial) ⟨rfl, rfl⟩
  refine callOk_z (np := 0) {} mixed Try.func16 (by rfl) Try.ntmps16 Try.results16 (by rfl) (Nat.le_of_ble_eq_true rfl) rfl rfl rfl (vc ?_)
  refine callq_of false [] (implDiskOk_ok d hd) rfl trivial (by unfold Dk.rd; exact vc trivial) ?_
  rintro r out ⟨rfl, rfl⟩
  refine ⟨by simp, by simp, by simp, vc ?_⟩
  refine brB_intro (fun h => ?_) (fun h => ?_)
  · exact hno (fun e => by rw [tf_true e.1] at h; simp at h) _
  have hok : d.ok := by
    by_cases e : d.ok
    · exact e
    · rw [tf_false e] at h; simp at h
  rw [w64 _ (by omega)]
  refine callq_of false [] (within_ok a 0 (d.sh.length - 1)) rfl trivial (vc trivial) ?_
  rintro r out ⟨rfl, rfl⟩
  refine ⟨by simp, by simp, by simp, vc ?_⟩
  refine brB_intro (fun h => ?_) (fun h => ?_)
  · exact hno (fun e => by have := e.2.1.1; simp at h this; omega) _
  have h1 : 0 ≤ a ∧ a < d.sh.length := by simp at h; omega
  refine brB_intro (fun h => ?_) (fun h => ?_)
  · exact hno (fun e => by have := e.2.1.2; simp at h this; omega) _
  have h2 : b.length = 512 := by simp at h; omega
  refine brB_intro (fun h => ?_) (fun h => ?_)
  · exact hno (fun e => by have := e.2.2; simp at h; omega) _
  have h3 : d.wr.length < 500 := by have := hok.1; simp at h; omega
  rw [show d.write a b = (⟨d.sh, d.wr ++ [(a, b)]⟩, true) from if_pos ⟨hok, ⟨h1, h2⟩, h3⟩]
  refine callq_of false [] (copyDisk_ok d hd) rfl trivial (by unfold Dk.rd; exact vc trivial) ?_
  rintro r out ⟨rfl, rfl⟩
  refine ⟨by simp, by simp [Dk.obs], by simp, ?_⟩
  unfold Dk.ow Dk.obs
  refine vc ?_
  refine drawQ_of false (by rfl) (by simp) (vc ?_)
  refine calld_of [] false [] (copyBytes_ok b hb) rfl trivial (vc trivial) (by rfl) ⟨_, _, rfl, rfl⟩ ?_
  rintro r out ⟨rfl, rfl⟩
  refine ⟨by simp, by simp, by simp, vc ?_⟩
  repeat refine ⟨rfl, ?_⟩
  refine ⟨⟨by simp, by unfold maxLen; omega, by omega⟩, ?_⟩
  repeat refine ⟨rfl, ?_⟩
  rw [show d.wr.map (wrC true) ++ [[CV.v (.int .i64 a), CV.row true (eB b)]] = (d.wr ++ [(a, b)]).map (wrC true) by simp [wrC]]
  refine endQ_of [(1, 217), (2, 297)] (.tu [.ag [.sl 1 d.sh.length, .sl 2 (d.wr ++ [(a, b)]).length], Bo true]) [some (.rw 155 1 (d.sh.map (shC true))), some (.rw 90 2 ((d.wr ++ [(a, b)]).map (wrC true)))] (by rfl) (vc ?_) (vc trivial) ⟨rfl, rfl⟩
  simp
theorem sumL_app {α : Type} (f : α → Nat) (a b : List α) : sumL f (a ++ b) = sumL f a + sumL f b := by simp [sumL]
theorem Dk.cnt_eq (d : Dk) : d.cnt = sumL List.length d.sh + (sumL (fun x => x.2.length) d.wr + d.wr.length) := by
  have : ∀ l : List (Int × List UInt8), sumL cntW l = sumL (fun x => x.2.length) l + l.length := by
    intro l
    induction l with
    | nil => rfl
    | cons x r ih => simp only [sumL_cons, ih, cntW, List.length_cons]; omega
  rw [Dk.cnt, this]
theorem Dk.write_size (d : Dk) (a : Int) (b : List UInt8) : (d.write a b).1.size ≤ d.size + b.length + 1 := by
  unfold Dk.write
  split
  · simp only [Dk.size, sumL_app, List.length_append, sumL_cons, sumL_nil, List.length_cons, List.length_nil]; omega
  · simp [Dk.size, sumL_nil]
theorem Dk.cnt_le (d : Dk) : d.cnt ≤ d.size := by rw [d.cnt_eq, Dk.size]; omega
theorem Dk.lens (d : Dk) : d.sh.length ≤ d.size ∧ d.wr.length ≤ d.size := by unfold Dk.size; omega
theorem rs_ow (d : Dk) {m : Nat} (h : 2 ≤ m) : Rs true m d.ow := .ag _ (by intro c hc; simp at hc; rcases hc with rfl | rfl; exact .sl 1 _ (by omega) (by omega); exact .sl 2 _ (by omega) h)
theorem rso_ow (d : Dk) {m : Nat} : ∀ ob, some ob ∈ d.obs.map some → RsOb true m ob := by
  intro ob h
  simp [Dk.obs] at h
  rcases h with rfl | rfl
  · exact .inr (own_sh _)
  · exact .inr (own_wr _)
end Go.Proofs.Ytnnmpdanfeejbaa.Abs
