/- The laws' helpers on bytes: their contracts. -/
import Derived.Test.YtnnmpdanfeejbaaAbsTy
namespace Go.Proofs.Ytnnmpdanfeejbaa.Abs
open Go Go.Proofs
set_option maxRecDepth 10000
set_option linter.unusedVariables false
set_option linter.unusedSimpArgs false
theorem map_take_next {α β : Type} (f : α → β) {xs : List α} {i : Nat} {x : α} (hx : xs[i]? = some x) : (xs.take i).map f ++ [f x] = (xs.take (i + 1)).map f := by
  rw [List.take_add_one, hx, List.map_append]; rfl
theorem toByteS_ok (l : List UInt8) (hl : l.length ≤ 2^40) : CallOk Try.prog 15 [] [Rw (eB l)] (fun r out => r = .sl 1 l.length ∧ out = [some (.rw 5 1 (eB l))]) := by
  refine callOk_z (np := 0) {} mixed Try.func15 (by rfl) Try.ntmps15 Try.results15 (by rfl) (Nat.le_of_ble_eq_true rfl) rfl rfl rfl (vc ?_)
  refine ⟨by omega, ?_⟩
  refine loopQ_of (fun i => [(0, Rw (eB l)), (3, .sl 1 l.length), (4, In (i : Nat))]) (fun i => [(1, .rw 5 1 (eB (l.take i) ++ List.replicate (l.length - i) [.v (.int .u8 0)]))]) 2 (fun i => l.length - i) (fun i => i ≤ l.length) 0 (Nat.zero_le _) [(1, 25)] (by rfl) (vc trivial) (vc ?_) (fun i hi N hN => vc (brB_intro (fun h => ?_) (fun h => ?_)))
  · rfl
  · have h : i < l.length := by simpa using h
    have hx := List.getElem?_eq_getElem h
    rw [eB_some hx]
    refine vc ?_
    refine ⟨⟨h, by simp [eB]; omega⟩, ?_⟩
    rw [eB, fill_get _ _ _ _ h]
    refine vc ?_
    refine hN _ (i + 1) [] (by omega) (by omega) (by rfl) (vc ?_) (vc ?_)
    · rw [w64 _ (by omega)]; simp
    · exact fill_set (fun b : UInt8 => [.v (.int .u8 b.toNat)]) _ l i _ hx
  · have h : i = l.length := by simp at h; omega
    refine endQ_of [] (.sl 1 l.length) [some (.rw 5 1 (eB l))] (by rfl) (vc trivial) (vc ?_) ⟨rfl, rfl⟩
    simp [h]
theorem u8_ne (a b : UInt8) : ((((a.toNat : Nat) : Int) != ((b.toNat : Nat) : Int)) = false) ↔ a = b := by
  constructor
  · intro h
    have h1 : ((a.toNat : Nat) : Int) = ((b.toNat : Nat) : Int) := by simpa using h
    exact UInt8.toNat_inj.1 (by omega)
  · rintro rfl; simp
theorem take_next {α : Type} {l m : List α} {i : Nat} {x y : α} (h : l.take i = m.take i) (hx : l[i]? = some x) (hy : m[i]? = some y) (e : x = y) : l.take (i + 1) = m.take (i + 1) := by
  rw [List.take_add_one, List.take_add_one, h, hx, hy, e]
theorem eqByteS_ok (l m : List UInt8) (hl : l.length ≤ 2^40) : CallOk Try.prog 18 [] [Rw (eB l), Rw (eB m)] (fun r out => r = Bo (decide (l = m)) ∧ out = []) := by
  refine callOk_z (np := 0) {} mixed Try.func18 (by rfl) Try.ntmps18 Try.results18 (by rfl) (Nat.le_of_ble_eq_true rfl) rfl rfl rfl (vc ?_)
  refine brB_intro (fun h => EndQ.closed (.v _) ⟨?_, rfl⟩) (fun h => ?_)
  · have : l ≠ m := fun e => by simp [e] at h
    simp [this]
  have h0 : l.length = m.length := by have : ((l.length : Nat) : Int) = m.length := by simpa using h
                                      omega
  refine loopQ_of (fun i => [(0, Rw (eB l)), (1, Rw (eB m)), (5, In (i : Nat))]) (fun i => []) 1 (fun i => l.length - i) (fun i => i ≤ l.length ∧ l.take i = m.take i) 0 ⟨Nat.zero_le _, rfl⟩ [] (by rfl) (vc trivial) (vc trivial) (fun i hi N hN => vc (brB_intro (fun h => ?_) (fun h => ?_)))
  · have h : i < l.length := by simpa using h
    have hx := List.getElem?_eq_getElem h
    have hy := List.getElem?_eq_getElem (h0 ▸ h)
    refine drawQ_of false (by rfl) (by simp) (vc ?_)
    rw [eB_some hx]
    refine vc ?_
    rw [eB_some hy]
    refine vc ?_
    refine brB_intro (fun hb => EndQ.closed (.v _) ⟨?_, rfl⟩) (fun hb => ?_)
    · have : l ≠ m := fun e => by subst e; simp at hb
      simp [this]
    · refine hN _ (i + 1) [] ⟨h, take_next hi.2 hx hy ((u8_ne _ _).1 hb)⟩ (by omega) (by rfl) (vc ?_) (vc trivial)
      rw [w64 _ (by omega)]; simp
  · have h : i = l.length := by simp at h; omega
    refine EndQ.closed (.v _) ⟨?_, rfl⟩
    have : l = m := by have := hi.2; rw [h, List.take_length, h0, List.take_length] at this; exact this
    simp [this]

/-- The sizes' sum. -/
def sumL {α : Type} (f : α → Nat) (xs : List α) : Nat := (xs.map f).sum
theorem sumL_nil {α : Type} (f : α → Nat) : sumL f [] = 0 := rfl
theorem sumL_cons {α : Type} (f : α → Nat) (x : α) (r : List α) : sumL f (x :: r) = f x + sumL f r := by simp [sumL]
theorem sumL_next {α : Type} (f : α → Nat) {xs : List α} {i : Nat} {x : α} (h : xs[i]? = some x) : sumL f (xs.take (i + 1)) = sumL f (xs.take i) + f x := by
  rw [List.take_add_one, h]; simp [sumL]
theorem sumL_le {α : Type} (f : α → Nat) (xs : List α) (i : Nat) : sumL f (xs.take i) ≤ sumL f xs := by
  conv => rhs; rw [← List.take_append_drop i xs]
  simp only [sumL, List.map_append, List.sum_append]
  omega
/-- What a mark writes into a row: element by element, with the numbers going on. -/
def mkL {α : Type} (f : α → Int → α) (c : α → Nat) : List α → Int → List α
  | [], _ => []
  | x :: r, k => f x k :: mkL f c r (k + c x)
theorem mkL_length {α : Type} (f : α → Int → α) (c : α → Nat) : ∀ (xs : List α) (k : Int), (mkL f c xs k).length = xs.length
  | [], _ => rfl
  | x :: r, k => by simp [mkL, mkL_length f c r]
theorem mkL_get {α : Type} (f : α → Int → α) (c : α → Nat) : ∀ {xs : List α} {k : Int} {i : Nat} {x : α}, xs[i]? = some x → (mkL f c xs k)[i]? = some (f x (k + sumL c (xs.take i)))
  | [], _, _, _, h => by simp at h
  | x :: r, k, 0, y, h => by
    simp at h; subst h
    simp [mkL, sumL_nil]
  | x :: r, k, i + 1, y, h => by
    have := mkL_get f c (xs := r) (k := k + c x) (i := i) (x := y) (by simpa using h)
    rw [mkL, List.getElem?_cons_succ, this, List.take_succ_cons, sumL_cons, Int.natCast_add, Int.add_assoc]
theorem mkL_idem {α : Type} {f : α → Int → α} {c : α → Nat} (h : ∀ x k, f (f x k) k = f x k ∧ c (f x k) = c x) : ∀ (xs : List α) (k : Int), mkL f c (mkL f c xs k) k = mkL f c xs k ∧ sumL c (mkL f c xs k) = sumL c xs
  | [], _ => ⟨rfl, rfl⟩
  | x :: r, k => by
    have ih := mkL_idem h r (k + c x)
    simp only [mkL, sumL_cons, (h x k).1, (h x k).2]
    exact ⟨by rw [ih.1], by rw [ih.2]⟩
theorem mix_get {α β : Type} (enc : α → β) {M xs : List α} {i : Nat} (hM : M.length = xs.length) {x : α} (hx : xs[i]? = some x) : ((M.take i ++ xs.drop i).map enc)[i]? = some (enc x) := by
  have h : i < xs.length := (List.getElem?_eq_some_iff.1 hx).1
  rw [List.getElem?_map, List.getElem?_append_right (by simp; omega), List.getElem?_drop, List.length_take, show i + (i - min i M.length) = i by omega, hx]; rfl
theorem mix_set {α β : Type} (enc : α → β) {M xs : List α} {i : Nat} (hM : M.length = xs.length) {y : α} (hy : M[i]? = some y) : ((M.take i ++ xs.drop i).map enc).set i (enc y) = (M.take (i + 1) ++ xs.drop (i + 1)).map enc := by
  have h : i < xs.length := hM ▸ (List.getElem?_eq_some_iff.1 hy).1
  rw [List.take_add_one, hy, List.drop_eq_getElem_cons h]
  simp only [List.map_append, List.map_cons, Option.toList_some, List.map_nil, List.append_assoc, List.cons_append, List.nil_append]
  rw [List.set_append_right _ _ (by simp; omega)]
  have : i - (List.map enc (List.take i M)).length = 0 := by simp; omega
  rw [this, List.set_cons_zero]
theorem set_self {α : Type} {A : List α} {i : Nat} {x : α} (h : A[i]? = some x) : A.set i x = A := by
  apply List.ext_getElem?
  intro j
  rw [List.getElem?_set]
  split
  · rename_i e
    subst e
    split
    · exact h.symm
    · rename_i hl
      rw [List.getElem?_eq_none (by omega)]
  · rfl
theorem mix_nil {α : Type} (M xs : List α) : M.take 0 ++ xs.drop 0 = xs := by simp
theorem mix_all {α : Type} {M xs : List α} {i : Nat} (hM : M.length = xs.length) (h : i = xs.length) : M.take i ++ xs.drop i = M := by
  subst h
  rw [List.drop_length, List.append_nil, List.take_of_length_le (by omega)]
/-- The bytes that a mark writes. -/
def bk (k : Int) : UInt8 := UInt8.ofNat (k % 256).toNat
theorem bk_wrap (k : Int) : (((bk k).toNat : Nat) : Int) = IntKind.u8.wrap k := by
  rw [w8, bk, UInt8.toNat_ofNat']
  have h1 : 0 ≤ k % 256 := Int.emod_nonneg _ (by omega)
  have h2 : k % 256 < 256 := Int.emod_lt_of_pos _ (by omega)
  omega
def mkB (n : Nat) (k : Int) : List UInt8 := (List.range n).map fun (i : Nat) => bk (k + (i : Int))
theorem mkB_length (n : Nat) (k : Int) : (mkB n k).length = n := by simp [mkB]
def szB (n : Nat) (left : Int) : Int := if left - n < 0 then -1 else left - n

theorem szByteS_ok (l : List UInt8) (k : Int) (hl : l.length ≤ 2^47) (hk : -1 ≤ k ∧ k ≤ 2^40) : CallOk Try.prog 144 [] [Rw (eB l), In k] (fun r out => r = In (szB l.length k) ∧ out = []) := by
  refine callOk_z (np := 0) {} mixed Try.func144 (by rfl) Try.ntmps144 Try.results144 (by rfl) (Nat.le_of_ble_eq_true rfl) rfl rfl rfl (vc ?_)
  rw [w64 _ (by omega)]
  refine brB_intro (fun h => EndQ.closed (.v _) ⟨?_, rfl⟩) (fun h => EndQ.closed (.v _) ⟨?_, rfl⟩)
  · have h : k - l.length < 0 := by simpa using h
    rw [szB, if_pos h]
  · have h : ¬ k - l.length < 0 := by simpa using h
    rw [szB, if_neg h]

theorem heldByteS_ok (l : List UInt8) (k : Int) (hk : 0 ≤ k ∧ k + l.length ≤ 2^60) : CallOk Try.prog 123 [] [Rw (eB l), In k] (fun r out => r = In (if l = mkB l.length k then k + l.length else -1) ∧ out = []) := by
  refine callOk_z (np := 0) {} mixed Try.func123 (by rfl) Try.ntmps123 Try.results123 (by rfl) (Nat.le_of_ble_eq_true rfl) rfl rfl rfl (vc ?_)
  have hm : ∀ i, i < l.length → (mkB l.length k)[i]? = some (bk (k + i)) := fun i hi => by simp [mkB, hi]
  refine loopQ_of (fun i => [(0, Rw (eB l)), (1, In (k + (i : Nat))), (5, In (i : Nat))]) (fun i => []) 1 (fun i => l.length - i) (fun i => i ≤ l.length ∧ l.take i = (mkB l.length k).take i) 0 ⟨Nat.zero_le _, rfl⟩ [] (by rfl) (vc ?_) (vc trivial) (fun i hi N hN => vc (brB_intro (fun h => ?_) (fun h => ?_)))
  · simp
  · have h : i < l.length := by simpa using h
    have hx := List.getElem?_eq_getElem h
    rw [eB_some hx]
    refine vc ?_
    rw [← bk_wrap]
    refine brB_intro (fun hb => EndQ.closed (.v _) ⟨?_, rfl⟩) (fun hb => ?_)
    · have : l ≠ mkB l.length k := fun e => by
        have h2 := hm i h
        rw [← e, hx] at h2
        rw [Option.some.inj h2] at hb
        simp at hb
      rw [if_neg this]
    · refine hN _ (i + 1) [] ⟨h, take_next hi.2 hx (hm i h) ((u8_ne _ _).1 hb)⟩ (by omega) (by rfl) (vc ?_) (vc trivial)
      rw [w64 _ (by omega), w64 _ (by omega)]
      simp; omega
  · have h : i = l.length := by simp at h; omega
    refine EndQ.closed (.v _) ⟨?_, rfl⟩
    have : l = mkB l.length k := by have := hi.2; rw [h, List.take_length, List.take_of_length_le (by rw [mkB_length]; omega)] at this; exact this
    rw [if_pos this, h]

theorem markByteS_ok (ty : Nat) (l : List UInt8) (k : Int) (hk : 0 ≤ k ∧ k + l.length ≤ 2^60) : CallOk Try.prog 20 [.rw ty 1 (eB l)] [.sl 1 l.length, In k] (fun r out => r = In (k + l.length) ∧ out = [some (.rw ty 1 (eB (mkB l.length k)))]) := by
  refine callOk_z (np := 1) {} mixed Try.func20 (by rfl) Try.ntmps20 Try.results20 (by rfl) (Nat.le_of_ble_eq_true rfl) rfl rfl rfl (vc ?_)
  have hm : ∀ i, i < l.length → (mkB l.length k)[i]? = some (bk (k + i)) := fun i hi => by simp [mkB, hi]
  refine loopQ_of (fun i => [(0, .sl 1 l.length), (1, In (k + (i : Nat))), (5, In (i : Nat))]) (fun i => [(1, .rw ty 1 (eB ((mkB l.length k).take i ++ l.drop i)))]) 2 (fun i => l.length - i) (fun i => i ≤ l.length) 0 (Nat.zero_le _) [] (by rfl) (vc ?_) (vc ?_) (fun i hi N hN => vc (brB_intro (fun h => ?_) (fun h => ?_)))
  · simp
  · simp [HpS, wkO]
  · have h : i < l.length := by simpa using h
    have hg : (eB ((mkB l.length k).take i ++ l.drop i))[i]? = some [.v (.int .u8 l[i].toNat)] := eB_some (by
      rw [List.getElem?_append_right (by simp [mkB]; omega), List.getElem?_drop, List.length_take, mkB_length, show i + (i - min i l.length) = i by omega, List.getElem?_eq_getElem h])
    refine ⟨⟨h, by simp [mkB]; omega⟩, ?_⟩
    rw [hg]
    refine vc ?_
    refine hN _ (i + 1) [] h (by omega) (by rfl) (vc ?_) (vc ?_)
    · rw [w64 _ (by omega), w64 _ (by omega)]
      simp; omega
    · rw [← bk_wrap]
      have hm' := hm i h
      rw [List.take_add_one, hm', List.drop_eq_getElem_cons h]
      simp only [eB, List.map_append, List.map_cons, Option.toList_some, List.map_nil, List.append_assoc, List.cons_append, List.nil_append]
      rw [List.set_append_right _ _ (by simp [mkB]; omega)]
      have : i - (List.map (fun b : UInt8 => [CV.v (Value.int IntKind.u8 ↑b.toNat)]) (List.take i (mkB l.length k))).length = 0 := by simp [mkB]; omega
      rw [this, List.set_cons_zero]
  · have h : i = l.length := by simp at h; omega
    refine endQ_of [] (In (k + l.length)) [some (.rw ty 1 (eB (mkB l.length k)))] (by rfl) (vc ?_) (vc ?_) ⟨rfl, rfl⟩
    · rw [h]
    · subst h
      rw [List.take_of_length_le (by rw [mkB_length]; omega), List.drop_length, List.append_nil]
theorem markByteS_nil (k : Int) (hk : 0 ≤ k ∧ k ≤ 2^60) (b : Bool) : CallOk Try.prog 20 [] [.c (.row b []), In k] (fun r out => r = In k ∧ out = []) := by
  refine callOk_z (np := 0) {} mixed Try.func20 (by rfl) Try.ntmps20 Try.results20 (by rfl) (Nat.le_of_ble_eq_true rfl) rfl rfl rfl (vc ?_)
  refine loopQ_of (ι := Unit) (fun i => [(0, .c (.row b [])), (1, In k), (5, In (0 : Nat))]) (fun i => []) 1 (fun i => 0) (fun i => True) () trivial [] (by rfl) (vc trivial) (vc trivial) (fun i hi N hN => vc ?_)
  exact EndQ.closed (.v _) ⟨rfl, rfl⟩
end Go.Proofs.Ytnnmpdanfeejbaa.Abs
