import Derived.Test.YtnnmpdanfeejbaaGreatAbsG5
import Derived.Deep.Slices
import Derived.SizedLaws
import Derived.Lib.SmallJoins
/- Stores compared: both sides. -/
namespace Go.Proofs.YtnnmpdanfeejbaaGreat.Abs
open Go Go.Proofs
set_option maxRecDepth 10000
set_option linter.unusedVariables false
set_option linter.unusedSimpArgs false
theorem l06SameInts_ok (a b : List Int) (hl : a.length ≤ 2^40) : CallOk Tryz.prog 60 [] [Rw (a.map inC), Rw (b.map inC)] (fun r out => r = Bo (tf (a = b)) ∧ out = []) := by
  refine callOk_z (np := 0) {} mixed Tryz.func60 (by rfl) Tryz.ntmps60 Tryz.results60 (by rfl) (Nat.le_of_ble_eq_true rfl) rfl rfl rfl (vc ?_)
  have hno : ∀ H : Hp, a ≠ b → EndQ 0 H (Bo false) (fun r out => r = Bo (tf (a = b)) ∧ out = []) := fun H e => EndQ.closed (.v _) ⟨by rw [tf_false e], rfl⟩
  refine brB_intro (fun h => hno _ (fun e => by subst e; simp at h)) (fun h1 => ?_)
  have h1 : a.length = b.length := by simp at h1; omega
  refine loopQ_of (fun i => [(0, Rw (a.map inC)), (1, Rw (b.map inC)), (12, In a.length), (13, In (i : Nat))]) (fun i => []) 1 (fun i => a.length - i) (fun i => i ≤ a.length ∧ a.take i = b.take i) 0 ⟨Nat.zero_le _, rfl⟩ [] (by rfl) (vc trivial) (vc trivial) (fun i hi N hN => vc (brB_intro (fun h => ?_) (fun h => ?_)))
  · have h : i < a.length := by simpa using h
    have hx := List.getElem?_eq_getElem h
    have hy := List.getElem?_eq_getElem (show i < b.length by omega)
    refine drawQ_of false (by rfl) (by simp) (vc ?_)
    rw [get_map hx, inC]
    refine vc ?_
    rw [get_map hy, inC]
    refine vc ?_
    refine brB_intro (fun hb => ?_) (fun hb => ?_)
    · refine hno _ (fun e => ?_)
      have : a[i] = b[i] := by subst e; rfl
      rw [this] at hb; simp at hb
    · have hb : a[i] = b[i] := by simpa using hb
      refine hN _ (i + 1) [] ⟨h, take_next hi.2 hx hy hb⟩ (by omega) (by rfl) (vc ?_) (vc trivial)
      rw [w64 _ (by omega)]; simp
  · have h : i = a.length := by simp at h; omega
    have e1: a = b := by have := hi.2; rwa [h, List.take_length, show a.length = b.length by omega, List.take_length] at this
    exact EndQ.closed (.v _) ⟨by rw [tf_true e1], rfl⟩
theorem slEqInt_ok (a b : List Int) (hl : a.length ≤ 2^40) : CallOk Tryz.prog 63 [] [Rw (a.map inC), Rw (b.map inC)] (fun r out => r = Bo (tf (a = b)) ∧ out = []) := by
  refine callOk_z (np := 0) {} mixed Tryz.func63 (by rfl) Tryz.ntmps63 Tryz.results63 (by rfl) (Nat.le_of_ble_eq_true rfl) rfl rfl rfl (vc ?_)
  have hno : ∀ H : Hp, a ≠ b → EndQ 0 H (Bo false) (fun r out => r = Bo (tf (a = b)) ∧ out = []) := fun H e => EndQ.closed (.v _) ⟨by rw [tf_false e], rfl⟩
  refine brB_intro (fun h => hno _ (fun e => by subst e; simp at h)) (fun h1 => ?_)
  have h1 : a.length = b.length := by simp at h1; omega
  refine loopQ_of (fun i => [(0, Rw (a.map inC)), (1, Rw (b.map inC)), (12, In a.length), (13, In (i : Nat))]) (fun i => []) 1 (fun i => a.length - i) (fun i => i ≤ a.length ∧ a.take i = b.take i) 0 ⟨Nat.zero_le _, rfl⟩ [] (by rfl) (vc trivial) (vc trivial) (fun i hi N hN => vc (brB_intro (fun h => ?_) (fun h => ?_)))
  · have h : i < a.length := by simpa using h
    have hx := List.getElem?_eq_getElem h
    have hy := List.getElem?_eq_getElem (show i < b.length by omega)
    refine drawQ_of false (by rfl) (by simp) (vc ?_)
    rw [get_map hx, inC]
    refine vc ?_
    rw [get_map hy, inC]
    refine vc ?_
    refine brB_intro (fun hb => ?_) (fun hb => ?_)
    · refine hno _ (fun e => ?_)
      have : a[i] = b[i] := by subst e; rfl
      rw [this] at hb; simp at hb
    · have hb : a[i] = b[i] := by simpa using hb
      refine hN _ (i + 1) [] ⟨h, take_next hi.2 hx hy hb⟩ (by omega) (by rfl) (vc ?_) (vc trivial)
      rw [w64 _ (by omega)]; simp
  · have h : i = a.length := by simp at h; omega
    have e1: a = b := by have := hi.2; rwa [h, List.take_length, show a.length = b.length by omega, List.take_length] at this
    exact EndQ.closed (.v _) ⟨by rw [tf_true e1], rfl⟩
theorem slEqStr_ok (a b : List ByteArray) (hl : a.length ≤ 2^40) : CallOk Tryz.prog 119 [] [Rw (a.map stC), Rw (b.map stC)] (fun r out => r = Bo (tf (a = b)) ∧ out = []) := by
  refine callOk_z (np := 0) {} mixed Tryz.func119 (by rfl) Tryz.ntmps119 Tryz.results119 (by rfl) (Nat.le_of_ble_eq_true rfl) rfl rfl rfl (vc ?_)
  have hno : ∀ H : Hp, a ≠ b → EndQ 0 H (Bo false) (fun r out => r = Bo (tf (a = b)) ∧ out = []) := fun H e => EndQ.closed (.v _) ⟨by rw [tf_false e], rfl⟩
  refine brB_intro (fun h => hno _ (fun e => by subst e; simp at h)) (fun h1 => ?_)
  have h1 : a.length = b.length := by simp at h1; omega
  refine loopQ_of (fun i => [(0, Rw (a.map stC)), (1, Rw (b.map stC)), (12, In a.length), (13, In (i : Nat))]) (fun i => []) 1 (fun i => a.length - i) (fun i => i ≤ a.length ∧ a.take i = b.take i) 0 ⟨Nat.zero_le _, rfl⟩ [] (by rfl) (vc trivial) (vc trivial) (fun i hi N hN => vc (brB_intro (fun h => ?_) (fun h => ?_)))
  · have h : i < a.length := by simpa using h
    have hx := List.getElem?_eq_getElem h
    have hy := List.getElem?_eq_getElem (show i < b.length by omega)
    refine drawQ_of false (by rfl) (by simp) (vc ?_)
    rw [get_map hx, stC]
    refine vc ?_
    rw [get_map hy, stC]
    refine vc ?_
    refine brB_intro (fun hb => ?_) (fun hb => ?_)
    · refine hno _ (fun e => ?_)
      have : a[i] = b[i] := by subst e; rfl
      rw [this] at hb; simp at hb
    · have hb : a[i] = b[i] := (ba_ne _ _).1 hb
      refine hN _ (i + 1) [] ⟨h, take_next hi.2 hx hy hb⟩ (by omega) (by rfl) (vc ?_) (vc trivial)
      rw [w64 _ (by omega)]; simp
  · have h : i = a.length := by simp at h; omega
    have e1: a = b := by have := hi.2; rwa [h, List.take_length, show a.length = b.length by omega, List.take_length] at this
    exact EndQ.closed (.v _) ⟨by rw [tf_true e1], rfl⟩
theorem slEqPair_ok (a b : List Pr) (hl : a.length ≤ 2^40) : CallOk Tryz.prog 118 [] [Rw (a.map prC), Rw (b.map prC)] (fun r out => r = Bo (tf (a = b)) ∧ out = []) := by
  refine callOk_z (np := 0) {} mixed Tryz.func118 (by rfl) Tryz.ntmps118 Tryz.results118 (by rfl) (Nat.le_of_ble_eq_true rfl) rfl rfl rfl (vc ?_)
  have hno : ∀ H : Hp, a ≠ b → EndQ 0 H (Bo false) (fun r out => r = Bo (tf (a = b)) ∧ out = []) := fun H e => EndQ.closed (.v _) ⟨by rw [tf_false e], rfl⟩
  refine brB_intro (fun h => hno _ (fun e => by subst e; simp at h)) (fun h1 => ?_)
  have h1 : a.length = b.length := by simp at h1; omega
  refine loopQ_of (fun i => [(0, Rw (a.map prC)), (1, Rw (b.map prC)), (12, In a.length), (13, In (i : Nat))]) (fun i => []) 1 (fun i => a.length - i) (fun i => i ≤ a.length ∧ a.take i = b.take i) 0 ⟨Nat.zero_le _, rfl⟩ [] (by rfl) (vc trivial) (vc trivial) (fun i hi N hN => vc (brB_intro (fun h => ?_) (fun h => ?_)))
  · have h : i < a.length := by simpa using h
    have hx := List.getElem?_eq_getElem h
    have hy := List.getElem?_eq_getElem (show i < b.length by omega)
    refine drawQ_of false (by rfl) (by simp) (vc ?_)
    rw [get_map hx, prC]
    refine vc ?_
    rw [get_map hy, prC]
    refine vc ?_
    refine brB_intro (fun hb => ?_) (fun hb => ?_)
    · refine hno _ (fun e => ?_)
      have : a[i] = b[i] := by subst e; rfl
      rw [this] at hb; simp at hb
    · have hb : a[i] = b[i] := by
        simp only [Bool.not_eq_false', Bool.and_eq_true, beq_iff_eq] at hb
        exact pr_ext (ba_ext hb.1) (ba_ext hb.2)
      refine hN _ (i + 1) [] ⟨h, take_next hi.2 hx hy hb⟩ (by omega) (by rfl) (vc ?_) (vc trivial)
      rw [w64 _ (by omega)]; simp
  · have h : i = a.length := by simp at h; omega
    have e1: a = b := by have := hi.2; rwa [h, List.take_length, show a.length = b.length by omega, List.take_length] at this
    exact EndQ.closed (.v _) ⟨by rw [tf_true e1], rfl⟩
theorem l06SameTree_ok (a b : List Nd) (ha : ∀ x ∈ a, x.le (2^40)) (hb : ∀ x ∈ b, x.le (2^40)) (hl : a.length ≤ 2^40) : CallOk Tryz.prog 59 [] [treeAg a, treeAg b] (fun r out => r = Bo (tf (a = b)) ∧ out = []) := by
  unfold treeAg
  refine callOk_z (np := 0) {} mixed Tryz.func59 (by rfl) Tryz.ntmps59 Tryz.results59 (by rfl) (Nat.le_of_ble_eq_true rfl) rfl rfl rfl (vc ?_)
  have hno : ∀ H : Hp, a ≠ b → EndQ 0 H (Bo false) (fun r out => r = Bo (tf (a = b)) ∧ out = []) := fun H e => EndQ.closed (.v _) ⟨by rw [tf_false e], rfl⟩
  refine brB_intro (fun h => hno _ (fun e => by subst e; simp at h)) (fun h1 => ?_)
  have h1 : a.length = b.length := by simp at h1; omega
  refine loopQ_of (fun i => [(2, .pt 1 0 0), (3, .pt 2 0 0), (15, In a.length), (16, In (i : Nat))]) (fun i => [(1, .box 33 [Rw (a.map (ndC false))]), (2, .box 33 [Rw (b.map (ndC false))])]) 3 (fun i => a.length - i) (fun i => i ≤ a.length ∧ a.take i = b.take i) 0 ⟨Nat.zero_le _, rfl⟩ [(2, 9)] (by rfl) (vc trivial) (vc trivial) (fun i hi N hN => vc (brB_intro (fun h => ?_) (fun h => ?_)))
  · have h : i < a.length := by simpa using h
    have hx := List.getElem?_eq_getElem h
    have hy := List.getElem?_eq_getElem (show i < b.length by omega)
    refine drawQ_of false (by rfl) (by simp) (vc ?_)
    rw [get_map hx, ndC]
    refine vc ?_
    rw [get_map hy, ndC]
    refine vc ?_
    have hs := sameNode_ok a[i] b[i] (ha _ (List.getElem_mem h)) (hb _ (List.getElem_mem _))
    unfold Nd.rd at hs
    refine calld_of [] false [] hs rfl trivial (vc trivial) (by rfl) ⟨_, _, rfl, rfl⟩ ?_
    rintro r out ⟨rfl, rfl⟩
    refine ⟨by simp, by simp, by simp, vc ?_⟩
    refine brB_intro (fun hb => ?_) (fun hb => ?_)
    · refine hno _ (fun e => ?_)
      have : a[i] = b[i] := by subst e; rfl
      rw [this] at hb; simp at hb
    · have hb : a[i] = b[i] := by simpa using hb
      refine hN _ (i + 1) [(2, 2)] ⟨h, take_next hi.2 hx hy hb⟩ (by omega) (by rfl) (vc ?_) (vc trivial)
      rw [w64 _ (by omega)]; simp
  · have h : i = a.length := by simp at h; omega
    have e1: a = b := by have := hi.2; rwa [h, List.take_length, show a.length = b.length by omega, List.take_length] at this
    exact EndQ.closed (.v _) ⟨by rw [tf_true e1], rfl⟩
theorem sameNd_ok (a b : Nd) (ha : a.le (2^40)) : CallOk Tryz.prog 117 [] [a.rd, b.rd] (fun r out => r = Bo (tf (a = b)) ∧ out = []) := by
  obtain ⟨p1, k1, c1⟩ := a
  obtain ⟨p2, k2, c2⟩ := b
  obtain ⟨a1, a2, a3⟩ := ha
  simp only at a1 a2 a3
  unfold Nd.rd
  refine callOk_z (np := 0) {} mixed Tryz.func117 (by rfl) Tryz.ntmps117 Tryz.results117 (by rfl) (Nat.le_of_ble_eq_true rfl) rfl rfl rfl (vc ?_)
  have hno : ∀ H : Hp, (p1 ≠ p2 ∨ k1 ≠ k2 ∨ c1 ≠ c2) → EndQ 0 H (Bo false) (fun r out => r = Bo (tf (Nd.mk p1 k1 c1 = Nd.mk p2 k2 c2)) ∧ out = []) := fun H e => EndQ.closed (.v _) ⟨by
    rw [tf_false]
    intro e2
    cases e2
    simp at e, rfl⟩
  refine callq_of false [] (slEqPair_ok p1 p2 a1) rfl trivial (vc trivial) ?_
  rintro r out ⟨rfl, rfl⟩
  refine vc4 (by simp) (by simp) (by simp) ?_
  by_cases e1 : p1 = p2
  case neg => rw [tf_false e1]; refine vc ?_; exact hno _ (.inl e1)
  rw [tf_true e1]
  refine vc ?_
  refine callq_of false [] (slEqStr_ok k1 k2 a2) rfl trivial (vc trivial) ?_
  rintro r out ⟨rfl, rfl⟩
  refine vc4 (by simp) (by simp) (by simp) ?_
  by_cases e2 : k1 = k2
  case neg => rw [tf_false e2]; refine vc ?_; exact hno _ (.inr (.inl e2))
  rw [tf_true e2]
  refine vc ?_
  refine callq_of false [] (slEqInt_ok c1 c2 a3) rfl trivial (vc trivial) ?_
  rintro r out ⟨rfl, rfl⟩
  refine vc4 (by simp) (by simp) (by simp) ?_
  by_cases e3 : c1 = c2
  case neg => rw [tf_false e3]; exact hno _ (.inr (.inr e3))
  rw [tf_true e3]
  exact EndQ.closed (.v _) ⟨by rw [tf_true (by rw [e1, e2, e3])], rfl⟩
theorem eqFunc_ok (a b : List Nd) (ha : ∀ x ∈ a, x.le (2^40)) (hl : a.length ≤ 2^40) : CallOk Tryz.prog 116 [] [Rw (a.map (ndC false)), Rw (b.map (ndC false)), .c (.v (.func (.func 117) #[] #[]))] (fun r out => r = Bo (tf (a = b)) ∧ out = []) := by
  refine callOk_z (np := 0) {} mixed Tryz.func116 (by rfl) Tryz.ntmps116 Tryz.results116 (by rfl) (Nat.le_of_ble_eq_true rfl) rfl rfl rfl (vc ?_)
  have hno : ∀ H : Hp, a ≠ b → EndQ 0 H (Bo false) (fun r out => r = Bo (tf (a = b)) ∧ out = []) := fun H e => EndQ.closed (.v _) ⟨by rw [tf_false e], rfl⟩
  refine brB_intro (fun h => hno _ (fun e => by subst e; simp at h)) (fun h1 => ?_)
  have h1 : a.length = b.length := by simp at h1; omega
  refine loopQ_of (fun i => [(1, Rw (b.map (ndC false))), (2, .c (.v (.func (.func 117) #[] #[]))), (15, Rw (a.map (ndC false))), (16, In a.length), (17, In (i : Nat))]) (fun i => []) 1 (fun i => a.length - i) (fun i => i ≤ a.length ∧ a.take i = b.take i) 0 ⟨Nat.zero_le _, rfl⟩ [] (by rfl) (vc trivial) (vc trivial) (fun i hi N hN => vc (brB_intro (fun h => ?_) (fun h => ?_)))
  · have h : i < a.length := by simpa using h
    have hx := List.getElem?_eq_getElem h
    have hy := List.getElem?_eq_getElem (show i < b.length by omega)
    rw [get_map hx, ndC]
    refine vc ?_
    rw [get_map hy, ndC]
    refine vc ?_
    have hs := sameNd_ok a[i] b[i] (ha _ (List.getElem_mem h))
    unfold Nd.rd at hs
    refine callq_of false [] hs rfl trivial (vc trivial) ?_
    rintro r out ⟨rfl, rfl⟩
    refine vc4 (by simp) (by simp) (by simp) ?_
    by_cases e : a[i] = b[i]
    · rw [tf_true e]
      refine vc ?_
      refine hN _ (i + 1) [] ⟨h, take_next hi.2 hx hy e⟩ (by omega) (by rfl) (vc ?_) (vc trivial)
      rw [w64 _ (by omega)]; simp
    · rw [tf_false e]
      refine vc ?_
      exact hno _ (fun e2 => e (by subst e2; rfl))
  · have h : i = a.length := by simp at h; omega
    have e1: a = b := by have := hi.2; rwa [h, List.take_length, show a.length = b.length by omega, List.take_length] at this
    exact EndQ.closed (.v _) ⟨by rw [tf_true e1], rfl⟩
theorem sameTree_ok (a b : List Nd) (ha : ∀ x ∈ a, x.le (2^40)) (hl : a.length ≤ 2^40) : CallOk Tryz.prog 62 [] [treeAg a, treeAg b] (fun r out => r = Bo (tf (a = b)) ∧ out = []) := by
  unfold treeAg
  refine callOk_z (np := 0) {} mixed Tryz.func62 (by rfl) Tryz.ntmps62 Tryz.results62 (by rfl) (Nat.le_of_ble_eq_true rfl) rfl rfl rfl (vc ?_)
  refine callq_of false [] (eqFunc_ok a b ha hl) rfl trivial (vc trivial) ?_
  rintro r out ⟨rfl, rfl⟩
  refine vc4 (by simp) (by simp) (by simp) ?_
  exact EndQ.closed (.v _) ⟨rfl, rfl⟩
def storeOk (s : St) : Prop := (openS s.d).2 = 0 ∧ (openS s.d).1.g = s.g ∧ (openS s.d).1.t = s.t ∧ (openS s.d).1.ps = s.ps
theorem fits_le {n : Nd} {M : Nat} (h : n.fits M) : n.le M := ⟨h.1, h.2.1, h.2.2.1⟩
theorem specStoreOk_ok (s : St) (hf : s.fits (2^40)) : CallOk Tryz.prog 18 [] [s.rd] (fun r out => r = Bo (tf (storeOk s)) ∧ out = []) := by
  obtain ⟨e1, e2⟩ := openS_facts s.d
  have co := specOpen_ok s.d hf.1
  have ct := l06SameTree_ok (openS s.d).1.t s.t (fun x hx => fits_le (e1.2.2.1 x hx)) (fun x hx => fits_le (hf.2.2.1 x hx)) e1.2.1
  have ci := l06SameInts_ok (openS s.d).1.ps s.ps e1.2.2.2
  unfold storeOk
  have e3 := e1.2.2.2
  generalize openS s.d = o at co ct ci e1 e2 e3 ⊢
  obtain ⟨S, k⟩ := o
  unfold opR St.ow St.obs at co
  unfold treeAg at ct
  simp only at co ct ci e1 e2 e3 ⊢
  obtain ⟨d, g, t, ps⟩ := s
  unfold Dk.rd at co
  unfold St.rd
  simp only at co ct ci ⊢
  refine callOk_z (np := 0) {} mixed Tryz.func18 (by rfl) Tryz.ntmps18 Tryz.results18 (by rfl) (Nat.le_of_ble_eq_true rfl) rfl rfl rfl (vc ?_)
  refine callq_of false [] co rfl trivial (vc trivial) ?_
  rintro r out ⟨rfl, rfl⟩
  refine vc4 (by simp) (by simp) (by simp) ?_
  have hno : ∀ H : Hp, ¬ (k = 0 ∧ S.g = g ∧ S.t = t ∧ S.ps = ps) → EndQ 0 H (Bo false) (fun r out => r = Bo (tf (k = 0 ∧ S.g = g ∧ S.t = t ∧ S.ps = ps)) ∧ out = []) := fun H e => EndQ.closed (.v _) ⟨by rw [tf_false e], rfl⟩
  refine brB_intro (fun h1 => ?_) (fun h1 => hno _ (fun e => by rw [e.1] at h1; simp at h1))
  have h1 : k = 0 := by simpa using h1
  refine brB_intro (fun h2 => ?_) (fun h2 => hno _ (fun e => by rw [e.2.1] at h2; simp at h2))
  have h2 : S.g = g := by simpa using h2
  refine callq_of true [] ct rfl trivial (vc trivial) ?_
  rintro r out ⟨rfl, rfl⟩
  refine ⟨by simp, by simp, fun _ => ⟨.v _, by simp⟩, vc ?_⟩
  by_cases h3 : S.t = t
  case neg => rw [tf_false h3]; refine vc ?_; exact hno _ (fun e => h3 e.2.2.1)
  rw [tf_true h3]
  refine vc ?_
  refine callq_of true [] ci rfl trivial (vc trivial) ?_
  rintro r out ⟨rfl, rfl⟩
  refine ⟨by simp, by simp, fun _ => ⟨.v _, by simp⟩, vc ?_⟩
  by_cases h4 : S.ps = ps
  case neg => rw [tf_false h4]; exact hno _ (fun e => h4 e.2.2.2)
  rw [tf_true h4]
  exact EndQ.closed (.v _) ⟨by rw [tf_true ⟨h1, h2, h3, h4⟩], rfl⟩
theorem implStoreOk_ok (s : St) (hf : s.fits (2^40)) : CallOk Tryz.prog 20 [] [s.rd] (fun r out => r = Bo (tf (storeOk s)) ∧ out = []) := by
  obtain ⟨e1, e2⟩ := openS_facts s.d
  have co := implOpen_ok s.d hf.1
  have ct := sameTree_ok (openS s.d).1.t s.t (fun x hx => fits_le (e1.2.2.1 x hx)) e1.2.1
  have ci := slEqInt_ok (openS s.d).1.ps s.ps e1.2.2.2
  unfold storeOk
  have e3 := e1.2.2.2
  generalize openS s.d = o at co ct ci e1 e2 e3 ⊢
  obtain ⟨S, k⟩ := o
  unfold opR St.ow St.obs at co
  unfold treeAg at ct
  simp only at co ct ci e1 e2 e3 ⊢
  obtain ⟨d, g, t, ps⟩ := s
  unfold Dk.rd at co
  unfold St.rd
  simp only at co ct ci ⊢
  refine callOk_z (np := 0) {} mixed Tryz.func20 (by rfl) Tryz.ntmps20 Tryz.results20 (by rfl) (Nat.le_of_ble_eq_true rfl) rfl rfl rfl (vc ?_)
  refine callq_of false [] co rfl trivial (vc trivial) ?_
  rintro r out ⟨rfl, rfl⟩
  refine vc4 (by simp) (by simp) (by simp) ?_
  have hno : ∀ H : Hp, ¬ (k = 0 ∧ S.g = g ∧ S.t = t ∧ S.ps = ps) → EndQ 0 H (Bo false) (fun r out => r = Bo (tf (k = 0 ∧ S.g = g ∧ S.t = t ∧ S.ps = ps)) ∧ out = []) := fun H e => EndQ.closed (.v _) ⟨by rw [tf_false e], rfl⟩
  refine brB_intro (fun h1 => ?_) (fun h1 => hno _ (fun e => by rw [e.1] at h1; simp at h1))
  have h1 : k = 0 := by simpa using h1
  refine brB_intro (fun h2 => ?_) (fun h2 => hno _ (fun e => by rw [e.2.1] at h2; simp at h2))
  have h2 : S.g = g := by simpa using h2
  refine callq_of true [] ct rfl trivial (vc trivial) ?_
  rintro r out ⟨rfl, rfl⟩
  refine ⟨by simp, by simp, fun _ => ⟨.v _, by simp⟩, vc ?_⟩
  by_cases h3 : S.t = t
  case neg => rw [tf_false h3]; refine vc ?_; exact hno _ (fun e => h3 e.2.2.1)
  rw [tf_true h3]
  refine vc ?_
  refine callq_of true [] ci rfl trivial (vc trivial) ?_
  rintro r out ⟨rfl, rfl⟩
  refine ⟨by simp, by simp, fun _ => ⟨.v _, by simp⟩, vc ?_⟩
  by_cases h4 : S.ps = ps
  case neg => rw [tf_false h4]; exact hno _ (fun e => h4 e.2.2.2)
  rw [tf_true h4]
  exact EndQ.closed (.v _) ⟨by rw [tf_true ⟨h1, h2, h3, h4⟩], rfl⟩
end Go.Proofs.YtnnmpdanfeejbaaGreat.Abs

/- The law FnExactStoreOk. -/
namespace Go.Proofs.YtnnmpdanfeejbaaGreat.Abs
open Go Go.Proofs
set_option maxRecDepth 10000
set_option linter.unusedVariables false
set_option linter.unusedSimpArgs false
def St.size (s : St) : Nat := s.d.size + szT s.t + s.ps.length
theorem szStore_ok (s : St) (k : Int) (hs : s.fits (2^47)) (hk : -1 ≤ k ∧ k ≤ 2^40) : CallOk Tryz.prog 17 [] [s.rd, In k] (fun r out => (∃ k' : Int, r = In k' ∧ -1 ≤ k' ∧ (0 ≤ k' → k' + s.size = k)) ∧ out = []) := by
  obtain ⟨d, g, t, ps⟩ := s
  obtain ⟨h1, h2, h3, h4⟩ := hs
  unfold St.rd St.size
  simp only at h1 h2 h3 h4 ⊢
  have c1 := szDisk_ok d k h1 hk
  unfold Dk.rd at c1
  have e1 := szB_cases d.size k
  refine callOk_z (np := 0) {} mixed Tryz.func17 (by rfl) Tryz.ntmps17 Tryz.results17 (by rfl) (Nat.le_of_ble_eq_true rfl) rfl rfl rfl (vc ?_)
  refine callq_of false [] c1 rfl trivial (vc trivial) ?_
  rintro r out ⟨rfl, rfl⟩
  refine vc4 (by simp) (by simp) (by simp) ?_
  refine brB_intro (fun h => EndQ.closed (.v _) ⟨⟨_, rfl, by omega, fun h => by omega⟩, rfl⟩) (fun h => ?_)
  have h : ¬ szB d.size k < 0 := by simpa using h
  have c2 := szTree_ok t (szB d.size k) h2 h3 (by omega)
  have e2 := szB_cases (szT t) (szB d.size k)
  refine callq_of false [] c2 rfl trivial (vc trivial) ?_
  rintro r out ⟨rfl, rfl⟩
  refine vc4 (by simp) (by simp) (by simp) ?_
  refine brB_intro (fun h => EndQ.closed (.v _) ⟨⟨_, rfl, by omega, fun h => by omega⟩, rfl⟩) (fun h' => ?_)
  have h' : ¬ szB (szT t) (szB d.size k) < 0 := by simpa using h'
  have c3 := szIntS_ok ps (szB (szT t) (szB d.size k)) h4 (by omega)
  have e3 := szB_cases ps.length (szB (szT t) (szB d.size k))
  refine callq_of false [] c3 rfl trivial (vc trivial) ?_
  rintro r out ⟨rfl, rfl⟩
  refine vc4 (by simp) (by simp) (by simp) ?_
  refine brB_intro (fun h => EndQ.closed (.v _) ⟨⟨_, rfl, by omega, fun h => by omega⟩, rfl⟩) (fun h'' => ?_)
  have h'' : ¬ szB ps.length (szB (szT t) (szB d.size k)) < 0 := by simpa using h''
  exact EndQ.closed (.v _) ⟨⟨_, rfl, by omega, fun _ => by omega⟩, rfl⟩
theorem St.fits_of {s : St} (h : s.size ≤ 2^40) : s.fits (2^40) := by
  unfold St.size at h
  have ht : szT s.t ≤ 2^40 := by omega
  unfold szT at ht
  refine ⟨Dk.fits_of (by omega), by omega, fun n hn => Nd.fits_of ?_, by omega⟩
  have := sumL_mem szN hn
  omega
theorem toStore_ok (s : St) (hs : s.fits (2^40)) : CallOk Tryz.prog 19 [] [s.rd] (fun r out => r = s.ow ∧ out = s.obs.map some) := by
  obtain ⟨d, g, t, ps⟩ := s
  obtain ⟨h1, h2, h3, h4⟩ := hs
  unfold St.rd St.ow St.obs
  simp only at h1 h2 h3 h4 ⊢
  have c1 := toDisk_ok d h1
  unfold Dk.rd Dk.ow Dk.obs at c1
  refine callOk_z (np := 0) {} mixed Tryz.func19 (by rfl) Tryz.ntmps19 Tryz.results19 (by rfl) (Nat.le_of_ble_eq_true rfl) rfl rfl rfl (vc ?_)
  refine callq_of false [] c1 rfl trivial (vc trivial) ?_
  rintro r out ⟨rfl, rfl⟩
  refine vc4 (by simp) (by simp) (by simp) ?_
  refine callq_of false [] (toTree_ok t h2 h3) rfl trivial (vc trivial) ?_
  rintro r out ⟨rfl, rfl⟩
  refine vc4 (by simp) (by simp) (by simp) ?_
  refine callq_of false [] (toIntS_ok ps h4 (fun _ _ => trivial)) rfl trivial (vc trivial) ?_
  rintro r out ⟨rfl, rfl⟩
  refine vc4 (by simp) (by simp) (by simp) ?_
  exact endQ_of [(1, 41), (2, 42), (3, 113), (4, 153)] (.ag [.sl 1 d.sh.length, .sl 2 d.wr.length, In g, .sl 3 t.length, .sl 4 ps.length]) [some (.rw 135 1 (d.sh.map (shC true))), some (.rw 113 2 (d.wr.map (wrC true))), some (.rw 111 3 (t.map (ndC true))), some (.rw 3 1 (ps.map inC))] (by rfl) (vc trivial) (vc trivial) ⟨rfl, rfl⟩
theorem lawStoreOk_ok (s : St) (hs : s.fits (2^47)) : CallOk Tryz.prog 4 [] [s.rd] (fun r out => r = Bo true ∧ out = []) := by
  have hz := szStore_ok s 1048576 hs (by omega)
  have h0 : s.size ≤ 2^40 → s.fits (2^40) := St.fits_of
  have ht := fun h => toStore_ok s (h0 h)
  have ci := fun h => implStoreOk_ok s (h0 h)
  have cs := fun h => specStoreOk_ok s (h0 h)
  have ce := fun h => eqStore_ok s (h0 h)
  generalize tf (storeOk s) = B at ci cs
  generalize s.size = z at *
  obtain ⟨d, g, t, ps⟩ := s
  unfold St.rd St.ow St.obs at *
  simp only at *
  refine callOk_z (np := 0) {} mixed Tryz.func4 (by rfl) Tryz.ntmps4 Tryz.results4 (by rfl) (Nat.le_of_ble_eq_true rfl) rfl rfl rfl (vc ?_)
  refine callq_of false [] hz rfl trivial (vc trivial) ?_
  rintro r out ⟨⟨k', rfl, hk1, hk2⟩, rfl⟩
  refine vc4 (by simp) (by simp) (by simp) ?_
  refine brB_intro (fun h => EndQ.closed (.v _) ⟨rfl, rfl⟩) (fun h => ?_)
  have h : ¬ k' < 0 := by simpa using h
  have hzz : z ≤ 2^40 := by omega
  have ht := ht hzz
  have ci := ci hzz
  have cs := cs hzz
  have ce := ce hzz
  refine callq_of false [] ht rfl trivial (vc trivial) ?_
  rintro r out ⟨rfl, rfl⟩
  refine vc4 (by simp) (by simp) (by simp) ?_
  refine callq_of true [] cs rfl trivial (vc trivial) ?_
  rintro r out ⟨rfl, rfl⟩
  refine ⟨by simp, by simp, fun _ => ⟨.v _, by simp⟩, vc ?_⟩
  refine callq_of false [] ht rfl trivial (vc trivial) ?_
  rintro r out ⟨rfl, rfl⟩
  refine vc4 (by simp) (by simp) (by simp) ?_
  refine callq_of true [] ci rfl trivial (vc trivial) ?_
  rintro r out ⟨rfl, rfl⟩
  refine ⟨by simp, by simp, fun _ => ⟨.v _, by simp⟩, vc ?_⟩
  refine drawQ_of false (by rfl) (by simp) (vc ?_)
  refine calld_of [] false [] ht rfl trivial (vc trivial) (by rfl) ⟨_, _, rfl, rfl⟩ ?_
  rintro r out ⟨rfl, rfl⟩
  refine vc4 (by simp) (by simp) (by simp) ?_
  refine calld_of [113, 114, 115, 116, 201, 202, 203, 204] true [] ce rfl trivial (vc trivial) (by rfl) ⟨_, _, rfl, rfl⟩ ?_
  rintro r out ⟨rfl, rfl⟩
  refine ⟨by simp, by simp, fun _ => ⟨.v _, by simp⟩, vc ?_⟩
  exact EndQ.closed (.v _) ⟨rfl, rfl⟩
end Go.Proofs.YtnnmpdanfeejbaaGreat.Abs

/- What a statement reads as data is what the contracts take. -/
namespace Go.Proofs.YtnnmpdanfeejbaaGreat.Abs
open Go Go.RowKit Go.ChangeShapes Go.WideShapes
set_option linter.unusedVariables false
set_option linter.unusedSimpArgs false
def CellsR (w : World) (l : List CV) (cs : List Value) : Prop := cs.length = l.length ∧ ∀ (j : Nat) c u, l[j]? = some c → cs[j]? = some u → RdR w (fun _ => True) c u
/-- What of type t can be read as data stands in these cells; G: its bounds. -/
def OpA (P : Program) (t : TypeId) {α : Type} (enc : α → List CV) (G : α → Prop) : Prop :=
  (∀ a, (enc a).length = P.cellsOf t) ∧ ∀ (H : Type) (en : TypeId × Value → H) (w : World) (fuel : Nat) (cs : List Value) (x : DataW H × List MemPlace),
    DataW.trod en P w 0 (fun _ => true) true fuel t cs = some x → (∀ n ∈ x.1.weights P t, n ≤ reachBytes) → ∃ a, CellsR w (enc a) cs ∧ G a
theorem cellsR_one {w : World} {c : CV} {u : Value} (h : RdR w (fun _ => True) c u) : CellsR w [c] [u] :=
  ⟨rfl, fun j c' u' hc hu => by cases j with | zero => simp at hc hu; subst hc hu; exact h | succ j => simp at hc⟩
theorem list_choose' {α : Type} (n : Nat) {p : Nat → α → Prop} (h : ∀ i, i < n → ∃ x, p i x) : ∃ xs : List α, xs.length = n ∧ ∀ i x, xs[i]? = some x → p i x := by
  induction n with
  | zero => exact ⟨[], rfl, fun i x hx => by simp at hx⟩
  | succ n ih =>
    obtain ⟨xs, hl, hx⟩ := ih (fun i hi => h i (by omega))
    obtain ⟨y, hy⟩ := h n (by omega)
    refine ⟨xs ++ [y], by simp [hl], fun i x hi => ?_⟩
    rcases Nat.lt_or_ge i xs.length with hlt | hge
    · rw [List.getElem?_append_left hlt] at hi
      exact hx i x hi
    · have : i = n := by
        have := (List.getElem?_eq_some_iff.1 hi).1
        simp at this; omega
      subst this
      rw [List.getElem?_append_right hge, ← hl, Nat.sub_self] at hi
      injection hi with hi
      rw [← hi]; exact hy
theorem weightsAll_mem' {H : Type} {P : Program} {e : TypeId} {D : DataW H} : ∀ {l : List (DataW H)}, D ∈ l → ∀ n ∈ D.weights P e, n ∈ DataW.weightsAll P e l
  | a :: l, h, n, hn => by
    rw [DataW.weightsAll, List.mem_append]
    rcases List.mem_cons.1 h with rfl | h
    · exact .inl hn
    · exact .inr (weightsAll_mem' h n hn)
section
variable {P : Program} {t e : TypeId}
theorem opA_int (h : P.underlying t = some (.int .i64)) (hc : P.cellsOf t = 1) : OpA P t (fun n : Int => [CV.v (.int .i64 n)]) (fun n => -9223372036854775808 ≤ n ∧ n ≤ 9223372036854775807) := by
  refine ⟨fun a => hc.symm, fun H en w fuel cs x hx _ => ?_⟩
  obtain ⟨n, rfl, _, hw⟩ := DataW.trod_int h hx
  refine ⟨n, cellsR_one (.v _ rfl), ?_⟩
  simp [Lit.wf, IntKind.min, IntKind.max, IntKind.bits, IntKind.signed] at hw
  omega
theorem opA_byte (h : P.underlying t = some (.int .u8)) (hc : P.cellsOf t = 1) : OpA P t (fun n : UInt8 => [CV.v (.int .u8 n.toNat)]) (fun _ => True) := by
  refine ⟨fun a => hc.symm, fun H en w fuel cs x hx _ => ?_⟩
  obtain ⟨n, rfl, _, hw⟩ := DataW.trod_int h hx
  simp [Lit.wf, IntKind.min, IntKind.max, IntKind.bits, IntKind.signed] at hw
  have he : n = (((UInt8.ofNat n.toNat).toNat : Nat) : Int) := by
    rw [UInt8.toNat_ofNat', Nat.mod_eq_of_lt (by omega)]; omega
  refine ⟨UInt8.ofNat n.toNat, ?_, trivial⟩
  show CellsR w [CV.v (.int .u8 (((UInt8.ofNat n.toNat).toNat : Nat) : Int))] _
  rw [← he]
  exact cellsR_one (.v _ rfl)
theorem opA_string (h : P.underlying t = some .string) (hc : P.cellsOf t = 1) : OpA P t stC (fun s => s.size ≤ 2^47) := by
  refine ⟨fun a => hc.symm, fun H en w fuel cs x hx hn => ?_⟩
  obtain ⟨s, rfl, rfl, _⟩ := DataW.trod_string h hx
  refine ⟨s, cellsR_one (.v _ rfl), ?_⟩
  have := hn s.data.toList.length (by simp [DataW.weights])
  rw [Array.length_toList] at this
  have h2 : reachBytes ≤ 2^47 := by decide
  have h3 : s.size = s.data.size := rfl
  omega
theorem opA_slice {α : Type} {enc : α → List CV} {G : α → Prop} (h : P.underlying t = some (.slice e)) (hc : P.cellsOf t = 1) {m0 : Nat} (he1 : P.cellsOf e = m0) (he2 : 0 < m0) {B : Nat} (hB : P.bytesOf e = B) (hB0 : 0 < B) (he : OpA P e enc G) :
    OpA P t (fun xs : List α => [CV.row false (xs.map enc)]) (fun xs => xs.length ≤ 2^47 ∧ ∀ x ∈ xs, G x) := by
  have he0 : 0 < P.cellsOf e := by omega
  refine ⟨fun a => hc.symm, fun H en w fuel cs x hx hn => ?_⟩
  rcases Go.Deep.open_slice h hx with ⟨rfl, rfl⟩ | ⟨a, len, cap, m, n, D, Pl, rfl, hb, hl, hm, hmm, rfl, hel⟩
  · exact ⟨[], cellsR_one (.nil _ _ _ (fun h => by cases h)), by simp, by simp⟩
  · have hm' : m = cap := by simpa using hmm
    subst hm'
    have hlen : len ≤ 2^47 := by
      have h1 := hn ((len + (m - len)) * B) (by simp [DataW.weights, h, hB])
      have h2 : reachBytes ≤ 2^47 := by decide
      have h3 : (len + (m - len)) * 1 ≤ (len + (m - len)) * B := Nat.mul_le_mul_left _ hB0
      omega
    have key : ∀ i, i < len → ∃ p : α, (∃ cs', w.cells? 0 (a.add (i * P.cellsOf e)) (P.cellsOf e) = some cs' ∧ CellsR w (enc p) cs') ∧ G p := by
      intro i hi
      obtain ⟨cs', h1, h2⟩ := hel i (by omega)
      obtain ⟨p, h3, h4⟩ := he.2 H en w n cs' _ h2 (fun q hq => hn q (by
        have h5 : q ∈ DataW.weightsAll P e ((List.range len).map D) := weightsAll_mem' (List.mem_map.2 ⟨i, List.mem_range.2 hi, rfl⟩) q hq
        simp only [DataW.weights, h]
        exact List.mem_cons_of_mem _ (List.mem_append_left _ h5)))
      exact ⟨p, ⟨cs', h1, h3⟩, h4⟩
    obtain ⟨xs, hxl, hxs⟩ := list_choose' len key
    refine ⟨xs, cellsR_one ?_, by rw [hxl]; exact hlen, fun x hx => ?_⟩
    · subst hxl
      by_cases h0 : xs = []
      · subst h0; exact .nil _ _ _ (fun h => by cases h)
      obtain ⟨x0, r0, hxr⟩ := List.exists_cons_of_ne_nil h0
      have hpos : 0 < xs.length := by rw [hxr]; simp
      have hcell : ∀ i j, i < xs.length → j < P.cellsOf e → ∃ u, w.cell? (a.add (i * P.cellsOf e + j)) = some u ∧ True := by
        intro i j hi hj
        obtain ⟨⟨cs', h1, h2⟩, _⟩ := hxs i _ (List.getElem?_eq_getElem hi)
        obtain ⟨_, h4, h5⟩ := World.cells?_some h1
        have := h5 j hj
        rw [Go.Deep.add_add, List.getElem?_eq_getElem (by omega)] at this
        exact ⟨_, this, trivial⟩
      have hnone : a.spot = none ∧ ∃ arr ty fz, w.heap[a.block]? = some (.cells arr ty fz) := by
        obtain ⟨u, hu, _⟩ := hcell 0 0 hpos he0
        rw [Nat.zero_mul, Nat.add_zero] at hu
        unfold Addr.add World.cell? at hu
        simp only [↓reduceIte] at hu
        split at hu
        · rename_i arr ty fz hh
          split at hu
          · cases hu
          · rename_i hs
            exact ⟨by simpa using hs, arr, ty, fz, hh⟩
        · cases hu
      obtain ⟨hs, arr, ty, fz, hh⟩ := hnone
      obtain ⟨bl, off, sp⟩ := a
      have hs : sp = none := hs
      subst hs
      have hadd : ∀ k, (⟨bl, off, none⟩ : Addr).add k = ⟨bl, off + k, none⟩ := fun k => by unfold Addr.add; split
                                                                                           · rename_i e; rw [e]; rfl
                                                                                           · rfl
      have hcell' : ∀ i j, i < xs.length → j < P.cellsOf e → arr[off + (i * P.cellsOf e + j)]? = some (arr.getD (off + (i * P.cellsOf e + j)) undef) := by
        intro i j hi hj
        obtain ⟨u, hu, _⟩ := hcell i j hi hj
        rw [hadd, cell_at hh] at hu
        have := (Array.getElem?_eq_some_iff.1 hu).1
        rw [Array.getElem?_eq_getElem this]
        simp [Array.getD, this]
      have := RdR.row (w := w) (T := fun _ => True) false bl off (P.cellsOf e) m (xs.map enc) arr ty fz (fun i j => arr.getD (off + (i * P.cellsOf e + j)) undef) trivial hh
        (fun c hc => by obtain ⟨x, _, rfl⟩ := List.mem_map.1 hc; exact he.1 x) (by rw [List.length_map]; unfold maxLen at hm ⊢; omega) (by rw [List.length_map]; omega) (fun h => by cases h) (fun i j hi hj => hcell' i j (by simpa using hi) hj) (fun i j c1 c2 h1 h2 => by
          rw [List.getElem?_map, Option.map_eq_some_iff] at h1
          obtain ⟨x, hx, rfl⟩ := h1
          have hi : i < xs.length := (List.getElem?_eq_some_iff.1 hx).1
          obtain ⟨⟨cs', h3, h4⟩, _⟩ := hxs i x hx
          obtain ⟨_, h5, h6⟩ := World.cells?_some h3
          have hj : j < P.cellsOf e := by
            have := (List.getElem?_eq_some_iff.1 h2).1
            rw [he.1] at this; exact this
          have h7 := h6 j hj
          rw [Go.Deep.add_add, hadd, cell_at hh, hcell' i j hi hj] at h7
          exact h4.2 j _ _ h2 h7.symm)
      rw [List.length_map] at this
      exact this
    · obtain ⟨j, hj, rfl⟩ := List.mem_iff_getElem.1 hx
      exact (hxs j _ (List.getElem?_eq_getElem hj)).2
/-- Fields in line, from offset o on. -/
def OpFs (P : Program) (fs : List Field) (o : Nat) {α : Type} (enc : α → List CV) (n : Nat) (G : α → Prop) : Prop :=
  (∀ a, (enc a).length = n) ∧ ∀ (H : Type) (en : TypeId × Value → H) (w : World) (k : Nat) (cs : List Value) (xs : List (DataW H × List MemPlace)), xs.length = fs.length →
    (∀ (i : Nat) (f : Field), fs[i]? = some f → DataW.trod en P w 0 (fun _ => true) true k f.type ((cs.drop f.offset).take (P.cellsOf f.type)) = xs[i]?) →
    (∀ q ∈ DataW.weightsEach P (fs.map (·.type)) (xs.map (·.1)), q ≤ reachBytes) → ∃ a, CellsR w (enc a) ((cs.drop o).take n) ∧ G a
theorem cellsR_app {w : World} {l l' : List CV} {cs cs' : List Value} (h : CellsR w l cs) (h' : CellsR w l' cs') : CellsR w (l ++ l') (cs ++ cs') := by
  refine ⟨by simp [h.1, h'.1], fun j c u hc hu => ?_⟩
  rcases Nat.lt_or_ge j l.length with hj | hj
  · rw [List.getElem?_append_left hj] at hc
    rw [List.getElem?_append_left (by rw [h.1]; exact hj)] at hu
    exact h.2 j c u hc hu
  · rw [List.getElem?_append_right hj] at hc
    rw [List.getElem?_append_right (by rw [h.1]; exact hj), h.1] at hu
    exact h'.2 _ c u hc hu
theorem fsA_one {α : Type} {enc : α → List CV} {G : α → Prop} {f : Field} {o n : Nat} (h : OpA P e enc G) (ht : f.type = e) (ho : f.offset = o) (hn : P.cellsOf e = n) : OpFs P [f] o enc n G := by
  subst ht; subst ho; subst hn
  refine ⟨h.1, fun H en w k cs xs hl hx hq => ?_⟩
  obtain ⟨x, rfl⟩ : ∃ x, xs = [x] := by
    match xs, hl with
    | [x], _ => exact ⟨x, rfl⟩
  exact h.2 H en w k _ x (hx 0 f rfl) (fun q hm => hq q (by simpa [DataW.weightsEach] using hm))
theorem fsA_cons {α β : Type} {enc : α → List CV} {enc' : β → List CV} {G : α → Prop} {G' : β → Prop} {f : Field} {fs : List Field} {o o' n n' : Nat} (h : OpA P e enc G) (h' : OpFs P fs o' enc' n' G') (ht : f.type = e) (ho : f.offset = o) (hn : P.cellsOf e = n) (hs : o + n = o') :
    OpFs P (f :: fs) o (fun x : α × β => enc x.1 ++ enc' x.2) (n + n') (fun x => G x.1 ∧ G' x.2) := by
  subst ht; subst ho; subst hn; subst hs
  refine ⟨fun a => by rw [List.length_append, h.1, h'.1], fun H en w k cs xs hl hx hq => ?_⟩
  obtain ⟨x, ys, rfl⟩ : ∃ x ys, xs = x :: ys := by
    match xs, hl with
    | x :: ys, _ => exact ⟨x, ys, rfl⟩
  obtain ⟨a, ha, ga⟩ := h.2 H en w k _ x (hx 0 f rfl) (fun q hm => hq q (by simp only [List.map_cons, DataW.weightsEach]; exact List.mem_append_left _ hm))
  obtain ⟨b, hb, gb⟩ := h'.2 H en w k cs ys (by simpa using hl) (fun i g hg => by have := hx (i + 1) g (by simpa using hg); simpa using this)
    (fun q hm => hq q (by simp only [List.map_cons, DataW.weightsEach]; exact List.mem_append_right _ hm))
  refine ⟨(a, b), ?_, ga, gb⟩
  rw [List.take_add, List.drop_drop]
  exact cellsR_app ha hb
theorem opA_struct {α : Type} {enc : α → List CV} {n : Nat} {G : α → Prop} {fs : Array Field} (h : P.underlying t = some (.struct fs)) (hc : P.cellsOf t = n) (hf : OpFs P fs.toList 0 enc n G) : OpA P t enc G := by
  subst hc
  refine ⟨hf.1, fun H en w fuel cs x hx hn => ?_⟩
  obtain ⟨xs, k, _, rfl, hl, hxl, hel⟩ := DataW.trod_struct h hx
  obtain ⟨a, ha, ga⟩ := hf.2 H en w k cs xs (by rw [hxl]; simp) (fun i f hi => hel i f (by simpa using hi)) (fun q hq => hn q (by simpa [DataW.weights, h] using hq))
  rw [List.drop_zero, List.take_of_length_le (by omega)] at ha
  exact ⟨a, ha, ga⟩
theorem OpA.iso {α β : Type} {enc : α → List CV} {enc' : β → List CV} {G : α → Prop} {G' : β → Prop} (h : OpA P t enc G) (g : α → β) (he : ∀ a, enc' (g a) = enc a) (hl : ∀ b, (enc' b).length = P.cellsOf t) (hG : ∀ a, G a → G' (g a)) : OpA P t enc' G' :=
  ⟨hl, fun H en w fuel cs x hx hn => by obtain ⟨a, ha, ga⟩ := h.2 H en w fuel cs x hx hn; exact ⟨g a, by rw [he]; exact ha, hG a ga⟩⟩
variable {H : Type} {en : TypeId × Value → H} {W : World} {v : Value} {D : DataW H} {p : List MemPlace}
/-- A parameter. -/
theorem OpA.param {α : Type} {enc : α → List CV} {G : α → Prop} (ho : OpA P t enc G) (h : DataW.Trod en P W 0 (fun _ => true) true t v D p) {ts : List TypeId} {ds : List (DataW H)} {j : Nat}
    (hsz : (DataW.weightsEach P ts ds).all (· ≤ reachBytes) = true) (ht : ts[j]? = some t) (hd : ds[j]? = some D) : ∃ a, CellsR W (enc a) v.cells.toList ∧ G a := by
  obtain ⟨fuel, hf⟩ := h
  exact ho.2 H en W fuel _ _ hf (fun n hn => by simpa using List.all_eq_true.1 hsz _ (DataW.weights_mem_each ht hd n hn))
end
/-- Nothing is owned. -/
def E0 : Env := ⟨fun _ => none, fun _ => none⟩
theorem rd_agg {w : World} {l : List CV} {us : Array Value} {H : Hp} (h : CellsR w l us.toList) : RdV w E0 H (.ag (l.map .c)) (.agg us) := by
  refine .ag _ _ (by have := h.1; simpa using this) (fun i c u hc hu => ?_)
  rw [List.getElem?_map, Option.map_eq_some_iff] at hc
  obtain ⟨c', hc', rfl⟩ := hc
  exact .c _ _ ((h.2 i c' u hc' (by simpa using hu)).mono (fun b _ _ => ⟨rfl, rfl⟩))
/-- A law's call, by its contract. -/
theorem law_calls {P : Program} {f : Nat} {args : List AV} (h : CallOk P f [] args (fun r out => r = Bo true ∧ out = [])) (W : World) (vals : Array Value) (hs : vals.size = args.length)
    (hv : ∀ (i : Nat) x u, args[i]? = some x → vals[i]? = some u → RdV W E0 (HpS []) x u) : Calls P f vals W (fun e W' => e = .returned (.bool true) ∧ Below W.heap.size W W') := by
  refine (h.2 W E0 vals (fun k ob hk => by unfold HpS at hk; split at hk <;> simp at hk) (fun b ℓ hb => by cases hb) hs hv).mono fun e W' hh => ?_
  obtain ⟨u, r, out, E', rfl, ⟨rfl, rfl⟩, hr, _, _, _, _, hevo, _, _⟩ := hh
  refine ⟨?_, hevo.os, hevo.tape, hevo.output, hevo.size, fun k hk => hevo.block k hk (by rintro ⟨k', p, hp, _⟩; cases hp)⟩
  cases hr with
  | c _ _ h => cases h; rfl
end Go.Proofs.YtnnmpdanfeejbaaGreat.Abs

/- The laws' parameters, as they are read. -/
namespace Go.Proofs.YtnnmpdanfeejbaaGreat.Abs
open Go Go.Proofs
set_option linter.unusedVariables false
theorem oInt : OpA Tryz.prog 3 (fun n : Int => [CV.v (.int .i64 n)]) (fun n => -9223372036854775808 ≤ n ∧ n ≤ 9223372036854775807) := opA_int Tryz.underlying3 (by kernel_rfl)
theorem oByte : OpA Tryz.prog 5 (fun n : UInt8 => [CV.v (.int .u8 n.toNat)]) (fun _ => True) := opA_byte Tryz.underlying5 (by kernel_rfl)
theorem oByteS : OpA Tryz.prog 69 (fun l : List UInt8 => [CV.row false (eB l)]) (fun l => l.length ≤ 2^47) :=
  (opA_slice Tryz.underlying69 (by kernel_rfl) (m0 := 1) (by kernel_rfl) (by decide) (B := 1) (by kernel_rfl) (by decide) oByte).iso id (fun _ => rfl) (fun _ => by kernel_rfl) (fun _ h => h.1)
theorem oSheet : OpA Tryz.prog 132 (shC false) (fun l => l.length ≤ 2^47) :=
  (opA_struct Tryz.underlying132 (by kernel_rfl) (fsA_one (n := 1) oByteS (by rfl) (by rfl) (by kernel_rfl))).iso id (fun _ => rfl) (fun _ => by kernel_rfl) (fun _ h => h)
theorem oSheetS : OpA Tryz.prog 22 (fun xs : List (List UInt8) => [CV.row false (xs.map (shC false))]) (fun xs => xs.length ≤ 2^47 ∧ ∀ x ∈ xs, x.length ≤ 2^47) :=
  opA_slice Tryz.underlying22 (by kernel_rfl) (m0 := 1) (by kernel_rfl) (by decide) (B := 24) (by kernel_rfl) (by decide) oSheet
theorem oWrite : OpA Tryz.prog 134 (wrC false) (fun x => x.2.length ≤ 2^47) :=
  (opA_struct Tryz.underlying134 (by kernel_rfl) (fsA_cons (n := 1) oInt (fsA_one (n := 1) oByteS (by rfl) (by rfl) (by kernel_rfl)) (by rfl) (by rfl) (by kernel_rfl) (by rfl))).iso id (fun _ => rfl) (fun _ => by kernel_rfl) (fun _ h => h.2)
theorem oWriteS : OpA Tryz.prog 23 (fun xs : List (Int × List UInt8) => [CV.row false (xs.map (wrC false))]) (fun xs => xs.length ≤ 2^47 ∧ ∀ x ∈ xs, x.2.length ≤ 2^47) :=
  opA_slice Tryz.underlying23 (by kernel_rfl) (m0 := 2) (by kernel_rfl) (by decide) (B := 32) (by kernel_rfl) (by decide) oWrite
theorem oDisk : OpA Tryz.prog 25 (fun d : Dk => [CV.row false (d.sh.map (shC false)), CV.row false (d.wr.map (wrC false))]) (Dk.fits (2^47)) :=
  (opA_struct Tryz.underlying25 (by kernel_rfl) (fsA_cons (n := 1) oSheetS (fsA_one (n := 1) oWriteS (by rfl) (by rfl) (by kernel_rfl)) (by rfl) (by rfl) (by kernel_rfl) (by rfl))).iso (fun x => ⟨x.1, x.2⟩) (fun _ => rfl) (fun _ => by kernel_rfl) (fun _ h => ⟨h.1.1, h.1.2, h.2.1, h.2.2⟩)
theorem rd_nil {W : World} {H : Hp} : ∀ (i : Nat) x u, ([] : List AV)[i]? = some x → (#[] : Array Value)[i]? = some u → RdV W E0 H x u := fun i x u h => by simp at h
theorem rd_cons {W : World} {H : Hp} {a : AV} {v : Value} {l : List AV} {vs : List Value} (h : RdV W E0 H a v) (hl : ∀ (i : Nat) x u, l[i]? = some x → (vs.toArray)[i]? = some u → RdV W E0 H x u) :
    ∀ (i : Nat) x u, (a :: l)[i]? = some x → ((v :: vs).toArray)[i]? = some u → RdV W E0 H x u := by
  intro i x u hx hu
  cases i with
  | zero => simp at hx hu; subst hx hu; exact h
  | succ i => exact hl i x u (by simpa using hx) (by simpa using hu)
end Go.Proofs.YtnnmpdanfeejbaaGreat.Abs

/- Parameters of operations, as they are read. -/
namespace Go.Proofs.YtnnmpdanfeejbaaGreat.Abs
open Go Go.Proofs
set_option linter.unusedVariables false
end Go.Proofs.YtnnmpdanfeejbaaGreat.Abs

/- Parameters of trees, as they are read. -/
namespace Go.Proofs.YtnnmpdanfeejbaaGreat.Abs
open Go Go.Proofs
set_option linter.unusedVariables false
theorem oStr : OpA Tryz.prog 9 stC (fun s => s.size ≤ 2^47) := opA_string Tryz.underlying9 (by kernel_rfl)
theorem oStrS : OpA Tryz.prog 105 (fun xs : List ByteArray => [CV.row false (xs.map stC)]) (fun xs => xs.length ≤ 2^47 ∧ ∀ x ∈ xs, x.size ≤ 2^47) :=
  opA_slice Tryz.underlying105 (by kernel_rfl) (m0 := 1) (by kernel_rfl) (by decide) (B := 16) (by kernel_rfl) (by decide) oStr
theorem oIntS : OpA Tryz.prog 34 (fun xs : List Int => [CV.row false (xs.map inC)]) (fun xs => xs.length ≤ 2^47) :=
  (opA_slice Tryz.underlying34 (by kernel_rfl) (m0 := 1) (by kernel_rfl) (by decide) (B := 8) (by kernel_rfl) (by decide) oInt).iso id (fun _ => rfl) (fun _ => by kernel_rfl) (fun _ h => h.1)
theorem oPair : OpA Tryz.prog 237 prC (fun p => p.k.size ≤ 2^47 ∧ p.v.size ≤ 2^47) :=
  (opA_struct Tryz.underlying237 (by kernel_rfl) (fsA_cons (n := 1) oStr (fsA_one (n := 1) oStr (by rfl) (by rfl) (by kernel_rfl)) (by rfl) (by rfl) (by kernel_rfl) (by rfl))).iso (fun x => ⟨x.1, x.2⟩) (fun _ => rfl) (fun _ => by kernel_rfl) (fun _ h => h)
theorem oPairS : OpA Tryz.prog 171 (fun xs : List Pr => [CV.row false (xs.map prC)]) (fun xs => xs.length ≤ 2^47 ∧ ∀ x ∈ xs, x.k.size ≤ 2^47 ∧ x.v.size ≤ 2^47) :=
  opA_slice Tryz.underlying171 (by kernel_rfl) (m0 := 2) (by kernel_rfl) (by decide) (B := 32) (by kernel_rfl) (by decide) oPair
theorem oNode : OpA Tryz.prog 173 (ndC false) (Nd.fits (2^47)) :=
  (opA_struct Tryz.underlying173 (by kernel_rfl) (fsA_cons (n := 1) oPairS (fsA_cons (n := 1) oStrS (fsA_one (n := 1) oIntS (by rfl) (by rfl) (by kernel_rfl)) (by rfl) (by rfl) (by kernel_rfl) (by rfl)) (by rfl) (by rfl) (by kernel_rfl) (by rfl))).iso (fun x => ⟨x.1, x.2.1, x.2.2⟩) (fun _ => rfl) (fun _ => by kernel_rfl) (fun _ h => ⟨h.1.1, h.2.1.1, h.2.2, h.1.2, h.2.1.2⟩)
theorem oNodeS : OpA Tryz.prog 45 (fun xs : List Nd => [CV.row false (xs.map (ndC false))]) (fun xs => xs.length ≤ 2^47 ∧ ∀ x ∈ xs, x.fits (2^47)) :=
  opA_slice Tryz.underlying45 (by kernel_rfl) (m0 := 3) (by kernel_rfl) (by decide) (B := 72) (by kernel_rfl) (by decide) oNode
theorem oTree : OpA Tryz.prog 47 (fun t : List Nd => [CV.row false (t.map (ndC false))]) (fun xs => xs.length ≤ 2^47 ∧ ∀ x ∈ xs, x.fits (2^47)) :=
  (opA_struct Tryz.underlying47 (by kernel_rfl) (fsA_one (n := 1) oNodeS (by rfl) (by rfl) (by kernel_rfl))).iso id (fun _ => rfl) (fun _ => by kernel_rfl) (fun _ h => h)
end Go.Proofs.YtnnmpdanfeejbaaGreat.Abs

/- Parameters of stores, as they are read. -/
namespace Go.Proofs.YtnnmpdanfeejbaaGreat.Abs
open Go Go.Proofs
set_option linter.unusedVariables false
theorem oStore : OpA Tryz.prog 49 (fun s : St => [CV.row false (s.d.sh.map (shC false)), CV.row false (s.d.wr.map (wrC false)), CV.v (.int .i64 s.g), CV.row false (s.t.map (ndC false)), CV.row false (s.ps.map inC)]) (St.fits (2^47)) :=
  (opA_struct Tryz.underlying49 (by kernel_rfl) (fsA_cons (n := 2) oDisk (fsA_cons (n := 1) oInt (fsA_cons (n := 1) oTree (fsA_one (n := 1) oIntS (by rfl) (by rfl) (by kernel_rfl)) (by rfl) (by rfl) (by kernel_rfl) (by rfl)) (by rfl) (by rfl) (by kernel_rfl) (by rfl)) (by rfl) (by rfl) (by kernel_rfl) (by rfl))).iso (fun x => ⟨x.1, x.2.1, x.2.2.1, x.2.2.2⟩) (fun _ => rfl) (fun _ => by kernel_rfl) (fun _ h => ⟨h.1, h.2.2.1.1, h.2.2.1.2, h.2.2.2⟩)
end Go.Proofs.YtnnmpdanfeejbaaGreat.Abs
