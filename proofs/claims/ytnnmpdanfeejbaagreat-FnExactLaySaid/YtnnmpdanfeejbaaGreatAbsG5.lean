import Derived.Test.YtnnmpdanfeejbaaGreatAbsG4
/- Pages read: what is known of it, and the program's scan. -/
namespace Go.Proofs.YtnnmpdanfeejbaaGreat.Abs
open Go Go.Proofs
set_option maxRecDepth 10000
set_option linter.unusedVariables false
set_option linter.unusedSimpArgs false
/-- How far a page has been read, of one with values. -/
def invL (b : List UInt8) (n : Int) (i : Nat) (a : Int) (ks vs : List ByteArray) (bad : Bool) : Prop := ∀ p, goodPg p b → bad = false ∧ n = p.ks.length ∧ 0 ≤ a ∧ ks = p.ks.take i ∧ vs = p.vs.take i ∧ ∃ z, b.drop a.toNat = leafB (p.ks.drop i) (p.vs.drop i) ++ z
/-- And of one with kids. -/
def invI (b : List UInt8) (n : Int) (i : Nat) (a : Int) (ks : List ByteArray) (cs : List Int) (bad : Bool) : Prop := ∀ p, goodPg p b → bad = false ∧ n = p.ks.length ∧ 0 ≤ a ∧ ks = p.ks.take i ∧ cs = p.cs.take (i + 1) ∧ ∃ z, b.drop a.toNat = innB (p.ks.drop i) (p.cs.drop (i + 1)) ++ z
theorem good_head {b : List UInt8} {p : Pg} (h : goodPg p b) : (p.cs = [] ∧ b[0]? = some 76) ∨ (p.cs ≠ [] ∧ b[0]? = some 66) := by
  cases hc : p.cs with
  | nil => obtain ⟨z, e⟩ := goodPg_leaf h hc; exact .inl ⟨rfl, by rw [e]; rfl⟩
  | cons c cs => obtain ⟨z, e⟩ := goodPg_inn h hc; exact .inr ⟨by simp, by rw [e]; rfl⟩
theorem good_leaf {b : List UInt8} {p : Pg} (h : goodPg p b) (h0 : b[0]? ≠ some 66) : p.cs = [] ∧ 1 ≤ p.ks.length ∧ p.ks.length ≤ 4 ∧ p.vs.length = p.ks.length ∧ getVar b 1 = ((p.ks.length : Int), 2) ∧ ∃ z, b.drop 2 = leafB p.ks p.vs ++ z := by
  rcases good_head h with ⟨hc, _⟩ | ⟨_, e⟩
  · obtain ⟨z, e⟩ := goodPg_leaf h hc
    rcases h.1.2.2.2 with h4 | h4
    · have h1 : (enc p.ks.length).length = 1 := enc_one (by omega)
      have hd : b.drop (1 : Int).toNat = enc p.ks.length ++ (leafB p.ks p.vs ++ z) := by rw [e]; rfl
      obtain ⟨g1, g2⟩ := getVar_at (Int.le_of_lt (by omega : (0 : Int) < 1)) hd (by omega)
      rw [h1] at g1 g2
      exact ⟨hc, h4.2.1, h4.2.2.1, h4.2.2.2, g1, z, g2⟩
    · rw [hc] at h4; simp at h4
  · exact absurd e h0
theorem good_inn {b : List UInt8} {p : Pg} (h : goodPg p b) (h0 : b[0]? = some 66) : p.vs = [] ∧ 1 ≤ p.ks.length ∧ p.ks.length ≤ 4 ∧ p.cs.length = p.ks.length + 1 ∧ getVar b 1 = ((p.ks.length : Int), 2) ∧ ∃ c cs a, p.cs = c :: cs ∧ getVar b 2 = (c, a) ∧ 0 ≤ a ∧ ∃ z, b.drop a.toNat = innB p.ks cs ++ z := by
  rcases good_head h with ⟨_, e⟩ | ⟨hne, _⟩
  · rw [h0] at e; cases e
  · cases hc : p.cs with
    | nil => exact absurd hc hne
    | cons c cs =>
      obtain ⟨z, e⟩ := goodPg_inn h hc
      rcases h.1.2.2.2 with h4 | h4
      · rw [hc] at h4; simp at h4
      · have h1 : (enc p.ks.length).length = 1 := enc_one (by omega)
        have hd : b.drop (1 : Int).toNat = enc p.ks.length ++ (enc c.toNat ++ (innB p.ks cs ++ z)) := by rw [e]; rfl
        obtain ⟨g1, g2⟩ := getVar_at (Int.le_of_lt (by omega : (0 : Int) < 1)) hd (by omega)
        rw [h1] at g1 g2
        have hcr := h.1.2.2.1 c (by rw [hc]; exact List.mem_cons_self ..)
        obtain ⟨g3, g4⟩ := getVar_at (a := 2) (by omega) g2 (by omega)
        refine ⟨h4.2.2.2, by omega, by omega, by rw [← hc]; omega, g1, c, cs, _, rfl, ?_, ?_, z, g4⟩
        · rw [g3]; exact Prod.ext (by simp only; omega) rfl
        · omega
theorem take_snoc {α : Type} {l : List α} {i : Nat} {x : α} (h : l[i]? = some x) : l.take i ++ [x] = l.take (i + 1) := by rw [List.take_add_one, h]; rfl
theorem invL_step {b : List UInt8} {n : Int} {i : Nat} {a : Int} {ks vs : List ByteArray} {bad : Bool} (h : invL b n i a ks vs bad) (hi : (i : Int) < n) (h0 : b[0]? ≠ some 66) {p : Pg} (hp : goodPg p b) :
    bad = false ∧ n = p.ks.length ∧ ∃ s v a1 a2, getText b a = (s, a1) ∧ 0 ≤ a1 ∧ getText b a1 = (v, a2) ∧ 0 ≤ a2 ∧ ks ++ [s] = p.ks.take (i + 1) ∧ vs ++ [v] = p.vs.take (i + 1) ∧ ∃ z, b.drop a2.toNat = leafB (p.ks.drop (i + 1)) (p.vs.drop (i + 1)) ++ z := by
  obtain ⟨h1, h2, h3, h4, h5, z, h6⟩ := h p hp
  obtain ⟨g1, g2, g3, g4, -⟩ := good_leaf hp h0
  have hik : i < p.ks.length := by omega
  have hiv : i < p.vs.length := by omega
  have hx := List.getElem?_eq_getElem hik
  have hy := List.getElem?_eq_getElem hiv
  have hkx := (hp.1.1.1 _ (List.getElem_mem hik)).2
  have hvx := hp.1.2.1 _ (List.getElem_mem hiv)
  unfold valOk at hvx
  rw [leafB_next hx hy, List.append_assoc, List.append_assoc] at h6
  obtain ⟨t1, t2⟩ := getText_at h3 h6 (by omega)
  obtain ⟨u1, u2⟩ := getText_at (by omega) t2 (by omega)
  exact ⟨h1, h2, _, _, _, _, t1, by omega, u1, by omega, by rw [h4, take_snoc hx], by rw [h5, take_snoc hy], z, u2⟩
theorem invI_step {b : List UInt8} {n : Int} {i : Nat} {a : Int} {ks : List ByteArray} {cs : List Int} {bad : Bool} (h : invI b n i a ks cs bad) (hi : (i : Int) < n) (h0 : b[0]? = some 66) {p : Pg} (hp : goodPg p b) :
    bad = false ∧ n = p.ks.length ∧ ∃ s v a1 a2, getText b a = (s, a1) ∧ 0 ≤ a1 ∧ getVar b a1 = (v, a2) ∧ 0 ≤ a2 ∧ ks ++ [s] = p.ks.take (i + 1) ∧ cs ++ [v] = p.cs.take (i + 1 + 1) ∧ ∃ z, b.drop a2.toNat = innB (p.ks.drop (i + 1)) (p.cs.drop (i + 1 + 1)) ++ z := by
  obtain ⟨h1, h2, h3, h4, h5, z, h6⟩ := h p hp
  obtain ⟨g1, g2, g3, g4, -⟩ := good_inn hp h0
  have hik : i < p.ks.length := by omega
  have hiv : i + 1 < p.cs.length := by omega
  have hx := List.getElem?_eq_getElem hik
  have hy := List.getElem?_eq_getElem hiv
  have hkx := (hp.1.1.1 _ (List.getElem_mem hik)).2
  have hvx := hp.1.2.2.1 _ (List.getElem_mem hiv)
  have hnx : innB (p.ks.drop i) (p.cs.drop (i + 1)) = txt p.ks[i] ++ (enc p.cs[i + 1].toNat ++ innB (p.ks.drop (i + 1)) (p.cs.drop (i + 1 + 1))) := by
    rw [List.drop_eq_getElem_cons hik, List.drop_eq_getElem_cons hiv, innB]
  rw [hnx, List.append_assoc, List.append_assoc] at h6
  obtain ⟨t1, t2⟩ := getText_at h3 h6 (by omega)
  obtain ⟨u1, u2⟩ := getVar_at (by omega) t2 (by omega)
  refine ⟨h1, h2, _, p.cs[i + 1], _, _, t1, by omega, ?_, ?_, by rw [h4, take_snoc hx], by rw [h5, take_snoc hy], z, u2⟩
  · rw [u1]; exact Prod.ext (by simp only; omega) rfl
  · omega
theorem invL_end {b : List UInt8} {n : Int} {i : Nat} {a : Int} {ks vs : List ByteArray} {bad : Bool} (h : invL b n i a ks vs bad) (h0 : b[0]? ≠ some 66) {p : Pg} (hp : goodPg p b) (hi : n ≤ i) : (⟨ks, vs, []⟩ : Pg) = p := by
  obtain ⟨h1, h2, h3, h4, h5, z, h6⟩ := h p hp
  obtain ⟨g1, g2, g3, g4, -⟩ := good_leaf hp h0
  obtain ⟨a1, a2, a3⟩ := p
  simp only at *
  rw [h4, h5, g1, List.take_of_length_le (by omega), List.take_of_length_le (by omega)]
theorem invI_end {b : List UInt8} {n : Int} {i : Nat} {a : Int} {ks : List ByteArray} {cs : List Int} {bad : Bool} (h : invI b n i a ks cs bad) (h0 : b[0]? = some 66) {p : Pg} (hp : goodPg p b) (hi : n ≤ i) : (⟨ks, [], cs⟩ : Pg) = p := by
  obtain ⟨h1, h2, h3, h4, h5, z, h6⟩ := h p hp
  obtain ⟨g1, g2, g3, g4, -⟩ := good_inn hp h0
  obtain ⟨a1, a2, a3⟩ := p
  simp only at *
  rw [h4, h5, g1, List.take_of_length_le (by omega), List.take_of_length_le (by omega)]
def scN (b : List UInt8) (a : Int) (bad : Bool) : Int × Int × Bool := if bad = true ∨ (getVar b a).2 < 0 then (0, a, true) else ((getVar b a).1, (getVar b a).2, false)
def scT (b : List UInt8) (a : Int) (bad : Bool) : ByteArray × Int × Bool := if bad = true ∨ (getText b a).2 < 0 then (⟨#[]⟩, a, true) else ((getText b a).1, (getText b a).2, false)
def scO (b : List UInt8) (a : Int) (bad : Bool) : Ob := .box 208 [Rw (eB b), In a, Bo bad]
theorem scN_le {b : List UInt8} {a : Int} {bad : Bool} {m : Int} (h : a ≤ m) (hb : (b.length : Int) ≤ m) : (scN b a bad).2.1 ≤ m ∧ 0 ≤ (scN b a bad).1 ∧ (scN b a bad).1 ≤ 1099511627775 := by
  unfold scN
  split
  · exact ⟨h, by simp, by simp⟩
  · rcases getVar_cases b a with e | ⟨x, q, e, h1, h2, h3, h4⟩
    · rw [e]; simp; omega
    · rw [e]; simp only; omega
theorem scT_le {b : List UInt8} {a : Int} {bad : Bool} {m : Int} (h : a ≤ m) (hb : (b.length : Int) ≤ m) : (scT b a bad).2.1 ≤ m ∧ (scT b a bad).1.size ≤ b.length := by
  unfold scT
  split
  · exact ⟨h, by simp [ByteArray.size]⟩
  · rcases getText_cases b a with e | ⟨x, q, e, h1, h2, h3, h4⟩
    · rw [e]; simp [ByteArray.size]; omega
    · rw [e]; simp only; omega
theorem scan_num_ok (b : List UInt8) (a : Int) (bad : Bool) (hb : b.length ≤ 2^40) (ha : a ≤ 2^40) : CallOk Tryz.prog 164 [scO b a bad] [.pt 1 0 0] (fun r out => r = In (scN b a bad).1 ∧ out = [some (scO b (scN b a bad).2.1 (scN b a bad).2.2)]) := by
  unfold scO
  refine callOk_z (np := 1) {} mixed Tryz.func164 (by rfl) Tryz.ntmps164 Tryz.results164 (by rfl) (Nat.le_of_ble_eq_true rfl) rfl rfl rfl (vc ?_)
  refine drawQ_of false (by rfl) (by simp) (vc ?_)
  refine calld_of [] false [] (implGetVar_ok b a hb ha) rfl trivial (vc trivial) (by rfl) ⟨_, _, rfl, rfl⟩ ?_
  rintro r out ⟨rfl, rfl⟩
  refine ⟨by simp, by simp, by simp, vc ?_⟩
  repeat refine ⟨rfl, ?_⟩
  unfold scN
  refine brB_intro (fun h => ?_) (fun h => ?_)
  · subst h
    rw [if_pos (.inl rfl)]
    exact endQ_of [] (In 0) [some (.box 208 [Rw (eB b), In a, Bo true])] (by rfl) (vc trivial) (vc trivial) ⟨rfl, rfl⟩
  · subst h
    refine brB_intro (fun h => ?_) (fun h => ?_)
    · have h : (getVar b a).2 < 0 := by simpa using h
      rw [if_pos (.inr h)]
      exact endQ_of [] (In 0) [some (.box 208 [Rw (eB b), In a, Bo true])] (by rfl) (vc trivial) (vc trivial) ⟨rfl, rfl⟩
    · have h : ¬ (getVar b a).2 < 0 := by simpa using h
      rw [if_neg (fun e => e.elim (fun e => by cases e) h)]
      exact endQ_of [] (In (getVar b a).1) [some (.box 208 [Rw (eB b), In (getVar b a).2, Bo false])] (by rfl) (vc trivial) (vc trivial) ⟨rfl, rfl⟩
theorem scan_text_ok (b : List UInt8) (a : Int) (bad : Bool) (hb : b.length ≤ 2^40) (ha : a ≤ 2^40) : CallOk Tryz.prog 165 [scO b a bad] [.pt 1 0 0] (fun r out => r = .c (.v (.string (scT b a bad).1)) ∧ out = [some (scO b (scT b a bad).2.1 (scT b a bad).2.2)]) := by
  unfold scO
  refine callOk_z (np := 1) {} mixed Tryz.func165 (by rfl) Tryz.ntmps165 Tryz.results165 (by rfl) (Nat.le_of_ble_eq_true rfl) rfl rfl rfl (vc ?_)
  refine drawQ_of false (by rfl) (by simp) (vc ?_)
  refine calld_of [] false [] (implGetText_ok b a hb ha) rfl trivial (vc trivial) (by rfl) ⟨_, _, rfl, rfl⟩ ?_
  rintro r out ⟨rfl, rfl⟩
  refine ⟨by simp, by simp, by simp, vc ?_⟩
  repeat refine ⟨rfl, ?_⟩
  unfold scT
  refine brB_intro (fun h => ?_) (fun h => ?_)
  · subst h
    rw [if_pos (.inl rfl)]
    exact endQ_of [] (.c (.v (.string ⟨#[]⟩))) [some (.box 208 [Rw (eB b), In a, Bo true])] (by rfl) (vc trivial) (vc trivial) ⟨rfl, rfl⟩
  · subst h
    refine brB_intro (fun h => ?_) (fun h => ?_)
    · have h : (getText b a).2 < 0 := by simpa using h
      rw [if_pos (.inr h)]
      exact endQ_of [] (.c (.v (.string ⟨#[]⟩))) [some (.box 208 [Rw (eB b), In a, Bo true])] (by rfl) (vc trivial) (vc trivial) ⟨rfl, rfl⟩
    · have h : ¬ (getText b a).2 < 0 := by simpa using h
      rw [if_neg (fun e => e.elim (fun e => by cases e) h)]
      exact endQ_of [] (.c (.v (.string (getText b a).1))) [some (.box 208 [Rw (eB b), In (getText b a).2, Bo false])] (by rfl) (vc trivial) (vc trivial) ⟨rfl, rfl⟩
def scM (b : List UInt8) (a : Int) (bad : Bool) (m : Int) : Int × Int × Bool := if (scN b a bad).1 > m ∨ (scN b a bad).2.2 = true then (0, (scN b a bad).2.1, true) else scN b a bad
theorem scan_many_ok (b : List UInt8) (a : Int) (bad : Bool) (m : Int) (hb : b.length ≤ 2^40) (ha : a ≤ 2^40) : CallOk Tryz.prog 163 [scO b a bad] [.pt 1 0 0, In m] (fun r out => r = In (scM b a bad m).1 ∧ out = [some (scO b (scM b a bad m).2.1 (scM b a bad m).2.2)]) := by
  have hc := scan_num_ok b a bad hb ha
  unfold scM
  unfold scO at hc ⊢
  refine callOk_z (np := 1) {} mixed Tryz.func163 (by rfl) Tryz.ntmps163 Tryz.results163 (by rfl) (Nat.le_of_ble_eq_true rfl) rfl rfl rfl (vc ?_)
  refine callq_of false [1] hc rfl (vc trivial) (vc trivial) ?_
  rintro r out ⟨rfl, rfl⟩
  refine ⟨by simp, by simp, by simp, vc ?_⟩
  generalize scN b a bad = x
  obtain ⟨n, a', bad'⟩ := x
  simp only
  refine brB_intro (fun h => ?_) (fun h => ?_)
  · have h : n > m := by simpa using h
    rw [if_pos (.inl h)]
    exact endQ_of [] (In 0) [some (.box 208 [Rw (eB b), In a', Bo true])] (by rfl) (vc trivial) (vc trivial) ⟨rfl, rfl⟩
  · have hnm : ¬ n > m := by simpa using h
    refine brB_intro (fun h2 => ?_) (fun h2 => ?_)
    · subst h2
      rw [if_pos (.inr rfl)]
      exact endQ_of [] (In 0) [some (.box 208 [Rw (eB b), In a', Bo true])] (by rfl) (vc trivial) (vc trivial) ⟨rfl, rfl⟩
    · subst h2
      rw [if_neg (fun e => e.elim hnm (fun e => by cases e))]
      exact endQ_of [] (In n) [some (.box 208 [Rw (eB b), In a', Bo false])] (by rfl) (vc trivial) (vc trivial) ⟨rfl, rfl⟩
end Go.Proofs.YtnnmpdanfeejbaaGreat.Abs

/- Pages read, the program: contract. -/
namespace Go.Proofs.YtnnmpdanfeejbaaGreat.Abs
open Go Go.Proofs
set_option maxRecDepth 10000
set_option linter.unusedVariables false
set_option linter.unusedSimpArgs false
def pgP : Option Pg → Pg
  | some p => p
  | none => ⟨[], [], []⟩
def pgR (o : Option Pg) : AV := .tu [.ag [.sl 1 (pgP o).ks.length, .sl 2 (pgP o).vs.length, .sl 3 (pgP o).cs.length], Bo o.isSome]
def pgH (o : Option Pg) : List (Option Ob) := [some (.rw 9 1 ((pgP o).ks.map stC)), some (.rw 9 1 ((pgP o).vs.map stC)), some (.rw 3 1 ((pgP o).cs.map inC))]
theorem pgNo (H : Hp) (R : AV → List (Option Ob) → Prop) (h : R (pgR none) (pgH none)) : EndQ 0 H (.tu [.ag [.nul, .nul, .nul], Bo false]) R :=
  endQ_of [(1, 0), (2, 0), (3, 0)] (.tu [.ag [.sl 1 0, .sl 2 0, .sl 3 0], Bo false]) [some (.rw 9 1 []), some (.rw 9 1 []), some (.rw 3 1 [])] (by rfl) (vc trivial) (vc trivial) h
theorem scM_good {b : List UInt8} {p : Pg} (h1 : p.ks.length ≤ 4) (h2 : getVar b 1 = ((p.ks.length : Int), 2)) : scM b 1 false 4 = ((p.ks.length : Int), 2, false) := by
  have : scN b 1 false = ((p.ks.length : Int), 2, false) := by unfold scN; rw [h2, if_neg (by simp)]
  unfold scM
  rw [this, if_neg (by simp; omega)]
theorem u8_66 {x : UInt8} (h : (((x.toNat : Nat) : Int) == 66) = true) : x = 66 := UInt8.toNat_inj.1 (by have := eq_of_beq h; simp; omega)
theorem u8_n66 {x : UInt8} (h : (((x.toNat : Nat) : Int) == 66) = false) : x ≠ 66 := fun e => by subst e; simp at h
theorem bk_get {b : List UInt8} {back : List UInt8} : (!(({ data := back.toArray } : ByteArray).toList == ({ data := b.toArray } : ByteArray).toList)) = decide (back ≠ b) := by rw [strB_eq]; simp
theorem scM_le {b : List UInt8} (hb : b.length = 512) : 0 ≤ (scM b 1 false 4).1 ∧ (scM b 1 false 4).1 ≤ 4 ∧ (scM b 1 false 4).2.1 ≤ 512 := by
  have h := scN_le (b := b) (a := 1) (bad := false) (m := 512) (by omega) (by omega)
  unfold scM
  split
  · simp; exact h.1
  · rename_i hn; refine ⟨h.2.1, ?_, h.1⟩; omega
theorem implPageRead_ok (b : List UInt8) (hbl : b.length ≤ 2^40) : CallOk Tryz.prog 108 [] [Rw (eB b)] (fun r out => r = pgR (pgOf b) ∧ out = pgH (pgOf b)) := by
  refine callOk_z (np := 0) {} mixed Tryz.func108 (by rfl) Tryz.ntmps108 Tryz.results108 (by rfl) (Nat.le_of_ble_eq_true rfl) rfl rfl rfl (vc ?_)
  refine brB_intro (fun h => ?_) (fun h => ?_)
  · have h : b.length ≠ 512 := fun e => by rw [e] at h; simp at h
    rw [pgOf_no h]
    exact pgNo _ _ ⟨rfl, rfl⟩
  have hb : b.length = 512 := by simp at h; omega
  obtain ⟨b0, hx0⟩ : ∃ b0, b[0]? = some b0 := ⟨_, List.getElem?_eq_getElem (by omega)⟩
  have hm := scan_many_ok b 1 false 4 hbl (by omega)
  have hml := scM_le hb
  have hgL : b[0]? ≠ some 66 → ∀ p, goodPg p b → scM b 1 false 4 = ((p.ks.length : Int), 2, false) := fun h0 p hp => by
    obtain ⟨g1, g2, g3, g4, g5, -⟩ := good_leaf hp h0
    exact scM_good g3 g5
  have hgI : b[0]? = some 66 → ∀ p, goodPg p b → scM b 1 false 4 = ((p.ks.length : Int), 2, false) := fun h0 p hp => by
    obtain ⟨g1, g2, g3, g4, g5, -⟩ := good_inn hp h0
    exact scM_good g3 g5
  unfold scO at hm
  refine callq_of false [57] hm rfl (vc trivial) (vc trivial) ?_
  rintro r out ⟨rfl, rfl⟩
  refine ⟨by simp, by simp, by simp, vc ?_⟩
  generalize scM b 1 false 4 = x at hml hgL hgI ⊢
  obtain ⟨n, a0, bad0⟩ := x
  simp only at hml hgL hgI ⊢
  obtain ⟨n, rfl⟩ : ∃ m : Nat, n = m := ⟨n.toNat, by omega⟩
  rw [eB_some hx0]
  refine vc (brB_intro (fun h66 => ?_) (fun h66 => ?_))
  · have h66' : b[0]? = some 66 := by rw [hx0, u8_66 h66]
    have hN0 := scan_num_ok b a0 bad0 hbl (by omega)
    have hN1 := scN_le (b := b) (a := a0) (bad := bad0) (m := 512) hml.2.2 (by omega)
    have hst : invI b n 0 (scN b a0 bad0).2.1 [] [(scN b a0 bad0).1] (scN b a0 bad0).2.2 := fun p hp => by
      obtain ⟨g1, g2, g3, g4, g5, c, cs, a, g6, g7, g8, z, g9⟩ := good_inn hp h66'
      have := hgI h66' p hp
      obtain ⟨e1, e2, e3⟩ : (n : Int) = p.ks.length ∧ a0 = 2 ∧ bad0 = false := by simpa using this
      have hx : scN b a0 bad0 = (c, a, false) := by unfold scN; rw [e2, g7, if_neg (by simp [e3]; omega)]
      rw [hx]
      exact ⟨rfl, e1, g8, by simp, by rw [g6]; rfl, z, by rw [g6]; exact g9⟩
    unfold scO at hN0
    refine drawQ_of true (by rfl) (by intro _; refine ⟨?_, ?_⟩; (repeat first | exact fun _ => rfl | exact fun _ => nbk_A _ | refine nb_upd rfl ?_); (repeat first | exact fun _ => rfl | exact fun _ => nbo_kill _ | exact nbo_HpS0 | refine nbo_upd rfl ?_)) (vc ?_)
    refine calld_of [57] false [57] hN0 rfl (vc trivial) (vc trivial) (by rfl) ⟨_, _, rfl, rfl⟩ ?_
    rintro r out ⟨rfl, rfl⟩
    refine ⟨by simp, by simp, by simp, vc ?_⟩
    generalize scN b a0 bad0 = x1 at hN1 hst ⊢
    obtain ⟨c1, a1, bad1⟩ := x1
    simp only at hN1 hst ⊢
    refine ⟨by unfold maxLen; omega, ?_⟩
    repeat refine ⟨rfl, ?_⟩
    refine loopQ_of (ι := Nat × Int × Bool × List ByteArray × List Int) (fun i => [(0, Rw (eB b)), (2, .pt 1 0 0), (4, .pt 2 0 0), (5, .pt 3 0 0), (33, In n), (34, In (i.1 : Nat))]) (fun i => [(1, .box 107 [.nul, .nul, .nul]), (2, .box 208 [Rw (eB b), In i.2.1, Bo i.2.2.1]), (3, .box 107 [.sl 4 i.1, .nul, .sl 5 (i.1 + 1)]), (4, .rw 9 1 (i.2.2.2.1.map stC)), (5, .rw 3 1 (i.2.2.2.2.map inC))]) 6 (fun i => n - i.1)
      (fun i => i.1 ≤ n ∧ i.2.1 ≤ 512 ∧ i.2.2.2.1.length = i.1 ∧ i.2.2.2.2.length = i.1 + 1 ∧ (∀ k ∈ i.2.2.2.1, k.size ≤ 512) ∧ invI b n i.1 i.2.1 i.2.2.2.1 i.2.2.2.2 i.2.2.1) (0, a1, bad1, [], [c1]) ⟨Nat.zero_le _, hN1.1, rfl, rfl, by simp, hst⟩ [(1, 1), (2, 57), (3, 81), (4, 0), (5, 193)] (by rfl) (vc ?_) (vc ?_) (fun i hi N hN => ?_)
    · trivial
    · rfl
    obtain ⟨i, a, bad, ks, cs⟩ := i
    obtain ⟨hi, ha, hkl, hcl, hsz, hL⟩ := hi
    simp only at hi ha hkl hcl hsz hL hN
    refine vc (brB_intro (fun h => ?_) (fun h => ?_))
    · have h : i < n := by simpa using h
      have hT := scan_text_ok b a bad hbl (by omega)
      have hT1 := scT_le (b := b) (a := a) (bad := bad) (m := 512) ha (by omega)
      unfold scO at hT
      refine callq_of false [2] hT rfl (vc trivial) (vc trivial) ?_
      rintro r out ⟨rfl, rfl⟩
      refine ⟨by simp, by simp, by simp, vc ?_⟩
      refine ⟨⟨hkl.symm, by unfold maxLen; omega, by omega⟩, ?_⟩
      rw [eB_some hx0]
      refine vc ?_
      rw [h66]
      refine vc ?_
      have hU := scan_num_ok b (scT b a bad).2.1 (scT b a bad).2.2 hbl (by omega)
      have hU1 := scN_le (b := b) (a := (scT b a bad).2.1) (bad := (scT b a bad).2.2) (m := 512) hT1.1 (by omega)
      have hnx : invI b n (i + 1) (scN b (scT b a bad).2.1 (scT b a bad).2.2).2.1 (ks ++ [(scT b a bad).1]) (cs ++ [(scN b (scT b a bad).2.1 (scT b a bad).2.2).1]) (scN b (scT b a bad).2.1 (scT b a bad).2.2).2.2 := fun p hp => by
        obtain ⟨e1, e2, s, v, a1, a2, t1, t2, t3, t4, t5, t6, z, t7⟩ := invI_step hL (by omega) h66' hp
        have hx : scT b a bad = (s, a1, false) := by unfold scT; rw [t1, if_neg (by simp [e1]; omega)]
        have hy : scN b a1 false = (v, a2, false) := by unfold scN; rw [t3, if_neg (by simp; omega)]
        rw [hx]
        simp only
        rw [hy]
        exact ⟨rfl, e2, t4, t5, t6, z, t7⟩
      unfold scO at hU
      refine callq_of false [2] hU rfl (vc trivial) (vc trivial) ?_
      rintro r out ⟨rfl, rfl⟩
      refine ⟨by simp, by simp, by simp, vc ?_⟩
      refine ⟨⟨hcl.symm, by unfold maxLen; omega, by omega⟩, ?_⟩
      refine hN _ (i + 1, (scN b (scT b a bad).2.1 (scT b a bad).2.2).2.1, (scN b (scT b a bad).2.1 (scT b a bad).2.2).2.2, ks ++ [(scT b a bad).1], cs ++ [(scN b (scT b a bad).2.1 (scT b a bad).2.2).1]) [(1, 1), (2, 2), (3, 3), (4, 70), (5, 182)] ⟨h, hU1.1, by simp [hkl], by simp [hcl], fun k hk => ?_, hnx⟩ (by show n - (i + 1) < n - i; omega) (by rfl) (vc ?_) (vc ?_)
      · rcases List.mem_append.1 hk with hk | hk
        · exact hsz k hk
        · rw [List.mem_singleton.1 hk]; have := hT1.2; omega
      · rw [w64 _ (by omega)]; simp
      · exact ⟨⟨hkl, hcl⟩, by simp [stC], by simp [inC]⟩
    have h : i = n := by simp at h; omega
    subst h
    have hu : ∀ q, goodPg q b → (⟨ks, [], cs⟩ : Pg) = q := fun q hq => invI_end hL h66' hq (by omega)
    have hle : (⟨ks, [], cs⟩ : Pg).le (2^40) := ⟨by simp only; omega, by simp; try omega, by simp; try omega, fun k hk => by have := hsz k hk; omega⟩
    have hpb := implPageBytes_ok ⟨ks, [], cs⟩ hle
    unfold Pg.rd at hpb
    have hno : ¬ goodPg ⟨ks, [], cs⟩ b → ∀ H : Hp, EndQ 0 H (.tu [.ag [.nul, .nul, .nul], Bo false]) (fun r out => r = pgR (pgOf b) ∧ out = pgH (pgOf b)) := fun e H => by
      rw [pgOf_none e hu]
      exact pgNo _ _ ⟨rfl, rfl⟩
    by_cases hok : pageOk ⟨ks, [], cs⟩
    · rw [show pgB ⟨ks, [], cs⟩ = some (sheetB ⟨ks, [], cs⟩) by unfold pgB; rw [if_pos hok]] at hpb
      unfold byR byH byO at hpb
      refine callq_of true [] hpb rfl trivial (by refine vc ?_; exact ⟨hkl.symm, ⟨false, rfl⟩, hcl.symm⟩) ?_
      rintro r out ⟨rfl, rfl⟩
      refine ⟨by simp, by simp, by_rs rfl true, vc ?_⟩
      refine brB_intro (fun hb1 => hno (fun e => ?_) _) (fun hb1 => ?_)
      · have := (hL _ e).1; rw [hb1] at this; cases this
      subst hb1
      rw [bk_get]
      refine brB_intro (fun hs => hno (fun e => ?_) _) (fun hs => ?_)
      · exact of_decide_eq_true hs e.2
      · have hs : sheetB ⟨ks, [], cs⟩ = b := Classical.byContradiction fun e => by rw [decide_eq_true e] at hs; cases hs
        rw [pgOf_some ⟨hok, hs⟩ hu]
        refine endQ_of [(1, 4), (2, 0), (3, 5)] (.tu [.ag [.sl 1 ks.length, .sl 2 0, .sl 3 cs.length], Bo true]) [some (.rw 9 1 (ks.map stC)), some (.rw 9 1 []), some (.rw 3 1 (cs.map inC))] (by rfl) (vc ?_) (vc ?_) ⟨rfl, rfl⟩
        · exact ⟨hkl.symm, hcl.symm⟩
        · trivial
    · rw [show pgB ⟨ks, [], cs⟩ = none by unfold pgB; rw [if_neg hok]] at hpb
      unfold byR byH byO at hpb
      refine callq_of true [] hpb rfl trivial (by refine vc ?_; exact ⟨hkl.symm, ⟨false, rfl⟩, hcl.symm⟩) ?_
      rintro r out ⟨rfl, rfl⟩
      refine ⟨by simp, by simp, by_rs rfl false, vc ?_⟩
      exact brB_intro (fun hb1 => hno (fun e => hok e.1) _) (fun hb1 => hno (fun e => hok e.1) _)
  · have h66' : b[0]? ≠ some 66 := fun e => by rw [hx0] at e; exact u8_n66 h66 (Option.some.inj e)
    refine loopQ_of (ι := Nat × Int × Bool × List ByteArray × List ByteArray) (fun i => [(0, Rw (eB b)), (2, .pt 1 0 0), (4, .pt 2 0 0), (5, .pt 3 0 0), (33, In n), (34, In (i.1 : Nat))]) (fun i => [(1, .box 107 [.nul, .nul, .nul]), (2, .box 208 [Rw (eB b), In i.2.1, Bo i.2.2.1]), (3, .box 107 [.sl 4 i.1, .sl 5 i.1, .nul]), (4, .rw 9 1 (i.2.2.2.1.map stC)), (5, .rw 9 1 (i.2.2.2.2.map stC))]) 6 (fun i => n - i.1)
      (fun i => i.1 ≤ n ∧ i.2.1 ≤ 512 ∧ i.2.2.2.1.length = i.1 ∧ i.2.2.2.2.length = i.1 ∧ (∀ k ∈ i.2.2.2.1, k.size ≤ 512) ∧ invL b n i.1 i.2.1 i.2.2.2.1 i.2.2.2.2 i.2.2.1) (0, a0, bad0, [], []) ⟨Nat.zero_le _, hml.2.2, rfl, rfl, by simp, fun p hp => ?_⟩ [(1, 1), (2, 57), (3, 81), (4, 0), (5, 0)] (by rfl) (vc ?_) (vc ?_) (fun i hi N hN => ?_)
    · obtain ⟨g1, g2, g3, g4, g5, z, g6⟩ := good_leaf hp h66'
      have := hgL h66' p hp
      obtain ⟨e1, e2, e3⟩ : (n : Int) = p.ks.length ∧ a0 = 2 ∧ bad0 = false := by simpa using this
      exact ⟨e3, e1, by show 0 ≤ a0; omega, by simp, by simp, z, by simp only [e2]; exact g6⟩
    · trivial
    · trivial
    obtain ⟨i, a, bad, ks, vs⟩ := i
    obtain ⟨hi, ha, hkl, hvl, hsz, hL⟩ := hi
    simp only at hi ha hkl hvl hsz hL hN
    refine vc (brB_intro (fun h => ?_) (fun h => ?_))
    · have h : i < n := by simpa using h
      have hT := scan_text_ok b a bad hbl (by omega)
      have hT1 := scT_le (b := b) (a := a) (bad := bad) (m := 512) ha (by omega)
      unfold scO at hT
      refine callq_of false [2] hT rfl (vc trivial) (vc trivial) ?_
      rintro r out ⟨rfl, rfl⟩
      refine ⟨by simp, by simp, by simp, vc ?_⟩
      refine ⟨⟨hkl.symm, by unfold maxLen; omega, by omega⟩, ?_⟩
      rw [eB_some hx0]
      refine vc ?_
      rw [h66]
      refine vc ?_
      have hU := scan_text_ok b (scT b a bad).2.1 (scT b a bad).2.2 hbl (by omega)
      have hU1 := scT_le (b := b) (a := (scT b a bad).2.1) (bad := (scT b a bad).2.2) (m := 512) hT1.1 (by omega)
      have hnx : invL b n (i + 1) (scT b (scT b a bad).2.1 (scT b a bad).2.2).2.1 (ks ++ [(scT b a bad).1]) (vs ++ [(scT b (scT b a bad).2.1 (scT b a bad).2.2).1]) (scT b (scT b a bad).2.1 (scT b a bad).2.2).2.2 := fun p hp => by
        obtain ⟨e1, e2, s, v, a1, a2, t1, t2, t3, t4, t5, t6, z, t7⟩ := invL_step hL (by omega) h66' hp
        have hx : scT b a bad = (s, a1, false) := by unfold scT; rw [t1, if_neg (by simp [e1]; omega)]
        have hy : scT b a1 false = (v, a2, false) := by unfold scT; rw [t3, if_neg (by simp; omega)]
        rw [hx]
        simp only
        rw [hy]
        exact ⟨rfl, e2, t4, t5, t6, z, t7⟩
      unfold scO at hU
      refine callq_of false [2] hU rfl (vc trivial) (vc trivial) ?_
      rintro r out ⟨rfl, rfl⟩
      refine ⟨by simp, by simp, by simp, vc ?_⟩
      refine ⟨⟨hvl.symm, by unfold maxLen; omega, by omega⟩, ?_⟩
      refine hN _ (i + 1, (scT b (scT b a bad).2.1 (scT b a bad).2.2).2.1, (scT b (scT b a bad).2.1 (scT b a bad).2.2).2.2, ks ++ [(scT b a bad).1], vs ++ [(scT b (scT b a bad).2.1 (scT b a bad).2.2).1]) [(1, 1), (2, 2), (3, 3), (4, 70), (5, 182)] ⟨h, hU1.1, by simp [hkl], by simp [hvl], fun k hk => ?_, hnx⟩ (by show n - (i + 1) < n - i; omega) (by rfl) (vc ?_) (vc ?_)
      · rcases List.mem_append.1 hk with hk | hk
        · exact hsz k hk
        · rw [List.mem_singleton.1 hk]; have := hT1.2; omega
      · rw [w64 _ (by omega)]; simp
      · exact ⟨⟨hkl, hvl⟩, by simp [stC], by simp [stC]⟩
    have h : i = n := by simp at h; omega
    subst h
    have hu : ∀ q, goodPg q b → (⟨ks, vs, []⟩ : Pg) = q := fun q hq => invL_end hL h66' hq (by omega)
    have hle : (⟨ks, vs, []⟩ : Pg).le (2^40) := ⟨by simp only; omega, by simp; try omega, by simp; try omega, fun k hk => by have := hsz k hk; omega⟩
    have hpb := implPageBytes_ok ⟨ks, vs, []⟩ hle
    unfold Pg.rd at hpb
    have hno : ¬ goodPg ⟨ks, vs, []⟩ b → ∀ H : Hp, EndQ 0 H (.tu [.ag [.nul, .nul, .nul], Bo false]) (fun r out => r = pgR (pgOf b) ∧ out = pgH (pgOf b)) := fun e H => by
      rw [pgOf_none e hu]
      exact pgNo _ _ ⟨rfl, rfl⟩
    by_cases hok : pageOk ⟨ks, vs, []⟩
    · rw [show pgB ⟨ks, vs, []⟩ = some (sheetB ⟨ks, vs, []⟩) by unfold pgB; rw [if_pos hok]] at hpb
      unfold byR byH byO at hpb
      refine callq_of true [] hpb rfl trivial (by refine vc ?_; exact ⟨hkl.symm, hvl.symm, false, rfl⟩) ?_
      rintro r out ⟨rfl, rfl⟩
      refine ⟨by simp, by simp, by_rs rfl true, vc ?_⟩
      refine brB_intro (fun hb1 => hno (fun e => ?_) _) (fun hb1 => ?_)
      · have := (hL _ e).1; rw [hb1] at this; cases this
      subst hb1
      rw [bk_get]
      refine brB_intro (fun hs => hno (fun e => ?_) _) (fun hs => ?_)
      · exact of_decide_eq_true hs e.2
      · have hs : sheetB ⟨ks, vs, []⟩ = b := Classical.byContradiction fun e => by rw [decide_eq_true e] at hs; cases hs
        rw [pgOf_some ⟨hok, hs⟩ hu]
        refine endQ_of [(1, 4), (2, 5), (3, 0)] (.tu [.ag [.sl 1 ks.length, .sl 2 vs.length, .sl 3 0], Bo true]) [some (.rw 9 1 (ks.map stC)), some (.rw 9 1 (vs.map stC)), some (.rw 3 1 [])] (by rfl) (vc ?_) (vc ?_) ⟨rfl, rfl⟩
        · exact ⟨hkl.symm, hvl.symm⟩
        · trivial
    · rw [show pgB ⟨ks, vs, []⟩ = none by unfold pgB; rw [if_neg hok]] at hpb
      unfold byR byH byO at hpb
      refine callq_of true [] hpb rfl trivial (by refine vc ?_; exact ⟨hkl.symm, hvl.symm, false, rfl⟩) ?_
      rintro r out ⟨rfl, rfl⟩
      refine ⟨by simp, by simp, by_rs rfl false, vc ?_⟩
      exact brB_intro (fun hb1 => hno (fun e => hok e.1) _) (fun hb1 => hno (fun e => hok e.1) _)
end Go.Proofs.YtnnmpdanfeejbaaGreat.Abs

/- Pages read, the reference: contract. -/
namespace Go.Proofs.YtnnmpdanfeejbaaGreat.Abs
open Go Go.Proofs
set_option maxRecDepth 10000
set_option maxHeartbeats 1000000
set_option linter.unusedVariables false
set_option linter.unusedSimpArgs false
theorem pgOf_empty {b : List UInt8} (h : ∀ q, ¬ goodPg q b) : pgOf b = none := by unfold pgOf; rw [dif_neg]; rintro ⟨q, hq⟩; exact h q hq
theorem specPageRead_ok (b : List UInt8) (hbl : b.length ≤ 2^40) : CallOk Tryz.prog 94 [] [Rw (eB b)] (fun r out => r = pgR (pgOf b) ∧ out = pgH (pgOf b)) := by
  refine callOk_z (np := 0) {} mixed Tryz.func94 (by rfl) Tryz.ntmps94 Tryz.results94 (by rfl) (Nat.le_of_ble_eq_true rfl) rfl rfl rfl (vc ?_)
  refine brB_intro (fun h => ?_) (fun h => ?_)
  · have h : b.length ≠ 512 := fun e => by rw [e] at h; simp at h
    rw [pgOf_no h]
    exact pgNo _ _ ⟨rfl, rfl⟩
  have hb : b.length = 512 := by simp at h; omega
  obtain ⟨b0, hx0⟩ : ∃ b0, b[0]? = some b0 := ⟨_, List.getElem?_eq_getElem (by omega)⟩
  have hq4 : ∀ q, goodPg q b → q.ks.length ≤ 4 := fun q hq => by
    rcases good_head hq with ⟨hc, e⟩ | ⟨hc, e⟩
    · exact (good_leaf hq (by rw [e]; simp)).2.2.1
    · exact (good_inn hq e).2.2.1
  have hgv : ∀ q, goodPg q b → getVar b 1 = ((q.ks.length : Int), 2) := fun q hq => by
    rcases good_head hq with ⟨hc, e⟩ | ⟨hc, e⟩
    · exact (good_leaf hq (by rw [e]; simp)).2.2.2.2.1
    · exact (good_inn hq e).2.2.2.2.1
  have hg0 : (getVar b 1).2 ≤ 512 := by
    rcases getVar_cases b 1 with e | ⟨x, q, e, e1, e2, e3, e4⟩
    · rw [e]; simp
    · rw [e]; simp only; omega
  have hgv1 := specGetVar_ok b 1 hbl (by omega)
  obtain ⟨n, a0, hxe⟩ : ∃ n a0, getVar b 1 = (n, a0) := ⟨_, _, rfl⟩
  rw [hxe] at hgv1 hg0
  simp only [hxe, Prod.mk.injEq] at hgv hg0 hgv1
  rw [eB_some hx0]
  refine vc ?_
  refine brB_intro (fun h76 => ?_) (fun h76 => ?_)
  · rw [eB_some hx0]
    refine vc (brB_intro (fun h66 => ?_) (fun h66 => ?_))
    · have hno : ∀ q, ¬ goodPg q b := fun q hq => by
        rcases good_head hq with ⟨hc, e⟩ | ⟨hc, e⟩
        · rw [hx0] at e; rw [Option.some.inj e] at h76; simp at h76
        · rw [hx0] at e; rw [Option.some.inj e] at h66; simp at h66
      rw [pgOf_empty hno]
      exact pgNo _ _ ⟨rfl, rfl⟩
    have h66 : (((b0.toNat : Nat) : Int) == 66) = true := by simp at h66 ⊢; exact h66
    have h66' : b[0]? = some 66 := by rw [hx0, u8_66 h66]
    refine callq_of false [] hgv1 rfl trivial (vc trivial) ?_
    rintro r out ⟨rfl, rfl⟩
    refine vc4 (by simp) (by simp) (by simp) ?_
    have hst : ∀ q, goodPg q b → ∃ c cs a, q.cs = c :: cs ∧ getVar b 2 = (c, a) ∧ 0 ≤ a ∧ ∃ z, b.drop a.toNat = innB q.ks cs ++ z := fun q hq => (good_inn hq h66').2.2.2.2.2
    rw [eB_some hx0]
    refine vc ?_
    rw [h66]
    refine vc ?_
    refine brB_intro (fun ha0 => ?_) (fun ha0 => ?_)
    · refine callq_of false [] (specGetVar_ok b a0 hbl (by omega)) rfl trivial (vc trivial) ?_
      rintro r out ⟨rfl, rfl⟩
      refine vc4 (by simp) (by simp) (by simp) ?_
      have hU1 : (getVar b a0).2 ≤ 512 := by
        rcases getVar_cases b a0 with e | ⟨x, q, e, e1, e2, e3, e4⟩
        · rw [e]; simp
        · rw [e]; simp only; omega
      have hs0 : invI b n 0 (getVar b a0).2 [] [(getVar b a0).1] false := fun q hq => by
        obtain ⟨c, cs, a, g6, g7, g8, z, g9⟩ := hst q hq
        obtain ⟨e1, e2⟩ := hgv q hq
        rw [e2, g7]
        exact ⟨rfl, e1, g8, by simp, by rw [g6]; rfl, z, by rw [g6]; exact g9⟩
      refine ⟨by unfold maxLen; omega, ?_⟩
      refine loopQ_of (ι := Nat × Int × List ByteArray × List Int) (fun i => [(0, Rw (eB b)), (2, .pt 1 0 0), (4, .pt 2 0 0), (5, In n), (6, In i.2.1), (9, In (i.1 : Nat))]) (fun i => [(1, .box 107 [.nul, .nul, .nul]), (2, .box 107 [.sl 3 i.1, .nul, .sl 4 (i.1 + 1)]), (3, .rw 9 1 (i.2.2.1.map stC)), (4, .rw 3 1 (i.2.2.2.map inC))]) 5 (fun i => 5 - i.1)
        (fun i => i.1 ≤ 5 ∧ i.2.1 ≤ 512 ∧ i.2.2.1.length = i.1 ∧ i.2.2.2.length = i.1 + 1 ∧ (∀ k ∈ i.2.2.1, k.size ≤ 512) ∧ invI b n i.1 i.2.1 i.2.2.1 i.2.2.2 false) (0, (getVar b a0).2, [], [(getVar b a0).1]) ⟨by omega, hU1, rfl, rfl, by simp, hs0⟩ [(1, 1), (2, 25), (3, 0), (4, 377)] (by rfl) (vc ?_) (vc ?_) (fun i hi N hN => ?_)
      · trivial
      · rfl
      obtain ⟨i, a, ks, cs⟩ := i
      obtain ⟨hi, ha, hkl, hcl, hsz, hL⟩ := hi
      simp only at hi ha hkl hcl hsz hL hN
      refine vc (brB_intro (fun h => ?_) (fun h => ?_))
      · have h : (i : Int) < n := by simpa using h
        refine brB_intro (fun h2 => ?_) (fun h2 => ?_)
        · have h2 : i ≤ 4 := by simp at h2; omega
          refine brB_intro (fun h3 => ?_) (fun h3 => ?_)
          · refine callq_of false [] (specGetText_ok b a hbl (by omega)) rfl trivial (vc trivial) ?_
            rintro r out ⟨rfl, rfl⟩
            refine vc4 (by simp) (by simp) (by simp) ?_
            have hT1 : (getText b a).2 ≤ 512 ∧ (getText b a).1.size ≤ 512 := by
              rcases getText_cases b a with e | ⟨x, q, e, e1, e2, e3, e4⟩
              · rw [e]; simp [ByteArray.size]
              · rw [e]; simp only; omega
            refine ⟨⟨hkl.symm, by unfold maxLen; omega, by omega⟩, ?_⟩
            rw [eB_some hx0]
            refine vc ?_
            rw [h66]
            refine vc ?_
            refine callq_of false [] (specGetVar_ok b (getText b a).2 hbl (by omega)) rfl trivial (vc trivial) ?_
            rintro r out ⟨rfl, rfl⟩
            refine vc4 (by simp) (by simp) (by simp) ?_
            have hU1 : (getVar b (getText b a).2).2 ≤ 512 := by
              rcases getVar_cases b (getText b a).2 with e | ⟨x, q, e, e1, e2, e3, e4⟩
              · rw [e]; simp
              · rw [e]; simp only; omega
            have hnx : invI b n (i + 1) (getVar b (getText b a).2).2 (ks ++ [(getText b a).1]) (cs ++ [(getVar b (getText b a).2).1]) false := fun p hp => by
              obtain ⟨e1, e2, s, v, a1, a2, t1, t2, t3, t4, t5, t6, z, t7⟩ := invI_step hL h h66' hp
              rw [t1]
              simp only
              rw [t3]
              exact ⟨by simp, e2, t4, t5, t6, z, t7⟩
            refine ⟨⟨hcl.symm, by unfold maxLen; omega, by omega⟩, ?_⟩
            refine hN _ (i + 1, (getVar b (getText b a).2).2, ks ++ [(getText b a).1], cs ++ [(getVar b (getText b a).2).1]) [(1, 1), (2, 2), (3, 189), (4, 357)] ⟨by show i + 1 ≤ 5; omega, hU1, by simp [hkl], by simp [hcl], fun k hk => ?_, hnx⟩ (by show 5 - (i + 1) < 5 - i; omega) (by rfl) (vc ?_) (vc ?_)
            · rcases List.mem_append.1 hk with hk | hk
              · exact hsz k hk
              · rw [List.mem_singleton.1 hk]; exact hT1.2
            · rw [w64 _ (by omega)]; simp
            · exact ⟨⟨hkl, hcl⟩, by simp [stC], by simp [inC]⟩
          · have h3 : ¬ 0 ≤ a := by simp at h3; omega
            have hu : ∀ q, goodPg q b → (⟨ks, [], cs⟩ : Pg) = q := fun q hq => invI_end hL h66' hq (absurd (hL _ hq).2.2.1 h3)
            have hle : (⟨ks, [], cs⟩ : Pg).le (2^40) := ⟨by simp only; omega, by simp; try omega, by simp; try omega, fun k hk => by have := hsz k hk; omega⟩
            have hpb := specPageBytes_ok ⟨ks, [], cs⟩ hle
            unfold Pg.rd at hpb
            have hno : ¬ goodPg ⟨ks, [], cs⟩ b → ∀ H : Hp, EndQ 0 H (.tu [.ag [.nul, .nul, .nul], Bo false]) (fun r out => r = pgR (pgOf b) ∧ out = pgH (pgOf b)) := fun e H => by
              rw [pgOf_none e hu]
              exact pgNo _ _ ⟨rfl, rfl⟩
            by_cases hok : pageOk ⟨ks, [], cs⟩
            · rw [show pgB ⟨ks, [], cs⟩ = some (sheetB ⟨ks, [], cs⟩) by unfold pgB; rw [if_pos hok]] at hpb
              unfold byR byH byO at hpb
              refine callq_of true [] hpb rfl trivial (by refine vc ?_; exact ⟨hkl.symm, ⟨false, rfl⟩, hcl.symm⟩) ?_
              rintro r out ⟨rfl, rfl⟩
              refine vc4 (by simp) (by simp) (by_rs rfl true) ?_
              refine callq_of true [] (l04Same_ok (sheetB ⟨ks, [], cs⟩) b) rfl trivial (vc trivial) ?_
              rintro r out ⟨rfl, rfl⟩
              refine vc4 (by simp) (by simp) (fun _ => ⟨.v _, by simp⟩) ?_
              refine brB_intro (fun hs => hno (fun e => ?_) _) (fun hs => ?_)
              · rw [decide_eq_true e.2] at hs; cases hs
              · have hs : sheetB ⟨ks, [], cs⟩ = b := Classical.byContradiction fun e => by rw [decide_eq_false e] at hs; cases hs
                rw [pgOf_some ⟨hok, hs⟩ hu]
                refine endQ_of [(1, 3), (2, 0), (3, 4)] (.tu [.ag [.sl 1 ks.length, .sl 2 0, .sl 3 cs.length], Bo true]) [some (.rw 9 1 (ks.map stC)), some (.rw 9 1 []), some (.rw 3 1 (cs.map inC))] (by rfl) (vc ?_) (vc ?_) ⟨rfl, rfl⟩
                · exact ⟨hkl.symm, hcl.symm⟩
                · trivial
            · rw [show pgB ⟨ks, [], cs⟩ = none by unfold pgB; rw [if_neg hok]] at hpb
              unfold byR byH byO at hpb
              refine callq_of true [] hpb rfl trivial (by refine vc ?_; exact ⟨hkl.symm, ⟨false, rfl⟩, hcl.symm⟩) ?_
              rintro r out ⟨rfl, rfl⟩
              refine vc4 (by simp) (by simp) (by_rs rfl false) ?_
              exact hno (fun e => hok e.1) _
        · have h2 : ¬ i ≤ 4 := by simp at h2; omega
          have hu : ∀ q, goodPg q b → (⟨ks, [], cs⟩ : Pg) = q := fun q hq => invI_end hL h66' hq (by have := hq4 _ hq; have := (hL _ hq).2.1; omega)
          have hle : (⟨ks, [], cs⟩ : Pg).le (2^40) := ⟨by simp only; omega, by simp; try omega, by simp; try omega, fun k hk => by have := hsz k hk; omega⟩
          have hpb := specPageBytes_ok ⟨ks, [], cs⟩ hle
          unfold Pg.rd at hpb
          have hno : ¬ goodPg ⟨ks, [], cs⟩ b → ∀ H : Hp, EndQ 0 H (.tu [.ag [.nul, .nul, .nul], Bo false]) (fun r out => r = pgR (pgOf b) ∧ out = pgH (pgOf b)) := fun e H => by
            rw [pgOf_none e hu]
            exact pgNo _ _ ⟨rfl, rfl⟩
          by_cases hok : pageOk ⟨ks, [], cs⟩
          · rw [show pgB ⟨ks, [], cs⟩ = some (sheetB ⟨ks, [], cs⟩) by unfold pgB; rw [if_pos hok]] at hpb
            unfold byR byH byO at hpb
            refine callq_of true [] hpb rfl trivial (by refine vc ?_; exact ⟨hkl.symm, ⟨false, rfl⟩, hcl.symm⟩) ?_
            rintro r out ⟨rfl, rfl⟩
            refine vc4 (by simp) (by simp) (by_rs rfl true) ?_
            refine callq_of true [] (l04Same_ok (sheetB ⟨ks, [], cs⟩) b) rfl trivial (vc trivial) ?_
            rintro r out ⟨rfl, rfl⟩
            refine vc4 (by simp) (by simp) (fun _ => ⟨.v _, by simp⟩) ?_
            refine brB_intro (fun hs => hno (fun e => ?_) _) (fun hs => ?_)
            · rw [decide_eq_true e.2] at hs; cases hs
            · have hs : sheetB ⟨ks, [], cs⟩ = b := Classical.byContradiction fun e => by rw [decide_eq_false e] at hs; cases hs
              rw [pgOf_some ⟨hok, hs⟩ hu]
              refine endQ_of [(1, 3), (2, 0), (3, 4)] (.tu [.ag [.sl 1 ks.length, .sl 2 0, .sl 3 cs.length], Bo true]) [some (.rw 9 1 (ks.map stC)), some (.rw 9 1 []), some (.rw 3 1 (cs.map inC))] (by rfl) (vc ?_) (vc ?_) ⟨rfl, rfl⟩
              · exact ⟨hkl.symm, hcl.symm⟩
              · trivial
          · rw [show pgB ⟨ks, [], cs⟩ = none by unfold pgB; rw [if_neg hok]] at hpb
            unfold byR byH byO at hpb
            refine callq_of true [] hpb rfl trivial (by refine vc ?_; exact ⟨hkl.symm, ⟨false, rfl⟩, hcl.symm⟩) ?_
            rintro r out ⟨rfl, rfl⟩
            refine vc4 (by simp) (by simp) (by_rs rfl false) ?_
            exact hno (fun e => hok e.1) _
      have h : ¬ (i : Int) < n := by simpa using h
      have hu : ∀ q, goodPg q b → (⟨ks, [], cs⟩ : Pg) = q := fun q hq => invI_end hL h66' hq (by omega)
      have hle : (⟨ks, [], cs⟩ : Pg).le (2^40) := ⟨by simp only; omega, by simp; try omega, by simp; try omega, fun k hk => by have := hsz k hk; omega⟩
      have hpb := specPageBytes_ok ⟨ks, [], cs⟩ hle
      unfold Pg.rd at hpb
      have hno : ¬ goodPg ⟨ks, [], cs⟩ b → ∀ H : Hp, EndQ 0 H (.tu [.ag [.nul, .nul, .nul], Bo false]) (fun r out => r = pgR (pgOf b) ∧ out = pgH (pgOf b)) := fun e H => by
        rw [pgOf_none e hu]
        exact pgNo _ _ ⟨rfl, rfl⟩
      by_cases hok : pageOk ⟨ks, [], cs⟩
      · rw [show pgB ⟨ks, [], cs⟩ = some (sheetB ⟨ks, [], cs⟩) by unfold pgB; rw [if_pos hok]] at hpb
        unfold byR byH byO at hpb
        refine callq_of true [] hpb rfl trivial (by refine vc ?_; exact ⟨hkl.symm, ⟨false, rfl⟩, hcl.symm⟩) ?_
        rintro r out ⟨rfl, rfl⟩
        refine vc4 (by simp) (by simp) (by_rs rfl true) ?_
        refine callq_of true [] (l04Same_ok (sheetB ⟨ks, [], cs⟩) b) rfl trivial (vc trivial) ?_
        rintro r out ⟨rfl, rfl⟩
        refine vc4 (by simp) (by simp) (fun _ => ⟨.v _, by simp⟩) ?_
        refine brB_intro (fun hs => hno (fun e => ?_) _) (fun hs => ?_)
        · rw [decide_eq_true e.2] at hs; cases hs
        · have hs : sheetB ⟨ks, [], cs⟩ = b := Classical.byContradiction fun e => by rw [decide_eq_false e] at hs; cases hs
          rw [pgOf_some ⟨hok, hs⟩ hu]
          refine endQ_of [(1, 3), (2, 0), (3, 4)] (.tu [.ag [.sl 1 ks.length, .sl 2 0, .sl 3 cs.length], Bo true]) [some (.rw 9 1 (ks.map stC)), some (.rw 9 1 []), some (.rw 3 1 (cs.map inC))] (by rfl) (vc ?_) (vc ?_) ⟨rfl, rfl⟩
          · exact ⟨hkl.symm, hcl.symm⟩
          · trivial
      · rw [show pgB ⟨ks, [], cs⟩ = none by unfold pgB; rw [if_neg hok]] at hpb
        unfold byR byH byO at hpb
        refine callq_of true [] hpb rfl trivial (by refine vc ?_; exact ⟨hkl.symm, ⟨false, rfl⟩, hcl.symm⟩) ?_
        rintro r out ⟨rfl, rfl⟩
        refine vc4 (by simp) (by simp) (by_rs rfl false) ?_
        exact hno (fun e => hok e.1) _
    · have hno : ∀ q, ¬ goodPg q b := fun q hq => by
        obtain ⟨e1, e2⟩ := hgv q hq
        rw [e2] at ha0; simp at ha0
      have ha0 : ¬ 0 ≤ a0 := by simp at ha0; omega
      have hpb := specPageBytes_ok ⟨[], [], []⟩ ⟨by simp, by simp, by simp, by simp⟩
      unfold Pg.rd at hpb
      rw [show pgB ⟨[], [], []⟩ = none by unfold pgB; rw [if_neg (fun e => by rcases e.2.2.2 with e | e <;> simp at e)]] at hpb
      unfold byR byH byO at hpb
      rw [pgOf_empty hno]
      refine loopQ_of (ι := Unit) (fun i => [(0, Rw (eB b)), (2, .pt 1 0 0), (4, .pt 2 0 0), (5, In n), (6, In a0), (9, In (0 : Nat))]) (fun i => [(1, .box 107 [.nul, .nul, .nul]), (2, .box 107 [.nul, .nul, .nul])]) 3 (fun i => 0) (fun i => True) () trivial [(1, 1), (2, 25)] (by rfl) (vc ?_) (vc ?_) (fun i hi N hN => ?_)
      · trivial
      · trivial
      refine vc (brB_intro (fun h => ?_) (fun h => ?_))
      · refine brB_intro (fun h3 => absurd (by simpa using h3) ha0) (fun h3 => ?_)
        refine callq_of true [] hpb rfl trivial (by refine vc ?_; exact ⟨false, rfl⟩) ?_
        rintro r out ⟨rfl, rfl⟩
        refine vc4 (by simp) (by simp) (by_rs rfl false) ?_
        exact pgNo _ _ ⟨rfl, rfl⟩
      · refine callq_of true [] hpb rfl trivial (by refine vc ?_; exact ⟨false, rfl⟩) ?_
        rintro r out ⟨rfl, rfl⟩
        refine vc4 (by simp) (by simp) (by_rs rfl false) ?_
        exact pgNo _ _ ⟨rfl, rfl⟩
  · have h76 : b0 = 76 := UInt8.toNat_inj.1 (by simp at h76 ⊢; omega)
    have h66 : (((b0.toNat : Nat) : Int) == 66) = false := by rw [h76]; rfl
    have h66' : b[0]? ≠ some 66 := by rw [hx0, h76]; simp
    refine callq_of false [] hgv1 rfl trivial (vc trivial) ?_
    rintro r out ⟨rfl, rfl⟩
    refine vc4 (by simp) (by simp) (by simp) ?_
    have hst : ∀ q, goodPg q b → ∃ z, b.drop 2 = leafB q.ks q.vs ++ z := fun q hq => (good_leaf hq h66').2.2.2.2.2
    rw [eB_some hx0]
    refine vc ?_
    rw [h66]
    refine vc ?_
    have hs0 : invL b n 0 a0 [] [] false := fun q hq => by
      obtain ⟨z, g9⟩ := hst q hq
      obtain ⟨e1, e2⟩ := hgv q hq
      exact ⟨rfl, e1, by omega, by simp, by simp, z, by rw [e2]; exact g9⟩
    refine loopQ_of (ι := Nat × Int × List ByteArray × List ByteArray) (fun i => [(0, Rw (eB b)), (2, .pt 1 0 0), (4, .pt 2 0 0), (5, In n), (6, In i.2.1), (9, In (i.1 : Nat))]) (fun i => [(1, .box 107 [.nul, .nul, .nul]), (2, .box 107 [.sl 3 i.1, .sl 4 i.1, .nul]), (3, .rw 9 1 (i.2.2.1.map stC)), (4, .rw 9 1 (i.2.2.2.map stC))]) 5 (fun i => 5 - i.1)
      (fun i => i.1 ≤ 5 ∧ i.2.1 ≤ 512 ∧ i.2.2.1.length = i.1 ∧ i.2.2.2.length = i.1 ∧ (∀ k ∈ i.2.2.1, k.size ≤ 512) ∧ invL b n i.1 i.2.1 i.2.2.1 i.2.2.2 false) (0, a0, [], []) ⟨by omega, hg0, rfl, rfl, by simp, hs0⟩ [(1, 1), (2, 25), (3, 0), (4, 0)] (by rfl) (vc ?_) (vc ?_) (fun i hi N hN => ?_)
    · trivial
    · trivial
    obtain ⟨i, a, ks, vs⟩ := i
    obtain ⟨hi, ha, hkl, hvl, hsz, hL⟩ := hi
    simp only at hi ha hkl hvl hsz hL hN
    refine vc (brB_intro (fun h => ?_) (fun h => ?_))
    · have h : (i : Int) < n := by simpa using h
      refine brB_intro (fun h2 => ?_) (fun h2 => ?_)
      · have h2 : i ≤ 4 := by simp at h2; omega
        refine brB_intro (fun h3 => ?_) (fun h3 => ?_)
        · refine callq_of false [] (specGetText_ok b a hbl (by omega)) rfl trivial (vc trivial) ?_
          rintro r out ⟨rfl, rfl⟩
          refine vc4 (by simp) (by simp) (by simp) ?_
          have hT1 : (getText b a).2 ≤ 512 ∧ (getText b a).1.size ≤ 512 := by
            rcases getText_cases b a with e | ⟨x, q, e, e1, e2, e3, e4⟩
            · rw [e]; simp [ByteArray.size]
            · rw [e]; simp only; omega
          refine ⟨⟨hkl.symm, by unfold maxLen; omega, by omega⟩, ?_⟩
          rw [eB_some hx0]
          refine vc ?_
          rw [h66]
          refine vc ?_
          refine callq_of false [] (specGetText_ok b (getText b a).2 hbl (by omega)) rfl trivial (vc trivial) ?_
          rintro r out ⟨rfl, rfl⟩
          refine vc4 (by simp) (by simp) (by simp) ?_
          have hU1 : (getText b (getText b a).2).2 ≤ 512 := by
            rcases getText_cases b (getText b a).2 with e | ⟨x, q, e, e1, e2, e3, e4⟩
            · rw [e]; simp
            · rw [e]; simp only; omega
          have hnx : invL b n (i + 1) (getText b (getText b a).2).2 (ks ++ [(getText b a).1]) (vs ++ [(getText b (getText b a).2).1]) false := fun p hp => by
            obtain ⟨e1, e2, s, v, a1, a2, t1, t2, t3, t4, t5, t6, z, t7⟩ := invL_step hL h h66' hp
            rw [t1]
            simp only
            rw [t3]
            exact ⟨by simp, e2, t4, t5, t6, z, t7⟩
          refine ⟨⟨hvl.symm, by unfold maxLen; omega, by omega⟩, ?_⟩
          refine hN _ (i + 1, (getText b (getText b a).2).2, ks ++ [(getText b a).1], vs ++ [(getText b (getText b a).2).1]) [(1, 1), (2, 2), (3, 189), (4, 357)] ⟨by show i + 1 ≤ 5; omega, hU1, by simp [hkl], by simp [hvl], fun k hk => ?_, hnx⟩ (by show 5 - (i + 1) < 5 - i; omega) (by rfl) (vc ?_) (vc ?_)
          · rcases List.mem_append.1 hk with hk | hk
            · exact hsz k hk
            · rw [List.mem_singleton.1 hk]; exact hT1.2
          · rw [w64 _ (by omega)]; simp
          · exact ⟨⟨hkl, hvl⟩, by simp [stC], by simp [stC]⟩
        · have h3 : ¬ 0 ≤ a := by simp at h3; omega
          have hu : ∀ q, goodPg q b → (⟨ks, vs, []⟩ : Pg) = q := fun q hq => invL_end hL h66' hq (absurd (hL _ hq).2.2.1 h3)
          have hle : (⟨ks, vs, []⟩ : Pg).le (2^40) := ⟨by simp only; omega, by simp; try omega, by simp; try omega, fun k hk => by have := hsz k hk; omega⟩
          have hpb := specPageBytes_ok ⟨ks, vs, []⟩ hle
          unfold Pg.rd at hpb
          have hno : ¬ goodPg ⟨ks, vs, []⟩ b → ∀ H : Hp, EndQ 0 H (.tu [.ag [.nul, .nul, .nul], Bo false]) (fun r out => r = pgR (pgOf b) ∧ out = pgH (pgOf b)) := fun e H => by
            rw [pgOf_none e hu]
            exact pgNo _ _ ⟨rfl, rfl⟩
          by_cases hok : pageOk ⟨ks, vs, []⟩
          · rw [show pgB ⟨ks, vs, []⟩ = some (sheetB ⟨ks, vs, []⟩) by unfold pgB; rw [if_pos hok]] at hpb
            unfold byR byH byO at hpb
            refine callq_of true [] hpb rfl trivial (by refine vc ?_; exact ⟨hkl.symm, hvl.symm, false, rfl⟩) ?_
            rintro r out ⟨rfl, rfl⟩
            refine vc4 (by simp) (by simp) (by_rs rfl true) ?_
            refine callq_of true [] (l04Same_ok (sheetB ⟨ks, vs, []⟩) b) rfl trivial (vc trivial) ?_
            rintro r out ⟨rfl, rfl⟩
            refine vc4 (by simp) (by simp) (fun _ => ⟨.v _, by simp⟩) ?_
            refine brB_intro (fun hs => hno (fun e => ?_) _) (fun hs => ?_)
            · rw [decide_eq_true e.2] at hs; cases hs
            · have hs : sheetB ⟨ks, vs, []⟩ = b := Classical.byContradiction fun e => by rw [decide_eq_false e] at hs; cases hs
              rw [pgOf_some ⟨hok, hs⟩ hu]
              refine endQ_of [(1, 3), (2, 4), (3, 0)] (.tu [.ag [.sl 1 ks.length, .sl 2 vs.length, .sl 3 0], Bo true]) [some (.rw 9 1 (ks.map stC)), some (.rw 9 1 (vs.map stC)), some (.rw 3 1 [])] (by rfl) (vc ?_) (vc ?_) ⟨rfl, rfl⟩
              · exact ⟨hkl.symm, hvl.symm⟩
              · trivial
          · rw [show pgB ⟨ks, vs, []⟩ = none by unfold pgB; rw [if_neg hok]] at hpb
            unfold byR byH byO at hpb
            refine callq_of true [] hpb rfl trivial (by refine vc ?_; exact ⟨hkl.symm, hvl.symm, false, rfl⟩) ?_
            rintro r out ⟨rfl, rfl⟩
            refine vc4 (by simp) (by simp) (by_rs rfl false) ?_
            exact hno (fun e => hok e.1) _
      · have h2 : ¬ i ≤ 4 := by simp at h2; omega
        have hu : ∀ q, goodPg q b → (⟨ks, vs, []⟩ : Pg) = q := fun q hq => invL_end hL h66' hq (by have := hq4 _ hq; have := (hL _ hq).2.1; omega)
        have hle : (⟨ks, vs, []⟩ : Pg).le (2^40) := ⟨by simp only; omega, by simp; try omega, by simp; try omega, fun k hk => by have := hsz k hk; omega⟩
        have hpb := specPageBytes_ok ⟨ks, vs, []⟩ hle
        unfold Pg.rd at hpb
        have hno : ¬ goodPg ⟨ks, vs, []⟩ b → ∀ H : Hp, EndQ 0 H (.tu [.ag [.nul, .nul, .nul], Bo false]) (fun r out => r = pgR (pgOf b) ∧ out = pgH (pgOf b)) := fun e H => by
          rw [pgOf_none e hu]
          exact pgNo _ _ ⟨rfl, rfl⟩
        by_cases hok : pageOk ⟨ks, vs, []⟩
        · rw [show pgB ⟨ks, vs, []⟩ = some (sheetB ⟨ks, vs, []⟩) by unfold pgB; rw [if_pos hok]] at hpb
          unfold byR byH byO at hpb
          refine callq_of true [] hpb rfl trivial (by refine vc ?_; exact ⟨hkl.symm, hvl.symm, false, rfl⟩) ?_
          rintro r out ⟨rfl, rfl⟩
          refine vc4 (by simp) (by simp) (by_rs rfl true) ?_
          refine callq_of true [] (l04Same_ok (sheetB ⟨ks, vs, []⟩) b) rfl trivial (vc trivial) ?_
          rintro r out ⟨rfl, rfl⟩
          refine vc4 (by simp) (by simp) (fun _ => ⟨.v _, by simp⟩) ?_
          refine brB_intro (fun hs => hno (fun e => ?_) _) (fun hs => ?_)
          · rw [decide_eq_true e.2] at hs; cases hs
          · have hs : sheetB ⟨ks, vs, []⟩ = b := Classical.byContradiction fun e => by rw [decide_eq_false e] at hs; cases hs
            rw [pgOf_some ⟨hok, hs⟩ hu]
            refine endQ_of [(1, 3), (2, 4), (3, 0)] (.tu [.ag [.sl 1 ks.length, .sl 2 vs.length, .sl 3 0], Bo true]) [some (.rw 9 1 (ks.map stC)), some (.rw 9 1 (vs.map stC)), some (.rw 3 1 [])] (by rfl) (vc ?_) (vc ?_) ⟨rfl, rfl⟩
            · exact ⟨hkl.symm, hvl.symm⟩
            · trivial
        · rw [show pgB ⟨ks, vs, []⟩ = none by unfold pgB; rw [if_neg hok]] at hpb
          unfold byR byH byO at hpb
          refine callq_of true [] hpb rfl trivial (by refine vc ?_; exact ⟨hkl.symm, hvl.symm, false, rfl⟩) ?_
          rintro r out ⟨rfl, rfl⟩
          refine vc4 (by simp) (by simp) (by_rs rfl false) ?_
          exact hno (fun e => hok e.1) _
    have h : ¬ (i : Int) < n := by simpa using h
    have hu : ∀ q, goodPg q b → (⟨ks, vs, []⟩ : Pg) = q := fun q hq => invL_end hL h66' hq (by omega)
    have hle : (⟨ks, vs, []⟩ : Pg).le (2^40) := ⟨by simp only; omega, by simp; try omega, by simp; try omega, fun k hk => by have := hsz k hk; omega⟩
    have hpb := specPageBytes_ok ⟨ks, vs, []⟩ hle
    unfold Pg.rd at hpb
    have hno : ¬ goodPg ⟨ks, vs, []⟩ b → ∀ H : Hp, EndQ 0 H (.tu [.ag [.nul, .nul, .nul], Bo false]) (fun r out => r = pgR (pgOf b) ∧ out = pgH (pgOf b)) := fun e H => by
      rw [pgOf_none e hu]
      exact pgNo _ _ ⟨rfl, rfl⟩
    by_cases hok : pageOk ⟨ks, vs, []⟩
    · rw [show pgB ⟨ks, vs, []⟩ = some (sheetB ⟨ks, vs, []⟩) by unfold pgB; rw [if_pos hok]] at hpb
      unfold byR byH byO at hpb
      refine callq_of true [] hpb rfl trivial (by refine vc ?_; exact ⟨hkl.symm, hvl.symm, false, rfl⟩) ?_
      rintro r out ⟨rfl, rfl⟩
      refine vc4 (by simp) (by simp) (by_rs rfl true) ?_
      refine callq_of true [] (l04Same_ok (sheetB ⟨ks, vs, []⟩) b) rfl trivial (vc trivial) ?_
      rintro r out ⟨rfl, rfl⟩
      refine vc4 (by simp) (by simp) (fun _ => ⟨.v _, by simp⟩) ?_
      refine brB_intro (fun hs => hno (fun e => ?_) _) (fun hs => ?_)
      · rw [decide_eq_true e.2] at hs; cases hs
      · have hs : sheetB ⟨ks, vs, []⟩ = b := Classical.byContradiction fun e => by rw [decide_eq_false e] at hs; cases hs
        rw [pgOf_some ⟨hok, hs⟩ hu]
        refine endQ_of [(1, 3), (2, 4), (3, 0)] (.tu [.ag [.sl 1 ks.length, .sl 2 vs.length, .sl 3 0], Bo true]) [some (.rw 9 1 (ks.map stC)), some (.rw 9 1 (vs.map stC)), some (.rw 3 1 [])] (by rfl) (vc ?_) (vc ?_) ⟨rfl, rfl⟩
        · exact ⟨hkl.symm, hvl.symm⟩
        · trivial
    · rw [show pgB ⟨ks, vs, []⟩ = none by unfold pgB; rw [if_neg hok]] at hpb
      unfold byR byH byO at hpb
      refine callq_of true [] hpb rfl trivial (by refine vc ?_; exact ⟨hkl.symm, hvl.symm, false, rfl⟩) ?_
      rintro r out ⟨rfl, rfl⟩
      refine vc4 (by simp) (by simp) (by_rs rfl false) ?_
      exact hno (fun e => hok e.1) _
end Go.Proofs.YtnnmpdanfeejbaaGreat.Abs

/- Metas read, both sides: contracts. -/
namespace Go.Proofs.YtnnmpdanfeejbaaGreat.Abs
open Go Go.Proofs
set_option maxRecDepth 10000
set_option linter.unusedVariables false
set_option linter.unusedSimpArgs false
def horner (l : List UInt8) : Nat := l.foldl (fun a x => a * 256 + x.toNat) 0
theorem horner_snoc (l : List UInt8) (x : UInt8) : horner (l ++ [x]) = horner l * 256 + x.toNat := by simp [horner, List.foldl_append]
theorem horner_lt : ∀ (n : Nat) (l : List UInt8), l.length = n → horner l < 256 ^ n := by
  intro n
  induction n with
  | zero => intro l h; rw [List.length_eq_zero_iff.1 h]; simp [horner]
  | succ n ih =>
    intro l h
    have hne : l ≠ [] := fun e => by rw [e] at h; simp at h
    rw [← List.dropLast_concat_getLast hne, horner_snoc, Nat.pow_succ]
    have := ih l.dropLast (by simp; omega)
    have hx : (l.getLast hne).toNat < 256 := UInt8.toNat_lt _
    have h2 : horner l.dropLast * 256 + 256 ≤ 256 ^ n * 256 := by have := Nat.mul_le_mul_right 256 (show horner l.dropLast + 1 ≤ 256 ^ n from this); omega
    omega
def decG (b : List UInt8) : Nat := horner ((b.drop 1).take 5)
def decR (b : List UInt8) : Nat := (b[6]?.getD 0).toNat * 256 + (b[7]?.getD 0).toNat
noncomputable def mtOf (b : List UInt8) : Option (Nat × Nat) := open Classical in if metaOk (decG b) (decR b) ∧ metaB (decG b) (decR b) = b then some (decG b, decR b) else none
def mtP : Option (Nat × Nat) → Nat × Nat
  | some m => m
  | none => (0, 0)
def mtR (o : Option (Nat × Nat)) : AV := .tu [.ag [In (mtP o).1, In (mtP o).2], Bo o.isSome]
theorem mtOf_no {b : List UInt8} (h : b.length ≠ 512) : mtOf b = none := by
  unfold mtOf
  rw [if_neg]
  rintro ⟨_, e⟩
  exact h (by rw [← e, metaB_len])
theorem mtEnd (o : Option (Nat × Nat)) (H : Hp) : EndQ 0 H (mtR o) (fun x out => x = mtR o ∧ out = []) := EndQ.closed (.tu _ (by simp; exact ⟨.ag _ (by simp; exact ⟨.v _, .v _⟩), .v _⟩)) ⟨rfl, rfl⟩
theorem take_one {l : List UInt8} {i : Nat} {x : UInt8} (h : l[i + 1]? = some x) : (l.drop 1).take (i + 1) = (l.drop 1).take i ++ [x] := by
  rw [List.take_add_one, List.getElem?_drop, show 1 + i = i + 1 by omega, h]; rfl
theorem shlV (x : Int) (hx : 0 ≤ x ∧ x ≤ 1125899906842624) (ky : IntKind) : pureV (Op.shift .shl .i64 x ky 8) = some (.int .i64 (x * 256)) := by
  show some (Value.int .i64 (IntKind.i64.wrap (x * 2 ^ 8))) = _
  rw [show (2 : Int) ^ 8 = 256 from rfl, w64 _ (by omega)]
theorem orV {x y : Int} (hx : 0 ≤ x) (hx2 : x ≤ 1125899906842624) (hy : 0 ≤ y) (hy2 : y < 256) : pureV (Op.intBits .or .i64 (x * 256) y) = some (.int .i64 (x * 256 + y)) := by
  obtain ⟨a, rfl⟩ := Int.eq_ofNat_of_zero_le hx
  obtain ⟨b, rfl⟩ := Int.eq_ofNat_of_zero_le hy
  show some (Value.int .i64 (IntKind.i64.wrap (((BitVec.ofInt 64 ((a : Int) * 256)) ||| (BitVec.ofInt 64 (b : Int))).toNat : Nat))) = _
  have e1 : (BitVec.ofInt 64 ((a : Int) * 256)).toNat = a * 256 := by rw [BitVec.toNat_ofInt]; omega
  have e2 : (BitVec.ofInt 64 (b : Int)).toNat = b := by rw [BitVec.toNat_ofInt]; omega
  have e3 : a * 256 ||| b = a * 256 + b := by
    have := Nat.shiftLeft_add_eq_or_of_lt (i := 8) (show b < 2 ^ 8 by omega) a
    rw [Nat.shiftLeft_eq] at this
    exact this.symm
  rw [BitVec.toNat_or, e1, e2, e3, w64 _ (by omega)]
  simp
theorem specMetaRead_ok (b : List UInt8) (hbl : b.length ≤ 2^40) : CallOk Tryz.prog 93 [] [Rw (eB b)] (fun x out => x = mtR (mtOf b) ∧ out = []) := by
  refine callOk_z (np := 0) {} mixed Tryz.func93 (by rfl) Tryz.ntmps93 Tryz.results93 (by rfl) (Nat.le_of_ble_eq_true rfl) rfl rfl rfl (vc ?_)
  refine brB_intro (fun h => ?_) (fun h => ?_)
  · have h : b.length ≠ 512 := fun e => by rw [e] at h; simp at h
    rw [mtOf_no h]
    exact mtEnd none _
  have hb : b.length = 512 := by simp at h; omega
  refine loopQ_of (fun i => [(0, Rw (eB b)), (2, .pt 1 0 0), (4, .pt 2 0 0), (5, In ((i + 1 : Nat) : Int))]) (fun i => [(1, .box 78 [In 0, In 0]), (2, .box 78 [In (horner ((b.drop 1).take i)), In 0])]) 3 (fun i => 5 - i) (fun i => i ≤ 5) 0 (Nat.zero_le _) [(1, 1), (2, 25)] (by rfl) (vc ?_) (vc ?_) (fun i hi N hN => vc (brB_intro (fun h => ?_) (fun h => ?_)))
  · trivial
  · trivial
  · have h : i < 5 := by simp at h; omega
    have hx := List.getElem?_eq_getElem (show i + 1 < b.length by omega)
    have hlt := horner_lt i ((b.drop 1).take i) (by simp; omega)
    have hp : 256 ^ i ≤ 256 ^ 5 := Nat.pow_le_pow_right (by omega) (by omega)
    have hp5 : 256 ^ 5 = 1099511627776 := by decide
    have hx8 : (b[i + 1]).toNat < 256 := UInt8.toNat_lt _
    have hnx := take_one hx
    refine drawQ_of false (by rfl) (by simp) (vc ?_)
    rw [eB_some hx]
    refine vc ?_
    generalize b[i + 1] = x at hx hx8 hnx ⊢
    generalize hG : horner ((b.drop 1).take i) = G at hlt ⊢
    repeat refine ⟨rfl, ?_⟩
    refine hN _ (i + 1) [(1, 1), (2, 2)] h (by omega) (by rfl) (vc ?_) (vc ?_)
    · rw [w64 _ (by omega)]; simp
    · rw [hnx, horner_snoc, hG, w64 (x.toNat : Int) (by omega), w64 ((G : Int) * 256) (by omega), w64 _ (by omega)]; simp
  · have h : i = 5 := by simp at h; omega
    subst h
    have hx := List.getElem?_eq_getElem (show 6 < b.length by omega)
    have hy := List.getElem?_eq_getElem (show 7 < b.length by omega)
    have hr : decR b = b[6].toNat * 256 + b[7].toNat := by unfold decR; rw [hx, hy]; rfl
    have hx8 : (b[6]).toNat < 256 := UInt8.toNat_lt _
    have hy8 : (b[7]).toNat < 256 := UInt8.toNat_lt _
    refine drawQ_of false (by rfl) (by simp) (vc ?_)
    rw [eB_some hx]
    refine vc ?_
    rw [eB_some hy]
    refine vc ?_
    have hrw : IntKind.i64.wrap (IntKind.i64.wrap (IntKind.i64.wrap (b[6].toNat : Int) * 256) + IntKind.i64.wrap (b[7].toNat : Int)) = ((decR b : Nat) : Int) := by
      rw [w64 (b[6].toNat : Int) (by omega), w64 (b[7].toNat : Int) (by omega), w64 ((b[6].toNat : Int) * 256) (by omega), w64 _ (by omega), hr]; simp
    rw [hrw]
    repeat refine ⟨rfl, ?_⟩
    have hmb := specMetaBytes_ok (decG b) (decR b)
    unfold mtB at hmb
    rw [Int.toNat_natCast, Int.toNat_natCast] at hmb
    by_cases hok : metaOk (decG b) (decR b)
    · rw [if_pos hok] at hmb
      unfold byR byH byO at hmb
      refine callq_of true [] hmb rfl trivial (by refine vc ?_; first | rfl | exact ⟨rfl, rfl⟩ | trivial) ?_
      rintro x out ⟨rfl, rfl⟩
      refine vc4 (by simp) (by simp) (by_rs rfl true) ?_
      refine callq_of true [] (l04Same_ok (metaB (decG b) (decR b)) b) rfl trivial (vc trivial) ?_
      rintro x out ⟨rfl, rfl⟩
      refine vc4 (by simp) (by simp) (fun _ => ⟨.v _, by simp⟩) ?_
      by_cases he : metaB (decG b) (decR b) = b
      · rw [decide_eq_true he]
        refine vc ?_
        rw [show mtOf b = some (decG b, decR b) by unfold mtOf; rw [if_pos ⟨hok, he⟩]]
        exact mtEnd (some (decG b, decR b)) _
      · rw [decide_eq_false he]
        refine vc ?_
        rw [show mtOf b = none by unfold mtOf; rw [if_neg (fun e => he e.2)]]
        exact mtEnd none _
    · rw [if_neg hok] at hmb
      unfold byR byH byO at hmb
      refine callq_of true [] hmb rfl trivial (by refine vc ?_; first | rfl | exact ⟨rfl, rfl⟩ | trivial) ?_
      rintro x out ⟨rfl, rfl⟩
      refine vc4 (by simp) (by simp) (by_rs rfl false) ?_
      rw [show mtOf b = none by unfold mtOf; rw [if_neg (fun e => hok e.1)]]
      exact mtEnd none _
theorem implMetaRead_ok (b : List UInt8) (hbl : b.length ≤ 2^40) : CallOk Tryz.prog 105 [] [Rw (eB b)] (fun x out => x = mtR (mtOf b) ∧ out = []) := by
  refine callOk_z (np := 0) {} mixed Tryz.func105 (by rfl) Tryz.ntmps105 Tryz.results105 (by rfl) (Nat.le_of_ble_eq_true rfl) rfl rfl rfl (vc ?_)
  refine brB_intro (fun h => ?_) (fun h => ?_)
  · have h : b.length ≠ 512 := fun e => by rw [e] at h; simp at h
    rw [mtOf_no h]
    exact mtEnd none _
  have hb : b.length = 512 := by simp at h; omega
  have hx := List.getElem?_eq_getElem (show 6 < b.length by omega)
  have hy := List.getElem?_eq_getElem (show 7 < b.length by omega)
  have hr : decR b = b[6].toNat * 256 + b[7].toNat := by unfold decR; rw [hx, hy]; rfl
  have hx8 : (b[6]).toNat < 256 := UInt8.toNat_lt _
  have hy8 : (b[7]).toNat < 256 := UInt8.toNat_lt _
  refine drawQ_of false (by rfl) (by simp) (vc ?_)
  rw [eB_some hx]
  refine vc ?_
  rw [w64 (b[6].toNat : Int) (by omega), shlV _ (by omega), Option.bind_some]
  refine vc ?_
  rw [eB_some hy]
  refine vc ?_
  have hcast : (((b[6].toNat : Nat) : Int) * (256 : Int)) + ((b[7].toNat : Nat) : Int) = ((decR b : Nat) : Int) := by rw [hr]; omega
  rw [w64 (b[7].toNat : Int) (by omega), orV (by omega) (by omega) (by omega) (by omega), Option.bind_some, hcast]
  refine vc ?_
  repeat refine ⟨rfl, ?_⟩
  rw [if_pos (by omega), Option.bind_some, if_pos (by omega), Option.bind_some, eB_take, eB_drop, List.drop_take]
  have hcl : ((b.drop 1).take (6 - 1)).length = 5 := by simp; omega
  refine vc ?_
  rw [hcl]
  refine loopQ_of (fun i => [(0, Rw (eB b)), (2, .pt 1 0 0), (4, .pt 2 0 0), (25, Rw (eB ((b.drop 1).take (6 - 1)))), (26, In (5 : Nat)), (27, In (i : Nat))]) (fun i => [(1, .box 78 [In 0, In 0]), (2, .box 78 [In (horner ((b.drop 1).take i)), In (decR b)])]) 3 (fun i => 5 - i) (fun i => i ≤ 5) 0 (Nat.zero_le _) [(1, 1), (2, 129)] (by rfl) (vc ?_) (vc ?_) (fun i hi N hN => vc (brB_intro (fun h => ?_) (fun h => ?_)))
  · trivial
  · trivial
  · have h : i < 5 := by simp at h; omega
    have hx := List.getElem?_eq_getElem (show i + 1 < b.length by omega)
    have hx' : ((b.drop 1).take (6 - 1))[i]? = some b[i + 1] := by rw [List.getElem?_take, if_pos (by omega), List.getElem?_drop, show 1 + i = i + 1 by omega, hx]
    have hlt := horner_lt i ((b.drop 1).take i) (by simp; omega)
    have hp : 256 ^ i ≤ 256 ^ 5 := Nat.pow_le_pow_right (by omega) (by omega)
    have hp5 : 256 ^ 5 = 1099511627776 := by decide
    have hx8 : (b[i + 1]).toNat < 256 := UInt8.toNat_lt _
    have hnx := take_one hx
    rw [eB_some hx']
    refine vc ?_
    generalize b[i + 1] = x at hx hx' hx8 hnx ⊢
    generalize hG : horner ((b.drop 1).take i) = G at hlt ⊢
    rw [shlV (G : Int) (by omega), Option.bind_some]
    refine vc ?_
    rw [w64 (x.toNat : Int) (by omega), orV (by omega) (by omega) (by omega) (by omega), Option.bind_some]
    refine vc ?_
    refine hN _ (i + 1) [(1, 1), (2, 2)] h (by omega) (by rfl) (vc ?_) (vc ?_)
    · rw [w64 _ (by omega)]; simp
    · rw [hnx, horner_snoc, hG]; simp
  · have h : i = 5 := by simp at h; omega
    subst h
    have hmb := implMetaBytes_ok (decG b) (decR b)
    unfold mtB at hmb
    rw [Int.toNat_natCast, Int.toNat_natCast] at hmb
    by_cases hok : metaOk (decG b) (decR b)
    · rw [if_pos hok] at hmb
      unfold byR byH byO at hmb
      refine callq_of true [] hmb rfl trivial (by refine vc ?_; first | rfl | exact ⟨rfl, rfl⟩ | trivial) ?_
      rintro x out ⟨rfl, rfl⟩
      refine vc4 (by simp) (by simp) (by_rs rfl true) ?_
      rw [bk_get]
      by_cases he : metaB (decG b) (decR b) = b
      · rw [decide_eq_false (fun e => e he)]
        refine vc ?_
        rw [show mtOf b = some (decG b, decR b) by unfold mtOf; rw [if_pos ⟨hok, he⟩]]
        exact mtEnd (some (decG b, decR b)) _
      · rw [decide_eq_true he]
        refine vc ?_
        rw [show mtOf b = none by unfold mtOf; rw [if_neg (fun e => he e.2)]]
        exact mtEnd none _
    · rw [if_neg hok] at hmb
      unfold byR byH byO at hmb
      refine callq_of true [] hmb rfl trivial (by refine vc ?_; first | rfl | exact ⟨rfl, rfl⟩ | trivial) ?_
      rintro x out ⟨rfl, rfl⟩
      refine vc4 (by simp) (by simp) (by_rs rfl false) ?_
      rw [show mtOf b = none by unfold mtOf; rw [if_neg (fun e => hok e.1)]]
      exact mtEnd none _
end Go.Proofs.YtnnmpdanfeejbaaGreat.Abs

/- Disks that are synced; operations done one by one: both by the same words. -/
namespace Go.Proofs.YtnnmpdanfeejbaaGreat.Abs
open Go Go.Proofs
set_option maxRecDepth 10000
set_option linter.unusedVariables false
set_option linter.unusedSimpArgs false
theorem Dk.ok.fits {d : Dk} (h : d.ok) : d.fits (2^40) := by
  obtain ⟨h1, h2, h3⟩ := h
  refine ⟨by omega, fun x hx => ?_, by omega, fun x hx => ?_⟩
  · rcases h2 x hx with e | e <;> omega
  · have := (h3 x hx).2; omega
end Go.Proofs.YtnnmpdanfeejbaaGreat.Abs

/- Sheets read, both sides: contracts. -/
namespace Go.Proofs.YtnnmpdanfeejbaaGreat.Abs
open Go Go.Proofs
set_option maxRecDepth 10000
set_option linter.unusedVariables false
set_option linter.unusedSimpArgs false
/-- What was written last onto a sheet. -/
def lastW (a : Int) : List (Int × List UInt8) → List UInt8 → List UInt8
  | [], b => b
  | w :: r, b => lastW a r (if w.1 = a then w.2 else b)
theorem lastW_snoc (a : Int) (w : Int × List UInt8) : ∀ (l : List (Int × List UInt8)) (b : List UInt8), lastW a (l ++ [w]) b = if w.1 = a then w.2 else lastW a l b
  | [], b => rfl
  | x :: l, b => by rw [List.cons_append, lastW, lastW_snoc a w l, lastW]
def rdD (d : Dk) (a : Nat) : List UInt8 := sheet (lastW a d.wr (d.sh[a]?.getD []))
theorem lastW_mem (a : Int) : ∀ (l : List (Int × List UInt8)) (b : List UInt8), lastW a l b = b ∨ ∃ w ∈ l, lastW a l b = w.2
  | [], b => .inl rfl
  | w :: r, b => by
    rw [lastW]
    rcases lastW_mem a r (if w.1 = a then w.2 else b) with e | ⟨v, hv, e⟩
    · rw [e]
      split
      · exact .inr ⟨w, List.mem_cons_self .., rfl⟩
      · exact .inl rfl
    · exact .inr ⟨v, List.mem_cons_of_mem _ hv, e⟩
theorem rdD_len {d : Dk} (h : d.ok) {a : Nat} (ha : a < d.sh.length) : (rdD d a).length = 512 := by
  have hx := List.getElem?_eq_getElem ha
  have h1 := h.2.1 _ (List.getElem_mem ha)
  unfold rdD sheet
  rw [hx, Option.getD_some]
  split
  · simp
  · rename_i hne
    rcases lastW_mem a d.wr d.sh[a] with e | ⟨w, hw, e⟩
    · rw [e] at hne ⊢
      rcases h1 with h1 | h1
      · exact absurd (List.length_eq_zero_iff.1 h1) hne
      · exact h1
    · rw [e]; exact (h.2.2 w hw).2
theorem diskRead_ok (d : Dk) (hd : d.fits (2^40)) (a : Nat) (ha : a < d.sh.length) : CallOk Tryz.prog 106 [] [.c (.ptr [.row false (d.sh.map (shC false)), .row false (d.wr.map (wrC false))] 0), In a] (fun r out => r = .sl 1 (rdD d a).length ∧ out = [some (.rw 5 1 (eB (rdD d a)))]) := by
  obtain ⟨hf1, hf2, hf3, hf4⟩ := hd
  obtain ⟨sh, wr⟩ := d
  simp only at hf1 hf2 hf3 hf4 ha ⊢
  refine callOk_z (np := 0) {} mixed Tryz.func106 (by rfl) Tryz.ntmps106 Tryz.results106 (by rfl) (Nat.le_of_ble_eq_true rfl) rfl rfl rfl (vc ?_)
  have hx := List.getElem?_eq_getElem ha
  have hxl := hf2 _ (List.getElem_mem ha)
  have hr : rdD ⟨sh, wr⟩ a = sheet (lastW a wr sh[a]) := by unfold rdD; simp only [hx, Option.getD_some]
  rw [hr]
  rw [get_map hx, shC]
  refine vc ?_
  refine loopQ_of (ι := Nat × List UInt8) (fun i => [(1, In a), (5, Rw (eB i.2)), (19, Rw (wr.map (wrC false))), (20, In wr.length), (21, In (i.1 : Nat))]) (fun i => []) 1 (fun i => wr.length - i.1) (fun i => i.1 ≤ wr.length ∧ i.2.length ≤ 2^40 ∧ lastW a (wr.drop i.1) i.2 = lastW a wr sh[a]) (0, sh[a]) ⟨Nat.zero_le _, hxl, rfl⟩ [] (by rfl) (vc ?_) (vc ?_) (fun i hi N hN => ?_)
  · trivial
  · trivial
  obtain ⟨i, cur⟩ := i
  obtain ⟨hi, hcl, hL⟩ := hi
  simp only at hi hcl hL hN
  refine vc (brB_intro (fun h => ?_) (fun h => ?_))
  · have h : i < wr.length := by simpa using h
    have hw := List.getElem?_eq_getElem h
    have hwl := hf4 _ (List.getElem_mem h)
    rw [List.drop_eq_getElem_cons h, lastW] at hL
    rw [get_map hw, wrC]
    refine vc ?_
    refine brB_intro (fun h1 => ?_) (fun h1 => ?_)
    · have h1 : wr[i].1 = a := by simpa using h1
      rw [if_pos h1] at hL
      refine hN _ (i + 1, wr[i].2) [] ⟨h, hwl, hL⟩ (by show wr.length - (i + 1) < wr.length - i; omega) (by rfl) (vc ?_) (vc trivial)
      rw [w64 _ (by omega)]; simp
    · have h1 : ¬ wr[i].1 = a := by simpa using h1
      rw [if_neg h1] at hL
      refine hN _ (i + 1, cur) [] ⟨h, hcl, hL⟩ (by show wr.length - (i + 1) < wr.length - i; omega) (by rfl) (vc ?_) (vc trivial)
      rw [w64 _ (by omega)]; simp
  · have h : i = wr.length := by simp at h; omega
    subst h
    rw [List.drop_length, lastW] at hL
    rw [← hL]
    refine brB_intro (fun h1 => ?_) (fun h1 => ?_)
    · have h1 : cur = [] := List.length_eq_zero_iff.1 (by simp at h1; simp [h1])
      subst h1
      obtain ⟨Z, hZ, hZl, hZe⟩ : ∃ Z : List UInt8, sheet [] = Z ∧ Z.length = 512 ∧ List.replicate 512 [CV.v (.int .u8 0)] = eB Z := ⟨List.replicate 512 0, by unfold sheet; rw [if_pos rfl], by simp, eB_zeros 512⟩
      rw [hZ, hZe]
      refine endQ_of [(1, 33)] (.sl 1 Z.length) [some (.rw 5 1 (eB Z))] (by rfl) (vc ?_) (vc trivial) ⟨rfl, rfl⟩
      exact hZl.symm
    · have h1 : cur ≠ [] := fun e => by rw [e] at h1; simp at h1
      refine callq_of false [] (copyBytes_ok cur hcl) rfl trivial (vc trivial) ?_
      rintro r out ⟨rfl, rfl⟩
      refine vc4 (by simp) (by simp) (by simp) ?_
      rw [show sheet cur = cur by unfold sheet; rw [if_neg h1]]
      exact endQ_of [(1, 41)] (.sl 1 cur.length) [some (.rw 5 1 (eB cur))] (by rfl) (vc trivial) (vc trivial) ⟨rfl, rfl⟩
noncomputable def dkO (d : Dk) (a : Int) : Option (List UInt8) := open Classical in if d.ok ∧ 0 ≤ a ∧ a < d.sh.length then some (rdD d a.toNat) else none
theorem specDiskRead_ok (d : Dk) (hd : d.fits (2^40)) (a : Int) : CallOk Tryz.prog 92 [] [d.rd, In a] (fun r out => r = byR (dkO d a) ∧ out = byH (dkO d a)) := by
  have hdk := specDiskOk_ok d hd
  obtain ⟨hf1, hf2, hf3, hf4⟩ := hd
  obtain ⟨sh, wr⟩ := d
  simp only at hf1 hf2 hf3 hf4
  unfold Dk.rd at hdk ⊢
  refine callOk_z (np := 0) {} mixed Tryz.func92 (by rfl) Tryz.ntmps92 Tryz.results92 (by rfl) (Nat.le_of_ble_eq_true rfl) rfl rfl rfl (vc ?_)
  have hno : ¬ ((⟨sh, wr⟩ : Dk).ok ∧ 0 ≤ a ∧ a < sh.length) → ∀ H : Hp, EndQ 0 H (.tu [.nul, Bo false]) (fun r out => r = byR (dkO ⟨sh, wr⟩ a) ∧ out = byH (dkO ⟨sh, wr⟩ a)) := fun e H => by
    unfold dkO
    rw [if_neg e]
    exact byNo _ _ ⟨rfl, rfl⟩
  refine callq_of false [] hdk rfl trivial (vc trivial) ?_
  rintro r out ⟨rfl, rfl⟩
  refine vc4 (by simp) (by simp) (by simp) ?_
  by_cases hok : (⟨sh, wr⟩ : Dk).ok
  case neg =>
    rw [tf_false hok]
    refine vc ?_
    exact hno (fun e => hok e.1) _
  rw [tf_true hok]
  refine vc ?_
  refine brB_intro (fun h => hno (fun e => by simp at h; omega) _) (fun h => ?_)
  refine brB_intro (fun h' => hno (fun e => by simp at h'; omega) _) (fun h' => ?_)
  obtain ⟨a, rfl⟩ : ∃ m : Nat, a = m := ⟨a.toNat, by simp at h; omega⟩
  have ha : a < sh.length := by simp at h'; omega
  have hlen := rdD_len hok ha
  have hres : dkO ⟨sh, wr⟩ (a : Nat) = some (rdD ⟨sh, wr⟩ a) := by unfold dkO; rw [if_pos ⟨hok, by omega, by simp only; omega⟩, Int.toNat_natCast]
  rw [hres]
  clear hno hres
  have hx := List.getElem?_eq_getElem ha
  have hxl := hf2 _ (List.getElem_mem ha)
  have hr : rdD ⟨sh, wr⟩ a = sheet (lastW a wr sh[a]) := by unfold rdD; simp only [hx, Option.getD_some]
  rw [hr] at hlen ⊢
  rw [w64 _ (by omega)]
  refine loopQ_of (fun j => [(1, In a), (2, .pt 1 0 0), (6, In ((j : Nat) - 1))]) (fun j => [(1, .box 30 [Rw (sh.map (shC false)), Rw (wr.map (wrC false))])]) 2 (fun j => j) (fun j => j ≤ wr.length ∧ lastW a wr sh[a] = lastW a (wr.take j) sh[a]) wr.length ⟨Nat.le_refl _, by rw [List.take_length]⟩ [(1, 1)] (by rfl) (vc ?_) (vc ?_) (fun j hj N hN => ?_)
  · trivial
  · trivial
  obtain ⟨hj, hL⟩ := hj
  refine vc (brB_intro (fun h => ?_) (fun h => ?_))
  · obtain ⟨i, rfl⟩ : ∃ i, j = i + 1 := ⟨j - 1, by simp at h; omega⟩
    have h : i < wr.length := by omega
    have hw := List.getElem?_eq_getElem h
    have hwl := hf4 _ (List.getElem_mem h)
    have hwo := hok.2.2 _ (List.getElem_mem h)
    rw [List.take_add_one, hw, show (some wr[i]).toList = [wr[i]] from rfl, lastW_snoc] at hL
    rw [show (((i + 1 : Nat) : Int) - 1) = ((i : Nat) : Int) by omega]
    refine vc ?_
    rw [get_map hw, wrC]
    refine vc ?_
    refine brB_intro (fun h1 => ?_) (fun h1 => ?_)
    · have h1 : wr[i].1 = a := by simpa using h1
      rw [if_pos h1] at hL
      rw [get_map hw, wrC]
      refine vc ?_
      refine ⟨⟨by unfold maxLen; omega, by omega⟩, ?_⟩
      have hne : wr[i].2 ≠ [] := fun e => by have := hwo.2; rw [e] at this; simp at this
      rw [hL, show sheet wr[i].2 = wr[i].2 by unfold sheet; rw [if_neg hne]]
      exact endQ_of [(1, 138)] (.tu [.sl 1 wr[i].2.length, Bo true]) [some (.rw 5 1 (eB wr[i].2))] (by rfl) (vc trivial) (vc trivial) ⟨rfl, rfl⟩
    · have h1 : ¬ wr[i].1 = a := by simpa using h1
      rw [if_neg h1] at hL
      refine hN _ i [(1, 1)] ⟨by omega, hL⟩ (by omega) (by rfl) (vc ?_) (vc trivial)
      rw [w64 _ (by omega)]
  · have h : j = 0 := by simp at h; omega
    subst h
    rw [List.take_zero, lastW] at hL
    rw [hL] at hlen ⊢
    rw [get_map hx, shC]
    refine vc ?_
    refine callq_of false [] (l04Sheet_ok sh[a] hxl) rfl trivial (vc trivial) ?_
    rintro r out ⟨rfl, rfl⟩
    refine vc4 (by simp) (by simp) (by simp) ?_
    rw [hlen]
    refine endQ_of [(1, 66)] (.tu [.sl 1 (sheet sh[a]).length, Bo true]) [some (.rw 5 1 (eB (sheet sh[a])))] (by rfl) (vc ?_) (vc ?_) ⟨rfl, rfl⟩
    · exact hlen.symm
    · trivial
end Go.Proofs.YtnnmpdanfeejbaaGreat.Abs

/- The last meta of a disk, both sides: contracts. -/
namespace Go.Proofs.YtnnmpdanfeejbaaGreat.Abs
open Go Go.Proofs
set_option maxRecDepth 10000
set_option linter.unusedVariables false
set_option linter.unusedSimpArgs false
def mtStep (b : Nat × Nat) (a : Nat) : Option (Nat × Nat) → Nat × Nat
  | some m => if m.1 % 2 = a ∧ b.1 < m.1 then m else b
  | none => b
noncomputable def mtSt (d : Dk) : Nat → Nat × Nat
  | 0 => (0, 0)
  | i + 1 => mtStep (mtSt d i) i (mtOf (rdD d i))
noncomputable def mtD (d : Dk) : Nat × Nat := open Classical in if d.ok then mtSt d 2 else (0, 0)
theorem mtOf_le {b : List UInt8} {m : Nat × Nat} (h : mtOf b = some m) : (1 ≤ m.1 ∧ m.1 ≤ 1099511627775) ∧ m.2 ≤ 399 := by
  unfold mtOf at h
  split at h
  · rename_i hk
    cases h
    have h1 := hk.1.1
    have h2 := hk.1.2
    simp only
    omega
  · cases h
theorem mtSt_le (d : Dk) : ∀ i, (mtSt d i).1 ≤ 1099511627775 ∧ (mtSt d i).2 ≤ 399
  | 0 => by simp [mtSt]
  | i + 1 => by
    have ih := mtSt_le d i
    rw [mtSt]
    cases h : mtOf (rdD d i) with
    | none => exact ih
    | some m =>
      have := mtOf_le h
      rw [mtStep]
      split
      · omega
      · exact ih
theorem mt_rs (o : Option (Nat × Nat)) : true = true → Rs true 0 (mtR o) ∧ ∀ ob, some ob ∈ ([] : List (Option Ob)) → RsOb true 0 ob := fun _ => ⟨.tu _ (by simp; exact ⟨.ag _ (by simp; exact ⟨.v _, .v _⟩), .v _⟩), by simp⟩
def mtE (m : Nat × Nat) : AV := .tu [.ag [In m.1, In m.2], Bo (decide ((0 : Int) < m.1))]
theorem mtE_end (m : Nat × Nat) (H : Hp) : EndQ 0 H (mtE m) (fun x out => x = mtE m ∧ out = []) := EndQ.closed (.tu _ (by simp; exact ⟨.ag _ (by simp; exact ⟨.v _, .v _⟩), .v _⟩)) ⟨rfl, rfl⟩
theorem view_two {bor : Bool} {H : Hp} {ps : List Nat} (a b : CV) : ∀ (i : Nat) (c : AV) (c' : CV), [AV.c a, AV.c b][i]? = some c → [a, b][i]? = some c' → View bor H ps c (.c c') := by
  intro i c c' h h'
  match i with
  | 0 => simp at h h'; subst h h'; exact .same _
  | 1 => simp at h h'; subst h h'; exact .same _
  | n + 2 => simp at h
theorem specDiskMeta_ok (d : Dk) (hd : d.fits (2^40)) : CallOk Tryz.prog 41 [] [d.rd] (fun x out => x = mtE (mtD d) ∧ out = []) := by
  have hdr := specDiskRead_ok d hd
  unfold Dk.rd at *
  refine callOk_z (np := 0) {} mixed Tryz.func41 (by rfl) Tryz.ntmps41 Tryz.results41 (by rfl) (Nat.le_of_ble_eq_true rfl) rfl rfl rfl (vc ?_)
  unfold mtD
  by_cases hok : d.ok
  case neg =>
    rw [if_neg hok]
    have hnone : ∀ a, dkO d a = none := fun a => by unfold dkO; rw [if_neg (fun e => hok e.1)]
    refine loopQ_of (fun i => [(1, .pt 1 0 0), (2, .pt 2 0 0), (4, .pt 3 0 0), (5, In (i : Nat))]) (fun i => [(1, .box 30 [Rw (d.sh.map (shC false)), Rw (d.wr.map (wrC false))]), (2, .box 78 [In 0, In 0]), (3, .box 78 [In ((0, 0) : Nat × Nat).1, In ((0, 0) : Nat × Nat).2])]) 4 (fun i => 2 - i) (fun i => i ≤ 2) 0 (Nat.zero_le _) [(1, 1), (2, 9), (3, 33)] (by rfl) (vc ?_) (vc ?_) (fun i hi N hN => vc (brB_intro (fun h => ?_) (fun h => ?_)))
    · trivial
    · trivial
    · have h : i < 2 := by simp at h; omega
      have hc := hdr (i : Nat)
      rw [hnone] at hc
      unfold byR byH byO at hc
      refine callq_of false [] hc rfl trivial (vc trivial) ?_
      rintro x out ⟨rfl, rfl⟩
      refine vc4 (by simp) (by simp) (by simp) ?_
      have hmr := specMetaRead_ok [] (by simp)
      have hrs := mt_rs none
      rw [mtOf_no (by simp)] at hmr
      simp only [mtR, mtP, Option.isSome_none] at hmr hrs
      refine callq_of true [] hmr rfl trivial (vc trivial) ?_
      rintro x out ⟨rfl, rfl⟩
      refine vc4 (by simp) (by simp) (fun _ => hrs trivial) ?_
      refine hN _ (i + 1) [(1, 1), (2, 2), (3, 3)] h (by omega) (by rfl) (vc ?_) (vc trivial)
      rw [w64 _ (by omega)]; simp
    · refine drawQ_of false (by rfl) (by simp) (vc ?_)
      repeat refine ⟨rfl, ?_⟩
      exact mtE_end (0, 0) _
  rw [if_pos hok]
  refine loopQ_of (fun i => [(1, .pt 1 0 0), (2, .pt 2 0 0), (4, .pt 3 0 0), (5, In (i : Nat))]) (fun i => [(1, .box 30 [Rw (d.sh.map (shC false)), Rw (d.wr.map (wrC false))]), (2, .box 78 [In 0, In 0]), (3, .box 78 [In (mtSt d i).1, In (mtSt d i).2])]) 4 (fun i => 2 - i) (fun i => i ≤ 2) 0 (Nat.zero_le _) [(1, 1), (2, 9), (3, 33)] (by rfl) (vc ?_) (vc ?_) (fun i hi N hN => vc (brB_intro (fun h => ?_) (fun h => ?_)))
  · trivial
  · trivial
  · have h : i < 2 := by simp at h; omega
    have hst := mtSt_le d i
    have hnx : mtSt d (i + 1) = mtStep (mtSt d i) i (mtOf (rdD d i)) := rfl
    have hlen := rdD_len hok (show i < d.sh.length by have := hok.1.1; omega)
    have hc := hdr (i : Nat)
    rw [show dkO d (i : Nat) = some (rdD d i) by unfold dkO; rw [if_pos ⟨hok, by omega, by have := hok.1.1; omega⟩, Int.toNat_natCast]] at hc
    unfold byR byH byO at hc
    refine callq_of false [] hc rfl trivial (vc trivial) ?_
    rintro x out ⟨rfl, rfl⟩
    refine vc4 (by simp) (by simp) (by simp) ?_
    have hmr := specMetaRead_ok (rdD d i) (by omega)
    generalize mtSt d i = B at hst hnx ⊢
    cases hm : mtOf (rdD d i) with
    | none =>
      rw [hm, mtStep] at hnx
      have hrs := mt_rs none
      rw [hm] at hmr
      simp only [mtR, mtP, Option.isSome_none] at hmr hrs
      refine callq_of true [] hmr rfl trivial (vc trivial) ?_
      rintro x out ⟨rfl, rfl⟩
      refine vc4 (by simp) (by simp) (fun _ => hrs trivial) ?_
      refine hN _ (i + 1) [(1, 1), (2, 2), (3, 3)] h (by omega) (by rfl) (vc ?_) (vc ?_)
      · rw [w64 _ (by omega)]; simp
      · rw [hnx]; exact ⟨rfl, rfl⟩
    | some m =>
      have hml := mtOf_le hm
      rw [hm, mtStep] at hnx
      have hrs := mt_rs (some m)
      rw [hm] at hmr
      simp only [mtR, mtP, Option.isSome_some] at hmr hrs
      refine callq_of true [] hmr rfl trivial (vc trivial) ?_
      rintro x out ⟨rfl, rfl⟩
      refine vc4 (by simp) (by simp) (fun _ => hrs trivial) ?_
      rw [show ((m.1 : Nat) : Int).tmod 2 = ((m.1 % 2 : Nat) : Int) from rfl]
      refine brB_intro (fun h1 => ?_) (fun h1 => ?_)
      · have h1 : m.1 % 2 = i := by simp at h1; omega
        refine brB_intro (fun h2 => ?_) (fun h2 => ?_)
        · have h2 : B.1 < m.1 := by simp at h2; omega
          rw [if_pos ⟨h1, h2⟩] at hnx
          refine hN _ (i + 1) [(1, 1), (2, 2), (3, 3)] h (by omega) (by rfl) (vc ?_) (vc ?_)
          · rw [w64 _ (by omega)]; simp
          · rw [hnx]; exact ⟨rfl, rfl⟩
        · have h2 : ¬ B.1 < m.1 := by simp at h2; omega
          rw [if_neg (fun e => h2 e.2)] at hnx
          refine hN _ (i + 1) [(1, 1), (2, 2), (3, 3)] h (by omega) (by rfl) (vc ?_) (vc ?_)
          · rw [w64 _ (by omega)]; simp
          · rw [hnx]; exact ⟨rfl, rfl⟩
      · have h1 : ¬ m.1 % 2 = i := by simp at h1; omega
        rw [if_neg (fun e => h1 e.1)] at hnx
        refine hN _ (i + 1) [(1, 1), (2, 2), (3, 3)] h (by omega) (by rfl) (vc ?_) (vc ?_)
        · rw [w64 _ (by omega)]; simp
        · rw [hnx]; exact ⟨rfl, rfl⟩
  · have h : i = 2 := by simp at h; omega
    subst h
    refine drawQ_of false (by rfl) (by simp) (vc ?_)
    repeat refine ⟨rfl, ?_⟩
    exact mtE_end (mtSt d 2) _
theorem implDiskMeta_ok (d : Dk) (hd : d.fits (2^40)) : CallOk Tryz.prog 48 [] [d.rd] (fun x out => x = mtE (mtD d) ∧ out = []) := by
  have hdk := implDiskOk_ok d hd
  have hdr := diskRead_ok d hd
  unfold Dk.rd at *
  refine callOk_z (np := 0) {} mixed Tryz.func48 (by rfl) Tryz.ntmps48 Tryz.results48 (by rfl) (Nat.le_of_ble_eq_true rfl) rfl rfl rfl (vc ?_)
  unfold mtD
  refine callq_of false [] hdk rfl trivial (vc trivial) ?_
  rintro r out ⟨rfl, rfl⟩
  refine vc4 (by simp) (by simp) (by simp) ?_
  by_cases hok : d.ok
  case neg =>
    rw [tf_false hok, if_neg hok]
    refine vc ?_
    exact mtE_end (0, 0) _
  rw [tf_true hok, if_pos hok]
  refine vc ?_
  refine loopQ_of (fun i => [(1, .pt 1 0 0), (2, .pt 2 0 0), (4, .pt 3 0 0), (13, In (i : Nat))]) (fun i => [(1, .box 30 [Rw (d.sh.map (shC false)), Rw (d.wr.map (wrC false))]), (2, .box 78 [In 0, In 0]), (3, .box 78 [In (mtSt d i).1, In (mtSt d i).2])]) 4 (fun i => 2 - i) (fun i => i ≤ 2) 0 (Nat.zero_le _) [(1, 1), (2, 9), (3, 57)] (by rfl) (vc ?_) (vc ?_) (fun i hi N hN => vc (brB_intro (fun h => ?_) (fun h => ?_)))
  · trivial
  · trivial
  · have h : i < 2 := by simp at h; omega
    have hst := mtSt_le d i
    have hnx : mtSt d (i + 1) = mtStep (mtSt d i) i (mtOf (rdD d i)) := rfl
    have hlen := rdD_len hok (show i < d.sh.length by have := hok.1.1; omega)
    refine callq_of true [] (hdr i (by have := hok.1.1; omega)) rfl trivial (by refine vc ?_; exact .inr ⟨_, _, _, rfl, rfl, rfl, view_two _ _⟩) ?_
    rintro x out ⟨rfl, rfl⟩
    refine vc4 (by simp) (by simp) (fun _ => ⟨.sl 1 _ (by omega) (by simp), by intro ob h; simp at h; subst h; exact .inr (own_eB _)⟩) ?_
    have hmr := implMetaRead_ok (rdD d i) (by omega)
    generalize mtSt d i = B at hst hnx ⊢
    cases hm : mtOf (rdD d i) with
    | none =>
      rw [hm, mtStep] at hnx
      have hrs := mt_rs none
      rw [hm] at hmr
      simp only [mtR, mtP, Option.isSome_none] at hmr hrs
      refine callq_of true [] hmr rfl trivial (vc trivial) ?_
      rintro x out ⟨rfl, rfl⟩
      refine vc4 (by simp) (by simp) (fun _ => hrs trivial) ?_
      refine hN _ (i + 1) [(1, 1), (2, 2), (3, 3)] h (by omega) (by rfl) (vc ?_) (vc ?_)
      · rw [w64 _ (by omega)]; simp
      · rw [hnx]; exact ⟨rfl, rfl⟩
    | some m =>
      have hml := mtOf_le hm
      rw [hm, mtStep] at hnx
      have hrs := mt_rs (some m)
      rw [hm] at hmr
      simp only [mtR, mtP, Option.isSome_some] at hmr hrs
      refine callq_of true [] hmr rfl trivial (vc trivial) ?_
      rintro x out ⟨rfl, rfl⟩
      refine vc4 (by simp) (by simp) (fun _ => hrs trivial) ?_
      rw [show ((m.1 : Nat) : Int).tmod 2 = ((m.1 % 2 : Nat) : Int) from rfl]
      refine brB_intro (fun h1 => ?_) (fun h1 => ?_)
      · have h1 : m.1 % 2 = i := by simp at h1; omega
        refine brB_intro (fun h2 => ?_) (fun h2 => ?_)
        · have h2 : B.1 < m.1 := by simp at h2; omega
          rw [if_pos ⟨h1, h2⟩] at hnx
          refine hN _ (i + 1) [(1, 1), (2, 2), (3, 3)] h (by omega) (by rfl) (vc ?_) (vc ?_)
          · rw [w64 _ (by omega)]; simp
          · rw [hnx]; exact ⟨rfl, rfl⟩
        · have h2 : ¬ B.1 < m.1 := by simp at h2; omega
          rw [if_neg (fun e => h2 e.2)] at hnx
          refine hN _ (i + 1) [(1, 1), (2, 2), (3, 3)] h (by omega) (by rfl) (vc ?_) (vc ?_)
          · rw [w64 _ (by omega)]; simp
          · rw [hnx]; exact ⟨rfl, rfl⟩
      · have h1 : ¬ m.1 % 2 = i := by simp at h1; omega
        rw [if_neg (fun e => h1 e.1)] at hnx
        refine hN _ (i + 1) [(1, 1), (2, 2), (3, 3)] h (by omega) (by rfl) (vc ?_) (vc ?_)
        · rw [w64 _ (by omega)]; simp
        · rw [hnx]; exact ⟨rfl, rfl⟩
  · have h : i = 2 := by simp at h; omega
    subst h
    refine drawQ_of false (by rfl) (by simp) (vc ?_)
    repeat refine ⟨rfl, ?_⟩
    exact mtE_end (mtSt d 2) _
end Go.Proofs.YtnnmpdanfeejbaaGreat.Abs

/- New disks; what is read of a synced one. -/
namespace Go.Proofs.YtnnmpdanfeejbaaGreat.Abs
open Go Go.Proofs
set_option maxRecDepth 10000
set_option linter.unusedVariables false
set_option linter.unusedSimpArgs false
end Go.Proofs.YtnnmpdanfeejbaaGreat.Abs

/- The reference: one node or another; trees laid out. -/
namespace Go.Proofs.YtnnmpdanfeejbaaGreat.Abs
open Go Go.Proofs
set_option maxRecDepth 10000
set_option linter.unusedVariables false
set_option linter.unusedSimpArgs false
/-- A node, handed over to be read. -/
def Nd.rd (n : Nd) : AV := .ag [Rw (n.ps.map prC), Rw (n.ks.map stC), Rw (n.cs.map inC)]
def Nd.le (n : Nd) (b : Nat) : Prop := n.ps.length ≤ b ∧ n.ks.length ≤ b ∧ n.cs.length ≤ b
theorem ba_ext {a b : ByteArray} (h : a.toList = b.toList) : a = b := by
  refine (ba_ne a b).1 ?_
  rw [h]; simp
theorem pr_ext {p q : Pr} (h1 : p.k = q.k) (h2 : p.v = q.v) : p = q := by
  cases p; cases q; simp at h1 h2; rw [h1, h2]
theorem sameNode_ok (a b : Nd) (ha : a.le (2^40)) (hb : b.le (2^40)) : CallOk Tryz.prog 101 [] [a.rd, b.rd] (fun r out => r = Bo (decide (a = b)) ∧ out = []) := by
  obtain ⟨p1, k1, c1⟩ := a
  obtain ⟨p2, k2, c2⟩ := b
  obtain ⟨a1, a2, a3⟩ := ha
  obtain ⟨b1, b2, b3⟩ := hb
  simp only at a1 a2 a3 b1 b2 b3
  unfold Nd.rd
  refine callOk_z (np := 0) {} mixed Tryz.func101 (by rfl) Tryz.ntmps101 Tryz.results101 (by rfl) (Nat.le_of_ble_eq_true rfl) rfl rfl rfl (vc ?_)
  have hno : ∀ H : Hp, (p1 ≠ p2 ∨ k1 ≠ k2 ∨ c1 ≠ c2) → EndQ 0 H (Bo false) (fun r out => r = Bo (decide (Nd.mk p1 k1 c1 = Nd.mk p2 k2 c2)) ∧ out = []) := fun H e => EndQ.closed (.v _) ⟨by
    rw [decide_eq_false]
    intro e2
    cases e2
    simp at e, rfl⟩
  refine brB_intro (fun h => hno _ (.inl (fun e => by subst e; simp at h))) (fun h1 => brB_intro (fun h => hno _ (.inr (.inl (fun e => by subst e; simp at h)))) (fun h2 => brB_intro (fun h => hno _ (.inr (.inr (fun e => by subst e; simp at h)))) (fun h3 => ?_)))
  have h1 : p1.length = p2.length := by simp at h1; omega
  have h2 : k1.length = k2.length := by simp at h2; omega
  have h3 : c1.length = c2.length := by simp at h3; omega
  refine loopQ_of (fun i => [(2, .pt 1 0 0), (3, .pt 2 0 0), (35, In p1.length), (36, In (i : Nat))]) (fun i => [(1, .box 111 [Rw (p1.map prC), Rw (k1.map stC), Rw (c1.map inC)]), (2, .box 111 [Rw (p2.map prC), Rw (k2.map stC), Rw (c2.map inC)])]) 3 (fun i => p1.length - i) (fun i => i ≤ p1.length ∧ p1.take i = p2.take i) 0 ⟨Nat.zero_le _, rfl⟩ [(2, 9)] (by rfl) (vc trivial) (vc trivial) (fun i hi N hN => vc (brB_intro (fun h => ?_) (fun h => ?_)))
  · have h : i < p1.length := by simpa using h
    have hx := List.getElem?_eq_getElem h
    have hy := List.getElem?_eq_getElem (show i < p2.length by omega)
    refine drawQ_of false (by rfl) (by simp) (vc ?_)
    rw [get_map hx, prC]
    refine vc ?_
    rw [get_map hy, prC]
    refine vc ?_
    refine brB_intro (fun hb => ?_) (fun hb => ?_)
    · refine hno _ (.inl (fun e => ?_))
      have : p1[i] = p2[i] := by subst e; rfl
      rw [this] at hb; simp at hb
    · have hb : p1[i] = p2[i] := by
        simp only [Bool.not_eq_false', Bool.and_eq_true, beq_iff_eq] at hb
        exact pr_ext (ba_ext hb.1) (ba_ext hb.2)
      refine hN _ (i + 1) [(2, 2)] ⟨h, take_next hi.2 hx hy hb⟩ (by omega) (by rfl) (vc ?_) (vc trivial)
      rw [w64 _ (by omega)]; simp
  · have h : i = p1.length := by simp at h; omega
    have e1: p1 = p2 := by have := hi.2; rwa [h, List.take_length, show p1.length = p2.length by omega, List.take_length] at this
    refine loopQ_of (fun i => [(2, .pt 1 0 0), (3, .pt 2 0 0), (53, In k1.length), (54, In (i : Nat))]) (fun i => [(1, .box 111 [Rw (p1.map prC), Rw (k1.map stC), Rw (c1.map inC)]), (2, .box 111 [Rw (p2.map prC), Rw (k2.map stC), Rw (c2.map inC)])]) 3 (fun i => k1.length - i) (fun i => i ≤ k1.length ∧ k1.take i = k2.take i) 0 ⟨Nat.zero_le _, rfl⟩ [(2, 2)] (by rfl) (vc trivial) (vc trivial) (fun i hi N hN => vc (brB_intro (fun h => ?_) (fun h => ?_)))
    · have h : i < k1.length := by simpa using h
      have hx := List.getElem?_eq_getElem h
      have hy := List.getElem?_eq_getElem (show i < k2.length by omega)
      refine drawQ_of false (by rfl) (by simp) (vc ?_)
      rw [get_map hx, stC]
      refine vc ?_
      rw [get_map hy, stC]
      refine vc ?_
      refine brB_intro (fun hb => ?_) (fun hb => ?_)
      · refine hno _ (.inr <| .inl (fun e => ?_))
        have : k1[i] = k2[i] := by subst e; rfl
        rw [this] at hb; simp at hb
      · have hb : k1[i] = k2[i] := (ba_ne _ _).1 hb
        refine hN _ (i + 1) [(2, 2)] ⟨h, take_next hi.2 hx hy hb⟩ (by omega) (by rfl) (vc ?_) (vc trivial)
        rw [w64 _ (by omega)]; simp
    · have h : i = k1.length := by simp at h; omega
      have e2: k1 = k2 := by have := hi.2; rwa [h, List.take_length, show k1.length = k2.length by omega, List.take_length] at this
      refine loopQ_of (fun i => [(2, .pt 1 0 0), (3, .pt 2 0 0), (71, In c1.length), (72, In (i : Nat))]) (fun i => [(1, .box 111 [Rw (p1.map prC), Rw (k1.map stC), Rw (c1.map inC)]), (2, .box 111 [Rw (p2.map prC), Rw (k2.map stC), Rw (c2.map inC)])]) 3 (fun i => c1.length - i) (fun i => i ≤ c1.length ∧ c1.take i = c2.take i) 0 ⟨Nat.zero_le _, rfl⟩ [(2, 2)] (by rfl) (vc trivial) (vc trivial) (fun i hi N hN => vc (brB_intro (fun h => ?_) (fun h => ?_)))
      · have h : i < c1.length := by simpa using h
        have hx := List.getElem?_eq_getElem h
        have hy := List.getElem?_eq_getElem (show i < c2.length by omega)
        refine drawQ_of false (by rfl) (by simp) (vc ?_)
        rw [get_map hx, inC]
        refine vc ?_
        rw [get_map hy, inC]
        refine vc ?_
        refine brB_intro (fun hb => ?_) (fun hb => ?_)
        · refine hno _ (.inr <| .inr (fun e => ?_))
          have : c1[i] = c2[i] := by subst e; rfl
          rw [this] at hb; simp at hb
        · have hb : c1[i] = c2[i] := by simpa using hb
          refine hN _ (i + 1) [(2, 2)] ⟨h, take_next hi.2 hx hy hb⟩ (by omega) (by rfl) (vc ?_) (vc trivial)
          rw [w64 _ (by omega)]; simp
      · have h : i = c1.length := by simp at h; omega
        have e3: c1 = c2 := by have := hi.2; rwa [h, List.take_length, show c1.length = c2.length by omega, List.take_length] at this
        refine EndQ.closed (.v _) ⟨?_, rfl⟩
        subst e1 e2 e3
        simp
end Go.Proofs.YtnnmpdanfeejbaaGreat.Abs

/- The reference: trees laid out. -/
namespace Go.Proofs.YtnnmpdanfeejbaaGreat.Abs
open Go Go.Proofs
set_option maxRecDepth 10000
set_option linter.unusedVariables false
set_option linter.unusedSimpArgs false
theorem Sub.leasts_eq : ∀ l : List Sub, Sub.leasts l = l.map Sub.least
  | [] => by rw [Sub.leasts]; rfl
  | x :: r => by rw [Sub.leasts, Sub.leasts_eq r]; rfl
theorem Sub.layL_app : ∀ (l m : List Sub) (a : Nat), Sub.layL a (l ++ m) = Sub.layL a l ++ Sub.layL (a + (Sub.layL a l).length) m
  | [], m, a => by rw [Sub.layL]; rfl
  | x :: r, m, a => by
    rw [List.cons_append, Sub.layL, Sub.layL, Sub.layL_app r m, List.append_assoc, List.length_append]
    rw [show a + (x.lay a).length + (Sub.layL (a + (x.lay a).length) r).length = a + ((x.lay a).length + (Sub.layL (a + (x.lay a).length) r).length) by omega]
theorem Sub.plcs_app : ∀ (l m : List Sub) (a : Nat), Sub.plcs a (l ++ m) = Sub.plcs a l ++ Sub.plcs (a + (Sub.layL a l).length) m
  | [], m, a => by rw [Sub.plcs, Sub.layL]; rfl
  | x :: r, m, a => by
    rw [List.cons_append, Sub.plcs, Sub.plcs, Sub.plcs_app r m, Sub.layL, List.length_append]
    rw [show a + (x.lay a).length + (Sub.layL (a + (x.lay a).length) r).length = a + ((x.lay a).length + (Sub.layL (a + (x.lay a).length) r).length) by omega]
    rfl
theorem Sub.plcs_len : ∀ (l : List Sub) (a : Nat), (Sub.plcs a l).length = l.length
  | [], a => by rw [Sub.plcs]; rfl
  | x :: r, a => by rw [Sub.plcs, List.length_cons, Sub.plcs_len r]; rfl
theorem Sub.layL_next {l : List Sub} {i : Nat} {x : Sub} (h : l[i]? = some x) (a : Nat) : Sub.layL a (l.take (i + 1)) = Sub.layL a (l.take i) ++ x.lay (a + (Sub.layL a (l.take i)).length) := by
  rw [List.take_add_one, h, Sub.layL_app]
  simp [Sub.layL]
theorem Sub.plcs_next {l : List Sub} {i : Nat} {x : Sub} (h : l[i]? = some x) (a : Nat) : Sub.plcs a (l.take (i + 1)) = Sub.plcs a (l.take i) ++ [((a + (Sub.layL a (l.take i)).length : Nat) : Int)] := by
  rw [List.take_add_one, h, Sub.plcs_app]
  simp [Sub.plcs]
mutual
theorem Sub.lay_len : ∀ (s : Sub) (a : Nat), 1 ≤ (s.lay a).length ∧ (s.lay a).length ≤ s.sz
  | .mk l ps ks, a => by
    rw [Sub.lay, Sub.sz]
    have := Sub.layL_len ks (a + 1)
    split
    · simp
    · rw [List.length_cons]; omega
theorem Sub.layL_len : ∀ (l : List Sub) (a : Nat), (Sub.layL a l).length ≤ Sub.szL l
  | [], a => by rw [Sub.layL, Sub.szL]; exact Nat.le_refl _
  | x :: r, a => by
    have h1 := (Sub.lay_len x a).2
    have h2 := Sub.layL_len r (a + (x.lay a).length)
    rw [Sub.layL, Sub.szL, List.length_append]; omega
end
theorem Sub.pairsL_mem {x : Sub} : ∀ {l : List Sub}, x ∈ l → x.pairs.length ≤ (Sub.pairsL l).length
  | y :: r, h => by
    rw [Sub.pairsL, List.length_append]
    rcases List.mem_cons.1 h with rfl | h
    · omega
    · have := Sub.pairsL_mem h; omega
theorem Sub.szL_split {l : List Sub} {i : Nat} {x : Sub} (h : l[i]? = some x) : Sub.szL (l.take i) + x.sz ≤ Sub.szL l := by
  induction l generalizing i with
  | nil => simp at h
  | cons y r ih =>
    cases i with
    | zero => cases h; simp [Sub.szL]
    | succ i => have := ih h; rw [List.take_succ_cons, Sub.szL, Sub.szL]; omega
def nd0 : Nd := ⟨[], [], []⟩
theorem set_last {α : Type} (l m : List α) (x y : α) (n : Nat) (h : n = l.length) : (l ++ x :: m).set n y = l ++ y :: m := by
  subst h
  rw [List.set_append, if_neg (by omega), Nat.sub_self]; rfl
theorem get_last {α : Type} (l m : List α) (x : α) (n : Nat) (h : n = l.length) : (l ++ x :: m)[n]? = some x := by
  subst h
  rw [List.getElem?_append_right (Nat.le_refl _), Nat.sub_self]; rfl
/-- What a laid list comes to. -/
def layT (pre : List Nd) (s : Sub) : List Nd := pre ++ s.lay pre.length
theorem lay_ok : ∀ (n : Nat) (s : Sub) (pre : List Nd), s.sz ≤ n → pre.length + s.sz ≤ 2^40 → s.pairs.length ≤ 2^40 → CallOk Tryz.prog 100 [.rw 111 3 (pre.map (ndC true))] [.sl 1 pre.length, s.rd] (fun r out => r = .sl 2 (layT pre s).length ∧ out = [none, some (.rw 111 3 ((layT pre s).map (ndC true)))]) := by
  intro n
  induction n with
  | zero => intro s pre hs; cases s; rw [Sub.sz] at hs; omega
  | succ n ih =>
    intro s pre hs hk hp
    unfold Sub.rd
    have hkl := s.ks_len
    have hll := s.lay_len pre.length
    have hpl : s.ps.length ≤ 2^40 := by rw [Sub.pairs_eq, List.length_append] at hp; omega
    refine callOk_z (np := 1) { js := [13] } mixed Tryz.func100 (by rfl) Tryz.ntmps100 Tryz.results100 (by rfl) (Nat.le_of_ble_eq_true rfl) rfl rfl rfl (vc ?_)
    refine ⟨⟨by simp, by unfold maxLen; omega, by omega⟩, brB_intro (fun h => ⟨⟨by unfold maxLen; omega, by omega⟩, ⟨by omega, by simp⟩, ?_⟩) (fun h => ?_)⟩
    · rw [get_last _ _ _ _ (by simp)]
      refine vc ?_
      rw [set_last _ _ _ _ _ (by simp)]
      refine endQ_of [(2, 66)] (.sl 2 (layT pre s).length) [none, some (.rw 111 3 ((layT pre s).map (ndC true)))] (by rfl) (vc ?_) (vc ?_) ⟨rfl, rfl⟩
      · unfold layT; rw [Sub.lay_eq, if_pos h]; simp
      · unfold layT; rw [Sub.lay_eq, if_pos h]; simp [ndC]
    have h1 : s.leaf = false := h
    have h1 : s.leaf = false := h
    have hkp : ∀ x ∈ s.ks, x.pairs.length ≤ 2^40 := fun x hx => by
      have := Sub.pairsL_mem hx
      rw [Sub.pairs_eq, List.length_append] at hp
      omega
    have hsz : s.sz = 1 + Sub.szL s.ks := by cases s; rw [Sub.sz]; rfl
    refine loopQ_of (fun i => [(0, .sl 3 (pre ++ nd0 :: Sub.layL (pre.length + 1) (s.ks.take i)).length), (3, .pt 2 0 0), (5, In pre.length), (6, .pt 4 0 0), (28, In s.ks.length), (29, In (i : Nat))]) (fun i => [(2, .box 144 [Bo s.leaf, Rw (s.ps.map prC), Rw (s.ks.map (suC false))]), (3, .rw 111 3 ((pre ++ nd0 :: Sub.layL (pre.length + 1) (s.ks.take i)).map (ndC true))), (4, .box 111 [.nul, .sl 5 ((Sub.leasts (s.ks.take i)).drop 1).length, .sl 6 i]), (5, .rw 9 1 (((Sub.leasts (s.ks.take i)).drop 1).map stC)), (6, .rw 3 1 ((Sub.plcs (pre.length + 1) (s.ks.take i)).map inC))]) 7 (fun i => s.ks.length - i) (fun i => i ≤ s.ks.length) 0 (Nat.zero_le _) [(3, 66), (4, 106), (5, 0), (6, 0)] (by rfl) (vc ?_) (vc ?_) (fun i hi N hN => vc (brB_intro (fun h => ?_) (fun h => ?_)))
    · simp [Sub.layL]
    · simp [Sub.layL, Sub.leasts, Sub.plcs, nd0, ndC]
    · have h : i < s.ks.length := by simpa using h
      have hx := List.getElem?_eq_getElem h
      have hm := List.getElem_mem h
      have hnx := Sub.layL_next hx (pre.length + 1)
      have hpn := Sub.plcs_next hx (pre.length + 1)
      have hss := Sub.szL_split hx
      have hl1 := Sub.layL_len (s.ks.take i) (pre.length + 1)
      have hpli : (Sub.plcs (pre.length + 1) (s.ks.take i)).length = i := by rw [Sub.plcs_len, List.length_take]; omega
      have hat : (pre ++ nd0 :: Sub.layL (pre.length + 1) (s.ks.take i)).length = pre.length + 1 + (Sub.layL (pre.length + 1) (s.ks.take i)).length := by simp; omega
      have hat0 : i = 0 → (pre ++ nd0 :: Sub.layL (pre.length + 1) (s.ks.take i)).length = pre.length + 1 := fun e => by subst e; simp [Sub.layL]
      have hlsi : (Sub.leasts (s.ks.take i)).length = i := by rw [Sub.leasts_eq, List.length_map, List.length_take]; omega
      refine ⟨⟨by omega, by unfold maxLen; omega, by omega⟩, ?_⟩
      refine joinQ_of (ι := Unit) (fun _ => [(0, .sl 3 (pre ++ nd0 :: Sub.layL (pre.length + 1) (s.ks.take i)).length), (3, .pt 2 0 0), (5, In pre.length), (6, .pt 4 0 0), (7, In (i : Nat)), (28, In s.ks.length), (29, In (i : Nat))]) (fun _ => [(2, .box 144 [Bo s.leaf, Rw (s.ps.map prC), Rw (s.ks.map (suC false))]), (3, .rw 111 3 ((pre ++ nd0 :: Sub.layL (pre.length + 1) (s.ks.take i)).map (ndC true))), (4, .box 111 [.nul, .sl 5 ((Sub.leasts (s.ks.take (i + 1))).drop 1).length, .sl 6 (i + 1)]), (5, .rw 9 1 (((Sub.leasts (s.ks.take (i + 1))).drop 1).map stC)), (6, .rw 3 1 ((Sub.plcs (pre.length + 1) (s.ks.take (i + 1))).map inC))]) 7 (fun _ => True) (fun M hM => vc (brB_intro (fun h0 => ?_) (fun h0 => ?_))) (fun _ _ => vc ?_)
      · have h0 : 0 < i := by simpa using h0
        refine drawQ_of false (by rfl) (by simp) (vc ?_)
        rw [get_map hx, suC_eq]
        refine vc ?_
        have hc := least_ok s.ks[i].sz s.ks[i] (Nat.le_refl _)
        unfold Sub.rd at hc
        refine calld_of [] false [] hc rfl trivial (vc trivial) (by rfl) ⟨_, _, rfl, rfl⟩ ?_
        rintro r out ⟨rfl, rfl⟩
        refine ⟨by simp, by simp, by simp, vc ?_⟩
        refine ⟨⟨by unfold maxLen; simp; omega, by simp; omega⟩, ?_⟩
        have hln : (Sub.leasts (s.ks.take (i + 1))).drop 1 = (Sub.leasts (s.ks.take i)).drop 1 ++ [s.ks[i].least] := by
          rw [List.take_add_one, hx, Sub.leasts_eq, Sub.leasts_eq, List.map_append, List.drop_append_of_le_length (by simp; omega)]; rfl
        repeat refine ⟨rfl, ?_⟩
        refine hM _ () [(6, 71), (5, 183)] trivial (by rfl) (vc trivial) (vc ?_)
        rw [hln, hpn]
        simp [stC, inC, hlsi, hpli, hat, show i - 1 + 1 = i by omega]
      · have h0 : i = 0 := by simp at h0; omega
        subst h0
        refine hM _ () [(6, 71)] trivial (by rfl) (vc trivial) (vc ?_)
        have hln : (Sub.leasts (s.ks.take 1)).drop 1 = [] := by
          rw [List.drop_eq_nil_iff, Sub.leasts_eq, List.length_map, List.length_take]; omega
        have hl0 : Sub.leasts [] = [] := by rw [Sub.leasts]
        rw [hln, hpn, hl0]
        simp [stC, inC, hat0, Sub.plcs, Sub.layL]
      · rw [get_map hx, suC_eq]
        refine vc ?_
        have hc := ih s.ks[i] (pre ++ nd0 :: Sub.layL (pre.length + 1) (s.ks.take i)) (by have := Sub.sz_kid hm; omega) (by simp; omega) (hkp _ hm)
        unfold Sub.rd at hc
        refine callq_of false [3] hc rfl (vc trivial) (vc trivial) ?_
        rintro r out ⟨rfl, rfl⟩
        refine ⟨by simp, by simp, by simp, vc ?_⟩
        refine hN _ (i + 1) [(3, 55)] h (by omega) (by rfl) (vc ?_) (vc ?_)
        · rw [w64 _ (by omega), hnx]; unfold layT; rw [hat]; simp
        · rw [hnx]; unfold layT; rw [hat]; simp
    · have h : i = s.ks.length := by simp at h; omega
      subst h
      rw [List.take_length]
      have hsl : (((pre ++ nd0 :: Sub.layL (pre.length + 1) s.ks).map (ndC true)).set pre.length (ndC true ⟨[], (Sub.leasts s.ks).drop 1, Sub.plcs (pre.length + 1) s.ks⟩)) = (layT pre s).map (ndC true) := by
        rw [List.map_append, List.map_cons, set_last _ _ _ _ _ (by simp)]
        unfold layT
        rw [Sub.lay_eq, if_neg (by simp [h1]), List.map_append, List.map_cons]
      have hll : (layT pre s).length = (pre ++ nd0 :: Sub.layL (pre.length + 1) s.ks).length := by
        unfold layT
        rw [Sub.lay_eq, if_neg (by simp [h1])]; simp
      refine ⟨by simp, ?_⟩
      rw [if_pos (Sub.plcs_len _ _).symm, get_map (get_last _ _ _ _ rfl), ndC]
      refine vc ?_
      refine endQ_of [(2, 3)] (.sl 2 (layT pre s).length) [none, some (.rw 111 3 ((layT pre s).map (ndC true)))] (by rfl) (vc ?_) (vc ?_) ⟨rfl, rfl⟩
      · exact hll.symm
      · rw [← hsl]; rfl
theorem lay0_ok (s : Sub) (hk : s.sz ≤ 2^40) (hp : s.pairs.length ≤ 2^40) : CallOk Tryz.prog 100 [] [.nul, s.rd] (fun r out => r = .sl 1 (layT [] s).length ∧ out = [some (.rw 111 3 ((layT [] s).map (ndC true)))]) := by
    unfold Sub.rd
    have hkl := s.ks_len
    have hll := s.lay_len 0
    have hpl : s.ps.length ≤ 2^40 := by rw [Sub.pairs_eq, List.length_append] at hp; omega
    refine callOk_z (np := 0) { js := [13] } mixed Tryz.func100 (by rfl) Tryz.ntmps100 Tryz.results100 (by rfl) (Nat.le_of_ble_eq_true rfl) rfl rfl rfl (vc ?_)
    refine ⟨by unfold maxLen; omega, brB_intro (fun h => ⟨⟨by unfold maxLen; omega, by omega⟩, ?_⟩) (fun h => ?_)⟩
    · rw [List.set_cons_zero]
      refine endQ_of [(1, 65)] (.sl 1 (layT [] s).length) [some (.rw 111 3 ((layT [] s).map (ndC true)))] (by rfl) (vc ?_) (vc ?_) ⟨rfl, rfl⟩
      · unfold layT; rw [Sub.lay_eq, if_pos h]; simp
      · unfold layT; rw [Sub.lay_eq, if_pos h]; simp [ndC]
    have h1 : s.leaf = false := h
    have h1 : s.leaf = false := h
    have hkp : ∀ x ∈ s.ks, x.pairs.length ≤ 2^40 := fun x hx => by
      have := Sub.pairsL_mem hx
      rw [Sub.pairs_eq, List.length_append] at hp
      omega
    have hsz : s.sz = 1 + Sub.szL s.ks := by cases s; rw [Sub.sz]; rfl
    refine loopQ_of (fun i => [(0, .sl 2 (nd0 :: Sub.layL 1 (s.ks.take i)).length), (3, .pt 1 0 0), (5, In 0), (6, .pt 3 0 0), (28, In s.ks.length), (29, In (i : Nat))]) (fun i => [(1, .box 144 [Bo s.leaf, Rw (s.ps.map prC), Rw (s.ks.map (suC false))]), (2, .rw 111 3 ((nd0 :: Sub.layL 1 (s.ks.take i)).map (ndC true))), (3, .box 111 [.nul, .sl 4 ((Sub.leasts (s.ks.take i)).drop 1).length, .sl 5 i]), (4, .rw 9 1 (((Sub.leasts (s.ks.take i)).drop 1).map stC)), (5, .rw 3 1 ((Sub.plcs 1 (s.ks.take i)).map inC))]) 6 (fun i => s.ks.length - i) (fun i => i ≤ s.ks.length) 0 (Nat.zero_le _) [(2, 65), (3, 105), (4, 0), (5, 0)] (by rfl) (vc ?_) (vc ?_) (fun i hi N hN => vc (brB_intro (fun h => ?_) (fun h => ?_)))
    · simp [Sub.layL]
    · simp [Sub.layL, Sub.leasts, Sub.plcs, nd0, ndC]
    · have h : i < s.ks.length := by simpa using h
      have hx := List.getElem?_eq_getElem h
      have hm := List.getElem_mem h
      have hnx := Sub.layL_next hx 1
      have hpn := Sub.plcs_next hx 1
      have hss := Sub.szL_split hx
      have hl1 := Sub.layL_len (s.ks.take i) 1
      have hpli : (Sub.plcs 1 (s.ks.take i)).length = i := by rw [Sub.plcs_len, List.length_take]; omega
      have hat : (nd0 :: Sub.layL 1 (s.ks.take i)).length = 0 + 1 + (Sub.layL 1 (s.ks.take i)).length := by simp; omega
      have hat0 : i = 0 → (nd0 :: Sub.layL 1 (s.ks.take i)).length = 0 + 1 := fun e => by subst e; simp [Sub.layL]
      have hlsi : (Sub.leasts (s.ks.take i)).length = i := by rw [Sub.leasts_eq, List.length_map, List.length_take]; omega
      refine ⟨⟨by omega, by unfold maxLen; omega, by omega⟩, ?_⟩
      refine joinQ_of (ι := Unit) (fun _ => [(0, .sl 2 (nd0 :: Sub.layL 1 (s.ks.take i)).length), (3, .pt 1 0 0), (5, In 0), (6, .pt 3 0 0), (7, In (i : Nat)), (28, In s.ks.length), (29, In (i : Nat))]) (fun _ => [(1, .box 144 [Bo s.leaf, Rw (s.ps.map prC), Rw (s.ks.map (suC false))]), (2, .rw 111 3 ((nd0 :: Sub.layL 1 (s.ks.take i)).map (ndC true))), (3, .box 111 [.nul, .sl 4 ((Sub.leasts (s.ks.take (i + 1))).drop 1).length, .sl 5 (i + 1)]), (4, .rw 9 1 (((Sub.leasts (s.ks.take (i + 1))).drop 1).map stC)), (5, .rw 3 1 ((Sub.plcs 1 (s.ks.take (i + 1))).map inC))]) 6 (fun _ => True) (fun M hM => vc (brB_intro (fun h0 => ?_) (fun h0 => ?_))) (fun _ _ => vc ?_)
      · have h0 : 0 < i := by simpa using h0
        refine drawQ_of false (by rfl) (by simp) (vc ?_)
        rw [get_map hx, suC_eq]
        refine vc ?_
        have hc := least_ok s.ks[i].sz s.ks[i] (Nat.le_refl _)
        unfold Sub.rd at hc
        refine calld_of [] false [] hc rfl trivial (vc trivial) (by rfl) ⟨_, _, rfl, rfl⟩ ?_
        rintro r out ⟨rfl, rfl⟩
        refine ⟨by simp, by simp, by simp, vc ?_⟩
        refine ⟨⟨by unfold maxLen; simp; omega, by simp; omega⟩, ?_⟩
        have hln : (Sub.leasts (s.ks.take (i + 1))).drop 1 = (Sub.leasts (s.ks.take i)).drop 1 ++ [s.ks[i].least] := by
          rw [List.take_add_one, hx, Sub.leasts_eq, Sub.leasts_eq, List.map_append, List.drop_append_of_le_length (by simp; omega)]; rfl
        repeat refine ⟨rfl, ?_⟩
        refine hM _ () [(5, 70), (4, 182)] trivial (by rfl) (vc trivial) (vc ?_)
        rw [hln, hpn]
        simp [stC, inC, hlsi, hpli, hat, show i - 1 + 1 = i by omega]; omega
      · have h0 : i = 0 := by simp at h0; omega
        subst h0
        refine hM _ () [(5, 70)] trivial (by rfl) (vc trivial) (vc ?_)
        have hln : (Sub.leasts (s.ks.take 1)).drop 1 = [] := by
          rw [List.drop_eq_nil_iff, Sub.leasts_eq, List.length_map, List.length_take]; omega
        have hl0 : Sub.leasts [] = [] := by rw [Sub.leasts]
        rw [hln, hpn, hl0]
        simp [stC, inC, hat0, Sub.plcs, Sub.layL]
      · rw [get_map hx, suC_eq]
        refine vc ?_
        have hc := lay_ok s.ks[i].sz s.ks[i] (nd0 :: Sub.layL 1 (s.ks.take i)) (Nat.le_refl _) (by simp; omega) (hkp _ hm)
        unfold Sub.rd at hc
        refine callq_of false [2] hc rfl (vc trivial) (vc trivial) ?_
        rintro r out ⟨rfl, rfl⟩
        refine ⟨by simp, by simp, by simp, vc ?_⟩
        refine hN _ (i + 1) [(2, 54)] h (by omega) (by rfl) (vc ?_) (vc ?_)
        · rw [w64 _ (by omega), hnx]; unfold layT; rw [hat]; simp
        · rw [hnx]; unfold layT; rw [hat]; simp
    · have h : i = s.ks.length := by simp at h; omega
      subst h
      rw [List.take_length]
      have hsl : (((nd0 :: Sub.layL 1 s.ks).map (ndC true)).set 0 (ndC true ⟨[], (Sub.leasts s.ks).drop 1, Sub.plcs 1 s.ks⟩)) = (layT [] s).map (ndC true) := by
        rw [List.map_cons, List.set_cons_zero]
        unfold layT
        rw [Sub.lay_eq, if_neg (by simp [h1]), List.nil_append, List.map_cons]; rfl
      have hll : (layT [] s).length = (nd0 :: Sub.layL 1 s.ks).length := by
        unfold layT
        rw [Sub.lay_eq, if_neg (by simp [h1])]; simp only [List.length_nil, Nat.zero_add, List.nil_append, List.length_cons]
      refine ⟨by omega, ?_⟩
      rw [if_pos (Sub.plcs_len _ _).symm, ndC]
      refine vc ?_
      refine endQ_of [(1, 2)] (.sl 1 (layT [] s).length) [some (.rw 111 3 ((layT [] s).map (ndC true)))] (by rfl) (vc ?_) (vc ?_) ⟨rfl, rfl⟩
      · exact hll.symm
      · rw [← hsl]; rfl
end Go.Proofs.YtnnmpdanfeejbaaGreat.Abs

/- The reference: trees read. -/
namespace Go.Proofs.YtnnmpdanfeejbaaGreat.Abs
open Go Go.Proofs
set_option maxRecDepth 10000
set_option linter.unusedVariables false
set_option linter.unusedSimpArgs false
def treeAg (t : List Nd) : AV := .ag [Rw (t.map (ndC false))]
/-- What has been read, or nothing. -/
def rdO : Option (Sub × Int) → Sub × Int × Bool
  | some (s, nx) => (s, nx, true)
  | none => (.mk false [] [], 0, false)
def Sub.ow (s : Sub) : AV := .ag [Bo s.leaf, .sl 1 s.ps.length, .sl 2 s.ks.length]
def Sub.obs (s : Sub) : List (Option Ob) := [some (.rw 141 2 (s.ps.map prC)), some (.rw 144 3 (s.ks.map (suC true)))]
theorem readNone (H : Hp) : EndQ 0 H (.tu [.ag [Bo false, .nul, .nul], In 0, Bo false]) (fun r out => r = .tu [(rdO none).1.ow, In (rdO none).2.1, Bo (rdO none).2.2] ∧ out = (rdO none).1.obs) :=
  endQ_of [(1, 0), (2, 0)] (.tu [.ag [Bo false, .sl 1 0, .sl 2 0], In 0, Bo false]) [some (.rw 141 2 []), some (.rw 144 3 [])] (by rfl) (vc trivial) (vc trivial) ⟨rfl, rfl⟩
theorem read_ok (t : List Nd) (ht : t.length ≤ 2^40) (hn : ∀ x ∈ t, x.le (2^40)) : ∀ (f deep : Nat) (a : Int), f + deep = 13 → CallOk Tryz.prog 157 [] [treeAg t, In a, In deep] (fun r out => r = .tu [(rdO (rdT t f a)).1.ow, In (rdO (rdT t f a)).2.1, Bo (rdO (rdT t f a)).2.2] ∧ out = (rdO (rdT t f a)).1.obs) := by
  intro f
  induction f with
  | zero => 
    intro deep a hfd
    unfold treeAg
    refine callOk_z (np := 0) {} mixed Tryz.func157 (by rfl) Tryz.ntmps157 Tryz.results157 (by rfl) (Nat.le_of_ble_eq_true rfl) rfl rfl rfl (vc ?_)
    have hq : ∀ H : Hp, EndQ 0 H (.tu [.ag [Bo false, .nul, .nul], In 0, Bo false]) (fun r out => r = .tu [(rdO (rdT t 0 a)).1.ow, In (rdO (rdT t 0 a)).2.1, Bo (rdO (rdT t 0 a)).2.2] ∧ out = (rdO (rdT t 0 a)).1.obs) := fun H => by
      rw [rdT]
      exact readNone H
    refine brB_intro (fun h => hq _) (fun h1 => brB_intro (fun h => hq _) (fun h2 => brB_intro (fun h => hq _) (fun h3 => ?_)))
    simp at h3
    omega
  | succ f ih =>
    intro deep a hfd
    unfold treeAg
    refine callOk_z (np := 0) {} mixed Tryz.func157 (by rfl) Tryz.ntmps157 Tryz.results157 (by rfl) (Nat.le_of_ble_eq_true rfl) rfl rfl rfl (vc ?_)
    have hq : ∀ H : Hp, rdT t (f + 1) a = none → EndQ 0 H (.tu [.ag [Bo false, .nul, .nul], In 0, Bo false]) (fun r out => r = .tu [(rdO (rdT t (f + 1) a)).1.ow, In (rdO (rdT t (f + 1) a)).2.1, Bo (rdO (rdT t (f + 1) a)).2.2] ∧ out = (rdO (rdT t (f + 1) a)).1.obs) := fun H e => by
      rw [e]
      exact readNone H
    refine brB_intro (fun h => hq _ (by rw [rdT, if_pos (.inl (by simpa using h))])) (fun h1 => brB_intro (fun h => hq _ (by rw [rdT, if_pos (.inr (by simpa using h))])) (fun h2 => brB_intro (fun h => by simp at h; omega) (fun h3 => ?_)))
    have h1 : 0 ≤ a := by simpa using h1
    have h2 : a < t.length := by simpa using h2
    obtain ⟨a, rfl⟩ : ∃ k : Nat, a = k := ⟨a.toNat, by omega⟩
    have h2 : a < t.length := by omega
    have hx := List.getElem?_eq_getElem h2
    have hxl := hn _ (List.getElem_mem h2)
    have hrd : rdT t (f + 1) a = (rdT.rdK (rdT t f) t[a].cs (a + 1)).map fun x => (.mk (decide (t[a].cs.length = 0)) t[a].ps x.1, x.2) := by
      rw [rdT, if_neg (by omega), Int.toNat_natCast, hx]; rfl
    refine vc ?_
    rw [get_map hx, ndC]
    refine vc ?_
    refine drawQ_of false (by rfl) (by simp) (vc ?_)
    obtain ⟨x1, x2, x3⟩ := hxl
    refine ⟨⟨by unfold maxLen; omega, by omega⟩, ?_⟩
    repeat refine ⟨rfl, ?_⟩
    rw [w64 _ (by omega)]
    refine loopQ_of (ι := Nat × Int × List Sub) (fun i => [(2, In deep), (3, .pt 1 0 0), (6, .pt 2 0 0), (10, .pt 3 0 0), (11, In i.2.1), (48, Rw (t[a].cs.map inC)), (49, In t[a].cs.length), (50, In (i.1 : Nat))]) (fun i => [(1, .box 33 [Rw (t.map (ndC false))]), (2, .box 144 [Bo false, .nul, .nul]), (3, .box 144 [Bo (decide (t[a].cs.length = 0)), .sl 4 t[a].ps.length, .sl 5 i.1]), (4, .rw 141 2 (t[a].ps.map prC)), (5, .rw 144 3 (i.2.2.map (suC true)))]) 6 (fun i => t[a].cs.length - i.1)
      (fun i => i.1 ≤ t[a].cs.length ∧ i.2.2.length = i.1 ∧ rdT.rdK (rdT t f) t[a].cs (a + 1) = (rdT.rdK (rdT t f) (t[a].cs.drop i.1) i.2.1).map fun x => (i.2.2 ++ x.1, x.2)) (0, a + 1, []) ⟨Nat.zero_le _, rfl, by simp⟩ [(2, 9), (3, 265), (4, 249), (5, 0)] (by rfl) (vc ?_) (vc ?_) (fun i hi N hN => ?_)
    · trivial
    · rw [Bool.eq_iff_iff]; simp
    · obtain ⟨i, nx, acc⟩ := i
      obtain ⟨hi, hacc, hL⟩ := hi
      simp only at hi hacc hL hN
      refine vc (brB_intro (fun h => ?_) (fun h => ?_))
      · have h : i < t[a].cs.length := by simpa using h
        have hy := List.getElem?_eq_getElem h
        rw [List.drop_eq_getElem_cons h, rdT.rdK] at hL
        rw [get_map hy, inC]
        refine vc (brB_intro (fun h5 => ?_) (fun h5 => ?_))
        · have h5 : ¬ t[a].cs[i] = nx := by simpa using h5
          rw [if_neg h5] at hL
          exact hq _ (by rw [hrd, hL]; rfl)
        · have h5 : t[a].cs[i] = nx := by simpa using h5
          rw [if_pos h5] at hL
          rw [w64 _ (by omega)]
          have hc := ih (deep + 1) t[a].cs[i] (by omega)
          rw [show ((deep + 1 : Nat) : Int) = (deep : Int) + 1 by omega] at hc
          unfold treeAg at hc
          cases hr : rdT t f t[a].cs[i] with
          | none =>
            rw [hr] at hL hc
            simp only [rdO, Sub.ow, Sub.obs, Sub.leaf, Sub.ps, Sub.ks, List.length_nil, List.map_nil] at hc
            refine callq_of false [] hc rfl trivial (vc trivial) ?_
            rintro r out ⟨rfl, rfl⟩
            refine ⟨by simp, by simp, by simp, vc ?_⟩
            exact hq _ (by rw [hrd, hL]; rfl)
          | some x =>
            obtain ⟨x, nx'⟩ := x
            rw [hr] at hL hc
            simp only [rdO, Sub.ow, Sub.obs] at hc
            refine callq_of false [] hc rfl trivial (vc trivial) ?_
            rintro r out ⟨rfl, rfl⟩
            refine ⟨by simp, by simp, by simp, vc ?_⟩
            refine ⟨⟨hacc.symm, by simp, by unfold maxLen; omega, by omega⟩, ?_⟩
            refine hN _ (i + 1, nx', acc ++ [x]) [(5, 214)] ⟨h, by simp [hacc], by rw [hL]; simp [Function.comp_def]⟩ (by simp only; omega) (by rfl) (vc ?_) (vc ?_)
            · rw [w64 _ (by omega)]; simp
            · exact ⟨hacc, by rw [List.map_append, List.map_cons, suC_eq]; rfl⟩
      · have h : i = t[a].cs.length := by simp at h; omega
        rw [List.drop_of_length_le (by omega), rdT.rdK] at hL
        have hfin : rdT t (f + 1) a = some (.mk (decide (t[a].cs.length = 0)) t[a].ps acc, nx) := by
          rw [hrd, hL]; simp
        rw [hfin]
        refine endQ_of [(1, 4), (2, 5)] (.tu [.ag [Bo (decide (t[a].cs.length = 0)), .sl 1 t[a].ps.length, .sl 2 acc.length], In nx, Bo true]) [some (.rw 141 2 (t[a].ps.map prC)), some (.rw 144 3 (acc.map (suC true)))] (by rfl) (vc ?_) (vc trivial) ⟨rfl, rfl⟩
        exact hacc.symm
theorem root_ok (t : List Nd) (ht : t.length ≤ 2^40) (hn : ∀ x ∈ t, x.le (2^40)) : CallOk Tryz.prog 95 [] [treeAg t] (fun r out => r = .tu [(rootT t).1.ow, Bo (rootT t).2] ∧ out = (rootT t).1.obs) := by
  unfold treeAg
  refine callOk_z (np := 0) {} mixed Tryz.func95 (by rfl) Tryz.ntmps95 Tryz.results95 (by rfl) (Nat.le_of_ble_eq_true rfl) rfl rfl rfl (vc ?_)
  refine brB_intro (fun h => ?_) (fun h => ?_)
  · have h : t.length = 0 := by simp at h; simp [h]
    unfold rootT
    rw [if_pos h]
    exact endQ_of [(1, 0), (2, 0)] (.tu [.ag [Bo true, .sl 1 0, .sl 2 0], Bo true]) [some (.rw 141 2 []), some (.rw 144 3 [])] (by rfl) (vc trivial) (vc trivial) ⟨rfl, rfl⟩
  have h : ¬ t.length = 0 := fun e => by simp [e] at h
  have hc := read_ok t ht hn 13 0 0 rfl
  unfold treeAg at hc
  unfold rootT
  rw [if_neg h]
  cases hr : rdT t 13 0 with
  | none =>
    rw [hr] at hc
    simp only [rdO, Sub.ow, Sub.obs, Sub.leaf, Sub.ps, Sub.ks, List.length_nil, List.map_nil] at hc
    refine callq_of false [] hc rfl trivial (vc trivial) ?_
    rintro r out ⟨rfl, rfl⟩
    refine ⟨by simp, by simp, by simp, vc ?_⟩
    refine drawQ_of false (by rfl) (by simp) (vc ?_)
    exact endQ_of [(1, 65), (2, 66)] (.tu [.ag [Bo false, .sl 1 0, .sl 2 0], Bo false]) [some (.rw 141 2 []), some (.rw 144 3 [])] (by rfl) (vc trivial) (vc trivial) ⟨rfl, rfl⟩
  | some x =>
    obtain ⟨x, nx'⟩ := x
    rw [hr] at hc
    simp only [rdO, Sub.ow, Sub.obs] at hc
    refine callq_of false [] hc rfl trivial (vc trivial) ?_
    rintro r out ⟨rfl, rfl⟩
    refine ⟨by simp, by simp, by simp, vc ?_⟩
    refine drawQ_of false (by rfl) (by simp) (vc ?_)
    refine endQ_of [(1, 65), (2, 66)] (.tu [.ag [Bo x.leaf, .sl 1 x.ps.length, .sl 2 x.ks.length], Bo (decide (nx' = t.length))]) [some (.rw 141 2 (x.ps.map prC)), some (.rw 144 3 (x.ks.map (suC true)))] (by rfl) (vc ?_) (vc trivial) ⟨rfl, rfl⟩
    rw [Bool.eq_iff_iff]; simp
end Go.Proofs.YtnnmpdanfeejbaaGreat.Abs

/- The reference: is it a tree? -/
namespace Go.Proofs.YtnnmpdanfeejbaaGreat.Abs
open Go Go.Proofs
set_option maxRecDepth 10000
set_option linter.unusedVariables false
set_option linter.unusedSimpArgs false
/-- As the reference sees it. -/
def specOk (t : List Nd) : Prop := t = [] ∨ (t.length ≤ 400 ∧ (rootT t).2 = true ∧ (rootT t).1.full true = true ∧ 0 ≤ (rootT t).1.deep ∧ pairsOk (rootT t).1.pairs ∧ layT [] (rootT t).1 = t)
theorem specTreeOk_ok (t : List Nd) (ht : t.length ≤ 2^40) (hn : ∀ x ∈ t, x.le (2^40)) (hsz : (rootT t).1.sz ≤ 2^40) (hps : (rootT t).1.pairs.length ≤ 2^40) (hly : ∀ x ∈ layT [] (rootT t).1, x.le (2^40)) : CallOk Tryz.prog 44 [] [treeAg t] (fun r out => r = Bo (tf (specOk t)) ∧ out = []) := by
  unfold treeAg
  refine callOk_z (np := 0) {} mixed Tryz.func44 (by rfl) Tryz.ntmps44 Tryz.results44 (by rfl) (Nat.le_of_ble_eq_true rfl) rfl rfl rfl (vc ?_)
  refine brB_intro (fun h => EndQ.closed (.v _) ⟨?_, rfl⟩) (fun h => ?_)
  · rw [tf_true (.inl (List.length_eq_zero_iff.1 (by simp at h; simp [h])))]
  have h0 : ¬ t = [] := fun e => by subst e; simp at h
  have hno : ∀ H : Hp, ¬ (t.length ≤ 400 ∧ (rootT t).2 = true ∧ (rootT t).1.full true = true ∧ 0 ≤ (rootT t).1.deep ∧ pairsOk (rootT t).1.pairs ∧ layT [] (rootT t).1 = t) → EndQ 0 H (Bo false) (fun r out => r = Bo (tf (specOk t)) ∧ out = []) := fun H e => EndQ.closed (.v _) ⟨by
    rw [tf_false (fun x => x.elim h0 e)], rfl⟩
  refine brB_intro (fun h1 => hno _ (fun e => by have := e.1; simp at h1; omega)) (fun h1 => ?_)
  have h1 : t.length ≤ 400 := by simp at h1; omega
  have hc := root_ok t ht hn
  unfold treeAg at hc
  simp only [Sub.ow, Sub.obs] at hc
  refine callq_of false [] hc rfl trivial (vc trivial) ?_
  rintro r out ⟨rfl, rfl⟩
  refine ⟨by simp, by simp, by simp, vc ?_⟩
  refine brB_intro (fun h2 => hno _ (fun e => by rw [e.2.1] at h2; cases h2)) (fun h2 => ?_)
  have h2 : (rootT t).2 = true := by simpa using h2
  have hf := full_ok (rootT t).1.sz (rootT t).1 true (Nat.le_refl _) hsz
  unfold Sub.rd at hf
  refine callq_of true [] hf rfl trivial (vc trivial) ?_
  rintro r out ⟨rfl, rfl⟩
  refine ⟨by simp, by simp, fun _ => ⟨.v _, by simp⟩, vc ?_⟩
  refine brB_intro (fun h3 => hno _ (fun e => by rw [e.2.2.1] at h3; cases h3)) (fun h3 => ?_)
  have h3 : (rootT t).1.full true = true := by simpa using h3
  have hd := (deep_ok (rootT t).1.sz (rootT t).1 (Nat.le_refl _) hsz).2
  unfold Sub.rd at hd
  refine callq_of true [] hd rfl trivial (vc trivial) ?_
  rintro r out ⟨rfl, rfl⟩
  refine ⟨by simp, by simp, fun _ => ⟨.v _, by simp⟩, vc ?_⟩
  refine brB_intro (fun h4 => hno _ (fun e => by have := e.2.2.2.1; simp at h4; omega)) (fun h4 => ?_)
  have h4 : 0 ≤ (rootT t).1.deep := by simpa using h4
  have hp := pairs_ok (rootT t).1.sz (rootT t).1 (Nat.le_refl _) hsz hps
  unfold Sub.rd at hp
  refine callq_of true [] hp rfl trivial (vc trivial) ?_
  rintro r out ⟨rfl, rfl⟩
  refine ⟨by simp, by simp, ?_, vc ?_⟩
  · exact fun _ => ⟨.sl 1 _ (by omega) (by simp), by intro ob h; simp at h; subst h; exact .inr (own_pr _)⟩
  refine callq_of true [] (specPairsOk_ok (rootT t).1.pairs hps) rfl trivial (vc trivial) ?_
  rintro r out ⟨rfl, rfl⟩
  refine ⟨by simp, by simp, fun _ => ⟨.v _, by simp⟩, vc ?_⟩
  refine brB_intro (fun h5 => hno _ (fun e => by rw [tf_true e.2.2.2.2.1] at h5; cases h5)) (fun h5 => ?_)
  have h5 : pairsOk (rootT t).1.pairs := by
    by_cases e : pairsOk (rootT t).1.pairs
    · exact e
    · rw [tf_false e] at h5; cases h5
  have hl := lay0_ok (rootT t).1 hsz hps
  unfold Sub.rd at hl
  refine callq_of true [] hl rfl trivial (vc trivial) ?_
  rintro r out ⟨rfl, rfl⟩
  refine ⟨by simp, by simp, ?_, vc ?_⟩
  · exact fun _ => ⟨.sl 1 _ (by omega) (by simp), by intro ob h; simp at h; subst h; exact .inr (own_nd _)⟩
  refine brB_intro (fun h6 => hno _ (fun e => by rw [e.2.2.2.2.2] at h6; simp at h6)) (fun h6 => ?_)
  have h6 : (layT [] (rootT t).1).length = t.length := by simp at h6; omega
  generalize hL : layT [] (rootT t).1 = L at *
  refine loopQ_of (fun i => [(1, .pt 1 0 0), (5, .sl 2 L.length), (47, In L.length), (48, In (i : Nat))]) (fun i => [(1, .box 33 [Rw (t.map (ndC false))]), (2, .rw 111 3 (L.map (ndC true)))]) 3 (fun i => L.length - i) (fun i => i ≤ L.length ∧ L.take i = t.take i) 0 ⟨Nat.zero_le _, rfl⟩ [(2, 297)] (by rfl) (vc ?_) (vc ?_) (fun i hi N hN => vc (brB_intro (fun h => ?_) (fun h => ?_)))
  · trivial
  · trivial
  · have h : i < L.length := by simpa using h
    have hx := List.getElem?_eq_getElem h
    have hy := List.getElem?_eq_getElem (show i < t.length by omega)
    refine drawQ_of false (by rfl) (by simp) (vc ?_)
    refine ⟨h, ?_⟩
    rw [get_map hx, ndC]
    refine vc ?_
    rw [get_map hy, ndC]
    refine vc ?_
    have hs := sameNode_ok L[i] t[i] (hly _ (List.getElem_mem h)) (hn _ (List.getElem_mem (show i < t.length by omega)))
    unfold Nd.rd at hs
    refine calld_of [] true [] hs rfl trivial (vc trivial) (by rfl) ⟨_, _, rfl, rfl⟩ ?_
    rintro r out ⟨rfl, rfl⟩
    refine ⟨by simp, by simp, fun _ => ⟨.v _, by simp⟩, vc ?_⟩
    refine brB_intro (fun hb => hno _ (fun e => ?_)) (fun hb => ?_)
    · have e2 := e.2.2.2.2.2
      subst e2
      simp at hb
    · have hb : L[i] = t[i] := by simpa using hb
      refine hN _ (i + 1) [] ⟨h, take_next hi.2 hx hy hb⟩ (by omega) (by rfl) (vc ?_) (vc trivial)
      rw [w64 _ (by omega)]; simp
  · have h : i = L.length := by simp at h; omega
    refine EndQ.closed (.v _) ⟨?_, rfl⟩
    have e : L = t := by have := hi.2; rwa [h, List.take_length, h6, List.take_length] at this
    rw [tf_true (.inr ⟨h1, h2, h3, h4, h5, by rw [hL]; exact e⟩)]
end Go.Proofs.YtnnmpdanfeejbaaGreat.Abs

/- What is read of a tree: its size. -/
namespace Go.Proofs.YtnnmpdanfeejbaaGreat.Abs
open Go Go.Proofs
set_option maxRecDepth 10000
set_option linter.unusedVariables false
set_option linter.unusedSimpArgs false
theorem rdT_size (t : List Nd) (b : Nat) (hb : ∀ x ∈ t, x.ps.length ≤ b) : ∀ (f : Nat) (a : Int) (s : Sub) (nx : Int), rdT t f a = some (s, nx) → 0 ≤ a ∧ nx = a + s.sz ∧ nx ≤ t.length ∧ s.pairs.length ≤ b * s.sz
  | 0, a, s, nx, h => by rw [rdT] at h; cases h
  | f + 1, a, s, nx, h => by
    rw [rdT] at h
    split at h
    · cases h
    rename_i hc
    have ha : 0 ≤ a := by omega
    obtain ⟨a, rfl⟩ : ∃ k : Nat, a = k := ⟨a.toNat, by omega⟩
    have h2 : a < t.length := by omega
    rw [Int.toNat_natCast, List.getElem?_eq_getElem h2, Option.getD_some] at h
    have hk : ∀ (cs : List Int) (m : Int) (ks : List Sub) (nx : Int), m ≤ t.length → rdT.rdK (rdT t f) cs m = some (ks, nx) → nx = m + Sub.szL ks ∧ nx ≤ t.length ∧ (Sub.pairsL ks).length ≤ b * Sub.szL ks := by
      intro cs
      induction cs with
      | nil => intro m ks nx hm h; rw [rdT.rdK] at h; cases h; simp [Sub.szL, Sub.pairsL, hm]
      | cons k r ih =>
        intro m ks nx hm h
        rw [rdT.rdK] at h
        split at h
        · rename_i hk
          subst hk
          cases hr : rdT t f k with
          | none => rw [hr] at h; cases h
          | some x =>
            obtain ⟨x, nx1⟩ := x
            obtain ⟨g1, g2, g3, g4⟩ := rdT_size t b hb f k x nx1 hr
            rw [hr, Option.bind_some] at h
            cases hr2 : rdT.rdK (rdT t f) r nx1 with
            | none => simp only [hr2] at h; cases h
            | some y =>
              obtain ⟨y, nx2⟩ := y
              simp only [hr2, Option.map_some, Option.some.injEq, Prod.mk.injEq] at h
              obtain ⟨rfl, rfl⟩ := h
              obtain ⟨q1, q2, q3⟩ := ih nx1 y nx2 g3 hr2
              refine ⟨?_, q2, ?_⟩
              · rw [Sub.szL]; omega
              · rw [Sub.pairsL, Sub.szL, List.length_append, Nat.mul_add]; omega
        · cases h
    cases hr : rdT.rdK (rdT t f) t[a].cs (a + 1) with
    | none => rw [hr] at h; cases h
    | some y =>
      obtain ⟨y, nx2⟩ := y
      rw [hr] at h
      simp only [Option.map_some, Option.some.injEq, Prod.mk.injEq] at h
      obtain ⟨rfl, rfl⟩ := h
      obtain ⟨q1, q2, q3⟩ := hk _ _ _ _ (by omega) hr
      refine ⟨by omega, ?_, q2, ?_⟩
      · rw [Sub.sz]; omega
      · rw [Sub.pairs, Sub.sz, List.length_append, Nat.mul_add]
        have := hb _ (List.getElem_mem h2)
        omega
theorem rootT_size (t : List Nd) (b : Nat) (hb : ∀ x ∈ t, x.ps.length ≤ b) : (rootT t).1.sz ≤ t.length + 1 ∧ (rootT t).1.pairs.length ≤ b * t.length := by
  have h0 : ∀ l : Bool, (Sub.mk l [] []).sz = 1 ∧ (Sub.mk l [] []).pairs.length = 0 := fun l => by rw [Sub.sz, Sub.pairs]; simp [Sub.szL, Sub.pairsL]
  unfold rootT
  split
  · simp only [h0]; omega
  · cases hr : rdT t 13 0 with
    | none => simp only [h0]; omega
    | some x =>
      obtain ⟨s, nx⟩ := x
      obtain ⟨g1, g2, g3, g4⟩ := rdT_size t b hb 13 0 s nx hr
      have : s.sz ≤ t.length := by omega
      refine ⟨by show s.sz ≤ _; omega, ?_⟩
      show s.pairs.length ≤ _
      exact Nat.le_trans g4 (Nat.mul_le_mul_left b (by omega))
mutual
theorem Sub.lay_le : ∀ (s : Sub) (a : Nat), ∀ x ∈ s.lay a, x.ps.length ≤ s.pairs.length ∧ x.ks.length ≤ s.sz ∧ x.cs.length ≤ s.sz
  | .mk l ps ks, a, x, hx => by
    rw [Sub.lay] at hx
    rw [Sub.pairs, Sub.sz, List.length_append]
    split at hx
    · simp at hx; subst hx; simp
    · rcases List.mem_cons.1 hx with rfl | hx
      · have := Sub.szL_len ks
        have h1 := Sub.plcs_len ks (a + 1)
        have h2 : (Sub.leasts ks).length = ks.length := by rw [Sub.leasts_eq, List.length_map]
        simp only [List.length_nil, List.length_drop]
        omega
      · have := Sub.layL_le ks (a + 1) x hx
        omega
theorem Sub.layL_le : ∀ (l : List Sub) (a : Nat), ∀ x ∈ Sub.layL a l, x.ps.length ≤ (Sub.pairsL l).length ∧ x.ks.length ≤ Sub.szL l ∧ x.cs.length ≤ Sub.szL l
  | [], a, x, hx => by rw [Sub.layL] at hx; simp at hx
  | y :: r, a, x, hx => by
    rw [Sub.layL] at hx
    rw [Sub.pairsL, Sub.szL, List.length_append]
    rcases List.mem_append.1 hx with hx | hx
    · have := Sub.lay_le y a x hx; omega
    · have := Sub.layL_le r _ x hx; omega
end
/-- A list of nodes of a moderate size. -/
def small (t : List Nd) : Prop := t.length ≤ 2^20 ∧ ∀ x ∈ t, x.fits (2^20)
theorem small_ok {t : List Nd} (h : small t) : (t.length ≤ 2^40 ∧ ∀ x ∈ t, x.le (2^40)) ∧ (rootT t).1.sz ≤ 2^40 ∧ (rootT t).1.pairs.length ≤ 2^40 ∧ ∀ x ∈ layT [] (rootT t).1, x.le (2^40) := by
  have h1 := rootT_size t (2^20) (fun x hx => (h.2 x hx).1)
  have h2 := h.1
  have h3 : (rootT t).1.pairs.length ≤ 2^40 := Nat.le_trans h1.2 (Nat.le_trans (Nat.mul_le_mul_left _ h2) (by decide))
  refine ⟨⟨by omega, fun x hx => ?_⟩, by omega, h3, fun x hx => ?_⟩
  · obtain ⟨g1, g2, g3, _⟩ := h.2 x hx
    exact ⟨by omega, by omega, by omega⟩
  · have := Sub.lay_le _ _ x hx
    exact ⟨by omega, by omega, by omega⟩
theorem specTreeOk_small {t : List Nd} (h : small t) : CallOk Tryz.prog 44 [] [treeAg t] (fun r out => r = Bo (tf (specOk t)) ∧ out = []) := by
  obtain ⟨⟨h1, h2⟩, h3, h4, h5⟩ := small_ok h
  exact specTreeOk_ok t h1 h2 h3 h4 h5
end Go.Proofs.YtnnmpdanfeejbaaGreat.Abs

/- The reference: how deep, all pairs, one pair. -/
namespace Go.Proofs.YtnnmpdanfeejbaaGreat.Abs
open Go Go.Proofs
set_option maxRecDepth 10000
set_option linter.unusedVariables false
set_option linter.unusedSimpArgs false
end Go.Proofs.YtnnmpdanfeejbaaGreat.Abs

/- The program's trees within: leaf, least, all. -/
namespace Go.Proofs.YtnnmpdanfeejbaaGreat.Abs
open Go Go.Proofs
set_option maxRecDepth 10000
set_option linter.unusedVariables false
set_option linter.unusedSimpArgs false
mutual
/-- A twig's cells. -/
def twC : Sub → List CV
  | .mk _ ps ks => [.row false (ps.map prC), .row false (twL ks)]
def twL : List Sub → List (List CV)
  | [] => []
  | x :: r => [.ptr (twC x) 0] :: twL r
end
theorem twL_map : ∀ l : List Sub, twL l = l.map fun x => [.ptr (twC x) 0]
  | [] => by rw [twL]; rfl
  | x :: r => by rw [twL, twL_map r]; rfl
theorem twC_eq (s : Sub) : twC s = [.row false (s.ps.map prC), .row false (s.ks.map fun x => [.ptr (twC x) 0])] := by
  cases s; rw [twC, twL_map]; rfl
def Sub.tw (s : Sub) : AV := .c (.ptr (twC s) 0)
theorem isLeaf_ok (s : Sub) : CallOk Tryz.prog 212 [] [s.tw] (fun r out => r = Bo (decide (s.ks.length = 0)) ∧ out = []) := by
  unfold Sub.tw
  rw [twC_eq]
  refine callOk_z (np := 0) {} mixed Tryz.func212 (by rfl) Tryz.ntmps212 Tryz.results212 (by rfl) (Nat.le_of_ble_eq_true rfl) rfl rfl rfl (vc ?_)
  refine EndQ.closed (.v _) ⟨?_, rfl⟩
  have : (((s.ks.length : Nat) : Int) == 0) = decide (s.ks.length = 0) := by rw [Bool.eq_iff_iff]; simp
  rw [this]
mutual
/-- The pairs of the leaf that lies leftmost. -/
def Sub.lmost : Sub → List Pr
  | .mk _ ps ks => (Sub.lmostL ks).getD ps
def Sub.lmostL : List Sub → Option (List Pr)
  | [] => none
  | x :: _ => some x.lmost
end
theorem Sub.lmost_eq (s : Sub) : s.lmost = match s.ks with | [] => s.ps | x :: _ => x.lmost := by
  obtain ⟨l, ps, ks⟩ := s
  rw [Sub.lmost]
  cases ks with
  | nil => rw [Sub.lmostL]; rfl
  | cons x r => rw [Sub.lmostL]; rfl
theorem twLeast_ok (s : Sub) (hs : s.lmost ≠ []) : CallOk Tryz.prog 197 [] [.c (.ptr (twC s) 0)] (fun r out => r = .c (.v (.string (fstK s.lmost))) ∧ out = []) := by
  refine callOk_z (np := 0) {} mixed Tryz.func197 (by rfl) Tryz.ntmps197 Tryz.results197 (by rfl) (Nat.le_of_ble_eq_true rfl) rfl rfl rfl (vc ?_)
  refine loopQ_of (ι := Sub) (fun x => [(0, .c (.ptr (twC x) 0))]) (fun x => []) 1 (fun x => x.sz) (fun x => x.lmost = s.lmost) s rfl [] (by rfl) (vc trivial) (vc trivial) (fun x hx N hN => vc ?_)
  have hl := isLeaf_ok x
  unfold Sub.tw at hl
  refine callq_of false [] hl rfl trivial (vc trivial) ?_
  rintro r out ⟨rfl, rfl⟩
  refine ⟨by simp, by simp, by simp, vc ?_⟩
  obtain ⟨l, ps, ks⟩ := x
  rw [Sub.lmost_eq] at hx
  rw [twC_eq]
  simp only [Sub.ps, Sub.ks] at hx ⊢
  cases ks with
  | nil =>
    refine brB_intro (fun h => by simp at h) (fun h => vc ?_)
    cases ps with
    | nil => exact absurd hx.symm hs
    | cons p r =>
      rw [List.map_cons, prC]
      refine vc ?_
      refine EndQ.closed (.v _) ⟨?_, rfl⟩
      rw [← hx]; rfl
  | cons y r =>
    refine brB_intro (fun h => vc ?_) (fun h => by simp at h)
    refine hN _ y [] hx (Sub.sz_kid (s := .mk l ps (y :: r)) (List.mem_cons_self ..)) (by rfl) (vc trivial) (vc trivial)
end Go.Proofs.YtnnmpdanfeejbaaGreat.Abs

/- The program's trees within: all pairs. -/
namespace Go.Proofs.YtnnmpdanfeejbaaGreat.Abs
open Go Go.Proofs
set_option maxRecDepth 10000
set_option linter.unusedVariables false
set_option linter.unusedSimpArgs false
mutual
/-- All pairs, as the program gathers them. -/
def Sub.gath : Sub → List Pr
  | .mk _ ps ks => Sub.gathL ks ++ ps
def Sub.gathL : List Sub → List Pr
  | [] => []
  | x :: r => x.gath ++ Sub.gathL r
end
theorem Sub.gath_eq (s : Sub) : s.gath = Sub.gathL s.ks ++ s.ps := by cases s; rw [Sub.gath]; rfl
theorem Sub.gathL_app (a b : List Sub) : Sub.gathL (a ++ b) = Sub.gathL a ++ Sub.gathL b := by
  induction a with
  | nil => rfl
  | cons x r ih => rw [List.cons_append, Sub.gathL, Sub.gathL, ih, List.append_assoc]
theorem Sub.gathL_next {l : List Sub} {i : Nat} {x : Sub} (h : l[i]? = some x) : Sub.gathL (l.take (i + 1)) = Sub.gathL (l.take i) ++ x.gath := by
  rw [List.take_add_one, h, Sub.gathL_app]; simp [Sub.gathL]
theorem all_ok : ∀ (n : Nat) (s : Sub) (acc : List Pr), s.sz ≤ n → s.sz ≤ 2^40 → acc.length + s.gath.length ≤ 2^40 → CallOk Tryz.prog 168 [.rw 141 2 (acc.map prC)] [.c (.ptr (twC s) 0), .sl 1 acc.length] (fun r out => r = .sl 2 (acc ++ s.gath).length ∧ out = [none, some (.rw 141 2 ((acc ++ s.gath).map prC))]) := by
  intro n
  induction n with
  | zero => intro s acc hs; cases s; rw [Sub.sz] at hs; omega
  | succ n ih =>
    intro s acc hs hk hp
    rw [twC_eq, Sub.gath_eq] at *
    have hkl := s.ks_len
    refine callOk_z (np := 1) {} mixed Tryz.func168 (by rfl) Tryz.ntmps168 Tryz.results168 (by rfl) (Nat.le_of_ble_eq_true rfl) rfl rfl rfl (vc ?_)
    rw [List.length_append] at hp
    refine loopQ_of (fun i => [(0, .c (.ptr [.row false (s.ps.map prC), .row false (s.ks.map fun x => [.ptr (twC x) 0])] 0)), (1, .sl 2 (acc ++ Sub.gathL (s.ks.take i)).length), (10, Rw (s.ks.map fun x => [.ptr (twC x) 0])), (11, In s.ks.length), (12, In (i : Nat))]) (fun i => [(2, .rw 141 2 ((acc ++ Sub.gathL (s.ks.take i)).map prC))]) 3 (fun i => s.ks.length - i) (fun i => i ≤ s.ks.length) 0 (Nat.zero_le _) [(2, 1)] (by rfl) (vc ?_) (vc ?_) (fun i hi N hN => vc (brB_intro (fun h => ?_) (fun h => ?_)))
    · simp [Sub.gathL]
    · simp [Sub.gathL]
    · have h : i < s.ks.length := by simpa using h
      have hx := List.getElem?_eq_getElem h
      have hm := List.getElem_mem h
      have hnx := Sub.gathL_next hx
      have hle : (Sub.gathL (s.ks.take (i + 1))).length ≤ (Sub.gathL s.ks).length := by
        conv => rhs; rw [← List.take_append_drop (i + 1) s.ks, Sub.gathL_app]
        rw [List.length_append]; omega
      rw [hnx, List.length_append] at hle
      rw [get_map hx]
      refine vc ?_
      have hc := ih s.ks[i] (acc ++ Sub.gathL (s.ks.take i)) (by have := Sub.sz_kid hm; omega) (by have := Sub.sz_kid hm; omega) (by rw [List.length_append]; omega)
      refine callq_of false [2] hc rfl (vc trivial) (vc trivial) ?_
      rintro r out ⟨rfl, rfl⟩
      refine ⟨by simp, by simp, by simp, vc ?_⟩
      refine hN _ (i + 1) [(2, 51)] h (by omega) (by rfl) (vc ?_) (vc ?_)
      · rw [hnx, w64 _ (by omega)]; simp
      · rw [hnx]; simp
    · have h : i = s.ks.length := by simp at h; omega
      subst h
      rw [List.take_length]
      refine ⟨⟨by unfold maxLen; simp; omega, by simp; omega⟩, ?_⟩
      refine endQ_of [(2, 51)] (.sl 2 (acc ++ (Sub.gathL s.ks ++ s.ps)).length) [none, some (.rw 141 2 ((acc ++ (Sub.gathL s.ks ++ s.ps)).map prC))] (by rfl) (vc ?_) (vc ?_) ⟨rfl, rfl⟩
      · simp; omega
      · simp
theorem all0_ok (s : Sub) (hk : s.sz ≤ 2^40) (hp : s.gath.length ≤ 2^40) : CallOk Tryz.prog 168 [] [.c (.ptr (twC s) 0), .nul] (fun r out => r = .sl 1 s.gath.length ∧ out = [some (.rw 141 2 (s.gath.map prC))]) := by
  rw [twC_eq, Sub.gath_eq] at *
  have hkl := s.ks_len
  refine callOk_z (np := 0) {} mixed Tryz.func168 (by rfl) Tryz.ntmps168 Tryz.results168 (by rfl) (Nat.le_of_ble_eq_true rfl) rfl rfl rfl (vc ?_)
  rw [List.length_append] at hp
  refine loopQ_of (fun i => [(0, .c (.ptr [.row false (s.ps.map prC), .row false (s.ks.map fun x => [.ptr (twC x) 0])] 0)), (1, .sl 1 (Sub.gathL (s.ks.take i)).length), (10, Rw (s.ks.map fun x => [.ptr (twC x) 0])), (11, In s.ks.length), (12, In (i : Nat))]) (fun i => [(1, .rw 141 2 ((Sub.gathL (s.ks.take i)).map prC))]) 2 (fun i => s.ks.length - i) (fun i => i ≤ s.ks.length) 0 (Nat.zero_le _) [(1, 0)] (by rfl) (vc ?_) (vc ?_) (fun i hi N hN => vc (brB_intro (fun h => ?_) (fun h => ?_)))
  · simp [Sub.gathL]
  · simp [Sub.gathL]
  · have h : i < s.ks.length := by simpa using h
    have hx := List.getElem?_eq_getElem h
    have hm := List.getElem_mem h
    have hnx := Sub.gathL_next hx
    have hle : (Sub.gathL (s.ks.take (i + 1))).length ≤ (Sub.gathL s.ks).length := by
      conv => rhs; rw [← List.take_append_drop (i + 1) s.ks, Sub.gathL_app]
      rw [List.length_append]; omega
    rw [hnx, List.length_append] at hle
    rw [get_map hx]
    refine vc ?_
    have hc := all_ok s.ks[i].sz s.ks[i] (Sub.gathL (s.ks.take i)) (Nat.le_refl _) (by have := Sub.sz_kid hm; omega) (by omega)
    refine callq_of false [1] hc rfl (vc trivial) (vc trivial) ?_
    rintro r out ⟨rfl, rfl⟩
    refine ⟨by simp, by simp, by simp, vc ?_⟩
    refine hN _ (i + 1) [(1, 50)] h (by omega) (by rfl) (vc ?_) (vc ?_)
    · rw [hnx, w64 _ (by omega)]; simp
    · rw [hnx]
  · have h : i = s.ks.length := by simp at h; omega
    subst h
    rw [List.take_length]
    refine ⟨⟨by unfold maxLen; omega, by omega⟩, ?_⟩
    refine endQ_of [(1, 50)] (.sl 1 ((Sub.gathL s.ks ++ s.ps)).length) [some (.rw 141 2 (((Sub.gathL s.ks ++ s.ps)).map prC))] (by rfl) (vc ?_) (vc ?_) ⟨rfl, rfl⟩
    · simp
    · simp
end Go.Proofs.YtnnmpdanfeejbaaGreat.Abs

/- The program's trees within, pure: what is grown of nodes, and that both sides call the same trees right. -/
namespace Go.Proofs.YtnnmpdanfeejbaaGreat.Abs
open Go Go.Proofs
set_option maxRecDepth 10000
set_option linter.unusedVariables false
set_option linter.unusedSimpArgs false
/-- What is grown of the nodes from a place on: the sub, the place behind it, how far the leaves are. -/
def gK (rd : Int → Option (Sub × Int × Int)) : List Int → List ByteArray → Bool → Int → Int → Option (List Sub × Int × Int)
  | [], _, _, nx, d => some ([], nx, d)
  | k :: r, ks, first, nx, d => if k = nx then (rd k).bind fun x => if first = false ∧ (x.2.2 ≠ d ∨ ks.head? ≠ some (fstK x.1.lmost)) then none else (gK rd r ks.tail false x.2.1 x.2.2).map fun y => (x.1 :: y.1, y.2) else none
def gN (rd : Int → Option (Sub × Int × Int)) (n : Nd) (a : Int) (root : Bool) : Option (Sub × Int × Int) :=
  if n.cs.length = 0 then (if (if root = true then 1 else 2) ≤ n.ps.length ∧ n.ps.length ≤ 4 ∧ n.ks.length = 0 then some (.mk true n.ps [], a + 1, 1) else none)
  else if (2 ≤ n.cs.length ∧ n.cs.length ≤ 4) ∧ n.ks.length + 1 = n.cs.length ∧ n.ps.length = 0 then (gK rd n.cs (⟨#[]⟩ :: n.ks) true (a + 1) 0).map fun x => (.mk false [] x.1, x.2.1, x.2.2 + 1) else none
def gT (t : List Nd) : Nat → Int → Bool → Option (Sub × Int × Int)
  | 0, _, _ => none
  | f + 1, a, root => if (t.length : Int) ≤ a then none else gN (fun k => gT t f k false) (t[a.toNat]?.getD default) a root
mutual
/-- A leaf has no kids. -/
def Sub.wf : Sub → Prop
  | .mk l _ ks => (l = true → ks = []) ∧ Sub.wfL ks
def Sub.wfL : List Sub → Prop
  | [] => True
  | x :: r => x.wf ∧ Sub.wfL r
end
/-- These nodes lie in the tree from a place on. -/
def At (t : List Nd) : Nat → List Nd → Prop
  | _, [] => True
  | a, x :: l => t[a]? = some x ∧ At t (a + 1) l
theorem At_app {t : List Nd} : ∀ {l m : List Nd} {a : Nat}, At t a (l ++ m) ↔ At t a l ∧ At t (a + l.length) m
  | [], m, a => by simp [At]
  | x :: l, m, a => by
    rw [List.cons_append, At, At, At_app, List.length_cons, and_assoc, show a + 1 + l.length = a + (l.length + 1) by omega]
theorem At_len {t : List Nd} : ∀ {l : List Nd} {a : Nat}, At t a l → l = [] ∨ a + l.length ≤ t.length
  | [], a, _ => .inl rfl
  | x :: l, a, h => by
    have h1 : a < t.length := (List.getElem?_eq_some_iff.1 h.1).1
    refine .inr ?_
    rcases At_len h.2 with e | e
    · subst e; simp; omega
    · simp; omega
theorem At_eq {t : List Nd} : ∀ {l : List Nd} {a : Nat}, At t a l → a + l.length = t.length → l = t.drop a
  | [], a, _, e => by simp at e; rw [List.drop_of_length_le (by omega)]
  | x :: l, a, h, e => by
    obtain ⟨h1, h2⟩ := List.getElem?_eq_some_iff.1 h.1
    rw [List.drop_eq_getElem_cons h1, h2, ← At_eq h.2 (by simp at e; omega)]
theorem At_self (t : List Nd) : ∀ (a : Nat), At t a (t.drop a)
  | a => by
    by_cases h : a < t.length
    · rw [List.drop_eq_getElem_cons h]
      exact ⟨List.getElem?_eq_getElem h, At_self t (a + 1)⟩
    · rw [List.drop_of_length_le (by omega)]; trivial
  termination_by a => t.length - a
/-- What is known of a grown sub. -/
def gOk (t : List Nd) (a : Nat) (root : Bool) (x : Sub × Int × Int) : Prop :=
  At t a (x.1.lay a) ∧ x.2.1 = ((a + (x.1.lay a).length : Nat) : Int) ∧ x.1.wf ∧ x.1.full root = true ∧ x.1.deep = x.2.2 ∧ 1 ≤ x.2.2 ∧ x.1.lmost ≠ [] ∧ fstK x.1.lmost = x.1.least
theorem gK_sound {t : List Nd} {rd : Int → Option (Sub × Int × Int)} (hrd : ∀ (k : Nat) x, rd k = some x → gOk t k false x) : ∀ (cs : List Int) (ks : List ByteArray) (nx : Nat) (d : Int) (y : List Sub × Int × Int), gK rd cs ks false nx d = some y → ks.length = cs.length → 1 ≤ d →
    y.1.length = cs.length ∧ cs = Sub.plcs nx y.1 ∧ ks = Sub.leasts y.1 ∧ At t nx (Sub.layL nx y.1) ∧ y.2.1 = ((nx + (Sub.layL nx y.1).length : Nat) : Int) ∧ Sub.wfL y.1 ∧ Sub.fullL y.1 = true ∧ Sub.deepL false (d + 1) y.1 = d + 1 ∧ y.2.2 = d := by
  intro cs
  induction cs with
  | nil =>
    intro ks nx d y h hk hd
    simp only [gK, Option.some.injEq] at h
    subst h
    simp at hk
    subst hk
    simp [Sub.plcs, Sub.leasts, Sub.layL, At, Sub.wfL, Sub.fullL, Sub.deepL]
  | cons k r ih =>
    intro ks nx d y h hk hd
    rw [gK] at h
    by_cases e : k = (nx : Int)
    · rw [if_pos e] at h
      subst e
      cases hr : rd (nx : Int) with
      | none => rw [hr] at h; simp at h
      | some x =>
        rw [hr, Option.bind_some] at h
        obtain ⟨g1, g2, g3, g4, g5, g6, g7, g8⟩ := hrd nx x hr
        split at h
        · simp at h
        · rename_i hx
          simp only [true_and, not_or, Decidable.not_not] at hx
          obtain ⟨hx1, hx2⟩ := hx
          obtain ⟨z, hz, rfl⟩ := Option.map_eq_some_iff.1 h
          cases ks with
          | nil => simp at hk
          | cons kk ks =>
            simp only [List.length_cons, List.tail_cons, List.head?_cons, Option.some.injEq] at hk hx2 hz
            rw [g2] at hz
            obtain ⟨i1, i2, i3, i4, i5, i6, i7, i8, i9⟩ := ih ks _ _ z hz (by omega) g6
            rw [hx1] at i8 i9
            refine ⟨by simp [i1], ?_, ?_, ?_, ?_, ⟨g3, i6⟩, ?_, ?_, i9⟩
            · rw [Sub.plcs, ← i2]
            · rw [Sub.leasts, ← i3, hx2, g8]
            · rw [Sub.layL, At_app]; exact ⟨g1, i4⟩
            · rw [i5, Sub.layL, List.length_append]; omega
            · rw [Sub.fullL, g4, i7]; rfl
            · rw [Sub.deepL, g5, hx1, if_neg (by simp; omega)]; exact i8
    · rw [if_neg e] at h; cases h
theorem gN_sound {t : List Nd} {rd : Int → Option (Sub × Int × Int)} (hrd : ∀ (k : Nat) x, rd k = some x → gOk t k false x) {n : Nd} {a : Nat} (hn : t[a]? = some n) {root : Bool} {x : Sub × Int × Int} (h : gN rd n a root = some x) : gOk t a root x := by
  unfold gN at h
  obtain ⟨ps, ks, cs⟩ := n
  simp only at h
  by_cases h0 : cs.length = 0
  · rw [if_pos h0] at h
    by_cases h1 : (if root = true then 1 else 2) ≤ ps.length ∧ ps.length ≤ 4 ∧ ks.length = 0
    · rw [if_pos h1] at h
      cases h
      have hks : ks = [] := List.length_eq_zero_iff.1 h1.2.2
      have hcs : cs = [] := List.length_eq_zero_iff.1 h0
      subst hks hcs
      refine ⟨?_, ?_, ⟨fun _ => rfl, trivial⟩, ?_, ?_, by simp, ?_, ?_⟩
      · rw [Sub.lay, if_pos rfl]; exact ⟨hn, trivial⟩
      · rw [Sub.lay, if_pos rfl]; rfl
      · rw [Sub.full, if_pos rfl]
        cases root <;> simp at h1 ⊢ <;> omega
      · rw [Sub.deep, if_pos rfl]
      · rw [Sub.lmost_eq]
        simp only [Sub.ks, Sub.ps]
        intro e
        rw [e] at h1
        cases root <;> simp at h1
      · rw [Sub.lmost_eq, Sub.least, if_pos rfl]; rfl
    · rw [if_neg h1] at h; cases h
  · rw [if_neg h0] at h
    split at h
    · rename_i h1
      obtain ⟨⟨h1, h2⟩, h3, h4⟩ := h1
      have hps : ps = [] := List.length_eq_zero_iff.1 h4
      subst hps
      obtain ⟨y, hy, rfl⟩ := Option.map_eq_some_iff.1 h
      cases cs with
      | nil => simp at h0
      | cons c cs =>
        rw [gK] at hy
        split at hy
        · rename_i hc
          subst hc
          cases hr : rd ((a : Int) + 1) with
          | none => rw [hr] at hy; simp at hy
          | some x =>
            rw [hr, Option.bind_some, if_neg (by simp)] at hy
            have hr' : rd ((a + 1 : Nat) : Int) = some x := hr
            obtain ⟨g1, g2, g3, g4, g5, g6, g7, g8⟩ := hrd _ x hr'
            obtain ⟨z, hz, rfl⟩ := Option.map_eq_some_iff.1 hy
            simp only [List.length_cons, List.tail_cons] at h1 h2 h3 hz
            rw [g2] at hz
            obtain ⟨i1, i2, i3, i4, i5, i6, i7, i8, i9⟩ := gK_sound hrd _ _ _ _ z hz (by omega) g6
            refine ⟨?_, ?_, ⟨by simp, g3, i6⟩, ?_, ?_, ?_, ?_, ?_⟩
            · rw [Sub.lay, if_neg (by simp)]
              refine ⟨?_, ?_⟩
              · rw [hn, Sub.leasts, Sub.plcs, ← i2, i3]; rfl
              · rw [Sub.layL, At_app]; exact ⟨g1, i4⟩
            · rw [Sub.lay, if_neg (by simp), List.length_cons, Sub.layL, List.length_append]
              simp only [i5]; omega
            · rw [Sub.full, if_neg (by simp), Sub.fullL, g4, i7]; simp; omega
            · rw [Sub.deep, if_neg (by simp), Sub.deepL, g5, if_neg (by simp; omega)]
              simp only [i9]; exact i8
            · simp only [i9]; omega
            · rw [Sub.lmost_eq]; exact g7
            · rw [Sub.lmost_eq, Sub.least, if_neg (by simp)]; exact g8
        · cases hy
    · cases h
theorem gT_sound (t : List Nd) : ∀ (f a : Nat) (root : Bool) (x : Sub × Int × Int), gT t f a root = some x → gOk t a root x := by
  intro f
  induction f with
  | zero => intro a root x h; simp [gT] at h
  | succ f ih =>
    intro a root x h
    rw [gT] at h
    split at h
    · cases h
    · rename_i ha
      have ha : a < t.length := by omega
      rw [Int.toNat_natCast, List.getElem?_eq_getElem ha] at h
      exact gN_sound (fun k x hx => ih k false x hx) (List.getElem?_eq_getElem ha) h
theorem deepL_cons {x : Sub} {r : List Sub} {f : Bool} {d : Int} (h : 0 ≤ Sub.deepL f d (x :: r)) : 0 ≤ x.deep ∧ (f = true ∨ x.deep + 1 = d) ∧ 0 ≤ Sub.deepL false (x.deep + 1) r ∧ Sub.deepL f d (x :: r) = Sub.deepL false (x.deep + 1) r := by
  rw [Sub.deepL] at h ⊢
  split at h
  · omega
  · rename_i hx
    rw [if_neg hx]
    refine ⟨by omega, ?_, h, rfl⟩
    cases f
    · right; simp at hx; omega
    · left; rfl
theorem deepL_all : ∀ {l : List Sub} {d : Int}, 0 ≤ Sub.deepL false d l → Sub.deepL false d l = d ∧ ∀ x ∈ l, x.deep + 1 = d ∧ 0 ≤ x.deep
  | [], d, h => by simp [Sub.deepL]
  | x :: r, d, h => by
    obtain ⟨h1, h2, h3, h4⟩ := deepL_cons h
    have h2 : x.deep + 1 = d := by simpa using h2
    rw [h2] at h3 h4
    obtain ⟨i1, i2⟩ := deepL_all h3
    rw [h4]
    refine ⟨i1, fun y hy => ?_⟩
    rcases List.mem_cons.1 hy with rfl | hy
    · exact ⟨h2, h1⟩
    · exact i2 y hy
theorem Sub.wf_mem {x : Sub} : ∀ {l : List Sub}, Sub.wfL l → x ∈ l → x.wf
  | y :: r, h, hx => by
    rcases List.mem_cons.1 hx with rfl | hx
    · exact h.1
    · exact Sub.wf_mem h.2 hx
/-- Of a sub that is right: what its head says. -/
theorem Sub.head {s : Sub} {root : Bool} (hw : s.wf) (hf : s.full root = true) (hd : 0 ≤ s.deep) :
    (s.leaf = true ∧ s.ks = [] ∧ s.ps ≠ [] ∧ s.deep = 1 ∧ s.ps.length ≤ 4 ∧ (if root = true then 1 else 2) ≤ s.ps.length) ∨
    (s.leaf = false ∧ s.ps = [] ∧ 2 ≤ s.ks.length ∧ s.ks.length ≤ 4 ∧ (∀ x ∈ s.ks, x.wf ∧ x.full false = true ∧ x.deep + 1 = s.deep ∧ 0 ≤ x.deep)) := by
  obtain ⟨l, ps, ks⟩ := s
  simp only [Sub.leaf, Sub.ks, Sub.ps]
  rw [Sub.wf] at hw
  rw [Sub.full] at hf
  rw [Sub.deep] at hd ⊢
  cases l with
  | true =>
    left
    rw [if_pos rfl] at hf ⊢
    have h1 : (if root = true then 1 else 2) ≤ ps.length := by cases root <;> simp at hf ⊢ <;> omega
    refine ⟨rfl, hw.1 rfl, ?_, rfl, ?_, h1⟩
    · intro e; subst e; cases root <;> simp at h1
    · simp at hf; omega
  | false =>
    right
    rw [if_neg (by simp)] at hf hd ⊢
    simp only [Bool.and_eq_true, decide_eq_true_eq] at hf
    obtain ⟨⟨h1, h2, h3⟩, h4⟩ := hf
    refine ⟨rfl, h3, h1, h2, fun x hx => ?_⟩
    have hfx := (Sub.fullL_all ks).1 h4 x hx
    have hwx := Sub.wf_mem hw.2 hx
    cases ks with
    | nil => simp at h1
    | cons y r =>
      obtain ⟨i1, i2, i3, i4⟩ := deepL_cons hd
      obtain ⟨j1, j2⟩ := deepL_all i3
      refine ⟨hwx, hfx, ?_⟩
      rw [i4, j1]
      rcases List.mem_cons.1 hx with rfl | hx
      · exact ⟨rfl, i1⟩
      · exact ⟨(j2 x hx).1, (j2 x hx).2⟩
theorem Sub.facts : ∀ (n : Nat) (s : Sub) (root : Bool), s.sz ≤ n → s.wf → s.full root = true → 0 ≤ s.deep → s.lmost ≠ [] ∧ fstK s.lmost = s.least ∧ 1 ≤ s.deep ∧ s.gath = s.pairs ∧ (root = false ∨ s.leaf = false → s.sz + 1 ≤ s.pairs.length ∧ 2 ^ s.deep.toNat ≤ s.pairs.length) := by
  intro n
  induction n with
  | zero => intro s root hs; have := s.sz_pos; omega
  | succ n ih =>
    intro s root hs hw hf hd
    have hh := Sub.head hw hf hd
    have hk := fun x hx => ih x false (by have := Sub.sz_kid (s := s) (x := x) hx; omega)
    rw [Sub.lmost_eq, Sub.least_eq, Sub.gath_eq, Sub.pairs_eq]
    rcases hh with ⟨h1, h2, h3, h4, h5, h6⟩ | ⟨h1, h2, h3, h4, h5⟩
    · rw [h2, h1, h4]
      refine ⟨h3, by rw [if_pos rfl], by omega, by simp [Sub.gathL, Sub.pairsL], fun h => ?_⟩
      have hr : root = false := by simpa using h
      rw [hr] at h6
      have hsz : s.sz = 1 := by obtain ⟨l, ps, ks⟩ := s; simp only [Sub.ks] at h2; subst h2; rw [Sub.sz, Sub.szL]
      rw [hsz]
      simp [Sub.pairsL] at h6 ⊢
      omega
    · rw [h1, h2]
      have hall : ∀ (l : List Sub), (∀ x ∈ l, x ∈ s.ks) → Sub.gathL l = Sub.pairsL l ∧ Sub.szL l + l.length ≤ (Sub.pairsL l).length ∧ l.length * 2 ^ (s.deep - 1).toNat ≤ (Sub.pairsL l).length := by
        intro l
        induction l with
        | nil => intro _; simp [Sub.gathL, Sub.pairsL, Sub.szL]
        | cons x r ihl =>
          intro hm
          obtain ⟨a1, a2, a3⟩ := ihl (fun y hy => hm y (List.mem_cons_of_mem _ hy))
          have hx := hm x (List.mem_cons_self ..)
          obtain ⟨f1, f2, f3, f4⟩ := h5 x hx
          obtain ⟨b1, b2, b3, b4, b5⟩ := hk x hx f1 f2 f4
          obtain ⟨b5, b6⟩ := b5 (.inl rfl)
          rw [show s.deep - 1 = x.deep by omega] at a3 ⊢
          rw [Sub.gathL, Sub.pairsL, Sub.szL, List.length_append, List.length_cons, b4, a1, Nat.add_mul]
          refine ⟨rfl, by omega, by omega⟩
      obtain ⟨a1, a2, a3⟩ := hall s.ks (fun _ h => h)
      have hsz : s.sz = 1 + Sub.szL s.ks := by obtain ⟨l, ps, ks⟩ := s; rw [Sub.sz]; rfl
      cases hks : s.ks with
      | nil => rw [hks] at h3; simp at h3
      | cons y r =>
        obtain ⟨f1, f2, f3, f4⟩ := h5 y (by rw [hks]; exact List.mem_cons_self ..)
        obtain ⟨b1, b2, b3, b4, b5⟩ := hk y (by rw [hks]; exact List.mem_cons_self ..) f1 f2 f4
        refine ⟨b1, ?_, by omega, by rw [← hks, a1]; simp, fun _ => ?_⟩
        · rw [Sub.leastL, if_neg (by simp)]; exact b2
        rw [← hks]
        · rw [List.nil_append]
          refine ⟨by omega, ?_⟩
          rw [show s.deep.toNat = (s.deep - 1).toNat + 1 by omega, Nat.pow_succ]
          have := Nat.mul_le_mul_right (2 ^ (s.deep - 1).toNat) h3
          omega
theorem gK_complete {t : List Nd} {rd : Int → Option (Sub × Int × Int)} : ∀ (l : List Sub) (nx : Nat) (d : Int), (∀ x ∈ l, ∀ a : Nat, At t a (x.lay a) → rd a = some (x, ((a + (x.lay a).length : Nat) : Int), d)) → (∀ x ∈ l, fstK x.lmost = x.least) → At t nx (Sub.layL nx l) →
    gK rd (Sub.plcs nx l) (Sub.leasts l) false nx d = some (l, ((nx + (Sub.layL nx l).length : Nat) : Int), d) := by
  intro l
  induction l with
  | nil => intro nx d h1 h2 h3; simp [Sub.plcs, Sub.layL, gK]
  | cons x r ih =>
    intro nx d h1 h2 h3
    rw [Sub.layL, At_app] at h3
    rw [Sub.plcs, Sub.leasts, gK, if_pos rfl, h1 x (List.mem_cons_self ..) nx h3.1, Option.bind_some]
    simp only [List.tail_cons, List.head?_cons]
    rw [if_neg (by rw [h2 x (List.mem_cons_self ..)]; simp), ih _ _ (fun y hy => h1 y (List.mem_cons_of_mem _ hy)) (fun y hy => h2 y (List.mem_cons_of_mem _ hy)) h3.2, Sub.layL, List.length_append]
    simp only [Option.map_some, Nat.add_assoc]
theorem gT_complete (t : List Nd) : ∀ (f : Nat) (s : Sub) (a : Nat) (root : Bool), s.sz ≤ f → s.wf → s.full root = true → 0 ≤ s.deep → At t a (s.lay a) → gT t f a root = some (s, ((a + (s.lay a).length : Nat) : Int), s.deep) := by
  intro f
  induction f with
  | zero => intro s a root hs; have := s.sz_pos; omega
  | succ f ih =>
    intro s a root hs hw hf hd ha
    have hlen := At_len ha
    have hl1 := (Sub.lay_len s a).1
    have hal : a < t.length := by rcases hlen with e | e; (rw [e] at hl1; simp at hl1); omega
    rw [gT, if_neg (by omega), Int.toNat_natCast]
    have hh := Sub.head hw hf hd
    have hkid := fun x hx => Sub.sz_kid (s := s) (x := x) hx
    rcases hh with ⟨h1, h2, h3, h4, h5, h6⟩ | ⟨h1, h2, h3, h4, h5⟩
    · obtain ⟨l, ps, ks⟩ := s
      simp only [Sub.leaf, Sub.ps, Sub.ks] at *
      subst h1 h2
      rw [Sub.lay, if_pos rfl] at ha ⊢
      rw [ha.1, h4]
      unfold gN
      simp only [Option.getD_some, List.length_nil, List.length_singleton]
      rw [if_pos trivial, if_pos ⟨h6, h5, trivial⟩]
      rfl
    · obtain ⟨l, ps, ks⟩ := s
      simp only [Sub.leaf, Sub.ps, Sub.ks] at *
      subst h1 h2
      rw [Sub.lay, if_neg (by simp)] at ha ⊢
      have hk : ∀ x ∈ ks, ∀ b : Nat, At t b (x.lay b) → gT t f b false = some (x, ((b + (x.lay b).length : Nat) : Int), (Sub.mk false [] ks).deep - 1) := fun x hx b hb => by
        obtain ⟨i1, i2, i3, i4⟩ := h5 x hx
        rw [ih x b false (by have := hkid x hx; omega) i1 i2 i4 hb, show (Sub.mk false [] ks).deep - 1 = x.deep by omega]
      have hkl : ∀ x ∈ ks, fstK x.lmost = x.least := fun x hx => by
        obtain ⟨i1, i2, i3, i4⟩ := h5 x hx
        exact (Sub.facts x.sz x false (Nat.le_refl _) i1 i2 i4).2.1
      generalize (Sub.mk false [] ks).deep = D at *
      cases ks with
      | nil => simp at h3
      | cons y r =>
        rw [ha.1]
        have h3' := ha.2
        rw [Sub.layL, At_app] at h3'
        unfold gN
        simp only [Option.getD_some, Sub.plcs, Sub.leasts, List.drop_succ_cons, List.drop_zero, List.length_cons, Sub.plcs_len, List.length_nil]
        simp only [List.length_cons] at h3 h4
        have hlr : (Sub.leasts r).length = r.length := by rw [Sub.leasts_eq, List.length_map]
        rw [if_neg (by omega), if_pos ⟨⟨by omega, by omega⟩, by omega, trivial⟩, gK, if_pos (by omega)]
        rw [hk y (List.mem_cons_self ..) (a + 1) h3'.1, Option.bind_some, if_neg (by simp), List.tail_cons]
        rw [gK_complete r _ (D - 1) (fun x hx => hk x (List.mem_cons_of_mem _ hx)) (fun x hx => hkl x (List.mem_cons_of_mem _ hx)) h3'.2]
        simp only [Option.map_some, Sub.layL, List.length_append]
        refine congrArg some (Prod.ext rfl (Prod.ext ?_ ?_))
        · simp only; omega
        · simp only; omega
theorem rdK_complete {t : List Nd} {rd : Int → Option (Sub × Int)} : ∀ (l : List Sub) (nx : Nat), (∀ x ∈ l, ∀ a : Nat, At t a (x.lay a) → rd a = some (x, ((a + (x.lay a).length : Nat) : Int))) → At t nx (Sub.layL nx l) →
    rdT.rdK rd (Sub.plcs nx l) nx = some (l, ((nx + (Sub.layL nx l).length : Nat) : Int)) := by
  intro l
  induction l with
  | nil => intro nx h1 h3; simp [Sub.plcs, Sub.layL, rdT.rdK]
  | cons x r ih =>
    intro nx h1 h3
    rw [Sub.layL, At_app] at h3
    rw [Sub.plcs, rdT.rdK, if_pos rfl, h1 x (List.mem_cons_self ..) nx h3.1, Option.bind_some]
    simp only
    rw [ih _ (fun y hy => h1 y (List.mem_cons_of_mem _ hy)) h3.2, Sub.layL, List.length_append]
    simp only [Option.map_some, Nat.add_assoc]
theorem rdT_complete (t : List Nd) : ∀ (f : Nat) (s : Sub) (a : Nat) (root : Bool), s.deep ≤ f → s.wf → s.full root = true → 0 ≤ s.deep → At t a (s.lay a) → rdT t f a = some (s, ((a + (s.lay a).length : Nat) : Int)) := by
  intro f
  induction f with
  | zero => intro s a root hs hw hf hd; have := (Sub.facts s.sz s root (Nat.le_refl _) hw hf hd).2.2.1; omega
  | succ f ih =>
    intro s a root hs hw hf hd ha
    have hlen := At_len ha
    have hl1 := (Sub.lay_len s a).1
    have hal : a < t.length := by rcases hlen with e | e; (rw [e] at hl1; simp at hl1); omega
    rw [rdT, if_neg (by omega), Int.toNat_natCast]
    have hh := Sub.head hw hf hd
    rcases hh with ⟨h1, h2, h3, h4, h5, h6⟩ | ⟨h1, h2, h3, h4, h5⟩
    · obtain ⟨l, ps, ks⟩ := s
      simp only [Sub.leaf, Sub.ps, Sub.ks] at *
      subst h1 h2
      rw [Sub.lay, if_pos rfl] at ha ⊢
      rw [ha.1]
      simp [rdT.rdK]
    · obtain ⟨l, ps, ks⟩ := s
      simp only [Sub.leaf, Sub.ps, Sub.ks] at *
      subst h1 h2
      rw [Sub.lay, if_neg (by simp)] at ha ⊢
      have hk : ∀ x ∈ ks, ∀ b : Nat, At t b (x.lay b) → rdT t f b = some (x, ((b + (x.lay b).length : Nat) : Int)) := fun x hx b hb => by
        obtain ⟨i1, i2, i3, i4⟩ := h5 x hx
        exact ih x b false (by omega) i1 i2 i4 hb
      rw [ha.1]
      simp only [Option.getD_some, Sub.plcs_len]
      have := rdK_complete ks (a + 1) hk ha.2
      rw [show ((a + 1 : Nat) : Int) = (a : Int) + 1 by omega] at this
      rw [this, Option.map_some]
      refine congrArg some (Prod.ext ?_ ?_)
      · simp; intro e; rw [e] at h3; simp at h3
      · simp only [List.length_cons]; omega
theorem rdT_wf (t : List Nd) : ∀ (f : Nat) (a : Int) (x : Sub × Int), rdT t f a = some x → x.1.wf := by
  intro f
  induction f with
  | zero => intro a x h; simp [rdT] at h
  | succ f ih =>
    intro a x h
    rw [rdT] at h
    split at h
    · cases h
    · generalize t[a.toNat]?.getD default = n at h
      obtain ⟨y, hy, rfl⟩ := Option.map_eq_some_iff.1 h
      have hK : ∀ (cs : List Int) (nx : Int) (y : List Sub × Int), rdT.rdK (rdT t f) cs nx = some y → Sub.wfL y.1 ∧ y.1.length = cs.length := by
        intro cs
        induction cs with
        | nil => intro nx y h; simp only [rdT.rdK, Option.some.injEq] at h; subst h; exact ⟨trivial, rfl⟩
        | cons c r ihc =>
          intro nx y h
          rw [rdT.rdK] at h
          split at h
          · cases hr : rdT t f c with
            | none => rw [hr] at h; simp at h
            | some z =>
              rw [hr, Option.bind_some] at h
              obtain ⟨w, hw, rfl⟩ := Option.map_eq_some_iff.1 h
              obtain ⟨i1, i2⟩ := ihc _ _ hw
              exact ⟨⟨ih _ _ hr, i1⟩, by simp [i2]⟩
          · cases h
      obtain ⟨i1, i2⟩ := hK _ _ _ hy
      refine ⟨fun e => ?_, i1⟩
      simp at e
      rw [e] at i2
      exact List.length_eq_zero_iff.1 i2
mutual
theorem Sub.sz_lay : ∀ (s : Sub) (a : Nat), s.wf → (s.lay a).length = s.sz
  | .mk l ps ks, a, h => by
    rw [Sub.lay, Sub.sz]
    have := Sub.szL_lay ks (a + 1) h.2
    split
    · rename_i e
      rw [h.1 e, Sub.szL]; rfl
    · rw [List.length_cons]; omega
theorem Sub.szL_lay : ∀ (l : List Sub) (a : Nat), Sub.wfL l → (Sub.layL a l).length = Sub.szL l
  | [], a, h => by rw [Sub.layL, Sub.szL]; rfl
  | x :: r, a, h => by
    have h1 := Sub.sz_lay x a h.1
    have h2 := Sub.szL_lay r (a + (x.lay a).length) h.2
    rw [Sub.layL, Sub.szL, List.length_append]; omega
end
/-- What the program's root comes to. -/
def gR (t : List Nd) : Option (Sub × Int) := match gT t (t.length + 1) 0 true with
  | some (s, nx, d) => if nx = t.length then some (s, d) else none
  | none => none
/-- A right tree: laid of a right sub. -/
def goodT (t : List Nd) (s : Sub) : Prop := s.wf ∧ s.full true = true ∧ 0 ≤ s.deep ∧ s.lay 0 = t
theorem gR_iff (t : List Nd) (s : Sub) (d : Int) : gR t = some (s, d) ↔ goodT t s ∧ d = s.deep := by
  unfold gR
  constructor
  · intro h
    cases hg : gT t (t.length + 1) 0 true with
    | none => rw [hg] at h; cases h
    | some x =>
      obtain ⟨s', nx, d'⟩ := x
      rw [hg] at h
      simp only at h
      split at h
      · rename_i hn
        cases h
        obtain ⟨g1, g2, g3, g4, g5, g6, g7, g8⟩ := gT_sound t (t.length + 1) 0 true _ hg
        refine ⟨⟨g3, g4, by simp only at g5 g6 ⊢; omega, ?_⟩, g5.symm⟩
        have := At_eq g1 (by simp only at g2 ⊢; omega)
        simpa using this
      · cases h
  · rintro ⟨⟨h1, h2, h3, h4⟩, rfl⟩
    have hs := Sub.sz_lay s 0 h1
    rw [h4] at hs
    have := gT_complete t (t.length + 1) s 0 true (by omega) h1 h2 h3 (by rw [h4]; exact At_self t 0)
    rw [h4] at this
    have this : gT t (t.length + 1) 0 true = some (s, ((0 + t.length : Nat) : Int), s.deep) := this
    rw [this]
    simp
theorem good_bounds {t : List Nd} {s : Sub} (h : goodT t s) (hp : s.pairs.length ≤ 200) : t.length ≤ 400 ∧ s.deep ≤ 13 := by
  obtain ⟨h1, h2, h3, h4⟩ := h
  obtain ⟨f1, f2, f3, f4, f5⟩ := Sub.facts s.sz s true (Nat.le_refl _) h1 h2 h3
  have hs := Sub.sz_lay s 0 h1
  rw [h4] at hs
  rcases Sub.head h1 h2 h3 with ⟨k1, k2, k3, k4, k5, k6⟩ | ⟨k1, k2, k3, k4, k5⟩
  · obtain ⟨l, ps, ks⟩ := s
    simp only [Sub.ks] at k2
    subst k2
    rw [Sub.sz, Sub.szL] at hs
    omega
  · obtain ⟨f5, f6⟩ := f5 (.inr k1)
    refine ⟨by omega, ?_⟩
    by_cases hd : s.deep ≤ 13
    · exact hd
    · have : 2 ^ 13 ≤ 2 ^ s.deep.toNat := Nat.pow_le_pow_right (by omega) (by omega)
      omega
theorem specOk_iff (t : List Nd) : specOk t ↔ t = [] ∨ ∃ s, goodT t s ∧ pairsOk s.pairs := by
  unfold specOk
  constructor
  · rintro (h | ⟨h1, h2, h3, h4, h5, h6⟩)
    · exact .inl h
    · by_cases h0 : t = []
      · exact .inl h0
      · refine .inr ⟨_, ⟨?_, h3, h4, h6⟩, h5⟩
        unfold rootT
        rw [if_neg (fun e => h0 (List.length_eq_zero_iff.1 e))]
        cases hr : rdT t 13 0 with
        | none => exact ⟨by simp, trivial⟩
        | some x => exact rdT_wf _ _ _ _ hr
  · rintro (h | ⟨s, hs, hp⟩)
    · exact .inl h
    · obtain ⟨b1, b2⟩ := good_bounds hs hp.1
      obtain ⟨h1, h2, h3, h4⟩ := hs
      have hr := rdT_complete t 13 s 0 true (by omega) h1 h2 h3 (by rw [h4]; exact At_self t 0)
      have hr : rdT t 13 0 = some (s, ((0 + (s.lay 0).length : Nat) : Int)) := hr
      rw [h4] at hr
      have h0 : ¬ t.length = 0 := by
        have := (Sub.lay_len s 0).1
        rw [h4] at this; omega
      have hR : rootT t = (s, true) := by
        unfold rootT
        rw [if_neg h0, hr]
        simp
      rw [hR]
      exact .inr ⟨b1, rfl, h2, h3, hp, h4⟩
theorem rootT_good {t : List Nd} {s : Sub} (h : goodT t s) (hp : pairsOk s.pairs) : (rootT t).1 = s := by
  obtain ⟨b1, b2⟩ := good_bounds h hp.1
  obtain ⟨h1, h2, h3, h4⟩ := h
  have hr := rdT_complete t 13 s 0 true (by omega) h1 h2 h3 (by rw [h4]; exact At_self t 0)
  have hr : rdT t 13 0 = some (s, ((0 + (s.lay 0).length : Nat) : Int)) := hr
  have h0 : ¬ t.length = 0 := by
    have := (Sub.lay_len s 0).1
    rw [h4] at this; omega
  unfold rootT
  rw [if_neg h0, hr]
mutual
theorem Sub.pairs_le : ∀ (s : Sub) (root : Bool), s.wf → s.full root = true → s.pairs.length ≤ 4 * s.sz
  | .mk l ps ks, root, hw, hf => by
    rw [Sub.wf] at hw
    rw [Sub.full] at hf
    rw [Sub.pairs, Sub.sz, List.length_append]
    cases l with
    | true =>
      rw [if_pos rfl] at hf
      rw [hw.1 rfl, Sub.pairsL, Sub.szL]
      simp at hf ⊢; omega
    | false =>
      rw [if_neg (by simp)] at hf
      simp only [Bool.and_eq_true, decide_eq_true_eq] at hf
      have := Sub.pairsL_le ks hw.2 hf.2
      rw [hf.1.2.2]
      simp; omega
theorem Sub.pairsL_le : ∀ (l : List Sub), Sub.wfL l → Sub.fullL l = true → (Sub.pairsL l).length ≤ 4 * Sub.szL l
  | [], hw, hf => by simp [Sub.pairsL]
  | x :: r, hw, hf => by
    rw [Sub.fullL, Bool.and_eq_true] at hf
    have h1 := Sub.pairs_le x false hw.1 hf.1
    have h2 := Sub.pairsL_le r hw.2 hf.2
    rw [Sub.pairsL, Sub.szL, List.length_append]; omega
end
mutual
theorem Sub.pairs_in : ∀ (s : Sub) (root : Bool) (a : Nat) (p : Pr), s.wf → s.full root = true → p ∈ s.pairs → ∃ x ∈ s.lay a, p ∈ x.ps
  | .mk l ps ks, root, a, p, hw, hf, hp => by
    rw [Sub.wf] at hw
    rw [Sub.full] at hf
    rw [Sub.pairs] at hp
    rw [Sub.lay]
    cases l with
    | true =>
      rw [hw.1 rfl, Sub.pairsL, List.append_nil] at hp
      rw [if_pos rfl]
      exact ⟨_, List.mem_singleton.2 rfl, hp⟩
    | false =>
      rw [if_neg (by simp)] at hf ⊢
      simp only [Bool.and_eq_true, decide_eq_true_eq] at hf
      rw [hf.1.2.2, List.nil_append] at hp
      obtain ⟨x, h1, h2⟩ := Sub.pairsL_in ks (a + 1) p hw.2 hf.2 hp
      exact ⟨x, List.mem_cons_of_mem _ h1, h2⟩
theorem Sub.pairsL_in : ∀ (l : List Sub) (a : Nat) (p : Pr), Sub.wfL l → Sub.fullL l = true → p ∈ Sub.pairsL l → ∃ x ∈ Sub.layL a l, p ∈ x.ps
  | [], a, p, hw, hf, hp => by simp [Sub.pairsL] at hp
  | y :: r, a, p, hw, hf, hp => by
    rw [Sub.fullL, Bool.and_eq_true] at hf
    rw [Sub.pairsL] at hp
    rw [Sub.layL]
    rcases List.mem_append.1 hp with hp | hp
    · obtain ⟨x, h1, h2⟩ := Sub.pairs_in y false a p hw.1 hf.1 hp
      exact ⟨x, List.mem_append_left _ h1, h2⟩
    · obtain ⟨x, h1, h2⟩ := Sub.pairsL_in r _ p hw.2 hf.2 hp
      exact ⟨x, List.mem_append_right _ h1, h2⟩
end
/-- Of a right tree: its sizes. -/
theorem good_sizes {t : List Nd} {s : Sub} (h : goodT t s) : s.gath = s.pairs ∧ s.sz = t.length ∧ s.gath.length ≤ 4 * t.length ∧ ∀ p ∈ s.gath, ∃ x ∈ t, p ∈ x.ps := by
  obtain ⟨h1, h2, h3, h4⟩ := h
  obtain ⟨f1, f2, f3, f4, f5⟩ := Sub.facts s.sz s true (Nat.le_refl _) h1 h2 h3
  have hs := Sub.sz_lay s 0 h1
  rw [h4] at hs
  have := Sub.pairs_le s true h1 h2
  rw [f4]
  refine ⟨rfl, hs.symm, by omega, fun p hp => ?_⟩
  obtain ⟨x, hx, hp⟩ := Sub.pairs_in s true 0 p h1 h2 hp
  rw [h4] at hx
  exact ⟨x, hx, hp⟩
/-- The program's root: a right sub, or none of no nodes, and how deep; or not right. -/
noncomputable def gRoot (t : List Nd) : Option (Option Sub × Int) := if t.length = 0 then some (none, 0) else match gR t with
  | some (s, d) => open Classical in if pairsOk s.gath then some (some s, d) else none
  | none => none
theorem gRoot_spec (t : List Nd) : (specOk t ↔ (gRoot t).isSome = true) ∧ (∀ x, gRoot t = some x → (t = [] ∧ x = (none, 0)) ∨ (t ≠ [] ∧ ∃ s, goodT t s ∧ pairsOk s.pairs ∧ x = (some s, s.deep) ∧ (rootT t).1 = s)) := by
  have h2 : ∀ x, gRoot t = some x → (t = [] ∧ x = (none, 0)) ∨ (t ≠ [] ∧ ∃ s, goodT t s ∧ pairsOk s.pairs ∧ x = (some s, s.deep) ∧ (rootT t).1 = s) := by
    intro x h
    unfold gRoot at h
    split at h
    · rename_i h0; cases h; exact .inl ⟨List.length_eq_zero_iff.1 h0, rfl⟩
    · rename_i h0
      split at h
      · rename_i s d hg
        split at h
        · rename_i hp
          cases h
          obtain ⟨g1, rfl⟩ := (gR_iff t s d).1 hg
          have hp' : pairsOk s.pairs := by rw [← (good_sizes g1).1]; exact hp
          exact .inr ⟨fun e => h0 (by simp [e]), s, g1, hp', rfl, rootT_good g1 hp'⟩
        · cases h
      · cases h
  refine ⟨?_, h2⟩
  rw [specOk_iff]
  constructor
  · rintro (h | ⟨s, h1, h3⟩)
    · unfold gRoot; rw [if_pos (by simp [h])]; rfl
    · unfold gRoot
      split
      · rfl
      · rw [(gR_iff t s s.deep).2 ⟨h1, rfl⟩]
        simp only
        rw [if_pos (by rw [(good_sizes h1).1]; exact h3)]; rfl
  · intro h
    cases hg : gRoot t with
    | none => rw [hg] at h; cases h
    | some x =>
      rcases h2 x hg with ⟨e, _⟩ | ⟨_, s, h1, h3, _⟩
      · exact .inl e
      · exact .inr ⟨s, h1, h3⟩
theorem Sub.deep_sz : ∀ (n : Nat) (s : Sub) (root : Bool), s.sz ≤ n → s.wf → s.full root = true → 0 ≤ s.deep → s.deep ≤ s.sz := by
  intro n
  induction n with
  | zero => intro s root hs; have := s.sz_pos; omega
  | succ n ih =>
    intro s root hs hw hf hd
    rcases Sub.head hw hf hd with ⟨k1, k2, k3, k4, k5, k6⟩ | ⟨k1, k2, k3, k4, k5⟩
    · have := s.sz_pos; omega
    · cases hks : s.ks with
      | nil => rw [hks] at k3; simp at k3
      | cons y r =>
        have hy : y ∈ s.ks := by rw [hks]; exact List.mem_cons_self ..
        obtain ⟨f1, f2, f3, f4⟩ := k5 y hy
        have hz := Sub.sz_kid hy
        have := ih y false (by omega) f1 f2 f4
        omega
theorem gOk_sizes {t : List Nd} {a : Nat} {root : Bool} {x : Sub × Int × Int} (h : gOk t a root x) : (a : Int) + 1 ≤ x.2.1 ∧ x.2.1 ≤ t.length ∧ x.2.2 ≤ t.length ∧ 1 ≤ x.2.2 ∧ x.1.lmost ≠ [] ∧ ∃ n : Nat, x.2.1 = n := by
  obtain ⟨g1, g2, g3, g4, g5, g6, g7, g8⟩ := h
  have hl := (Sub.lay_len x.1 a).1
  have hz := Sub.sz_lay x.1 a g3
  have hd := Sub.deep_sz x.1.sz x.1 root (Nat.le_refl _) g3 g4 (by omega)
  rcases At_len g1 with e | e
  · rw [e] at hl; simp at hl
  · exact ⟨by omega, by omega, by omega, g6, g7, _, g2⟩
end Go.Proofs.YtnnmpdanfeejbaaGreat.Abs

/- The program's trees within: grow. -/
namespace Go.Proofs.YtnnmpdanfeejbaaGreat.Abs
open Go Go.Proofs
set_option maxRecDepth 10000
set_option linter.unusedVariables false
set_option linter.unusedSimpArgs false
def growR : Option (Sub × Int × Int) → AV → Prop
  | some x, r => r = .tu [.c (.ptr (twC x.1) 0), In x.2.1, In x.2.2, Bo true]
  | none, r => ∃ y n m, r = .tu [.c y, In n, In m, Bo false]
theorem gN_leaf (rd : Int → Option (Sub × Int × Int)) (ps : List Pr) (ks : List ByteArray) (a : Int) (root : Bool) : gN rd ⟨ps, ks, []⟩ a root = if (if root = true then 1 else 2) ≤ ps.length ∧ ps.length ≤ 4 ∧ ks.length = 0 then some (.mk true ps [], a + 1, 1) else none := by
  unfold gN; simp
theorem grow_ok (t : List Nd) (ht : t.length ≤ 2^40) (hn : ∀ x ∈ t, x.le (2^40)) : ∀ (f a : Nat) (root : Bool), t.length < a + f → a ≤ 2^41 → CallOk Tryz.prog 166 [.box 33 [Rw (t.map (ndC false))]] [.pt 1 0 0, In a, Bo root] (fun r out => growR (gT t f a root) r ∧ out = [some (.box 33 [Rw (t.map (ndC false))])]) := by
  intro f
  induction f with
  | zero =>
    intro a root ha hb
    refine callOk_z (np := 1) {} mixed Tryz.func166 (by rfl) Tryz.ntmps166 Tryz.results166 (by rfl) (Nat.le_of_ble_eq_true rfl) rfl rfl rfl (vc ?_)
    refine brB_intro (fun h => ?_) (fun h => by simp at h; omega)
    exact endQ_of [] (.tu [.c (.v (.pointer none)), In 0, In 0, Bo false]) [some (.box 33 [Rw (t.map (ndC false))])] (by rfl) (vc trivial) (vc trivial) ⟨⟨_, _, _, rfl⟩, rfl⟩
  | succ f ih =>
    intro a root ha hb
    refine callOk_z (np := 1) { fz := [(10, [242, 170]), (25, [4, 3])] } mixed Tryz.func166 (by rfl) Tryz.ntmps166 Tryz.results166 (by rfl) (Nat.le_of_ble_eq_true rfl) rfl rfl rfl (vc ?_)
    have hno : gT t (f + 1) a root = none → growR (gT t (f + 1) a root) (.tu [.c (.v (.pointer none)), In 0, In 0, Bo false]) := fun e => by rw [e]; exact ⟨_, _, _, rfl⟩
    refine brB_intro (fun h => ?_) (fun h => ?_)
    · exact endQ_of [] (.tu [.c (.v (.pointer none)), In 0, In 0, Bo false]) [some (.box 33 [Rw (t.map (ndC false))])] (by rfl) (vc trivial) (vc trivial) ⟨hno (by rw [gT, if_pos (by simp at h; omega)]), rfl⟩
    have h2 : a < t.length := by simp at h; omega
    have hx := List.getElem?_eq_getElem h2
    obtain ⟨x1, x2, x3⟩ := hn _ (List.getElem_mem h2)
    have hg : gT t (f + 1) a root = gN (fun k => gT t f k false) t[a] a root := by
      rw [gT, if_neg (by omega), Int.toNat_natCast, hx]; rfl
    rw [hg] at hno ⊢
    generalize t[a] = n at hx x1 x2 x3 hno ⊢
    clear hg
    rw [get_map hx, ndC]
    refine vc ?_
    obtain ⟨ps, ks, cs⟩ := n
    simp only at x1 x2 x3 ⊢
    refine brB_intro (fun h3 => ?_) (fun h3 => ?_)
    · have h3 : cs = [] := List.length_eq_zero_iff.1 (by simp at h3; simp [h3])
      subst h3
      refine callq_of false [] (copyPairs_ok ps x1) rfl trivial (vc trivial) ?_
      rintro r out ⟨rfl, rfl⟩
      refine ⟨by simp, by simp, by simp, vc ?_⟩
      cases root
      · refine vc ?_
        refine drawQ_of false (by rfl) (by simp) (vc ?_)
        refine calld_of [] false [] (within_ok ps.length 2 4) rfl trivial (vc trivial) (by rfl) ⟨_, _, rfl, rfl⟩ ?_
        rintro r out ⟨rfl, rfl⟩
        refine ⟨by simp, by simp, by simp, vc ?_⟩
        rw [w64 _ (by omega)]
        refine brB_intro (fun h4 => ?_) (fun h4 => ?_)
        · have h4 : 2 ≤ ps.length ∧ ps.length ≤ 4 := by simp at h4; omega
          refine endQ_of [] (.tu [.c (.ptr (twC (.mk true ps [])) 0), In (a + 1), In 1, Bo (decide (ks.length = 0))]) [some (.box 33 [Rw (t.map (ndC false))])] (by rfl) (vc ?_) (vc trivial) ⟨?_, rfl⟩
          · rw [twC_eq]
            refine ⟨.inl rfl, ?_⟩
            rw [Bool.eq_iff_iff]; simp
          · rw [gN_leaf]
            by_cases h5 : ks.length = 0
            · rw [if_pos ⟨h4.1, h4.2, h5⟩, decide_eq_true h5]; rfl
            · rw [if_neg (fun e => h5 e.2.2), decide_eq_false h5]; exact ⟨_, _, _, rfl⟩
        · have h4 : ¬ (2 ≤ ps.length ∧ ps.length ≤ 4) := by simp at h4; omega
          refine endQ_of [] (.tu [.c (.ptr (twC (.mk true ps [])) 0), In (a + 1), In 1, Bo false]) [some (.box 33 [Rw (t.map (ndC false))])] (by rfl) (vc ?_) (vc trivial) ⟨?_, rfl⟩
          · rw [twC_eq]
            exact .inl rfl
          · rw [gN_leaf, if_neg (fun e => h4 ⟨e.1, e.2.1⟩)]; exact ⟨_, _, _, rfl⟩
      · refine vc ?_
        refine drawQ_of false (by rfl) (by simp) (vc ?_)
        refine calld_of [] false [] (within_ok ps.length 1 4) rfl trivial (vc trivial) (by rfl) ⟨_, _, rfl, rfl⟩ ?_
        rintro r out ⟨rfl, rfl⟩
        refine ⟨by simp, by simp, by simp, vc ?_⟩
        rw [w64 _ (by omega)]
        refine brB_intro (fun h4 => ?_) (fun h4 => ?_)
        · have h4 : 1 ≤ ps.length ∧ ps.length ≤ 4 := by simp at h4; omega
          refine endQ_of [] (.tu [.c (.ptr (twC (.mk true ps [])) 0), In (a + 1), In 1, Bo (decide (ks.length = 0))]) [some (.box 33 [Rw (t.map (ndC false))])] (by rfl) (vc ?_) (vc trivial) ⟨?_, rfl⟩
          · rw [twC_eq]
            refine ⟨.inl rfl, ?_⟩
            rw [Bool.eq_iff_iff]; simp
          · rw [gN_leaf]
            by_cases h5 : ks.length = 0
            · rw [if_pos ⟨h4.1, h4.2, h5⟩, decide_eq_true h5]; rfl
            · rw [if_neg (fun e => h5 e.2.2), decide_eq_false h5]; exact ⟨_, _, _, rfl⟩
        · have h4 : ¬ (1 ≤ ps.length ∧ ps.length ≤ 4) := by simp at h4; omega
          refine endQ_of [] (.tu [.c (.ptr (twC (.mk true ps [])) 0), In (a + 1), In 1, Bo false]) [some (.box 33 [Rw (t.map (ndC false))])] (by rfl) (vc ?_) (vc trivial) ⟨?_, rfl⟩
          · rw [twC_eq]
            exact .inl rfl
          · rw [gN_leaf, if_neg (fun e => h4 ⟨e.1, e.2.1⟩)]; exact ⟨_, _, _, rfl⟩
    have h3 : cs.length ≠ 0 := by simp at h3; intro e; exact h3 (by simpa using e)
    have hfail : ∀ H, H = 1 → True := fun _ _ => trivial
    refine callq_of false [] (within_ok cs.length 2 4) rfl trivial (vc trivial) ?_
    rintro r out ⟨rfl, rfl⟩
    refine ⟨by simp, by simp, by simp, vc ?_⟩
    have hbad : ¬ ((2 ≤ cs.length ∧ cs.length ≤ 4) ∧ ks.length + 1 = cs.length ∧ ps.length = 0) → growR (gN (fun k => gT t f k false) ⟨ps, ks, cs⟩ a root) (.tu [.c (.v (.pointer none)), In 0, In 0, Bo false]) := fun e => hno (by unfold gN; rw [if_neg h3, if_neg e])
    refine brB_intro (fun h4 => ?_) (fun h4 => ?_)
    · have h4 : ¬ (2 ≤ cs.length ∧ cs.length ≤ 4) := by simp at h4; omega
      exact endQ_of [] (.tu [.c (.v (.pointer none)), In 0, In 0, Bo false]) [some (.box 33 [Rw (t.map (ndC false))])] (by rfl) (vc trivial) (vc trivial) ⟨hbad (fun e => h4 e.1), rfl⟩
    have h4 : 2 ≤ cs.length ∧ cs.length ≤ 4 := by simp at h4; omega
    rw [w64 _ (by omega)]
    refine brB_intro (fun h5 => ?_) (fun h5 => ?_)
    · have h5 : ¬ ks.length + 1 = cs.length := by simp at h5; omega
      exact endQ_of [] (.tu [.c (.v (.pointer none)), In 0, In 0, Bo false]) [some (.box 33 [Rw (t.map (ndC false))])] (by rfl) (vc trivial) (vc trivial) ⟨hbad (fun e => h5 e.2.1), rfl⟩
    have h5 : ks.length + 1 = cs.length := by simp at h5; omega
    refine brB_intro (fun h6 => ?_) (fun h6 => ?_)
    · have h6 : ¬ ps.length = 0 := fun e => by rw [e] at h6; simp at h6
      exact endQ_of [] (.tu [.c (.v (.pointer none)), In 0, In 0, Bo false]) [some (.box 33 [Rw (t.map (ndC false))])] (by rfl) (vc trivial) (vc trivial) ⟨hbad (fun e => h6 e.2.2), rfl⟩
    have h6 : ps.length = 0 := by simp at h6; simp [h6]
    have hgN : gN (fun k => gT t f k false) ⟨ps, ks, cs⟩ a root = (gK (fun k => gT t f k false) cs (⟨#[]⟩ :: ks) true (a + 1) 0).map fun x => (.mk false [] x.1, x.2.1, x.2.2 + 1) := by
      unfold gN; rw [if_neg h3, if_pos ⟨h4, h5, h6⟩]
    rw [hgN] at hno ⊢
    clear hbad hgN
    rw [w64 _ (by omega)]
    refine loopQ_of (ι := Nat × Nat × Int × List Sub) (fun i => [(0, .pt 1 0 0), (10, .pt 2 0 0), (11, .pt 3 0 0), (13, In (i.2.1 : Nat)), (14, In i.2.2.1), (86, Rw (cs.map inC)), (87, In cs.length), (88, In (i.1 : Nat))]) (fun i => [(1, .box 33 [Rw (t.map (ndC false))]), (2, .box 111 [Rw (ps.map prC), Rw (ks.map stC), Rw (cs.map inC)]), (3, .box 235 [.nul, .sl 4 i.1]), (4, .rw 157 1 (i.2.2.2.map fun x => [CV.ptr (twC x) 0]))]) 5 (fun i => cs.length - i.1)
      (fun i => i.1 ≤ cs.length ∧ i.2.2.2.length = i.1 ∧ a + 1 ≤ i.2.1 ∧ i.2.1 ≤ t.length ∧ 0 ≤ i.2.2.1 ∧ i.2.2.1 ≤ t.length ∧ gK (fun k => gT t f k false) cs (⟨#[]⟩ :: ks) true (a + 1) 0 = (gK (fun k => gT t f k false) (cs.drop i.1) (((⟨#[]⟩ : ByteArray) :: ks).drop i.1) (decide (i.1 = 0)) i.2.1 i.2.2.1).map fun y => (i.2.2.2 ++ y.1, y.2)) (0, a + 1, 0, []) ⟨Nat.zero_le _, rfl, Nat.le_refl _, h2, Int.le_refl _, Int.natCast_nonneg _, by simp⟩ [(2, 146), (3, 170), (4, 0)] (by rfl) (vc ?_) (vc ?_) (fun i hi N hN => ?_)
    · omega
    · trivial
    obtain ⟨i, nx, d, acc⟩ := i
    obtain ⟨hi, hacc, hnx1, hnx2, hd1, hd2, hL⟩ := hi
    simp only at hi hacc hnx1 hnx2 hd1 hd2 hL hN
    refine vc (brB_intro (fun h => ?_) (fun h => ?_))
    · have h : i < cs.length := by simpa using h
      have hy := List.getElem?_eq_getElem h
      rw [List.drop_eq_getElem_cons h, gK] at hL
      rw [get_map hy, inC]
      refine vc (brB_intro (fun h7 => ?_) (fun h7 => ?_))
      · have h7 : ¬ cs[i] = (nx : Int) := by simpa using h7
        rw [if_neg h7] at hL
        exact endQ_of [] (.tu [.c (.v (.pointer none)), In 0, In 0, Bo false]) [some (.box 33 [Rw (t.map (ndC false))])] (by rfl) (vc trivial) (vc trivial) ⟨hno (by rw [hL]; rfl), rfl⟩
      have h7 : cs[i] = (nx : Int) := by simpa using h7
      rw [if_pos h7] at hL
      have hc := ih nx false (by omega) (by omega)
      have hsn := gT_sound t f nx false
      rw [← h7] at hc hsn
      cases hr : gT t f cs[i] false with
      | none =>
        rw [hr] at hc hL
        refine callq_of false [1] hc rfl (vc trivial) (vc trivial) ?_
        rintro r out ⟨⟨y, n, m, rfl⟩, rfl⟩
        refine ⟨by simp, by simp, by simp, vc ?_⟩
        refine drawQ_of false (by rfl) (by simp) (vc ?_)
        exact endQ_of [] (.tu [.c (.v (.pointer none)), In 0, In 0, Bo false]) [some (.box 33 [Rw (t.map (ndC false))])] (by rfl) (vc trivial) (vc trivial) ⟨hno (by rw [hL]; rfl), rfl⟩
      | some x =>
        obtain ⟨s1, s2, s3, s4, s5, n', s6⟩ := gOk_sizes (hsn x hr)
        obtain ⟨x, nx', d'⟩ := x
        simp only at s1 s2 s3 s4 s5 s6
        subst s6
        rw [hr, Option.bind_some] at hL
        simp only at hL
        rw [hr] at hc
        refine callq_of false [1] hc rfl (vc trivial) (vc trivial) ?_
        rintro r out ⟨rfl, rfl⟩
        refine ⟨by simp, by simp, by simp, vc ?_⟩
        refine drawQ_of false (by rfl) (by simp) (vc ?_)
        refine brB_intro (fun h8 => ?_) (fun h8 => ?_)
        · have h8 : 0 < i := by simpa using h8
          obtain ⟨k, rfl⟩ : ∃ k, i = k + 1 := ⟨i - 1, by omega⟩
          have hk : k < ks.length := by omega
          have hky := List.getElem?_eq_getElem hk
          have hhd : (((⟨#[]⟩ : ByteArray) :: ks).drop (k + 1)).head? = some ks[k] := by rw [List.drop_succ_cons, List.head?_drop, hky]
          rw [hhd] at hL
          refine brB_intro (fun h9 => ?_) (fun h9 => ?_)
          · have h9 : d' ≠ d := by simpa using h9
            rw [if_pos ⟨by simp, .inl h9⟩] at hL
            exact endQ_of [] (.tu [.c (.v (.pointer none)), In 0, In 0, Bo false]) [some (.box 33 [Rw (t.map (ndC false))])] (by rfl) (vc trivial) (vc trivial) ⟨hno (by rw [hL]; rfl), rfl⟩
          have h9 : d' = d := by simpa using h9
          rw [w64 _ (by omega), show (((k + 1 : Nat) : Int) - 1) = ((k : Nat) : Int) by omega]
          refine vc ?_
          rw [get_map hky, stC]
          refine vc ?_
          refine calld_of [] false [] (twLeast_ok x s5) rfl trivial (vc trivial) (by rfl) ⟨_, _, rfl, rfl⟩ ?_
          rintro r out ⟨rfl, rfl⟩
          refine ⟨by simp, by simp, by simp, vc ?_⟩
          refine brB_intro (fun hb => ?_) (fun hb => ?_)
          · have hb : ks[k] ≠ fstK x.lmost := fun e => by rw [e] at hb; simp at hb
            rw [if_pos ⟨by simp, .inr (fun e => hb (Option.some.inj e))⟩] at hL
            exact endQ_of [] (.tu [.c (.v (.pointer none)), In 0, In 0, Bo false]) [some (.box 33 [Rw (t.map (ndC false))])] (by rfl) (vc trivial) (vc trivial) ⟨hno (by rw [hL]; rfl), rfl⟩
          have hb : ks[k] = fstK x.lmost := ba_ext (by simpa using hb)
          rw [if_neg (fun e => e.2.elim (fun e => e h9) (fun e => e (by rw [hb])))] at hL
          refine ⟨⟨hacc.symm, by simp, by unfold maxLen; omega, by omega⟩, ?_⟩
          refine hN _ (k + 1 + 1, n', d', acc ++ [x]) [(4, 437)] ⟨h, by simp [hacc], show a + 1 ≤ n' by omega, show n' ≤ t.length by omega, show 0 ≤ d' by omega, show d' ≤ t.length by omega, ?_⟩ (by simp only; omega) (by rfl) (vc ?_) (vc ?_)
          · rw [hL, List.tail_drop]; simp [Function.comp_def]
          · rw [w64 _ (by omega)]; simp
          · exact ⟨hacc, by simp⟩
        · have h8 : i = 0 := by simp at h8; omega
          subst h8
          rw [if_neg (by simp)] at hL
          refine ⟨⟨hacc.symm, by simp, by unfold maxLen; omega, by omega⟩, ?_⟩
          refine hN _ (0 + 1, n', d', acc ++ [x]) [(4, 437)] ⟨h, by simp [hacc], show a + 1 ≤ n' by omega, show n' ≤ t.length by omega, show 0 ≤ d' by omega, show d' ≤ t.length by omega, ?_⟩ (by simp only; omega) (by rfl) (vc ?_) (vc ?_)
          · rw [hL, List.tail_drop]; simp [Function.comp_def]
          · rw [w64 _ (by omega)]; simp
          · exact ⟨hacc, by simp⟩
    · have h : i = cs.length := by simp at h; omega
      rw [List.drop_of_length_le (by omega), gK] at hL
      rw [hL]
      rw [if_pos hacc.symm]
      refine endQ_of [] (.tu [.c (.ptr (twC (.mk false [] acc)) 0), In nx, In (d + 1), Bo true]) [some (.box 33 [Rw (t.map (ndC false))])] (by rfl) (vc ?_) (vc ?_) ⟨?_, rfl⟩
      · rw [twC_eq, w64 _ (by omega)]
        exact ⟨.inl rfl, rfl⟩
      · trivial
      · simp [growR]
end Go.Proofs.YtnnmpdanfeejbaaGreat.Abs

/- The program's trees within: root, TreeOk, TreeAll, TreeGet, Depth. -/
namespace Go.Proofs.YtnnmpdanfeejbaaGreat.Abs
open Go Go.Proofs
set_option maxRecDepth 10000
set_option linter.unusedVariables false
set_option linter.unusedSimpArgs false
def rootR : Option (Option Sub × Int) → AV
  | some (none, d) => .tu [.c (.v (.pointer none)), In d, Bo true]
  | some (some s, d) => .tu [.c (.ptr (twC s) 0), In d, Bo true]
  | none => .tu [.c (.v (.pointer none)), In 0, Bo false]
theorem small_keys {t : List Nd} {s : Sub} (hs : small t) (h : goodT t s) : s.sz ≤ 2^40 ∧ s.gath.length ≤ 2^40 ∧ ∀ p ∈ s.gath, p.k.size ≤ 2^60 := by
  obtain ⟨h1, h2, h3, h4⟩ := good_sizes h
  have hl := hs.1
  refine ⟨by omega, by omega, fun p hp => ?_⟩
  obtain ⟨x, hx, hp⟩ := h4 p hp
  have := ((hs.2 x hx).2.2.2.1 p hp).1
  omega
theorem implRoot_ok {t : List Nd} (hs : small t) : CallOk Tryz.prog 109 [.box 33 [Rw (t.map (ndC false))]] [.pt 1 0 0] (fun r out => r = rootR (gRoot t) ∧ out = [some (.box 33 [Rw (t.map (ndC false))])]) := by
  obtain ⟨⟨h1, h2⟩, h3, h4, h5⟩ := small_ok hs
  refine callOk_z (np := 1) {} mixed Tryz.func109 (by rfl) Tryz.ntmps109 Tryz.results109 (by rfl) (Nat.le_of_ble_eq_true rfl) rfl rfl rfl (vc ?_)
  unfold gRoot
  refine brB_intro (fun h => ?_) (fun h => ?_)
  · rw [if_pos (by simp at h; simp [h])]
    exact endQ_of [] (.tu [.c (.v (.pointer none)), In 0, Bo true]) [some (.box 33 [Rw (t.map (ndC false))])] (by rfl) (vc trivial) (vc trivial) ⟨rfl, rfl⟩
  rw [if_neg (fun e => by simp [List.length_eq_zero_iff.1 e] at h)]
  have hc := grow_ok t h1 h2 (t.length + 1) 0 true (by omega) (by omega)
  rw [show ((0 : Nat) : Int) = 0 from rfl] at hc
  have hsn := gT_sound t (t.length + 1) 0 true
  have hgr := gR_iff t
  unfold gR at hgr ⊢
  rw [show ((0 : Nat) : Int) = 0 from rfl] at hsn
  cases hg : gT t (t.length + 1) 0 true with
  | none =>
    rw [hg] at hc
    refine callq_of false [1] hc rfl (vc trivial) (vc trivial) ?_
    rintro r out ⟨⟨y, n, m, rfl⟩, rfl⟩
    refine ⟨by simp, by simp, by simp, vc ?_⟩
    exact endQ_of [] (.tu [.c (.v (.pointer none)), In 0, Bo false]) [some (.box 33 [Rw (t.map (ndC false))])] (by rfl) (vc trivial) (vc trivial) ⟨rfl, rfl⟩
  | some x =>
    obtain ⟨s, nx, d⟩ := x
    rw [hg] at hc hgr
    refine callq_of false [1] hc rfl (vc trivial) (vc trivial) ?_
    rintro r out ⟨rfl, rfl⟩
    refine ⟨by simp, by simp, by simp, vc ?_⟩
    refine brB_intro (fun h6 => ?_) (fun h6 => ?_)
    · rw [if_neg (by simpa using h6)]
      exact endQ_of [] (.tu [.c (.v (.pointer none)), In 0, Bo false]) [some (.box 33 [Rw (t.map (ndC false))])] (by rfl) (vc trivial) (vc trivial) ⟨rfl, rfl⟩
    have h6 : nx = t.length := by simpa using h6
    simp only [if_pos h6] at hgr ⊢
    have hgd := ((hgr s d).1 rfl).1
    obtain ⟨k1, k2, k3⟩ := small_keys hs hgd
    refine callq_of false [] (all0_ok s k1 k2) rfl trivial (vc trivial) ?_
    rintro r out ⟨rfl, rfl⟩
    refine ⟨by simp, by simp, by simp, vc ?_⟩
    refine callq_of true [] (implPairsOk_ok s.gath k2 k3) rfl trivial (vc trivial) ?_
    rintro r out ⟨rfl, rfl⟩
    refine ⟨by simp, by simp, fun _ => ⟨.v _, by simp⟩, vc ?_⟩
    by_cases hp : pairsOk s.gath
    · rw [tf_true hp]
      simp only [if_pos hp]
      refine vc ?_
      exact endQ_of [] (.tu [.c (.ptr (twC s) 0), In d, Bo true]) [some (.box 33 [Rw (t.map (ndC false))])] (by rfl) (vc trivial) (vc trivial) ⟨rfl, rfl⟩
    · rw [tf_false hp]
      simp only [if_neg hp]
      refine vc ?_
      exact endQ_of [] (.tu [.c (.v (.pointer none)), In 0, Bo false]) [some (.box 33 [Rw (t.map (ndC false))])] (by rfl) (vc trivial) (vc trivial) ⟨rfl, rfl⟩
theorem implTreeOk_ok {t : List Nd} (hs : small t) : CallOk Tryz.prog 50 [] [treeAg t] (fun r out => r = Bo (tf (specOk t)) ∧ out = []) := by
  have hc := implRoot_ok hs
  have hg := (gRoot_spec t).1
  unfold treeAg
  refine callOk_z (np := 0) {} mixed Tryz.func50 (by rfl) Tryz.ntmps50 Tryz.results50 (by rfl) (Nat.le_of_ble_eq_true rfl) rfl rfl rfl (vc ?_)
  refine callq_of false [1] hc rfl (vc trivial) (vc trivial) ?_
  rintro r out ⟨rfl, rfl⟩
  refine ⟨by simp, by simp, by simp, ?_⟩
  cases hr : gRoot t with
  | none =>
    rw [hr] at hg
    rw [rootR]
    refine vc ?_
    refine EndQ.closed (.v _) ⟨?_, rfl⟩
    rw [tf_false (fun e => by simpa using hg.1 e)]
  | some x =>
    obtain ⟨x, d⟩ := x
    rw [hr] at hg
    rw [tf_true (hg.2 rfl)]
    cases x with
    | none => rw [rootR]; refine vc ?_; exact EndQ.closed (.v _) ⟨rfl, rfl⟩
    | some s => rw [rootR]; refine vc ?_; exact EndQ.closed (.v _) ⟨rfl, rfl⟩
end Go.Proofs.YtnnmpdanfeejbaaGreat.Abs

/- New stores, both sides; the law FnExactStoreNew. -/
namespace Go.Proofs.YtnnmpdanfeejbaaGreat.Abs
open Go Go.Proofs
set_option maxRecDepth 10000
set_option linter.unusedVariables false
set_option linter.unusedSimpArgs false
end Go.Proofs.YtnnmpdanfeejbaaGreat.Abs

/- New stores, both sides; the law FnExactStoreNew. -/
namespace Go.Proofs.YtnnmpdanfeejbaaGreat.Abs
open Go Go.Proofs
set_option maxRecDepth 10000
set_option linter.unusedVariables false
set_option linter.unusedSimpArgs false
end Go.Proofs.YtnnmpdanfeejbaaGreat.Abs

/- The law FnExactStoreNew. -/
namespace Go.Proofs.YtnnmpdanfeejbaaGreat.Abs
open Go Go.Proofs
set_option maxRecDepth 10000
set_option linter.unusedVariables false
set_option linter.unusedSimpArgs false
theorem sumL_bound {α : Type} (f : α → Nat) (M : Nat) : ∀ (xs : List α), (∀ x ∈ xs, f x ≤ M) → sumL f xs ≤ xs.length * M
  | [], _ => by simp [sumL_nil]
  | x :: r, h => by
    rw [sumL_cons, List.length_cons, Nat.add_mul, Nat.one_mul]
    have h1 := h x (List.mem_cons_self ..)
    have h2 := sumL_bound f M r (fun y hy => h y (List.mem_cons_of_mem _ hy))
    omega
theorem Dk.ok.cnt {d : Dk} (h : d.ok) : d.cnt ≤ 2^20 := by
  obtain ⟨⟨h0, h1, h2⟩, h3, h4⟩ := h
  have a := sumL_bound List.length 512 d.sh (fun x hx => by rcases h3 x hx with e | e <;> omega)
  have b := sumL_bound cntW 513 d.wr (fun x hx => by have := (h4 x hx).2; unfold cntW; omega)
  unfold Dk.cnt
  omega
end Go.Proofs.YtnnmpdanfeejbaaGreat.Abs

/- The abstract machine: a contract for rows that are handed over holds for nil rows too. -/
namespace Go.Proofs.YtnnmpdanfeejbaaGreat.Abs
open Go Go.RowKit
set_option linter.unusedVariables false
set_option linter.unusedSimpArgs false
mutual
/-- Nothing but what is only read. -/
def clA : AV → Bool
  | .c _ => true
  | .nul => true
  | .ag cs => clL cs
  | _ => false
def clL : List AV → Bool
  | [] => true
  | x :: r => clA x && clL r
end
theorem clL_mem : ∀ {l : List AV}, clL l = true → ∀ x ∈ l, clA x = true
  | [], _, x, hx => by simp at hx
  | y :: r, h, x, hx => by
    simp only [clL, Bool.and_eq_true] at h
    rcases List.mem_cons.1 hx with rfl | hx
    · exact h.1
    · exact clL_mem h.2 x hx
theorem RdV.cl {w : World} {E E' : Env} {H H' : Hp} (hl : E'.loc = E.loc) {x : AV} {u : Value} (h : RdV w E H x u) : clA x = true → RdV w E' H' x u := by
  induction h with
  | c x u h => exact fun _ => .c _ _ (h.mono fun b _ hb => ⟨rfl, by show E'.loc b = none; rw [hl]; exact hb⟩)
  | nul => exact fun _ => .nul
  | ag cs us hs _ ih => exact fun hc => .ag _ _ hs (fun i c u h1 h2 => ih i c u h1 h2 (clL_mem hc c (List.mem_of_getElem? h1)))
  | _ => exact fun hc => by simp [clA] at hc
def nilP (Hin : List Ob) : List AV → List AV → Prop
  | [], [] => True
  | x :: r, y :: q => ((x = y ∧ clA y = true) ∨ (y = .nul ∧ ∃ k ty sz, x = .sl k 0 ∧ HpS Hin k = some (.rw ty sz []))) ∧ nilP Hin r q
  | _, _ => False
theorem nilP_get {Hin : List Ob} : ∀ {l m : List AV}, nilP Hin l m → l.length = m.length ∧ ∀ (i : Nat) x y, l[i]? = some x → m[i]? = some y → (x = y ∧ clA y = true) ∨ (y = .nul ∧ ∃ k ty sz, x = .sl k 0 ∧ HpS Hin k = some (.rw ty sz []))
  | [], [], _ => ⟨rfl, fun i x y h => by simp at h⟩
  | [], _ :: _, h => h.elim
  | _ :: _, [], h => h.elim
  | x :: r, y :: q, h => by
    obtain ⟨h1, h2⟩ := nilP_get h.2
    refine ⟨by simp [h1], fun i a b ha hb => ?_⟩
    cases i with
    | zero => cases ha; cases hb; exact h.1
    | succ i => exact h2 i a b (by simpa using ha) (by simpa using hb)
theorem CallOk.nil {P : Program} {f : Nat} {Hin : List Ob} {args args' : List AV} {Post : AV → List (Option Ob) → Prop} (h : CallOk P f Hin args Post) (hin : ∀ ob ∈ Hin, ∃ ty sz, ob = .rw ty sz []) (ha : nilP Hin args args') : CallOk P f [] args' Post := by
  obtain ⟨hlen, hget⟩ := nilP_get ha
  refine ⟨h.1, fun w E vals hlive hlt hsz hv => ?_⟩
  have h1 := h.2 w ⟨fun _ => none, E.loc⟩ vals (fun k ob hk => by
    have : ob ∈ Hin := by
      unfold HpS at hk
      split at hk
      · cases hk
      · exact List.mem_of_getElem? hk
    obtain ⟨ty, sz, rfl⟩ := hin ob this
    exact .inl ⟨rfl, rfl⟩) hlt (by rw [hsz, hlen]) (fun i x u hx hu => by
    have hil := (List.getElem?_eq_some_iff.1 hx).1
    have hy := List.getElem?_eq_getElem (l := args') (hlen ▸ hil)
    have hr := hv i _ u hy hu
    rcases hget i x _ hx hy with ⟨rfl, hc⟩ | ⟨he, k, ty, sz, rfl, hk⟩
    · exact RdV.cl (E := E) (E' := ⟨fun _ => none, E.loc⟩) rfl hr hc
    · rw [he] at hr
      cases hr
      exact .slN k ty sz hk rfl)
  refine h1.mono ?_
  rintro e w' ⟨u, r, out, E', q1, q2, q3, q4, q5, q6, q7, q8, q9, q10⟩
  exact ⟨u, r, out, E', q1, q2, q3, q4, q5, q6, fun k x hk => by simp [HpS] at hk, q8, q9, q10⟩
end Go.Proofs.YtnnmpdanfeejbaaGreat.Abs

/- Stores: what is read of a disk below a sheet; pure. -/
namespace Go.Proofs.YtnnmpdanfeejbaaGreat.Abs
open Go Go.Proofs
set_option maxRecDepth 10000
set_option linter.unusedVariables false
set_option linter.unusedSimpArgs false
abbrev LS := List Nd × List Int
/-- The pairs of a leaf's page. -/
def prsOf : List ByteArray → List ByteArray → List Pr
  | k :: ks, v :: vs => ⟨k, v⟩ :: prsOf ks vs
  | _, _ => []
def ndOf (p : Pg) : Nd := if p.cs = [] then ⟨prsOf p.ks p.vs, [], []⟩ else ⟨[], p.ks, []⟩
def kidN (n : Nd) (k : Nat) : Nd := ⟨n.ps, n.ks, n.cs ++ [(k : Int)]⟩
def addKid (me : Nat) (ns : List Nd) : List Nd := match ns[me]? with
  | some n => ns.set me (kidN n ns.length)
  | none => ns
def loadK (ld : Int → LS → Option LS) (me : Nat) : List Int → LS → Option LS
  | [], s => some s
  | k :: r, s => match ld k (addKid me s.1, s.2) with
    | some s' => loadK ld me r s'
    | none => none
noncomputable def pgAt (d : Dk) (a : Int) : Option Pg := (dkO d a).bind pgOf
noncomputable def loadL (d : Dk) : Nat → Int → LS → Option LS
  | 0, _, _ => none
  | f + 1, a, s => match pgAt d a with
    | none => none
    | some p => if a ∈ s.2 ∨ 400 ≤ s.1.length then none else loadK (loadL d f) s.1.length p.cs (s.1 ++ [ndOf p], s.2 ++ [a])
theorem prsOf_len : ∀ (ks vs : List ByteArray), vs.length = ks.length → (prsOf ks vs).length = ks.length
  | [], [], _ => rfl
  | [], _ :: _, h => by simp at h
  | _ :: _, [], h => by simp at h
  | k :: ks, v :: vs, h => by rw [prsOf, List.length_cons, List.length_cons, prsOf_len ks vs (by simpa using h)]
theorem prsOf_take : ∀ (ks vs : List ByteArray) (i : Nat) (k v : ByteArray), ks[i]? = some k → vs[i]? = some v → prsOf (ks.take (i + 1)) (vs.take (i + 1)) = prsOf (ks.take i) (vs.take i) ++ [⟨k, v⟩]
  | [], _, i, k, v, h, _ => by simp at h
  | _ :: _, [], i, k, v, _, h => by simp at h
  | k0 :: ks, v0 :: vs, 0, k, v, hk, hv => by
    simp at hk hv; subst hk hv
    simp [prsOf]
  | k0 :: ks, v0 :: vs, i + 1, k, v, hk, hv => by
    have := prsOf_take ks vs i k v (by simpa using hk) (by simpa using hv)
    rw [List.take_succ_cons, List.take_succ_cons, List.take_succ_cons, List.take_succ_cons, prsOf, prsOf, this]
    rfl
theorem prsOf_mem : ∀ (ks vs : List ByteArray) (x : Pr), x ∈ prsOf ks vs → x.k ∈ ks ∧ x.v ∈ vs
  | [], _, x, h => by simp [prsOf] at h
  | _ :: _, [], x, h => by simp [prsOf] at h
  | k :: ks, v :: vs, x, h => by
    rw [prsOf] at h
    rcases List.mem_cons.1 h with rfl | h
    · exact ⟨List.mem_cons_self .., List.mem_cons_self ..⟩
    · have := prsOf_mem ks vs x h
      exact ⟨List.mem_cons_of_mem _ this.1, List.mem_cons_of_mem _ this.2⟩
theorem addKid_len (me : Nat) (ns : List Nd) : (addKid me ns).length = ns.length := by
  unfold addKid; split
  · simp
  · rfl
theorem addKid_get {me : Nat} {ns : List Nd} {n : Nd} (h : ns[me]? = some n) : addKid me ns = ns.set me (kidN n ns.length) := by unfold addKid; rw [h]
/-- A node as it comes out of a page: few of all, and short. -/
def ndFew (n : Nd) : Prop := n.ps.length ≤ 4 ∧ n.ks.length ≤ 4 ∧ n.cs.length ≤ 4 ∧ (∀ p ∈ n.ps, p.k.size ≤ 100 ∧ p.v.size ≤ 100) ∧ ∀ k ∈ n.ks, k.size ≤ 100
theorem ndFew.fits {n : Nd} (h : ndFew n) {M : Nat} (hM : 100 ≤ M) : n.fits M :=
  ⟨by have := h.1; omega, by have := h.2.1; omega, by have := h.2.2.1; omega, fun p hp => by have := h.2.2.2.1 p hp; omega, fun k hk => by have := h.2.2.2.2 k hk; omega⟩
theorem ndOf_few {p : Pg} (h : pageOk p) : ndFew (ndOf p) ∧ (ndOf p).cs = [] := by
  obtain ⟨⟨h1, _⟩, h2, h3, h4⟩ := h
  unfold ndOf
  split
  · rename_i hc
    rcases h4 with ⟨_, h5, h6, h7⟩ | ⟨h5, _⟩
    · refine ⟨⟨by simp only; rw [prsOf_len _ _ h7]; exact h6, by simp, by simp, fun q hq => ?_, by simp⟩, rfl⟩
      obtain ⟨a, b⟩ := prsOf_mem _ _ q hq
      have a1 := (h1 _ a).2
      have b1 := h2 _ b
      unfold valOk at b1
      omega
    · rw [hc] at h5; simp at h5
  · rename_i hc
    rcases h4 with ⟨h5, _⟩ | ⟨h5, h6, h7, _⟩
    · exact absurd h5 hc
    · refine ⟨⟨by simp, by simp only; omega, by simp, by simp, fun k hk => ?_⟩, rfl⟩
      have := (h1 k hk).2
      omega
/-- What a reading keeps. -/
structure Ldd (s s' : LS) : Prop where
  pre : s.1 <+: s'.1
  pre2 : s.2 <+: s'.2
  len : s'.1.length + s.2.length = s.1.length + s'.2.length
  most : s'.1.length ≤ 400
  few : ∀ x ∈ s'.1, x ∈ s.1 ∨ ndFew x
theorem addKid_pre {me : Nat} {ns : List Nd} (n : Nd) (hn : ns[me]? = some n) {m : Nat} (hm : m ≤ me) : ns.take m = (addKid me ns).take m := by
  rw [addKid_get hn, List.take_set_of_le hm]
theorem pre_get {α : Type} {l m : List α} (h : l <+: m) {i : Nat} {x : α} (hx : l[i]? = some x) : m[i]? = some x := by
  obtain ⟨r, rfl⟩ := h
  rw [List.getElem?_append_left (List.getElem?_eq_some_iff.1 hx).1]
  exact hx
/-- The walk over the kids: what came ahead of the node stays, and the node grows by kids alone. -/
theorem loadK_ok {ld : Int → LS → Option LS} (hld : ∀ k s s', ld k s = some s' → Ldd s s') {me : Nat} {base : LS} {n0 : Nd} (hb : base.1.length = me) (hf : ndFew ⟨n0.ps, n0.ks, []⟩) :
    ∀ (cs : List Int) (s s' : LS) (n : Nd), s.1[me]? = some n → n.ps = n0.ps → n.ks = n0.ks → n.cs.length + cs.length ≤ 4 → base.1 <+: s.1 → base.2 <+: s.2 → s.1.length + base.2.length = base.1.length + s.2.length → s.1.length ≤ 400 → (∀ x ∈ s.1, x ∈ base.1 ∨ ndFew x) → loadK ld me cs s = some s' → Ldd base s'
  | [], s, s', n, hn, h1, h2, h3, h4, h5, h6, h7, h8, h => by
    cases h
    exact ⟨h4, h5, h6, h7, h8⟩
  | k :: r, s, s', n, hn, h1, h2, h3, h4, h5, h6, h7, h8, h => by
    unfold loadK at h
    split at h
    · rename_i s1 hs1
      have hl := hld _ _ _ hs1
      have hme : (addKid me s.1)[me]? = some (kidN n s.1.length) := by
        rw [addKid_get hn, List.getElem?_set_self (List.getElem?_eq_some_iff.1 hn).1]
      have hme1 := pre_get hl.pre hme
      have hbt : base.1 <+: addKid me s.1 := by
        obtain ⟨t, ht⟩ := h4
        refine ⟨(addKid me s.1).drop me, ?_⟩
        have e1 : base.1 = s.1.take me := by rw [← ht, ← hb, List.take_left']; rfl
        rw [e1, addKid_pre n hn (Nat.le_refl _), List.take_append_drop]
      simp only [List.length_cons] at h3
      have hlen := hl.len
      simp only [addKid_len] at hlen
      refine loadK_ok hld hb hf r s1 s' (kidN n s.1.length) hme1 h1 h2 (by simp [kidN]; omega) (hbt.trans hl.pre) (h5.trans hl.pre2) (by omega) hl.most (fun x hx => ?_) h
      rcases hl.few x hx with hx | hx
      · rw [addKid_get hn] at hx
        rcases List.mem_or_eq_of_mem_set hx with hx | rfl
        · exact h8 x hx
        · right
          obtain ⟨q1, q2, q3, q4, q5⟩ := hf
          exact ⟨by show n.ps.length ≤ 4; rw [h1]; exact q1, by show n.ks.length ≤ 4; rw [h2]; exact q2, by simp [kidN]; omega, by show ∀ p ∈ n.ps, _; rw [h1]; exact q4, by show ∀ k ∈ n.ks, _; rw [h2]; exact q5⟩
      · exact .inr hx
    · cases h
theorem pgAt_ok {d : Dk} {a : Int} {p : Pg} (h : pgAt d a = some p) : pageOk p ∧ d.ok ∧ 0 ≤ a ∧ a < d.sh.length := by
  unfold pgAt at h
  rw [Option.bind_eq_some_iff] at h
  obtain ⟨b, hb, hp⟩ := h
  unfold dkO at hb
  split at hb
  · rename_i hc
    exact ⟨(pgOf_good hp).1, hc⟩
  · cases hb
theorem loadL_ok (d : Dk) : ∀ (f : Nat) (a : Int) (s s' : LS), loadL d f a s = some s' → Ldd s s'
  | 0, a, s, s', h => by simp [loadL] at h
  | f + 1, a, s, s', h => by
    unfold loadL at h
    split at h
    · cases h
    · rename_i p hp
      split at h
      · cases h
      · rename_i hc
        have hc1 : ¬ 400 ≤ s.1.length := fun e => hc (.inr e)
        obtain ⟨g1, g2⟩ := ndOf_few (pgAt_ok hp).1
        have hcs : p.cs.length ≤ 4 := by rcases (pgAt_ok hp).1.2.2.2 with ⟨e, _⟩ | ⟨_, e, _⟩; rw [e]; simp; exact e
        refine loadK_ok (loadL_ok d f) (n0 := ndOf p) (base := s) rfl (by rw [← g2]; exact g1) p.cs _ s' (ndOf p) ?_ rfl rfl (by rw [g2]; simpa using hcs) ?_ ?_ ?_ ?_ ?_ h
        · simp
        · exact List.prefix_append _ _
        · exact List.prefix_append _ _
        · simp; omega
        · simp; omega
        · intro x hx
          rcases List.mem_append.1 hx with hx | hx
          · exact .inl hx
          · rw [List.mem_singleton] at hx; subst hx; exact .inr g1
end Go.Proofs.YtnnmpdanfeejbaaGreat.Abs

/- Stores: the reference's reading of a disk below a sheet. -/
namespace Go.Proofs.YtnnmpdanfeejbaaGreat.Abs
open Go Go.Proofs
set_option maxRecDepth 10000
set_option linter.unusedVariables false
set_option linter.unusedSimpArgs false
theorem l06Has_ok (l : List Int) (a : Int) (hl : l.length ≤ 2^40) : CallOk Tryz.prog 74 [] [Rw (l.map inC), In a] (fun r out => r = Bo (tf (a ∈ l)) ∧ out = []) := by
  refine callOk_z (np := 0) {} mixed Tryz.func74 (by rfl) Tryz.ntmps74 Tryz.results74 (by rfl) (Nat.le_of_ble_eq_true rfl) rfl rfl rfl (vc ?_)
  refine loopQ_of (fun i => [(1, In a), (7, Rw (l.map inC)), (8, In (l.length : Nat)), (9, In (i : Nat))]) (fun i => []) 1 (fun i => l.length - i) (fun i => i ≤ l.length ∧ a ∉ l.take i) 0 ⟨Nat.zero_le _, by simp⟩ [] (by rfl) (vc trivial) (vc trivial) (fun i hi N hN => vc (brB_intro (fun h => ?_) (fun h => ?_)))
  · obtain ⟨hi, hna⟩ := hi
    have h : i < l.length := by simpa using h
    have hx := List.getElem?_eq_getElem h
    rw [get_map hx, inC]
    refine vc (brB_intro (fun h2 => ?_) (fun h2 => ?_))
    · have h2 : l[i] = a := by simpa using h2
      refine EndQ.closed (.v _) ⟨?_, rfl⟩
      rw [tf_true (by rw [← h2]; exact List.getElem_mem h)]
    · have h2 : l[i] ≠ a := by simpa using h2
      refine hN _ (i + 1) [] ⟨h, ?_⟩ (by omega) (by rfl) (vc ?_) (vc trivial)
      · rw [List.take_add_one, hx]
        simp only [Option.toList_some, List.mem_append, List.mem_singleton, not_or]
        exact ⟨hna, fun e => h2 e.symm⟩
      · rw [w64 _ (by omega)]; simp
  · obtain ⟨hi, hna⟩ := hi
    have h : i = l.length := by simp at h; omega
    refine EndQ.closed (.v _) ⟨?_, rfl⟩
    rw [h, List.take_length] at hna
    rw [tf_false hna]
theorem pgo_rs (p : Option Pg) : true = true → Rs true 3 (pgR p) ∧ ∀ ob, some ob ∈ pgH p → RsOb true 3 ob := fun _ =>
  ⟨.tu _ (by simp; exact ⟨.ag _ (by simp; exact ⟨.sl 1 _ (by omega) (by omega), .sl 2 _ (by omega) (by omega), .sl 3 _ (by omega) (by omega)⟩), .v _⟩), by
    intro ob h; simp [pgH] at h
    rcases h with rfl | rfl | rfl
    · exact .inr (own_st _)
    · exact .inr (own_st _)
    · exact .inr (own_in _)⟩
def ldR : Option LS → AV
  | some s => .tu [.sl 3 s.1.length, .sl 4 s.2.length, Bo true]
  | none => .tu [.nul, .nul, Bo false]
def ldH : Option LS → List (Option Ob)
  | some s => [none, none, some (.rw 111 3 (s.1.map (ndC true))), some (.rw 3 1 (s.2.map inC))]
  | none => [none, none]
theorem l06Load_ok (d : Dk) (hd : d.fits (2^40)) : ∀ (f : Nat) (a : Int) (s : LS), s.1.length = s.2.length → s.1.length ≤ 400 → 400 < f + s.1.length →
    CallOk Tryz.prog 43 [.rw 111 3 (s.1.map (ndC true)), .rw 3 1 (s.2.map inC)] [d.rd, In a, .sl 1 s.1.length, .sl 2 s.2.length] (fun r out => r = ldR (loadL d f a s) ∧ out = ldH (loadL d f a s))
  | 0, a, s, h1, h2, h3 => by omega
  | f + 1, a, s, h1, h2, h3 => by
    obtain ⟨ns, ps⟩ := s
    simp only at h1 h2 h3
    have hc := specDiskRead_ok d hd a
    unfold Dk.rd at hc ⊢
    refine callOk_z (np := 2) { js := [14], op := [(19, 4)] } mixed Tryz.func43 (by rfl) Tryz.ntmps43 Tryz.results43 (by rfl) (Nat.le_of_ble_eq_true rfl) rfl rfl rfl (vc ?_)
    refine callq_of false [] hc rfl trivial (vc trivial) ?_
    rintro r out ⟨rfl, rfl⟩
    unfold byR byH byO
    have hpg : pgAt d a = (dkO d a).bind pgOf := rfl
    have hol : ∀ b, dkO d a = some b → b.length ≤ 2^40 := fun b hb => by
      unfold dkO at hb
      split at hb
      · rename_i hh
        cases hb
        rw [rdD_len hh.1 (by omega)]; omega
      · cases hb
    have hno : pgAt d a = none → ∀ H : Hp, (outP (gS []) H 1 [none, none]) → EndQ 2 H (.tu [.nul, .nul, Bo false]) (fun r out => r = ldR (loadL d (f + 1) a (ns, ps)) ∧ out = ldH (loadL d (f + 1) a (ns, ps))) := fun hp H hh => by
      have e : loadL d (f + 1) a (ns, ps) = none := by unfold loadL; rw [hp]
      rw [e]
      exact endQ_of [] (.tu [.nul, .nul, Bo false]) [none, none] (by rfl) (vc trivial) hh ⟨rfl, rfl⟩
    generalize dkO d a = o at hpg hol
    cases o with
    | none =>
      refine vc4 (by simp) (by simp) (by simp) ?_
      have hp := specPageRead_ok [] (by simp)
      rw [pgOf_no (by simp)] at hp
      refine callq_of true [] hp rfl trivial (vc trivial) ?_
      rintro r out ⟨rfl, rfl⟩
      refine ⟨by simp [pgH], by simp [pgH], pgo_rs none, ?_⟩
      unfold pgR pgH pgP
      refine vc ?_
      exact hno hpg _ (vc trivial)
    | some b =>
      have hpg : pgAt d a = pgOf b := hpg
      refine vc4 (by simp) (by simp) (by simp) ?_
      have hp := specPageRead_ok b (hol b rfl)
      generalize pgOf b = q at hpg hp
      refine callq_of true [] hp rfl trivial (vc trivial) ?_
      rintro r out ⟨rfl, rfl⟩
      refine ⟨by simp [pgH], by simp [pgH], pgo_rs q, ?_⟩
      unfold pgR pgH pgP
      cases q with
      | none =>
        refine vc ?_
        exact hno hpg _ (vc trivial)
      | some p =>
        refine vc ?_
        refine callq_of true [] (l06Has_ok ps a (by omega)) rfl trivial (vc trivial) ?_
        rintro r out ⟨rfl, rfl⟩
        refine ⟨by simp, by simp, fun _ => ⟨.v _, by simp⟩, vc ?_⟩
        by_cases hin : a ∈ ps
        · rw [tf_true hin]
          refine vc ?_
          have e : loadL d (f + 1) a (ns, ps) = none := by unfold loadL; rw [hpg]; exact if_pos (.inl hin)
          rw [e]
          exact endQ_of [] (.tu [.nul, .nul, Bo false]) [none, none] (by rfl) (vc trivial) (vc trivial) ⟨rfl, rfl⟩
        rw [tf_false hin]
        refine vc (brB_intro (fun h => ?_) (fun h => ?_))
        · have h : 400 ≤ ns.length := by simp at h; omega
          have e : loadL d (f + 1) a (ns, ps) = none := by unfold loadL; rw [hpg]; exact if_pos (.inr h)
          rw [e]
          exact endQ_of [] (.tu [.nul, .nul, Bo false]) [none, none] (by rfl) (vc trivial) (vc trivial) ⟨rfl, rfl⟩
        · have h : ns.length < 400 := by simp at h; omega
          have e : loadL d (f + 1) a (ns, ps) = loadK (loadL d f) ns.length p.cs (ns ++ [ndOf p], ps ++ [a]) := by
            conv => lhs; unfold loadL
            rw [hpg]; exact if_neg (by rintro (h1 | h1); exact hin h1; simp only at h1; omega)
          rw [e]
          have hpk := (pgAt_ok hpg).1
          clear e hno
          refine joinQ_of (ι := Unit) (fun _ => [(1, In a), (2, .sl 1 ns.length), (3, .sl 2 ps.length), (4, .pt 3 0 0), (13, .pt 6 0 0), (15, In ns.length), (16, .pt 8 0 0)])
            (fun _ => [(1, .rw 111 3 (ns.map (ndC true))), (2, .rw 3 1 (ps.map inC)), (3, .box 30 [Rw (d.sh.map (shC false)), Rw (d.wr.map (wrC false))]), (4, .rw 141 2 ((ndOf p).ps.map prC)), (5, .rw 9 1 ((ndOf p).ks.map stC)), (6, .box 107 [.any, .any, .sl 7 p.cs.length]), (7, .rw 3 1 (p.cs.map inC)), (8, .box 111 [.sl 4 (ndOf p).ps.length, .sl 5 (ndOf p).ks.length, .nul])]) 9 (fun _ => True) (fun N hN => vc ?_) (fun _ _ => ?_)
          · refine brB_intro (fun h5 => ?_) (fun h5 => ?_)
            · have h5 : p.cs ≠ [] := by intro e; rw [e] at h5; simp at h5
              have en : ndOf p = ⟨[], p.ks, []⟩ := by unfold ndOf; rw [if_neg h5]
              rw [en] at hN
              exact hN _ () [(4, 0), (5, 107), (6, 139), (7, 109), (8, 323)] trivial (by rfl) (vc trivial) (vc trivial)
            · have h5 : p.cs = [] := by cases hcs : p.cs with
                | nil => rfl
                | cons x r => rw [hcs] at h5; simp at h5
              have en : ndOf p = ⟨prsOf p.ks p.vs, [], []⟩ := by unfold ndOf; rw [if_pos h5]
              rw [en] at hN
              have hvl : p.vs.length = p.ks.length := by
                rcases hpk.2.2.2 with ⟨_, _, _, g⟩ | ⟨g, _⟩
                · exact g
                · rw [h5] at g; simp at g
              have hkl : p.ks.length ≤ 4 := by
                rcases hpk.2.2.2 with ⟨_, _, g, _⟩ | ⟨g, _⟩
                · exact g
                · rw [h5] at g; simp at g
              refine loopQ_of (fun i => [(1, In a), (2, .sl 1 ns.length), (3, .sl 2 ps.length), (4, .pt 3 0 0), (13, .pt 6 0 0), (15, In ns.length), (16, .pt 8 0 0), (62, .sl 5 p.ks.length), (63, In p.ks.length), (64, In (i : Nat))])
                (fun i => [(1, .rw 111 3 (ns.map (ndC true))), (2, .rw 3 1 (ps.map inC)), (3, .box 30 [Rw (d.sh.map (shC false)), Rw (d.wr.map (wrC false))]), (4, .rw 141 2 ((prsOf (p.ks.take i) (p.vs.take i)).map prC)), (5, .rw 9 1 (p.ks.map stC)), (6, .box 107 [.sl 5 p.ks.length, .sl 9 p.vs.length, .sl 7 p.cs.length]), (7, .rw 3 1 (p.cs.map inC)), (8, .box 111 [.sl 4 (prsOf (p.ks.take i) (p.vs.take i)).length, .nul, .nul]), (9, .rw 9 1 (p.vs.map stC))]) 10 (fun i => p.ks.length - i) (fun i => i ≤ p.ks.length) 0 (Nat.zero_le _) [(4, 0), (5, 107), (6, 139), (7, 109), (8, 323), (9, 108)] (by rfl) (vc trivial) (by refine vc ?_; exact ⟨rfl, rfl⟩) (fun i hi M hM => vc (brB_intro (fun h6 => ?_) (fun h6 => ?_)))
              · have h6 : i < p.ks.length := by simpa using h6
                have hk := List.getElem?_eq_getElem h6
                have hv := List.getElem?_eq_getElem (show i < p.vs.length by omega)
                refine ⟨h6, ?_⟩
                rw [get_map hk, stC]
                refine vc ?_
                refine drawQ_of false (by rfl) (by simp) (vc ?_)
                refine ⟨by omega, ?_⟩
                rw [get_map hv, stC]
                have hpl : (prsOf (p.ks.take i) (p.vs.take i)).length = i := by rw [prsOf_len _ _ (by simp; omega)]; simp; omega
                refine vc ?_
                refine ⟨⟨by rw [hpl]; unfold maxLen; omega, by rw [hpl]; omega⟩, ?_⟩
                repeat refine ⟨rfl, ?_⟩
                refine hM _ (i + 1) [(4, 138)] (by omega) (by omega) (by rfl) (vc ?_) (vc ?_)
                · rw [w64 _ (by omega)]; simp
                · rw [prsOf_take _ _ i _ _ hk hv]; simp [prC]
              · have h6 : i = p.ks.length := by simp at h6; omega
                subst h6
                rw [List.take_length, show List.take p.ks.length p.vs = p.vs from List.take_of_length_le (by omega)]
                refine hN _ () [(4, 4), (5, 0), (6, 6), (7, 7), (8, 8)] trivial (by rfl) (vc trivial) (vc trivial)
          · obtain ⟨g1, g2⟩ := ndOf_few hpk
            have hcl : p.cs.length ≤ 4 := by rcases hpk.2.2.2 with ⟨e, _⟩ | ⟨_, e, _⟩; rw [e]; simp; exact e
            refine vc ?_
            refine ⟨⟨by simp, by unfold maxLen; omega, by omega⟩, ⟨by unfold maxLen; omega, by omega⟩, ?_⟩
            have hm0 : ns.map (ndC true) ++ [[CV.row true ((ndOf p).ps.map prC), CV.row true ((ndOf p).ks.map stC), CV.row true []]] = (ns ++ [ndOf p]).map (ndC true) := by
              rw [List.map_append, List.map_cons, List.map_nil, ndC, g2]; rfl
            have hm1 : ps.map inC ++ [[CV.v (.int .i64 a)]] = (ps ++ [a]).map inC := by rw [List.map_append]; rfl
            rw [hm0, hm1]
            refine loopQ_of (ι := Nat × LS) (fun x => [(2, .sl 4 x.2.1.length), (3, .sl 5 x.2.2.length), (4, .pt 3 0 0), (15, In ns.length), (91, .sl 6 p.cs.length), (92, In p.cs.length), (93, In (x.1 : Nat))])
              (fun x => [(3, .box 30 [Rw (d.sh.map (shC false)), Rw (d.wr.map (wrC false))]), (4, .rw 111 3 (x.2.1.map (ndC true))), (5, .rw 3 1 (x.2.2.map inC)), (6, .rw 3 1 (p.cs.map inC))]) 7 (fun x => p.cs.length - x.1)
              (fun x => x.1 ≤ p.cs.length ∧ loadK (loadL d f) ns.length (p.cs.drop x.1) x.2 = loadK (loadL d f) ns.length p.cs (ns ++ [ndOf p], ps ++ [a]) ∧ (∃ n, x.2.1[ns.length]? = some n ∧ n.cs.length ≤ x.1) ∧ x.2.1.length = x.2.2.length ∧ x.2.1.length ≤ 400 ∧ ns.length < x.2.1.length) (0, (ns ++ [ndOf p], ps ++ [a]))
              ⟨Nat.zero_le _, rfl, ⟨ndOf p, by simp, by rw [g2]; simp⟩, by simp; omega, by simp; omega, by simp⟩ [(4, 33), (5, 73), (6, 7)] (by rfl) (vc ?_) (vc trivial) (fun x hx M hM => ?_)
            · exact ⟨by simp, by simp⟩
            obtain ⟨i, ns1, ps1⟩ := x
            obtain ⟨hi, htot, ⟨n, hn, hnc⟩, hl1, hl2, hl3⟩ := hx
            simp only at hi htot hn hnc hl1 hl2 hl3 hM
            refine vc (brB_intro (fun h6 => ?_) (fun h6 => ?_))
            · have h6 : i < p.cs.length := by simpa using h6
              have hk := List.getElem?_eq_getElem h6
              refine ⟨h6, ?_⟩
              rw [get_map hk, inC]
              refine vc ?_
              refine opnQ_of ns.length 2 3 1 (by rfl) (get_map hn) (by rfl) (in_one _) (vc ?_)
              refine ⟨hl3, ?_⟩
              rw [List.getElem?_set_self (by simpa using hl3)]
              refine vc ?_
              refine ⟨⟨by unfold maxLen; omega, by omega⟩, hl3, ?_⟩
              rw [List.getElem?_set_self (by simpa using hl3), show (ndC true n).set 2 CV.hole = [CV.row true (n.ps.map prC), CV.row true (n.ks.map stC), CV.hole] from rfl, if_pos (by simp)]
              refine vc ?_
              have hset : (ns1.map (ndC true)).set ns.length [CV.row true (n.ps.map prC), CV.row true (n.ks.map stC), CV.row true (n.cs.map inC ++ [[CV.v (.int .i64 ns1.length)]])] = (addKid ns.length ns1).map (ndC true) := by
                rw [addKid_get hn, List.map_set]; simp [ndC, kidN, inC]
              have hal := addKid_len ns.length ns1
              have hrec := l06Load_ok d hd f p.cs[i] (addKid ns.length ns1, ps1) (by simp only; omega) (by simp only; omega) (by simp only; omega)
              have hst : loadK (loadL d f) ns.length (p.cs.drop i) (ns1, ps1) = match loadL d f p.cs[i] (addKid ns.length ns1, ps1) with
                | some s' => loadK (loadL d f) ns.length (p.cs.drop (i + 1)) s'
                | none => none := by
                rw [List.drop_eq_getElem_cons h6]; rfl
              have hldd := loadL_ok d f p.cs[i] (addKid ns.length ns1, ps1)
              generalize loadL d f p.cs[i] (addKid ns.length ns1, ps1) = q at hrec hst hldd
              unfold Dk.rd at hrec
              simp only at hrec
              rw [← hset, hal] at hrec
              refine callq_of false [4, 5] hrec rfl (vc trivial) (vc trivial) ?_
              rintro r out ⟨rfl, rfl⟩
              cases q with
              | none =>
                unfold ldR ldH
                refine vc4 (by simp) (by simp) (by simp) ?_
                rw [← htot, hst]
                exact endQ_of [] (.tu [.nul, .nul, Bo false]) [none, none] (by rfl) (vc trivial) (vc trivial) ⟨rfl, rfl⟩
              | some s1 =>
                unfold ldR ldH
                refine vc4 (by simp) (by simp) (by simp) ?_
                have hL := hldd _ rfl
                have hL1 := hL.len
                have hL2 := hL.most
                have hL3 := hL.pre.length_le
                simp only [hal] at hL1 hL3
                refine hM _ (i + 1, s1) [(4, 191), (5, 192)] ⟨by simp only; omega, by simp only; rw [← htot, hst], ⟨kidN n ns1.length, pre_get hL.pre (by rw [addKid_get hn, List.getElem?_set_self hl3]), by simp [kidN]; omega⟩, by simp only; omega, by simp only; omega, by simp only; omega⟩ (by simp only; omega) (by rfl) (vc ?_) (vc trivial)
                rw [w64 _ (by omega)]; simp
            · have h6 : i = p.cs.length := by simp at h6; omega
              subst h6
              rw [List.drop_length, loadK] at htot
              rw [← htot]
              exact endQ_of [(3, 4), (4, 5)] (.tu [.sl 3 ns1.length, .sl 4 ps1.length, Bo true]) [none, none, some (.rw 111 3 (ns1.map (ndC true))), some (.rw 3 1 (ps1.map inC))] (by rfl) (vc trivial) (vc trivial) ⟨rfl, rfl⟩
end Go.Proofs.YtnnmpdanfeejbaaGreat.Abs
