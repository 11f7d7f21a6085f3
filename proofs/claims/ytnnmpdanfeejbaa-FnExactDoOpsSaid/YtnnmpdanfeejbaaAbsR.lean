/- The abstract machine: what is known less exactly, under other numbers. -/
import Derived.Test.YtnnmpdanfeejbaaAbsW
namespace Go.Proofs.Ytnnmpdanfeejbaa.Abs
open Go Go.RowKit
set_option linter.unusedVariables false
set_option linter.unusedSimpArgs false

/-- A value x, told as y under new numbers: g tells a new number's old one. -/
inductive Wk (g : Nat → Nat) : AV → AV → Prop
  | any (x) : Wk g x .any
  | c (x x') : Sim x x' → Wk g (.c x) (.c x')
  | same (x) : Wk g (.c x) (.c x)
  | bw (x) : Wk g (.bw x) (.bw x)
  | nul : Wk g .nul .nul
  | nulR (k) : Wk g .nul (.c (.row k []))
  | sl (o n) : g o ≠ 0 → Wk g (.sl (g o) n) (.sl o n)
  | ph (o) : g o = 0 → Wk g .nul (.sl o 0)
  | pt (o i j) : g o ≠ 0 → Wk g (.pt (g o) i j) (.pt o i j)
  | ag (cs cs') : cs.length = cs'.length → (∀ (i : Nat) c c', cs[i]? = some c → cs'[i]? = some c' → Wk g c c') → Wk g (.ag cs) (.ag cs')
  | tu (cs cs') : cs.length = cs'.length → (∀ (i : Nat) c c', cs[i]? = some c → cs'[i]? = some c' → Wk g c c') → Wk g (.tu cs) (.tu cs')
def WkO (g : Nat → Nat) : Ob → Ob → Prop
  | .box ty cs, .box ty' cs' => ty = ty' ∧ cs.length = cs'.length ∧ ∀ (i : Nat) c c', cs[i]? = some c → cs'[i]? = some c' → Wk g c c'
  | .rw ty sz es, .rw ty' sz' es' => ty = ty' ∧ sz = sz' ∧ es = es'
  | _, _ => False

/-- What has become of the objects: those of H' are g's of H; a number whose old one is 0 is new: a row that is nil. -/
structure WkH (g : Nat → Nat) (H H' : Hp) : Prop where
  ob : ∀ o x', H' o = some x' → (g o ≠ 0 ∧ ∃ x, H (g o) = some x ∧ WkO g x x') ∨ (g o = 0 ∧ ∃ ty sz, x' = .rw ty sz [])
  inj : ∀ o o', H' o ≠ none → H' o' ≠ none → g o ≠ 0 → g o = g o' → o = o'

open Classical in
noncomputable def invg (g : Nat → Nat) (H' : Hp) (k : Nat) : Option Nat := if h : ∃ o, H' o ≠ none ∧ g o = k then some (Classical.choose h) else none
theorem invg_of {g : Nat → Nat} {H H' : Hp} (h : WkH g H H') {o : Nat} (ho : H' o ≠ none) (hz : g o ≠ 0) : invg g H' (g o) = some o := by
  unfold invg
  have hx : ∃ o', H' o' ≠ none ∧ g o' = g o := ⟨o, ho, rfl⟩
  rw [dif_pos hx]
  have := Classical.choose_spec hx
  rw [h.inj _ o this.1 ho (by rw [this.2]; exact hz) this.2]
noncomputable def Env.weak (E : Env) (g : Nat → Nat) (H' : Hp) : Env :=
  ⟨fun o => if g o = 0 then none else E.rho (g o), fun b => (E.loc b).map fun ℓ => if ℓ.1 = 0 then ℓ else match invg g H' ℓ.1 with
    | some o => (o, ℓ.2)
    | none => (0, (ℓ.1, 0) :: ℓ.2)⟩

section
variable {P : Program} {nt : Nat} {I : Ini} {s : ASt} {E : Env} {a : Act} {w : World} {g : Nat → Nat} {H H' : Hp}

theorem weak_rho {o : Nat} (hn : g o ≠ 0) : (E.weak g H').rho o = E.rho (g o) := if_neg hn
theorem weak_loc (h : WkH g H H') {b o : Nat} {p : List (Nat × Nat)} (ho : H' o ≠ none) (hn : g o ≠ 0) (hb : E.loc b = some (g o, p)) : (E.weak g H').loc b = some (o, p) := by
  simp [Env.weak, hb, invg_of h ho hn, hn]
theorem weak_t0 {b : Nat} (hb : E.loc b = none) : (E.weak g H').loc b = none := by simp [Env.weak, hb]
theorem weak_t1 {b : Nat} (hb : E.T1 b) : (E.weak g H').T1 b := by
  intro o ho
  simp only [Env.weak, Option.map_eq_some_iff] at ho
  obtain ⟨⟨k, p⟩, h1, h2⟩ := ho
  split at h2
  · cases h2; exact hb _ h1
  · split at h2
    · cases h2; exact hb k h1
    · simp at h2

theorem RdV.weak (hk : WkH g H H') {x : AV} {u : Value} (h : RdV w E H x u) : ∀ {y : AV}, Wk g x y → RdV w (E.weak g H') H' y u := by
  have hT0 : ∀ {x : CV} {u : Value}, RdR w E.T0 x u → RdR w (E.weak g H').T0 x u := fun h => h.mono (fun b _ hb => ⟨rfl, weak_t0 hb⟩)
  have other : ∀ o, g o ≠ 0 → H' o ≠ none → ∃ x x', H (g o) = some x ∧ H' o = some x' ∧ WkO g x x' := fun o hg ho => by
    cases hh : H' o with
    | none => exact absurd hh ho
    | some x' =>
      rcases hk.ob o x' hh with ⟨_, x, h1, h2⟩ | ⟨h1, _⟩
      · exact ⟨x, x', h1, rfl, h2⟩
      · exact absurd h1 hg
  induction h with
  | c x u h =>
    intro y hy
    cases hy with
    | any => exact .any _
    | c _ _ hs => exact .c _ _ ((hT0 h).sim hs)
    | same => exact .c _ _ (hT0 h)
  | bw x u h =>
    intro y hy
    cases hy with
    | any => exact .any _
    | bw => exact .bw _ _ (h.mono (fun b _ hb => ⟨rfl, weak_t1 hb⟩))
  | nul =>
    intro y hy
    cases hy with
    | any => exact .any _
    | nul => exact .nul
    | nulR k => exact .c _ _ (.nil ..)
    | ph o hz =>
      by_cases ho : H' o = none
      · exact .slX _ _ _ ho
      · cases hh : H' o with
        | none => exact absurd hh ho
        | some x' =>
          rcases hk.ob o x' hh with ⟨h1, _⟩ | ⟨_, ty, sz, rfl⟩
          · exact absurd hz h1
          · exact .slN o ty sz hh (if_pos hz)
  | any u =>
    intro y hy
    cases hy with
    | any => exact .any _
  | slX o n u h =>
    intro y hy
    cases hy with
    | any => exact .any _
    | sl o' n hg =>
      by_cases ho : H' o' = none
      · exact .slX _ _ _ ho
      · obtain ⟨x, x', h1, h2, h3⟩ := other o' hg ho
        rw [h] at h1; cases h1
  | sl o n ty sz es b cap h hr =>
    intro y hy
    cases hy with
    | any => exact .any _
    | sl o' n hg =>
      by_cases ho : H' o' = none
      · exact .slX _ _ _ ho
      · obtain ⟨x, x', h1, h2, h3⟩ := other o' hg ho
        rw [h] at h1
        cases h1
        cases x' with
        | box => exact h3.elim
        | rw ty' sz' es' => exact .sl o' n ty' sz' es' b cap h2 ((weak_rho hg).trans hr)
  | slN o ty sz h hr =>
    intro y hy
    cases hy with
    | any => exact .any _
    | sl o' n hg =>
      by_cases ho : H' o' = none
      · exact .slX _ _ _ ho
      · obtain ⟨x, x', h1, h2, h3⟩ := other o' hg ho
        rw [h] at h1
        cases h1
        cases x' with
        | box => exact h3.elim
        | rw ty' sz' es' =>
          obtain ⟨rfl, rfl, rfl⟩ := h3
          exact .slN o' ty sz h2 ((weak_rho hg).trans hr)
  | ptX o i j u h =>
    intro y hy
    cases hy with
    | any => exact .any _
    | pt o' i j hg =>
      by_cases ho : H' o' = none
      · exact .ptX _ _ _ _ ho
      · obtain ⟨x, x', h1, h2, h3⟩ := other o' hg ho
        rw [h] at h1; cases h1
  | pt o i j ob b cap h hr =>
    intro y hy
    cases hy with
    | any => exact .any _
    | pt o' i j hg =>
      by_cases ho : H' o' = none
      · exact .ptX _ _ _ _ ho
      · obtain ⟨x, x', h1, h2, h3⟩ := other o' hg ho
        rw [h] at h1
        cases h1
        have : ob.sz = x'.sz := by cases ob <;> cases x' <;> first | rfl | exact h3.elim | exact h3.2.1
        rw [this]
        exact .pt o' i j x' b cap h2 ((weak_rho hg).trans hr)
  | ag cs us hs _ ih =>
    intro y hy
    cases hy with
    | any => exact .any _
    | ag _ cs' hl hcc =>
      refine .ag _ us (hs.trans hl) (fun i c' u hc' hu => ?_)
      have hil := (List.getElem?_eq_some_iff.1 hc').1
      have hie := List.getElem?_eq_getElem (hl ▸ hil)
      exact ih i _ u hie hu (hcc i _ c' hie hc')
  | tu cs us hs _ ih =>
    intro y hy
    cases hy with
    | any => exact .any _
    | tu _ cs' hl hcc =>
      refine .tu _ us (hs.trans hl) (fun i c' u hc' hu => ?_)
      have hil := (List.getElem?_eq_some_iff.1 hc').1
      have hie := List.getElem?_eq_getElem (hl ▸ hil)
      exact ih i _ u hie hu (hcc i _ c' hie hc')

theorem LiveOb.weak (hk : WkH g H H') {o : Nat} (hg : g o ≠ 0) {x x' : Ob} (ho : H' o = some x') (h : LiveOb w E H (g o) x) (hw : WkO g x x') : LiveOb w (E.weak g H') H' o x' := by
  have hne : H' o ≠ none := by rw [ho]; simp
  cases x with
  | box ty cs =>
    cases x' with
    | rw => exact hw.elim
    | box ty' cs' =>
      obtain ⟨rfl, hl, hcc⟩ := hw
      obtain ⟨b, arr, us, h1, h2, h3, h4, h5, h6⟩ := h
      refine ⟨b, arr, us, (weak_rho hg).trans h1, weak_loc hk hne hg h2, h3, h4.trans hl, fun j hj => h5 j (hl ▸ hj), fun j c' hc' => ?_⟩
      have hil := (List.getElem?_eq_some_iff.1 hc').1
      have hie := List.getElem?_eq_getElem (hl ▸ hil)
      exact (h6 j _ hie).weak hk (hcc j _ c' hie hc')
  | rw ty sz es =>
    cases x' with
    | box => exact hw.elim
    | rw ty' sz' es' =>
      obtain ⟨rfl, rfl, rfl⟩ := hw
      rcases h with ⟨h1, h2⟩ | ⟨b, cap, arr, us, h1, h2, h3, h4, h5, h6, h7, h8, h9⟩
      · exact .inl ⟨(weak_rho hg).trans h1, h2⟩
      · exact .inr ⟨b, cap, arr, us, (weak_rho hg).trans h1, weak_loc hk hne hg h2, h3, h4, h5, h6, h7, h8, fun i j e c he hc => (h9 i j e c he hc).relabel (o, [(i, j)]) (fun b' _ hb' => ⟨rfl, weak_t0 hb'⟩) (fun b' q _ hq => ⟨rfl, weak_loc hk hne hg hq⟩)⟩

/-- A state, told less exactly. np: how many objects were handed over. -/
structure Weak (np : Nat) (s s' : ASt) : Prop where
  ex : ∃ g, (∀ k, Wk g (s.t k) (s'.t k)) ∧ WkH g s.H s'.H ∧ (∀ o, 1 ≤ o → o ≤ np → s'.H o = none ∨ g o = o)
  c : np < s'.c
  z : s'.H 0 = none
  mnT : ∀ k, Mn (fun o => o < s'.c) (s'.t k)
  mnH : ∀ o ob, s'.H o = some ob → o < s'.c ∧ MnOb (fun o => o < s'.c) ob

theorem WkO.like {x x' : Ob} (h : WkO g x x') : x.like x' := by
  cases x <;> cases x' <;> first | exact h.elim | trivial | (obtain ⟨rfl, rfl, rfl⟩ := h; exact Ob.like.refl _)

theorem RelE.weak {U : Nat → Prop} {np : Nat} (hnp : ∀ o x, I.H o = some x → 1 ≤ o ∧ o ≤ np) (hR : RelE nt I U s E a w) {s' : ASt} (hw : Weak np s s') : ∃ E', RelE nt I (fun o => o < s'.c) s' E' a w := by
  obtain ⟨g, h1, hk, h3⟩ := hw.ex
  refine ⟨E.weak g s'.H, hR.defers, hR.size, fun k u hu => (hR.slots k u hu).weak hk (h1 k), fun o ob ho => ?_, fun b ℓ hb => ?_, fun b hb hm => ?_, fun o x hx => ?_, Nat.lt_of_le_of_lt (Nat.zero_le _) hw.c, hw.z, hw.mnT, hw.mnH, hR.evo⟩
  · rcases hk.ob o ob ho with ⟨hg, x, h4, h5⟩ | ⟨hg, ty, sz, rfl⟩
    · exact (hR.live _ x h4).weak hk hg ho h5
    · exact .inl ⟨if_pos hg, rfl⟩
  · simp only [Env.weak, Option.map_eq_some_iff] at hb
    obtain ⟨ℓ0, h0, _⟩ := hb
    exact hR.locLt b ℓ0 h0
  · have h4 := hR.old b hb hm
    rw [← h4]
    cases hl : E.loc b with
    | none => exact weak_t0 hl
    | some ℓ =>
      obtain ⟨k, p⟩ := ℓ
      have hk0 : k = 0 := by
        by_cases hk0 : k = 0
        · exact hk0
        · exact absurd ⟨k, p, by rw [← h4, hl], hk0⟩ hm
      subst hk0
      simp [Env.weak, hl]
  · obtain ⟨h4, h5⟩ := hR.pas o x hx
    obtain ⟨h6, h7⟩ := hnp o x hx
    refine ⟨Nat.lt_of_le_of_lt h7 hw.c, ?_⟩
    rcases h3 o h6 h7 with h8 | h8
    · exact .inl h8
    · cases hh : s'.H o with
      | none => exact .inl rfl
      | some x' =>
        right
        obtain ⟨hg, y, h9, h10⟩ : g o ≠ 0 ∧ ∃ x, s.H (g o) = some x ∧ WkO g x x' := (hk.ob o x' hh).resolve_right (fun h => by omega)
        rw [h8] at h9
        rcases h5 with h5 | ⟨h5, z, h11, h12⟩
        · rw [h5] at h9; cases h9
        · rw [h11] at h9
          cases h9
          exact ⟨by rw [weak_rho hg, h8]; exact h5, x', rfl, h12.trans h10.like⟩
end

end Go.Proofs.Ytnnmpdanfeejbaa.Abs
