import Derived.Test.YtnnmpdanfeejbaaGreatAbsG2
import Derived.Test.YtnnmpdanfeejbaaGreatProg
import Derived.KernelRfl
/- The abstract machine: what is known less exactly, under other numbers. -/
namespace Go.Proofs.YtnnmpdanfeejbaaGreat.Abs
open Go Go.RowKit
set_option linter.unusedVariables false
set_option linter.unusedSimpArgs false

/-- A value x, told as y under new numbers: g tells a new number's old one. -/
inductive Wk (g : Nat → Nat) : AV → AV → Prop
  | any (x) : Wk g x .any
  | c (x x') : Sim x x' → Wk g (.c x) (.c x')
  | same (x) : Wk g (.c x) (.c x)
  | bw (x) : Wk g (.bw x) (.bw x)
  | nul : Wk g .nul .nul
  | nulR (k) : Wk g .nul (.c (.row k []))
  | sl (o n) : g o ≠ 0 → Wk g (.sl (g o) n) (.sl o n)
  | ph (o) : g o = 0 → Wk g .nul (.sl o 0)
  | pt (o i j) : g o ≠ 0 → Wk g (.pt (g o) i j) (.pt o i j)
  | sv (o a n) : g o ≠ 0 → Wk g (.sv (g o) a n) (.sv o a n)
  | mr (o) : g o ≠ 0 → Wk g (.mr (g o)) (.mr o)
  | ag (cs cs') : cs.length = cs'.length → (∀ (i : Nat) c c', cs[i]? = some c → cs'[i]? = some c' → Wk g c c') → Wk g (.ag cs) (.ag cs')
  | tu (cs cs') : cs.length = cs'.length → (∀ (i : Nat) c c', cs[i]? = some c → cs'[i]? = some c' → Wk g c c') → Wk g (.tu cs) (.tu cs')
def WkO (g : Nat → Nat) : Ob → Ob → Prop
  | .box ty cs, .box ty' cs' => ty = ty' ∧ cs.length = cs'.length ∧ ∀ (i : Nat) c c', cs[i]? = some c → cs'[i]? = some c' → Wk g c c'
  | .rw ty sz es, .rw ty' sz' es' => ty = ty' ∧ sz = sz' ∧ es = es'
  | .mp m, .mp m' => m = m'
  | _, _ => False

/-- What has become of the objects: those of H' are g's of H; a number whose old one is 0 is new: a row that is nil. -/
structure WkH (g : Nat → Nat) (H H' : Hp) : Prop where
  ob : ∀ o x', H' o = some x' → (g o ≠ 0 ∧ ∃ x, H (g o) = some x ∧ WkO g x x') ∨ (g o = 0 ∧ ∃ ty sz, x' = .rw ty sz [])
  inj : ∀ o o', H' o ≠ none → H' o' ≠ none → g o ≠ 0 → g o = g o' → o = o'

open Classical in
noncomputable def invg (g : Nat → Nat) (H' : Hp) (k : Nat) : Option Nat := if h : ∃ o, H' o ≠ none ∧ g o = k then some (Classical.choose h) else none
theorem invg_of {g : Nat → Nat} {H H' : Hp} (h : WkH g H H') {o : Nat} (ho : H' o ≠ none) (hz : g o ≠ 0) : invg g H' (g o) = some o := by
  unfold invg
  have hx : ∃ o', H' o' ≠ none ∧ g o' = g o := ⟨o, ho, rfl⟩
  rw [dif_pos hx]
  have := Classical.choose_spec hx
  rw [h.inj _ o this.1 ho (by rw [this.2]; exact hz) this.2]
noncomputable def Env.weak (E : Env) (g : Nat → Nat) (H' : Hp) : Env :=
  ⟨fun o => if g o = 0 then none else E.rho (g o), fun b => (E.loc b).map fun ℓ => if ℓ.1 = 0 then ℓ else match invg g H' ℓ.1 with
    | some o => (o, ℓ.2)
    | none => (0, (ℓ.1, 0) :: ℓ.2)⟩

section
variable {P : Program} {nt : Nat} {I : Ini} {s : ASt} {E : Env} {a : Act} {w : World} {g : Nat → Nat} {H H' : Hp}

theorem weak_rho {o : Nat} (hn : g o ≠ 0) : (E.weak g H').rho o = E.rho (g o) := if_neg hn
theorem weak_loc (h : WkH g H H') {b o : Nat} {p : List (Nat × Nat)} (ho : H' o ≠ none) (hn : g o ≠ 0) (hb : E.loc b = some (g o, p)) : (E.weak g H').loc b = some (o, p) := by
  simp [Env.weak, hb, invg_of h ho hn, hn]
theorem weak_t0 {b : Nat} (hb : E.loc b = none) : (E.weak g H').loc b = none := by simp [Env.weak, hb]
theorem weak_t1 {b : Nat} (hb : E.T1 b) : (E.weak g H').T1 b := by
  intro o ho
  simp only [Env.weak, Option.map_eq_some_iff] at ho
  obtain ⟨⟨k, p⟩, h1, h2⟩ := ho
  split at h2
  · cases h2; exact hb _ h1
  · split at h2
    · cases h2; exact hb k h1
    · simp at h2

theorem RdV.weak (hk : WkH g H H') {x : AV} {u : Value} (h : RdV w E H x u) : ∀ {y : AV}, Wk g x y → RdV w (E.weak g H') H' y u := by
  have hT0 : ∀ {x : CV} {u : Value}, RdR w E.T0 x u → RdR w (E.weak g H').T0 x u := fun h => h.mono (fun b _ hb => ⟨rfl, weak_t0 hb⟩)
  have other : ∀ o, g o ≠ 0 → H' o ≠ none → ∃ x x', H (g o) = some x ∧ H' o = some x' ∧ WkO g x x' := fun o hg ho => by
    cases hh : H' o with
    | none => exact absurd hh ho
    | some x' =>
      rcases hk.ob o x' hh with ⟨_, x, h1, h2⟩ | ⟨h1, _⟩
      · exact ⟨x, x', h1, rfl, h2⟩
      · exact absurd h1 hg
  induction h with
  | c x u h =>
    intro y hy
    cases hy with
    | any => exact .any _
    | c _ _ hs => exact .c _ _ ((hT0 h).sim hs)
    | same => exact .c _ _ (hT0 h)
  | bw x u h =>
    intro y hy
    cases hy with
    | any => exact .any _
    | bw => exact .bw _ _ (h.mono (fun b _ hb => ⟨rfl, weak_t1 hb⟩))
  | nul =>
    intro y hy
    cases hy with
    | any => exact .any _
    | nul => exact .nul
    | nulR k => exact .c _ _ (.nil _ _ _ (fun _ => rfl))
    | ph o hz =>
      by_cases ho : H' o = none
      · exact .slX _ _ _ ho
      · cases hh : H' o with
        | none => exact absurd hh ho
        | some x' =>
          rcases hk.ob o x' hh with ⟨h1, _⟩ | ⟨_, ty, sz, rfl⟩
          · exact absurd hz h1
          · exact .slN o ty sz hh (if_pos hz)
  | any u =>
    intro y hy
    cases hy with
    | any => exact .any _
  | slX o n u h =>
    intro y hy
    cases hy with
    | any => exact .any _
    | sl o' n hg =>
      by_cases ho : H' o' = none
      · exact .slX _ _ _ ho
      · obtain ⟨x, x', h1, h2, h3⟩ := other o' hg ho
        rw [h] at h1; cases h1
  | sl o n ty sz es b cap h hr =>
    intro y hy
    cases hy with
    | any => exact .any _
    | sl o' n hg =>
      by_cases ho : H' o' = none
      · exact .slX _ _ _ ho
      · obtain ⟨x, x', h1, h2, h3⟩ := other o' hg ho
        rw [h] at h1
        cases h1
        cases x' with
        | box => exact h3.elim
        | rx => exact h3.elim
        | mp => exact h3.elim
        | rw ty' sz' es' => exact .sl o' n ty' sz' es' b cap h2 ((weak_rho hg).trans hr)
  | slO o n ty sz es i j v b cap h hr =>
    intro y hy
    cases hy with
    | any => exact .any _
    | sl o' n hg =>
      by_cases ho : H' o' = none
      · exact .slX _ _ _ ho
      · obtain ⟨x, x', h1, h2, h3⟩ := other o' hg ho
        rw [h] at h1
        cases h1
        cases x' <;> exact h3.elim
  | svX o a n u h =>
    intro y hy
    cases hy with
    | any => exact .any _
    | sv o' a n hg =>
      by_cases ho : H' o' = none
      · exact .svX _ _ _ _ ho
      · obtain ⟨x, x', h1, h2, h3⟩ := other o' hg ho
        rw [h] at h1; cases h1
  | sv o a n ob b cap h hr =>
    intro y hy
    cases hy with
    | any => exact .any _
    | sv o' a n hg =>
      by_cases ho : H' o' = none
      · exact .svX _ _ _ _ ho
      · obtain ⟨x, x', h1, h2, h3⟩ := other o' hg ho
        rw [h] at h1
        cases h1
        have : ob.sz = x'.sz := by cases ob <;> cases x' <;> first | rfl | exact h3.elim | exact h3.2.1
        rw [this]
        exact .sv o' a n x' b cap h2 ((weak_rho hg).trans hr)
  | mrX o u h =>
    intro y hy
    cases hy with
    | any => exact .any _
    | mr o' hg =>
      by_cases ho : H' o' = none
      · exact .mrX _ _ ho
      · obtain ⟨x, x', h1, h2, h3⟩ := other o' hg ho
        rw [h] at h1; cases h1
  | mr o m b cap h hr =>
    intro y hy
    cases hy with
    | any => exact .any _
    | mr o' hg =>
      by_cases ho : H' o' = none
      · exact .mrX _ _ ho
      · obtain ⟨x, x', h1, h2, h3⟩ := other o' hg ho
        rw [h] at h1
        cases h1
        cases x' with
        | box => exact h3.elim
        | rw => exact h3.elim
        | rx => exact h3.elim
        | mp m' => exact .mr o' m' b cap h2 ((weak_rho hg).trans hr)
  | slN o ty sz h hr =>
    intro y hy
    cases hy with
    | any => exact .any _
    | sl o' n hg =>
      by_cases ho : H' o' = none
      · exact .slX _ _ _ ho
      · obtain ⟨x, x', h1, h2, h3⟩ := other o' hg ho
        rw [h] at h1
        cases h1
        cases x' with
        | box => exact h3.elim
        | rx => exact h3.elim
        | mp => exact h3.elim
        | rw ty' sz' es' =>
          obtain ⟨rfl, rfl, rfl⟩ := h3
          exact .slN o' ty sz h2 ((weak_rho hg).trans hr)
  | ptX o i j u h =>
    intro y hy
    cases hy with
    | any => exact .any _
    | pt o' i j hg =>
      by_cases ho : H' o' = none
      · exact .ptX _ _ _ _ ho
      · obtain ⟨x, x', h1, h2, h3⟩ := other o' hg ho
        rw [h] at h1; cases h1
  | pt o i j ob b cap h hr =>
    intro y hy
    cases hy with
    | any => exact .any _
    | pt o' i j hg =>
      by_cases ho : H' o' = none
      · exact .ptX _ _ _ _ ho
      · obtain ⟨x, x', h1, h2, h3⟩ := other o' hg ho
        rw [h] at h1
        cases h1
        have : ob.sz = x'.sz := by cases ob <;> cases x' <;> first | rfl | exact h3.elim | exact h3.2.1
        rw [this]
        exact .pt o' i j x' b cap h2 ((weak_rho hg).trans hr)
  | ag cs us hs _ ih =>
    intro y hy
    cases hy with
    | any => exact .any _
    | ag _ cs' hl hcc =>
      refine .ag _ us (hs.trans hl) (fun i c' u hc' hu => ?_)
      have hil := (List.getElem?_eq_some_iff.1 hc').1
      have hie := List.getElem?_eq_getElem (hl ▸ hil)
      exact ih i _ u hie hu (hcc i _ c' hie hc')
  | tu cs us hs _ ih =>
    intro y hy
    cases hy with
    | any => exact .any _
    | tu _ cs' hl hcc =>
      refine .tu _ us (hs.trans hl) (fun i c' u hc' hu => ?_)
      have hil := (List.getElem?_eq_some_iff.1 hc').1
      have hie := List.getElem?_eq_getElem (hl ▸ hil)
      exact ih i _ u hie hu (hcc i _ c' hie hc')

theorem LiveOb.weak (hk : WkH g H H') {o : Nat} (hg : g o ≠ 0) {x x' : Ob} (ho : H' o = some x') (h : LiveOb w E H (g o) x) (hw : WkO g x x') : LiveOb w (E.weak g H') H' o x' := by
  have hne : H' o ≠ none := by rw [ho]; simp
  cases x with
  | rx => cases x' <;> exact hw.elim
  | mp m =>
    cases x' with
    | box => exact hw.elim
    | rw => exact hw.elim
    | rx => exact hw.elim
    | mp m' =>
      have hw : m = m' := hw
      subst hw
      obtain ⟨b, ents, clock, h1, h2, h3, h4⟩ := h
      exact ⟨b, ents, clock, (weak_rho hg).trans h1, weak_loc hk hne hg h2, h3, h4⟩
  | box ty cs =>
    cases x' with
    | rw => exact hw.elim
    | rx => exact hw.elim
    | mp => exact hw.elim
    | box ty' cs' =>
      obtain ⟨rfl, hl, hcc⟩ := hw
      obtain ⟨b, arr, us, h1, h2, h3, h4, h5, h6⟩ := h
      refine ⟨b, arr, us, (weak_rho hg).trans h1, weak_loc hk hne hg h2, h3, h4.trans hl, fun j hj => h5 j (hl ▸ hj), fun j c' hc' => ?_⟩
      have hil := (List.getElem?_eq_some_iff.1 hc').1
      have hie := List.getElem?_eq_getElem (hl ▸ hil)
      exact (h6 j _ hie).weak hk (hcc j _ c' hie hc')
  | rw ty sz es =>
    cases x' with
    | box => exact hw.elim
    | rx => exact hw.elim
    | mp => exact hw.elim
    | rw ty' sz' es' =>
      obtain ⟨rfl, rfl, rfl⟩ := hw
      rcases h with ⟨h1, h2⟩ | ⟨b, cap, arr, us, h1, h2, h3, h4, h5, h6, h7, h8, h9⟩
      · exact .inl ⟨(weak_rho hg).trans h1, h2⟩
      · exact .inr ⟨b, cap, arr, us, (weak_rho hg).trans h1, weak_loc hk hne hg h2, h3, h4, h5, h6, h7, h8, fun i j e c he hc => (h9 i j e c he hc).relabel (o, [(i, j)]) (fun b' _ hb' => ⟨rfl, weak_t0 hb'⟩) (fun b' q _ hq => ⟨rfl, weak_loc hk hne hg hq⟩)⟩

/-- A state, told less exactly. np: how many objects were handed over. -/
structure Weak (np : Nat) (s s' : ASt) : Prop where
  ex : ∃ g, (∀ k, Wk g (s.t k) (s'.t k)) ∧ WkH g s.H s'.H ∧ (∀ o, 1 ≤ o → o ≤ np → s'.H o = none ∨ g o = o)
  c : np < s'.c
  z : s'.H 0 = none
  mnT : ∀ k, Mn (fun o => o < s'.c) (s'.t k)
  mnH : ∀ o ob, s'.H o = some ob → o < s'.c ∧ MnOb (fun o => o < s'.c) ob

theorem WkO.like {x x' : Ob} (h : WkO g x x') : x.like x' := by
  cases x <;> cases x' <;> first | exact h.elim | trivial | (obtain ⟨rfl, rfl, rfl⟩ := h; exact Ob.like.refl _)

theorem RelE.weak {U : Nat → Prop} {np : Nat} (hnp : ∀ o x, I.H o = some x → 1 ≤ o ∧ o ≤ np) (hR : RelE nt I U s E a w) {s' : ASt} (hw : Weak np s s') : ∃ E', RelE nt I (fun o => o < s'.c) s' E' a w := by
  obtain ⟨g, h1, hk, h3⟩ := hw.ex
  refine ⟨E.weak g s'.H, hR.defers, hR.size, fun k u hu => (hR.slots k u hu).weak hk (h1 k), fun o ob ho => ?_, fun b ℓ hb => ?_, fun b hb hm => ?_, fun o x hx => ?_, Nat.lt_of_le_of_lt (Nat.zero_le _) hw.c, hw.z, hw.mnT, hw.mnH, hR.evo⟩
  · rcases hk.ob o ob ho with ⟨hg, x, h4, h5⟩ | ⟨hg, ty, sz, rfl⟩
    · exact (hR.live _ x h4).weak hk hg ho h5
    · exact .inl ⟨if_pos hg, rfl⟩
  · simp only [Env.weak, Option.map_eq_some_iff] at hb
    obtain ⟨ℓ0, h0, _⟩ := hb
    exact hR.locLt b ℓ0 h0
  · have h4 := hR.old b hb hm
    rw [← h4]
    cases hl : E.loc b with
    | none => exact weak_t0 hl
    | some ℓ =>
      obtain ⟨k, p⟩ := ℓ
      have hk0 : k = 0 := by
        by_cases hk0 : k = 0
        · exact hk0
        · exact absurd ⟨k, p, by rw [← h4, hl], hk0⟩ hm
      subst hk0
      simp [Env.weak, hl]
  · obtain ⟨h4, h5⟩ := hR.pas o x hx
    obtain ⟨h6, h7⟩ := hnp o x hx
    refine ⟨Nat.lt_of_le_of_lt h7 hw.c, ?_⟩
    rcases h3 o h6 h7 with h8 | h8
    · exact .inl h8
    · cases hh : s'.H o with
      | none => exact .inl rfl
      | some x' =>
        right
        obtain ⟨hg, y, h9, h10⟩ : g o ≠ 0 ∧ ∃ x, s.H (g o) = some x ∧ WkO g x x' := (hk.ob o x' hh).resolve_right (fun h => by omega)
        rw [h8] at h9
        rcases h5 with h5 | ⟨h5, z, h11, h12⟩
        · rw [h5] at h9; cases h9
        · rw [h11] at h9
          cases h9
          exact ⟨by rw [weak_rho hg, h8]; exact h5, x', rfl, h12.trans h10.like⟩
end

end Go.Proofs.YtnnmpdanfeejbaaGreat.Abs

/- The abstract machine: a call that gets an inner row of an object to write into. -/
namespace Go.Proofs.YtnnmpdanfeejbaaGreat.Abs
open Go Go.RowKit
set_option linter.unusedVariables false
set_option linter.unusedSimpArgs false

def inlL (o i j : Nat) (ℓ : Loc) : Option Loc := if ℓ.1 = o then (match ℓ.2 with
  | (i', j') :: q => if i' = i ∧ j' = j then some (1, q) else none
  | [] => none) else none
/-- What the callee sees of the memory. -/
def Env.inl (E : Env) (o i j b0 cap0 : Nat) : Env := ⟨fun k => if k = 1 then some (b0, cap0) else none, fun b => (E.loc b).bind (inlL o i j)⟩
theorem inl_some {E : Env} {o i j b0 cap0 b : Nat} {q : List (Nat × Nat)} (h : E.loc b = some (o, (i, j) :: q)) : (E.inl o i j b0 cap0).loc b = some (1, q) := by
  simp [Env.inl, h, inlL]
theorem mut_inl {E : Env} {o i j b0 cap0 b : Nat} : Mut (E.inl o i j b0 cap0) b ↔ ∃ q, E.loc b = some (o, (i, j) :: q) := by
  constructor
  · rintro ⟨k, p, h, hk⟩
    simp only [Env.inl, Option.bind_eq_some_iff] at h
    obtain ⟨⟨o', p'⟩, h1, h2⟩ := h
    unfold inlL at h2
    split at h2
    · rename_i ho
      split at h2
      · rename_i i' j' q hp
        split at h2
        · rename_i hij
          simp only at ho hp
          exact ⟨q, by rw [h1, ho, hp, hij.1, hij.2]⟩
        · cases h2
      · cases h2
    · cases h2
  · rintro ⟨q, h⟩
    exact ⟨1, q, inl_some h, by omega⟩
open Classical in
noncomputable def Env.inlBack (E : Env) (w : World) (o i j b0 cap0 : Nat) (E' : Env) : Env :=
  ⟨E.rho, fun b => if b < w.heap.size ∧ ¬ Mut (E.inl o i j b0 cap0) b then E.loc b else (E'.loc b).map fun ℓ => if ℓ.1 = 1 then (o, (i, j) :: ℓ.2) else (0, (ℓ.1, 0) :: ℓ.2)⟩

def inlS (nt : Nat) (s : ASt) (o i j ty sz : Nat) (es : List (List CV)) (e : List CV) (es2 : List (List CV)) (d : Option Nat) (r : AV) : ASt :=
  ⟨putT nt (fun k => killA (s.t k)) d r, upd (fun k => (s.H k).map killO) o (some (.rw ty sz (es.set i (e.set j (.row true es2))))), s.c⟩

section
variable {P : Program} {nt : Nat} {I : Ini} {U : Nat → Prop} {s : ASt} {E : Env} {a : Act} {w : World}

theorem inl_after (hR : RelE nt I U s E a w) {o i j ty ty3 sz b cap b0 cap0 : Nat} {es : List (List CV)} {e : List CV} {es' : List (List CV)} {arr : Array Value} {us : Nat → Nat → Value} (hH : s.H o = some (.rw ty sz es)) (he : es[i]? = some e) (hc : e[j]? = some (.row true es'))
    (g1 : E.rho o = some (b, cap)) (g2 : E.loc b = some (o, [])) (g3 : w.heap[b]? = some (.cells arr ty3 (0, 0))) (g4 : arr.size = cap * sz) (g5 : es.length ≤ cap) (g6 : cap ≤ maxLen ∧ (es = [] → cap = 0)) (g7 : ∀ e ∈ es, e.length = sz)
    (g8 : ∀ i j, i < es.length → j < sz → arr[i * sz + j]? = some (us i j)) (g9 : ∀ (i j : Nat) e c, es[i]? = some e → e[j]? = some c → RdC w E.loc (o, [(i, j)]) c (us i j)) (hu : us i j = .slice (some ⟨b0, 0, none⟩) es'.length cap0)
    {w' : World} {x : Value} {es2 : List (List CV)} {ty' sz' : Nat} {E' : Env} (hx : x.oneCell' = true) (hlive : LiveOb w' E' (HpL [some (.rw ty' sz' es2)]) 1 (.rw ty' sz' es2)) (hown : ∀ e ∈ es2, ∀ c ∈ e, Own c) (hlen : es2.length = es'.length) (hr1 : E'.rho 1 = some (b0, cap0))
    (hevo : Evo (Mut (E.inl o i j b0 cap0)) w w') (hlt : ∀ b ℓ, E'.loc b = some ℓ → b < w'.heap.size) (hold : ∀ b, b < w.heap.size → ¬ Mut (E.inl o i j b0 cap0) b → E'.loc b = (E.inl o i j b0 cap0).loc b) (d : Option Nat) :
    RelE nt I U (inlS nt s o i j ty sz es e es2 d (.c (.v x))) (E.inlBack w o i j b0 cap0 E') (a.put d x) w' := by
  have ho0 : o ≠ 0 := fun h => by rw [h, hR.h0] at hH; cases hH
  have hlocO : ∀ b, b < w.heap.size → ¬ Mut (E.inl o i j b0 cap0) b → (E.inlBack w o i j b0 cap0 E').loc b = E.loc b := fun b h1 h2 => if_pos ⟨h1, h2⟩
  have hlocN : ∀ b p, E'.loc b = some (1, p) → (E.inlBack w o i j b0 cap0 E').loc b = some (o, (i, j) :: p) := fun b p h => by
    have : ¬ (b < w.heap.size ∧ ¬ Mut (E.inl o i j b0 cap0) b) := by
      rintro ⟨h1, h2⟩
      refine h2 ⟨1, p, ?_, by omega⟩
      rw [← hold b h1 h2, h]
    have h2 : (E.inlBack w o i j b0 cap0 E').loc b = (E'.loc b).map (fun ℓ : Loc => if ℓ.1 = 1 then (o, (i, j) :: ℓ.2) else (0, (ℓ.1, 0) :: ℓ.2)) := if_neg this
    rw [h2, h]
    rfl
  have hnm : ∀ {b ℓ}, E.loc b = ℓ → (∀ q, ℓ ≠ some (o, (i, j) :: q)) → ¬ Mut (E.inl o i j b0 cap0) b := fun h1 h2 hm => by
    obtain ⟨q, hq⟩ := mut_inl.1 hm
    exact h2 q (by rw [← h1, hq])
  have t0 : ∀ b, b < w.heap.size → E.loc b = none → w'.heap[b]? = w.heap[b]? ∧ (E.inlBack w o i j b0 cap0 E').loc b = none := fun b hb h => by
    have := hnm h (fun q => by simp)
    exact ⟨hevo.old hb this, by rw [hlocO b hb this]; exact h⟩
  have town : ∀ o' p b, b < w.heap.size → E.loc b = some (o', p) → (∀ q, (o', p) ≠ (o, (i, j) :: q)) → w'.heap[b]? = w.heap[b]? ∧ (E.inlBack w o i j b0 cap0 E').loc b = some (o', p) := fun o' p b hb h hq => by
    have := hnm h (fun q hh => hq q (Option.some.inj hh))
    exact ⟨hevo.old hb this, by rw [hlocO b hb this]; exact h⟩
  have hil := (List.getElem?_eq_some_iff.1 he).1
  have hlike : (Ob.rw ty sz es).like (.rw ty sz (es.set i (e.set j (.row true es2)))) := ⟨rfl, by
    constructor
    · intro h; rw [h] at hil; simp at hil
    · intro h; have := congrArg List.length h; simp at this; rw [this] at hil; simp at hil⟩
  have hob : ∀ o', U o' → (inlS nt s o i j ty sz es e es2 d (.c (.v x))).H o' = none ∨ ((E.inlBack w o i j b0 cap0 E').rho o' = E.rho o' ∧ ∃ x' y, s.H o' = some x' ∧ (inlS nt s o i j ty sz es e es2 d (.c (.v x))).H o' = some y ∧ x'.like y) := fun o' _ => by
    simp only [inlS]
    by_cases ho : o' = o
    · subst ho
      simp only [upd_same]
      exact .inr ⟨rfl, _, _, hH, rfl, hlike⟩
    · rw [upd_ne _ _ ho]
      cases hh : s.H o' with
      | none => exact .inl rfl
      | some y => exact .inr ⟨rfl, y, killO y, rfl, rfl, killO_like y⟩
  constructor
  · cases d <;> exact hR.defers
  · cases d <;> simp [Act.put, hR.size]
  · intro k u hk
    cases d with
    | none => exact (hR.slots k u hk).kill t0 hob (hR.mnT k)
    | some d =>
      simp only [Act.put, Array.getElem?_setIfInBounds] at hk
      have hsz : a.tmps.size = nt := hR.size
      show RdV _ _ _ (putT nt (fun k => killA (s.t k)) (some d) _ k) _
      by_cases hd : d = k
      · subst hd
        by_cases hb : d < a.tmps.size
        · simp only [hb, if_true] at hk
          cases hk
          simp only [putT, if_pos (hsz ▸ hb), upd_same]
          exact .c _ _ (.v _ hx)
        · simp [hb] at hk
      · simp only [if_neg hd] at hk
        have hj : ∀ v, putT nt (fun k => killA (s.t k)) (some d) v k = killA (s.t k) := fun v => by
          simp only [putT]
          split
          · exact upd_ne _ _ (Ne.symm hd)
          · rfl
        rw [hj]
        exact (hR.slots k u hk).kill t0 hob (hR.mnT k)
  · intro o' ob ho
    by_cases hoo : o' = o
    · subst hoo
      have : ob = .rw ty sz (es.set i (e.set j (.row true es2))) := by
        have h : (upd (fun k => (s.H k).map killO) o' (some (Ob.rw ty sz (es.set i (e.set j (.row true es2))))) : Hp) o' = some ob := ho
        rw [upd_same] at h
        exact (Option.some.inj h).symm
      subst this
      have hb := town o' [] b (RdR.lt g3) g2 (fun q => by simp)
      refine .inr ⟨b, cap, arr, us, g1, hb.2, ⟨ty3, hb.1.trans g3⟩, g4, by simpa using g5, ⟨g6.1, fun e0 => g6.2 (by have := congrArg List.length e0; simp at this; exact this)⟩, fun e' he' => ?_, fun i' j' hi' hj' => g8 i' j' (by simpa using hi') hj', fun i' j' e' c' he' hc' => ?_⟩
      · rcases List.mem_or_eq_of_mem_set he' with h | h
        · exact g7 e' h
        · rw [h, List.length_set]; exact g7 e (List.mem_of_getElem? he)
      · have hrel : ∀ {c}, (i', j') ≠ (i, j) → RdC w E.loc (o', [(i', j')]) c (us i' j') → RdC w' (E.inlBack w o' i j b0 cap0 E').loc (o', [(i', j')]) c (us i' j') := fun hne h =>
          h.relabel (o', [(i', j')]) t0 (fun b' q hb' hq => town o' _ b' hb' hq (fun q' h' => by simp at h'; exact hne (by rw [h'.1.1, h'.1.2])))
        rw [List.getElem?_set] at he'
        by_cases hi : i = i'
        · subst hi
          rw [if_pos rfl, if_pos hil] at he'
          cases he'
          rw [List.getElem?_set] at hc'
          by_cases hj : j = j'
          · subst hj
            have hjl := (List.getElem?_eq_some_iff.1 hc).1
            rw [if_pos rfl, if_pos hjl] at hc'
            cases hc'
            rw [hu]
            rcases hlive with ⟨h1, _⟩ | ⟨b', cap', arr', us', k1, k2, ⟨tyk, k3⟩, k4, k5, k6, k7, k8, k9⟩
            · rw [h1] at hr1; cases hr1
            · rw [k1] at hr1
              cases hr1
              rw [← hlen]
              refine .own _ b0 sz' cap0 es2 arr' tyk us' (hlocN _ _ k2) k3 k4 k5 k6 k7 k8 (fun i2 j2 e2 c2 he2 hc2 => ?_)
              exact (k9 i2 j2 e2 c2 he2 hc2).own_relabel (hown e2 (List.mem_of_getElem? he2) c2 (List.mem_of_getElem? hc2)) (o', [(i, j)] ++ [(i2, j2)]) (fun b' q hb' hq => by
                have := hlocN b' _ hq
                simpa using this)
          · rw [if_neg hj] at hc'
            exact hrel (by simp; exact fun h => hj h.symm) (g9 i j' e c' he hc')
        · rw [if_neg hi] at he'
          exact hrel (by simp; exact fun h => absurd h.symm hi) (g9 i' j' e' c' he' hc')
    · have ho' : (s.H o').map killO = some ob := by
        have h : (upd (fun k => (s.H k).map killO) o (some (Ob.rw ty sz (es.set i (e.set j (.row true es2))))) : Hp) o' = some ob := ho
        rw [upd_ne _ _ hoo] at h
        exact h
      rw [Option.map_eq_some_iff] at ho'
      obtain ⟨y, hy, rfl⟩ := ho'
      have hly := hR.live o' y hy
      have hmy := (hR.mnH o' y hy).2
      cases y with
      | rx ty1 sz1 es1 i1 j1 v1 =>
        obtain ⟨hi0, hj0, b', cap', arr', us', k1, k2, ⟨tyk, k3⟩, k4, k5, k6, k7, k8, k9, k10⟩ := hly
        have hb := town o' [] b' (RdR.lt k3) k2 (fun q h => hoo (Prod.mk.inj h).1)
        exact ⟨hi0, hj0, b', cap', arr', us', k1, hb.2, ⟨tyk, hb.1.trans k3⟩, k4, k5, k6, k7, k8, fun i j e c he hc => (k9 i j e c he hc).relabel (o', [(i, j)]) t0 (fun b2 q hb2 hq => town o' _ b2 hb2 hq (fun q' h => hoo (Prod.mk.inj h).1)), k10.kill t0 hob hmy⟩
      | mp m =>
        obtain ⟨b', ents, clock, k1, k2, k3, k4⟩ := hly
        have hb := town o' [] b' (RdR.lt k3) k2 (fun q h => hoo (Prod.mk.inj h).1)
        exact ⟨b', ents, clock, k1, hb.2, hb.1.trans k3, k4⟩
      | box ty1 cs =>
        obtain ⟨b', arr', us', k1, k2, k3, k4, k5, k6⟩ := hly
        have hb := town o' [] b' (RdR.lt k3) k2 (fun q h => hoo (Prod.mk.inj h).1)
        show LiveOb _ _ _ _ (.box ty1 (killL cs))
        rw [killL_map]
        refine ⟨b', arr', us', k1, hb.2, hb.1.trans k3, by simpa using k4, fun j hj => k5 j (by simpa using hj), fun j c hj => ?_⟩
        rw [List.getElem?_map, Option.map_eq_some_iff] at hj
        obtain ⟨c', hc', rfl⟩ := hj
        exact (k6 j c' hc').kill t0 hob (hmy c' (List.mem_of_getElem? hc'))
      | rw ty1 sz1 es1 =>
        rcases hly with ⟨k1, k2⟩ | ⟨b', cap', arr', us', k1, k2, ⟨tyk, k3⟩, k4, k5, k6, k7, k8, k9⟩
        · exact .inl ⟨k1, k2⟩
        · have hb := town o' [] b' (RdR.lt k3) k2 (fun q h => hoo (Prod.mk.inj h).1)
          exact .inr ⟨b', cap', arr', us', k1, hb.2, ⟨tyk, hb.1.trans k3⟩, k4, k5, k6, k7, k8, fun i j e c he hc => (k9 i j e c he hc).relabel (o', [(i, j)]) t0 (fun b2 q hb2 hq => town o' _ b2 hb2 hq (fun q' h => hoo (Prod.mk.inj h).1))⟩
  · intro b ℓ hb
    by_cases hcc : b < w.heap.size ∧ ¬ Mut (E.inl o i j b0 cap0) b
    · exact Nat.lt_of_lt_of_le hcc.1 hevo.size
    · have h1 : (E.inlBack w o i j b0 cap0 E').loc b = (E'.loc b).map (fun ℓ : Loc => if ℓ.1 = 1 then (o, (i, j) :: ℓ.2) else (0, (ℓ.1, 0) :: ℓ.2)) := if_neg hcc
      rw [h1, Option.map_eq_some_iff] at hb
      obtain ⟨ℓ0, h0, _⟩ := hb
      exact hlt b ℓ0 h0
  · intro b hb hm
    have h1 := hR.old b hb hm
    have hbw := Nat.lt_of_lt_of_le hb hR.evo.size
    rw [← h1]
    refine hlocO b hbw (fun hmm => ?_)
    obtain ⟨q, hq⟩ := mut_inl.1 hmm
    exact hm ⟨o, _, by rw [← h1, hq], ho0⟩
  · intro o' x' hx'
    obtain ⟨hu', h⟩ := hR.pas o' x' hx'
    refine ⟨hu', ?_⟩
    rcases hob o' hu' with h1 | ⟨h1, y, z, h2, h3, h4⟩
    · exact .inl h1
    · rcases h with h | ⟨h5, y', h6, h7⟩
      · rw [h] at h2; cases h2
      · rw [h2] at h6
        cases h6
        exact .inr ⟨h1.trans h5, z, h3, h7.trans h4⟩
  · exact hR.u0
  · simp only [inlS]
    rw [upd_ne _ _ (Ne.symm ho0), hR.h0]
    rfl
  · intro k
    cases d with
    | none => exact (hR.mnT k).kill
    | some d =>
      show Mn _ (putT nt (fun k => killA (s.t k)) (some d) _ k)
      simp only [putT]
      split
      · by_cases hd : k = d
        · subst hd
          rw [upd_same]
          exact .c _
        · rw [upd_ne _ _ hd]
          exact (hR.mnT k).kill
      · exact (hR.mnT k).kill
  · intro o' ob ho
    by_cases hoo : o' = o
    · subst hoo
      have h : (upd (fun k => (s.H k).map killO) o' (some (Ob.rw ty sz (es.set i (e.set j (.row true es2))))) : Hp) o' = some ob := ho
      rw [upd_same] at h
      cases h
      exact ⟨(hR.mnH _ _ hH).1, trivial⟩
    · have h : (upd (fun k => (s.H k).map killO) o (some (Ob.rw ty sz (es.set i (e.set j (.row true es2))))) : Hp) o' = some ob := ho
      rw [upd_ne _ _ hoo, Option.map_eq_some_iff] at h
      obtain ⟨y, hy, rfl⟩ := h
      refine ⟨(hR.mnH _ _ hy).1, ?_⟩
      have := (hR.mnH _ _ hy).2
      cases y with
      | box ty1 cs =>
        show ∀ c ∈ killL cs, _
        rw [killL_map]
        intro c hc
        obtain ⟨c', hc', rfl⟩ := List.mem_map.1 hc
        exact (this c' hc').kill
      | rw => trivial
      | rx => exact Mn.kill this
      | mp => trivial
  · refine ⟨hevo.os.trans hR.evo.os, hevo.tape.trans hR.evo.tape, hevo.output.trans hR.evo.output, Nat.le_trans hR.evo.size hevo.size, fun k hk hm => ?_⟩
    rw [hevo.block k (Nat.lt_of_lt_of_le hk hR.evo.size) (fun hmm => ?_)]
    · exact hR.evo.block k hk hm
    · obtain ⟨q, hq⟩ := mut_inl.1 hmm
      exact hm ⟨o, _, by rw [← hR.old k hk hm, hq], ho0⟩

theorem CallOk.mono {f : Nat} {Hin : List Ob} {args : List AV} {Post Post' : AV → List (Option Ob) → Prop} (h : CallOk P f Hin args Post) (hp : ∀ r out, Post r out → Post' r out) : CallOk P f Hin args Post' :=
  ⟨h.1, fun w E vals h1 h2 h3 h4 => (h.2 w E vals h1 h2 h3 h4).mono (fun e w' ⟨u, r, out, E', k1, k2, k⟩ => ⟨u, r, out, E', k1, hp r out k2, k⟩)⟩

/-- A call's way, by a contract. -/
theorem run_enter {f : Nat} {Hin : List Ob} {args' : List AV} {Post : AV → List (Option Ob) → Prop} (h : CallOk P f Hin args' Post) {o : Oper} {args : Array Operand} {ts : Array Nat} (hop : o.op = .call { callee := .value (.func f), args := args, argTypes := ts }) :
    (execOp a.eval o).run P w = .ok (.enter f (args.map a.eval)) w := by
  have hc := h.1
  have : (callFunc f (args.map a.eval)).run P w = .ok (.enter f (args.map a.eval)) w := by
    unfold callable at hc
    split at hc
    · rename_i fn hf
      rw [Bool.and_eq_true] at hc
      have h1 : fn.body ≠ none := by
        intro hb
        rw [hb] at hc
        simp at hc
      have h2 : fn.name ≠ "runtime.NumGoroutine" := by simpa using hc.2
      simp [callFunc, hf, h1, h2]
    · cases hc
  have h3 : execOp a.eval o = (do let d ← resolve a.eval { callee := .value (.func f), args := args, argTypes := ts } o.type; invoke d.target d.args) := by
    simp only [execOp, hop]
  rw [h3]
  simp [resolve, Deferred.ofValue, Act.eval, invoke, this]

def TriQ (P : Program) (nt : Nat) (o1 o2 o3 : Oper) (s : ASt) (K : ASt → Prop) : Prop :=
  ∃ (t x d1 m d2 f : Nat) (ts : Array Nat) (o i j ty sz : Nat) (es : List (List CV)) (e : List CV) (es' : List (List CV)) (v : Value) (ti : TI),
    (o1.op = .load t (.tmp x) ∧ o1.dst = some d1 ∧ o1.guard = none ∧ o2.op = .move (.tmp m) ∧ o2.dst = some d2 ∧ o2.guard = none ∧ o3.op = .call { callee := .value (.func f), args := #[.tmp d1, .tmp d2], argTypes := ts } ∧ o3.guard = none) ∧
    d1 ≠ d2 ∧ d1 < nt ∧ d2 < nt ∧ m ≠ d1 ∧ m < nt ∧ x < nt ∧ tiOf P t = some ti ∧ ti.agg = false ∧ s.t x = .pt o i j ∧ s.H o = some (.rw ty sz es) ∧ es[i]? = some e ∧ e[j]? = some (.row true es') ∧ es' ≠ [] ∧ s.t m = .c (.v v) ∧
    ∀ ty' sz', (∀ e ∈ es', e.length = sz') → CallOk P f [.rw ty' sz' es'] [.sl 1 es'.length, .c (.v v)] (fun r out => ∃ y es2, r = .c (.v y) ∧ y.oneCell' = true ∧ out = [some (.rw ty' sz' es2)] ∧ es2.length = es'.length ∧ (∀ e ∈ es2, ∀ c ∈ e, Own c) ∧
      K (inlS nt ⟨upd (upd s.t d1 .any) d2 (.c (.v v)), s.H, s.c⟩ o i j ty sz es e es2 o3.dst (.c (.v y))))

theorem RelE.putAny (hR : RelE nt I U s E a w) {d : Nat} {u : Value} {x : AV} (hx : RdV w E s.H x u) (hm : Mn U x) (hd : d < nt) : RelE nt I U { s with t := upd s.t d x } E (a.put (some d) u) w := by
  constructor
  · exact hR.defers
  · simp [Act.put, hR.size]
  · intro k y hk
    simp only [Act.put, Array.getElem?_setIfInBounds] at hk
    have hsz : a.tmps.size = nt := hR.size
    by_cases hdk : d = k
    · subst hdk
      rw [if_pos rfl, if_pos (hsz ▸ hd)] at hk
      cases hk
      show RdV w E s.H (upd s.t d x d) _
      rw [upd_same]
      exact hx
    · rw [if_neg hdk] at hk
      show RdV w E s.H (upd s.t d x k) _
      rw [upd_ne _ _ (Ne.symm hdk)]
      exact hR.slots k y hk
  · exact hR.live
  · exact hR.locLt
  · exact hR.old
  · exact hR.pas
  · exact hR.u0
  · exact hR.h0
  · intro k
    show Mn U (upd s.t d x k)
    by_cases hdk : k = d
    · subst hdk; rw [upd_same]; exact hm
    · rw [upd_ne _ _ hdk]; exact hR.mnT k
  · exact hR.mnH
  · exact hR.evo

theorem triQ_sound {ops : Array Oper} {o1 o2 o3 : Oper} {rest : List Oper} {K : ASt → Prop} {Q : Exit → Act → World → Prop} (hR : RelE nt I U s E a w) (h : TriQ P nt o1 o2 o3 s K)
    (hn : ∀ s' E' a' w', K s' → s'.c = s.c → RelE nt I U s' E' a' w' → wpList P ops Q rest a' w') : wpList P ops Q (o1 :: o2 :: o3 :: rest) a w := by
  obtain ⟨t, x, d1, m, d2, f, ts, o, i, j, ty, sz, es, e, es', v, ti, ⟨p1, p2, p3, p4, p5, p6, p7, p8⟩, q1, q2, q3, q4, q5, q6, q7, q8, q9, q10, q11, q12, q13, q14, hk⟩ := h
  have hil := (List.getElem?_eq_some_iff.1 q11).1
  have hjl := (List.getElem?_eq_some_iff.1 q12).1
  rcases hR.live o _ q10 with ⟨_, h1⟩ | ⟨b, cap, arr, us, g1, g2, ⟨ty3, g3⟩, g4, g5, g6, g7, g8, g9⟩
  · rw [h1] at hil; simp at hil
  have hel := g7 e (List.mem_of_getElem? q11)
  have hcell := g9 i j e _ q11 q12
  have hat : arr[i * sz + j]? = some (us i j) := g8 i j hil (hel ▸ hjl)
  obtain ⟨b0, cap0, sz0, arr0, ty0, us0, hu, l1, l2, l3, l4, l5, l6, l7, l8⟩ : ∃ b0 cap0 sz0 arr0 ty0, ∃ us0 : Nat → Nat → Value, us i j = .slice (some ⟨b0, 0, none⟩) es'.length cap0 ∧ E.loc b0 = some (o, [(i, j)]) ∧ w.heap[b0]? = some (.cells arr0 ty0 (0, 0)) ∧ arr0.size = cap0 * sz0 ∧ es'.length ≤ cap0 ∧ (cap0 ≤ maxLen ∧ (es' = [] → cap0 = 0)) ∧
      (∀ e ∈ es', e.length = sz0) ∧ (∀ i j, i < es'.length → j < sz0 → arr0[i * sz0 + j]? = some (us0 i j)) ∧ (∀ (i' j' : Nat) e c, es'[i']? = some e → e[j']? = some c → RdC w E.loc (o, [(i, j)] ++ [(i', j')]) c (us0 i' j')) := by
    generalize hy : us i j = y at hcell
    cases hcell with
    | im _ _ _ _ hi => simp [CV.im] at hi
    | nil => exact absurd rfl q13
    | own _ b0 sz0 cap0 _ arr0 ty0 us0 l1 l2 l3 l4 l5 l6 l7 l8 => exact ⟨b0, cap0, sz0, arr0, ty0, us0, rfl, l1, l2, l3, l4, l5, l6, l7, l8⟩
  have hx : a.eval (.tmp x) = .pointer (some ⟨b, i * sz + j, none⟩) := by
    have := hR.get (.tmp x)
    simp only [getA, if_pos q6, q9] at this
    generalize hy : a.eval (.tmp x) = y at this
    cases this with
    | ptX _ _ _ _ h => rw [q10] at h; cases h
    | pt _ _ _ ob b' cap' h hr =>
      rw [q10] at h
      cases h
      rw [g1] at hr
      cases hr
      rfl
  have hrun1 : (execOp a.eval o1).run P w = .ok (.value (us i j)) w := by
    have h1 : (Instr.loadAt t (.pointer (some ⟨b, i * sz + j, none⟩))).run P w = .ok (us i j) w := by
      simp only [Instr.loadAt, Instr.sureAddr, loadVar, Sem.run_bind, Sem.run_pure, Result.andThen_ok, run_isAgg' q7, q8, Bool.false_eq_true, if_false, run_load]
      rw [cell_at g3, hat]
    simp [execOp, p1, hx, h1]
  have hm1 : (a.put (some d1) (us i j)).eval (.tmp m) = v := by
    have h1 : a.eval (.tmp m) = v := hR.eval (by simp only [getA, if_pos q5]; exact q14)
    rw [← h1]
    simp only [Act.eval, Act.put, Array.getD_eq_getD_getElem?, Array.getElem?_setIfInBounds]
    rw [if_neg (Ne.symm q4)]
  have hrun2 : (execOp (a.put (some d1) (us i j)).eval o2).run P w = .ok (.value v) w := by
    simp only [execOp, p4, hm1]
    rfl
  have hR1 : RelE nt I U { s with t := upd s.t d1 .any } E (a.put (some d1) (us i j)) w := hR.putAny (.any _) .any q2
  have hv : v.oneCell' = true := by
    have h1 := hR.get (.tmp m)
    simp only [getA, if_pos q5, q14] at h1
    cases h1 with
    | c _ _ h => exact (by cases h; assumption)
  have hR2 : RelE nt I U ⟨upd (upd s.t d1 .any) d2 (.c (.v v)), s.H, s.c⟩ E ((a.put (some d1) (us i j)).put (some d2) v) w := hR1.putAny (.c _ _ (.v _ hv)) (.c _) q3
  have hok := hk ty0 sz0 l6
  have hrun3 := run_enter (a := (a.put (some d1) (us i j)).put (some d2) v) (w := w) hok p7
  have hw : ∀ {o : Oper} {A : Act}, o.guard = none → Region.wanted o (yielded ops A.tmps) = true := fun h => by simp [Region.wanted, h]
  unfold wpList
  rw [if_pos (hw p3)]
  refine .inl ?_
  unfold Oper.wp
  rw [hrun1]
  show wpList P ops Q (o2 :: o3 :: rest) (a.put o1.dst (us i j)) w
  rw [p2]
  unfold wpList
  rw [if_pos (hw p6)]
  refine .inl ?_
  unfold Oper.wp
  rw [hrun2]
  show wpList P ops Q (o3 :: rest) ((a.put (some d1) (us i j)).put o2.dst v) w
  rw [p5]
  unfold wpList
  rw [if_pos (hw p8)]
  refine .inl ?_
  unfold Oper.wp
  rw [hrun3]
  have hu2 : (#[Operand.tmp d1, Operand.tmp d2].map ((a.put (some d1) (us i j)).put (some d2) v).eval) = #[us i j, v] := by
    have hsz := hR.size
    have e1 : d1 < a.tmps.size := by rw [hsz]; exact q2
    have e2 : d2 < a.tmps.size := by rw [hsz]; exact q3
    simp [Act.eval, Act.put, Array.getD_eq_getD_getElem?, Array.getElem?_setIfInBounds, e1, e2, Ne.symm q1]
  rw [hu2]
  show Calls P f _ w _
  refine (hok.2 w (E.inl o i j b0 cap0) #[us i j, v] ?_ ?_ rfl ?_).mono ?_
  · intro k ob hk'
    have hk1 : k = 1 ∧ ob = .rw ty0 sz0 es' := by
      unfold HpS at hk'
      split at hk'
      · cases hk'
      · match k, hk' with
        | 0, hk' => simp at *
        | 1, hk' => simp at hk'; exact ⟨rfl, hk'.symm⟩
        | k + 2, hk' => simp at hk'
    obtain ⟨rfl, rfl⟩ := hk1
    refine .inr ⟨b0, cap0, arr0, us0, rfl, inl_some l1, ⟨_, l2⟩, l3, l4, l5, l6, l7, fun i' j' e' c' he' hc' => (l8 i' j' e' c' he' hc').relabel (1, [(i', j')]) (fun b' _ hb' => ⟨rfl, by simp [Env.inl, hb']⟩) (fun b' q _ hq => ⟨rfl, ?_⟩)⟩
    exact inl_some (q := (i', j') :: q) (by simpa using hq)
  · intro b' ℓ hb
    simp only [Env.inl, Option.bind_eq_some_iff] at hb
    obtain ⟨ℓ0, h0, _⟩ := hb
    exact hR.locLt b' ℓ0 h0
  · intro k y u hy hu'
    match k, hy, hu' with
    | 0, hy, hu' =>
      cases hy
      cases hu'
      rw [hu]
      exact .sl 1 es'.length ty0 sz0 es' b0 cap0 rfl rfl
    | 1, hy, hu' =>
      cases hy
      cases hu'
      exact .c _ _ (.v _ hv)
    | k + 2, hy, hu' => simp at hy
  · rintro ex w' ⟨u, r, out, E', rfl, ⟨y, es2, rfl, hy, rfl, hlen, hown, hK⟩, hr, hlive, hrs, hros, hpas, hevo, hold, hlt⟩
    have huy : u = y := by
      cases hr with
      | c _ _ h => cases h; rfl
    subst huy
    have hp1 := hpas 1 (.rw ty0 sz0 es') rfl
    rcases hp1 with hp1 | ⟨hp1, _⟩
    · simp [HpL] at hp1
    exact hn _ _ _ w' hK rfl (inl_after hR2 q10 q11 q12 g1 g2 g3 g4 g5 g6 g7 g8 g9 hu hy (hlive 1 _ rfl) hown hlen hp1 hevo hlt hold o3.dst)

theorem seqR_soundL {ops : Array Oper} {Q : Exit → Act → World → Prop} {c : Nat} {rest : List Oper} : ∀ {l : List Oper} {p : Nat} {s : ASt} {E : Env} {a : Act} {w : World} {K : ASt → Prop}, s.c = c → RelE nt I (fun o => o < c + 8 * p) s E a w → seqR P nt (dstOf ops) p l s K →
    (∀ s' E' a' w', K s' → s'.c = c → RelE nt I (fun o => o < c + 8 * (p + l.length)) s' E' a' w' → wpList P ops Q rest a' w') → wpList P ops Q (l ++ rest) a w
  | [], p, s, E, a, w, K, hc, hR, h, hn => hn s E a w h hc hR
  | o :: r, p, s, E, a, w, K, hc, hR, h, hn => by
    have := gstp_sound (ops := ops) (P := P) (Q := Q) hR (fun j hj => by omega) h (next := wpList P ops Q (r ++ rest)) (fun s' E' a' w' hK hc' hR' =>
      seqR_soundL (hc'.trans hc) (hR'.mono (fun q hq => by rcases hq with hq | ⟨j, hj, rfl⟩ <;> omega)) hK (fun s2 E2 a2 w2 hK2 hc2 hR2 => hn s2 E2 a2 w2 hK2 hc2 (by rw [List.length_cons, show p + (r.length + 1) = p + 1 + r.length by omega]; exact hR2)))
    show wpList P ops Q (o :: (r ++ rest)) a w
    unfold wpList
    split
    · rename_i hw; rw [if_pos hw] at this; exact .inl this
    · rename_i hw; rw [if_neg hw] at this; exact this

/-- A region in which the three operations from q on may be taken as one. -/
def FuseQ (P : Program) (nt q : Nat) (ops : Array Oper) (s : ASt) (K : ASt → Prop) : Prop :=
  seqR P nt (dstOf ops) 0 (ops.toList.take q) s fun s1 => seqR P nt (dstOf ops) q (ops.toList.drop q) s1 K ∨ ∃ o1 o2 o3 r, ops.toList.drop q = o1 :: o2 :: o3 :: r ∧ TriQ P nt o1 o2 o3 s1 fun s2 => seqR P nt (dstOf ops) (q + 3) r s2 K
theorem fuseQ_sound {ops : Array Oper} {Q : Exit → Act → World → Prop} {q : Nat} {K : ASt → Prop} (hR : RelE nt I (fun o => o < s.c) s E a w) (hq : q ≤ ops.size) (h : FuseQ P nt q ops s K)
    (hn : ∀ s' E' a' w', K s' → s'.c = s.c → RelE nt I (fun o => o < s.c + 8 * ops.size) s' E' a' w' → Q .normal a' w') : wpList P ops Q ops.toList a w := by
  have hl : ops.toList = ops.toList.take q ++ ops.toList.drop q := (List.take_append_drop q ops.toList).symm
  rw [hl]
  have hlen : (ops.toList.take q).length = q := by rw [List.length_take, Array.length_toList]; omega
  refine seqR_soundL rfl (hR.mono (fun o ho => by omega)) h (fun s1 E1 a1 w1 h1 hc1 hR1 => ?_)
  rw [Nat.zero_add, hlen] at hR1
  rcases h1 with h1 | ⟨o1, o2, o3, r, hd, h1⟩
  · refine seqR_sound hc1 hR1 h1 (fun s2 E2 a2 w2 h2 hc2 hR2 => hn s2 E2 a2 w2 h2 hc2 (hR2.mono (fun o ho => ?_)))
    have : (ops.toList.drop q).length = ops.size - q := by rw [List.length_drop, Array.length_toList]
    omega
  · rw [hd]
    refine triQ_sound hR1 h1 (fun s2 E2 a2 w2 h2 hc2 hR2 => ?_)
    refine seqR_sound (hc2.trans hc1) (hR2.mono (fun o ho => by omega)) h2 (fun s3 E3 a3 w3 h3 hc3 hR3 => hn s3 E3 a3 w3 h3 hc3 (hR3.mono (fun o ho => ?_)))
    have : (ops.toList.drop q).length = ops.size - q := by rw [List.length_drop, Array.length_toList]
    rw [hd] at this
    simp only [List.length_cons] at this
    omega
end
end Go.Proofs.YtnnmpdanfeejbaaGreat.Abs

/- The abstract machine: an object is handed over to be read only, for good. -/
namespace Go.Proofs.YtnnmpdanfeejbaaGreat.Abs
open Go Go.RowKit
set_option linter.unusedVariables false
set_option linter.unusedSimpArgs false

def toF : AV → Option CV
  | .c x => some x
  | .nul => some (.row false [])
  | _ => none
def toFs : List AV → Option (List CV)
  | [] => some []
  | x :: r => match toF x, toFs r with
    | some c, some l => some (c :: l)
    | _, _ => none
def frN : Option Ob → Nat → AV
  | some (.rw _ _ es), n => if n = es.length then .c (.row false es) else .any
  | _, _ => .any
def frV : Option Ob → Nat → Nat → AV
  | some (.rw _ _ es), a, n => if a + n ≤ es.length ∧ 0 < n then .c (.row false ((es.take (a + n)).drop a)) else .any
  | _, _, _ => .any
def frP : Option Ob → Nat → Nat → AV
  | some (.box _ cs), i, j => if i = 0 then (match toFs cs with | some l => .c (.ptr l j) | none => .any) else .any
  | _, _, _ => .any
mutual
def frA (o : Nat) (ob : Option Ob) : AV → AV
  | .sl k n => if k = o then frN ob n else .sl k n
  | .pt k i j => if k = o then frP ob i j else .pt k i j
  | .sv k a n => if k = o then frV ob a n else .sv k a n
  | .mr k => if k = o then .any else .mr k
  | .ag cs => .ag (frL o ob cs)
  | .tu cs => .tu (frL o ob cs)
  | .c x => .c x
  | .bw x => .bw x
  | .nul => .nul
  | .any => .any
def frL (o : Nat) (ob : Option Ob) : List AV → List AV
  | [] => []
  | x :: r => frA o ob x :: frL o ob r
end
theorem frL_map (o : Nat) (ob : Option Ob) (l : List AV) : frL o ob l = l.map (frA o ob) := by
  induction l with
  | nil => rfl
  | cons x r ih => rw [frL, ih]; rfl
def frO (o : Nat) (ob : Option Ob) : Ob → Ob
  | .box ty cs => .box ty (frL o ob cs)
  | .rw ty sz es => .rw ty sz es
  | .rx ty sz es i j v => .rx ty sz es i j (frA o ob v)
  | .mp m => .mp m
def frS (o : Nat) (s : ASt) : ASt := ⟨fun k => frA o (s.H o) (s.t k), upd (fun k => (s.H k).map (frO o (s.H o))) o none, s.c⟩
def frz : List Nat → ASt → ASt
  | [], s => s
  | o :: r, s => if o = 0 then frz r s else frz r (frS o s)
def frzC : Option (List Nat) → ASt → ASt
  | none, s => s
  | some os, s => frz os s
theorem frO_like (o : Nat) (ob : Option Ob) (x : Ob) : x.like (frO o ob x) := by cases x <;> simp [Ob.like, frO]
theorem frO_sz (o : Nat) (ob : Option Ob) (x : Ob) : (frO o ob x).sz = x.sz := by cases x <;> rfl
section
variable {nt : Nat} {I : Ini} {U : Nat → Prop} {s : ASt} {E : Env} {a : Act} {w : World}
theorem toFs_ok {E : Env} {H : Hp} : ∀ {cs : List AV} {l : List CV}, toFs cs = some l → l.length = cs.length ∧ ∀ (j : Nat) c, l[j]? = some c → ∃ x, cs[j]? = some x ∧ ∀ u, RdV w E H x u → RdR w E.T0 c u
  | [], l, h => by
    cases h
    exact ⟨rfl, fun j c hj => by simp at hj⟩
  | x :: r, l, h => by
    unfold toFs at h
    split at h
    · rename_i c l' hc hl
      cases h
      have ih := toFs_ok (E := E) (H := H) hl
      refine ⟨by simp [ih.1], fun j c' hj => ?_⟩
      cases j with
      | zero =>
        simp at hj; subst hj
        refine ⟨x, rfl, fun u hu => ?_⟩
        unfold toF at hc
        split at hc
        · cases hc; cases hu with | c _ _ h => exact h
        · cases hc; cases hu; exact .nil _ _ _ (fun _ => rfl)
        · cases hc
      | succ j =>
        obtain ⟨y, hy, hyu⟩ := ih.2 j c' (by simpa using hj)
        exact ⟨y, by simpa using hy, hyu⟩
    · cases h
theorem RdV.frz (hR : RelE nt I U s E a w) (o : Nat) {x : AV} {u : Value} (h : RdV w E s.H x u) : RdV w (E.frz o) (frS o s).H (frA o (s.H o) x) u := by
  have hH : ∀ k, k ≠ o → (frS o s).H k = (s.H k).map (frO o (s.H o)) := fun k hk => if_neg hk
  induction h with
  | c x u h => exact .c _ _ (h.mono fun b _ hb => ⟨rfl, frz_t0 hb⟩)
  | bw x u h => exact .bw _ _ (h.mono fun b _ hb => ⟨rfl, fun o' ho' => hb o' (frz_some ho').1⟩)
  | nul => exact .nul
  | any u => exact .any u
  | slX k n u h =>
    rw [frA]
    split
    · rename_i e; subst e; rw [h]; exact .any u
    · rename_i hk; exact .slX k n u (by rw [hH k hk, h]; rfl)
  | sl k n ty sz es b cap h hr =>
    rw [frA]
    split
    · rename_i e
      subst e
      rw [h, frN]
      split
      · rename_i hn
        subst hn
        rcases hR.live k _ h with ⟨h1, _⟩ | ⟨b', cap', arr, us, h1, h2, ⟨ty3, h3⟩, h4, h5, h6, h7, h8, h9⟩
        · rw [h1] at hr; cases hr
        · rw [h1] at hr
          cases hr
          refine .c _ _ ?_
          have := RdR.row (w := w) (T := (E.frz k).T0) false b 0 sz cap es arr ty3 (0, 0) us (frz_own h2) h3 h7 (Nat.le_trans h5 h6.1) h5 (fun h => by cases h) (fun i j hi hj => by rw [Nat.zero_add]; exact h8 i j hi hj)
            (fun i j e c he hc => (h9 i j e c he hc).toR (fun b hb => frz_t0 hb) (fun b q hb => frz_own hb))
          exact this
      · exact .any _
    · rename_i hk
      exact .sl k n ty sz es b cap (by rw [hH k hk, h]; rfl) hr
  | slO k n ty sz es i j v b cap h hr =>
    rw [frA]
    split
    · rename_i e; subst e; rw [h]; exact .any _
    · rename_i hk
      exact .slO k n ty sz es i j (frA o (s.H o) v) b cap (by rw [hH k hk, h]; rfl) hr
  | svX k a n u h =>
    rw [frA]
    split
    · rename_i e; subst e; rw [h]; exact .any u
    · rename_i hk; exact .svX k a n u (by rw [hH k hk, h]; rfl)
  | sv k a n ob b cap h hr =>
    rw [frA]
    split
    · rename_i e
      subst e
      rw [h]
      cases ob with
      | box => exact .any _
      | rx => exact .any _
      | mp => exact .any _
      | rw ty sz es =>
        rw [frV]
        split
        · rename_i hn
          rcases hR.live k _ h with ⟨h1, _⟩ | ⟨b', cap', arr, us, h1, h2, ⟨ty3, h3⟩, h4, h5, h6, h7, h8, h9⟩
          · rw [h1] at hr; cases hr
          · rw [h1] at hr
            cases hr
            have key := cut_row (T := (E.frz k).T0) (off := 0) (h := a + n) (l := a) (m := cap - a) (us := us) (frz_own h2) h3 h7 (Nat.le_trans h5 h6.1) (fun i j hi hj => by rw [Nat.zero_add]; exact h8 i j hi hj)
              (fun i j e c he hc => (h9 i j e c he hc).toR (fun b hb => frz_t0 hb) (fun b q hb => frz_own hb)) hn.1 (by omega) (by omega)
            rw [Nat.zero_add, Nat.add_sub_cancel_left] at key
            exact .c _ _ key
        · exact .any _
    · rename_i hk
      have := RdV.sv (w := w) (E := E.frz o) (H := (frS o s).H) k a n (frO o (s.H o) ob) b cap (by rw [hH k hk, h]; rfl) hr
      rw [frO_sz] at this
      exact this
  | mrX k u h =>
    rw [frA]
    split
    · exact .any _
    · rename_i hk; exact .mrX k u (by rw [hH k hk, h]; rfl)
  | mr k m b cap h hr =>
    rw [frA]
    split
    · exact .any _
    · rename_i hk; exact .mr k m b cap (by rw [hH k hk, h]; rfl) hr
  | slN k ty sz h hr =>
    rw [frA]
    split
    · rename_i e; subst e; rw [h, frN]; exact .c _ _ (.nil _ _ _ (fun _ => rfl))
    · rename_i hk; exact .slN k ty sz (by rw [hH k hk, h]; rfl) hr
  | ptX k i j u h =>
    rw [frA]
    split
    · rename_i e; subst e; rw [h]; exact .any u
    · rename_i hk; exact .ptX k i j u (by rw [hH k hk, h]; rfl)
  | pt k i j ob b cap h hr =>
    rw [frA]
    split
    · rename_i e
      subst e
      rw [h]
      cases ob with
      | rw ty sz es => exact .any _
      | rx => exact .any _
      | mp => exact .any _
      | box ty cs =>
        rw [frP]
        split
        · rename_i hi
          subst hi
          split
          · rename_i l hl
            obtain ⟨b', arr, us, h1, h2, h3, h4, h5, h6⟩ := hR.live k _ h
            rw [h1] at hr
            cases hr
            have hq := toFs_ok (w := w) (E := E) (H := s.H) hl
            refine .c _ _ ?_
            have := RdR.ptr (w := w) (T := (E.frz k).T0) b 0 l j arr ty (0, 0) us (frz_own h2) h3 (fun m hm => by rw [Nat.zero_add]; exact h5 m (by omega)) (fun m c hc => by
              obtain ⟨x, hx, hxu⟩ := hq.2 m c hc
              exact (hxu _ (h6 m x hx)).mono (fun b _ hb => ⟨rfl, frz_t0 hb⟩))
            simpa [Ob.sz] using this
          · exact .any _
        · exact .any _
    · rename_i hk
      have := RdV.pt (w := w) (E := E.frz o) (H := (frS o s).H) k i j (frO o (s.H o) ob) b cap (by rw [hH k hk, h]; rfl) hr
      rw [frO_sz] at this
      exact this
  | ag cs us hs _ ih =>
    rw [frA, frL_map]
    refine .ag _ us (by simpa using hs) (fun i c u hc hu => ?_)
    rw [List.getElem?_map, Option.map_eq_some_iff] at hc
    obtain ⟨c', hc', rfl⟩ := hc
    exact ih i c' u hc' hu
  | tu cs us hs _ ih =>
    rw [frA, frL_map]
    refine .tu _ us (by simpa using hs) (fun i c u hc hu => ?_)
    rw [List.getElem?_map, Option.map_eq_some_iff] at hc
    obtain ⟨c', hc', rfl⟩ := hc
    exact ih i c' u hc' hu
theorem Mn.frz {o : Nat} {ob : Option Ob} {x : AV} (h : Mn U x) : Mn U (frA o ob x) := by
  induction h with
  | c x => exact .c x
  | bw x => exact .bw x
  | nul => exact .nul
  | any => exact .any
  | sl k n hk =>
    rw [frA]
    split
    · unfold frN; split
      · split
        · exact .c _
        · exact .any
      · exact .any
    · exact .sl k n hk
  | pt k i j hk =>
    rw [frA]
    split
    · unfold frP; split
      · split
        · split
          · exact .c _
          · exact .any
        · exact .any
      · exact .any
    · exact .pt k i j hk
  | sv k a n hk =>
    rw [frA]
    split
    · unfold frV; split
      · split
        · exact .c _
        · exact .any
      · exact .any
    · exact .sv k a n hk
  | mr k hk =>
    rw [frA]
    split
    · exact .any
    · exact .mr k hk
  | ag cs _ ih =>
    rw [frA, frL_map]
    refine .ag _ (fun c hc => ?_)
    obtain ⟨c', hc', rfl⟩ := List.mem_map.1 hc
    exact ih c' hc'
  | tu cs _ ih =>
    rw [frA, frL_map]
    refine .tu _ (fun c hc => ?_)
    obtain ⟨c', hc', rfl⟩ := List.mem_map.1 hc
    exact ih c' hc'
theorem RelE.frS (hR : RelE nt I U s E a w) {o : Nat} (ho : o ≠ 0) : RelE nt I U (frS o s) (E.frz o) a w := by
  have hH : ∀ k, k ≠ o → (Abs.frS o s).H k = (s.H k).map (frO o (s.H o)) := fun k hk => if_neg hk
  have hHo : (Abs.frS o s).H o = none := if_pos rfl
  have hsome : ∀ k x, (Abs.frS o s).H k = some x → k ≠ o ∧ ∃ y, s.H k = some y ∧ x = frO o (s.H o) y := by
    intro k x hk
    have hne : k ≠ o := fun e => by rw [e, hHo] at hk; cases hk
    rw [hH k hne, Option.map_eq_some_iff] at hk
    obtain ⟨y, hy, rfl⟩ := hk
    exact ⟨hne, y, hy, rfl⟩
  constructor
  · exact hR.defers
  · exact hR.size
  · exact fun k u hu => (hR.slots k u hu).frz hR o
  · intro k ob hk
    obtain ⟨hne, y, hy, rfl⟩ := hsome k ob hk
    have hl := hR.live k y hy
    cases y with
    | box ty cs =>
      obtain ⟨b, arr, us, h1, h2, h3, h4, h5, h6⟩ := hl
      refine ⟨b, arr, us, h1, frz_other h2 hne, h3, by rw [h4, frL_map]; simp, fun j hj => h5 j (by simpa [frL_map] using hj), fun j c hc => ?_⟩
      rw [frL_map, List.getElem?_map, Option.map_eq_some_iff] at hc
      obtain ⟨c', hc', rfl⟩ := hc
      exact (h6 j c' hc').frz hR o
    | mp m =>
      obtain ⟨b, ents, clock, h1, h2, h3, h4⟩ := hl
      exact ⟨b, ents, clock, h1, frz_other h2 hne, h3, h4⟩
    | rx ty sz es i0 j0 v =>
      obtain ⟨hi0, hj0, b, cap, arr, us, h1, h2, h3, h4, h5, h6, h7, h8, h9, h10⟩ := hl
      exact ⟨hi0, hj0, b, cap, arr, us, h1, frz_other h2 hne, h3, h4, h5, h6, h7, h8, fun i j e c he hc => (h9 i j e c he hc).relabel _ (fun b _ hb => ⟨rfl, frz_t0 hb⟩) (fun b q _ hb => ⟨rfl, frz_other hb hne⟩), h10.frz hR o⟩
    | rw ty sz es =>
      rcases hl with h | ⟨b, cap, arr, us, h1, h2, h3, h4, h5, h6, h7, h8, h9⟩
      · exact .inl h
      · refine .inr ⟨b, cap, arr, us, h1, frz_other h2 hne, h3, h4, h5, h6, h7, h8, fun i j e c he hc => (h9 i j e c he hc).relabel _ (fun b _ hb => ⟨rfl, frz_t0 hb⟩) (fun b q _ hb => ⟨rfl, frz_other hb hne⟩)⟩
  · exact fun b ℓ hb => hR.locLt b ℓ (frz_some hb).1
  · intro b hb hm
    have h0 := hR.old b hb hm
    rw [← h0]
    cases hl : E.loc b with
    | none => exact frz_t0 hl
    | some ℓ =>
      obtain ⟨k, p⟩ := ℓ
      refine frz_other hl (fun e => ?_)
      subst e
      exact hm ⟨k, p, by rw [← h0, hl], ho⟩
  · intro k x hk
    obtain ⟨h1, h2⟩ := hR.pas k x hk
    refine ⟨h1, ?_⟩
    by_cases hne : k = o
    · subst hne; exact .inl hHo
    · rcases h2 with h2 | ⟨h2, y, h3, h4⟩
      · exact .inl (by rw [hH k hne, h2]; rfl)
      · exact .inr ⟨h2, frO o (s.H o) y, by rw [hH k hne, h3]; rfl, h4.trans (frO_like ..)⟩
  · exact hR.u0
  · have : (0 : Nat) ≠ o := fun e => ho e.symm
    rw [hH 0 this, hR.h0]; rfl
  · exact fun k => (hR.mnT k).frz
  · intro k ob hk
    obtain ⟨hne, y, hy, rfl⟩ := hsome k ob hk
    have := hR.mnH k y hy
    refine ⟨this.1, ?_⟩
    cases y with
    | rw => exact trivial
    | rx => exact Mn.frz this.2
    | mp => exact trivial
    | box ty cs =>
      intro c hc
      rw [frL_map] at hc
      obtain ⟨c', hc', rfl⟩ := List.mem_map.1 hc
      exact (this.2 c' hc').frz
  · exact hR.evo
theorem RelE.frzL : ∀ (os : List Nat) {s : ASt} {E : Env}, RelE nt I U s E a w → ∃ E', RelE nt I U (frz os s) E' a w
  | [], s, E, hR => ⟨E, hR⟩
  | o :: r, s, E, hR => by
    unfold Abs.frz
    split
    · exact RelE.frzL r hR
    · rename_i h
      exact RelE.frzL r (hR.frS h)
theorem RelE.frzC (os : Option (List Nat)) {s : ASt} {E : Env} (hR : RelE nt I U s E a w) : ∃ E', RelE nt I U (frzC os s) E' a w := by
  cases os with
  | none => exact ⟨E, hR⟩
  | some os => exact hR.frzL os
end
theorem frz_c : ∀ (os : List Nat) (s : ASt), (frz os s).c = s.c
  | [], s => rfl
  | o :: r, s => by
    unfold frz
    split
    · exact frz_c r s
    · exact frz_c r (frS o s)
theorem frzC_c (os : Option (List Nat)) (s : ASt) : (frzC os s).c = s.c := by
  cases os with
  | none => rfl
  | some os => exact frz_c os s
theorem frz_nil {s : ASt} : frz [] s = s := (rfl)
theorem frz_cons {o : Nat} {r : List Nat} {s : ASt} : frz (o :: r) s = if o = 0 then frz r s else frz r (frS o s) := (rfl)
theorem frzC_none {s : ASt} : frzC none s = s := (rfl)
theorem frzC_some {os : List Nat} {s : ASt} : frzC (some os) s = frz os s := (rfl)
theorem frS_eq {o : Nat} {t : Nat → AV} {H : Hp} {c : Nat} : frS o ⟨t, H, c⟩ = ⟨fun k => frA o (H o) (t k), upd (fun k => (H k).map (frO o (H o))) o none, c⟩ := (rfl)
end Go.Proofs.YtnnmpdanfeejbaaGreat.Abs

/- The abstract machine: a row of which one cell's own row is an object of its own for a while. -/
namespace Go.Proofs.YtnnmpdanfeejbaaGreat.Abs
open Go Go.RowKit
set_option linter.unusedVariables false
set_option linter.unusedSimpArgs false

def gO (o i j k : Nat) (ℓ : Loc) : Loc := if ℓ.1 = o then (match ℓ.2 with
  | (i', j') :: q => if i' = i ∧ j' = j then (k, q) else ℓ
  | [] => ℓ) else ℓ
theorem gO_out {o i j k o' : Nat} {q : List (Nat × Nat)} (h : o' ≠ o) : gO o i j k (o', q) = (o', q) := if_neg h
theorem gO_nil {o i j k : Nat} : gO o i j k (o, []) = (o, []) := if_pos rfl
theorem gO_in {o i j k : Nat} {q : List (Nat × Nat)} : gO o i j k (o, (i, j) :: q) = (k, q) := by
  unfold gO; rw [if_pos rfl]; simp
theorem gO_ne {o i j k i' j' : Nat} {q : List (Nat × Nat)} (h : (i', j') ≠ (i, j)) : gO o i j k (o, (i', j') :: q) = (o, (i', j') :: q) := by
  unfold gO; rw [if_pos rfl]
  simp only
  rw [if_neg (fun hh => h (by rw [hh.1, hh.2]))]
/-- The state once cell (i, j) of object o stands apart, as object s.c. -/
def opnS (s : ASt) (o i j ty sz : Nat) (es : List (List CV)) (e : List CV) (es' : List (List CV)) (ety esz : Nat) : ASt :=
  ⟨fun k => killA (s.t k), upd (upd (fun k => (s.H k).map killO) o (some (.rx ty sz (es.set i (e.set j .hole)) i j (.sl s.c es'.length)))) s.c (some (.rw ety esz es')), s.c + 8⟩
def OpnQ (o : Nat) (s : ASt) (K : ASt → Prop) : Prop := ∃ (i j ty sz : Nat) (es : List (List CV)) (e : List CV) (es' : List (List CV)) (ety esz : Nat),
  s.H o = some (.rw ty sz es) ∧ es[i]? = some e ∧ e[j]? = some (.row true es') ∧ (∀ c ∈ es', c.length = esz) ∧ K (opnS s o i j ty sz es e es' ety esz)
def opK (q : Option Nat) (s : ASt) (K : ASt → Prop) : Prop := match q with
  | some o => OpnQ o s K
  | none => K s
theorem opK_none {s : ASt} {K : ASt → Prop} : opK none s K = K s := rfl
theorem opK_some {o : Nat} {s : ASt} {K : ASt → Prop} : opK (some o) s K = OpnQ o s K := rfl

section
variable {P : Program} {nt : Nat} {I : Ini} {s : ASt} {E : Env} {a : Act} {w : World}

theorem RelE.opn (hR : RelE nt I (fun o => o < s.c) s E a w) {o i j ty sz : Nat} {es : List (List CV)} {e : List CV} {es' : List (List CV)} {ety esz : Nat} (hH : s.H o = some (.rw ty sz es)) (he : es[i]? = some e) (hc : e[j]? = some (.row true es')) (hes : ∀ c ∈ es', c.length = esz) :
    ∃ E', RelE nt I (fun o => o < s.c + 8) (opnS s o i j ty sz es e es' ety esz) E' a w := by
  have ho0 : o ≠ 0 := fun h => by rw [h, hR.h0] at hH; cases hH
  have hos : o < s.c := (hR.mnH o _ hH).1
  have hil := (List.getElem?_eq_some_iff.1 he).1
  have hjl := (List.getElem?_eq_some_iff.1 hc).1
  rcases hR.live o _ hH with ⟨_, h1⟩ | ⟨b, cap, arr, us, g1, g2, ⟨ty3, g3⟩, g4, g5, g6, g7, g8, g9⟩
  · rw [h1] at hil; simp at hil
  have hel := g7 e (List.mem_of_getElem? he)
  have hcell := g9 i j e _ he hc
  -- where the cell's row lies
  obtain ⟨r, hr1, hr2, hr3⟩ : ∃ r : Option (Nat × Nat), (∀ E' : Env, ∀ H' : Hp, E'.rho s.c = r → (∀ b0 q, E.loc b0 = some (o, (i, j) :: q) → E'.loc b0 = some (s.c, q)) → (∀ b0, E.loc b0 = none → E'.loc b0 = none) → H' s.c = some (.rw ety esz es') →
      LiveOb w E' H' s.c (.rw ety esz es') ∧ RdV w E' H' (.sl s.c es'.length) (us i j)) ∧ (us i j).oneCell' = true ∧ True := by
    have h1 := hcell.one
    generalize hy : us i j = y at hcell h1
    cases hcell with
    | im _ _ _ _ hi => simp [CV.im] at hi
    | nil => exact ⟨none, fun E' H' hrho _ _ hH' => ⟨.inl ⟨hrho, rfl⟩, .slN _ _ _ hH' hrho⟩, h1, trivial⟩
    | own _ b0 sz0 cap0 _ arr0 ty0 us0 l1 l2 l3 l4 l5 l6 l7 l8 =>
      refine ⟨some (b0, cap0), fun E' H' hrho hloc h0 hH' => ⟨.inr ⟨b0, cap0, arr0, us0, hrho, hloc b0 [] l1, ⟨ty0, l2⟩, ?_, l4, l5, hes, ?_, fun i' j' e' c' he' hc' => ?_⟩, .sl _ _ _ _ _ _ _ hH' hrho⟩, h1, trivial⟩
      · by_cases hn : es' = []
        · rw [l3, l5.2 hn, Nat.zero_mul, Nat.zero_mul]
        · obtain ⟨x, hx⟩ := List.exists_mem_of_ne_nil _ hn
          rw [l3, ← l6 x hx, ← hes x hx]
      · intro i' j' hi' hj'
        have hx := List.getElem_mem hi'
        have : sz0 = esz := by rw [← l6 _ hx, ← hes _ hx]
        subst this
        exact l7 i' j' hi' hj'
      · exact (l8 i' j' e' c' he' hc').relabel (s.c, [(i', j')]) (fun b' _ hb' => ⟨rfl, h0 b' hb'⟩) (fun b' q _ hq => ⟨rfl, hloc b' _ (by simpa using hq)⟩)
  let E' : Env := ⟨upd E.rho s.c r, fun b => (E.loc b).map (gO o i j s.c)⟩
  have hrho : ∀ k, k ≠ s.c → E'.rho k = E.rho k := fun k hk => upd_ne _ _ hk
  have ht0 : ∀ b, b < w.heap.size → E.loc b = none → w.heap[b]? = w.heap[b]? ∧ E'.loc b = none := fun b _ h => ⟨rfl, by show (E.loc b).map _ = none; rw [h]; rfl⟩
  have hother : ∀ b o' q, o' ≠ o → E.loc b = some (o', q) → E'.loc b = some (o', q) := fun b o' q hne h => by show (E.loc b).map _ = _; rw [h, Option.map_some, gO_out hne]
  have hHo : (opnS s o i j ty sz es e es' ety esz).H o = some (.rx ty sz (es.set i (e.set j .hole)) i j (.sl s.c es'.length)) := by
    show upd (upd _ o _) s.c _ o = _
    rw [upd_ne _ _ (by omega), upd_same]
  have hHk : (opnS s o i j ty sz es e es' ety esz).H s.c = some (.rw ety esz es') := upd_same _ _ _
  have hHn : ∀ k, k ≠ o → k ≠ s.c → (opnS s o i j ty sz es e es' ety esz).H k = (s.H k).map killO := fun k h1 h2 => by
    show upd (upd _ o _) s.c _ k = _
    rw [upd_ne _ _ h2, upd_ne _ _ h1]
  have hne : es ≠ [] := by intro h; rw [h] at hil; simp at hil
  have hob : ∀ k, k < s.c → (opnS s o i j ty sz es e es' ety esz).H k = none ∨ (E'.rho k = E.rho k ∧ ∃ x y, s.H k = some x ∧ (opnS s o i j ty sz es e es' ety esz).H k = some y ∧ x.like y) := fun k hk => by
    by_cases hko : k = o
    · subst hko
      exact .inr ⟨hrho k (by omega), _, _, hH, hHo, ⟨rfl, hne⟩⟩
    · rw [hHn k hko (by omega)]
      cases hh : s.H k with
      | none => exact .inl rfl
      | some x => exact .inr ⟨hrho k (by omega), x, killO x, rfl, rfl, killO_like x⟩
  have hin := hr1 E' (opnS s o i j ty sz es e es' ety esz).H (upd_same _ _ _) (fun b0 q h => by show (E.loc b0).map _ = _; rw [h, Option.map_some, gO_in]) (fun b0 h => by show (E.loc b0).map _ = _; rw [h]; rfl) hHk
  refine ⟨E', ?_⟩
  constructor
  · exact hR.defers
  · exact hR.size
  · exact fun k u hu => (hR.slots k u hu).kill ht0 hob (hR.mnT k)
  · intro k ob hk
    by_cases hko : k = o
    · subst hko
      rw [hHo] at hk
      cases hk
      have hel2 : ∀ e' ∈ es.set i (e.set j .hole), e'.length = sz := fun e' he' => by
        rcases List.mem_or_eq_of_mem_set he' with h | h
        · exact g7 e' h
        · rw [h, List.length_set]; exact hel
      refine ⟨by simpa using hil, hel ▸ hjl, b, cap, arr, us, (hrho k (by omega)).trans g1, by show (E.loc b).map _ = _; rw [g2, Option.map_some, gO_nil], ⟨ty3, g3⟩, g4, by simpa using g5, ⟨g6.1, fun h => absurd (by have := congrArg List.length h; simp at this; exact this) hne⟩, hel2, fun i' j' hi' hj' => g8 i' j' (by simpa using hi') hj', fun i' j' e' c' he' hc' => ?_, hin.2⟩
      rw [List.getElem?_set] at he'
      have hrel : ∀ {c}, (i', j') ≠ (i, j) → RdC w E.loc (k, [(i', j')]) c (us i' j') → RdC w E'.loc (k, [(i', j')]) c (us i' j') := fun hnn h =>
        h.relabel (k, [(i', j')]) ht0 (fun b' q _ hq => ⟨rfl, by show (E.loc b').map _ = _; rw [hq, Option.map_some]; exact congrArg some (gO_ne hnn)⟩)
      by_cases hi : i = i'
      · subst hi
        rw [if_pos rfl, if_pos hil] at he'
        cases he'
        rw [List.getElem?_set] at hc'
        by_cases hj : j = j'
        · subst hj
          rw [if_pos rfl, if_pos hjl] at hc'
          cases hc'
          exact .im _ _ _ (.hole _ hr2) rfl
        · rw [if_neg hj] at hc'
          exact hrel (by simp; exact fun h => hj h.symm) (g9 i j' e c' he hc')
      · rw [if_neg hi] at he'
        exact hrel (by simp; exact fun h => absurd h.symm hi) (g9 i' j' e' c' he' hc')
    · by_cases hkc : k = s.c
      · subst hkc
        rw [hHk] at hk
        cases hk
        exact hin.1
      · rw [hHn k hko hkc, Option.map_eq_some_iff] at hk
        obtain ⟨y, hy, rfl⟩ := hk
        have hly := hR.live k y hy
        have hmy := (hR.mnH k y hy).2
        cases y with
        | box ty1 cs =>
          obtain ⟨b', arr', us', k1, k2, k3, k4, k5, k6⟩ := hly
          show LiveOb _ _ _ _ (.box ty1 (killL cs))
          rw [killL_map]
          refine ⟨b', arr', us', (hrho k hkc).trans k1, hother b' k [] hko k2, k3, by simpa using k4, fun j hj => k5 j (by simpa using hj), fun j c hj => ?_⟩
          rw [List.getElem?_map, Option.map_eq_some_iff] at hj
          obtain ⟨c', hc', rfl⟩ := hj
          exact (k6 j c' hc').kill ht0 hob (hmy c' (List.mem_of_getElem? hc'))
        | rw ty1 sz1 es1 =>
          rcases hly with ⟨k1, k2⟩ | ⟨b', cap', arr', us', k1, k2, k3, k4, k5, k6, k7, k8, k9⟩
          · exact .inl ⟨(hrho k hkc).trans k1, k2⟩
          · exact .inr ⟨b', cap', arr', us', (hrho k hkc).trans k1, hother b' k [] hko k2, k3, k4, k5, k6, k7, k8, fun i j e c he hc => (k9 i j e c he hc).relabel (k, [(i, j)]) ht0 (fun b2 q hb2 hq => ⟨rfl, hother b2 k _ hko hq⟩)⟩
        | rx ty1 sz1 es1 i1 j1 v1 =>
          obtain ⟨hi0, hj0, b', cap', arr', us', k1, k2, k3, k4, k5, k6, k7, k8, k9, k10⟩ := hly
          exact ⟨hi0, hj0, b', cap', arr', us', (hrho k hkc).trans k1, hother b' k [] hko k2, k3, k4, k5, k6, k7, k8, fun i j e c he hc => (k9 i j e c he hc).relabel (k, [(i, j)]) ht0 (fun b2 q hb2 hq => ⟨rfl, hother b2 k _ hko hq⟩), k10.kill ht0 hob hmy⟩
        | mp m =>
          obtain ⟨b', ents, clock, k1, k2, k3, k4⟩ := hly
          exact ⟨b', ents, clock, (hrho k hkc).trans k1, hother b' k [] hko k2, k3, k4⟩
  · intro b' ℓ hb
    have hb : (E.loc b').map (gO o i j s.c) = some ℓ := hb
    rw [Option.map_eq_some_iff] at hb
    obtain ⟨ℓ0, h0, _⟩ := hb
    exact hR.locLt b' ℓ0 h0
  · intro b' hb hm
    have h0 := hR.old b' hb hm
    rw [← h0]
    show (E.loc b').map _ = _
    cases hl : E.loc b' with
    | none => rfl
    | some ℓ =>
      obtain ⟨k, p⟩ := ℓ
      have hk0 : k = 0 := by
        by_cases hk0 : k = 0
        · exact hk0
        · exact absurd ⟨k, p, by rw [← h0, hl], hk0⟩ hm
      subst hk0
      rw [Option.map_some, gO_out (Ne.symm ho0)]
  · intro k x hx
    obtain ⟨h1, h2⟩ := hR.pas k x hx
    refine ⟨by omega, ?_⟩
    rcases hob k h1 with h3 | ⟨h3, y, z, h4, h5, h6⟩
    · exact .inl h3
    · rcases h2 with h2 | ⟨h2, y', h7, h8⟩
      · rw [h2] at h4; cases h4
      · rw [h4] at h7
        cases h7
        exact .inr ⟨h3.trans h2, z, h5, h8.trans h6⟩
  · have := hR.u0
    show 0 < s.c + 8
    omega
  · have := hR.u0
    rw [hHn 0 (Ne.symm ho0) (by omega), hR.h0]; rfl
  · exact fun k => (hR.mnT k).kill.mono fun o h => by omega
  · intro k ob hk
    by_cases hko : k = o
    · subst hko
      rw [hHo] at hk
      cases hk
      exact ⟨by omega, .sl _ _ (by omega)⟩
    · by_cases hkc : k = s.c
      · subst hkc
        rw [hHk] at hk
        cases hk
        exact ⟨by omega, trivial⟩
      · rw [hHn k hko hkc, Option.map_eq_some_iff] at hk
        obtain ⟨y, hy, rfl⟩ := hk
        have hmy := hR.mnH k y hy
        refine ⟨by have := hmy.1; omega, ?_⟩
        cases y with
        | box ty cs =>
          show ∀ c ∈ killL cs, Mn _ c
          rw [killL_map]
          intro c hc
          obtain ⟨c', hc', rfl⟩ := List.mem_map.1 hc
          exact (hmy.2 c' hc').kill.mono fun o h => by omega
        | rw => trivial
        | rx => exact (Mn.kill hmy.2).mono fun o h => by omega
        | mp => trivial
  · exact hR.evo
theorem RelE.opK (q : Option Nat) {s : ASt} {E : Env} (hR : RelE nt I (fun o => o < s.c) s E a w) {K : ASt → Prop} (h : opK q s K) : ∃ s' E', K s' ∧ RelE nt I (fun o => o < s'.c) s' E' a w := by
  cases q with
  | none => exact ⟨s, E, h, hR⟩
  | some o =>
    obtain ⟨i, j, ty, sz, es, e, es', ety, esz, h1, h2, h3, h4, hK⟩ := h
    obtain ⟨E', hE⟩ := hR.opn (ety := ety) h1 h2 h3 h4
    exact ⟨_, E', hK, hE⟩
end
end Go.Proofs.YtnnmpdanfeejbaaGreat.Abs

/- The abstract machine: code, and a function's contract. -/
namespace Go.Proofs.YtnnmpdanfeejbaaGreat.Abs
open Go Go.RowKit
set_option linter.unusedVariables false
set_option linter.unusedSimpArgs false

/-- A loop: a relation that holds at each round's head, and a number that falls. -/
def LoopQ (np : Nat) (body : ASt → (Exit → ASt → Prop) → Prop) (s : ASt) (K : Exit → ASt → Prop) : Prop :=
  ∃ R : ASt → Nat → Prop, (∃ s' n, Weak np s s' ∧ R s' n) ∧ ∀ s n, R s n → body s fun e s' => match e with
    | .normal => ∃ s'' m, Weak np s' s'' ∧ R s'' m ∧ m < n
    | e => K e s'

/-- Ways meet: a relation that holds where they do. -/
def JoinQ (np : Nat) (x y : ASt → (Exit → ASt → Prop) → Prop) (s : ASt) (K : Exit → ASt → Prop) : Prop :=
  ∃ J : ASt → Prop, (x s fun e s' => match e with
    | .normal => ∃ s'', Weak np s' s'' ∧ J s''
    | e => K e s') ∧ ∀ s', J s' → y s' K
def firstReg : Code → Option Nat
  | .region id _ _ => some id
  | .seq x _ => firstReg x
  | .block _ c => firstReg c
  | .loop c => firstReg c
  | _ => none
/-- What a proof picks: ahead of which regions ways meet; at which place of a region three operations are one. -/
structure Cfg where
  js : List Nat := []
  fs : List (Nat × Nat) := []
  /-- which objects are read only from a region on -/
  fz : List (Nat × List Nat) := []
  /-- and which at the end -/
  en : List Nat := []
  /-- of which object one cell's own row stands apart from a region's start on -/
  op : List (Nat × Nat) := []
def Cfg.joins (g : Cfg) (y : Code) : Bool := match firstReg y with
  | some k => g.js.contains k
  | none => false

def optK (o : Option Nat) (f : Nat → Prop) (x : Prop) : Prop := match o with
  | some q => f q
  | none => x
theorem optK_some (q : Nat) (f : Nat → Prop) (x : Prop) : optK (some q) f x = f q := rfl
theorem optK_none (f : Nat → Prop) (x : Prop) : optK none f x = x := rfl
def wpC (P : Program) (nt np : Nat) (g : Cfg) : Code → ASt → (Exit → ASt → Prop) → Prop
  | .skip, s, K => K .normal s
  | .seq x y, s, K => if g.joins y then JoinQ np (wpC P nt np g x) (wpC P nt np g y) s K else wpC P nt np g x s fun e s' => match e with
    | .normal => wpC P nt np g y s' K
    | e => K e s'
  | .region id ops d, s, K => opK (g.op.lookup id) (frzC (g.fz.lookup id) s) fun s => if d then DrawQ P nt ops s fun s' => K .normal { s' with c := s'.c + 8 * ops.size }
    else optK (g.fs.lookup id) (fun q => q ≤ ops.size ∧ FuseQ P nt q ops s fun s' => K .normal { s' with c := s'.c + 8 * ops.size })
      (seqR P nt (dstOf ops) 0 ops.toList s fun s' => K .normal { s' with c := s'.c + 8 * ops.size })
  | .cond c x y, s, K => match c with
    | .tmp d => d < nt ∧ boolK (s.t d) fun b => brB b (wpC P nt np g x { s with t := upd s.t d (.c (.v (.bool true))) } K) (wpC P nt np g y { s with t := upd s.t d (.c (.v (.bool false))) } K)
    | _ => False
  | .block id c, s, K => wpC P nt np g c s fun e s' => match e with
    | .exit j => if j = id then K .normal s' else K (.exit j) s'
    | e => K e s'
  | .loop c, s, K => LoopQ np (wpC P nt np g c) s K
  | .exit id, s, K => K (.exit id) s
  | .ret, s, K => K .ret s
  | _, _, _ => False

section
variable {P : Program} {nt np : Nat} {I : Ini} {g : Cfg}

theorem wpC_sound (hm : P.follows .mixedOrders = true) (hnp : ∀ o x, I.H o = some x → 1 ≤ o ∧ o ≤ np) : ∀ (c : Code) {s : ASt} {E : Env} {a : Act} {w : World} {K : Exit → ASt → Prop} {Q : Exit → Act → World → Prop}, RelE nt I (fun o => o < s.c) s E a w → wpC P nt np g c s K →
    (∀ e s' E' a' w', K e s' → RelE nt I (fun o => o < s'.c) s' E' a' w' → Q e a' w') → c.wp P Q a w := by
  intro c
  induction c with
  | skip => exact fun hR h hn => wp_skip (hn _ _ _ _ _ h hR)
  | seq x y ihx ihy =>
    intro s E a w K Q hR h hn
    simp only [wpC] at h
    split at h
    · obtain ⟨J, h1, h2⟩ := h
      refine wp_seq (ihx hR h1 (fun e s' E' a' w' hK hR' => ?_))
      cases e with
      | normal =>
        obtain ⟨s2, hw, hJ⟩ := hK
        obtain ⟨E2, hR2⟩ := hR'.weak hnp hw
        exact ihy hR2 (h2 s2 hJ) hn
      | exit => exact hn _ _ _ _ _ hK hR'
      | goto => exact hn _ _ _ _ _ hK hR'
      | ret => exact hn _ _ _ _ _ hK hR'
      | panic => exact hn _ _ _ _ _ hK hR'
      | outgrown => exact hn _ _ _ _ _ hK hR'
    refine wp_seq (ihx hR h (fun e s' E' a' w' hK hR' => ?_))
    cases e with
    | normal => exact ihy hR' hK hn
    | exit => exact hn _ _ _ _ _ hK hR'
    | goto => exact hn _ _ _ _ _ hK hR'
    | ret => exact hn _ _ _ _ _ hK hR'
    | panic => exact hn _ _ _ _ _ hK hR'
    | outgrown => exact hn _ _ _ _ _ hK hR'
  | region id ops d =>
    intro s0 E0 a w K Q hR0 h hn
    simp only [wpC] at h
    obtain ⟨E1, hR1⟩ := hR0.frzC (g.fz.lookup id)
    generalize hsf : frzC (g.fz.lookup id) s0 = s1 at h hR1
    have hR2 : RelE nt I (fun o => o < s1.c) s1 E1 a w := by rw [← hsf, frzC_c, hsf]; exact hR1
    obtain ⟨s, E, h, hR⟩ := hR2.opK (g.op.lookup id) h
    have hc : ∀ (s' : ASt) E' a' w', s'.c = s.c → RelE nt I (fun o => o < s.c + 8 * ops.size) s' E' a' w' → RelE nt I (fun o => o < ({ s' with c := s'.c + 8 * ops.size } : ASt).c) { s' with c := s'.c + 8 * ops.size } E' a' w' := fun s' E' a' w' hc h => by
      show RelE nt I (fun o => o < s'.c + 8 * ops.size) _ E' a' w'
      rw [hc]
      exact ⟨h.defers, h.size, h.slots, h.live, h.locLt, h.old, h.pas, h.u0, h.h0, h.mnT, h.mnH, h.evo⟩
    cases d with
    | true =>
      rw [if_pos rfl] at h
      exact drawQ_sound hm hR h (fun s' E' a' w' hK hcc hR' => hn _ _ E' _ _ hK (hc s' E' a' w' hcc hR'))
    | false =>
      rw [if_neg (by simp)] at h
      unfold optK at h
      split at h
      · exact wp_region_list (fuseQ_sound hR h.1 h.2 (fun s' E' a' w' hK hcc hR' => hn _ _ E' _ _ hK (hc s' E' a' w' hcc hR')))
      refine wp_region_list (seqR_sound rfl (hR.mono (fun o ho => by omega)) h (fun s' E' a' w' hK hcc hR' => hn _ _ E' _ _ hK (hc s' E' a' w' hcc (by simpa using hR'))))
  | cond c x y ihx ihy =>
    intro s E a w K Q hR h hn
    simp only [wpC] at h
    cases c with
    | const => exact h.elim
    | global => exact h.elim
    | func => exact h.elim
    | tmp d =>
    obtain ⟨hd, h⟩ := h
    obtain ⟨b, hb, h1, h2⟩ : ∃ b, s.t d = .c (.v (.bool b)) ∧ (b = true → wpC P nt np g x { s with t := upd s.t d (.c (.v (.bool true))) } K) ∧ (b = false → wpC P nt np g y { s with t := upd s.t d (.c (.v (.bool false))) } K) := by
      obtain ⟨b, hb, h⟩ := boolK_ex h
      exact ⟨b, hb, h⟩
    have hv : a.eval (.tmp d) = .bool b := hR.eval (x := .tmp d) (by simp only [getA, if_pos hd]; exact hb)
    cases b with
    | true => exact wp_cond_true hv (ihx (hR.refine hb) (h1 rfl) hn)
    | false => exact wp_cond_false hv (ihy (hR.refine hb) (h2 rfl) hn)
  | block id c ih =>
    intro s E a w K Q hR h hn
    refine wp_block (ih hR h (fun e s' E' a' w' hK hR' => ?_))
    cases e with
    | exit j =>
      simp only at hK
      show if j = id then Q .normal a' w' else Q (.exit j) a' w'
      split at hK
      · rename_i hj; rw [if_pos hj]; exact hn _ _ _ _ _ hK hR'
      · rename_i hj; rw [if_neg hj]; exact hn _ _ _ _ _ hK hR'
    | normal => exact hn _ _ _ _ _ hK hR'
    | goto => exact hn _ _ _ _ _ hK hR'
    | ret => exact hn _ _ _ _ _ hK hR'
    | panic => exact hn _ _ _ _ _ hK hR'
    | outgrown => exact hn _ _ _ _ _ hK hR'
  | loop c ih =>
    intro s E a w K Q hR h hn
    obtain ⟨R, ⟨s0, n0, hw0, hR0⟩, hstep⟩ := h
    obtain ⟨E1, hR1⟩ := hR.weak hnp hw0
    refine wp_loop_ghost (fun n a w => ∃ s E, R s n ∧ RelE nt I (fun o => o < s.c) s E a w) n0 ⟨s0, E1, hR0, hR1⟩ (fun n a w hh => ?_)
    obtain ⟨s, E, hRs, hrel⟩ := hh
    refine ih hrel (hstep s n hRs) (fun e s' E' a' w' hK hR' => ?_)
    cases e with
    | normal =>
      obtain ⟨s2, m, hw2, hR2, hlt⟩ := hK
      obtain ⟨E2, hR3⟩ := hR'.weak hnp hw2
      exact ⟨m, hlt, s2, E2, hR2, hR3⟩
    | exit => exact hn _ _ _ _ _ hK hR'
    | goto => exact hn _ _ _ _ _ hK hR'
    | ret => exact hn _ _ _ _ _ hK hR'
    | panic => exact hn _ _ _ _ _ hK hR'
    | outgrown => exact hn _ _ _ _ _ hK hR'
  | exit id => exact fun hR h hn => wp_exit (hn _ _ _ _ _ h hR)
  | ret => exact fun hR h hn => wp_ret (hn _ _ _ _ _ h hR)
  | rangeFunc => exact fun hR h hn => h.elim
  | scope => exact fun hR h hn => h.elim
  | label => exact fun hR h hn => h.elim
  | goto => exact fun hR h hn => h.elim
  | refuse => exact fun hR h hn => h.elim

/-- The results, one by one. -/
def resV (P : Program) (nt : Nat) (s : ASt) : List ResultVar → (List AV → Prop) → Prop
  | [], K => K []
  | .tmp t :: r, K => resV P nt s r fun l => K (getA nt s.t (.tmp t) :: l)
  | .cell t ty :: r, K => bindK ((tiOf P ty).bind fun i => evLoad s.H i (getA nt s.t (.tmp t))) fun v _ => resV P nt s r fun l => K (v :: l)
def tupA : List AV → AV
  | [] => .tu []
  | [x] => x
  | x :: y :: l => .tu (x :: y :: l)
/-- The end of a function: what is handed back, under the contract's numbers. -/
def EndQ (np : Nat) (H : Hp) (x : AV) (Post : AV → List (Option Ob) → Prop) : Prop :=
  ∃ (g : Nat → Nat) (r : AV) (out : List (Option Ob)), Wk g x r ∧ WkH g H (HpL out) ∧ (∀ o, 1 ≤ o → o ≤ np → HpL out o = none ∨ g o = o) ∧ Rs false out.length r ∧ (∀ ob, some ob ∈ out → RsOb false out.length ob) ∧ Post r out
def EndA (P : Program) (nt np : Nat) (rs : List ResultVar) (Post : AV → List (Option Ob) → Prop) (s : ASt) : Prop := resV P nt s rs fun l => EndQ np s.H (tupA l) Post

/-- Nothing but closed values comes back. -/
theorem EndQ.closed {H : Hp} {x : AV} {Post : AV → List (Option Ob) → Prop} (hx : Rs false 0 x) (hP : Post x []) : EndQ 0 H x Post := by
  refine ⟨fun o => o, x, [], ?_, ⟨fun o x' h => ?_, fun o o' h => ?_⟩, fun o h1 h2 => by omega, hx, fun ob h => by simp at h, hP⟩
  · clear hP
    induction hx with
    | v x => exact .same _
    | c x => exact .same _
    | nul => exact .nul
    | any => exact .any _
    | sl o n h1 h2 => omega
    | pt o i j h1 h2 => omega
    | sv o a n h1 h2 => omega
    | mr o h1 h2 => omega
    | ag cs _ ih => exact .ag _ _ rfl (fun i c c' h h' => by rw [h] at h'; cases h'; exact ih c (List.mem_of_getElem? h))
    | tu cs _ ih => exact .tu _ _ rfl (fun i c c' h h' => by rw [h] at h'; cases h'; exact ih c (List.mem_of_getElem? h))
  · simp [HpL] at h
  · simp [HpL] at h

theorem resV_run {s : ASt} {E : Env} {a : Act} {w : World} {U : Nat → Prop} (hR : RelE nt I U s E a w) : ∀ {rs : List ResultVar} {K : List AV → Prop}, resV P nt s rs K →
    ∃ (us : List Value) (l : List AV), K l ∧ (rs.mapM (m := Sem) fun | .tmp t => Pure.pure (a.tmps.getD t undef) | .cell a' t => do loadVar t (← asAddr (a.tmps.getD a' undef))).run P w = .ok us w ∧ us.length = l.length ∧ ∀ (i : Nat) x u, l[i]? = some x → us[i]? = some u → RdV w E s.H x u
  | [], K, h => ⟨[], [], h, by simp, rfl, fun i x u hx => by simp at hx⟩
  | .tmp t :: r, K, h => by
    have h' : resV P nt s r fun l => K (getA nt s.t (.tmp t) :: l) := h
    obtain ⟨us, l, hK, h1, h2, h3⟩ := resV_run hR h'
    refine ⟨a.tmps.getD t undef :: us, _, hK, by simp only [List.mapM_cons, Sem.run_bind, Sem.run_pure, Result.andThen_ok, h1], by simp [h2], fun i x u hx hu => ?_⟩
    cases i with
    | zero =>
      cases hx
      cases hu
      exact hR.get (.tmp t)
    | succ i => exact h3 i x u (by simpa using hx) (by simpa using hu)
  | .cell t ty :: r, K, h => by
    simp only [resV] at h
    have h0 := bindK_ex h
    obtain ⟨v, objs, he, h⟩ := h0
    have h' : resV P nt s r fun l => K (v :: l) := h
    obtain ⟨us, l, hK, h1, h2, h3⟩ := resV_run hR h'
    rw [Option.bind_eq_some_iff] at he
    obtain ⟨i, hi, he⟩ := he
    obtain ⟨_, u, hrun, hrd, _⟩ := goodP_load (P := P) (o := { dst := none, op := .load ty (.tmp t), type := 0, pos := "", after := #[], guard := none }) hR rfl hi (fun _ _ h => h) he
    have hst : (execOp a.eval { dst := none, op := .load ty (.tmp t), type := 0, pos := "", after := #[], guard := none }).run P w = ((Instr.loadAt ty (a.eval (.tmp t))).run P w).andThen fun v w => .ok (.value v) w := by
      simp [execOp]
    rw [hst] at hrun
    have hld : (Instr.loadAt ty (a.eval (.tmp t))).run P w = .ok u w := by
      cases hq : (Instr.loadAt ty (a.eval (.tmp t))).run P w with
      | ok u' w' => rw [hq] at hrun; simp only [Result.andThen_ok, Result.ok.injEq, Next.value.injEq] at hrun; rw [hrun.1, hrun.2]
      | halt => rw [hq] at hrun; simp at hrun
    have hload : (do loadVar ty (← asAddr (a.tmps.getD t undef)) : Sem Value).run P w = .ok u w := by
      have e1 : a.eval (.tmp t) = a.tmps.getD t undef := rfl
      rw [e1] at hld
      cases hv : a.tmps.getD t undef with
      | pointer p =>
        cases p with
        | some ad => rw [hv] at hld; simpa [Instr.loadAt, Instr.sureAddr, asAddr] using hld
        | none => rw [hv] at hld; simp [Instr.loadAt, Instr.sureAddr] at hld
      | _ => rw [hv] at hld; simp [Instr.loadAt, Instr.sureAddr] at hld
    have h' : resV P nt s r fun l => K (v :: l) := h
    obtain ⟨us, l, hK, h1, h2, h3⟩ := resV_run hR h'
    refine ⟨u :: us, _, hK, by simp only [List.mapM_cons, Sem.run_bind, Sem.run_pure, Result.andThen_ok, h1]; simp only [Sem.run_bind] at hload; rw [hload]; simp only [Result.andThen_ok]; rw [h1]; rfl, by simp [h2], fun i x y hx hu => ?_⟩
    cases i with
    | zero =>
      cases hx
      cases hu
      exact hrd
    | succ i => exact h3 i x y (by simpa using hx) (by simpa using hu)

theorem tupA_ok {s : ASt} {E : Env} {w : World} {l : List AV} {us : List Value} (h : us.length = l.length) (hr : ∀ (i : Nat) x u, l[i]? = some x → us[i]? = some u → RdV w E s.H x u) :
    RdV w E s.H (tupA l) (if h : us.toArray.size = 1 then us.toArray[0] else .tuple us.toArray) := by
  by_cases h1 : us.length = 1
  · rw [dif_pos (by simpa using h1)]
    obtain ⟨u, rfl⟩ := List.length_eq_one_iff.1 h1
    obtain ⟨x, rfl⟩ := List.length_eq_one_iff.1 (h ▸ h1)
    exact hr 0 x u rfl rfl
  · rw [dif_neg (by simpa using h1)]
    have : tupA l = .tu l := by
      match l, h1, h with
      | [], _, _ => rfl
      | [x], h1, h => rw [h] at h1; simp at h1
      | x :: y :: l, _, _ => rfl
    rw [this]
    exact .tu _ _ (by simpa using h) (fun i x u hx hu => hr i x u hx (by simpa using hu))

theorem ends_ok {s : ASt} {E : Env} {a : Act} {w : World} {U : Nat → Prop} {fn : Func} {Post : AV → List (Option Ob) → Prop} (hR : RelE nt I U s E a w) (h : EndA P nt np fn.results.toList Post s) :
    ∃ u r out E', (results fn a.tmps).run P w = .ok u w ∧ Post r out ∧ RdV w E' (HpL out) r u ∧ (∀ k ob, HpL out k = some ob → LiveOb w E' (HpL out) k ob) ∧ Rs false out.length r ∧ (∀ ob, some ob ∈ out → RsOb false out.length ob) ∧
      (∀ k x, 1 ≤ k → k ≤ np → I.H k = some x → HpL out k = none ∨ (E'.rho k = I.E.rho k ∧ ∃ y, HpL out k = some y ∧ x.like y)) ∧ (∀ b, b < I.w.heap.size → ¬ Mut I.E b → E'.loc b = I.E.loc b) ∧ (∀ b ℓ, E'.loc b = some ℓ → b < w.heap.size) := by
  obtain ⟨us, l, ⟨g, r, out, hw, hk, hg, hrs, hros, hP⟩, h1, h2, h3⟩ := resV_run hR h
  refine ⟨_, r, out, E.weak g (HpL out), ?_, hP, (tupA_ok h2 h3).weak hk hw, fun k ob hk' => ?_, hrs, hros, fun k x hk1 hk2 hx => ?_, fun b hb hm => ?_, fun b ℓ hb => ?_⟩
  · unfold results
    have : (fn.results.mapM (m := Sem) fun | .tmp t => Pure.pure (a.tmps.getD t undef) | .cell a' t => do loadVar t (← asAddr (a.tmps.getD a' undef))).run P w = .ok us.toArray w := by
      rw [← Array.toArray_toList (xs := fn.results), List.mapM_toArray]
      simp only [Sem.run_map, h1, Result.andThen_ok]
    simp only [Sem.run_bind]
    refine (congrArg (fun r => Result.andThen r _) this).trans ?_
    simp only [Result.andThen_ok, Sem.run_pure]
  · rcases hk.ob k ob hk' with ⟨hg', x, h4, h5⟩ | ⟨hg', ty, sz, rfl⟩
    · exact (hR.live _ x h4).weak hk hg' hk' h5
    · exact .inl ⟨if_pos hg', rfl⟩
  · obtain ⟨h4, h5⟩ := hR.pas k x hx
    rcases hg k hk1 hk2 with h8 | h8
    · exact .inl h8
    · cases hh : HpL out k with
      | none => exact .inl rfl
      | some x' =>
        right
        obtain ⟨hg', y, h9, h10⟩ : g k ≠ 0 ∧ ∃ x, s.H (g k) = some x ∧ WkO g x x' := (hk.ob k x' hh).resolve_right (fun h => by omega)
        rw [h8] at h9
        rcases h5 with h5 | ⟨h5, z, h11, h12⟩
        · rw [h5] at h9; cases h9
        · rw [h11] at h9
          cases h9
          exact ⟨by rw [weak_rho hg', h8]; exact h5, x', rfl, h12.trans h10.like⟩
  · have h4 := hR.old b hb hm
    rw [← h4]
    cases hl : E.loc b with
    | none => exact weak_t0 hl
    | some ℓ =>
      obtain ⟨k, p⟩ := ℓ
      have hk0 : k = 0 := by
        by_cases hk0 : k = 0
        · exact hk0
        · exact absurd ⟨k, p, by rw [← h4, hl], hk0⟩ hm
      subst hk0
      simp [Env.weak, hl]
  · simp only [Env.weak, Option.map_eq_some_iff] at hb
    obtain ⟨ℓ0, h0, _⟩ := hb
    exact hR.locLt b ℓ0 h0

mutual
def mnA (np : Nat) : AV → Bool
  | .sl o _ => Nat.ble o np
  | .pt o _ _ => Nat.ble o np
  | .sv o _ _ => Nat.ble o np
  | .mr o => Nat.ble o np
  | .ag cs => mnL np cs
  | .tu cs => mnL np cs
  | _ => true
def mnL (np : Nat) : List AV → Bool
  | [] => true
  | x :: r => mnA np x && mnL np r
end
def mnO (np : Nat) : Ob → Bool
  | .box _ cs => mnL np cs
  | .rw _ _ _ => true
  | .rx _ _ _ _ _ v => mnA np v
  | .mp _ => true
mutual
theorem mnA_ok {np : Nat} : (x : AV) → mnA np x = true → Mn (fun o => o ≤ np) x
  | .sl o n, h => .sl o n (Nat.le_of_ble_eq_true h)
  | .pt o i j, h => .pt o i j (Nat.le_of_ble_eq_true h)
  | .sv o a n, h => .sv o a n (Nat.le_of_ble_eq_true h)
  | .mr o, h => .mr o (Nat.le_of_ble_eq_true h)
  | .ag cs, h => .ag cs (mnL_ok cs h)
  | .tu cs, h => .tu cs (mnL_ok cs h)
  | .c x, _ => .c x
  | .bw x, _ => .bw x
  | .nul, _ => .nul
  | .any, _ => .any
termination_by structural x => x
theorem mnL_ok {np : Nat} : (l : List AV) → mnL np l = true → ∀ x ∈ l, Mn (fun o => o ≤ np) x
  | [], _, x, hx => by simp at hx
  | y :: r, h, x, hx => by
    simp only [mnL, Bool.and_eq_true] at h
    have h1 := mnA_ok y h.1
    have h2 := mnL_ok r h.2
    rcases List.mem_cons.1 hx with h3 | h3
    · rw [h3]; exact h1
    · exact h2 x h3
termination_by structural l => l
end
theorem mnO_ok {np : Nat} {ob : Ob} (h : mnO np ob = true) : MnOb (fun o => o ≤ np) ob := by
  cases ob with
  | box ty cs => exact mnL_ok cs h
  | rw => trivial
  | rx => exact mnA_ok _ h
  | mp => trivial
def isEnd : Exit → Prop
  | .normal | .ret => True
  | _ => False

def initT : Nat → List AV → Nat → AV
  | _, [] => fun _ => .any
  | k, x :: r => upd (initT (k + 1) r) k x
theorem initT_at : ∀ {l : List AV} {k j : Nat}, initT k l j = if k ≤ j then (l[j - k]?).getD .any else .any
  | [], k, j => by simp [initT]
  | x :: r, k, j => by
    unfold initT
    rw [upd_at, initT_at]
    by_cases h : j = k
    · subst h; simp
    · rw [if_neg h]
      by_cases h2 : k + 1 ≤ j
      · rw [if_pos h2, if_pos (by omega), show j - k = (j - (k + 1)) + 1 by omega]
        rfl
      · rw [if_neg h2, if_neg (by omega)]

/-- A function's contract, by its code. -/
theorem callOk_of (g : Cfg) (hm : P.follows .mixedOrders = true) {f : Nat} {fn : Func} {c : Code} {Hin : List Ob} {args : List AV} {Post : AV → List (Option Ob) → Prop} {rs : List ResultVar} (hf : P.funcs[f]? = some fn) (hb : fn.body = some c) (hnt : fn.ntmps = nt) (hrs : fn.results = rs.toArray) (hname : (fn.name == "runtime.NumGoroutine") = false) (hal : args.length ≤ nt) (hnp : Hin.length = np)
    (hin' : Hin.all (mnO np) = true) (hargs' : args.all (mnA np) = true)
    (h : wpC P nt np g c { t := initT 0 args, H := HpS Hin, c := np + 1 } fun e s' => isEnd e ∧ EndA P nt np rs Post (frz g.en s')) : CallOk P f Hin args Post := by
  have hargs : ∀ x ∈ args, Mn (fun o => o ≤ np) x := fun x hx => mnA_ok x (List.all_eq_true.1 hargs' x hx)
  have hin : ∀ ob ∈ Hin, MnOb (fun o => o ≤ np) ob := fun ob hob => mnO_ok (List.all_eq_true.1 hin' ob hob)
  have hrs' : fn.results.toList = rs := by rw [hrs]
  rw [← hrs'] at h
  refine ⟨by simp [callable, hf, hb, hname], ?_⟩
  intro w E vals hlive hlt hsz hv
  have hR : RelE nt ⟨w, E, HpS Hin⟩ (fun o => o < np + 1) { t := initT 0 args, H := HpS Hin, c := np + 1 } E { tmps := vals ++ Array.replicate (fn.ntmps - vals.size) undef, defers := [] } w := by
    refine ⟨rfl, by simp [hsz, hnt]; omega, fun k u hu => ?_, hlive, hlt, fun _ _ _ => rfl, fun o x hx => ⟨?_, .inr ⟨rfl, x, hx, Ob.like.refl x⟩⟩, by omega, rfl, fun k => ?_, fun o ob ho => ?_, Evo.refl _ _⟩
    · show RdV w E _ (initT 0 args k) u
      rw [initT_at, if_pos (Nat.zero_le _), Nat.sub_zero]
      simp only [Array.getElem?_append] at hu
      split at hu
      · rename_i hk
        have hk' : k < args.length := hsz ▸ hk
        rw [List.getElem?_eq_getElem hk']
        exact hv k _ u (List.getElem?_eq_getElem hk') hu
      · rename_i hk
        rw [List.getElem?_eq_none (by omega)]
        exact .any _
    · simp only [HpS] at hx
      split at hx
      · cases hx
      · have := (List.getElem?_eq_some_iff.1 hx).1
        omega
    · show Mn _ (initT 0 args k)
      rw [initT_at, if_pos (Nat.zero_le _), Nat.sub_zero]
      cases hh : args[k]? with
      | none => exact .any
      | some x => exact (hargs x (List.mem_of_getElem? hh)).mono fun o ho => by omega
    · have ho' := ho
      simp only [HpS] at ho'
      split at ho'
      · cases ho'
      · have := (List.getElem?_eq_some_iff.1 ho').1
        exact ⟨by omega, (hin ob (List.mem_of_getElem? ho')).mono fun o ho => by omega⟩
  have hnp' : ∀ o x, (Ini.mk w E (HpS Hin)).H o = some x → 1 ≤ o ∧ o ≤ np := fun o x hx => by
    simp only [HpS] at hx
    split at hx
    · cases hx
    · have := (List.getElem?_eq_some_iff.1 hx).1
      omega
  refine calls_of_wp hf hb (wpC_sound hm hnp' c hR h (fun e s' E' a' w' hK hR' => ?_))
  obtain ⟨he, hE⟩ := hK
  have he : e = .normal ∨ e = .ret := by cases e <;> simp_all [isEnd]
  obtain ⟨Ef, hRf⟩ := hR'.frzL g.en
  obtain ⟨u, r, out, E2, h1, h2, h3, h4, h5, h6, h7, h8, h9⟩ := ends_ok hRf hE
  rcases he with rfl | rfl
  · exact ⟨hR'.defers, u, h1, u, r, out, E2, rfl, h2, h3, h4, h5, h6, fun k x hx => h7 k x (hnp' k x hx).1 (hnp' k x hx).2 hx, hR'.evo, h8, h9⟩
  · exact ⟨hR'.defers, u, h1, u, r, out, E2, rfl, h2, h3, h4, h5, h6, fun k x hx => h7 k x (hnp' k x hx).1 (hnp' k x hx).2 hx, hR'.evo, h8, h9⟩
end

end Go.Proofs.YtnnmpdanfeejbaaGreat.Abs

/- The abstract machine: states told by lists, and how a state is told less exactly. -/
namespace Go.Proofs.YtnnmpdanfeejbaaGreat.Abs
open Go Go.RowKit
set_option linter.unusedVariables false
set_option linter.unusedSimpArgs false

/-- Slots by a list. -/
def tS : List (Nat × AV) → Nat → AV
  | [] => fun _ => .any
  | (k, v) :: r => upd (tS r) k v
def hS : List (Nat × Ob) → Hp
  | [] => fun _ => none
  | (k, v) :: r => upd (hS r) k (some v)
/-- An old number of each new one. -/
def gS : List (Nat × Nat) → Nat → Nat
  | [] => fun o => o
  | (k, v) :: r => upd (gS r) k v
def sS (t : List (Nat × AV)) (h : List (Nat × Ob)) (c : Nat) : ASt := ⟨tS t, hS h, c⟩

mutual
def wkA (g : Nat → Nat) : AV → AV → Prop
  | x, .any => True
  | x, .c y => (match x with | .c x => x = y ∨ Sim x y | .nul => ∃ k, y = .row k [] | _ => False)
  | x, .bw y => x = .bw y
  | x, .nul => x = .nul
  | x, .sl o n => (match x with | .sl o' n' => g o = o' ∧ o' ≠ 0 ∧ n' = n | .nul => g o = 0 ∧ n = 0 | _ => False)
  | x, .pt o i j => (match x with | .pt o' i' j' => g o = o' ∧ o' ≠ 0 ∧ i' = i ∧ j' = j | _ => False)
  | x, .sv o a n => (match x with | .sv o' a' n' => g o = o' ∧ o' ≠ 0 ∧ a' = a ∧ n' = n | _ => False)
  | x, .mr o => (match x with | .mr o' => g o = o' ∧ o' ≠ 0 | _ => False)
  | x, .ag cs => (match x with | .ag cs' => wkL g cs' cs | _ => False)
  | x, .tu cs => (match x with | .tu cs' => wkL g cs' cs | _ => False)
def wkL (g : Nat → Nat) : List AV → List AV → Prop
  | [], [] => True
  | x :: r, y :: q => wkA g x y ∧ wkL g r q
  | _, _ => False
end
mutual
theorem wkA_ok {g : Nat → Nat} : (x y : AV) → wkA g x y → Wk g x y
  | x, .any, _ => .any x
  | x, .c y, h => by
    unfold wkA at h
    split at h
    · rcases h with h | h
      · rw [h]; exact .same y
      · exact .c _ _ h
    · obtain ⟨k, rfl⟩ := h; exact .nulR k
    · exact h.elim
  | x, .bw y, h => by unfold wkA at h; rw [h]; exact .bw y
  | x, .nul, h => by unfold wkA at h; rw [h]; exact .nul
  | x, .sl o n, h => by
    unfold wkA at h
    split at h
    · obtain ⟨rfl, h0, rfl⟩ := h; exact .sl _ _ h0
    · obtain ⟨h0, rfl⟩ := h; exact .ph _ h0
    · exact h.elim
  | x, .pt o i j, h => by
    unfold wkA at h
    split at h
    · obtain ⟨rfl, h0, rfl, rfl⟩ := h; exact .pt _ _ _ h0
    · exact h.elim
  | x, .sv o a n, h => by
    unfold wkA at h
    split at h
    · obtain ⟨rfl, h0, rfl, rfl⟩ := h; exact .sv _ _ _ h0
    · exact h.elim
  | x, .mr o, h => by
    unfold wkA at h
    split at h
    · obtain ⟨rfl, h0⟩ := h; exact .mr _ h0
    · exact h.elim
  | x, .ag cs, h => by
    unfold wkA at h
    split at h
    · rename_i cs'; exact .ag cs' cs (wkL_ok cs' cs h).1 (wkL_ok cs' cs h).2
    · exact h.elim
  | x, .tu cs, h => by
    unfold wkA at h
    split at h
    · rename_i cs'; exact .tu cs' cs (wkL_ok cs' cs h).1 (wkL_ok cs' cs h).2
    · exact h.elim
termination_by structural x y => y
theorem wkL_ok {g : Nat → Nat} : (l m : List AV) → wkL g l m → l.length = m.length ∧ ∀ (i : Nat) c c', l[i]? = some c → m[i]? = some c' → Wk g c c'
  | [], [], _ => ⟨rfl, fun i c c' h => by simp at h⟩
  | [], y :: q, h => by unfold wkL at h; exact h.elim
  | x :: r, [], h => by unfold wkL at h; exact h.elim
  | x :: r, y :: q, h => by
    unfold wkL at h
    have h1 := wkA_ok x y h.1
    have h2 := wkL_ok r q h.2
    refine ⟨by simp [h2.1], fun i c c' hc hc' => ?_⟩
    cases i with
    | zero => cases hc; cases hc'; exact h1
    | succ i => exact h2.2 i c c' (by simpa using hc) (by simpa using hc')
termination_by structural l m => m
end

def wkO (g : Nat → Nat) : Option Ob → Ob → Prop
  | some (.box ty cs), .box ty' cs' => ty = ty' ∧ wkL g cs cs'
  | some (.rw ty sz es), .rw ty' sz' es' => ty = ty' ∧ sz = sz' ∧ es = es'
  | some (.mp m), .mp m' => m = m'
  | _, _ => False
theorem wkO_ok {g : Nat → Nat} {x : Option Ob} {y : Ob} (h : wkO g x y) : ∃ x', x = some x' ∧ WkO g x' y := by
  unfold wkO at h
  split at h
  · obtain ⟨rfl, h⟩ := h; exact ⟨_, rfl, rfl, wkL_ok _ _ h⟩
  · obtain ⟨rfl, rfl, rfl⟩ := h; exact ⟨_, rfl, rfl, rfl, rfl⟩
  · subst h; exact ⟨_, rfl, rfl⟩
  · exact h.elim

def phO : Ob → Prop
  | .rw _ _ es => es = []
  | .box _ _ => False
  | .rx _ _ _ _ _ _ => False
  | .mp _ => False
def wkP (g : Nat → Nat) (H : Hp) (k : Nat) (v : Ob) : Prop := if g k = 0 then phO v else wkO g (H (g k)) v
theorem wkP_ok {g : Nat → Nat} {H : Hp} {k : Nat} {v : Ob} (h : wkP g H k v) : (g k ≠ 0 ∧ ∃ x, H (g k) = some x ∧ WkO g x v) ∨ (g k = 0 ∧ ∃ ty sz, v = .rw ty sz []) := by
  unfold wkP at h
  split at h
  · rename_i h0
    cases v with
    | box => exact h.elim
    | rx => exact h.elim
    | mp => exact h.elim
    | rw ty sz es => exact .inr ⟨h0, ty, sz, by rw [show es = [] from h]⟩
  · rename_i h0
    exact .inl ⟨h0, wkO_ok h⟩
def slotsP (g : Nat → Nat) (t : Nat → AV) : List (Nat × AV) → Prop
  | [] => True
  | (k, v) :: r => wkA g (t k) v ∧ slotsP g t r
def objsP (g : Nat → Nat) (H : Hp) : List (Nat × Ob) → Prop
  | [] => True
  | (k, v) :: r => wkP g H k v ∧ objsP g H r
/-- The numbers are all below c, each object's once, none is 0. -/
def smallB (np c : Nat) (g : List (Nat × Nat)) (t : List (Nat × AV)) (h : List (Nat × Ob)) : Bool :=
  Nat.blt np c && (t.all fun x => mnA (c - 1) x.2) && (h.all fun x => Nat.blt 0 x.1 && Nat.blt x.1 c && mnO (c - 1) x.2) && decide (((h.map fun x => gS g x.1).filter (0 < ·)).Nodup) && (h.all fun x => np < x.1 || gS g x.1 == x.1)

theorem tS_cases : ∀ {l : List (Nat × AV)} {k : Nat}, tS l k = .any ∨ ∃ v, (k, v) ∈ l ∧ tS l k = v
  | [], k => .inl rfl
  | (j, v) :: r, k => by
    unfold tS
    by_cases h : k = j
    · subst h; exact .inr ⟨v, List.mem_cons_self .., upd_same _ _ _⟩
    · rw [upd_ne _ _ h]
      rcases tS_cases (l := r) (k := k) with h1 | ⟨u, h1, h2⟩
      · exact .inl h1
      · exact .inr ⟨u, List.mem_cons_of_mem _ h1, h2⟩
theorem hS_cases : ∀ {l : List (Nat × Ob)} {k : Nat} {ob : Ob}, hS l k = some ob → (k, ob) ∈ l
  | [], k, ob, h => by cases h
  | (j, v) :: r, k, ob, h => by
    unfold hS at h
    by_cases hk : k = j
    · subst hk; rw [upd_same] at h; cases h; exact List.mem_cons_self ..
    · rw [upd_ne _ _ hk] at h; exact List.mem_cons_of_mem _ (hS_cases h)
theorem slotsP_mem {g : Nat → Nat} {t : Nat → AV} : ∀ {l : List (Nat × AV)}, slotsP g t l → ∀ {k v}, (k, v) ∈ l → wkA g (t k) v
  | (j, u) :: r, h, k, v, hm => by
    unfold slotsP at h
    rcases List.mem_cons.1 hm with h1 | h1
    · cases h1; exact h.1
    · exact slotsP_mem h.2 h1
theorem objsP_mem {g : Nat → Nat} {H : Hp} : ∀ {l : List (Nat × Ob)}, objsP g H l → ∀ {k v}, (k, v) ∈ l → wkP g H k v
  | (j, u) :: r, h, k, v, hm => by
    unfold objsP at h
    rcases List.mem_cons.1 hm with h1 | h1
    · cases h1; exact h.1
    · exact objsP_mem h.2 h1
theorem nodup_filter_inj {α : Type} {f : α → Nat} : ∀ {l : List α}, ((l.map f).filter (0 < ·)).Nodup → ∀ {a b}, a ∈ l → b ∈ l → 0 < f a → f a = f b → a = b
  | x :: r, h, a, b, ha, hb, h0, e => by
    rw [List.map_cons, List.filter_cons] at h
    have hin : ∀ {y}, y ∈ r → 0 < f y → f y ∈ (r.map f).filter (0 < ·) := fun hy h => List.mem_filter.2 ⟨List.mem_map.2 ⟨_, hy, rfl⟩, by simpa using h⟩
    have hr : ((r.map f).filter (0 < ·)).Nodup := by
      split at h
      · exact (List.nodup_cons.1 h).2
      · exact h
    have hx : ∀ {y}, y ∈ r → 0 < f x → f y ≠ f x := fun hy h0 e => by
      rw [if_pos (by simpa using h0)] at h
      exact (List.nodup_cons.1 h).1 (e ▸ hin hy (by omega))
    rcases List.mem_cons.1 ha with ha | ha <;> rcases List.mem_cons.1 hb with hb | hb
    · rw [ha, hb]
    · exact absurd (by rw [← ha, e]) (hx hb (by rw [← ha]; exact h0))
    · exact absurd (by rw [← hb, ← e]) (hx ha (by rw [← hb, ← e]; exact h0))
    · exact nodup_filter_inj hr ha hb h0 e

theorem weak_of {np : Nat} {s : ASt} (g : List (Nat × Nat)) {t : List (Nat × AV)} {h : List (Nat × Ob)} {c : Nat} (hb : smallB np c g t h = true) (ht : slotsP (gS g) s.t t) (hh : objsP (gS g) s.H h) : Weak np s (sS t h c) := by
  unfold smallB at hb
  simp only [Bool.and_eq_true, List.all_eq_true, Bool.or_eq_true, decide_eq_true_eq, beq_iff_eq] at hb
  obtain ⟨⟨⟨⟨h1, h2⟩, h3⟩, h4⟩, h5⟩ := hb
  have hc : np < c := by simpa using h1
  refine ⟨⟨gS g, fun k => ?_, ⟨fun o x' ho => ?_, fun o o' ho ho' hz e => ?_⟩, fun o ho1 ho2 => ?_⟩, hc, ?_, fun k => ?_, fun o ob ho => ?_⟩
  · show Wk _ _ (tS t k)
    rcases tS_cases (l := t) (k := k) with h | ⟨v, h, e⟩
    · rw [h]; exact .any _
    · rw [e]; exact wkA_ok _ _ (slotsP_mem ht h)
  · exact wkP_ok (objsP_mem hh (hS_cases ho))
  · show o = o'
    cases hx : (sS t h c).H o with
    | none => exact absurd hx ho
    | some x =>
      cases hx' : (sS t h c).H o' with
      | none => exact absurd hx' ho'
      | some x' =>
        have := nodup_filter_inj h4 (hS_cases hx) (hS_cases hx') (Nat.pos_of_ne_zero hz) e
        exact (Prod.mk.inj this).1
  · cases hx : (sS t h c).H o with
    | none => exact .inl rfl
    | some x =>
      right
      rcases h5 _ (hS_cases hx) with h | h
      · omega
      · exact h
  · cases hx : (sS t h c).H 0 with
    | none => rfl
    | some x =>
      have := (h3 _ (hS_cases hx)).1.1
      simp at this
  · show Mn _ (tS t k)
    rcases tS_cases (l := t) (k := k) with h | ⟨v, h, e⟩
    · rw [h]; exact .any
    · rw [e]
      exact (mnA_ok v (h2 _ h)).mono (fun o ho => by show o < c; omega)
  · have := h3 _ (hS_cases ho)
    have h6 : o < c := by simpa using this.1.2
    exact ⟨h6, (mnO_ok this.2).mono (fun o ho => by show o < c; omega)⟩

/-- How a round ends, or the ways ahead of a meeting. -/
def lopC (N : ASt → Prop) (K : Exit → ASt → Prop) : Exit → ASt → Prop := fun e s' => match e with
  | .normal => N s'
  | e => K e s'
/-- A loop, by a family of states. -/
theorem loopQ_of {ι : Type} {np : Nat} {body : ASt → (Exit → ASt → Prop) → Prop} {s : ASt} {K : Exit → ASt → Prop} (t : ι → List (Nat × AV)) (h : ι → List (Nat × Ob)) (c : Nat) (m : ι → Nat) (J : ι → Prop) (x0 : ι) (h0 : J x0) (g0 : List (Nat × Nat))
    (hb0 : smallB np c g0 (t x0) (h x0) = true) (ht0 : slotsP (gS g0) s.t (t x0)) (hh0 : objsP (gS g0) s.H (h x0))
    (hb : ∀ x, J x → ∀ N : ASt → Prop, (∀ s' y g, J y → m y < m x → smallB np c g (t y) (h y) = true → slotsP (gS g) s'.t (t y) → objsP (gS g) s'.H (h y) → N s') → body (sS (t x) (h x) c) (lopC N K)) : LoopQ np body s K := by
  refine ⟨fun s n => ∃ x, J x ∧ s = sS (t x) (h x) c ∧ n = m x, ⟨_, _, weak_of g0 hb0 ht0 hh0, x0, h0, rfl, rfl⟩, ?_⟩
  rintro s n ⟨x, hJ, rfl, rfl⟩
  exact hb x hJ _ (fun s' y g h1 h2 h3 h4 h5 => ⟨_, _, weak_of g h3 h4 h5, ⟨y, h1, rfl, rfl⟩, h2⟩)
/-- Where ways meet, by a family of states. -/
theorem joinQ_of {ι : Type} {np : Nat} {x y : ASt → (Exit → ASt → Prop) → Prop} {s : ASt} {K : Exit → ASt → Prop} (t : ι → List (Nat × AV)) (h : ι → List (Nat × Ob)) (c : Nat) (J : ι → Prop)
    (hx : ∀ N : ASt → Prop, (∀ s' i g, J i → smallB np c g (t i) (h i) = true → slotsP (gS g) s'.t (t i) → objsP (gS g) s'.H (h i) → N s') → x s (lopC N K)) (hy : ∀ i, J i → y (sS (t i) (h i) c) K) : JoinQ np x y s K :=
  ⟨fun s => ∃ i, J i ∧ s = sS (t i) (h i) c, hx _ (fun s' i g h1 h2 h3 h4 => ⟨_, weak_of g h2 h3 h4, i, h1, rfl⟩), fun s' ⟨i, hi, e⟩ => e ▸ hy i hi⟩

mutual
def rsB (m : Nat) : AV → Bool
  | .sl o _ => Nat.ble 1 o && Nat.ble o m
  | .pt o _ _ => Nat.ble 1 o && Nat.ble o m
  | .sv o _ _ => Nat.ble 1 o && Nat.ble o m
  | .mr o => Nat.ble 1 o && Nat.ble o m
  | .ag cs => rsBL m cs
  | .tu cs => rsBL m cs
  | .bw _ => false
  | .c _ => true
  | .nul => true
  | .any => true
def rsBL (m : Nat) : List AV → Bool
  | [] => true
  | x :: r => rsB m x && rsBL m r
end
mutual
theorem rsB_ok {m : Nat} : (x : AV) → rsB m x = true → Rs false m x
  | .sl o n, h => by
    simp only [rsB, Bool.and_eq_true] at h
    exact .sl o n (Nat.le_of_ble_eq_true h.1) (Nat.le_of_ble_eq_true h.2)
  | .pt o i j, h => by
    simp only [rsB, Bool.and_eq_true] at h
    exact .pt o i j (Nat.le_of_ble_eq_true h.1) (Nat.le_of_ble_eq_true h.2)
  | .sv o a n, h => by
    simp only [rsB, Bool.and_eq_true] at h
    exact .sv o a n (Nat.le_of_ble_eq_true h.1) (Nat.le_of_ble_eq_true h.2)
  | .mr o, h => by
    simp only [rsB, Bool.and_eq_true] at h
    exact .mr o (Nat.le_of_ble_eq_true h.1) (Nat.le_of_ble_eq_true h.2)
  | .ag cs, h => .ag cs (rsBL_ok cs h)
  | .tu cs, h => .tu cs (rsBL_ok cs h)
  | .bw _, h => by simp [rsB] at h
  | .c x, _ => .c x rfl
  | .nul, _ => .nul
  | .any, _ => .any
termination_by structural x => x
theorem rsBL_ok {m : Nat} : (l : List AV) → rsBL m l = true → ∀ x ∈ l, Rs false m x
  | [], _, x, hx => by simp at hx
  | y :: r, h, x, hx => by
    simp only [rsBL, Bool.and_eq_true] at h
    have h1 := rsB_ok y h.1
    have h2 := rsBL_ok r h.2
    rcases List.mem_cons.1 hx with h3 | h3
    · rw [h3]; exact h1
    · exact h2 x h3
termination_by structural l => l
end
def rsBO (m : Nat) : Option Ob → Bool
  | some (.box _ cs) => rsBL m cs
  | some (.rx _ _ _ _ _ _) => false
  | _ => true
def outP (g : Nat → Nat) (H : Hp) : Nat → List (Option Ob) → Prop
  | _, [] => True
  | k, none :: r => outP g H (k + 1) r
  | k, some v :: r => wkP g H k v ∧ outP g H (k + 1) r
def liveIds : Nat → List (Option Ob) → List Nat
  | _, [] => []
  | k, none :: r => liveIds (k + 1) r
  | k, some _ :: r => k :: liveIds (k + 1) r
def endB (np : Nat) (g : List (Nat × Nat)) (r : AV) (out : List (Option Ob)) : Bool :=
  rsB out.length r && out.all (rsBO out.length) && decide ((((liveIds 1 out).map (gS g)).filter (0 < ·)).Nodup) && (liveIds 1 out).all fun o => np < o || gS g o == o
theorem outP_get {g : Nat → Nat} {H : Hp} : ∀ {out : List (Option Ob)} {k j : Nat} {v : Ob}, outP g H k out → out[j]? = some (some v) → wkP g H (k + j) v ∧ k + j ∈ liveIds k out
  | [], _, _, _, _, h => by simp at h
  | x :: r, k, j, v, h, hj => by
    cases x with
    | none =>
      cases j with
      | zero => simp at hj
      | succ j =>
        have := outP_get (k := k + 1) h (by simpa using hj)
        rw [show k + 1 + j = k + (j + 1) by omega] at this
        exact this
    | some y =>
      cases j with
      | zero =>
        simp at hj
        subst hj
        exact ⟨h.1, List.mem_cons_self ..⟩
      | succ j =>
        have := outP_get (k := k + 1) h.2 (by simpa using hj)
        rw [show k + 1 + j = k + (j + 1) by omega] at this
        exact ⟨this.1, List.mem_cons_of_mem _ this.2⟩
/-- What a function hands back. -/
theorem endQ_of {np : Nat} {H : Hp} {x : AV} {Post : AV → List (Option Ob) → Prop} (g : List (Nat × Nat)) (r : AV) (out : List (Option Ob)) (hb : endB np g r out = true) (hr : wkA (gS g) x r) (hh : outP (gS g) H 1 out) (hP : Post r out) : EndQ np H x Post := by
  unfold endB at hb
  simp only [Bool.and_eq_true, List.all_eq_true, Bool.or_eq_true, decide_eq_true_eq, beq_iff_eq] at hb
  obtain ⟨⟨⟨h1, h2⟩, h3⟩, h4⟩ := hb
  have hget : ∀ o x', HpL out o = some x' → wkP (gS g) H o x' ∧ o ∈ liveIds 1 out := fun o x' ho => by
    unfold HpL at ho
    split at ho
    · cases ho
    · rename_i ho0
      have hj : out[o - 1]? = some (some x') := by
        cases hh : out[o - 1]? with
        | none => rw [hh] at ho; cases ho
        | some y => rw [hh] at ho; simp at ho; rw [ho]
      have := outP_get hh hj
      rwa [show 1 + (o - 1) = o by omega] at this
  refine ⟨gS g, r, out, wkA_ok _ _ hr, ⟨fun o x' ho => wkP_ok (hget o x' ho).1, fun o o' ho ho' hz e => ?_⟩, fun o ho1 ho2 => ?_, rsB_ok r h1, fun ob hob => ?_, hP⟩
  · cases hx : HpL out o with
    | none => exact absurd hx ho
    | some y =>
      cases hx' : HpL out o' with
      | none => exact absurd hx' ho'
      | some y' => exact nodup_filter_inj h3 (hget o y hx).2 (hget o' y' hx').2 (Nat.pos_of_ne_zero hz) e
  · cases hx : HpL out o with
    | none => exact .inl rfl
    | some y =>
      rcases h4 o (hget o y hx).2 with h | h
      · omega
      · exact .inr h
  · have := h2 _ hob
    cases ob with
    | box ty cs => exact rsBL_ok cs this
    | rx => exact absurd this (by simp [rsBO])
    | mp => trivial
    | rw => exact .inl rfl

theorem fill_get {α : Type} (f : α → List CV) (z : List CV) (l : List α) (i : Nat) (h : i < l.length) : ((l.take i).map f ++ List.replicate (l.length - i) z)[i]? = some z := by
  rw [List.getElem?_append_right (by simp; omega), List.getElem?_replicate, if_pos (by simp; omega)]
theorem w64 (n : Int) (h : -9223372036854775808 ≤ n ∧ n ≤ 9223372036854775807) : IntKind.i64.wrap n = n := by rw [IntKind.wrap_i64]; omega
theorem w8 (n : Int) : IntKind.u8.wrap n = n % 256 := IntKind.wrap_u8 n
theorem nat0 : ((0 : Nat) : Int) = 0 := by rfl
theorem sim_v (a b : Value) : (CV.v a = CV.v b ∨ Sim (CV.v a) (CV.v b)) = (a = b) := by
  refine propext ⟨fun h => ?_, fun h => .inl (by rw [h])⟩
  rcases h with h | h
  · exact CV.v.inj h
  · cases h; rfl
theorem fill_set {α : Type} (f : α → List CV) (z : List CV) (l : List α) (i : Nat) (x : α) (h : l[i]? = some x) : ((l.take i).map f ++ List.replicate (l.length - i) z).set i (f x) = (l.take (i + 1)).map f ++ List.replicate (l.length - (i + 1)) z := by
  obtain ⟨hi, rfl⟩ := List.getElem?_eq_some_iff.1 h
  rw [show l.length - i = (l.length - (i + 1)) + 1 by omega, List.replicate_succ, List.set_append, if_neg (by simp; omega)]
  rw [show i - ((l.take i).map f).length = 0 by simp; omega, List.set_cons_zero, List.take_add_one, h, List.map_append]
  simp only [Option.toList_some, List.map_cons, List.map_nil, List.append_assoc, List.cons_append, List.nil_append]
/-! What comes later, each under a name: so a rewriting looks only at what comes now. -/
section
variable (P : Program) (nt np : Nat) (g : Cfg)
def seqC (y : Code) (K : Exit → ASt → Prop) : Exit → ASt → Prop := fun e s' => match e with
  | .normal => wpC P nt np g y s' K
  | e => K e s'
def blkC (id : Nat) (K : Exit → ASt → Prop) : Exit → ASt → Prop := fun e s' => match e with
  | .exit j => if j = id then K .normal s' else K (.exit j) s'
  | e => K e s'
def endC (rs : List ResultVar) (Post : AV → List (Option Ob) → Prop) : Exit → ASt → Prop := fun e s' => isEnd e ∧ EndA P nt np rs Post (frz g.en s')
def endR (n : Nat) (K : Exit → ASt → Prop) : ASt → Prop := fun s' => K .normal { s' with c := s'.c + 8 * n }
def seqK (d : Nat → Option Nat) (p : Nat) (r : List Oper) (K : ASt → Prop) : ASt → Prop := fun s' => seqR P nt d p r s' K
def stK (nt : Nat) (d : Option Nat) (s : ASt) (K : ASt → Prop) : AV → List (Nat × Option Ob) → Prop := fun v objs => K { t := putT nt s.t d v, H := updL s.H objs, c := s.c }
def cndK (d : Nat) (x y : Code) (s : ASt) (K : Exit → ASt → Prop) : Bool → Prop := fun b => brB b (wpC P nt np g x { s with t := upd s.t d (.c (.v (.bool true))) } K) (wpC P nt np g y { s with t := upd s.t d (.c (.v (.bool false))) } K)
def skpK (nt : Nat) (dst : Option Nat) (s : ASt) (K : ASt → Prop) : Unit → Prop := fun _ => K { s with t := putT nt s.t dst (.tu []) }
theorem skpK_app {nt : Nat} {dst : Option Nat} {t : Nat → AV} {H : Hp} {c : Nat} {K : ASt → Prop} : skpK nt dst ⟨t, H, c⟩ K () = K ⟨putT nt t dst (.tu []), H, c⟩ := (rfl)
def grdK (p d : Nat) (o : Oper) (s : ASt) (K : ASt → Prop) (want : Bool) : Bool → Prop := fun b => match want with
  | true => brB b (stp P nt p o { s with t := upd s.t d (.c (.v (.bool true))) } K) (K { s with t := putT nt (upd s.t d (.c (.v (.bool false)))) o.dst (.tu []) })
  | false => brB b (K { s with t := putT nt (upd s.t d (.c (.v (.bool true)))) o.dst (.tu []) }) (stp P nt p o { s with t := upd s.t d (.c (.v (.bool false))) } K)
def grdQ (p : Nat) (o : Oper) (s : ASt) (K : ASt → Prop) (want : Bool) : Option Nat → Prop
  | none => False
  | some d => d < nt ∧ guardK (s.t d) (grdK P nt p d o s K want) (skpK nt o.dst s K)
variable {P nt np g}
theorem seqC_normal {y : Code} {K : Exit → ASt → Prop} {s : ASt} : seqC P nt np g y K .normal s = wpC P nt np g y s K := (rfl)
theorem seqC_exit {y : Code} {K : Exit → ASt → Prop} {s : ASt} {j : Nat} : seqC P nt np g y K (.exit j) s = K (.exit j) s := (rfl)
theorem seqC_ret {y : Code} {K : Exit → ASt → Prop} {s : ASt} : seqC P nt np g y K .ret s = K .ret s := (rfl)
theorem blkC_normal {id : Nat} {K : Exit → ASt → Prop} {s : ASt} : blkC id K .normal s = K .normal s := (rfl)
theorem blkC_exit {id : Nat} {K : Exit → ASt → Prop} {s : ASt} {j : Nat} : blkC id K (.exit j) s = if j = id then K .normal s else K (.exit j) s := (rfl)
theorem blkC_ret {id : Nat} {K : Exit → ASt → Prop} {s : ASt} : blkC id K .ret s = K .ret s := (rfl)
theorem lopC_normal {N : ASt → Prop} {K : Exit → ASt → Prop} {s : ASt} : lopC N K .normal s = N s := (rfl)
theorem lopC_exit {N : ASt → Prop} {K : Exit → ASt → Prop} {s : ASt} {j : Nat} : lopC N K (.exit j) s = K (.exit j) s := (rfl)
theorem lopC_ret {N : ASt → Prop} {K : Exit → ASt → Prop} {s : ASt} : lopC N K .ret s = K .ret s := (rfl)
theorem endC_normal {rs : List ResultVar} {Post : AV → List (Option Ob) → Prop} {s : ASt} : endC P nt np g rs Post .normal s = EndA P nt np rs Post (frz g.en s) := by simp [endC, isEnd]
theorem endC_ret {rs : List ResultVar} {Post : AV → List (Option Ob) → Prop} {s : ASt} : endC P nt np g rs Post .ret s = EndA P nt np rs Post (frz g.en s) := by simp [endC, isEnd]
theorem endR_app {n : Nat} {K : Exit → ASt → Prop} {t : Nat → AV} {H : Hp} {c : Nat} : endR n K ⟨t, H, c⟩ = K .normal ⟨t, H, c + 8 * n⟩ := (rfl)
theorem seqK_app {d : Nat → Option Nat} {p : Nat} {r : List Oper} {K : ASt → Prop} {s : ASt} : seqK P nt d p r K s = seqR P nt d p r s K := (rfl)
theorem stK_app {d : Option Nat} {t : Nat → AV} {H : Hp} {c : Nat} {K : ASt → Prop} {v : AV} {o : List (Nat × Option Ob)} : stK nt d ⟨t, H, c⟩ K v o = K ⟨putT nt t d v, updL H o, c⟩ := (rfl)
theorem cndK_app {d : Nat} {x y : Code} {t : Nat → AV} {H : Hp} {c : Nat} {K : Exit → ASt → Prop} {b : Bool} : cndK P nt np g d x y ⟨t, H, c⟩ K b = brB b (wpC P nt np g x ⟨upd t d (.c (.v (.bool true))), H, c⟩ K) (wpC P nt np g y ⟨upd t d (.c (.v (.bool false))), H, c⟩ K) := (rfl)
theorem wpC_seq {x y : Code} {s : ASt} {K : Exit → ASt → Prop} : wpC P nt np g (.seq x y) s K = if g.joins y then JoinQ np (wpC P nt np g x) (wpC P nt np g y) s K else wpC P nt np g x s (seqC P nt np g y K) := (rfl)
theorem wpC_skip {s : ASt} {K : Exit → ASt → Prop} : wpC P nt np g .skip s K = K .normal s := (rfl)
def regK (P : Program) (nt : Nat) (g : Cfg) (id : Nat) (l : List Oper) (K : Exit → ASt → Prop) (s : ASt) : Prop := optK (g.fs.lookup id) (fun q => q ≤ l.toArray.size ∧ FuseQ P nt q l.toArray s (endR l.toArray.size K)) (seqR P nt (dstOf l.toArray) 0 l s (endR l.length K))
def drwQ (P : Program) (nt : Nat) (l : List Oper) (K : Exit → ASt → Prop) (s : ASt) : Prop := DrawQ P nt l.toArray s (endR l.length K)
theorem wpC_region {id : Nat} {l : List Oper} {s : ASt} {K : Exit → ASt → Prop} : wpC P nt np g (.region id l.toArray false) s K = opK (g.op.lookup id) (frzC (g.fz.lookup id) s) (regK P nt g id l K) := by
  unfold wpC
  rfl
theorem wpC_draw {id : Nat} {l : List Oper} {s : ASt} {K : Exit → ASt → Prop} : wpC P nt np g (.region id l.toArray true) s K = opK (g.op.lookup id) (frzC (g.fz.lookup id) s) (drwQ P nt l K) := by
  unfold wpC
  rfl
theorem regK_app {id : Nat} {l : List Oper} {t : Nat → AV} {H : Hp} {c : Nat} {K : Exit → ASt → Prop} : regK P nt g id l K ⟨t, H, c⟩ = optK (g.fs.lookup id) (fun q => q ≤ l.toArray.size ∧ FuseQ P nt q l.toArray ⟨t, H, c⟩ (endR l.toArray.size K)) (seqR P nt (dstOf l.toArray) 0 l ⟨t, H, c⟩ (endR l.length K)) := (rfl)
theorem drwQ_app {l : List Oper} {t : Nat → AV} {H : Hp} {c : Nat} {K : Exit → ASt → Prop} : drwQ P nt l K ⟨t, H, c⟩ = DrawQ P nt l.toArray ⟨t, H, c⟩ (endR l.length K) := (rfl)
/-- One cell's own row stands apart. -/
theorem opnQ_of {o : Nat} {t : Nat → AV} {H : Hp} {c : Nat} {K : ASt → Prop} (i j ety esz : Nat) {ty sz : Nat} {es : List (List CV)} {e : List CV} {es' : List (List CV)} (h1 : H o = some (.rw ty sz es)) (h2 : es[i]? = some e) (h3 : e[j]? = some (.row true es')) (h4 : ∀ c ∈ es', c.length = esz)
    (hK : K ⟨fun k => killA (t k), upd (upd (fun k => (H k).map killO) o (some (.rx ty sz (es.set i (e.set j .hole)) i j (.sl c es'.length)))) c (some (.rw ety esz es')), c + 8⟩) : OpnQ o ⟨t, H, c⟩ K := ⟨i, j, ty, sz, es, e, es', ety, esz, h1, h2, h3, h4, hK⟩
theorem wpC_cond {d : Nat} {x y : Code} {s : ASt} {K : Exit → ASt → Prop} : wpC P nt np g (.cond (.tmp d) x y) s K = (d < nt ∧ boolK (s.t d) (cndK P nt np g d x y s K)) := (rfl)
theorem wpC_block {id : Nat} {c : Code} {s : ASt} {K : Exit → ASt → Prop} : wpC P nt np g (.block id c) s K = wpC P nt np g c s (blkC id K) := (rfl)
theorem wpC_loop {c : Code} {s : ASt} {K : Exit → ASt → Prop} : wpC P nt np g (.loop c) s K = LoopQ np (wpC P nt np g c) s K := (rfl)
theorem wpC_exit {j : Nat} {s : ASt} {K : Exit → ASt → Prop} : wpC P nt np g (.exit j) s K = K (.exit j) s := (rfl)
theorem wpC_ret {s : ASt} {K : Exit → ASt → Prop} : wpC P nt np g .ret s K = K .ret s := (rfl)
variable {d : Nat → Option Nat} {p : Nat} {s : ASt} {K : ASt → Prop} {dst : Option Nat} {ty : Nat} {pos : String} {af : Array Edge} {t : Nat → AV} {H : Hp} {c : Nat}
theorem seqR_nil : seqR P nt d p [] s K = K s := (rfl)
theorem seqR_cons {o : Oper} {r : List Oper} : seqR P nt d p (o :: r) s K = gstp P nt d p o s (seqK P nt d (p + 1) r K) := (rfl)
theorem gstp_none {op : Op} : gstp P nt d p ⟨dst, op, ty, pos, af, none⟩ s K = stp P nt p ⟨dst, op, ty, pos, af, none⟩ s K := (rfl)
theorem gstp_some {op : Op} {j : Nat} {want : Bool} : gstp P nt d p ⟨dst, op, ty, pos, af, some (j, want)⟩ s K = grdQ P nt p ⟨dst, op, ty, pos, af, none⟩ s K want (d j) := by
  unfold gstp grdQ
  simp only
  cases d j with
  | none => rfl
  | some q => rfl
theorem grdQ_some {o : Oper} {want : Bool} {q : Nat} : grdQ P nt p o s K want (some q) = (q < nt ∧ guardK (s.t q) (grdK P nt p q o s K want) (skpK nt o.dst s K)) := (rfl)
theorem grdK_true {op : Op} {q : Nat} {b : Bool} : grdK P nt p q ⟨dst, op, ty, pos, af, none⟩ ⟨t, H, c⟩ K true b = brB b (stp P nt p ⟨dst, op, ty, pos, af, none⟩ ⟨upd t q (.c (.v (.bool true))), H, c⟩ K) (K ⟨putT nt (upd t q (.c (.v (.bool false)))) dst (.tu []), H, c⟩) := (rfl)
theorem grdK_false {op : Op} {q : Nat} {b : Bool} : grdK P nt p q ⟨dst, op, ty, pos, af, none⟩ ⟨t, H, c⟩ K false b = brB b (K ⟨putT nt (upd t q (.c (.v (.bool true)))) dst (.tu []), H, c⟩) (stp P nt p ⟨dst, op, ty, pos, af, none⟩ ⟨upd t q (.c (.v (.bool false))), H, c⟩ K) := (rfl)
theorem stp_call {f : Nat} {args : Array Operand} {ts : Array Nat} : stp P nt p ⟨dst, .call ⟨.value (.func f), args, ts⟩, ty, pos, af, none⟩ ⟨t, H, c⟩ K = Callq P nt f (args.toList.map (getA nt t)) dst (c + 8 * p) ⟨t, H, c⟩ K := (rfl)
theorem stp_builtin {b : Builtin} {args : Array Operand} {ts : Array Nat} : stp P nt p ⟨dst, .call ⟨.builtin b, args, ts⟩, ty, pos, af, none⟩ ⟨t, H, c⟩ K = bindK (evOp P (c + 8 * p) H (getA nt t) (.call ⟨.builtin b, args, ts⟩)) (stK nt dst ⟨t, H, c⟩ K) := (rfl)
theorem stp_move {x : Operand} : stp P nt p ⟨dst, .move x, ty, pos, af, none⟩ ⟨t, H, c⟩ K = K ⟨putT nt t dst (getA nt t x), H, c⟩ := (rfl)
theorem stp_assign {x : Operand} : stp P nt p ⟨dst, .assign x, ty, pos, af, none⟩ ⟨t, H, c⟩ K = K ⟨putT nt t dst (getA nt t x), H, c⟩ := (rfl)
theorem stp_pick {x y z : Operand} : stp P nt p ⟨dst, .pick x y z, ty, pos, af, none⟩ ⟨t, H, c⟩ K = bindK (evOp P (c + 8 * p) H (getA nt t) (.pick x y z)) (stK nt dst ⟨t, H, c⟩ K) := (rfl)
theorem stp_alloc {e : Nat} : stp P nt p ⟨dst, .alloc e, ty, pos, af, none⟩ ⟨t, H, c⟩ K = bindK (evOp P (c + 8 * p) H (getA nt t) (.alloc e)) (stK nt dst ⟨t, H, c⟩ K) := (rfl)
theorem stp_box {e : Nat} {x : Operand} : stp P nt p ⟨dst, .box e x, ty, pos, af, none⟩ ⟨t, H, c⟩ K = bindK (evOp P (c + 8 * p) H (getA nt t) (.box e x)) (stK nt dst ⟨t, H, c⟩ K) := (rfl)
theorem stp_load {e : Nat} {x : Operand} : stp P nt p ⟨dst, .load e x, ty, pos, af, none⟩ ⟨t, H, c⟩ K = bindK (evOp P (c + 8 * p) H (getA nt t) (.load e x)) (stK nt dst ⟨t, H, c⟩ K) := (rfl)
theorem stp_store {e : Nat} {x y : Operand} : stp P nt p ⟨dst, .store e x y, ty, pos, af, none⟩ ⟨t, H, c⟩ K = bindK (evOp P (c + 8 * p) H (getA nt t) (.store e x y)) (stK nt dst ⟨t, H, c⟩ K) := (rfl)
theorem stp_fieldAddr {e f : Nat} {x : Operand} : stp P nt p ⟨dst, .fieldAddr e x f, ty, pos, af, none⟩ ⟨t, H, c⟩ K = bindK (evOp P (c + 8 * p) H (getA nt t) (.fieldAddr e x f)) (stK nt dst ⟨t, H, c⟩ K) := (rfl)
theorem stp_indexAddr {e : Nat} {x y : Operand} : stp P nt p ⟨dst, .indexAddr e x y, ty, pos, af, none⟩ ⟨t, H, c⟩ K = bindK (evOp P (c + 8 * p) H (getA nt t) (.indexAddr e x y)) (stK nt dst ⟨t, H, c⟩ K) := (rfl)
theorem stp_nilCheck {x : Operand} : stp P nt p ⟨dst, .nilCheck x, ty, pos, af, none⟩ ⟨t, H, c⟩ K = bindK (evOp P (c + 8 * p) H (getA nt t) (.nilCheck x)) (stK nt dst ⟨t, H, c⟩ K) := (rfl)
theorem stp_binOp {b : BinOp} {e e2 : Nat} {x y : Operand} : stp P nt p ⟨dst, .binOp b e x y e2, ty, pos, af, none⟩ ⟨t, H, c⟩ K = bindK (evOp P (c + 8 * p) H (getA nt t) (.binOp b e x y e2)) (stK nt dst ⟨t, H, c⟩ K) := (rfl)
theorem stp_unOp {b : UnOp} {e : Nat} {x : Operand} : stp P nt p ⟨dst, .unOp b e x, ty, pos, af, none⟩ ⟨t, H, c⟩ K = bindK (evOp P (c + 8 * p) H (getA nt t) (.unOp b e x)) (stK nt dst ⟨t, H, c⟩ K) := (rfl)
theorem stp_convert {e e2 : Nat} {x : Operand} : stp P nt p ⟨dst, .convert e e2 x, ty, pos, af, none⟩ ⟨t, H, c⟩ K = bindK (evOp P (c + 8 * p) H (getA nt t) (.convert e e2 x)) (stK nt dst ⟨t, H, c⟩ K) := (rfl)
theorem stp_index {e : Nat} {x y : Operand} : stp P nt p ⟨dst, .index e x y, ty, pos, af, none⟩ ⟨t, H, c⟩ K = bindK (evOp P (c + 8 * p) H (getA nt t) (.index e x y)) (stK nt dst ⟨t, H, c⟩ K) := (rfl)
theorem stp_slice {e : Nat} {x : Operand} {lo hi mx : Option Operand} : stp P nt p ⟨dst, .slice e x lo hi mx, ty, pos, af, none⟩ ⟨t, H, c⟩ K = bindK (evOp P (c + 8 * p) H (getA nt t) (.slice e x lo hi mx)) (stK nt dst ⟨t, H, c⟩ K) := (rfl)
theorem stp_makeSlice {e : Nat} {x y : Operand} : stp P nt p ⟨dst, .makeSlice e x y, ty, pos, af, none⟩ ⟨t, H, c⟩ K = bindK (evOp P (c + 8 * p) H (getA nt t) (.makeSlice e x y)) (stK nt dst ⟨t, H, c⟩ K) := (rfl)
theorem stp_build {e : Nat} {ps : Array (Nat × Operand)} : stp P nt p ⟨dst, .build e ps, ty, pos, af, none⟩ ⟨t, H, c⟩ K = bindK (evOp P (c + 8 * p) H (getA nt t) (.build e ps)) (stK nt dst ⟨t, H, c⟩ K) := (rfl)
theorem stp_buildSlice {e n : Nat} {ps : Array (Nat × Operand)} : stp P nt p ⟨dst, .buildSlice e n ps, ty, pos, af, none⟩ ⟨t, H, c⟩ K = bindK (evOp P (c + 8 * p) H (getA nt t) (.buildSlice e n ps)) (stK nt dst ⟨t, H, c⟩ K) := (rfl)
theorem stp_makeMap {e : Nat} {r : Option Operand} : stp P nt p ⟨dst, .makeMap e r, ty, pos, af, none⟩ ⟨t, H, c⟩ K = bindK (evOp P (c + 8 * p) H (getA nt t) (.makeMap e r)) (stK nt dst ⟨t, H, c⟩ K) := (rfl)
theorem stp_lookup {e : Nat} {x y : Operand} {ok : Bool} : stp P nt p ⟨dst, .lookup e x y ok, ty, pos, af, none⟩ ⟨t, H, c⟩ K = bindK (evOp P (c + 8 * p) H (getA nt t) (.lookup e x y ok)) (stK nt dst ⟨t, H, c⟩ K) := (rfl)
theorem stp_mapUpdate {e : Nat} {x y z : Operand} : stp P nt p ⟨dst, .mapUpdate e x y z, ty, pos, af, none⟩ ⟨t, H, c⟩ K = bindK (evOp P (c + 8 * p) H (getA nt t) (.mapUpdate e x y z)) (stK nt dst ⟨t, H, c⟩ K) := (rfl)
theorem stp_callT {k : Nat} {args : Array Operand} {ts : Array Nat} : stp P nt p ⟨dst, .call ⟨.value (.tmp k), args, ts⟩, ty, pos, af, none⟩ ⟨t, H, c⟩ K = funK (getA nt t (.tmp k)) (fun f => Callq P nt f (args.toList.map (getA nt t)) dst (c + 8 * p) ⟨t, H, c⟩ K) := (rfl)
theorem stp_extract {k : Nat} {x : Operand} : stp P nt p ⟨dst, .extract x k, ty, pos, af, none⟩ ⟨t, H, c⟩ K = bindK (evOp P (c + 8 * p) H (getA nt t) (.extract x k)) (stK nt dst ⟨t, H, c⟩ K) := (rfl)

/-! Regions that draw. -/
def drwK (P : Program) (nt : Nat) (pc : Bool) (ops : Array Oper) (r : List (Nat × Oper)) (acc : List Fp) (K : ASt → Prop) : Fp → ASt → Prop := fun fp s' => drawR P nt pc ops r (fp :: acc) s' K
def stDK (nt p : Nat) (pc : Bool) (ops : Array Oper) (dst : Option Nat) (vs : List AV) (acc : List Fp) (s : ASt) (K : Fp → ASt → Prop) : AV → List (Nat × Option Ob) → Prop := fun v objs =>
  Ck pc ops acc (detFp p vs v objs) ∧ K (detFp p vs v objs) { t := putT nt s.t dst v, H := updL s.H objs, c := s.c }
def stepX (P : Program) (nt p : Nat) (pc : Bool) (ops : Array Oper) (dst : Option Nat) (acc : List Fp) (s : ASt) (K : Fp → ASt → Prop) (op : Op) : Prop :=
  bindK (evOp P (s.c + 8 * p) (res (refsL (op.operands.toList.map (getA nt s.t))) s.H) (getA nt s.t) op) (stDK nt p pc ops dst (op.operands.toList.map (getA nt s.t)) acc s K)
def skDK (nt p : Nat) (dst : Option Nat) (s : ASt) (K : Fp → ASt → Prop) : Unit → Prop := fun _ => K (skipFp p) { s with t := putT nt s.t dst (.tu []) }
theorem skDK_app {nt p : Nat} {dst : Option Nat} {t : Nat → AV} {H : Hp} {c : Nat} {K : Fp → ASt → Prop} : skDK nt p dst ⟨t, H, c⟩ K () = K (skipFp p) ⟨putT nt t dst (.tu []), H, c⟩ := (rfl)
def grDK (P : Program) (nt p : Nat) (pc : Bool) (ops : Array Oper) (d : Nat) (o : Oper) (acc : List Fp) (s : ASt) (K : Fp → ASt → Prop) (want : Bool) : Bool → Prop := fun b => match want with
  | true => brB b (stepD P nt p pc ops o acc { s with t := upd s.t d (.c (.v (.bool true))) } K) (K (skipFp p) { s with t := putT nt (upd s.t d (.c (.v (.bool false)))) o.dst (.tu []) })
  | false => brB b (K (skipFp p) { s with t := putT nt (upd s.t d (.c (.v (.bool true)))) o.dst (.tu []) }) (stepD P nt p pc ops o acc { s with t := upd s.t d (.c (.v (.bool false))) } K)
def grDQ (P : Program) (nt p : Nat) (pc : Bool) (ops : Array Oper) (o : Oper) (acc : List Fp) (s : ASt) (K : Fp → ASt → Prop) (want : Bool) : Option Nat → Prop
  | none => False
  | some d => d < nt ∧ guardK (s.t d) (grDK P nt p pc ops d o acc s K want) (skDK nt p o.dst s K)
variable {pc : Bool} {ops : Array Oper} {acc : List Fp} {KD : Fp → ASt → Prop} {gd : Option (Nat × Bool)}
theorem numbered_nil {k : Nat} : numbered k [] = [] := (rfl)
theorem numbered_cons {k : Nat} {o : Oper} {r : List Oper} : numbered k (o :: r) = (k, o) :: numbered (k + 1) r := (rfl)
theorem drawR_nil : drawR P nt pc ops [] acc s K = K s := (rfl)
theorem drawR_cons {o : Oper} {r : List (Nat × Oper)} : drawR P nt pc ops ((p, o) :: r) acc s K = gstepD P nt p pc ops o acc s (drwK P nt pc ops r acc K) := (rfl)
theorem drwK_app {r : List (Nat × Oper)} {fp : Fp} : drwK P nt pc ops r acc K fp s = drawR P nt pc ops r (fp :: acc) s K := (rfl)
theorem stDK_app {vs : List AV} {v : AV} {o : List (Nat × Option Ob)} : stDK nt p pc ops dst vs acc ⟨t, H, c⟩ KD v o = (Ck pc ops acc (detFp p vs v o) ∧ KD (detFp p vs v o) ⟨putT nt t dst v, updL H o, c⟩) := (rfl)
theorem gstepD_none {op : Op} : gstepD P nt p pc ops ⟨dst, op, ty, pos, af, none⟩ acc s KD = stepD P nt p pc ops ⟨dst, op, ty, pos, af, none⟩ acc s KD := (rfl)
theorem gstepD_some {op : Op} {j : Nat} {want : Bool} : gstepD P nt p pc ops ⟨dst, op, ty, pos, af, some (j, want)⟩ acc s KD = grDQ P nt p pc ops ⟨dst, op, ty, pos, af, some (j, want)⟩ acc s KD want (dstOf ops j) := by
  unfold gstepD grDQ
  simp only
  cases dstOf ops j with
  | none => rfl
  | some q => rfl
theorem grDQ_some {o : Oper} {want : Bool} {q : Nat} : grDQ P nt p pc ops o acc s KD want (some q) = (q < nt ∧ guardK (s.t q) (grDK P nt p pc ops q o acc s KD want) (skDK nt p o.dst s KD)) := (rfl)
theorem grDK_true {op : Op} {q : Nat} {b : Bool} : grDK P nt p pc ops q ⟨dst, op, ty, pos, af, gd⟩ acc ⟨t, H, c⟩ KD true b = brB b (stepD P nt p pc ops ⟨dst, op, ty, pos, af, gd⟩ acc ⟨upd t q (.c (.v (.bool true))), H, c⟩ KD) (KD (skipFp p) ⟨putT nt (upd t q (.c (.v (.bool false)))) dst (.tu []), H, c⟩) := (rfl)
theorem grDK_false {op : Op} {q : Nat} {b : Bool} : grDK P nt p pc ops q ⟨dst, op, ty, pos, af, gd⟩ acc ⟨t, H, c⟩ KD false b = brB b (KD (skipFp p) ⟨putT nt (upd t q (.c (.v (.bool true)))) dst (.tu []), H, c⟩) (stepD P nt p pc ops ⟨dst, op, ty, pos, af, gd⟩ acc ⟨upd t q (.c (.v (.bool false))), H, c⟩ KD) := (rfl)
theorem stepD_pick {x y z : Operand} : stepD P nt p pc ops ⟨dst, .pick x y z, ty, pos, af, gd⟩ acc ⟨t, H, c⟩ KD = stepX P nt p pc ops dst acc ⟨t, H, c⟩ KD (.pick x y z) := (rfl)
theorem stepD_alloc {e : Nat} : stepD P nt p pc ops ⟨dst, .alloc e, ty, pos, af, gd⟩ acc ⟨t, H, c⟩ KD = stepX P nt p pc ops dst acc ⟨t, H, c⟩ KD (.alloc e) := (rfl)
theorem stepD_box {e : Nat} {x : Operand} : stepD P nt p pc ops ⟨dst, .box e x, ty, pos, af, gd⟩ acc ⟨t, H, c⟩ KD = stepX P nt p pc ops dst acc ⟨t, H, c⟩ KD (.box e x) := (rfl)
theorem stepD_load {e : Nat} {x : Operand} : stepD P nt p pc ops ⟨dst, .load e x, ty, pos, af, gd⟩ acc ⟨t, H, c⟩ KD = stepX P nt p pc ops dst acc ⟨t, H, c⟩ KD (.load e x) := (rfl)
theorem stepD_store {e : Nat} {x y : Operand} : stepD P nt p pc ops ⟨dst, .store e x y, ty, pos, af, gd⟩ acc ⟨t, H, c⟩ KD = stepX P nt p pc ops dst acc ⟨t, H, c⟩ KD (.store e x y) := (rfl)
theorem stepD_fieldAddr {e f : Nat} {x : Operand} : stepD P nt p pc ops ⟨dst, .fieldAddr e x f, ty, pos, af, gd⟩ acc ⟨t, H, c⟩ KD = stepX P nt p pc ops dst acc ⟨t, H, c⟩ KD (.fieldAddr e x f) := (rfl)
theorem stepD_indexAddr {e : Nat} {x y : Operand} : stepD P nt p pc ops ⟨dst, .indexAddr e x y, ty, pos, af, gd⟩ acc ⟨t, H, c⟩ KD = stepX P nt p pc ops dst acc ⟨t, H, c⟩ KD (.indexAddr e x y) := (rfl)
theorem stepD_nilCheck {x : Operand} : stepD P nt p pc ops ⟨dst, .nilCheck x, ty, pos, af, gd⟩ acc ⟨t, H, c⟩ KD = stepX P nt p pc ops dst acc ⟨t, H, c⟩ KD (.nilCheck x) := (rfl)
theorem stepD_binOp {b : BinOp} {e e2 : Nat} {x y : Operand} : stepD P nt p pc ops ⟨dst, .binOp b e x y e2, ty, pos, af, gd⟩ acc ⟨t, H, c⟩ KD = stepX P nt p pc ops dst acc ⟨t, H, c⟩ KD (.binOp b e x y e2) := (rfl)
theorem stepD_unOp {b : UnOp} {e : Nat} {x : Operand} : stepD P nt p pc ops ⟨dst, .unOp b e x, ty, pos, af, gd⟩ acc ⟨t, H, c⟩ KD = stepX P nt p pc ops dst acc ⟨t, H, c⟩ KD (.unOp b e x) := (rfl)
theorem stepD_convert {e e2 : Nat} {x : Operand} : stepD P nt p pc ops ⟨dst, .convert e e2 x, ty, pos, af, gd⟩ acc ⟨t, H, c⟩ KD = stepX P nt p pc ops dst acc ⟨t, H, c⟩ KD (.convert e e2 x) := (rfl)
theorem stepD_index {e : Nat} {x y : Operand} : stepD P nt p pc ops ⟨dst, .index e x y, ty, pos, af, gd⟩ acc ⟨t, H, c⟩ KD = stepX P nt p pc ops dst acc ⟨t, H, c⟩ KD (.index e x y) := (rfl)
theorem stepD_slice {e : Nat} {x : Operand} {lo hi mx : Option Operand} : stepD P nt p pc ops ⟨dst, .slice e x lo hi mx, ty, pos, af, gd⟩ acc ⟨t, H, c⟩ KD = stepX P nt p pc ops dst acc ⟨t, H, c⟩ KD (.slice e x lo hi mx) := (rfl)
theorem stepD_makeSlice {e : Nat} {x y : Operand} : stepD P nt p pc ops ⟨dst, .makeSlice e x y, ty, pos, af, gd⟩ acc ⟨t, H, c⟩ KD = stepX P nt p pc ops dst acc ⟨t, H, c⟩ KD (.makeSlice e x y) := (rfl)
theorem stepD_build {e : Nat} {ps : Array (Nat × Operand)} : stepD P nt p pc ops ⟨dst, .build e ps, ty, pos, af, gd⟩ acc ⟨t, H, c⟩ KD = stepX P nt p pc ops dst acc ⟨t, H, c⟩ KD (.build e ps) := (rfl)
theorem stepD_buildSlice {e n : Nat} {ps : Array (Nat × Operand)} : stepD P nt p pc ops ⟨dst, .buildSlice e n ps, ty, pos, af, gd⟩ acc ⟨t, H, c⟩ KD = stepX P nt p pc ops dst acc ⟨t, H, c⟩ KD (.buildSlice e n ps) := (rfl)
theorem stepD_extract {k : Nat} {x : Operand} : stepD P nt p pc ops ⟨dst, .extract x k, ty, pos, af, gd⟩ acc ⟨t, H, c⟩ KD = stepX P nt p pc ops dst acc ⟨t, H, c⟩ KD (.extract x k) := (rfl)
theorem stepD_builtin {b : Builtin} {args : Array Operand} {ts : Array Nat} : stepD P nt p pc ops ⟨dst, .call ⟨.builtin b, args, ts⟩, ty, pos, af, gd⟩ acc ⟨t, H, c⟩ KD = stepX P nt p pc ops dst acc ⟨t, H, c⟩ KD (.call ⟨.builtin b, args, ts⟩) := (rfl)
theorem stepD_moveF {x : Operand} : stepD P nt p false ops ⟨dst, .move x, ty, pos, af, gd⟩ acc ⟨t, H, c⟩ KD = stepX P nt p false ops dst acc ⟨t, H, c⟩ KD (.move x) := (rfl)
theorem stepD_moveT {x : Operand} : stepD P nt p true ops ⟨dst, .move x, ty, pos, af, gd⟩ acc ⟨t, H, c⟩ KD = bindK (evOp P (c + 8 * p) (res [] H) (getA nt t) (.move x)) (stDK nt p true ops dst [] acc ⟨t, H, c⟩ KD) := (rfl)
theorem stepD_assign {x : Operand} : stepD P nt p pc ops ⟨dst, .assign x, ty, pos, af, gd⟩ acc ⟨t, H, c⟩ KD = stepX P nt p pc ops dst acc ⟨t, H, c⟩ KD (.assign x) := (rfl)
theorem stepD_call {f : Nat} {args : Array Operand} {ts : Array Nat} : stepD P nt p pc ops ⟨dst, .call ⟨.value (.func f), args, ts⟩, ty, pos, af, gd⟩ acc ⟨t, H, c⟩ KD = CallD P nt f (args.toList.map (getA nt t)) p (c + 8 * p) ⟨t, H, c⟩ (fun fp => Ck pc ops acc fp) (fun fp s' => KD fp (s' dst)) := (rfl)
theorem stepX_eq {op : Op} : stepX P nt p pc ops dst acc ⟨t, H, c⟩ KD op = bindK (evOp P (c + 8 * p) (res (refsL (op.operands.toList.map (getA nt t))) H) (getA nt t) op) (stDK nt p pc ops dst (op.operands.toList.map (getA nt t)) acc ⟨t, H, c⟩ KD) := (rfl)
theorem res_at {refs : List Nat} {o : Nat} : res refs H o = if refs.contains o then H o else none := (rfl)
theorem Ck_eq {fp : Fp} : Ck pc ops acc fp = (((!pc || fp.nb) && (!fp.pas || pc) && chkB ops acc fp) = true) := (rfl)
theorem chkB_nil {fp : Fp} : chkB ops [] fp = true := (rfl)
theorem chkB_cons {fp x : Fp} : chkB ops (x :: acc) fp = ((okPair fp x || ordered ops fp.p x.p) && chkB ops acc fp) := by
  unfold chkB
  rw [List.all_cons, Bool.or_comm]
theorem disj_nil {b : List Nat} : disj [] b = true := (rfl)
theorem disj_nil_r {a : List Nat} : disj a [] = true := by simp [disj]
theorem drawQ_of (pc : Bool) {s : ASt} (hf : fastB ops = true) (hn : pc = true → NoB s) (h : drawR P nt pc ops (numbered 0 ops.toList) [] s K) : DrawQ P nt ops s K := ⟨hf, pc, hn, h⟩
theorem callOk_z (g : Cfg) (hm : P.follows .mixedOrders = true) {f : Nat} {fn : Func} {c : Code} {Hin : List Ob} {args : List AV} {Post : AV → List (Option Ob) → Prop} {rs : List ResultVar} (hf : P.funcs[f]? = some fn) (hb : fn.body = some c) (hnt : fn.ntmps = nt) (hrs : fn.results = rs.toArray) (hname : (fn.name == "runtime.NumGoroutine") = false) (hal : args.length ≤ nt) (hnp : Hin.length = np)
    (hin' : Hin.all (mnO np) = true) (hargs' : args.all (mnA np) = true) (h : wpC P nt np g c ⟨initT 0 args, HpS Hin, np + 1⟩ (endC P nt np g rs Post)) : CallOk P f Hin args Post :=
  callOk_of g hm hf hb hnt hrs hname hal hnp hin' hargs' h
end

/-! Bytes. -/
def eB (l : List UInt8) : List (List CV) := l.map fun b => [.v (.int .u8 b.toNat)]
theorem eB_length (l : List UInt8) : (eB l).length = l.length := by simp [eB]
theorem eB_get (l : List UInt8) (i : Nat) : (eB l)[i]? = (l[i]?).map fun b => [.v (.int .u8 b.toNat)] := by simp [eB]
theorem eB_some {l : List UInt8} {i : Nat} {b : UInt8} (h : l[i]? = some b) : (eB l)[i]? = some [.v (.int .u8 b.toNat)] := by rw [eB_get, h]; rfl
end Go.Proofs.YtnnmpdanfeejbaaGreat.Abs

/- The abstract machine: calls, by contracts. -/
namespace Go.Proofs.YtnnmpdanfeejbaaGreat.Abs
open Go Go.RowKit
set_option linter.unusedVariables false
set_option linter.unusedSimpArgs false

mutual
/-- How an argument is seen, told by a computation. -/
def viA (bor : Bool) (H : Hp) (ps : List Nat) : AV → AV → Prop
  | _, .any => True
  | x, .c y => (match x with
    | .c x => x = y ∨ Sim x y
    | .bw x => bor = true ∧ ps = [] ∧ Sim x y
    | .nul => ∃ k, y = .row k []
    | .sl o n => bor = true ∧ o ∉ ps ∧ (match H o with | some (.rw _ _ es) => n = es.length ∧ Sim (.row true es) y | _ => False)
    | .sv o a n => bor = true ∧ o ∉ ps ∧ (match H o with | some (.rw _ _ es) => a + n ≤ es.length ∧ 0 < n ∧ Sim (.row false ((es.take (a + n)).drop a)) y | _ => False)
    | .pt o i j => (∃ ty sz es e e', bor = true ∧ o ∉ ps ∧ H o = some (.rw ty sz es) ∧ es[i]? = some e ∧ Sim (.ptr e j) (.ptr e' j) ∧ y = .ptr e' j) ∨ ∃ ty cs cs', i = 0 ∧ bor = true ∧ o ∉ ps ∧ H o = some (.box ty cs) ∧ y = .ptr cs' j ∧ cs.length = cs'.length ∧ ∀ (i : Nat) c c', cs[i]? = some c → cs'[i]? = some c' → View bor H ps c (.c c')
    | _ => False)
  | x, .nul => x = .nul
  | x, .sl k n => (match x with | .sl o m => 1 ≤ k ∧ ps[k - 1]? = some o ∧ m = n | _ => False)
  | x, .pt k i j => (match x with | .pt o i' j' => 1 ≤ k ∧ ps[k - 1]? = some o ∧ i' = i ∧ j' = j | _ => False)
  | x, .sv k a n => (match x with | .sv o a' n' => 1 ≤ k ∧ ps[k - 1]? = some o ∧ a' = a ∧ n' = n | _ => False)
  | _, .mr _ => False
  | x, .ag cs => (match x with | .ag cs' => viL bor H ps cs' cs | _ => False)
  | _, .bw _ => False
  | _, .tu _ => False
def viL (bor : Bool) (H : Hp) (ps : List Nat) : List AV → List AV → Prop
  | [], [] => True
  | x :: r, y :: q => viA bor H ps x y ∧ viL bor H ps r q
  | _, _ => False
end
mutual
theorem viA_ok {bor : Bool} {H : Hp} {ps : List Nat} : (x y : AV) → viA bor H ps x y → View bor H ps x y
  | x, .any, _ => .any x
  | x, .c y, h => by
    unfold viA at h
    split at h
    · rcases h with h | h
      · rw [h]; exact .same y
      · exact .c _ _ h
    · exact .bw _ _ h.1 h.2.1 h.2.2
    · obtain ⟨k, rfl⟩ := h; exact .nulR k
    · obtain ⟨h1, h2, h3⟩ := h
      split at h3
      · rename_i hH; exact .slB _ _ _ _ _ _ h1 h2 hH h3.1 h3.2
      · exact h3.elim
    · obtain ⟨h1, h2, h3⟩ := h
      split at h3
      · rename_i hH; exact .svB _ _ _ _ _ _ _ h1 h2 hH h3.1 h3.2.1 h3.2.2
      · exact h3.elim
    · rcases h with ⟨ty, sz, es, e, e', h1, h2, h3, h4, h5, rfl⟩ | ⟨ty, cs, cs', rfl, h1, h2, h3, rfl, h4, h5⟩
      · exact .ptE _ _ _ ty sz es e e' h1 h2 h3 h4 h5
      · exact .ptB _ _ ty cs cs' h1 h2 h3 h4 h5
    · exact h.elim
  | x, .nul, h => by unfold viA at h; rw [h]; exact .nul
  | x, .sl k n, h => by
    unfold viA at h
    split at h
    · obtain ⟨h1, h2, rfl⟩ := h
      obtain ⟨k, rfl⟩ : ∃ m, k = m + 1 := ⟨k - 1, by omega⟩
      exact .slP _ _ k h2
    · exact h.elim
  | x, .sv k a n, h => by
    unfold viA at h
    split at h
    · obtain ⟨h1, h2, rfl, rfl⟩ := h
      obtain ⟨k, rfl⟩ : ∃ m, k = m + 1 := ⟨k - 1, by omega⟩
      exact .svP _ _ _ k h2
    · exact h.elim
  | x, .mr k, h => by unfold viA at h; exact h.elim
  | x, .pt k i j, h => by
    unfold viA at h
    split at h
    · obtain ⟨h1, h2, rfl, rfl⟩ := h
      obtain ⟨k, rfl⟩ : ∃ m, k = m + 1 := ⟨k - 1, by omega⟩
      exact .ptP _ _ _ k h2
    · exact h.elim
  | x, .ag cs, h => by
    unfold viA at h
    split at h
    · rename_i cs'; exact .ag cs' cs (viL_ok cs' cs h).1 (viL_ok cs' cs h).2
    · exact h.elim
  | x, .bw _, h => by unfold viA at h; exact h.elim
  | x, .tu _, h => by unfold viA at h; exact h.elim
termination_by structural x y => y
theorem viL_ok {bor : Bool} {H : Hp} {ps : List Nat} : (l m : List AV) → viL bor H ps l m → l.length = m.length ∧ ∀ (i : Nat) c c', l[i]? = some c → m[i]? = some c' → View bor H ps c c'
  | [], [], _ => ⟨rfl, fun i c c' h => by simp at h⟩
  | [], y :: q, h => by unfold viL at h; exact h.elim
  | x :: r, [], h => by unfold viL at h; exact h.elim
  | x :: r, y :: q, h => by
    unfold viL at h
    have h1 := viA_ok x y h.1
    have h2 := viL_ok r q h.2
    refine ⟨by simp [h2.1], fun i c c' hc hc' => ?_⟩
    cases i with
    | zero => cases hc; cases hc'; exact h1
    | succ i => exact h2.2 i c c' (by simpa using hc) (by simpa using hc')
termination_by structural l m => m
end
def viO (bor : Bool) (H : Hp) (ps : List Nat) : Option Ob → Ob → Prop
  | some (.box ty cs), .box ty' cs' => ty = ty' ∧ viL bor H ps cs cs'
  | some (.rw ty sz es), .rw ty' sz' es' => ty = ty' ∧ sz = sz' ∧ es = es'
  | _, _ => False
def viH (bor : Bool) (H : Hp) (ps : List Nat) : List Nat → List Ob → Prop
  | [], [] => True
  | o :: r, x :: q => viO bor H ps (H o) x ∧ viH bor H ps r q
  | _, _ => False
theorem viH_ok {bor : Bool} {H : Hp} {ps : List Nat} : ∀ {l : List Nat} {m : List Ob}, viH bor H ps l m → m.length = l.length ∧ ∀ (k o : Nat), l[k]? = some o → ∃ ob ob', H o = some ob ∧ m[k]? = some ob' ∧ ViewO bor H ps ob ob'
  | [], [], _ => ⟨rfl, fun k o h => by simp at h⟩
  | [], _ :: _, h => h.elim
  | _ :: _, [], h => h.elim
  | o :: r, x :: q, h => by
    have h2 := viH_ok h.2
    refine ⟨by simp [h2.1], fun k o' hk => ?_⟩
    cases k with
    | zero =>
      cases hk
      have h1 := h.1
      unfold viO at h1
      split at h1
      · rename_i hh
        obtain ⟨rfl, h1⟩ := h1
        exact ⟨_, _, hh, rfl, rfl, (viL_ok _ _ h1).1, (viL_ok _ _ h1).2⟩
      · rename_i hh
        obtain ⟨rfl, rfl, rfl⟩ := h1
        exact ⟨_, _, hh, rfl, rfl, rfl, rfl⟩
      · exact h1.elim
    | succ k => exact h2.2 k o' (by simpa using hk)
/-- A call by a contract. -/
theorem callq_of {P : Program} {nt f : Nat} {args : List AV} {d : Option Nat} {id : Nat} {s : ASt} {K : ASt → Prop} (bor : Bool) (ps : List Nat) {Hin : List Ob} {args' : List AV} {Post : AV → List (Option Ob) → Prop} (h : CallOk P f Hin args' Post) (hn : decide ps.Nodup = true)
    (ho : viH bor s.H ps ps Hin) (hv : viL bor s.H ps args args') (hK : ∀ r out, Post r out → ps.length ≤ out.length ∧ out.length ≤ ps.length + 8 ∧ (bor = true → Rs true out.length r ∧ ∀ ob, some ob ∈ out → RsOb true out.length ob) ∧ K (after nt s ps id d r out)) : Callq P nt f args d id s K :=
  ⟨bor, ps, Hin, args', Post, h, by simpa using hn, (viH_ok ho).1, (viH_ok ho).2, (viL_ok _ _ hv).1, (viL_ok _ _ hv).2, hK⟩
/-- A call by a contract in a region that draws. -/
theorem calld_of {P : Program} {nt f : Nat} {args : List AV} {p id : Nat} {s : ASt} {C : Fp → Prop} {K : Fp → (Option Nat → ASt) → Prop} (used : List Nat) (bor : Bool) (ps : List Nat) {Hin : List Ob} {args' : List AV} {Post : AV → List (Option Ob) → Prop} (h : CallOk P f Hin args' Post) (hn : decide ps.Nodup = true)
    (ho : viH bor (res used s.H) ps ps Hin) (hv : viL bor (res used s.H) ps args args') (hC : C ⟨p, used ++ ps, ps ++ (List.range 8).map (id + ·), true, !ps.isEmpty, true⟩) (hx : ∃ r out, Post r out)
    (hK : ∀ r out, Post r out → ps.length ≤ out.length ∧ out.length ≤ ps.length + 8 ∧ (bor = true → Rs true out.length r ∧ ∀ ob, some ob ∈ out → RsOb true out.length ob) ∧ K ⟨p, used ++ ps, ps ++ (List.range 8).map (id + ·), true, !ps.isEmpty, true⟩ (fun d => after0 nt s ps id d r out)) : CallD P nt f args p id s C K :=
  ⟨used, bor, ps, Hin, args', Post, h, by simpa using hn, (viH_ok ho).1, (viH_ok ho).2, (viL_ok _ _ hv).1, (viL_ok _ _ hv).2, hC, hx, hK⟩
theorem after0_eq {nt : Nat} {t : Nat → AV} {H : Hp} {c : Nat} {ps : List Nat} {id : Nat} {d : Option Nat} {r : AV} {out : List (Option Ob)} : after0 nt ⟨t, H, c⟩ ps id d r out = ⟨putT nt t d (renA (rn ps id) r), updL H (callObjs ps id 0 out), c⟩ := (rfl)
/-- The parts of a struct's literal, field by field. -/
def pickF (fs : List (Nat × Nat)) : List (Nat × AV) → Option (List (Nat × Nat × AV))
  | [] => some []
  | (k, x) :: r => (fs[k]?).bind fun f => (pickF fs r).bind fun l => some ((f.1, f.2, x) :: l)
theorem pickF_eq (fs : List (Nat × Nat)) : ∀ ps : List (Nat × AV), (ps.mapM fun p => (fs[p.1]?).map fun f => (f.1, f.2, p.2)) = pickF fs ps
  | [] => rfl
  | (k, x) :: r => by
    rw [List.mapM_cons, pickF_eq fs r, pickF]
    cases fs[k]? <;> simp
theorem pickF_nil {fs : List (Nat × Nat)} : pickF fs [] = some [] := (rfl)
theorem pickF_cons {fs : List (Nat × Nat)} {k : Nat} {x : AV} {r : List (Nat × AV)} : pickF fs ((k, x) :: r) = (fs[k]?).bind fun f => (pickF fs r).bind fun l => some ((f.1, f.2, x) :: l) := (rfl)
theorem evBuild_eq {H : Hp} {i : TI} {ps : List (Nat × AV)} : evBuild H i ps = (pickF i.fields ps).bind fun l =>
    if ps.all (fun p => okA H p.2) ∧ i.agg = true ∧ i.fields ≠ [] ∧ i.zero ≠ [] ∧ (∀ f ∈ i.fields, f.2 ≠ 0) then (fillA (i.zero.map constA) l).bind fun cs => some (.ag cs, []) else none := by
  rw [evBuild, pickF_eq]
theorem all_nil' {α : Type} {p : α → Prop} : (∀ f ∈ ([] : List α), p f) = True := by simp
theorem all_cons' {α : Type} {p : α → Prop} {x : α} {r : List α} : (∀ f ∈ x :: r, p f) = (p x ∧ ∀ f ∈ r, p f) := by simp
theorem range0 : List.range 0 = [] := by decide
theorem range1 : List.range 1 = [0] := by decide
theorem range2 : List.range 2 = [0, 1] := by decide
theorem range3 : List.range 3 = [0, 1, 2] := by decide
theorem range4 : List.range 4 = [0, 1, 2, 3] := by decide
theorem range5 : List.range 5 = [0, 1, 2, 3, 4] := by decide
theorem range6 : List.range 6 = [0, 1, 2, 3, 4, 5] := by decide
theorem range7 : List.range 7 = [0, 1, 2, 3, 4, 5, 6] := by decide
theorem range8 : List.range 8 = [0, 1, 2, 3, 4, 5, 6, 7] := by decide
theorem range9 : List.range 9 = [0, 1, 2, 3, 4, 5, 6, 7, 8] := by decide
theorem repl0 {α : Type} {x : α} : List.replicate 0 x = [] := rfl
theorem repl1 {α : Type} {x : α} : List.replicate 1 x = [x] := rfl
theorem repl2 {α : Type} {x : α} : List.replicate 2 x = [x, x] := rfl
theorem repl3 {α : Type} {x : α} : List.replicate 3 x = [x, x, x] := rfl
theorem repl4 {α : Type} {x : α} : List.replicate 4 x = [x, x, x, x] := rfl
theorem repl5 {α : Type} {x : α} : List.replicate 5 x = [x, x, x, x, x] := rfl
theorem repl6 {α : Type} {x : α} : List.replicate 6 x = [x, x, x, x, x, x] := rfl
theorem repl7 {α : Type} {x : α} : List.replicate 7 x = [x, x, x, x, x, x, x] := rfl
theorem repl8 {α : Type} {x : α} : List.replicate 8 x = [x, x, x, x, x, x, x, x] := rfl
theorem repl9 {α : Type} {x : α} : List.replicate 9 x = [x, x, x, x, x, x, x, x, x] := rfl
theorem nat512 : ((512 : Nat) : Int) = 512 := (rfl)
theorem optArr_some {α : Type} {x : α} : (some x).toArray = #[x] := (rfl)
theorem optArr_none {α : Type} : (none : Option α).toArray = #[] := (rfl)
theorem memN {a b : Nat} {l : List Nat} : (a ∈ b :: l) = (a = b ∨ a ∈ l) := by simp
theorem evElems_nil {H : Hp} {esz : Nat} {flat : List AV} : evElems H esz flat [] = some ([], []) := (rfl)
theorem evElems_cons {H : Hp} {esz : Nat} {flat : List AV} {i : Nat} {r : List Nat} : evElems H esz flat (i :: r) = match toCs H i 0 ((flat.drop (i * esz)).take esz), evElems H esz flat r with
    | some (e, ks), some (es, ks') => some (e :: es, ks ++ ks')
    | _, _ => none := (rfl)
theorem disj_cons {x : Nat} {r b : List Nat} : disj (x :: r) b = (!b.contains x && disj r b) := (rfl)
theorem HpS_at {l : List Ob} {k : Nat} : HpS l k = if k = 0 then none else l[k - 1]? := (rfl)
theorem kl_nil {t : Nat → AV} : kl [] t = t := (rfl)
theorem klH_nil {H : Hp} : klH [] H = H := (rfl)
theorem kl_cons {o : Nat} {r : List Nat} {t : Nat → AV} : kl (o :: r) t = fun k => killA (t k) := (rfl)
theorem klH_cons {o : Nat} {r : List Nat} {H : Hp} : klH (o :: r) H = fun k => (H k).map killO := (rfl)
theorem after_eq {nt : Nat} {t : Nat → AV} {H : Hp} {c : Nat} {ps : List Nat} {id : Nat} {d : Option Nat} {r : AV} {out : List (Option Ob)} : after nt ⟨t, H, c⟩ ps id d r out = ⟨putT nt (kl ps t) d (renA (rn ps id) r), updL (klH ps H) (callObjs ps id 0 out), c⟩ := (rfl)
theorem inlS_eq {nt : Nat} {t : Nat → AV} {H : Hp} {c : Nat} {o i j ty sz : Nat} {es : List (List CV)} {e : List CV} {es2 : List (List CV)} {d : Option Nat} {r : AV} : inlS nt ⟨t, H, c⟩ o i j ty sz es e es2 d r = ⟨putT nt (fun k => killA (t k)) d r, upd (fun k => (H k).map killO) o (some (.rw ty sz (es.set i (e.set j (.row true es2))))), c⟩ := (rfl)
/-- A region with three operations that may be taken as one: what stands ahead of them is run; then either way is gone. -/
def fsK (P : Program) (nt q : Nat) (l : List Oper) (K : ASt → Prop) : ASt → Prop := fun s1 =>
  seqR P nt (dstOf l.toArray) q (l.drop q) s1 K ∨ ∃ o1 o2 o3 r, l.drop q = o1 :: o2 :: o3 :: r ∧ TriQ P nt o1 o2 o3 s1 fun s2 => seqR P nt (dstOf l.toArray) (q + 3) r s2 K
theorem fuseQ_of {P : Program} {nt q : Nat} {l : List Oper} {s : ASt} {K : ASt → Prop} (h : seqR P nt (dstOf l.toArray) 0 (l.take q) s (fsK P nt q l K)) : FuseQ P nt q l.toArray s K := h
theorem fsK_seq {P : Program} {nt q : Nat} {l : List Oper} {s : ASt} {K : ASt → Prop} (h : seqR P nt (dstOf l.toArray) q (l.drop q) s K) : fsK P nt q l K s := .inl h
theorem fsK_tri {P : Program} {nt q : Nat} {l : List Oper} {K : ASt → Prop} {tt : Nat → AV} {H : Hp} {c : Nat} {o1 o2 o3 : Oper} {r : List Oper} (hl : l.drop q = o1 :: o2 :: o3 :: r)
    {t x d1 m d2 f : Nat} {ts : Array Nat} (hops : o1.op = .load t (.tmp x) ∧ o1.dst = some d1 ∧ o1.guard = none ∧ o2.op = .move (.tmp m) ∧ o2.dst = some d2 ∧ o2.guard = none ∧ o3.op = .call { callee := .value (.func f), args := #[.tmp d1, .tmp d2], argTypes := ts } ∧ o3.guard = none)
    (hd : decide (d1 ≠ d2 ∧ d1 < nt ∧ d2 < nt ∧ m ≠ d1 ∧ m < nt ∧ x < nt) = true) {ti : TI} (hti : tiOf P t = some ti) (hag : ti.agg = false)
    {o i j ty sz : Nat} {es : List (List CV)} {e : List CV} {es' : List (List CV)} {v : Value} (hx : tt x = .pt o i j) (hH : H o = some (.rw ty sz es)) (he : es[i]? = some e) (hc : e[j]? = some (.row true es')) (hne : es' ≠ []) (hm : tt m = .c (.v v))
    (sz0 : Nat) (hsz : ∀ e ∈ es', e.length = sz0) {y : Value} {es2 : List (List CV)} (n : Nat) (hn : n = es'.length) (hcall : ∀ ty', CallOk P f [.rw ty' sz0 es'] [.sl 1 n, .c (.v v)] (fun r out => r = .c (.v y) ∧ out = [some (.rw ty' sz0 es2)])) (hy : y.oneCell' = true) (hlen : es2.length = es'.length) (hown : ∀ e ∈ es2, ∀ c ∈ e, Own c)
    (hK : seqR P nt (dstOf l.toArray) (q + 3) r (inlS nt ⟨upd (upd tt d1 .any) d2 (.c (.v v)), H, c⟩ o i j ty sz es e es2 o3.dst (.c (.v y))) K) : fsK P nt q l K ⟨tt, H, c⟩ := by
  refine .inr ⟨o1, o2, o3, r, hl, t, x, d1, m, d2, f, ts, o, i, j, ty, sz, es, e, es', v, ti, hops, ?_⟩
  obtain ⟨h1, h2, h3, h4, h5, h6⟩ : d1 ≠ d2 ∧ d1 < nt ∧ d2 < nt ∧ m ≠ d1 ∧ m < nt ∧ x < nt := by simpa using hd
  refine ⟨h1, h2, h3, h4, h5, h6, hti, hag, hx, hH, he, hc, hne, hm, fun ty' sz' hs => ?_⟩
  obtain ⟨e0, r0, rfl⟩ := List.exists_cons_of_ne_nil hne
  subst hn
  have : sz' = sz0 := by rw [← hs e0 (List.mem_cons_self ..), hsz e0 (List.mem_cons_self ..)]
  subst this
  refine (hcall ty').mono fun r out h => ?_
  obtain ⟨rfl, rfl⟩ := h
  exact ⟨y, es2, rfl, hy, rfl, hlen, hown, hK⟩
end Go.Proofs.YtnnmpdanfeejbaaGreat.Abs

/- How the program's data stand in cells. -/
namespace Go.Proofs.YtnnmpdanfeejbaaGreat.Abs
open Go Go.Proofs
set_option linter.unusedVariables false
set_option linter.unusedSimpArgs false
/-! k: are the rows within the object's own? -/
def stC (s : ByteArray) : List CV := [.v (.string s)]
def inC (n : Int) : List CV := [.v (.int .i64 n)]
structure Pr where
  k : ByteArray
  v : ByteArray
  deriving DecidableEq, Inhabited
def prC (p : Pr) : List CV := [.v (.string p.k), .v (.string p.v)]
structure Nd where
  ps : List Pr
  ks : List ByteArray
  cs : List Int
  deriving DecidableEq, Inhabited
def ndC (k : Bool) (n : Nd) : List CV := [.row k (n.ps.map prC), .row k (n.ks.map stC), .row k (n.cs.map inC)]
/-- A sheet's cells. -/
def shC (k : Bool) (b : List UInt8) : List CV := [.row k (eB b)]
/-- A write's cells. -/
def wrC (k : Bool) (x : Int × List UInt8) : List CV := [.v (.int .i64 x.1), .row k (eB x.2)]
/-- An operation's cells. -/
def opC (k : Bool) (x : Bool × Int × List UInt8) : List CV := [.v (.bool x.1), .v (.int .i64 x.2.1), .row k (eB x.2.2)]
/-- A tree within (the reference's). -/
inductive Sub where
  | mk (leaf : Bool) (ps : List Pr) (ks : List Sub)
  deriving Inhabited
def Sub.leaf : Sub → Bool | .mk l _ _ => l
def Sub.ps : Sub → List Pr | .mk _ p _ => p
def Sub.ks : Sub → List Sub | .mk _ _ k => k
mutual
def suC (k : Bool) : Sub → List CV
  | .mk l ps ks => [.v (.bool l), .row k (ps.map prC), .row k (suL k ks)]
def suL (k : Bool) : List Sub → List (List CV)
  | [] => []
  | x :: r => suC k x :: suL k r
end
theorem suL_map (k : Bool) : ∀ l : List Sub, suL k l = l.map (suC k)
  | [] => rfl
  | x :: r => by rw [suL, suL_map k r]; rfl
theorem suC_eq (k : Bool) (s : Sub) : suC k s = [.v (.bool s.leaf), .row k (s.ps.map prC), .row k (s.ks.map (suC k))] := by
  cases s; rw [suC, suL_map]; rfl

theorem stC_length (x : ByteArray) : (stC x).length = 1 := (rfl)
theorem inC_length (x : Int) : (inC x).length = 1 := (rfl)
theorem prC_length (x : Pr) : (prC x).length = 2 := (rfl)
theorem ndC_length (k : Bool) (x : Nd) : (ndC k x).length = 3 := (rfl)
theorem shC_length (k : Bool) (x : List UInt8) : (shC k x).length = 1 := (rfl)
theorem wrC_length (k : Bool) (x : Int × List UInt8) : (wrC k x).length = 2 := (rfl)
theorem opC_length (k : Bool) (x : Bool × Int × List UInt8) : (opC k x).length = 3 := (rfl)
theorem suC_length (k : Bool) (x : Sub) : (suC k x).length = 3 := by rw [suC_eq]; rfl
theorem all_len {α : Type} {f : α → List CV} {n : Nat} (h : ∀ x, (f x).length = n) (xs : List α) : (∀ c ∈ xs.map f, c.length = n) = True := by
  simp only [eq_iff_iff, iff_true]
  intro c hc
  obtain ⟨x, _, rfl⟩ := List.mem_map.1 hc
  exact h x
theorem al_eB (l : List UInt8) : (∀ c ∈ eB l, c.length = 1) = True := all_len (f := fun b : UInt8 => [CV.v (.int .u8 b.toNat)]) (fun _ => rfl) l
theorem al_z (n : Nat) (v : Value) : (∀ c ∈ List.replicate n [CV.v v], c.length = 1) = True := eq_true (fun c hc => by rw [List.eq_of_mem_replicate hc]; rfl)
theorem eB_fold (l : List UInt8) : (l.map fun b : UInt8 => [CV.v (.int .u8 b.toNat)]) = eB l := (rfl)
theorem al_st (xs : List ByteArray) : (∀ c ∈ xs.map stC, c.length = 1) = True := all_len stC_length xs
theorem al_in (xs : List Int) : (∀ c ∈ xs.map inC, c.length = 1) = True := all_len inC_length xs
theorem al_pr (xs : List Pr) : (∀ c ∈ xs.map prC, c.length = 2) = True := all_len prC_length xs
theorem al_nd (k : Bool) (xs : List Nd) : (∀ c ∈ xs.map (ndC k), c.length = 3) = True := all_len (ndC_length k) xs
theorem al_sh (k : Bool) (xs : List (List UInt8)) : (∀ c ∈ xs.map (shC k), c.length = 1) = True := all_len (shC_length k) xs
theorem al_wr (k : Bool) (xs : List (Int × List UInt8)) : (∀ c ∈ xs.map (wrC k), c.length = 2) = True := all_len (wrC_length k) xs
theorem al_op (k : Bool) (xs : List (Bool × Int × List UInt8)) : (∀ c ∈ xs.map (opC k), c.length = 3) = True := all_len (opC_length k) xs
theorem al_su (k : Bool) (xs : List Sub) : (∀ c ∈ xs.map (suC k), c.length = 3) = True := all_len (suC_length k) xs
theorem allV_of {α : Type} {f : α → List CV} (h : ∀ x, (f x).all CV.isV = true) (xs : List α) : allV (xs.map f) = true := by
  rw [allV, List.all_eq_true]
  intro c hc
  obtain ⟨x, _, rfl⟩ := List.mem_map.1 hc
  exact h x
theorem allV_eB (l : List UInt8) : allV (eB l) = true := allV_of (f := fun b : UInt8 => [CV.v (.int .u8 b.toNat)]) (fun _ => rfl) l
theorem allV_st (xs : List ByteArray) : allV (xs.map stC) = true := allV_of (fun _ => rfl) xs
theorem allV_in (xs : List Int) : allV (xs.map inC) = true := allV_of (fun _ => rfl) xs
theorem allV_pr (xs : List Pr) : allV (xs.map prC) = true := allV_of (fun _ => rfl) xs
theorem allV_nil : allV [] = true := (rfl)
theorem allV_cons (e : List CV) (r : List (List CV)) : allV (e :: r) = (e.all CV.isV && allV r) := (rfl)
theorem isV_v (x : Value) : CV.isV (.v x) = true := (rfl)
theorem isV_row (k : Bool) (es : List (List CV)) : CV.isV (.row k es) = false := (rfl)
theorem isV_ptr (cs : List CV) (j : Nat) : CV.isV (.ptr cs j) = false := (rfl)
theorem im_eB (l : List UInt8) : (eB l).map (fun x => x.map CV.im) = eB l := by rw [eB, List.map_map]; rfl
theorem im_st (xs : List ByteArray) : (xs.map stC).map (fun x => x.map CV.im) = xs.map stC := by rw [List.map_map]; rfl
theorem im_in (xs : List Int) : (xs.map inC).map (fun x => x.map CV.im) = xs.map inC := by rw [List.map_map]; rfl
theorem im_pr (xs : List Pr) : (xs.map prC).map (fun x => x.map CV.im) = xs.map prC := by rw [List.map_map]; rfl
theorem im_nd (k : Bool) (xs : List Nd) : (xs.map (ndC k)).map (fun x => x.map CV.im) = xs.map (ndC false) := by rw [List.map_map]; rfl
theorem im_sh (k : Bool) (xs : List (List UInt8)) : (xs.map (shC k)).map (fun x => x.map CV.im) = xs.map (shC false) := by rw [List.map_map]; rfl
theorem im_wr (k : Bool) (xs : List (Int × List UInt8)) : (xs.map (wrC k)).map (fun x => x.map CV.im) = xs.map (wrC false) := by rw [List.map_map]; rfl

/-- Cells that are the same but for the marks of ownership. -/
def SimC (l m : List CV) : Prop := l.length = m.length ∧ ∀ (j : Nat) c c', l[j]? = some c → m[j]? = some c' → Sim c c'
theorem SimC.nil : SimC [] [] := ⟨rfl, fun j c c' h => by simp at h⟩
theorem SimC.cons {a b : CV} {l m : List CV} (h : Sim a b) (hl : SimC l m) : SimC (a :: l) (b :: m) := by
  refine ⟨by simp [hl.1], fun j c c' hc hc' => ?_⟩
  cases j with
  | zero => simp at hc hc'; subst hc hc'; exact h
  | succ j => exact hl.2 j c c' (by simpa using hc) (by simpa using hc')
theorem SimC.v {a : Value} {l m : List CV} (hl : SimC l m) : SimC (.v a :: l) (.v a :: m) := .cons (.v a) hl
theorem Sim.rows {α : Type} {f g : α → List CV} {xs : List α} {k k' : Bool} (hk : k' = true → k = true) (h : ∀ x ∈ xs, SimC (f x) (g x)) : Sim (.row k (xs.map f)) (.row k' (xs.map g)) := by
  refine .row k k' _ _ (fun _ => hk) (by simp) (fun i e e' he he' => ?_) (fun i j e e' c c' he he' hc hc' => ?_)
  · rw [List.getElem?_map, Option.map_eq_some_iff] at he he'
    obtain ⟨x, hx, rfl⟩ := he
    obtain ⟨y, hy, rfl⟩ := he'
    rw [hx] at hy; cases hy
    exact (h x (List.mem_of_getElem? hx)).1
  · rw [List.getElem?_map, Option.map_eq_some_iff] at he he'
    obtain ⟨x, hx, rfl⟩ := he
    obtain ⟨y, hy, rfl⟩ := he'
    rw [hx] at hy; cases hy
    exact (h x (List.mem_of_getElem? hx)).2 j c c' hc hc'
theorem bytesOf_eB : ∀ l : List UInt8, bytesOf (eB l) = some l
  | [] => rfl
  | b :: r => by
    show (bytesOf (eB r)).map (UInt8.ofNat (Int.toNat b.toNat) :: ·) = _
    rw [bytesOf_eB r]
    simp
theorem eB_takeAll (l : List UInt8) : (eB l).take l.length = eB l := List.take_of_length_le (by rw [eB_length]; omega)
theorem eB_nil : eB [] = [] := (rfl)
theorem sim_nil (k k' : Bool) (h : k' = true → k = true) : Sim (.row k []) (.row k' []) := .row _ _ _ _ (fun _ => h) rfl (fun i e e' h => by simp at h) (fun i j e e' c c' h => by simp at h)
theorem sim_eB (l : List UInt8) (k k' : Bool) (h : k' = true → k = true) : Sim (.row k (eB l)) (.row k' (eB l)) := Sim.rows h (fun x _ => SimC.v SimC.nil)
theorem sim_st (l : List ByteArray) (k k' : Bool) (h : k' = true → k = true) : Sim (.row k (l.map stC)) (.row k' (l.map stC)) := Sim.rows h (fun x _ => SimC.v SimC.nil)
theorem sim_in (l : List Int) (k k' : Bool) (h : k' = true → k = true) : Sim (.row k (l.map inC)) (.row k' (l.map inC)) := Sim.rows h (fun x _ => SimC.v SimC.nil)
theorem sim_pr (l : List Pr) (k k' : Bool) (h : k' = true → k = true) : Sim (.row k (l.map prC)) (.row k' (l.map prC)) := Sim.rows h (fun x _ => SimC.v (SimC.v SimC.nil))
theorem sim_ndC (x : Nd) (k k' : Bool) (h : k' = true → k = true) : SimC (ndC k x) (ndC k' x) := .cons (sim_pr _ _ _ h) (.cons (sim_st _ _ _ h) (.cons (sim_in _ _ _ h) .nil))
theorem sim_shC (b : List UInt8) (k k' : Bool) (h : k' = true → k = true) : SimC (shC k b) (shC k' b) := .cons (sim_eB _ _ _ h) .nil
theorem sim_wrC (x : Int × List UInt8) (k k' : Bool) (h : k' = true → k = true) : SimC (wrC k x) (wrC k' x) := .v (.cons (sim_eB _ _ _ h) .nil)
theorem sim_opC (x : Bool × Int × List UInt8) (k k' : Bool) (h : k' = true → k = true) : SimC (opC k x) (opC k' x) := .v (.v (.cons (sim_eB _ _ _ h) .nil))
theorem sim_nd (l : List Nd) (j k k' m : Bool) (h0 : m = true → j = true) (h : k' = true → k = true) : Sim (.row j (l.map (ndC k))) (.row m (l.map (ndC k'))) := Sim.rows h0 (fun x _ => sim_ndC x k k' h)
theorem sim_sh (l : List (List UInt8)) (j k k' m : Bool) (h0 : m = true → j = true) (h : k' = true → k = true) : Sim (.row j (l.map (shC k))) (.row m (l.map (shC k'))) := Sim.rows h0 (fun x _ => sim_shC x k k' h)
theorem sim_wr (l : List (Int × List UInt8)) (j k k' m : Bool) (h0 : m = true → j = true) (h : k' = true → k = true) : Sim (.row j (l.map (wrC k))) (.row m (l.map (wrC k'))) := Sim.rows h0 (fun x _ => sim_wrC x k k' h)
theorem sim_op (l : List (Bool × Int × List UInt8)) (j k k' m : Bool) (h0 : m = true → j = true) (h : k' = true → k = true) : Sim (.row j (l.map (opC k))) (.row m (l.map (opC k'))) := Sim.rows h0 (fun x _ => sim_opC x k k' h)
mutual
theorem sim_suC (k k' : Bool) (h : k' = true → k = true) : (x : Sub) → SimC (suC k x) (suC k' x)
  | .mk l ps ks => by
    rw [suC, suC]
    exact .v (.cons (sim_pr _ _ _ h) (.cons (sim_suL k k' h ks k k' h) .nil))
theorem sim_suL (k k' : Bool) (h : k' = true → k = true) : (l : List Sub) → ∀ j m : Bool, (m = true → j = true) → Sim (.row j (suL k l)) (.row m (suL k' l))
  | [], j, m, h0 => .row _ _ _ _ (fun _ => h0) rfl (fun i e e' h => by simp [suL] at h) (fun i j e e' c c' h => by simp [suL] at h)
  | x :: r, j, m, h0 => by
    have h1 := sim_suC k k' h x
    have h2 := sim_suL k k' h r j m h0
    rw [suL, suL]
    cases h2 with
    | row _ _ _ _ _ a b c =>
      refine .row _ _ _ _ (fun _ => h0) (by simp [a]) (fun i e e' he he' => ?_) (fun i j e e' c1 c2 he he' hc hc' => ?_)
      · cases i with
        | zero => simp at he he'; subst he he'; exact h1.1
        | succ i => exact b i e e' (by simpa using he) (by simpa using he')
      · cases i with
        | zero => simp at he he'; subst he he'; exact h1.2 j _ _ hc hc'
        | succ i => exact c i j e e' c1 c2 (by simpa using he) (by simpa using he') hc hc'
end
theorem sim_su (l : List Sub) (j k k' m : Bool) (h0 : m = true → j = true) (h : k' = true → k = true) : Sim (.row j (l.map (suC k))) (.row m (l.map (suC k'))) := by
  have := sim_suL k k' h l j m h0
  rwa [suL_map, suL_map] at this
theorem own_of {α : Type} {f : α → List CV} (h : ∀ x, ∀ c ∈ f x, Own c) (xs : List α) : ∀ e ∈ xs.map f, ∀ c ∈ e, Own c := by
  intro e he
  obtain ⟨x, _, rfl⟩ := List.mem_map.1 he
  exact h x
theorem own_eB (l : List UInt8) : ∀ e ∈ eB l, ∀ c ∈ e, Own c := own_of (fun x c hc => by simp at hc; subst hc; exact .v _) l
theorem own_st (l : List ByteArray) : ∀ e ∈ l.map stC, ∀ c ∈ e, Own c := own_of (fun x c hc => by simp [stC] at hc; subst hc; exact .v _) l
theorem own_in (l : List Int) : ∀ e ∈ l.map inC, ∀ c ∈ e, Own c := own_of (fun x c hc => by simp [inC] at hc; subst hc; exact .v _) l
theorem own_pr (l : List Pr) : ∀ e ∈ l.map prC, ∀ c ∈ e, Own c := own_of (fun x c hc => by simp [prC] at hc; rcases hc with rfl | rfl <;> exact .v _) l
theorem own_nd (l : List Nd) : ∀ e ∈ l.map (ndC true), ∀ c ∈ e, Own c := own_of (fun x c hc => by simp [ndC] at hc; rcases hc with rfl | rfl | rfl; exact .row _ (own_pr _); exact .row _ (own_st _); exact .row _ (own_in _)) l
theorem own_op (l : List (Bool × Int × List UInt8)) : ∀ e ∈ l.map (opC true), ∀ c ∈ e, Own c := own_of (fun x c hc => by simp [opC] at hc; rcases hc with rfl | rfl | rfl; exact .v _; exact .v _; exact .row _ (own_eB _)) l
theorem eB_one (l : List UInt8) : ∀ e ∈ eB l, e.length = 1 := by simpa using al_eB l
theorem st_one (l : List ByteArray) : ∀ e ∈ l.map stC, e.length = 1 := by simpa using al_st l
theorem in_one (l : List Int) : ∀ e ∈ l.map inC, e.length = 1 := by simpa using al_in l
theorem pr_two (l : List Pr) : ∀ e ∈ l.map prC, e.length = 2 := by simpa using al_pr l
end Go.Proofs.YtnnmpdanfeejbaaGreat.Abs

/- What the machine asks of each type of the program. -/
namespace Go.Proofs.YtnnmpdanfeejbaaGreat.Abs
open Go Go.Proofs
theorem mixed : Tryz.prog.follows .mixedOrders = true := by kernel_rfl
theorem ti2 : tiOf Tryz.prog 2 = some ⟨1, false, [], none, [Value.int IntKind.i64 0], some IntKind.i64, false, false, false, false, none, true⟩ := by kernel_rfl
theorem ti3 : tiOf Tryz.prog 3 = some ⟨1, false, [], none, [Value.int IntKind.i64 0], some IntKind.i64, false, false, false, false, none, true⟩ := by kernel_rfl
theorem ti4 : tiOf Tryz.prog 4 = some ⟨1, false, [], none, [Value.bool false], none, false, false, true, false, none, false⟩ := by kernel_rfl
theorem ti5 : tiOf Tryz.prog 5 = some ⟨1, false, [], none, [Value.int IntKind.u8 0], some IntKind.u8, false, false, false, false, none, false⟩ := by kernel_rfl
theorem ti6 : tiOf Tryz.prog 6 = some ⟨1, false, [], none, [Value.int IntKind.u8 0], some IntKind.u8, false, false, false, false, none, false⟩ := by kernel_rfl
theorem ti7 : tiOf Tryz.prog 7 = some ⟨4, true, [(0, 1), (1, 1), (2, 1), (3, 1)], none, [Value.int IntKind.i64 0, Value.int IntKind.i64 0, Value.bool false, Value.int IntKind.u8 0], none, false, false, false, false, none, false⟩ := by kernel_rfl
theorem ti8 : tiOf Tryz.prog 8 = some ⟨4, true, [(0, 1), (1, 1), (2, 1), (3, 1)], none, [Value.int IntKind.i64 0, Value.int IntKind.i64 0, Value.bool false, Value.int IntKind.u8 0], none, false, false, false, false, none, false⟩ := by kernel_rfl
theorem ti9 : tiOf Tryz.prog 9 = some ⟨1, false, [], none, [Value.string ⟨#[]⟩], none, true, false, false, false, none, false⟩ := by kernel_rfl
theorem ti10 : tiOf Tryz.prog 10 = some ⟨1, false, [], none, [Value.string ⟨#[]⟩], none, true, false, false, false, none, false⟩ := by kernel_rfl
theorem ti11 : tiOf Tryz.prog 11 = some ⟨1, false, [], none, [Value.string ⟨#[]⟩], none, true, false, false, false, none, false⟩ := by kernel_rfl
theorem ti12 : tiOf Tryz.prog 12 = some ⟨1, false, [], none, [Value.int IntKind.u64 0], some IntKind.u64, false, false, false, false, none, false⟩ := by kernel_rfl
theorem ti13 : tiOf Tryz.prog 13 = some ⟨2, true, [(0, 1), (1, 1)], none, [Value.string ⟨#[]⟩, Value.int IntKind.u64 0], none, false, false, false, false, none, false⟩ := by kernel_rfl
theorem ti14 : tiOf Tryz.prog 14 = some ⟨2, true, [(0, 1), (1, 1)], none, [Value.string ⟨#[]⟩, Value.int IntKind.u64 0], none, false, false, false, false, none, false⟩ := by kernel_rfl
theorem ti15 : tiOf Tryz.prog 15 = some ⟨1, false, [], none, [Value.pointer none], none, false, true, false, false, none, false⟩ := by kernel_rfl
theorem ti16 : tiOf Tryz.prog 16 = some ⟨1, false, [], none, [Value.pointer none], none, false, true, false, false, none, false⟩ := by kernel_rfl
theorem ti17 : tiOf Tryz.prog 17 = some ⟨1, false, [], none, [Value.pointer none], none, false, true, false, false, none, false⟩ := by kernel_rfl
theorem ti18 : tiOf Tryz.prog 18 = some ⟨1, true, [(0, 1)], none, [Value.pointer none], none, false, false, false, false, none, false⟩ := by kernel_rfl
theorem ti19 : tiOf Tryz.prog 19 = some ⟨1, true, [(0, 1)], none, [Value.pointer none], none, false, false, false, false, none, false⟩ := by kernel_rfl
theorem ti21 : tiOf Tryz.prog 21 = some ⟨1, false, [], none, [Value.int IntKind.i32 0], some IntKind.i32, false, false, false, false, none, false⟩ := by kernel_rfl
theorem ti22 : tiOf Tryz.prog 22 = some ⟨1, false, [], some (132, 1, 24), [Value.slice none 0 0], none, false, false, false, false, none, false⟩ := by kernel_rfl
theorem ti23 : tiOf Tryz.prog 23 = some ⟨1, false, [], some (134, 2, 32), [Value.slice none 0 0], none, false, false, false, false, none, false⟩ := by kernel_rfl
theorem ti24 : tiOf Tryz.prog 24 = some ⟨2, true, [(0, 1), (1, 1)], none, [Value.slice none 0 0, Value.slice none 0 0], none, false, false, false, false, none, false⟩ := by kernel_rfl
theorem ti25 : tiOf Tryz.prog 25 = some ⟨2, true, [(0, 1), (1, 1)], none, [Value.slice none 0 0, Value.slice none 0 0], none, false, false, false, false, none, false⟩ := by kernel_rfl
theorem ti27 : tiOf Tryz.prog 27 = some ⟨1, false, [], some (135, 1, 24), [Value.slice none 0 0], none, false, false, false, false, none, false⟩ := by kernel_rfl
theorem ti28 : tiOf Tryz.prog 28 = some ⟨1, false, [], some (113, 2, 32), [Value.slice none 0 0], none, false, false, false, false, none, false⟩ := by kernel_rfl
theorem ti29 : tiOf Tryz.prog 29 = some ⟨2, true, [(0, 1), (1, 1)], none, [Value.slice none 0 0, Value.slice none 0 0], none, false, false, false, false, none, false⟩ := by kernel_rfl
theorem ti30 : tiOf Tryz.prog 30 = some ⟨2, true, [(0, 1), (1, 1)], none, [Value.slice none 0 0, Value.slice none 0 0], none, false, false, false, false, none, false⟩ := by kernel_rfl
theorem ti31 : tiOf Tryz.prog 31 = some ⟨1, false, [], some (111, 3, 72), [Value.slice none 0 0], none, false, false, false, false, none, false⟩ := by kernel_rfl
theorem ti32 : tiOf Tryz.prog 32 = some ⟨1, true, [(0, 1)], none, [Value.slice none 0 0], none, false, false, false, false, none, false⟩ := by kernel_rfl
theorem ti33 : tiOf Tryz.prog 33 = some ⟨1, true, [(0, 1)], none, [Value.slice none 0 0], none, false, false, false, false, none, false⟩ := by kernel_rfl
theorem ti34 : tiOf Tryz.prog 34 = some ⟨1, false, [], some (3, 1, 8), [Value.slice none 0 0], none, false, false, false, false, none, false⟩ := by kernel_rfl
theorem ti35 : tiOf Tryz.prog 35 = some ⟨5, true, [(0, 2), (2, 1), (3, 1), (4, 1)], none, [Value.slice none 0 0, Value.slice none 0 0, Value.int IntKind.i64 0, Value.slice none 0 0, Value.slice none 0 0], none, false, false, false, false, none, false⟩ := by kernel_rfl
theorem ti36 : tiOf Tryz.prog 36 = some ⟨5, true, [(0, 2), (2, 1), (3, 1), (4, 1)], none, [Value.slice none 0 0, Value.slice none 0 0, Value.int IntKind.i64 0, Value.slice none 0 0, Value.slice none 0 0], none, false, false, false, false, none, false⟩ := by kernel_rfl
theorem ti45 : tiOf Tryz.prog 45 = some ⟨1, false, [], some (173, 3, 72), [Value.slice none 0 0], none, false, false, false, false, none, false⟩ := by kernel_rfl
theorem ti46 : tiOf Tryz.prog 46 = some ⟨1, true, [(0, 1)], none, [Value.slice none 0 0], none, false, false, false, false, none, false⟩ := by kernel_rfl
theorem ti47 : tiOf Tryz.prog 47 = some ⟨1, true, [(0, 1)], none, [Value.slice none 0 0], none, false, false, false, false, none, false⟩ := by kernel_rfl
theorem ti48 : tiOf Tryz.prog 48 = some ⟨5, true, [(0, 2), (2, 1), (3, 1), (4, 1)], none, [Value.slice none 0 0, Value.slice none 0 0, Value.int IntKind.i64 0, Value.slice none 0 0, Value.slice none 0 0], none, false, false, false, false, none, false⟩ := by kernel_rfl
theorem ti49 : tiOf Tryz.prog 49 = some ⟨5, true, [(0, 2), (2, 1), (3, 1), (4, 1)], none, [Value.slice none 0 0, Value.slice none 0 0, Value.int IntKind.i64 0, Value.slice none 0 0, Value.slice none 0 0], none, false, false, false, false, none, false⟩ := by kernel_rfl
theorem ti58 : tiOf Tryz.prog 58 = some ⟨1, false, [], some (115, 3, 40), [Value.slice none 0 0], none, false, false, false, false, none, false⟩ := by kernel_rfl
theorem ti69 : tiOf Tryz.prog 69 = some ⟨1, false, [], some (5, 1, 1), [Value.slice none 0 0], none, false, false, false, true, none, false⟩ := by kernel_rfl
theorem ti77 : tiOf Tryz.prog 77 = some ⟨2, true, [(0, 1), (1, 1)], none, [Value.int IntKind.i64 0, Value.int IntKind.i64 0], none, false, false, false, false, none, false⟩ := by kernel_rfl
theorem ti78 : tiOf Tryz.prog 78 = some ⟨2, true, [(0, 1), (1, 1)], none, [Value.int IntKind.i64 0, Value.int IntKind.i64 0], none, false, false, false, false, none, false⟩ := by kernel_rfl
theorem ti87 : tiOf Tryz.prog 87 = some ⟨1, false, [], none, [Value.pointer none], none, false, true, false, false, none, false⟩ := by kernel_rfl
theorem ti88 : tiOf Tryz.prog 88 = some ⟨1, false, [], none, [Value.pointer none], none, false, true, false, false, none, false⟩ := by kernel_rfl
theorem ti89 : tiOf Tryz.prog 89 = some ⟨4, true, [(0, 1), (1, 1), (2, 1), (3, 1)], none, [Value.pointer none, Value.slice none 0 0, Value.slice none 0 0, Value.bool false], none, false, false, false, false, none, false⟩ := by kernel_rfl
theorem ti90 : tiOf Tryz.prog 90 = some ⟨4, true, [(0, 1), (1, 1), (2, 1), (3, 1)], none, [Value.pointer none, Value.slice none 0 0, Value.slice none 0 0, Value.bool false], none, false, false, false, false, none, false⟩ := by kernel_rfl
theorem ti105 : tiOf Tryz.prog 105 = some ⟨1, false, [], some (9, 1, 16), [Value.slice none 0 0], none, false, false, false, false, none, false⟩ := by kernel_rfl
theorem ti106 : tiOf Tryz.prog 106 = some ⟨3, true, [(0, 1), (1, 1), (2, 1)], none, [Value.slice none 0 0, Value.slice none 0 0, Value.slice none 0 0], none, false, false, false, false, none, false⟩ := by kernel_rfl
theorem ti107 : tiOf Tryz.prog 107 = some ⟨3, true, [(0, 1), (1, 1), (2, 1)], none, [Value.slice none 0 0, Value.slice none 0 0, Value.slice none 0 0], none, false, false, false, false, none, false⟩ := by kernel_rfl
theorem ti109 : tiOf Tryz.prog 109 = some ⟨1, false, [], some (141, 2, 32), [Value.slice none 0 0], none, false, false, false, false, none, false⟩ := by kernel_rfl
theorem ti110 : tiOf Tryz.prog 110 = some ⟨3, true, [(0, 1), (1, 1), (2, 1)], none, [Value.slice none 0 0, Value.slice none 0 0, Value.slice none 0 0], none, false, false, false, false, none, false⟩ := by kernel_rfl
theorem ti111 : tiOf Tryz.prog 111 = some ⟨3, true, [(0, 1), (1, 1), (2, 1)], none, [Value.slice none 0 0, Value.slice none 0 0, Value.slice none 0 0], none, false, false, false, false, none, false⟩ := by kernel_rfl
theorem ti112 : tiOf Tryz.prog 112 = some ⟨2, true, [(0, 1), (1, 1)], none, [Value.int IntKind.i64 0, Value.slice none 0 0], none, false, false, false, false, none, false⟩ := by kernel_rfl
theorem ti113 : tiOf Tryz.prog 113 = some ⟨2, true, [(0, 1), (1, 1)], none, [Value.int IntKind.i64 0, Value.slice none 0 0], none, false, false, false, false, none, false⟩ := by kernel_rfl
theorem ti114 : tiOf Tryz.prog 114 = some ⟨3, true, [(0, 1), (1, 2)], none, [Value.bool false, Value.int IntKind.i64 0, Value.slice none 0 0], none, false, false, false, false, none, false⟩ := by kernel_rfl
theorem ti115 : tiOf Tryz.prog 115 = some ⟨3, true, [(0, 1), (1, 2)], none, [Value.bool false, Value.int IntKind.i64 0, Value.slice none 0 0], none, false, false, false, false, none, false⟩ := by kernel_rfl
theorem ti121 : tiOf Tryz.prog 121 = some ⟨1, false, [], none, [Value.pointer none], none, false, true, false, false, none, false⟩ := by kernel_rfl
theorem ti126 : tiOf Tryz.prog 126 = some ⟨1, false, [], some (189, 3, 40), [Value.slice none 0 0], none, false, false, false, false, none, false⟩ := by kernel_rfl
theorem ti131 : tiOf Tryz.prog 131 = some ⟨1, true, [(0, 1)], none, [Value.slice none 0 0], none, false, false, false, false, none, false⟩ := by kernel_rfl
theorem ti132 : tiOf Tryz.prog 132 = some ⟨1, true, [(0, 1)], none, [Value.slice none 0 0], none, false, false, false, false, none, false⟩ := by kernel_rfl
theorem ti134 : tiOf Tryz.prog 134 = some ⟨2, true, [(0, 1), (1, 1)], none, [Value.int IntKind.i64 0, Value.slice none 0 0], none, false, false, false, false, none, false⟩ := by kernel_rfl
theorem ti135 : tiOf Tryz.prog 135 = some ⟨1, true, [(0, 1)], none, [Value.slice none 0 0], none, false, false, false, false, none, false⟩ := by kernel_rfl
theorem ti140 : tiOf Tryz.prog 140 = some ⟨2, true, [(0, 1), (1, 1)], none, [Value.string ⟨#[]⟩, Value.string ⟨#[]⟩], none, false, false, false, false, none, false⟩ := by kernel_rfl
theorem ti141 : tiOf Tryz.prog 141 = some ⟨2, true, [(0, 1), (1, 1)], none, [Value.string ⟨#[]⟩, Value.string ⟨#[]⟩], none, false, false, false, false, none, false⟩ := by kernel_rfl
theorem ti142 : tiOf Tryz.prog 142 = some ⟨1, false, [], some (144, 3, 56), [Value.slice none 0 0], none, false, false, false, false, none, false⟩ := by kernel_rfl
theorem ti143 : tiOf Tryz.prog 143 = some ⟨3, true, [(0, 1), (1, 1), (2, 1)], none, [Value.bool false, Value.slice none 0 0, Value.slice none 0 0], none, false, false, false, false, none, false⟩ := by kernel_rfl
theorem ti144 : tiOf Tryz.prog 144 = some ⟨3, true, [(0, 1), (1, 1), (2, 1)], none, [Value.bool false, Value.slice none 0 0, Value.slice none 0 0], none, false, false, false, false, none, false⟩ := by kernel_rfl
theorem ti157 : tiOf Tryz.prog 157 = some ⟨1, false, [], none, [Value.pointer none], none, false, true, false, false, none, false⟩ := by kernel_rfl
theorem ti171 : tiOf Tryz.prog 171 = some ⟨1, false, [], some (237, 2, 32), [Value.slice none 0 0], none, false, false, false, false, none, false⟩ := by kernel_rfl
theorem ti172 : tiOf Tryz.prog 172 = some ⟨3, true, [(0, 1), (1, 1), (2, 1)], none, [Value.slice none 0 0, Value.slice none 0 0, Value.slice none 0 0], none, false, false, false, false, none, false⟩ := by kernel_rfl
theorem ti173 : tiOf Tryz.prog 173 = some ⟨3, true, [(0, 1), (1, 1), (2, 1)], none, [Value.slice none 0 0, Value.slice none 0 0, Value.slice none 0 0], none, false, false, false, false, none, false⟩ := by kernel_rfl
theorem ti177 : tiOf Tryz.prog 177 = some ⟨1, false, [], some (4, 1, 1), [Value.slice none 0 0], none, false, false, false, false, none, false⟩ := by kernel_rfl
theorem ti182 : tiOf Tryz.prog 182 = some ⟨3, true, [(0, 1), (1, 1), (2, 1)], none, [Value.slice none 0 0, Value.int IntKind.i64 0, Value.int IntKind.i64 0], none, false, false, false, false, none, false⟩ := by kernel_rfl
theorem ti183 : tiOf Tryz.prog 183 = some ⟨3, true, [(0, 1), (1, 1), (2, 1)], none, [Value.slice none 0 0, Value.int IntKind.i64 0, Value.int IntKind.i64 0], none, false, false, false, false, none, false⟩ := by kernel_rfl
theorem ti188 : tiOf Tryz.prog 188 = some ⟨3, true, [(0, 1), (1, 1), (2, 1)], none, [Value.string ⟨#[]⟩, Value.string ⟨#[]⟩, Value.bool false], none, false, false, false, false, none, false⟩ := by kernel_rfl
theorem ti189 : tiOf Tryz.prog 189 = some ⟨3, true, [(0, 1), (1, 1), (2, 1)], none, [Value.string ⟨#[]⟩, Value.string ⟨#[]⟩, Value.bool false], none, false, false, false, false, none, false⟩ := by kernel_rfl
theorem ti205 : tiOf Tryz.prog 205 = some ⟨1, false, [], none, [Value.int IntKind.u64 0], some IntKind.u64, false, false, false, false, none, false⟩ := by kernel_rfl
theorem ti206 : tiOf Tryz.prog 206 = some ⟨1, false, [], none, [Value.pointer none], none, false, true, false, false, none, false⟩ := by kernel_rfl
theorem ti207 : tiOf Tryz.prog 207 = some ⟨3, true, [(0, 1), (1, 1), (2, 1)], none, [Value.slice none 0 0, Value.int IntKind.i64 0, Value.bool false], none, false, false, false, false, none, false⟩ := by kernel_rfl
theorem ti208 : tiOf Tryz.prog 208 = some ⟨3, true, [(0, 1), (1, 1), (2, 1)], none, [Value.slice none 0 0, Value.int IntKind.i64 0, Value.bool false], none, false, false, false, false, none, false⟩ := by kernel_rfl
theorem ti212 : tiOf Tryz.prog 212 = some ⟨1, false, [], none, [Value.pointer none], none, false, true, false, false, none, false⟩ := by kernel_rfl
theorem ti217 : tiOf Tryz.prog 217 = some ⟨1, false, [], none, [Value.pointer none], none, false, true, false, false, none, false⟩ := by kernel_rfl
theorem ti221 : tiOf Tryz.prog 221 = some ⟨1, false, [], none, [Value.map none], none, false, false, false, false, some (9, 3), false⟩ := by kernel_rfl
theorem ti233 : tiOf Tryz.prog 233 = some ⟨1, false, [], some (157, 1, 8), [Value.slice none 0 0], none, false, false, false, false, none, false⟩ := by kernel_rfl
theorem ti234 : tiOf Tryz.prog 234 = some ⟨2, true, [(0, 1), (1, 1)], none, [Value.slice none 0 0, Value.slice none 0 0], none, false, false, false, false, none, false⟩ := by kernel_rfl
theorem ti235 : tiOf Tryz.prog 235 = some ⟨2, true, [(0, 1), (1, 1)], none, [Value.slice none 0 0, Value.slice none 0 0], none, false, false, false, false, none, false⟩ := by kernel_rfl
theorem ti237 : tiOf Tryz.prog 237 = some ⟨2, true, [(0, 1), (1, 1)], none, [Value.string ⟨#[]⟩, Value.string ⟨#[]⟩], none, false, false, false, false, none, false⟩ := by kernel_rfl
theorem ti251 : tiOf Tryz.prog 251 = some ⟨4, true, [(0, 1), (1, 1), (2, 1), (3, 1)], none, [Value.pointer none, Value.pointer none, Value.pointer none, Value.string ⟨#[]⟩], none, false, false, false, false, none, false⟩ := by kernel_rfl
theorem ti252 : tiOf Tryz.prog 252 = some ⟨4, true, [(0, 1), (1, 1), (2, 1), (3, 1)], none, [Value.pointer none, Value.pointer none, Value.pointer none, Value.string ⟨#[]⟩], none, false, false, false, false, none, false⟩ := by kernel_rfl
theorem ti253 : tiOf Tryz.prog 253 = some ⟨0, true, [], none, [], none, false, false, false, false, none, false⟩ := by kernel_rfl
theorem ti254 : tiOf Tryz.prog 254 = some ⟨0, true, [(0, 0)], none, [], none, false, false, false, false, none, false⟩ := by kernel_rfl
theorem ti255 : tiOf Tryz.prog 255 = some ⟨0, true, [(0, 0)], none, [], none, false, false, false, false, none, false⟩ := by kernel_rfl
theorem ti256 : tiOf Tryz.prog 256 = some ⟨1, false, [], none, [Value.int IntKind.u32 0], some IntKind.u32, false, false, false, false, none, false⟩ := by kernel_rfl
theorem ti257 : tiOf Tryz.prog 257 = some ⟨1, false, [], none, [Value.int IntKind.u8 0], some IntKind.u8, false, false, false, false, none, false⟩ := by kernel_rfl
theorem ti258 : tiOf Tryz.prog 258 = some ⟨1, false, [], none, [Value.int IntKind.u8 0], some IntKind.u8, false, false, false, false, none, false⟩ := by kernel_rfl
theorem ti260 : tiOf Tryz.prog 260 = some ⟨1, false, [], none, [Value.pointer none], none, false, true, false, false, none, false⟩ := by kernel_rfl
theorem ti261 : tiOf Tryz.prog 261 = some ⟨1, false, [], none, [Value.int IntKind.i32 0], some IntKind.i32, false, false, false, false, none, false⟩ := by kernel_rfl
theorem ti262 : tiOf Tryz.prog 262 = some ⟨1, false, [], none, [Value.int IntKind.i32 0], some IntKind.i32, false, false, false, false, none, false⟩ := by kernel_rfl
theorem ti266 : tiOf Tryz.prog 266 = some ⟨1, false, [], none, [Value.pointer none], none, false, false, false, false, none, false⟩ := by kernel_rfl
theorem flPair : flatB Tryz.prog 141 [0, 0] = true := by kernel_rfl
abbrev In (i : Int) : AV := .c (.v (.int .i64 i))
abbrev Bo (b : Bool) : AV := .c (.v (.bool b))
abbrev Rw (es : List (List CV)) : AV := .c (.row false es)
set_option maxRecDepth 10000
theorem vc {P Q : Prop} (h : Q) (e : P = Q := by
  (simp (config := {maxSteps := 1000000, implicitDefEqProofs := false}) only [↓brB_true, ↓brB_false, upd_at, ↓reduceIte, Cfg.joins, firstReg, ne_eq, not_true_eq_false, not_false_eq_true, or_false, false_or, or_self, false_and, and_false, Int.toNat_natCast, Int.mul_one, Int.natCast_one, List.length_replicate, eB_length, Nat.reduceBneDiff, List.length_map, List.nodup_nil, List.nodup_cons, List.not_mem_nil, decide_true, decide_false, CV.im, Int.natCast_nonneg, Int.ofNat_lt, Int.ofNat_le, nat0, sim_v, Value.int.injEq, Value.bool.injEq, Value.string.injEq, outP, wkP, phO, numbered_nil, numbered_cons, drawR_nil, drawR_cons, drwK_app, stDK_app, gstepD_none, gstepD_some, grDQ_some, grDK_true, grDK_false, stepD_pick, stepD_alloc, stepD_box, stepD_load, stepD_store, stepD_fieldAddr, stepD_indexAddr, stepD_nilCheck, stepD_binOp, stepD_unOp, stepD_convert, stepD_index, stepD_slice, stepD_makeSlice, stepD_build, stepD_buildSlice, stepD_extract, stepD_builtin, stepD_moveF, stepD_moveT, stepD_assign, stepD_call, stepX_eq, res_at, Ck_eq, chkB_nil, chkB_cons, disj_nil, disj_cons, Array.toList_append, Bool.or_false, Bool.false_or, Bool.or_self, disj_nil_r, okPair, detFp, skipFp, refsL, refsA, nbA, nbL, nbO, Op.operands, Call.operands, Bool.or_true, Bool.true_or, Bool.false_and, Bool.and_false, kl_nil, klH_nil, kl_cons, klH_cons, after_eq, HpS_at, Nat.reduceSub, after0_eq, inlS_eq, killA, killL, killO, renA, renL, renO, rn, callObjs, viL, viA, viH, viO, List.getElem?_nil, Option.getD_some, Option.getD_none, boolK_c, guardK_c, guardK_tu, skpK_app, skDK_app, optK_some, optK_none, List.contains_nil, List.contains_cons, List.lookup_nil, List.lookup_cons, dstOf, bindK_some, bindK_none, evOp, getA, putT, updL, initT, sS, tS, hS, In, Bo, Rw, constA, zeroC, Value.oneCell', binV, binI, unV, evLen, isStrA, nilA, evLoad, evStore, evField, evIndexAddr, evConv, evSlice, boundA, loA, hiA, stC_length, inC_length, prC_length, ndC_length, shC_length, wrC_length, opC_length, suC_length, al_eB, al_z, eB_fold, al_st, al_in, al_pr, al_nd, al_sh, al_wr, al_op, al_su, allV_eB, allV_st, allV_in, allV_pr, allV_nil, allV_cons, isV_v, isV_row, isV_ptr, im_eB, im_st, im_in, im_pr, im_nd, im_sh, im_wr, eB_nil, eq_self, sim_nil, sim_eB, sim_st, sim_in, sim_pr, sim_nd, sim_sh, sim_wr, sim_op, sim_su, Int.reduceEq, Int.reduceNe, Int.reduceLT, Int.reduceLE, Int.reduceGT, Int.reduceGE, Int.reduceNeg, Int.reduceToNat, List.length_set, List.set_set, beq_self_eq_true, bne_self_eq_false, frzC_none, frzC_some, frz_nil, frz_cons, frS_eq, frA, frL, frO, frN, frP, frV, toFs, toF, flPair, binS, kOf, celEq, valEq, evCopy, nat512, optArr_some, optArr_none, memN, bytesOf_eB, eB_takeAll, rowOf, bytesOf, Nat.le_refl, evBuild_eq, evBuildSlice, evElems_nil, evElems_cons, range0, range1, range2, range3, range4, range5, range6, range7, range8, range9, repl0, repl1, repl2, repl3, repl4, repl5, repl6, repl7, repl8, repl9, List.flatten_cons, List.flatten_nil, Nat.zero_mul, Nat.one_mul, Nat.mul_one, pickF_nil, pickF_cons, all_nil', all_cons', false_implies, implies_true, cellsA, oneA, okA, lift, liftB, liftC, toC, toCs, splice, fillA, gone, goneO, Go.Proofs.YtnnmpdanfeejbaaGreat.Abs.distinct, evSrc, evAppend, srcP, List.getElem?_toArray, List.getElem?_cons_succ, List.getElem?_cons_zero, List.take_zero, List.drop_zero, List.take_succ_cons, List.drop_succ_cons, List.take_nil, List.drop_nil, List.cons_append, List.nil_append, List.append_nil, List.map_cons, List.map_nil, List.all_cons, List.all_nil, Option.isSome_some, Option.isSome_none, Option.map_some, Option.map_none, List.isEmpty_cons, List.isEmpty_nil, Bool.false_eq_true, Bool.and_true, Bool.true_and, Bool.and_self, Nat.reduceEqDiff, Nat.reduceLT, Nat.reduceLeDiff, Nat.reduceBEq, Nat.reduceSub, Nat.add_zero, Nat.zero_add, reduceIte, reduceCtorEq, Option.bind_some, Option.bind_none, Nat.reduceAdd, Nat.reduceMul, Bool.not_true, Bool.not_false, List.size_toArray, List.length_cons, List.length_nil, true_and, and_true, and_self, EndA, resV, isEnd, tupA, slotsP, objsP, wkA, wkL, wkO, gS, true_or, or_true, ti2, ti3, ti4, ti5, ti6, ti7, ti8, ti9, ti10, ti11, ti12, ti13, ti14, ti15, ti16, ti17, ti18, ti19, ti21, ti22, ti23, ti24, ti25, ti27, ti28, ti29, ti30, ti31, ti32, ti33, ti34, ti35, ti36, ti45, ti46, ti47, ti48, ti49, ti58, ti69, ti77, ti78, ti87, ti88, ti89, ti90, ti105, ti106, ti107, ti109, ti110, ti111, ti112, ti113, ti114, ti115, ti121, ti126, ti131, ti132, ti134, ti135, ti140, ti141, ti142, ti143, ti144, ti157, ti171, ti172, ti173, ti177, ti182, ti183, ti188, ti189, ti205, ti206, ti207, ti208, ti212, ti217, ti221, ti233, ti234, ti235, ti237, ti251, ti252, ti253, ti254, ti255, ti256, ti257, ti258, ti260, ti261, ti262, ti266, bindK_ite, seqC_normal, seqC_exit, seqC_ret, blkC_normal, blkC_exit, blkC_ret, lopC_normal, lopC_exit, lopC_ret, endC_normal, endC_ret, endR_app, seqK_app, stK_app, cndK_app, wpC_seq, wpC_skip, wpC_region, wpC_draw, wpC_cond, wpC_block, wpC_loop, wpC_exit, wpC_ret, seqR_nil, seqR_cons, gstp_none, gstp_some, grdQ_some, grdK_true, grdK_false, stp_call, stp_builtin, stp_move, stp_assign, stp_pick, stp_alloc, stp_box, stp_load, stp_store, stp_fieldAddr, stp_indexAddr, stp_nilCheck, stp_binOp, stp_unOp, stp_convert, stp_index, stp_slice, stp_makeSlice, stp_build, stp_buildSlice, stp_extract, stp_makeMap, stp_lookup, stp_mapUpdate, stp_callT, funK_c, opK_none, opK_some, regK_app, drwQ_app, List.toList_toArray]) <;> exact rfl) : P := e.mpr h
/-- The same, behind a call: so that nothing looks into the code that is still to come. -/
theorem vc4 {A B C P Q : Prop} (ha : A) (hb : B) (hc : C) (h : Q) (e : P = Q := by
  (simp (config := {maxSteps := 1000000, implicitDefEqProofs := false}) only [↓brB_true, ↓brB_false, upd_at, ↓reduceIte, Cfg.joins, firstReg, ne_eq, not_true_eq_false, not_false_eq_true, or_false, false_or, or_self, false_and, and_false, Int.toNat_natCast, Int.mul_one, Int.natCast_one, List.length_replicate, eB_length, Nat.reduceBneDiff, List.length_map, List.nodup_nil, List.nodup_cons, List.not_mem_nil, decide_true, decide_false, CV.im, Int.natCast_nonneg, Int.ofNat_lt, Int.ofNat_le, nat0, sim_v, Value.int.injEq, Value.bool.injEq, Value.string.injEq, outP, wkP, phO, numbered_nil, numbered_cons, drawR_nil, drawR_cons, drwK_app, stDK_app, gstepD_none, gstepD_some, grDQ_some, grDK_true, grDK_false, stepD_pick, stepD_alloc, stepD_box, stepD_load, stepD_store, stepD_fieldAddr, stepD_indexAddr, stepD_nilCheck, stepD_binOp, stepD_unOp, stepD_convert, stepD_index, stepD_slice, stepD_makeSlice, stepD_build, stepD_buildSlice, stepD_extract, stepD_builtin, stepD_moveF, stepD_moveT, stepD_assign, stepD_call, stepX_eq, res_at, Ck_eq, chkB_nil, chkB_cons, disj_nil, disj_cons, Array.toList_append, Bool.or_false, Bool.false_or, Bool.or_self, disj_nil_r, okPair, detFp, skipFp, refsL, refsA, nbA, nbL, nbO, Op.operands, Call.operands, Bool.or_true, Bool.true_or, Bool.false_and, Bool.and_false, kl_nil, klH_nil, kl_cons, klH_cons, after_eq, HpS_at, Nat.reduceSub, after0_eq, inlS_eq, killA, killL, killO, renA, renL, renO, rn, callObjs, viL, viA, viH, viO, List.getElem?_nil, Option.getD_some, Option.getD_none, boolK_c, guardK_c, guardK_tu, skpK_app, skDK_app, optK_some, optK_none, List.contains_nil, List.contains_cons, List.lookup_nil, List.lookup_cons, dstOf, bindK_some, bindK_none, evOp, getA, putT, updL, initT, sS, tS, hS, In, Bo, Rw, constA, zeroC, Value.oneCell', binV, binI, unV, evLen, isStrA, nilA, evLoad, evStore, evField, evIndexAddr, evConv, evSlice, boundA, loA, hiA, stC_length, inC_length, prC_length, ndC_length, shC_length, wrC_length, opC_length, suC_length, al_eB, al_z, eB_fold, al_st, al_in, al_pr, al_nd, al_sh, al_wr, al_op, al_su, allV_eB, allV_st, allV_in, allV_pr, allV_nil, allV_cons, isV_v, isV_row, isV_ptr, im_eB, im_st, im_in, im_pr, im_nd, im_sh, im_wr, eB_nil, eq_self, sim_nil, sim_eB, sim_st, sim_in, sim_pr, sim_nd, sim_sh, sim_wr, sim_op, sim_su, Int.reduceEq, Int.reduceNe, Int.reduceLT, Int.reduceLE, Int.reduceGT, Int.reduceGE, Int.reduceNeg, Int.reduceToNat, List.length_set, List.set_set, beq_self_eq_true, bne_self_eq_false, frzC_none, frzC_some, frz_nil, frz_cons, frS_eq, frA, frL, frO, frN, frP, frV, toFs, toF, flPair, binS, kOf, celEq, valEq, evCopy, nat512, optArr_some, optArr_none, memN, bytesOf_eB, eB_takeAll, rowOf, bytesOf, Nat.le_refl, evBuild_eq, evBuildSlice, evElems_nil, evElems_cons, range0, range1, range2, range3, range4, range5, range6, range7, range8, range9, repl0, repl1, repl2, repl3, repl4, repl5, repl6, repl7, repl8, repl9, List.flatten_cons, List.flatten_nil, Nat.zero_mul, Nat.one_mul, Nat.mul_one, pickF_nil, pickF_cons, all_nil', all_cons', false_implies, implies_true, cellsA, oneA, okA, lift, liftB, liftC, toC, toCs, splice, fillA, gone, goneO, Go.Proofs.YtnnmpdanfeejbaaGreat.Abs.distinct, evSrc, evAppend, srcP, List.getElem?_toArray, List.getElem?_cons_succ, List.getElem?_cons_zero, List.take_zero, List.drop_zero, List.take_succ_cons, List.drop_succ_cons, List.take_nil, List.drop_nil, List.cons_append, List.nil_append, List.append_nil, List.map_cons, List.map_nil, List.all_cons, List.all_nil, Option.isSome_some, Option.isSome_none, Option.map_some, Option.map_none, List.isEmpty_cons, List.isEmpty_nil, Bool.false_eq_true, Bool.and_true, Bool.true_and, Bool.and_self, Nat.reduceEqDiff, Nat.reduceLT, Nat.reduceLeDiff, Nat.reduceBEq, Nat.reduceSub, Nat.add_zero, Nat.zero_add, reduceIte, reduceCtorEq, Option.bind_some, Option.bind_none, Nat.reduceAdd, Nat.reduceMul, Bool.not_true, Bool.not_false, List.size_toArray, List.length_cons, List.length_nil, true_and, and_true, and_self, EndA, resV, isEnd, tupA, slotsP, objsP, wkA, wkL, wkO, gS, true_or, or_true, ti2, ti3, ti4, ti5, ti6, ti7, ti8, ti9, ti10, ti11, ti12, ti13, ti14, ti15, ti16, ti17, ti18, ti19, ti21, ti22, ti23, ti24, ti25, ti27, ti28, ti29, ti30, ti31, ti32, ti33, ti34, ti35, ti36, ti45, ti46, ti47, ti48, ti49, ti58, ti69, ti77, ti78, ti87, ti88, ti89, ti90, ti105, ti106, ti107, ti109, ti110, ti111, ti112, ti113, ti114, ti115, ti121, ti126, ti131, ti132, ti134, ti135, ti140, ti141, ti142, ti143, ti144, ti157, ti171, ti172, ti173, ti177, ti182, ti183, ti188, ti189, ti205, ti206, ti207, ti208, ti212, ti217, ti221, ti233, ti234, ti235, ti237, ti251, ti252, ti253, ti254, ti255, ti256, ti257, ti258, ti260, ti261, ti262, ti266, bindK_ite, seqC_normal, seqC_exit, seqC_ret, blkC_normal, blkC_exit, blkC_ret, lopC_normal, lopC_exit, lopC_ret, endC_normal, endC_ret, endR_app, seqK_app, stK_app, cndK_app, wpC_seq, wpC_skip, wpC_region, wpC_draw, wpC_cond, wpC_block, wpC_loop, wpC_exit, wpC_ret, seqR_nil, seqR_cons, gstp_none, gstp_some, grdQ_some, grdK_true, grdK_false, stp_call, stp_builtin, stp_move, stp_assign, stp_pick, stp_alloc, stp_box, stp_load, stp_store, stp_fieldAddr, stp_indexAddr, stp_nilCheck, stp_binOp, stp_unOp, stp_convert, stp_index, stp_slice, stp_makeSlice, stp_build, stp_buildSlice, stp_extract, stp_makeMap, stp_lookup, stp_mapUpdate, stp_callT, funK_c, opK_none, opK_some, regK_app, drwQ_app, List.toList_toArray]) <;> exact rfl) : A ∧ B ∧ C ∧ P := ⟨ha, hb, hc, e.mpr h⟩
end Go.Proofs.YtnnmpdanfeejbaaGreat.Abs

/- The laws' helpers on bytes: their contracts. -/
namespace Go.Proofs.YtnnmpdanfeejbaaGreat.Abs
open Go Go.Proofs
set_option maxRecDepth 10000
set_option linter.unusedVariables false
set_option linter.unusedSimpArgs false
theorem map_take_next {α β : Type} (f : α → β) {xs : List α} {i : Nat} {x : α} (hx : xs[i]? = some x) : (xs.take i).map f ++ [f x] = (xs.take (i + 1)).map f := by
  rw [List.take_add_one, hx, List.map_append]; rfl
theorem toByteS_ok (l : List UInt8) (hl : l.length ≤ 2^40) : CallOk Tryz.prog 161 [] [Rw (eB l)] (fun r out => r = .sl 1 l.length ∧ out = [some (.rw 5 1 (eB l))]) := by
  refine callOk_z (np := 0) {} mixed Tryz.func161 (by rfl) Tryz.ntmps161 Tryz.results161 (by rfl) (Nat.le_of_ble_eq_true rfl) rfl rfl rfl (vc ?_)
  refine ⟨by omega, ?_⟩
  refine loopQ_of (fun i => [(0, Rw (eB l)), (3, .sl 1 l.length), (4, In (i : Nat))]) (fun i => [(1, .rw 5 1 (eB (l.take i) ++ List.replicate (l.length - i) [.v (.int .u8 0)]))]) 2 (fun i => l.length - i) (fun i => i ≤ l.length) 0 (Nat.zero_le _) [(1, 25)] (by rfl) (vc trivial) (vc ?_) (fun i hi N hN => vc (brB_intro (fun h => ?_) (fun h => ?_)))
  · rfl
  · have h : i < l.length := by simpa using h
    have hx := List.getElem?_eq_getElem h
    rw [eB_some hx]
    refine vc ?_
    refine ⟨⟨h, by simp [eB]; omega⟩, ?_⟩
    rw [eB, fill_get _ _ _ _ h]
    refine vc ?_
    refine hN _ (i + 1) [] (by omega) (by omega) (by rfl) (vc ?_) (vc ?_)
    · rw [w64 _ (by omega)]; simp
    · exact fill_set (fun b : UInt8 => [.v (.int .u8 b.toNat)]) _ l i _ hx
  · have h : i = l.length := by simp at h; omega
    refine endQ_of [] (.sl 1 l.length) [some (.rw 5 1 (eB l))] (by rfl) (vc trivial) (vc ?_) ⟨rfl, rfl⟩
    simp [h]
theorem u8_ne (a b : UInt8) : ((((a.toNat : Nat) : Int) != ((b.toNat : Nat) : Int)) = false) ↔ a = b := by
  constructor
  · intro h
    have h1 : ((a.toNat : Nat) : Int) = ((b.toNat : Nat) : Int) := by simpa using h
    exact UInt8.toNat_inj.1 (by omega)
  · rintro rfl; simp
theorem take_next {α : Type} {l m : List α} {i : Nat} {x y : α} (h : l.take i = m.take i) (hx : l[i]? = some x) (hy : m[i]? = some y) (e : x = y) : l.take (i + 1) = m.take (i + 1) := by
  rw [List.take_add_one, List.take_add_one, h, hx, hy, e]
theorem eqByteS_ok (l m : List UInt8) (hl : l.length ≤ 2^40) : CallOk Tryz.prog 169 [] [Rw (eB l), Rw (eB m)] (fun r out => r = Bo (decide (l = m)) ∧ out = []) := by
  refine callOk_z (np := 0) {} mixed Tryz.func169 (by rfl) Tryz.ntmps169 Tryz.results169 (by rfl) (Nat.le_of_ble_eq_true rfl) rfl rfl rfl (vc ?_)
  refine brB_intro (fun h => EndQ.closed (.v _) ⟨?_, rfl⟩) (fun h => ?_)
  · have : l ≠ m := fun e => by simp [e] at h
    simp [this]
  have h0 : l.length = m.length := by have : ((l.length : Nat) : Int) = m.length := by simpa using h
                                      omega
  refine loopQ_of (fun i => [(0, Rw (eB l)), (1, Rw (eB m)), (5, In (i : Nat))]) (fun i => []) 1 (fun i => l.length - i) (fun i => i ≤ l.length ∧ l.take i = m.take i) 0 ⟨Nat.zero_le _, rfl⟩ [] (by rfl) (vc trivial) (vc trivial) (fun i hi N hN => vc (brB_intro (fun h => ?_) (fun h => ?_)))
  · have h : i < l.length := by simpa using h
    have hx := List.getElem?_eq_getElem h
    have hy := List.getElem?_eq_getElem (h0 ▸ h)
    refine drawQ_of false (by rfl) (by simp) (vc ?_)
    rw [eB_some hx]
    refine vc ?_
    rw [eB_some hy]
    refine vc ?_
    refine brB_intro (fun hb => EndQ.closed (.v _) ⟨?_, rfl⟩) (fun hb => ?_)
    · have : l ≠ m := fun e => by subst e; simp at hb
      simp [this]
    · refine hN _ (i + 1) [] ⟨h, take_next hi.2 hx hy ((u8_ne _ _).1 hb)⟩ (by omega) (by rfl) (vc ?_) (vc trivial)
      rw [w64 _ (by omega)]; simp
  · have h : i = l.length := by simp at h; omega
    refine EndQ.closed (.v _) ⟨?_, rfl⟩
    have : l = m := by have := hi.2; rw [h, List.take_length, h0, List.take_length] at this; exact this
    simp [this]

/-- The sizes' sum. -/
def sumL {α : Type} (f : α → Nat) (xs : List α) : Nat := (xs.map f).sum
theorem sumL_nil {α : Type} (f : α → Nat) : sumL f [] = 0 := rfl
theorem sumL_cons {α : Type} (f : α → Nat) (x : α) (r : List α) : sumL f (x :: r) = f x + sumL f r := by simp [sumL]
theorem sumL_next {α : Type} (f : α → Nat) {xs : List α} {i : Nat} {x : α} (h : xs[i]? = some x) : sumL f (xs.take (i + 1)) = sumL f (xs.take i) + f x := by
  rw [List.take_add_one, h]; simp [sumL]
theorem sumL_le {α : Type} (f : α → Nat) (xs : List α) (i : Nat) : sumL f (xs.take i) ≤ sumL f xs := by
  conv => rhs; rw [← List.take_append_drop i xs]
  simp only [sumL, List.map_append, List.sum_append]
  omega
/-- What a mark writes into a row: element by element, with the numbers going on. -/
def mkL {α : Type} (f : α → Int → α) (c : α → Nat) : List α → Int → List α
  | [], _ => []
  | x :: r, k => f x k :: mkL f c r (k + c x)
theorem mkL_length {α : Type} (f : α → Int → α) (c : α → Nat) : ∀ (xs : List α) (k : Int), (mkL f c xs k).length = xs.length
  | [], _ => rfl
  | x :: r, k => by simp [mkL, mkL_length f c r]
theorem mkL_get {α : Type} (f : α → Int → α) (c : α → Nat) : ∀ {xs : List α} {k : Int} {i : Nat} {x : α}, xs[i]? = some x → (mkL f c xs k)[i]? = some (f x (k + sumL c (xs.take i)))
  | [], _, _, _, h => by simp at h
  | x :: r, k, 0, y, h => by
    simp at h; subst h
    simp [mkL, sumL_nil]
  | x :: r, k, i + 1, y, h => by
    have := mkL_get f c (xs := r) (k := k + c x) (i := i) (x := y) (by simpa using h)
    rw [mkL, List.getElem?_cons_succ, this, List.take_succ_cons, sumL_cons, Int.natCast_add, Int.add_assoc]
theorem mkL_idem {α : Type} {f : α → Int → α} {c : α → Nat} (h : ∀ x k, f (f x k) k = f x k ∧ c (f x k) = c x) : ∀ (xs : List α) (k : Int), mkL f c (mkL f c xs k) k = mkL f c xs k ∧ sumL c (mkL f c xs k) = sumL c xs
  | [], _ => ⟨rfl, rfl⟩
  | x :: r, k => by
    have ih := mkL_idem h r (k + c x)
    simp only [mkL, sumL_cons, (h x k).1, (h x k).2]
    exact ⟨by rw [ih.1], by rw [ih.2]⟩
theorem mix_get {α β : Type} (enc : α → β) {M xs : List α} {i : Nat} (hM : M.length = xs.length) {x : α} (hx : xs[i]? = some x) : ((M.take i ++ xs.drop i).map enc)[i]? = some (enc x) := by
  have h : i < xs.length := (List.getElem?_eq_some_iff.1 hx).1
  rw [List.getElem?_map, List.getElem?_append_right (by simp; omega), List.getElem?_drop, List.length_take, show i + (i - min i M.length) = i by omega, hx]; rfl
theorem mix_set {α β : Type} (enc : α → β) {M xs : List α} {i : Nat} (hM : M.length = xs.length) {y : α} (hy : M[i]? = some y) : ((M.take i ++ xs.drop i).map enc).set i (enc y) = (M.take (i + 1) ++ xs.drop (i + 1)).map enc := by
  have h : i < xs.length := hM ▸ (List.getElem?_eq_some_iff.1 hy).1
  rw [List.take_add_one, hy, List.drop_eq_getElem_cons h]
  simp only [List.map_append, List.map_cons, Option.toList_some, List.map_nil, List.append_assoc, List.cons_append, List.nil_append]
  rw [List.set_append_right _ _ (by simp; omega)]
  have : i - (List.map enc (List.take i M)).length = 0 := by simp; omega
  rw [this, List.set_cons_zero]
theorem set_self {α : Type} {A : List α} {i : Nat} {x : α} (h : A[i]? = some x) : A.set i x = A := by
  apply List.ext_getElem?
  intro j
  rw [List.getElem?_set]
  split
  · rename_i e
    subst e
    split
    · exact h.symm
    · rename_i hl
      rw [List.getElem?_eq_none (by omega)]
  · rfl
theorem mix_all {α : Type} {M xs : List α} {i : Nat} (hM : M.length = xs.length) (h : i = xs.length) : M.take i ++ xs.drop i = M := by
  subst h
  rw [List.drop_length, List.append_nil, List.take_of_length_le (by omega)]
/-- The bytes that a mark writes. -/
def bk (k : Int) : UInt8 := UInt8.ofNat (k % 256).toNat
theorem bk_wrap (k : Int) : (((bk k).toNat : Nat) : Int) = IntKind.u8.wrap k := by
  rw [w8, bk, UInt8.toNat_ofNat']
  have h1 : 0 ≤ k % 256 := Int.emod_nonneg _ (by omega)
  have h2 : k % 256 < 256 := Int.emod_lt_of_pos _ (by omega)
  omega
def mkB (n : Nat) (k : Int) : List UInt8 := (List.range n).map fun (i : Nat) => bk (k + (i : Int))
theorem mkB_length (n : Nat) (k : Int) : (mkB n k).length = n := by simp [mkB]
def szB (n : Nat) (left : Int) : Int := if left - n < 0 then -1 else left - n

theorem szByteS_ok (l : List UInt8) (k : Int) (hl : l.length ≤ 2^47) (hk : -1 ≤ k ∧ k ≤ 2^40) : CallOk Tryz.prog 152 [] [Rw (eB l), In k] (fun r out => r = In (szB l.length k) ∧ out = []) := by
  refine callOk_z (np := 0) {} mixed Tryz.func152 (by rfl) Tryz.ntmps152 Tryz.results152 (by rfl) (Nat.le_of_ble_eq_true rfl) rfl rfl rfl (vc ?_)
  rw [w64 _ (by omega)]
  refine brB_intro (fun h => EndQ.closed (.v _) ⟨?_, rfl⟩) (fun h => EndQ.closed (.v _) ⟨?_, rfl⟩)
  · have h : k - l.length < 0 := by simpa using h
    rw [szB, if_pos h]
  · have h : ¬ k - l.length < 0 := by simpa using h
    rw [szB, if_neg h]

theorem heldByteS_ok (l : List UInt8) (k : Int) (hk : 0 ≤ k ∧ k + l.length ≤ 2^60) : CallOk Tryz.prog 83 [] [Rw (eB l), In k] (fun r out => r = In (if l = mkB l.length k then k + l.length else -1) ∧ out = []) := by
  refine callOk_z (np := 0) {} mixed Tryz.func83 (by rfl) Tryz.ntmps83 Tryz.results83 (by rfl) (Nat.le_of_ble_eq_true rfl) rfl rfl rfl (vc ?_)
  have hm : ∀ i, i < l.length → (mkB l.length k)[i]? = some (bk (k + i)) := fun i hi => by simp [mkB, hi]
  refine loopQ_of (fun i => [(0, Rw (eB l)), (1, In (k + (i : Nat))), (5, In (i : Nat))]) (fun i => []) 1 (fun i => l.length - i) (fun i => i ≤ l.length ∧ l.take i = (mkB l.length k).take i) 0 ⟨Nat.zero_le _, rfl⟩ [] (by rfl) (vc ?_) (vc trivial) (fun i hi N hN => vc (brB_intro (fun h => ?_) (fun h => ?_)))
  · simp
  · have h : i < l.length := by simpa using h
    have hx := List.getElem?_eq_getElem h
    rw [eB_some hx]
    refine vc ?_
    rw [← bk_wrap]
    refine brB_intro (fun hb => EndQ.closed (.v _) ⟨?_, rfl⟩) (fun hb => ?_)
    · have : l ≠ mkB l.length k := fun e => by
        have h2 := hm i h
        rw [← e, hx] at h2
        rw [Option.some.inj h2] at hb
        simp at hb
      rw [if_neg this]
    · refine hN _ (i + 1) [] ⟨h, take_next hi.2 hx (hm i h) ((u8_ne _ _).1 hb)⟩ (by omega) (by rfl) (vc ?_) (vc trivial)
      rw [w64 _ (by omega), w64 _ (by omega)]
      simp; omega
  · have h : i = l.length := by simp at h; omega
    refine EndQ.closed (.v _) ⟨?_, rfl⟩
    have : l = mkB l.length k := by have := hi.2; rw [h, List.take_length, List.take_of_length_le (by rw [mkB_length]; omega)] at this; exact this
    rw [if_pos this, h]

theorem markByteS_ok (ty : Nat) (l : List UInt8) (k : Int) (hk : 0 ≤ k ∧ k + l.length ≤ 2^60) : CallOk Tryz.prog 82 [.rw ty 1 (eB l)] [.sl 1 l.length, In k] (fun r out => r = In (k + l.length) ∧ out = [some (.rw ty 1 (eB (mkB l.length k)))]) := by
  refine callOk_z (np := 1) {} mixed Tryz.func82 (by rfl) Tryz.ntmps82 Tryz.results82 (by rfl) (Nat.le_of_ble_eq_true rfl) rfl rfl rfl (vc ?_)
  have hm : ∀ i, i < l.length → (mkB l.length k)[i]? = some (bk (k + i)) := fun i hi => by simp [mkB, hi]
  refine loopQ_of (fun i => [(0, .sl 1 l.length), (1, In (k + (i : Nat))), (5, In (i : Nat))]) (fun i => [(1, .rw ty 1 (eB ((mkB l.length k).take i ++ l.drop i)))]) 2 (fun i => l.length - i) (fun i => i ≤ l.length) 0 (Nat.zero_le _) [] (by rfl) (vc ?_) (vc ?_) (fun i hi N hN => vc (brB_intro (fun h => ?_) (fun h => ?_)))
  · simp
  · simp [HpS, wkO]
  · have h : i < l.length := by simpa using h
    have hg : (eB ((mkB l.length k).take i ++ l.drop i))[i]? = some [.v (.int .u8 l[i].toNat)] := eB_some (by
      rw [List.getElem?_append_right (by simp [mkB]; omega), List.getElem?_drop, List.length_take, mkB_length, show i + (i - min i l.length) = i by omega, List.getElem?_eq_getElem h])
    refine ⟨⟨h, by simp [mkB]; omega⟩, ?_⟩
    rw [hg]
    refine vc ?_
    refine hN _ (i + 1) [] h (by omega) (by rfl) (vc ?_) (vc ?_)
    · rw [w64 _ (by omega), w64 _ (by omega)]
      simp; omega
    · rw [← bk_wrap]
      have hm' := hm i h
      rw [List.take_add_one, hm', List.drop_eq_getElem_cons h]
      simp only [eB, List.map_append, List.map_cons, Option.toList_some, List.map_nil, List.append_assoc, List.cons_append, List.nil_append]
      rw [List.set_append_right _ _ (by simp [mkB]; omega)]
      have : i - (List.map (fun b : UInt8 => [CV.v (Value.int IntKind.u8 ↑b.toNat)]) (List.take i (mkB l.length k))).length = 0 := by simp [mkB]; omega
      rw [this, List.set_cons_zero]
  · have h : i = l.length := by simp at h; omega
    refine endQ_of [] (In (k + l.length)) [some (.rw ty 1 (eB (mkB l.length k)))] (by rfl) (vc ?_) (vc ?_) ⟨rfl, rfl⟩
    · rw [h]
    · subst h
      rw [List.take_of_length_le (by rw [mkB_length]; omega), List.drop_length, List.append_nil]
theorem markByteS_nil (k : Int) (hk : 0 ≤ k ∧ k ≤ 2^60) (b : Bool) : CallOk Tryz.prog 82 [] [.c (.row b []), In k] (fun r out => r = In k ∧ out = []) := by
  refine callOk_z (np := 0) {} mixed Tryz.func82 (by rfl) Tryz.ntmps82 Tryz.results82 (by rfl) (Nat.le_of_ble_eq_true rfl) rfl rfl rfl (vc ?_)
  refine loopQ_of (ι := Unit) (fun i => [(0, .c (.row b [])), (1, In k), (5, In (0 : Nat))]) (fun i => []) 1 (fun i => 0) (fun i => True) () trivial [] (by rfl) (vc trivial) (vc trivial) (fun i hi N hN => vc ?_)
  exact EndQ.closed (.v _) ⟨rfl, rfl⟩
open Classical in
noncomputable def tf (p : Prop) : Bool := decide p
theorem tf_true {p : Prop} (h : p) : tf p = true := by simp [tf, h]
theorem tf_false {p : Prop} (h : ¬ p) : tf p = false := by simp [tf, h]
theorem all_next {α : Type} {p : α → Prop} {xs : List α} {i : Nat} {x : α} (h : ∀ y ∈ xs.take i, p y) (hx : xs[i]? = some x) (hp : p x) : ∀ y ∈ xs.take (i + 1), p y := by
  intro y hy
  rw [List.take_add_one, hx, List.mem_append] at hy
  rcases hy with hy | hy
  · exact h y hy
  · simp at hy; subst hy; exact hp
theorem all_full {α : Type} {p : α → Prop} {xs : List α} {i : Nat} (h : ∀ y ∈ xs.take i, p y) (hi : i = xs.length) : ∀ y ∈ xs, p y := by
  rw [hi, List.take_length] at h; exact h
end Go.Proofs.YtnnmpdanfeejbaaGreat.Abs

/- The laws' helpers on sheets, writes, disks: their contracts. -/
namespace Go.Proofs.YtnnmpdanfeejbaaGreat.Abs
open Go Go.Proofs
set_option maxRecDepth 10000
set_option linter.unusedVariables false
set_option linter.unusedSimpArgs false
theorem toSheet_ok (l : List UInt8) (hl : l.length ≤ 2^40) : CallOk Tryz.prog 102 [] [.ag [Rw (eB l)]] (fun r out => r = .ag [.sl 1 l.length] ∧ out = [some (.rw 5 1 (eB l))]) := by
  refine callOk_z (np := 0) {} mixed Tryz.func102 (by rfl) Tryz.ntmps102 Tryz.results102 (by rfl) (Nat.le_of_ble_eq_true rfl) rfl rfl rfl (vc ?_)
  refine callq_of false [] (toByteS_ok l hl) rfl trivial (vc trivial) ?_
  rintro r out ⟨rfl, rfl⟩
  refine ⟨by simp, by simp, by simp, vc ?_⟩
  exact endQ_of [(1, 41)] (.ag [.sl 1 l.length]) [some (.rw 5 1 (eB l))] (by rfl) (vc trivial) (vc trivial) ⟨rfl, rfl⟩
theorem get_map {α β : Type} {f : α → β} {l : List α} {i : Nat} {x : α} (h : l[i]? = some x) : (l.map f)[i]? = some (f x) := by rw [List.getElem?_map, h]; rfl
theorem toSheetS_ok (xs : List (List UInt8)) (hl : xs.length ≤ 2^40) (hs : ∀ x ∈ xs, x.length ≤ 2^40) : CallOk Tryz.prog 45 [] [Rw (xs.map (shC false))] (fun r out => r = .sl 1 xs.length ∧ out = [some (.rw 135 1 (xs.map (shC true)))]) := by
  refine callOk_z (np := 0) {} mixed Tryz.func45 (by rfl) Tryz.ntmps45 Tryz.results45 (by rfl) (Nat.le_of_ble_eq_true rfl) rfl rfl rfl (vc ?_)
  refine ⟨⟨by omega, by omega⟩, ?_⟩
  refine loopQ_of (fun i => [(0, Rw (xs.map (shC false))), (3, .sl 1 xs.length), (4, In (i : Nat))]) (fun i => [(1, .rw 135 1 ((xs.take i).map (shC true) ++ List.replicate (xs.length - i) [.row true []]))]) 2 (fun i => xs.length - i) (fun i => i ≤ xs.length) 0 (Nat.zero_le _) [(1, 25)] (by rfl) (vc trivial) (vc ?_) (fun i hi N hN => vc (brB_intro (fun h => ?_) (fun h => ?_)))
  · rfl
  · have h : i < xs.length := by simpa using h
    have hx := List.getElem?_eq_getElem h
    rw [get_map hx, shC]
    refine vc ?_
    refine callq_of false [] (toSheet_ok _ (hs _ (List.getElem_mem h))) rfl trivial (vc trivial) ?_
    rintro r out ⟨rfl, rfl⟩
    refine ⟨by simp, by simp, by simp, vc ?_⟩
    refine ⟨⟨h, by simp; omega⟩, ?_⟩
    rw [fill_get _ _ _ _ h]
    refine vc ?_
    refine hN _ (i + 1) [] h (by omega) (by rfl) (vc ?_) (vc ?_)
    · rw [w64 _ (by omega)]; simp
    · exact fill_set (shC true) _ xs i _ hx
  · have h : i = xs.length := by simp at h; omega
    refine endQ_of [] (.sl 1 xs.length) [some (.rw 135 1 (xs.map (shC true)))] (by rfl) (vc trivial) (vc ?_) ⟨rfl, rfl⟩
    simp [h]

theorem toWrite_ok (a : Int) (l : List UInt8) (hl : l.length ≤ 2^40) : CallOk Tryz.prog 103 [] [.ag [In a, Rw (eB l)]] (fun r out => r = .ag [In a, .sl 1 l.length] ∧ out = [some (.rw 5 1 (eB l))]) := by
  refine callOk_z (np := 0) {} mixed Tryz.func103 (by rfl) Tryz.ntmps103 Tryz.results103 (by rfl) (Nat.le_of_ble_eq_true rfl) rfl rfl rfl (vc ?_)
  refine callq_of false [] (toByteS_ok l hl) rfl trivial (vc trivial) ?_
  rintro r out ⟨rfl, rfl⟩
  refine ⟨by simp, by simp, by simp, vc ?_⟩
  exact endQ_of [(1, 73)] (.ag [In a, .sl 1 l.length]) [some (.rw 5 1 (eB l))] (by rfl) (vc trivial) (vc trivial) ⟨rfl, rfl⟩
theorem toWriteS_ok (xs : List (Int × List UInt8)) (hl : xs.length ≤ 2^40) (hs : ∀ x ∈ xs, x.2.length ≤ 2^40) : CallOk Tryz.prog 46 [] [Rw (xs.map (wrC false))] (fun r out => r = .sl 1 xs.length ∧ out = [some (.rw 113 2 (xs.map (wrC true)))]) := by
  refine callOk_z (np := 0) {} mixed Tryz.func46 (by rfl) Tryz.ntmps46 Tryz.results46 (by rfl) (Nat.le_of_ble_eq_true rfl) rfl rfl rfl (vc ?_)
  refine ⟨⟨by omega, by omega⟩, ?_⟩
  refine loopQ_of (fun i => [(0, Rw (xs.map (wrC false))), (3, .sl 1 xs.length), (4, In (i : Nat))]) (fun i => [(1, .rw 113 2 ((xs.take i).map (wrC true) ++ List.replicate (xs.length - i) [.v (.int .i64 0), .row true []]))]) 2 (fun i => xs.length - i) (fun i => i ≤ xs.length) 0 (Nat.zero_le _) [(1, 25)] (by rfl) (vc trivial) (vc ?_) (fun i hi N hN => vc (brB_intro (fun h => ?_) (fun h => ?_)))
  · rfl
  · have h : i < xs.length := by simpa using h
    have hx := List.getElem?_eq_getElem h
    rw [get_map hx, wrC]
    refine vc ?_
    refine callq_of false [] (toWrite_ok xs[i].1 xs[i].2 (hs _ (List.getElem_mem h))) rfl trivial (vc trivial) ?_
    rintro r out ⟨rfl, rfl⟩
    refine ⟨by simp, by simp, by simp, vc ?_⟩
    refine ⟨⟨h, by simp; omega⟩, ?_⟩
    rw [fill_get _ _ _ _ h]
    refine vc ?_
    refine hN _ (i + 1) [] h (by omega) (by rfl) (vc ?_) (vc ?_)
    · rw [w64 _ (by omega)]; simp
    · exact fill_set (wrC true) _ xs i _ hx
  · have h : i = xs.length := by simp at h; omega
    refine endQ_of [] (.sl 1 xs.length) [some (.rw 113 2 (xs.map (wrC true)))] (by rfl) (vc trivial) (vc ?_) ⟨rfl, rfl⟩
    simp [h]

/-- A disk. -/
structure Dk where
  sh : List (List UInt8)
  wr : List (Int × List UInt8)
  deriving DecidableEq, Inhabited
/-- Its sizes are in bounds. -/
def Dk.fits (M : Nat) (d : Dk) : Prop := d.sh.length ≤ M ∧ (∀ x ∈ d.sh, x.length ≤ M) ∧ d.wr.length ≤ M ∧ ∀ x ∈ d.wr, x.2.length ≤ M
def Dk.rd (d : Dk) : AV := .ag [Rw (d.sh.map (shC false)), Rw (d.wr.map (wrC false))]
def Dk.ow (d : Dk) : AV := .ag [.sl 1 d.sh.length, .sl 2 d.wr.length]
def Dk.obs (d : Dk) : List Ob := [.rw 135 1 (d.sh.map (shC true)), .rw 113 2 (d.wr.map (wrC true))]
theorem toDisk_ok (d : Dk) (hd : d.fits (2^40)) : CallOk Tryz.prog 10 [] [d.rd] (fun r out => r = d.ow ∧ out = d.obs.map some) := by
  unfold Dk.rd
  refine callOk_z (np := 0) {} mixed Tryz.func10 (by rfl) Tryz.ntmps10 Tryz.results10 (by rfl) (Nat.le_of_ble_eq_true rfl) rfl rfl rfl (vc ?_)
  refine callq_of false [] (toSheetS_ok d.sh hd.1 hd.2.1) rfl trivial (vc trivial) ?_
  rintro r out ⟨rfl, rfl⟩
  refine ⟨by simp, by simp, by simp, vc ?_⟩
  refine callq_of false [] (toWriteS_ok d.wr hd.2.2.1 hd.2.2.2) rfl trivial (vc trivial) ?_
  rintro r out ⟨rfl, rfl⟩
  refine ⟨by simp, by simp, by simp, vc ?_⟩
  exact endQ_of [(1, 41), (2, 81)] d.ow (d.obs.map some) (by rfl) (by unfold Dk.ow; exact vc trivial) (by unfold Dk.obs; exact vc trivial) ⟨rfl, rfl⟩

theorem szB_cases (n : Nat) (k : Int) : (k < n ∧ szB n k = -1) ∨ (n ≤ k ∧ szB n k = k - n) := by
  unfold szB
  split
  · exact .inl ⟨by omega, rfl⟩
  · exact .inr ⟨by omega, rfl⟩
theorem szSheet_ok (l : List UInt8) (k : Int) (hl : l.length ≤ 2^47) (hk : -1 ≤ k ∧ k ≤ 2^40) : CallOk Tryz.prog 90 [] [.ag [Rw (eB l)], In k] (fun r out => r = In (szB l.length k) ∧ out = []) := by
  refine callOk_z (np := 0) {} mixed Tryz.func90 (by rfl) Tryz.ntmps90 Tryz.results90 (by rfl) (Nat.le_of_ble_eq_true rfl) rfl rfl rfl (vc ?_)
  refine callq_of false [] (szByteS_ok l k hl hk) rfl trivial (vc trivial) ?_
  rintro r out ⟨rfl, rfl⟩
  refine ⟨by simp, by simp, by simp, vc ?_⟩
  have hc := szB_cases l.length k
  refine brB_intro (fun h => EndQ.closed (.v _) ⟨?_, rfl⟩) (fun h => EndQ.closed (.v _) ⟨?_, rfl⟩)
  · have h : szB l.length k < 0 := by simpa using h
    rw [show szB l.length k = -1 by omega]
  · rfl
theorem szWrite_ok (a : Int) (l : List UInt8) (k : Int) (hl : l.length ≤ 2^47) (hk : -1 ≤ k ∧ k ≤ 2^40) : CallOk Tryz.prog 91 [] [.ag [In a, Rw (eB l)], In k] (fun r out => r = In (szB l.length k) ∧ out = []) := by
  refine callOk_z (np := 0) {} mixed Tryz.func91 (by rfl) Tryz.ntmps91 Tryz.results91 (by rfl) (Nat.le_of_ble_eq_true rfl) rfl rfl rfl (vc ?_)
  refine callq_of false [] (szByteS_ok l k hl hk) rfl trivial (vc trivial) ?_
  rintro r out ⟨rfl, rfl⟩
  refine ⟨by simp, by simp, by simp, vc ?_⟩
  have hc := szB_cases l.length k
  refine brB_intro (fun h => EndQ.closed (.v _) ⟨?_, rfl⟩) (fun h => EndQ.closed (.v _) ⟨?_, rfl⟩)
  · have h : szB l.length k < 0 := by simpa using h
    rw [show szB l.length k = -1 by omega]
  · rfl

theorem szSheetS_ok (xs : List (List UInt8)) (k : Int) (hl : xs.length ≤ 2^47) (hs : ∀ x ∈ xs, x.length ≤ 2^47) (hk : -1 ≤ k ∧ k ≤ 2^40) : CallOk Tryz.prog 38 [] [Rw (xs.map (shC false)), In k] (fun r out => r = In (szB (xs.length + sumL List.length xs) k) ∧ out = []) := by
  refine callOk_z (np := 0) {} mixed Tryz.func38 (by rfl) Tryz.ntmps38 Tryz.results38 (by rfl) (Nat.le_of_ble_eq_true rfl) rfl rfl rfl (vc ?_)
  rw [w64 _ (by omega)]
  refine brB_intro (fun h => EndQ.closed (.v _) ⟨?_, rfl⟩) (fun h => ?_)
  · have h : k - xs.length < 0 := by simpa using h
    rw [szB, if_pos (by omega)]
  have h : 0 ≤ k - xs.length := by simpa using h
  refine loopQ_of (fun i => [(0, Rw (xs.map (shC false))), (1, In (k - xs.length - sumL List.length (xs.take i))), (5, In (i : Nat))]) (fun i => []) 1 (fun i => xs.length - i) (fun i => i ≤ xs.length ∧ (sumL List.length (xs.take i) : Int) ≤ k - xs.length) 0 ⟨Nat.zero_le _, by simpa [sumL] using h⟩ [] (by rfl) (vc ?_) (vc trivial) (fun i hi N hN => vc (brB_intro (fun h => ?_) (fun h => ?_)))
  · simp [sumL]
  · have h : i < xs.length := by simpa using h
    have hx := List.getElem?_eq_getElem h
    rw [get_map hx, shC]
    refine vc ?_
    refine callq_of false [] (szSheet_ok xs[i] (k - xs.length - sumL List.length (xs.take i)) (hs _ (List.getElem_mem h)) (by omega)) rfl trivial (vc trivial) ?_
    rintro r out ⟨rfl, rfl⟩
    refine ⟨by simp, by simp, by simp, vc ?_⟩
    have hc := szB_cases xs[i].length (k - xs.length - sumL List.length (xs.take i))
    have hn := sumL_next List.length hx
    have hle := sumL_le List.length xs (i + 1)
    refine brB_intro (fun h => EndQ.closed (.v _) ⟨?_, rfl⟩) (fun h => ?_)
    · have h : szB xs[i].length (k - xs.length - sumL List.length (xs.take i)) < 0 := by simpa using h
      rw [szB, if_pos (by omega)]
    · have h : 0 ≤ szB xs[i].length (k - xs.length - sumL List.length (xs.take i)) := by simpa using h
      refine hN _ (i + 1) [] ⟨by omega, by omega⟩ (by omega) (by rfl) (vc ?_) (vc trivial)
      rw [w64 _ (by omega)]
      exact ⟨by omega, by simp⟩
  · have h : i = xs.length := by simp at h; omega
    refine EndQ.closed (.v _) ⟨?_, rfl⟩
    have hT : xs.take i = xs := by rw [h, List.take_length]
    have h2 := hi.2
    rw [hT] at h2 ⊢
    rw [szB, if_neg (by omega), show k - ((xs.length + sumL List.length xs : Nat) : Int) = k - xs.length - sumL List.length xs by omega]
theorem szWriteS_ok (xs : List (Int × List UInt8)) (k : Int) (hl : xs.length ≤ 2^47) (hs : ∀ x ∈ xs, x.2.length ≤ 2^47) (hk : -1 ≤ k ∧ k ≤ 2^40) : CallOk Tryz.prog 39 [] [Rw (xs.map (wrC false)), In k] (fun r out => r = In (szB (xs.length + sumL (fun x => x.2.length) xs) k) ∧ out = []) := by
  refine callOk_z (np := 0) {} mixed Tryz.func39 (by rfl) Tryz.ntmps39 Tryz.results39 (by rfl) (Nat.le_of_ble_eq_true rfl) rfl rfl rfl (vc ?_)
  rw [w64 _ (by omega)]
  refine brB_intro (fun h => EndQ.closed (.v _) ⟨?_, rfl⟩) (fun h => ?_)
  · have h : k - xs.length < 0 := by simpa using h
    rw [szB, if_pos (by omega)]
  have h : 0 ≤ k - xs.length := by simpa using h
  refine loopQ_of (fun i => [(0, Rw (xs.map (wrC false))), (1, In (k - xs.length - sumL (fun x => x.2.length) (xs.take i))), (5, In (i : Nat))]) (fun i => []) 1 (fun i => xs.length - i) (fun i => i ≤ xs.length ∧ (sumL (fun x => x.2.length) (xs.take i) : Int) ≤ k - xs.length) 0 ⟨Nat.zero_le _, by simpa [sumL] using h⟩ [] (by rfl) (vc ?_) (vc trivial) (fun i hi N hN => vc (brB_intro (fun h => ?_) (fun h => ?_)))
  · simp [sumL]
  · have h : i < xs.length := by simpa using h
    have hx := List.getElem?_eq_getElem h
    rw [get_map hx, wrC]
    refine vc ?_
    refine callq_of false [] (szWrite_ok xs[i].1 xs[i].2 (k - xs.length - sumL (fun x => x.2.length) (xs.take i)) (hs _ (List.getElem_mem h)) (by omega)) rfl trivial (vc trivial) ?_
    rintro r out ⟨rfl, rfl⟩
    refine ⟨by simp, by simp, by simp, vc ?_⟩
    have hc := szB_cases xs[i].2.length (k - xs.length - sumL (fun x => x.2.length) (xs.take i))
    have hn := sumL_next (fun x : Int × List UInt8 => x.2.length) hx
    have hle := sumL_le (fun x : Int × List UInt8 => x.2.length) xs (i + 1)
    refine brB_intro (fun h => EndQ.closed (.v _) ⟨?_, rfl⟩) (fun h => ?_)
    · have h : szB xs[i].2.length (k - xs.length - sumL (fun x => x.2.length) (xs.take i)) < 0 := by simpa using h
      rw [szB, if_pos (by omega)]
    · have h : 0 ≤ szB xs[i].2.length (k - xs.length - sumL (fun x => x.2.length) (xs.take i)) := by simpa using h
      refine hN _ (i + 1) [] ⟨by omega, by omega⟩ (by omega) (by rfl) (vc ?_) (vc trivial)
      rw [w64 _ (by omega)]
      exact ⟨by omega, by simp⟩
  · have h : i = xs.length := by simp at h; omega
    refine EndQ.closed (.v _) ⟨?_, rfl⟩
    have hT : xs.take i = xs := by rw [h, List.take_length]
    have h2 := hi.2
    rw [hT] at h2 ⊢
    rw [szB, if_neg (by omega), show k - ((xs.length + sumL (fun x => x.2.length) xs : Nat) : Int) = k - xs.length - sumL (fun x => x.2.length) xs by omega]

def Dk.size (d : Dk) : Nat := d.sh.length + sumL List.length d.sh + (d.wr.length + sumL (fun x => x.2.length) d.wr)
theorem szDisk_ok (d : Dk) (k : Int) (hd : d.fits (2^47)) (hk : -1 ≤ k ∧ k ≤ 2^40) : CallOk Tryz.prog 8 [] [d.rd, In k] (fun r out => r = In (szB d.size k) ∧ out = []) := by
  unfold Dk.rd
  refine callOk_z (np := 0) {} mixed Tryz.func8 (by rfl) Tryz.ntmps8 Tryz.results8 (by rfl) (Nat.le_of_ble_eq_true rfl) rfl rfl rfl (vc ?_)
  refine callq_of false [] (szSheetS_ok d.sh k hd.1 hd.2.1 hk) rfl trivial (vc trivial) ?_
  rintro r out ⟨rfl, rfl⟩
  refine ⟨by simp, by simp, by simp, vc ?_⟩
  have hc := szB_cases (d.sh.length + sumL List.length d.sh) k
  have hz : d.size = d.sh.length + sumL List.length d.sh + (d.wr.length + sumL (fun x => x.2.length) d.wr) := rfl
  refine brB_intro (fun h => EndQ.closed (.v _) ⟨?_, rfl⟩) (fun h => ?_)
  · have h : szB (d.sh.length + sumL List.length d.sh) k < 0 := by simpa using h
    rw [szB, if_pos (by omega)]
  have h : 0 ≤ szB (d.sh.length + sumL List.length d.sh) k := by simpa using h
  refine callq_of false [] (szWriteS_ok d.wr (szB (d.sh.length + sumL List.length d.sh) k) hd.2.2.1 hd.2.2.2 (by omega)) rfl trivial (vc trivial) ?_
  rintro r out ⟨rfl, rfl⟩
  refine ⟨by simp, by simp, by simp, vc ?_⟩
  have hc2 := szB_cases (d.wr.length + sumL (fun x => x.2.length) d.wr) (szB (d.sh.length + sumL List.length d.sh) k)
  have hc3 := szB_cases d.size k
  refine brB_intro (fun h => EndQ.closed (.v _) ⟨?_, rfl⟩) (fun h => EndQ.closed (.v _) ⟨?_, rfl⟩)
  · have h : szB (d.wr.length + sumL (fun x => x.2.length) d.wr) (szB (d.sh.length + sumL List.length d.sh) k) < 0 := by simpa using h
    rw [show szB d.size k = -1 by omega]
  · have h : 0 ≤ szB (d.wr.length + sumL (fun x => x.2.length) d.wr) (szB (d.sh.length + sumL List.length d.sh) k) := by simpa using h
    rw [show szB d.size k = szB (d.wr.length + sumL (fun x => x.2.length) d.wr) (szB (d.sh.length + sumL List.length d.sh) k) by omega]
theorem sumL_mem {α : Type} (f : α → Nat) {xs : List α} {x : α} (h : x ∈ xs) : f x ≤ sumL f xs := by
  induction xs with
  | nil => cases h
  | cons y r ih =>
    rw [sumL_cons]
    rcases List.mem_cons.1 h with rfl | h
    · omega
    · have := ih h; omega
theorem Dk.fits_of {d : Dk} {M : Nat} (h : d.size ≤ M) : d.fits M := by
  unfold Dk.size at h
  refine ⟨by omega, fun x hx => ?_, by omega, fun x hx => ?_⟩
  · have := sumL_mem List.length hx; omega
  · have := sumL_mem (fun x : Int × List UInt8 => x.2.length) hx; omega
end Go.Proofs.YtnnmpdanfeejbaaGreat.Abs
