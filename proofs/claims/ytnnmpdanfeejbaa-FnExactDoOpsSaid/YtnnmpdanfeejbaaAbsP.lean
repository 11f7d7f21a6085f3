/- The abstract machine: a call by a contract. -/
import Derived.Test.YtnnmpdanfeejbaaAbsO
namespace Go.Proofs.Ytnnmpdanfeejbaa.Abs
open Go Go.RowKit
set_option linter.unusedVariables false
set_option linter.unusedSimpArgs false

def after (nt : Nat) (s : ASt) (ps : List Nat) (id : Nat) (d : Option Nat) (r : AV) (out : List (Option Ob)) : ASt :=
  { t := putT nt (kl ps s.t) d (renA (rn ps id) r), H := updL (klH ps s.H) (callObjs ps id 0 out), c := s.c }

open Classical in
noncomputable def Env.back (E : Env) (w : World) (bor : Bool) (ps : List Nat) (id m : Nat) (E' : Env) : Env :=
  ⟨fun o => match (List.range m).find? (fun k => rn ps id (k + 1) == o) with
    | some k => E'.rho (k + 1)
    | none => E.rho o, fun b => if b < w.heap.size ∧ ¬ Mut (E.call bor ps) b then E.loc b else (E'.loc b).map fun ℓ => (rn ps id ℓ.1, ℓ.2)⟩

section
variable {P : Program} {nt : Nat} {I : Ini} {U : Nat → Prop} {s : ASt} {E : Env} {a : Act} {w : World} {bor : Bool} {ps : List Nat}

theorem mut_call (hn : ps.Nodup) {b : Nat} : Mut (E.call bor ps) b ↔ ∃ o p, E.loc b = some (o, p) ∧ o ∈ ps := by
  constructor
  · rintro ⟨k, p, h, hk⟩
    simp only [Env.call, Option.bind_eq_some_iff] at h
    obtain ⟨⟨o, q⟩, h1, h2⟩ := h
    refine ⟨o, q, h1, ?_⟩
    by_cases ho : o ∈ ps
    · exact ho
    · simp only [idxOf_none ho] at h2
      split at h2
      · cases h2
      · cases h2
        exact absurd rfl hk
  · rintro ⟨o, p, h, ho⟩
    obtain ⟨k, hk⟩ := List.getElem?_of_mem ho
    exact ⟨k + 1, p, call_pass hn hk h, by omega⟩

theorem klH_some {H : Hp} {o : Nat} {ob : Ob} (h : klH ps H o = some ob) : ∃ x, H o = some x ∧ (ps.isEmpty = true ∧ ob = x ∨ ps.isEmpty = false ∧ ob = killO x) := by
  unfold klH at h
  split at h
  · rename_i he; exact ⟨ob, h, .inl ⟨he, rfl⟩⟩
  · rename_i he
    simp only [Option.map_eq_some_iff] at h
    obtain ⟨x, hx, rfl⟩ := h
    exact ⟨x, hx, .inr ⟨by simpa using he, rfl⟩⟩
theorem killO_like (x : Ob) : x.like (killO x) := by cases x <;> simp [killO, Ob.like]
theorem renO_like (f : Nat → Nat) (x : Ob) : x.like (renO f x) := by cases x <;> simp [renO, Ob.like]
theorem ViewO.like {H : Hp} {x y : Ob} (h : ViewO bor H ps x y) : x.like y := by
  cases x <;> cases y <;> first | exact h.elim | trivial | (obtain ⟨rfl, rfl, rfl⟩ := h; exact Ob.like.refl _)

theorem call_after (hR : RelE nt I U s E a w) (hn : ps.Nodup) {Hin : List Ob} (hin : ∀ (k o : Nat), ps[k]? = some o → ∃ ob ob', s.H o = some ob ∧ Hin[k]? = some ob' ∧ ViewO bor s.H ps ob ob') (hl : Hin.length = ps.length)
    {id : Nat} (hid : ∀ j, j < 8 → ¬ U (id + j)) {w' : World} {u : Value} {r : AV} {out : List (Option Ob)} {E' : Env} (hm1 : ps.length ≤ out.length) (hm2 : out.length ≤ ps.length + 8)
    (hr : RdV w' E' (HpL out) r u) (hlive : ∀ k ob, HpL out k = some ob → LiveOb w' E' (HpL out) k ob) (hrs : Rs bor out.length r) (hros : ∀ ob, some ob ∈ out → RsOb bor out.length ob)
    (hpas : ∀ k x, HpS Hin k = some x → HpL out k = none ∨ (E'.rho k = (E.call bor ps).rho k ∧ ∃ y, HpL out k = some y ∧ x.like y)) (hevo : Evo (Mut (E.call bor ps)) w w')
    (hold : ∀ b, b < w.heap.size → ¬ Mut (E.call bor ps) b → E'.loc b = (E.call bor ps).loc b) (hlt : ∀ b ℓ, E'.loc b = some ℓ → b < w'.heap.size) (d : Option Nat) :
    RelE nt I (fun o => U o ∨ ∃ j, j < 8 ∧ o = id + j) (after nt s ps id d r out) (E.back w bor ps id out.length E') (a.put d u) w' := by
  have hpl : ∀ k, k < ps.length → ∃ o, ps[k]? = some o ∧ U o ∧ o ≠ 0 ∧ rn ps id (k + 1) = o := fun k hk => by
    have hp := List.getElem?_eq_getElem hk
    obtain ⟨ob, ob', h1, h2, h3⟩ := hin k _ hp
    refine ⟨ps[k], hp, (hR.mnH _ _ h1).1, fun e => ?_, rn_pass hp⟩
    rw [e, hR.h0] at h1
    cases h1
  have hnew : ∀ k, ps.length ≤ k → k < out.length → rn ps id (k + 1) = id + (k - ps.length) ∧ ¬ U (rn ps id (k + 1)) ∧ k - ps.length < 8 := fun k h1 h2 => by
    have := rn_new (id := id) h1
    refine ⟨this, ?_, by omega⟩
    rw [this]
    exact hid _ (by omega)
  have hinj : ∀ k j, k < out.length → j < out.length → rn ps id (k + 1) = rn ps id (j + 1) → k = j := fun k j hk hj e => by
    by_cases h1 : k < ps.length <;> by_cases h2 : j < ps.length
    · obtain ⟨o, a1, a2, a3, a4⟩ := hpl k h1
      obtain ⟨o', b1, b2, b3, b4⟩ := hpl j h2
      have : o = o' := by rw [← a4, ← b4, e]
      subst this
      have e1 := idxOf_of_get hn a1
      have e2 := idxOf_of_get hn b1
      rw [e1] at e2
      exact Option.some.inj e2
    · obtain ⟨o, a1, a2, a3, a4⟩ := hpl k h1
      obtain ⟨b1, b2, b3⟩ := hnew j (by omega) hj
      exact absurd (by rw [← e, a4]; exact a2) b2
    · obtain ⟨o, a1, a2, a3, a4⟩ := hpl j h2
      obtain ⟨b1, b2, b3⟩ := hnew k (by omega) hk
      exact absurd (by rw [e, a4]; exact a2) b2
    · obtain ⟨b1, b2, b3⟩ := hnew k (by omega) hk
      obtain ⟨c1, c2, c3⟩ := hnew j (by omega) hj
      omega
  have hrho : ∀ k, k < out.length → (E.back w bor ps id out.length E').rho (rn ps id (k + 1)) = E'.rho (k + 1) := fun k hk => by
    have : (List.range out.length).find? (fun j => rn ps id (j + 1) == rn ps id (k + 1)) = some k := by
      rw [List.find?_range_eq_some]
      refine ⟨by simp, by simpa using hk, fun j hj => ?_⟩
      simp only [Bool.not_eq_true', beq_eq_false_iff_ne, ne_eq]
      intro e
      have := hinj j k (by omega) hk e
      omega
    simp only [Env.back, this]
  have hrho' : ∀ o, (∀ k, k < out.length → rn ps id (k + 1) ≠ o) → (E.back w bor ps id out.length E').rho o = E.rho o := fun o ho => by
    have : (List.range out.length).find? (fun j => rn ps id (j + 1) == o) = none := by
      rw [List.find?_eq_none]
      intro k hk
      simpa using ho k (List.mem_range.1 hk)
    simp only [Env.back, this]
  have hH : ∀ k y, out[k]? = some y → (after nt s ps id d r out).H (rn ps id (k + 1)) = y.map (renO (rn ps id)) := fun k y hk => by
    have h1 := callObjs_in (ps := ps) (id := id) (k := 0) hk
    rw [Nat.zero_add] at h1
    have := updL_uniq (H := klH ps s.H) h1 (fun z hz e => by
      obtain ⟨j, x, hj, rfl⟩ := callObjs_mem hz
      rw [Nat.zero_add] at e ⊢
      have hjk := hinj j k (List.getElem?_eq_some_iff.1 hj).1 (List.getElem?_eq_some_iff.1 hk).1 e
      subst hjk
      rw [hj] at hk
      cases hk
      rfl)
    exact this
  have hH' : ∀ o, (∀ k, k < out.length → rn ps id (k + 1) ≠ o) → (after nt s ps id d r out).H o = klH ps s.H o := fun o ho => by
    refine updL_out (fun z hz => ?_)
    obtain ⟨j, x, hj, rfl⟩ := callObjs_mem hz
    rw [Nat.zero_add]
    exact ho j (List.getElem?_eq_some_iff.1 hj).1
  have hlocO : ∀ b, b < w.heap.size → ¬ Mut (E.call bor ps) b → (E.back w bor ps id out.length E').loc b = E.loc b := fun b h1 h2 => if_pos ⟨h1, h2⟩
  have hlocN : ∀ b k p, E'.loc b = some (k + 1, p) → (E.back w bor ps id out.length E').loc b = some (rn ps id (k + 1), p) := fun b k p h => by
    have : ¬ (b < w.heap.size ∧ ¬ Mut (E.call bor ps) b) := by
      rintro ⟨h1, h2⟩
      refine h2 ⟨k + 1, p, ?_, by omega⟩
      rw [← hold b h1 h2, h]
    have h2 : (E.back w bor ps id out.length E').loc b = (E'.loc b).map (fun ℓ : Loc => (rn ps id ℓ.1, ℓ.2)) := if_neg this
    rw [h2, h]
    rfl
  have hloc0 : bor = false → ∀ b, b < w'.heap.size → E'.loc b = none → (E.back w bor ps id out.length E').loc b = none := fun hb b _ h => by
    by_cases hc : b < w.heap.size ∧ ¬ Mut (E.call bor ps) b
    · rw [hlocO b hc.1 hc.2]
      have := hold b hc.1 hc.2
      rw [h] at this
      cases hl : E.loc b with
      | none => rfl
      | some ℓ =>
        obtain ⟨o, p⟩ := ℓ
        exfalso
        simp only [Env.call, hl, Option.bind_some] at this
        split at this
        · cases this
        · rw [hb] at this; cases this
    · have h2 : (E.back w bor ps id out.length E').loc b = (E'.loc b).map (fun ℓ : Loc => (rn ps id ℓ.1, ℓ.2)) := if_neg hc
      rw [h2, h]
      rfl
  have hmz : ∀ {b}, E.loc b = none → ¬ Mut (E.call bor ps) b := fun h hm => by
    obtain ⟨o, p, h1, _⟩ := (mut_call hn).1 hm
    rw [h] at h1
    cases h1
  have t0 : ∀ b, b < w.heap.size → E.loc b = none → w'.heap[b]? = w.heap[b]? ∧ (E.back w bor ps id out.length E').loc b = none := fun b hb h => ⟨hevo.old hb (hmz h), by rw [hlocO b hb (hmz h)]; exact h⟩
  have town : ∀ o, o ∉ ps → ∀ b p, b < w.heap.size → E.loc b = some (o, p) → w'.heap[b]? = w.heap[b]? ∧ (E.back w bor ps id out.length E').loc b = some (o, p) := fun o ho b p hb h => by
    have : ¬ Mut (E.call bor ps) b := fun hm => by
      obtain ⟨o', p', h1, h2⟩ := (mut_call hn).1 hm
      rw [h] at h1
      cases h1
      exact ho h2
    exact ⟨hevo.old hb this, by rw [hlocO b hb this]; exact h⟩
  have hob : ∀ o, U o → (after nt s ps id d r out).H o = none ∨ ((E.back w bor ps id out.length E').rho o = E.rho o ∧ ∃ x y, s.H o = some x ∧ (after nt s ps id d r out).H o = some y ∧ x.like y) := fun o ho => by
    by_cases hx : ∃ k, k < out.length ∧ rn ps id (k + 1) = o
    · obtain ⟨k, hk, rfl⟩ := hx
      by_cases hkp : k < ps.length
      · obtain ⟨o', a1, a2, a3, a4⟩ := hpl k hkp
        obtain ⟨ob, ob', h1, h2, h3⟩ := hin k _ a1
        have hk' := List.getElem?_eq_getElem hk
        rw [hH k _ hk']
        have hq := hpas (k + 1) ob' (by simp [HpS, h2])
        have e1 : HpL out (k + 1) = out[k] := by simp [HpL, hk']
        rw [e1] at hq
        rcases hq with hq | ⟨hq1, y, hq2, hq3⟩
        · left; rw [hq]; rfl
        · right
          refine ⟨?_, ob, renO (rn ps id) y, by rw [a4]; exact h1, by rw [hq2]; rfl, (h3.like.trans hq3).trans (renO_like _ _)⟩
          rw [hrho k hk, hq1, call_rho a1, a4]
      · exact absurd ho (hnew k (by omega) hk).2.1
    · have hx' : ∀ k, k < out.length → rn ps id (k + 1) ≠ o := fun k hk e => hx ⟨k, hk, e⟩
      rw [hH' o hx', hrho' o hx']
      cases hh : klH ps s.H o with
      | none => exact .inl rfl
      | some ob =>
        obtain ⟨x, hx1, hx2⟩ := klH_some hh
        refine .inr ⟨rfl, x, ob, hx1, rfl, ?_⟩
        rcases hx2 with ⟨_, rfl⟩ | ⟨_, rfl⟩
        · exact Ob.like.refl _
        · exact killO_like _
  have hval : ∀ {x : AV} {u : Value}, RdV w E s.H x u → Mn U x → RdV w' (E.back w bor ps id out.length E') (after nt s ps id d r out).H (klA ps x) u := fun {x u} h hm => by
    unfold klA
    split
    · rename_i he
      have hps : ps = [] := List.isEmpty_iff.1 he
      refine h.keeps ⟨t0, fun b hb h1 => ?_, hob⟩ hm
      have : ¬ Mut (E.call bor ps) b := fun hm' => by
        obtain ⟨o, p, _, h2⟩ := (mut_call hn).1 hm'
        rw [hps] at h2
        simp at h2
      refine ⟨hevo.old hb this, fun o ho => ?_⟩
      rw [hlocO b hb this] at ho
      exact h1 o ho
    · exact h.kill t0 hob hm
  have hmk : ∀ {x : AV}, Mn U x → Mn (fun o => U o ∨ ∃ j, j < 8 ∧ o = id + j) (klA ps x) := fun hm => by
    unfold klA
    split
    · exact hm.mono fun _ h => .inl h
    · exact hm.kill.mono fun _ h => .inl h
  have hUrn : ∀ k, 1 ≤ k → k ≤ out.length → (fun o => U o ∨ ∃ j, j < 8 ∧ o = id + j) (rn ps id k) := fun k h1 h2 => by
    obtain ⟨k, rfl⟩ : ∃ m, k = m + 1 := ⟨k - 1, by omega⟩
    by_cases hkp : k < ps.length
    · obtain ⟨o, a1, a2, a3, a4⟩ := hpl k hkp
      rw [a4]
      exact .inl a2
    · obtain ⟨b1, b2, b3⟩ := hnew k (by omega) (by omega)
      exact .inr ⟨k - ps.length, b3, b1⟩
  have hobr : ∀ k, 1 ≤ k → k ≤ out.length → HpL out k = none ∧ (after nt s ps id d r out).H (rn ps id k) = none ∨ ((E.back w bor ps id out.length E').rho (rn ps id k) = E'.rho k ∧ ∃ x y, HpL out k = some x ∧ (after nt s ps id d r out).H (rn ps id k) = some y ∧ x.like y) := fun k h1 h2 => by
    obtain ⟨k, rfl⟩ : ∃ m, k = m + 1 := ⟨k - 1, by omega⟩
    have hk' := List.getElem?_eq_getElem (l := out) (i := k) (by omega)
    have e1 : HpL out (k + 1) = out[k] := by simp [HpL, hk']
    rw [e1, hH k _ hk', hrho k (by omega)]
    cases out[k] with
    | none => exact .inl ⟨rfl, rfl⟩
    | some y => exact .inr ⟨rfl, y, _, rfl, rfl, renO_like _ _⟩
  have hrr : RdV w' (E.back w bor ps id out.length E') (after nt s ps id d r out).H (renA (rn ps id) r) u := hr.ren hloc0 hobr hrs
  constructor
  · cases d <;> exact hR.defers
  · cases d <;> simp [Act.put, hR.size]
  · intro j x hx
    cases d with
    | none =>
      show RdV _ _ _ (kl ps s.t j) x
      rw [kl_at]
      exact hval (hR.slots j x hx) (hR.mnT j)
    | some d =>
      simp only [Act.put, Array.getElem?_setIfInBounds] at hx
      have hsz : a.tmps.size = nt := hR.size
      by_cases hd : d = j
      · subst hd
        by_cases hb : d < a.tmps.size
        · simp only [hb, if_true] at hx
          cases hx
          show RdV _ _ _ (putT nt (kl ps s.t) (some d) _ d) _
          simp only [putT, if_pos (hsz ▸ hb), upd_same]
          exact hrr
        · simp [hb] at hx
      · simp only [if_neg hd] at hx
        have hj : ∀ v, putT nt (kl ps s.t) (some d) v j = kl ps s.t j := fun v => by
          simp only [putT]
          split
          · exact upd_ne _ _ (Ne.symm hd)
          · rfl
        show RdV _ _ _ (putT nt (kl ps s.t) (some d) _ j) _
        rw [hj, kl_at]
        exact hval (hR.slots j x hx) (hR.mnT j)
  · intro o ob ho
    by_cases hx : ∃ k, k < out.length ∧ rn ps id (k + 1) = o
    · obtain ⟨k, hk, rfl⟩ := hx
      have hk' := List.getElem?_eq_getElem hk
      have e1 : HpL out (k + 1) = out[k] := by simp [HpL, hk']
      rw [hH k _ hk', Option.map_eq_some_iff] at ho
      obtain ⟨ob0, ho, rfl⟩ := ho
      have hl0 := hlive (k + 1) ob0 (by rw [e1, ho])
      have hros0 := hros ob0 (by rw [← ho]; exact List.getElem_mem hk)
      cases ob0 with
      | box ty cs =>
        obtain ⟨b, arr, us, g1, g2, g3, g4, g5, g6⟩ := hl0
        show LiveOb _ _ _ _ (.box ty (renL _ cs))
        rw [renL_map]
        refine ⟨b, arr, us, (hrho k hk).trans g1, hlocN b k [] g2, g3, by simpa using g4, fun j hj => g5 j (by simpa using hj), fun j c hj => ?_⟩
        rw [List.getElem?_map, Option.map_eq_some_iff] at hj
        obtain ⟨c', hc', rfl⟩ := hj
        exact (g6 j c' hc').ren hloc0 hobr (hros0 c' (List.mem_of_getElem? hc'))
      | rw ty sz es =>
        rcases hl0 with ⟨g1, g2⟩ | ⟨b, cap, arr, us, g1, g2, g3, g4, g5, g6, g7, g8, g9⟩
        · exact .inl ⟨(hrho k hk).trans g1, g2⟩
        · refine .inr ⟨b, cap, arr, us, (hrho k hk).trans g1, hlocN b k [] g2, g3, g4, g5, g6, g7, g8, fun i j e c he hc => ?_⟩
          rcases hros0 with hb | hown
          · exact (g9 i j e c he hc).relabel (rn ps id (k + 1), [(i, j)]) (fun b' hb' h0 => ⟨rfl, hloc0 hb b' hb' h0⟩) (fun b' q hb' hq => ⟨rfl, hlocN b' k _ hq⟩)
          · exact (g9 i j e c he hc).own_relabel (hown e (List.mem_of_getElem? he) c (List.mem_of_getElem? hc)) (rn ps id (k + 1), [(i, j)]) (fun b' q hb' hq => hlocN b' k _ hq)
    · have hx' : ∀ k, k < out.length → rn ps id (k + 1) ≠ o := fun k hk e => hx ⟨k, hk, e⟩
      have hops : o ∉ ps := fun hop => by
        obtain ⟨k, hk⟩ := List.getElem?_of_mem hop
        exact hx' k (Nat.lt_of_lt_of_le (List.getElem?_eq_some_iff.1 hk).1 hm1) (rn_pass hk)
      rw [hH' o hx'] at ho
      obtain ⟨x, hx1, hx2⟩ := klH_some ho
      have hlx := hR.live o x hx1
      have hmx := (hR.mnH o x hx1).2
      cases x with
      | box ty cs =>
        obtain ⟨b, arr, us, g1, g2, g3, g4, g5, g6⟩ := hlx
        have hb := town o hops b [] (RdR.lt g3) g2
        have hcs : ob = .box ty (cs.map (klA ps)) := by
          rcases hx2 with ⟨he, rfl⟩ | ⟨he, rfl⟩
          · have : klA ps = fun y => y := by funext y; unfold klA; rw [if_pos he]
            rw [this, List.map_id']
          · have : klA ps = killA := by funext y; unfold klA; rw [if_neg (by simp [he])]
            rw [this, ← killL_map]
            rfl
        subst hcs
        refine ⟨b, arr, us, (hrho' o hx').trans g1, hb.2, hb.1.trans g3, by simpa using g4, fun j hj => g5 j (by simpa using hj), fun j c hj => ?_⟩
        rw [List.getElem?_map, Option.map_eq_some_iff] at hj
        obtain ⟨c', hc', rfl⟩ := hj
        exact hval (g6 j c' hc') (hmx c' (List.mem_of_getElem? hc'))
      | rw ty sz es =>
        have hcs : ob = .rw ty sz es := by rcases hx2 with ⟨_, rfl⟩ | ⟨_, rfl⟩ <;> rfl
        subst hcs
        rcases hlx with ⟨g1, g2⟩ | ⟨b, cap, arr, us, g1, g2, g3, g4, g5, g6, g7, g8, g9⟩
        · exact .inl ⟨(hrho' o hx').trans g1, g2⟩
        · have hb := town o hops b [] (RdR.lt g3) g2
          exact .inr ⟨b, cap, arr, us, (hrho' o hx').trans g1, hb.2, hb.1.trans g3, g4, g5, g6, g7, g8, fun i j e c he hc => (g9 i j e c he hc).relabel (o, [(i, j)]) t0 (fun b' q hb' hq => town o hops b' _ hb' hq)⟩
  · intro b ℓ hb
    by_cases hc : b < w.heap.size ∧ ¬ Mut (E.call bor ps) b
    · exact Nat.lt_of_lt_of_le hc.1 hevo.size
    · have : (E'.loc b).map (fun ℓ : Loc => (rn ps id ℓ.1, ℓ.2)) = some ℓ := by
        have h1 : (E.back w bor ps id out.length E').loc b = (E'.loc b).map (fun ℓ : Loc => (rn ps id ℓ.1, ℓ.2)) := if_neg hc
        rw [← h1, hb]
      rw [Option.map_eq_some_iff] at this
      obtain ⟨ℓ0, h0, _⟩ := this
      exact hlt b ℓ0 h0
  · intro b hb hm
    have h1 := hR.old b hb hm
    have hbw := Nat.lt_of_lt_of_le hb hR.evo.size
    rw [← h1]
    refine hlocO b hbw (fun hmm => ?_)
    obtain ⟨o, p, h2, h3⟩ := (mut_call hn).1 hmm
    obtain ⟨k, hk⟩ := List.getElem?_of_mem h3
    obtain ⟨o', a1, a2, a3, a4⟩ := hpl k (List.getElem?_eq_some_iff.1 hk).1
    rw [hk] at a1
    cases a1
    exact hm ⟨o, p, by rw [← h1, h2], a3⟩
  · intro o x hx
    obtain ⟨hu, h⟩ := hR.pas o x hx
    refine ⟨.inl hu, ?_⟩
    rcases hob o hu with h1 | ⟨h1, y, z, h2, h3, h4⟩
    · exact .inl h1
    · rcases h with h | ⟨h5, y', h6, h7⟩
      · rw [h] at h2; cases h2
      · rw [h2] at h6
        cases h6
        exact .inr ⟨h1.trans h5, z, h3, h7.trans h4⟩
  · exact .inl hR.u0
  · have : ∀ k, k < out.length → rn ps id (k + 1) ≠ 0 := fun k hk e => by
      by_cases hkp : k < ps.length
      · obtain ⟨o, a1, a2, a3, a4⟩ := hpl k hkp
        exact a3 (by rw [← a4, e])
      · have := (hnew k (by omega) hk).2.1
        rw [e] at this
        exact this hR.u0
    rw [hH' 0 this]
    unfold klH
    split
    · exact hR.h0
    · simp only [hR.h0]; rfl
  · intro j
    cases d with
    | none =>
      show Mn _ (kl ps s.t j)
      rw [kl_at]
      exact hmk (hR.mnT j)
    | some d =>
      show Mn _ (putT nt (kl ps s.t) (some d) _ j)
      simp only [putT]
      split
      · by_cases hd : j = d
        · subst hd
          rw [upd_same]
          exact hrs.mn hUrn
        · rw [upd_ne _ _ hd, kl_at]
          exact hmk (hR.mnT j)
      · rw [kl_at]
        exact hmk (hR.mnT j)
  · intro o ob ho
    by_cases hx : ∃ k, k < out.length ∧ rn ps id (k + 1) = o
    · obtain ⟨k, hk, rfl⟩ := hx
      have hk' := List.getElem?_eq_getElem hk
      rw [hH k _ hk', Option.map_eq_some_iff] at ho
      obtain ⟨ob0, ho, rfl⟩ := ho
      have hros0 := hros ob0 (by rw [← ho]; exact List.getElem_mem hk)
      refine ⟨hUrn (k + 1) (by omega) (by omega), ?_⟩
      cases ob0 with
      | box ty cs =>
        show ∀ c ∈ renL _ cs, Mn _ c
        rw [renL_map]
        intro c hc
        obtain ⟨c', hc', rfl⟩ := List.mem_map.1 hc
        exact (hros0 c' hc').mn hUrn
      | rw => trivial
    · have hx' : ∀ k, k < out.length → rn ps id (k + 1) ≠ o := fun k hk e => hx ⟨k, hk, e⟩
      rw [hH' o hx'] at ho
      obtain ⟨x, hx1, hx2⟩ := klH_some ho
      have hmx := hR.mnH o x hx1
      refine ⟨.inl hmx.1, ?_⟩
      rcases hx2 with ⟨_, rfl⟩ | ⟨_, rfl⟩
      · exact hmx.2.mono fun _ h => .inl h
      · cases x with
        | box ty cs =>
          show ∀ c ∈ killL cs, Mn _ c
          rw [killL_map]
          intro c hc
          obtain ⟨c', hc', rfl⟩ := List.mem_map.1 hc
          exact (hmx.2 c' hc').kill.mono fun _ h => .inl h
        | rw => trivial
  · refine hR.evo.step hevo (fun i hi hlt' => ?_)
    obtain ⟨o, p, h2, h3⟩ := (mut_call hn).1 hi
    obtain ⟨k, hk⟩ := List.getElem?_of_mem h3
    obtain ⟨o', a1, a2, a3, a4⟩ := hpl k (List.getElem?_eq_some_iff.1 hk).1
    rw [hk] at a1
    cases a1
    by_cases hb : i < I.w.heap.size
    · by_cases hm : Mut I.E i
      · exact .inr hm
      · exact absurd ⟨o, p, by rw [← hR.old i hb hm]; exact h2, a3⟩ hm
    · exact .inl (by omega)
end

end Go.Proofs.Ytnnmpdanfeejbaa.Abs
