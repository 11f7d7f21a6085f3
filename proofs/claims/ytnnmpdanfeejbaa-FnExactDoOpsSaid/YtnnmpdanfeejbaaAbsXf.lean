/- The abstract machine: an object is handed over to be read only, for good. -/
import Derived.Test.YtnnmpdanfeejbaaAbsX
namespace Go.Proofs.Ytnnmpdanfeejbaa.Abs
open Go Go.RowKit
set_option linter.unusedVariables false
set_option linter.unusedSimpArgs false

def toF : AV → Option CV
  | .c x => some x
  | .nul => some (.row false [])
  | _ => none
def toFs : List AV → Option (List CV)
  | [] => some []
  | x :: r => match toF x, toFs r with
    | some c, some l => some (c :: l)
    | _, _ => none
def frN : Option Ob → Nat → AV
  | some (.rw _ _ es), n => if n = es.length then .c (.row false es) else .any
  | _, _ => .any
def frP : Option Ob → Nat → Nat → AV
  | some (.box _ cs), i, j => if i = 0 then (match toFs cs with | some l => .c (.ptr l j) | none => .any) else .any
  | _, _, _ => .any
mutual
def frA (o : Nat) (ob : Option Ob) : AV → AV
  | .sl k n => if k = o then frN ob n else .sl k n
  | .pt k i j => if k = o then frP ob i j else .pt k i j
  | .ag cs => .ag (frL o ob cs)
  | .tu cs => .tu (frL o ob cs)
  | .c x => .c x
  | .bw x => .bw x
  | .nul => .nul
  | .any => .any
def frL (o : Nat) (ob : Option Ob) : List AV → List AV
  | [] => []
  | x :: r => frA o ob x :: frL o ob r
end
theorem frL_map (o : Nat) (ob : Option Ob) (l : List AV) : frL o ob l = l.map (frA o ob) := by
  induction l with
  | nil => rfl
  | cons x r ih => rw [frL, ih]; rfl
def frO (o : Nat) (ob : Option Ob) : Ob → Ob
  | .box ty cs => .box ty (frL o ob cs)
  | .rw ty sz es => .rw ty sz es
def frS (o : Nat) (s : ASt) : ASt := ⟨fun k => frA o (s.H o) (s.t k), upd (fun k => (s.H k).map (frO o (s.H o))) o none, s.c⟩
def frz : List Nat → ASt → ASt
  | [], s => s
  | o :: r, s => if o = 0 then frz r s else frz r (frS o s)
def frzC : Option (List Nat) → ASt → ASt
  | none, s => s
  | some os, s => frz os s
def Env.frz (E : Env) (o : Nat) : Env := ⟨E.rho, fun b => (E.loc b).bind fun ℓ => if ℓ.1 = o then none else some ℓ⟩
theorem frz_t0 {E : Env} {o b : Nat} (h : E.loc b = none) : (E.frz o).loc b = none := by simp [Env.frz, h]
theorem frz_own {E : Env} {o b : Nat} {p : List (Nat × Nat)} (h : E.loc b = some (o, p)) : (E.frz o).loc b = none := by simp [Env.frz, h]
theorem frz_other {E : Env} {o b k : Nat} {p : List (Nat × Nat)} (h : E.loc b = some (k, p)) (hk : k ≠ o) : (E.frz o).loc b = some (k, p) := by simp [Env.frz, h, hk]
theorem frz_some {E : Env} {o b : Nat} {ℓ : Loc} (h : (E.frz o).loc b = some ℓ) : E.loc b = some ℓ ∧ ℓ.1 ≠ o := by
  simp only [Env.frz, Option.bind_eq_some_iff] at h
  obtain ⟨ℓ', h1, h2⟩ := h
  split at h2
  · cases h2
  · cases h2; exact ⟨h1, by assumption⟩
theorem frO_like (o : Nat) (ob : Option Ob) (x : Ob) : x.like (frO o ob x) := by cases x <;> simp [Ob.like, frO]
theorem frO_sz (o : Nat) (ob : Option Ob) (x : Ob) : (frO o ob x).sz = x.sz := by cases x <;> rfl
section
variable {nt : Nat} {I : Ini} {U : Nat → Prop} {s : ASt} {E : Env} {a : Act} {w : World}
theorem toFs_ok {E : Env} {H : Hp} : ∀ {cs : List AV} {l : List CV}, toFs cs = some l → l.length = cs.length ∧ ∀ (j : Nat) c, l[j]? = some c → ∃ x, cs[j]? = some x ∧ ∀ u, RdV w E H x u → RdR w E.T0 c u
  | [], l, h => by
    cases h
    exact ⟨rfl, fun j c hj => by simp at hj⟩
  | x :: r, l, h => by
    unfold toFs at h
    split at h
    · rename_i c l' hc hl
      cases h
      have ih := toFs_ok (E := E) (H := H) hl
      refine ⟨by simp [ih.1], fun j c' hj => ?_⟩
      cases j with
      | zero =>
        simp at hj; subst hj
        refine ⟨x, rfl, fun u hu => ?_⟩
        unfold toF at hc
        split at hc
        · cases hc; cases hu with | c _ _ h => exact h
        · cases hc; cases hu; exact .nil _ _ _
        · cases hc
      | succ j =>
        obtain ⟨y, hy, hyu⟩ := ih.2 j c' (by simpa using hj)
        exact ⟨y, by simpa using hy, hyu⟩
    · cases h
theorem RdV.frz (hR : RelE nt I U s E a w) (o : Nat) {x : AV} {u : Value} (h : RdV w E s.H x u) : RdV w (E.frz o) (frS o s).H (frA o (s.H o) x) u := by
  have hH : ∀ k, k ≠ o → (frS o s).H k = (s.H k).map (frO o (s.H o)) := fun k hk => if_neg hk
  induction h with
  | c x u h => exact .c _ _ (h.mono fun b _ hb => ⟨rfl, frz_t0 hb⟩)
  | bw x u h => exact .bw _ _ (h.mono fun b _ hb => ⟨rfl, fun o' ho' => hb o' (frz_some ho').1⟩)
  | nul => exact .nul
  | any u => exact .any u
  | slX k n u h =>
    rw [frA]
    split
    · rename_i e; subst e; rw [h]; exact .any u
    · rename_i hk; exact .slX k n u (by rw [hH k hk, h]; rfl)
  | sl k n ty sz es b cap h hr =>
    rw [frA]
    split
    · rename_i e
      subst e
      rw [h, frN]
      split
      · rename_i hn
        subst hn
        rcases hR.live k _ h with ⟨h1, _⟩ | ⟨b', cap', arr, us, h1, h2, h3, h4, h5, h6, h7, h8, h9⟩
        · rw [h1] at hr; cases hr
        · rw [h1] at hr
          cases hr
          refine .c _ _ ?_
          have := RdR.row (w := w) (T := (E.frz k).T0) false b 0 sz cap es arr ty (0, 0) us (frz_own h2) h3 h7 (Nat.le_trans h5 h6) h5 (fun i j hi hj => by rw [Nat.zero_add]; exact h8 i j hi hj)
            (fun i j e c he hc => (h9 i j e c he hc).toR (fun b hb => frz_t0 hb) (fun b q hb => frz_own hb))
          exact this
      · exact .any _
    · rename_i hk
      exact .sl k n ty sz es b cap (by rw [hH k hk, h]; rfl) hr
  | slN k ty sz h hr =>
    rw [frA]
    split
    · rename_i e; subst e; rw [h, frN]; exact .c _ _ (.nil _ _ _)
    · rename_i hk; exact .slN k ty sz (by rw [hH k hk, h]; rfl) hr
  | ptX k i j u h =>
    rw [frA]
    split
    · rename_i e; subst e; rw [h]; exact .any u
    · rename_i hk; exact .ptX k i j u (by rw [hH k hk, h]; rfl)
  | pt k i j ob b cap h hr =>
    rw [frA]
    split
    · rename_i e
      subst e
      rw [h]
      cases ob with
      | rw ty sz es => exact .any _
      | box ty cs =>
        rw [frP]
        split
        · rename_i hi
          subst hi
          split
          · rename_i l hl
            obtain ⟨b', arr, us, h1, h2, h3, h4, h5, h6⟩ := hR.live k _ h
            rw [h1] at hr
            cases hr
            have hq := toFs_ok (w := w) (E := E) (H := s.H) hl
            refine .c _ _ ?_
            have := RdR.ptr (w := w) (T := (E.frz k).T0) b 0 l j arr ty (0, 0) us (frz_own h2) h3 (fun m hm => by rw [Nat.zero_add]; exact h5 m (by omega)) (fun m c hc => by
              obtain ⟨x, hx, hxu⟩ := hq.2 m c hc
              exact (hxu _ (h6 m x hx)).mono (fun b _ hb => ⟨rfl, frz_t0 hb⟩))
            simpa [Ob.sz] using this
          · exact .any _
        · exact .any _
    · rename_i hk
      have := RdV.pt (w := w) (E := E.frz o) (H := (frS o s).H) k i j (frO o (s.H o) ob) b cap (by rw [hH k hk, h]; rfl) hr
      rw [frO_sz] at this
      exact this
  | ag cs us hs _ ih =>
    rw [frA, frL_map]
    refine .ag _ us (by simpa using hs) (fun i c u hc hu => ?_)
    rw [List.getElem?_map, Option.map_eq_some_iff] at hc
    obtain ⟨c', hc', rfl⟩ := hc
    exact ih i c' u hc' hu
  | tu cs us hs _ ih =>
    rw [frA, frL_map]
    refine .tu _ us (by simpa using hs) (fun i c u hc hu => ?_)
    rw [List.getElem?_map, Option.map_eq_some_iff] at hc
    obtain ⟨c', hc', rfl⟩ := hc
    exact ih i c' u hc' hu
theorem Mn.frz {o : Nat} {ob : Option Ob} {x : AV} (h : Mn U x) : Mn U (frA o ob x) := by
  induction h with
  | c x => exact .c x
  | bw x => exact .bw x
  | nul => exact .nul
  | any => exact .any
  | sl k n hk =>
    rw [frA]
    split
    · unfold frN; split
      · split
        · exact .c _
        · exact .any
      · exact .any
    · exact .sl k n hk
  | pt k i j hk =>
    rw [frA]
    split
    · unfold frP; split
      · split
        · split
          · exact .c _
          · exact .any
        · exact .any
      · exact .any
    · exact .pt k i j hk
  | ag cs _ ih =>
    rw [frA, frL_map]
    refine .ag _ (fun c hc => ?_)
    obtain ⟨c', hc', rfl⟩ := List.mem_map.1 hc
    exact ih c' hc'
  | tu cs _ ih =>
    rw [frA, frL_map]
    refine .tu _ (fun c hc => ?_)
    obtain ⟨c', hc', rfl⟩ := List.mem_map.1 hc
    exact ih c' hc'
theorem RelE.frS (hR : RelE nt I U s E a w) {o : Nat} (ho : o ≠ 0) : RelE nt I U (frS o s) (E.frz o) a w := by
  have hH : ∀ k, k ≠ o → (Abs.frS o s).H k = (s.H k).map (frO o (s.H o)) := fun k hk => if_neg hk
  have hHo : (Abs.frS o s).H o = none := if_pos rfl
  have hsome : ∀ k x, (Abs.frS o s).H k = some x → k ≠ o ∧ ∃ y, s.H k = some y ∧ x = frO o (s.H o) y := by
    intro k x hk
    have hne : k ≠ o := fun e => by rw [e, hHo] at hk; cases hk
    rw [hH k hne, Option.map_eq_some_iff] at hk
    obtain ⟨y, hy, rfl⟩ := hk
    exact ⟨hne, y, hy, rfl⟩
  constructor
  · exact hR.defers
  · exact hR.size
  · exact fun k u hu => (hR.slots k u hu).frz hR o
  · intro k ob hk
    obtain ⟨hne, y, hy, rfl⟩ := hsome k ob hk
    have hl := hR.live k y hy
    cases y with
    | box ty cs =>
      obtain ⟨b, arr, us, h1, h2, h3, h4, h5, h6⟩ := hl
      refine ⟨b, arr, us, h1, frz_other h2 hne, h3, by rw [h4, frL_map]; simp, fun j hj => h5 j (by simpa [frL_map] using hj), fun j c hc => ?_⟩
      rw [frL_map, List.getElem?_map, Option.map_eq_some_iff] at hc
      obtain ⟨c', hc', rfl⟩ := hc
      exact (h6 j c' hc').frz hR o
    | rw ty sz es =>
      rcases hl with h | ⟨b, cap, arr, us, h1, h2, h3, h4, h5, h6, h7, h8, h9⟩
      · exact .inl h
      · refine .inr ⟨b, cap, arr, us, h1, frz_other h2 hne, h3, h4, h5, h6, h7, h8, fun i j e c he hc => (h9 i j e c he hc).relabel _ (fun b _ hb => ⟨rfl, frz_t0 hb⟩) (fun b q _ hb => ⟨rfl, frz_other hb hne⟩)⟩
  · exact fun b ℓ hb => hR.locLt b ℓ (frz_some hb).1
  · intro b hb hm
    have h0 := hR.old b hb hm
    rw [← h0]
    cases hl : E.loc b with
    | none => exact frz_t0 hl
    | some ℓ =>
      obtain ⟨k, p⟩ := ℓ
      refine frz_other hl (fun e => ?_)
      subst e
      exact hm ⟨k, p, by rw [← h0, hl], ho⟩
  · intro k x hk
    obtain ⟨h1, h2⟩ := hR.pas k x hk
    refine ⟨h1, ?_⟩
    by_cases hne : k = o
    · subst hne; exact .inl hHo
    · rcases h2 with h2 | ⟨h2, y, h3, h4⟩
      · exact .inl (by rw [hH k hne, h2]; rfl)
      · exact .inr ⟨h2, frO o (s.H o) y, by rw [hH k hne, h3]; rfl, h4.trans (frO_like ..)⟩
  · exact hR.u0
  · have : (0 : Nat) ≠ o := fun e => ho e.symm
    rw [hH 0 this, hR.h0]; rfl
  · exact fun k => (hR.mnT k).frz
  · intro k ob hk
    obtain ⟨hne, y, hy, rfl⟩ := hsome k ob hk
    have := hR.mnH k y hy
    refine ⟨this.1, ?_⟩
    cases y with
    | rw => exact trivial
    | box ty cs =>
      intro c hc
      rw [frL_map] at hc
      obtain ⟨c', hc', rfl⟩ := List.mem_map.1 hc
      exact (this.2 c' hc').frz
  · exact hR.evo
theorem RelE.frzL : ∀ (os : List Nat) {s : ASt} {E : Env}, RelE nt I U s E a w → ∃ E', RelE nt I U (frz os s) E' a w
  | [], s, E, hR => ⟨E, hR⟩
  | o :: r, s, E, hR => by
    unfold Abs.frz
    split
    · exact RelE.frzL r hR
    · rename_i h
      exact RelE.frzL r (hR.frS h)
theorem RelE.frzC (os : Option (List Nat)) {s : ASt} {E : Env} (hR : RelE nt I U s E a w) : ∃ E', RelE nt I U (frzC os s) E' a w := by
  cases os with
  | none => exact ⟨E, hR⟩
  | some os => exact hR.frzL os
end
theorem frz_c : ∀ (os : List Nat) (s : ASt), (frz os s).c = s.c
  | [], s => rfl
  | o :: r, s => by
    unfold frz
    split
    · exact frz_c r s
    · exact frz_c r (frS o s)
theorem frzC_c (os : Option (List Nat)) (s : ASt) : (frzC os s).c = s.c := by
  cases os with
  | none => rfl
  | some os => exact frz_c os s
theorem frz_nil {s : ASt} : frz [] s = s := (rfl)
theorem frz_cons {o : Nat} {r : List Nat} {s : ASt} : frz (o :: r) s = if o = 0 then frz r s else frz r (frS o s) := (rfl)
theorem frzC_none {s : ASt} : frzC none s = s := (rfl)
theorem frzC_some {os : List Nat} {s : ASt} : frzC (some os) s = frz os s := (rfl)
theorem frS_eq {o : Nat} {t : Nat → AV} {H : Hp} {c : Nat} : frS o ⟨t, H, c⟩ = ⟨fun k => frA o (H o) (t k), upd (fun k => (H k).map (frO o (H o))) o none, c⟩ := (rfl)
end Go.Proofs.Ytnnmpdanfeejbaa.Abs
