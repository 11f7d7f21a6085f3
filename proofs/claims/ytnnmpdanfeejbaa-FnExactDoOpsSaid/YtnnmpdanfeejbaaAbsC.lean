/- The abstract machine's operations hold of the model: what is common to all, and those that write nothing. -/
import Derived.Test.YtnnmpdanfeejbaaAbsB
namespace Go.Proofs.Ytnnmpdanfeejbaa.Abs
open Go Go.RowKit
set_option linter.unusedVariables false
set_option linter.unusedSimpArgs false

def updL (H : Hp) : List (Nat × Option Ob) → Hp
  | [] => H
  | (o, x) :: r => updL (upd H o x) r
theorem updL_out {H : Hp} {l : List (Nat × Option Ob)} {o : Nat} (h : ∀ x ∈ l, x.1 ≠ o) : updL H l o = H o := by
  induction l generalizing H with
  | nil => rfl
  | cons y r ih =>
    unfold updL
    rw [ih (fun x hx => h x (List.mem_cons_of_mem _ hx)), upd_ne _ _ (fun e => h y (List.mem_cons_self ..) e.symm)]

def putT (nt : Nat) (t : Nat → AV) : Option Nat → AV → Nat → AV
  | none, _ => t
  | some d, v => if d < nt then upd t d v else t
def getA (nt : Nat) (t : Nat → AV) : Operand → AV
  | .tmp k => if k < nt then t k else .any
  | .const v => constA v
  | _ => .any

structure Fx (w : World) (E : Env) (H : Hp) (U : Nat → Prop) (id : Nat) (v : AV) (objs : List (Nat × Option Ob)) (u : Value) (w' : World) (E' : Env) : Prop where
  evo : Evo (fun b => E.loc b ≠ none) w w'
  t0 : ∀ b, b < w.heap.size → E.loc b = none → E'.loc b = none
  t1 : ∀ b, b < w.heap.size → E.T1 b → w'.heap[b]? = w.heap[b]? ∧ E'.T1 b
  own : ∀ o, (∀ x ∈ objs, x.1 ≠ o) → E'.rho o = E.rho o ∧ ∀ b q, b < w.heap.size → E.loc b = some (o, q) → w'.heap[b]? = w.heap[b]? ∧ E'.loc b = some (o, q)
  ids : ∀ x ∈ objs, x.1 = id ∨ ∃ ob, H x.1 = some ob ∧ (updL H objs x.1 = none ∨ ∃ ob', updL H objs x.1 = some ob' ∧ ob.like ob' ∧ E'.rho x.1 = E.rho x.1)
  live : ∀ x ∈ objs, ∀ ob, updL H objs x.1 = some ob → LiveOb w' E' (updL H objs) x.1 ob ∧ MnOb (fun o => U o ∨ o = id) ob
  locs : ∀ b ℓ, E'.loc b = some ℓ → b < w'.heap.size ∧ (w.heap.size ≤ b ∨ E.loc b ≠ none)
  val : RdV w' E' (updL H objs) v u
  mn : Mn (fun o => U o ∨ o = id) v

theorem Evo.old {M : Nat → Prop} {w w' : World} (h : Evo M w w') {b : Nat} (hb : b < w.heap.size) (hm : ¬ M b) : w'.heap[b]? = w.heap[b]? := h.block b hb hm

theorem Fx.keeps {w w' : World} {E E' : Env} {H : Hp} {U : Nat → Prop} {id : Nat} {v : AV} {objs : List (Nat × Option Ob)} {u : Value} (f : Fx w E H U id v objs u w' E')
    (hid : ¬ U id) : Keeps U w w' E E' H (updL H objs) := by
  refine ⟨fun b hb h0 => ⟨f.evo.old hb (by simp [h0]), f.t0 b hb h0⟩, f.t1, fun o ho => ?_⟩
  by_cases hx : ∀ x ∈ objs, x.1 ≠ o
  · rw [updL_out hx]
    cases hh : H o with
    | none => exact .inl rfl
    | some ob => exact .inr ⟨(f.own o hx).1, ob, ob, rfl, rfl, Ob.like.refl ob⟩
  · simp only [Classical.not_forall, Classical.not_not] at hx
    obtain ⟨x, hx, rfl⟩ := hx
    rcases f.ids x hx with h | ⟨ob, h1, h2 | ⟨ob', h2, h3, h4⟩⟩
    · exact absurd (h ▸ ho) hid
    · exact .inl h2
    · exact .inr ⟨h4, ob, ob', h1, h2, h3⟩

theorem LiveOb.keeps {U : Nat → Prop} {w w' : World} {E E' : Env} {H H' : Hp} (k : Keeps U w w' E E' H H') {o : Nat} {ob : Ob} (h : LiveOb w E H o ob) (hm : MnOb U ob)
    (hr : E'.rho o = E.rho o) (hl : ∀ b q, b < w.heap.size → E.loc b = some (o, q) → w'.heap[b]? = w.heap[b]? ∧ E'.loc b = some (o, q)) : LiveOb w' E' H' o ob := by
  cases ob with
  | box ty cs =>
    obtain ⟨b, arr, us, h1, h2, h3, h4, h5, h6⟩ := h
    have := hl b [] (RdR.lt h3) h2
    exact ⟨b, arr, us, hr.trans h1, this.2, this.1.trans h3, h4, h5, fun j c hc => (h6 j c hc).keeps k (hm c (List.mem_of_getElem? hc))⟩
  | rw ty sz es =>
    rcases h with ⟨h1, h2⟩ | ⟨b, cap, arr, us, h1, h2, h3, h4, h5, h6, h7, h8, h9⟩
    · exact .inl ⟨hr.trans h1, h2⟩
    · have := hl b [] (RdR.lt h3) h2
      exact .inr ⟨b, cap, arr, us, hr.trans h1, this.2, this.1.trans h3, h4, h5, h6, h7, h8, fun i j e c he hc =>
        (h9 i j e c he hc).relabel (o, [(i, j)]) k.t0 (fun b' q hb' hq => hl b' _ hb' hq)⟩

theorem MnOb.mono {U U' : Nat → Prop} (h : ∀ o, U o → U' o) {ob : Ob} (hv : MnOb U ob) : MnOb U' ob := by
  cases ob with
  | box ty cs => exact fun c hc => (hv c hc).mono h
  | rw => trivial

theorem Rel.step {nt : Nat} {I : Ini} {U : Nat → Prop} {s : ASt} {E : Env} {a : Act} {w : World} (hR : RelE nt I U s E a w)
    {id : Nat} {v : AV} {objs : List (Nat × Option Ob)} {u : Value} {w' : World} {E' : Env} (hid : ¬ U id) (f : Fx w E s.H U id v objs u w' E') (d : Option Nat) :
    RelE nt I (fun o => U o ∨ o = id) { t := putT nt s.t d v, H := updL s.H objs, c := s.c } E' (a.put d u) w' := by
  have k := f.keeps hid
  have hU : ∀ o, U o → U o ∨ o = id := fun o h => .inl h
  have hz : ∀ x ∈ objs, x.1 ≠ 0 := fun x hx e => by
    rcases f.ids x hx with h | ⟨ob, h1, _⟩
    · exact hid (h ▸ e ▸ hR.u0)
    · rw [e, hR.h0] at h1; cases h1
  constructor
  · cases d <;> exact hR.defers
  · cases d <;> simp [Act.put, hR.size]
  · intro j x hx
    cases d with
    | none => exact (hR.slots j x hx).keeps k (hR.mnT j)
    | some d =>
      simp only [Act.put, Array.getElem?_setIfInBounds] at hx
      have hsz : a.tmps.size = nt := hR.size
      by_cases hd : d = j
      · subst hd
        by_cases hb : d < a.tmps.size
        · simp only [hb, if_true] at hx
          cases hx
          show RdV _ _ _ (putT nt s.t (some d) v d) _
          simp only [putT, if_pos (hsz ▸ hb), upd_same]
          exact f.val
        · simp [hb] at hx
      · simp only [if_neg hd] at hx
        have hj : putT nt s.t (some d) v j = s.t j := by
          simp only [putT]
          split
          · exact upd_ne _ _ (Ne.symm hd)
          · rfl
        show RdV _ _ _ (putT nt s.t (some d) v j) _
        rw [hj]
        exact (hR.slots j x hx).keeps k (hR.mnT j)
  · intro o ob ho
    by_cases hx : ∀ x ∈ objs, x.1 ≠ o
    · have h' : s.H o = some ob := (updL_out hx).symm.trans ho
      exact (hR.live o ob h').keeps k (hR.mnH o ob h').2 (f.own o hx).1 (fun b q => (f.own o hx).2 b q)
    · simp only [Classical.not_forall, Classical.not_not] at hx
      obtain ⟨x, hx, rfl⟩ := hx
      exact (f.live x hx ob ho).1
  · exact fun b ℓ hb => (f.locs b ℓ hb).1
  · intro b hb hm
    have h1 := hR.old b hb hm
    rw [← h1]
    have hlt := Nat.lt_of_lt_of_le hb hR.evo.size
    cases hl : E.loc b with
    | none => exact f.t0 b hlt hl
    | some ℓ =>
      obtain ⟨k, p⟩ := ℓ
      have hk : k = 0 := by
        by_cases hk : k = 0
        · exact hk
        · exact absurd ⟨k, p, by rw [← h1, hl], hk⟩ hm
      subst hk
      exact ((f.own 0 hz).2 b p hlt hl).2
  · intro o x hx
    obtain ⟨hu, h⟩ := hR.pas o x hx
    refine ⟨.inl hu, ?_⟩
    rcases k.ob o hu with h1 | ⟨h1, y, z, h2, h3, h4⟩
    · exact .inl h1
    · rcases h with h | ⟨h5, y', h6, h7⟩
      · rw [h] at h2; cases h2
      · rw [h2] at h6
        cases h6
        exact .inr ⟨h1.trans h5, z, h3, h7.trans h4⟩
  · exact .inl hR.u0
  · rw [show ({ t := putT nt s.t d v, H := updL s.H objs, c := s.c } : ASt).H = updL s.H objs from rfl, updL_out hz]
    exact hR.h0
  · intro j
    cases d with
    | none => exact (hR.mnT j).mono hU
    | some d =>
      show Mn _ (putT nt s.t (some d) v j)
      simp only [putT]
      split
      · by_cases hd : j = d
        · subst hd
          rw [upd_same]
          exact f.mn
        · rw [upd_ne _ _ hd]
          exact (hR.mnT j).mono hU
      · exact (hR.mnT j).mono hU
  · intro o ob ho
    by_cases hx : ∀ x ∈ objs, x.1 ≠ o
    · have h' : s.H o = some ob := (updL_out hx).symm.trans ho
      exact ⟨.inl (hR.mnH o ob h').1, (hR.mnH o ob h').2.mono hU⟩
    · simp only [Classical.not_forall, Classical.not_not] at hx
      obtain ⟨x, hx, rfl⟩ := hx
      refine ⟨?_, (f.live x hx ob ho).2⟩
      rcases f.ids x hx with h | ⟨ob', h1, _⟩
      · exact .inr h
      · exact .inl (hR.mnH _ _ h1).1
  · refine hR.evo.step (M' := fun b => ∃ k p, E.loc b = some (k, p) ∧ k ≠ 0) ⟨f.evo.os, f.evo.tape, f.evo.output, f.evo.size, fun i hi hn => ?_⟩ (fun i hi hlt => ?_)
    · cases hl : E.loc i with
      | none => exact f.evo.old hi (by simp [hl])
      | some ℓ =>
        obtain ⟨k, p⟩ := ℓ
        have hk : k = 0 := by
          by_cases hk : k = 0
          · exact hk
          · exact absurd ⟨k, p, hl, hk⟩ hn
        subst hk
        exact ((f.own 0 hz).2 i p hi hl).1
    · obtain ⟨k, p, h1, h2⟩ := hi
      by_cases hb : i < I.w.heap.size
      · by_cases hm : Mut I.E i
        · exact .inr hm
        · exact absurd ⟨k, p, by rw [← hR.old i hb hm]; exact h1, h2⟩ hm
      · exact .inl (by omega)

/-- Nothing is written. -/
theorem Fx.same {w : World} {E : Env} {H : Hp} {U : Nat → Prop} {id : Nat} {v : AV} {u : Value} (hl : ∀ b ℓ, E.loc b = some ℓ → b < w.heap.size) (h : RdV w E H v u) (hm : Mn U v) : Fx w E H U id v [] u w E :=
  ⟨Evo.refl _ _, fun _ _ h => h, fun _ _ h => ⟨rfl, h⟩, fun _ _ => ⟨rfl, fun _ _ _ h => ⟨rfl, h⟩⟩, fun _ hx => by simp at hx, fun _ hx => by simp at hx,
    fun b ℓ h => ⟨hl b ℓ h, .inr (by simp [h])⟩, h, hm.mono fun _ h => .inl h⟩

theorem RdV.const (w : World) (E : Env) (H : Hp) (v : Value) : RdV w E H (constA v) v := by
  unfold constA
  split
  · exact .nul
  · split
    · exact .c _ _ (.v _ (by assumption))
    · exact .any _
theorem Mn.const (U : Nat → Prop) (v : Value) : Mn U (constA v) := by
  unfold constA
  split
  · exact .nul
  · split
    · exact .c _
    · exact .any

section
variable {nt : Nat} {I : Ini} {U : Nat → Prop} {s : ASt} {E : Env} {a : Act} {w : World}
theorem RelE.get (hR : RelE nt I U s E a w) (x : Operand) : RdV w E s.H (getA nt s.t x) (a.eval x) := by
  cases x with
  | tmp k =>
    simp only [getA, Act.eval]
    split
    · rename_i h
      have hk : k < a.tmps.size := by rw [hR.size]; exact h
      refine hR.slots k _ ?_
      rw [Array.getElem?_eq_getElem hk]
      simp [Array.getD, hk]
    · exact .any _
  | const v => exact RdV.const ..
  | global g => exact .any _
  | func f => exact .any _
theorem RelE.mnGet (hR : RelE nt I U s E a w) (x : Operand) : Mn U (getA nt s.t x) := by
  cases x with
  | tmp k =>
    simp only [getA]
    split
    · exact hR.mnT k
    · exact .any
  | const v => exact Mn.const ..
  | global g => exact .any
  | func f => exact .any
theorem RelE.eval (hR : RelE nt I U s E a w) {x : Operand} {v : Value} (h : getA nt s.t x = .c (.v v)) : a.eval x = v := by
  have := hR.get x
  rw [h] at this
  cases this with
  | c _ _ h => cases h; rfl
end

end Go.Proofs.Ytnnmpdanfeejbaa.Abs
