/- Rows by their blocks alone: what a block's type and size are stays, whatever is written into it. -/
import Derived.Test.YtnklkjkbdipohaaLibOrd
namespace Go.Proofs.Ytnklkjkbdipohaa.Heap
open Go Go.RowKit Go.Proofs.YtnklkjkbdipohaaW.PrintWords Go.Proofs.YtnklkjkbdipohaaW.PrintLast Go.Proofs.YtnklkjkbdipohaaW.PrintMore
set_option linter.unusedVariables false
/-- Block g holds at least m cells of type t. -/
def TB (w : World) (g t m : Nat) : Prop := ∃ cs : Array Value, w.heap[g]? = some (.cells cs t (0, 0)) ∧ m ≤ cs.size
/-- A flat row (type t) of n elements, its block one of P. -/
def RB (w : World) (P : Nat → Prop) (t : Nat) (v : Value) (n : Nat) : Prop := ∃ A c, v = .slice A n c ∧ (n = 0 ∨ ∃ g, A = some ⟨g, 0, none⟩ ∧ P g ∧ TB w g t n)
/-- Only blocks of P and of type t have been written. -/
structure EffB (P : Nat → Prop) (t : Nat) (w w' : World) : Prop where
  below : Below 0 w w'
  keep : ∀ k, k < w.heap.size → ¬ P k → w'.heap[k]? = w.heap[k]?
  other : ∀ (k : Nat) (cs : Array Value) (q : Nat) (fr : Nat × Nat), w.heap[k]? = some (.cells cs q fr) → q ≠ t → w'.heap[k]? = some (.cells cs q fr)
  tb : ∀ g m, TB w g t m → TB w' g t m
theorem EffB.refl (P : Nat → Prop) (t : Nat) (w : World) : EffB P t w w := ⟨Below.refl _ _, fun _ _ _ => rfl, fun _ _ _ _ h _ => h, fun _ _ h => h⟩
theorem EffB.trans {P : Nat → Prop} {t : Nat} {w w1 w2 : World} (h : EffB P t w w1) (k : EffB P t w1 w2) : EffB P t w w2 :=
  ⟨⟨k.below.os.trans h.below.os, k.below.tape.trans h.below.tape, k.below.output.trans h.below.output, Nat.le_trans h.below.size k.below.size, fun _ hk => absurd hk (Nat.not_lt_zero _)⟩,
   fun i hi hn => (k.keep i (Nat.lt_of_lt_of_le hi h.below.size) hn).trans (h.keep i hi hn),
   fun i cs q fr hc hq => k.other i cs q fr (h.other i cs q fr hc hq) hq, fun g m ht => k.tb g m (h.tb g m ht)⟩
theorem EffB.set {P : Nat → Prop} {t : Nat} {w : World} {g : Nat} {cs : Array Value} (hb : w.heap[g]? = some (.cells cs t (0, 0))) (hP : P g) (i : Nat) (u : Value) : EffB P t w (w.setCell ⟨g, i, none⟩ u) := by
  have hs := blk_set hb i u
  refine ⟨(Below.refl 0 w).setCell (Nat.zero_le _) _, fun k _ hn => Below.heap_setCell w ⟨g, i, none⟩ u k (fun e => hn (by rw [e]; exact hP)), fun k cs' q fr hc hq => ?_, fun g' m ht => ?_⟩
  · have hne : k ≠ g := by
      rintro rfl
      rw [hb] at hc
      injection hc with hc
      injection hc with _ h2
      exact hq h2.symm
    exact (Below.heap_setCell w ⟨g, i, none⟩ u k hne).trans hc
  · obtain ⟨cs', hc, hm⟩ := ht
    by_cases he : g' = g
    · subst he
      rw [hb] at hc
      injection hc with hc
      injection hc with h1
      subst h1
      exact ⟨_, hs, by simpa using hm⟩
    · exact ⟨cs', (Below.heap_setCell w ⟨g, i, none⟩ u g' he).trans hc, hm⟩
theorem EffB.of_below {P : Nat → Prop} {t : Nat} {w w' : World} (h : Below w.heap.size w w') : EffB P t w w' :=
  ⟨⟨h.os, h.tape, h.output, h.size, fun _ hk => absurd hk (Nat.not_lt_zero _)⟩, fun k hk _ => h.block k hk, fun k cs q fr hc _ => (h.block k (blk_lt hc)).trans hc, fun g m ⟨cs, hc, hm⟩ => ⟨cs, (h.block g (blk_lt hc)).trans hc, hm⟩⟩
/-- What was kept but for blocks of P, all of them newer than w0's. -/
theorem below_kept {w0 w w' : World} {P : Nat → Prop} (hB : Below w0.heap.size w0 w) (h : Below 0 w w') (k : Kept w w' P) (hP : ∀ i, P i → w0.heap.size ≤ i) : Below w0.heap.size w0 w' :=
  ⟨h.os.trans hB.os, h.tape.trans hB.tape, h.output.trans hB.output, Nat.le_trans hB.size h.size, fun i hi => (k.2 i (Nat.lt_of_lt_of_le hi hB.size) (fun hp => absurd (hP i hp) (by omega))).trans (hB.block i hi)⟩
theorem EffB.kept {P : Nat → Prop} {t : Nat} {w w' : World} (h : EffB P t w w') : Kept w w' P := ⟨h.below.size, h.keep⟩
theorem RB.eff {P Q : Nat → Prop} {t t' : Nat} {w w' : World} {v : Value} {n : Nat} (h : RB w P t v n) (k : EffB Q t' w w') : RB w' P t v n := by
  obtain ⟨A, c, e, h⟩ := h
  refine ⟨A, c, e, h.imp id ?_⟩
  rintro ⟨g, hA, hP, cs, hc, hm⟩
  refine ⟨g, hA, hP, ?_⟩
  by_cases ht : t = t'
  · subst ht
    exact k.tb g n ⟨cs, hc, hm⟩
  · exact ⟨cs, k.other g cs t (0, 0) hc ht, hm⟩
theorem RB.mono {P Q : Nat → Prop} {t : Nat} {w : World} {v : Value} {n : Nat} (h : RB w P t v n) (hQ : ∀ k, P k → Q k) : RB w Q t v n := by
  obtain ⟨A, c, e, h⟩ := h
  refine ⟨A, c, e, h.imp id ?_⟩
  rintro ⟨g, hA, hP, ht⟩
  exact ⟨g, hA, hQ g hP, ht⟩
/-- A row of the call's own as such a row. -/
theorem RB_own {w : World} {base t size n : Nat} {v : Value} {xs : List Value} (hs : 0 < size) (h : w.ownsRow base t size v n xs) (hl : xs.length = n * size) : ∃ A c, v = .slice A n c ∧ (n = 0 ∨ ∃ (g : Nat) (cs : Array Value), A = some ⟨g, 0, none⟩ ∧ v.ownBlock = some g ∧ w.heap[g]? = some (.cells cs t (0, 0)) ∧ n * size ≤ cs.size ∧ ∀ (j : Nat) (u : Value), xs[j]? = some u → cs[j]? = some u) := by
  rcases h.2 with ⟨rfl, rfl⟩ | ⟨g, cap, cur, rfl, hbg, hg, hnc, hcm, hcs, htake⟩
  · exact ⟨none, 0, rfl, .inl rfl⟩
  · refine ⟨_, cap, rfl, .inr ⟨g, cur, rfl, rfl, hg, ?_, fun j u hj => ?_⟩⟩
    · rw [hcs]; exact Nat.mul_le_mul_right _ hnc
    · have := h.cells (g := g) rfl j u hj
      rwa [add_plain, blk_cell hg j] at this
theorem RB_of {α : Type} {d : Kd α} {e : Nat} {w : World} {base : Nat} {ok : Nat → Prop} {v : Value} {xs : List α} (hs : d.sz = 1) (h : d.R e w base ok v xs) : RB w ok e v xs.length := by
  obtain ⟨h0, inner, ho, hr⟩ := h
  rw [hs] at ho
  obtain ⟨A, c, e1, h2⟩ := RB_own (by omega) ho (by have := hr.1; rw [hs] at this; exact this)
  refine ⟨A, c, e1, h2.imp id ?_⟩
  rintro ⟨g, cs, hA, ho, hb, hm, _⟩
  exact ⟨g, hA, h0 g ho, cs, hb, by omega⟩
theorem sc_of {w0 w w' : World} (hB : Below w0.heap.size w0 w) (hb : Below w0.heap.size w0 w') (hs : w.heap.size ≤ w'.heap.size) : Below 0 w w' :=
  ⟨hb.os.trans hB.os.symm, hb.tape.trans hB.tape.symm, hb.output.trans hB.output.symm, hs, fun _ hk => absurd hk (Nat.not_lt_zero _)⟩
theorem newS {α : Type} {d : Kd α} {e : Nat} {w0 w w' : World} {ok : Nat → Prop} {v : Value} {xs : List α} (hB : Below w0.heap.size w0 w) (h : Kd.S d e w' w.heap.size ok v xs) : Kd.S d e w' w0.heap.size (fun k => w.heap.size ≤ k ∧ k < w'.heap.size) v xs :=
  Kd.S_lower (Kd.S_mono (Kd.S_bound h) (fun k hk => ⟨hk.2.1, hk.2.2.1⟩)) hB.size
theorem newR {α : Type} {d : Kd α} {e : Nat} {w0 w w' : World} {ok : Nat → Prop} {v : Value} {xs : List α} (hB : Below w0.heap.size w0 w) (h : d.R e w' w.heap.size ok v xs) : d.R e w' w0.heap.size (fun k => w.heap.size ≤ k ∧ k < w'.heap.size) v xs :=
  Kd.R_lower (Kd.R_mono (Kd.R_bound h) (fun k hk => ⟨hk.2.1, hk.2.2.1⟩)) hB.size
end Go.Proofs.Ytnklkjkbdipohaa.Heap
