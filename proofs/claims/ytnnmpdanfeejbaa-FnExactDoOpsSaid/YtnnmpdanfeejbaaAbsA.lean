/- A small abstract machine over the model's code: the values that it computes with, and how they stand for Go's values in a world. -/
import Derived.Orders
import Derived.Below
import Derived.Laws.AppendOwn
namespace Go.Proofs.Ytnnmpdanfeejbaa.Abs
open Go Go.RowKit
set_option linter.unusedVariables false
set_option linter.unusedSimpArgs false
set_option linter.unusedSectionVars false

/-- What a cell holds, closed: a plain value; a row (owned, where the flag is true); a pointer to cells that are only read. -/
inductive CV where
  | v (x : Value)
  | row (k : Bool) (es : List (List CV))
  | ptr (cs : List CV) (j : Nat)
  | hole
  deriving Inhabited

abbrev Loc := Nat × List (Nat × Nat)

/-- A value is read: the blocks that are looked at satisfy T. -/
inductive RdR (w : World) (T : Nat → Prop) : CV → Value → Prop
  | v (x) : x.oneCell' = true → RdR w T (.v x) x
  | hole (u) : u.oneCell' = true → RdR w T .hole u
  | nil (k a c) : RdR w T (.row k []) (.slice a 0 c)
  | row (k b off sz cap es arr ty fz) (us : Nat → Nat → Value) : T b → w.heap[b]? = some (.cells arr ty fz) → (∀ e ∈ es, e.length = sz) → es.length ≤ maxLen → es.length ≤ cap →
      (∀ i j, i < es.length → j < sz → arr[off + (i * sz + j)]? = some (us i j)) →
      (∀ (i j : Nat) e c, es[i]? = some e → e[j]? = some c → RdR w T c (us i j)) → RdR w T (.row k es) (.slice (some ⟨b, off, none⟩) es.length cap)
  | ptr (b off cs j arr ty fz) (us : Nat → Value) : T b → w.heap[b]? = some (.cells arr ty fz) → (∀ j, j < cs.length → arr[off + j]? = some (us j)) →
      (∀ (j : Nat) c, cs[j]? = some c → RdR w T c (us j)) → RdR w T (.ptr cs j) (.pointer (some ⟨b, off + j, none⟩))

def CV.im : CV → CV
  | .row _ es => .row false es
  | x => x

/-- A cell of an object of the call's own, at its place. -/
inductive RdC (w : World) (loc : Nat → Option Loc) : Loc → CV → Value → Prop
  | im (ℓ c u) : RdR w (fun b => loc b = none) c u → c.im = c → RdC w loc ℓ c u
  | nil (ℓ a) : RdC w loc ℓ (.row true []) (.slice a 0 0)
  | own (ℓ b sz cap es arr ty) (us : Nat → Nat → Value) : loc b = some ℓ → w.heap[b]? = some (.cells arr ty (0, 0)) → arr.size = cap * sz → es.length ≤ cap → cap ≤ maxLen →
      (∀ e ∈ es, e.length = sz) → (∀ i j, i < es.length → j < sz → arr[i * sz + j]? = some (us i j)) →
      (∀ (i j : Nat) e c, es[i]? = some e → e[j]? = some c → RdC w loc (ℓ.1, ℓ.2 ++ [(i, j)]) c (us i j)) → RdC w loc ℓ (.row true es) (.slice (some ⟨b, 0, none⟩) es.length cap)

/-- What a slot holds. -/
inductive AV where
  | c (x : CV)
  | bw (x : CV)
  | nul
  | sl (o n : Nat)
  | pt (o i j : Nat)
  | ag (cs : List AV)
  | tu (cs : List AV)
  | any
  deriving Inhabited

/-- An object of the call's own. -/
inductive Ob where
  | box (ty : Nat) (cs : List AV)
  | rw (ty sz : Nat) (es : List (List CV))
  deriving Inhabited

def Ob.sz : Ob → Nat
  | .box _ _ => 0
  | .rw _ sz _ => sz
/-- What a reference leans on: the kind of its object. -/
def Ob.like : Ob → Ob → Prop
  | .box _ _, .box _ _ => True
  | .rw _ sz es, .rw _ sz' es' => sz = sz' ∧ (es = [] ↔ es' = [])
  | _, _ => False
theorem Ob.like.refl (o : Ob) : o.like o := by cases o <;> simp [Ob.like]
theorem Ob.like.trans {a b c : Ob} (h : a.like b) (k : b.like c) : a.like c := by
  cases a <;> cases b <;> cases c <;> simp_all [Ob.like]

structure Env where
  rho : Nat → Option (Nat × Nat)
  loc : Nat → Option Loc

abbrev Env.T0 (E : Env) (b : Nat) : Prop := E.loc b = none
abbrev Env.T1 (E : Env) (b : Nat) : Prop := ∀ o, E.loc b ≠ some (o, [])

abbrev Hp := Nat → Option Ob

inductive RdV (w : World) (E : Env) (H : Hp) : AV → Value → Prop
  | c (x u) : RdR w E.T0 x u → RdV w E H (.c x) u
  | bw (x u) : RdR w E.T1 x u → RdV w E H (.bw x) u
  | nul : RdV w E H .nul (.slice none 0 0)
  | any (u) : RdV w E H .any u
  | slX (o n u) : H o = none → RdV w E H (.sl o n) u
  | sl (o n ty sz es b cap) : H o = some (.rw ty sz es) → E.rho o = some (b, cap) → RdV w E H (.sl o n) (.slice (some ⟨b, 0, none⟩) n cap)
  | slN (o ty sz) : H o = some (.rw ty sz []) → E.rho o = none → RdV w E H (.sl o 0) (.slice none 0 0)
  | ptX (o i j u) : H o = none → RdV w E H (.pt o i j) u
  | pt (o i j ob b cap) : H o = some ob → E.rho o = some (b, cap) → RdV w E H (.pt o i j) (.pointer (some ⟨b, i * ob.sz + j, none⟩))
  | ag (cs) (us : Array Value) : us.size = cs.length → (∀ (i : Nat) c u, cs[i]? = some c → us[i]? = some u → RdV w E H c u) → RdV w E H (.ag cs) (.agg us)
  | tu (cs) (us : Array Value) : us.size = cs.length → (∀ (i : Nat) c u, cs[i]? = some c → us[i]? = some u → RdV w E H c u) → RdV w E H (.tu cs) (.tuple us)

def LiveOb (w : World) (E : Env) (H : Hp) (o : Nat) : Ob → Prop
  | .box ty cs => ∃ b arr, ∃ us : Nat → Value, E.rho o = some (b, 1) ∧ E.loc b = some (o, []) ∧ w.heap[b]? = some (.cells arr ty (0, 0)) ∧ arr.size = cs.length ∧
      (∀ j, j < cs.length → arr[j]? = some (us j)) ∧ ∀ (j : Nat) c, cs[j]? = some c → RdV w E H c (us j)
  | .rw ty sz es => (E.rho o = none ∧ es = []) ∨ ∃ b cap arr, ∃ us : Nat → Nat → Value, E.rho o = some (b, cap) ∧ E.loc b = some (o, []) ∧ w.heap[b]? = some (.cells arr ty (0, 0)) ∧ arr.size = cap * sz ∧
      es.length ≤ cap ∧ cap ≤ maxLen ∧ (∀ e ∈ es, e.length = sz) ∧ (∀ i j, i < es.length → j < sz → arr[i * sz + j]? = some (us i j)) ∧
      ∀ (i j : Nat) e c, es[i]? = some e → e[j]? = some c → RdC w E.loc (o, [(i, j)]) c (us i j)

/-- The references in a value are among U. -/
inductive Mn (U : Nat → Prop) : AV → Prop
  | c (x) : Mn U (.c x)
  | bw (x) : Mn U (.bw x)
  | nul : Mn U .nul
  | any : Mn U .any
  | sl (o n) : U o → Mn U (.sl o n)
  | pt (o i j) : U o → Mn U (.pt o i j)
  | ag (cs) : (∀ c ∈ cs, Mn U c) → Mn U (.ag cs)
  | tu (cs) : (∀ c ∈ cs, Mn U c) → Mn U (.tu cs)
def MnOb (U : Nat → Prop) : Ob → Prop
  | .box _ cs => ∀ c ∈ cs, Mn U c
  | .rw _ _ _ => True

/-- How a world has gone on: what is not in M is as it was. -/
structure Evo (M : Nat → Prop) (w w' : World) : Prop where
  os : w'.os = w.os
  tape : w'.tape = w.tape
  output : w'.output = w.output
  size : w.heap.size ≤ w'.heap.size
  block : ∀ k, k < w.heap.size → ¬ M k → w'.heap[k]? = w.heap[k]?

structure ASt where
  t : Nat → AV
  H : Hp
  c : Nat

/-- What a call may change: the blocks of the objects that were handed to it (label 0: what is another's). -/
def Mut (E0 : Env) (b : Nat) : Prop := ∃ k p, E0.loc b = some (k, p) ∧ k ≠ 0

/-- How a call begins. -/
structure Ini where
  w : World
  E : Env
  H : Hp

structure RelE (nt : Nat) (I : Ini) (U : Nat → Prop) (s : ASt) (E : Env) (a : Act) (w : World) : Prop where
  defers : a.defers = []
  size : a.tmps.size = nt
  slots : ∀ (k : Nat) u, a.tmps[k]? = some u → RdV w E s.H (s.t k) u
  live : ∀ o ob, s.H o = some ob → LiveOb w E s.H o ob
  locLt : ∀ b ℓ, E.loc b = some ℓ → b < w.heap.size
  old : ∀ b, b < I.w.heap.size → ¬ Mut I.E b → E.loc b = I.E.loc b
  pas : ∀ o x, I.H o = some x → U o ∧ (s.H o = none ∨ (E.rho o = I.E.rho o ∧ ∃ y, s.H o = some y ∧ x.like y))
  u0 : U 0
  h0 : s.H 0 = none
  mnT : ∀ k, Mn U (s.t k)
  mnH : ∀ o ob, s.H o = some ob → U o ∧ MnOb U ob
  evo : Evo (Mut I.E) I.w w
def Rel (nt : Nat) (I : Ini) (U : Nat → Prop) (s : ASt) (a : Act) (w : World) : Prop := ∃ E, RelE nt I U s E a w

/-! ### How readings are kept -/
theorem RdR.one {w : World} {T : Nat → Prop} {c : CV} {u : Value} (h : RdR w T c u) : u.oneCell' = true := by
  cases h <;> first | rfl | assumption
theorem RdC.one {w : World} {loc : Nat → Option Loc} {ℓ : Loc} {c : CV} {u : Value} (h : RdC w loc ℓ c u) : u.oneCell' = true := by
  cases h with
  | im _ _ _ h => exact h.one
  | nil => rfl
  | own => rfl

theorem RdR.lt {w : World} {b : Nat} {o : Obj} (h : w.heap[b]? = some o) : b < w.heap.size := (Array.getElem?_eq_some_iff.1 h).1

theorem RdR.mono {w w' : World} {T T' : Nat → Prop} {c : CV} {u : Value} (h : RdR w T c u) (hk : ∀ b, b < w.heap.size → T b → w'.heap[b]? = w.heap[b]? ∧ T' b) : RdR w' T' c u := by
  induction h with
  | v x h => exact .v x h
  | hole u h => exact .hole u h
  | nil k a c => exact .nil k a c
  | row k b off sz cap es arr ty fz us hT hb hs hm hc hu _ ih =>
    have := hk b (RdR.lt hb) hT
    exact .row k b off sz cap es arr ty fz us this.2 (this.1.trans hb) hs hm hc hu ih
  | ptr b off cs j arr ty fz us hT hb hu _ ih =>
    have := hk b (RdR.lt hb) hT
    exact .ptr b off cs j arr ty fz us this.2 (this.1.trans hb) hu ih

/-- The labels are turned by g; the memory that counts is kept. -/
theorem RdC.relabel {w w' : World} {loc loc' : Nat → Option Loc} {ℓ : Loc} {c : CV} {u : Value} (h : RdC w loc ℓ c u) :
    ∀ ℓ' : Loc, (∀ b, b < w.heap.size → loc b = none → w'.heap[b]? = w.heap[b]? ∧ loc' b = none) →
    (∀ b q, b < w.heap.size → loc b = some (ℓ.1, ℓ.2 ++ q) → w'.heap[b]? = w.heap[b]? ∧ loc' b = some (ℓ'.1, ℓ'.2 ++ q)) → RdC w' loc' ℓ' c u := by
  induction h with
  | im ℓ c u h hi => exact fun ℓ' h0 _ => .im ℓ' c u (h.mono h0) hi
  | nil ℓ a => exact fun ℓ' _ _ => .nil ℓ' a
  | own ℓ b sz cap es arr ty us hl hb hz hc hm hs hu _ ih =>
    intro ℓ' h0 h1
    have hh := h1 b [] (RdR.lt hb) (by rw [hl]; simp)
    refine .own ℓ' b sz cap es arr ty us (by rw [hh.2]; simp) (hh.1.trans hb) hz hc hm hs hu (fun i j e c he hc' => ih i j e c he hc' _ h0 (fun b' q hb' hq => ?_))
    have := h1 b' ((i, j) :: q) hb' (by rw [hq]; simp)
    simpa using this

/-- A cell of an object is read, wherever its labels are not forbidden. -/
theorem RdC.toR {w : World} {loc : Nat → Option Loc} {ℓ : Loc} {c : CV} {u : Value} {T : Nat → Prop} (h : RdC w loc ℓ c u) :
    (∀ b, loc b = none → T b) → (∀ b q, loc b = some (ℓ.1, ℓ.2 ++ q) → T b) → RdR w T c u := by
  induction h with
  | im ℓ c u h hi => exact fun h0 _ => h.mono (fun b _ hb => ⟨rfl, h0 b hb⟩)
  | nil ℓ a => exact fun _ _ => .nil true a 0
  | own ℓ b sz cap es arr ty us hl hb hz hc hm hs hu _ ih =>
    intro h0 h1
    have e : (0 : Nat) + 0 = 0 := rfl
    exact .row true b 0 sz cap es arr ty (0, 0) us (h1 b [] (by rw [hl]; simp)) hb hs (Nat.le_trans hc hm) hc (fun i j hi hj => by rw [Nat.zero_add]; exact hu i j hi hj)
      (fun i j e c he hc' => ih i j e c he hc' h0 (fun b' q hq => h1 b' ((i, j) :: q) (by rw [hq]; simp)))

structure Keeps (U : Nat → Prop) (w w' : World) (E E' : Env) (H H' : Hp) : Prop where
  t0 : ∀ b, b < w.heap.size → E.loc b = none → w'.heap[b]? = w.heap[b]? ∧ E'.loc b = none
  t1 : ∀ b, b < w.heap.size → E.T1 b → w'.heap[b]? = w.heap[b]? ∧ E'.T1 b
  ob : ∀ o, U o → H' o = none ∨ (E'.rho o = E.rho o ∧ ∃ x y, H o = some x ∧ H' o = some y ∧ x.like y)

theorem RdV.keeps {U : Nat → Prop} {w w' : World} {E E' : Env} {H H' : Hp} (k : Keeps U w w' E E' H H') {v : AV} {u : Value} (h : RdV w E H v u) (hm : Mn U v) : RdV w' E' H' v u := by
  induction h with
  | c x u h => exact .c x u (h.mono k.t0)
  | bw x u h => exact .bw x u (h.mono k.t1)
  | nul => exact .nul
  | any u => exact .any u
  | slX o n u h =>
    obtain _ | _ | _ | _ | ⟨_, _, hu⟩ := hm
    rcases k.ob o hu with h' | ⟨_, x, _, hx, _⟩
    · exact .slX o n u h'
    · rw [h] at hx; cases hx
  | sl o n ty sz es b cap h hr =>
    obtain _ | _ | _ | _ | ⟨_, _, hu⟩ := hm
    rcases k.ob o hu with h' | ⟨hr', x, y, hx, hy, hl⟩
    · exact .slX o n _ h'
    · rw [h] at hx
      cases hx
      cases y with
      | box => exact hl.elim
      | rw ty' sz' es' => exact .sl o n ty' sz' es' b cap hy (hr'.trans hr)
  | slN o ty sz h hr =>
    obtain _ | _ | _ | _ | ⟨_, _, hu⟩ := hm
    rcases k.ob o hu with h' | ⟨hr', x, y, hx, hy, hl⟩
    · exact .slX o 0 _ h'
    · rw [h] at hx
      cases hx
      cases y with
      | box => exact hl.elim
      | rw ty' sz' es' =>
        have := hl.2.1 rfl
        subst this
        exact .slN o ty' sz' hy (hr'.trans hr)
  | ptX o i j u h =>
    obtain _ | _ | _ | _ | _ | ⟨_, _, _, hu⟩ := hm
    rcases k.ob o hu with h' | ⟨_, x, _, hx, _⟩
    · exact .ptX o i j u h'
    · rw [h] at hx; cases hx
  | pt o i j ob b cap h hr =>
    obtain _ | _ | _ | _ | _ | ⟨_, _, _, hu⟩ := hm
    rcases k.ob o hu with h' | ⟨hr', x, y, hx, hy, hl⟩
    · exact .ptX o i j _ h'
    · rw [h] at hx
      cases hx
      have : ob.sz = y.sz := by cases ob <;> cases y <;> simp_all [Ob.like, Ob.sz]
      rw [this]
      exact .pt o i j y b cap hy (hr'.trans hr)
  | ag cs us hs _ ih =>
    cases hm with
    | ag _ hm => exact .ag cs us hs (fun i c u hc hu => ih i c u hc hu (hm c (List.mem_of_getElem? hc)))
  | tu cs us hs _ ih =>
    cases hm with
    | tu _ hm => exact .tu cs us hs (fun i c u hc hu => ih i c u hc hu (hm c (List.mem_of_getElem? hc)))

theorem Mn.mono {U U' : Nat → Prop} (h : ∀ o, U o → U' o) {v : AV} (hv : Mn U v) : Mn U' v := by
  induction hv with
  | c x => exact .c x
  | bw x => exact .bw x
  | nul => exact .nul
  | any => exact .any
  | sl o n hu => exact .sl o n (h o hu)
  | pt o i j hu => exact .pt o i j (h o hu)
  | ag cs _ ih => exact .ag cs ih
  | tu cs _ ih => exact .tu cs ih

theorem Evo.refl (M : Nat → Prop) (w : World) : Evo M w w := ⟨rfl, rfl, rfl, Nat.le_refl _, fun _ _ _ => rfl⟩
theorem Evo.trans {M : Nat → Prop} {a b c : World} (h : Evo M a b) (k : Evo M b c) : Evo M a c :=
  ⟨k.os.trans h.os, k.tape.trans h.tape, k.output.trans h.output, Nat.le_trans h.size k.size, fun i hi hm => (k.block i (Nat.lt_of_lt_of_le hi h.size) hm).trans (h.block i hi hm)⟩
/-- A step that turns only what is in M' (all of it new or in M). -/
theorem Evo.step {M M' : Nat → Prop} {a b c : World} (h : Evo M a b) (k : Evo M' b c) (hm : ∀ i, M' i → i < b.heap.size → a.heap.size ≤ i ∨ M i) : Evo M a c :=
  ⟨k.os.trans h.os, k.tape.trans h.tape, k.output.trans h.output, Nat.le_trans h.size k.size, fun i hi hn =>
    (k.block i (Nat.lt_of_lt_of_le hi h.size) (fun hx => by rcases hm i hx (Nat.lt_of_lt_of_le hi h.size) with h1 | h1; omega; exact hn h1)).trans (h.block i hi hn)⟩

end Go.Proofs.Ytnnmpdanfeejbaa.Abs
