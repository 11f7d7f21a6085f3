import Derived.Orders
import Derived.Below
import Derived.Laws.AppendOwn
import Derived.Laws.Entries
import Derived.Laws.Cells
import Derived.Laws.Rows
import Derived.Laws.Small
import Derived.Laws.StructEq
import Derived.ChangeKeysEq
import Derived.Laws.BytesString
import Derived.Lib.ConvBytes
import Derived.Laws.MakeOwn
import Derived.Great.BuildSlice
/- A small abstract machine over the model's code: the values that it computes with, and how they stand for Go's values in a world. -/
namespace Go.Proofs.YtnnmpdanfeejbaaGreat.Abs
open Go Go.RowKit
set_option linter.unusedVariables false
set_option linter.unusedSimpArgs false
set_option linter.unusedSectionVars false

/-- What a cell holds, closed: a plain value; a row (owned, where the flag is true); a pointer to cells that are only read. -/
inductive CV where
  | v (x : Value)
  | row (k : Bool) (es : List (List CV))
  | ptr (cs : List CV) (j : Nat)
  | hole
  deriving Inhabited

abbrev Loc := Nat × List (Nat × Nat)

/-- A value is read: the blocks that are looked at satisfy T. -/
inductive RdR (w : World) (T : Nat → Prop) : CV → Value → Prop
  | v (x) : x.oneCell' = true → RdR w T (.v x) x
  | hole (u) : u.oneCell' = true → RdR w T .hole u
  | nil (k a c) : (k = true → c = 0) → RdR w T (.row k []) (.slice a 0 c)
  | row (k b off sz cap es arr ty fz) (us : Nat → Nat → Value) : T b → w.heap[b]? = some (.cells arr ty fz) → (∀ e ∈ es, e.length = sz) → es.length ≤ maxLen → es.length ≤ cap → (k = true → es = [] → cap = 0) →
      (∀ i j, i < es.length → j < sz → arr[off + (i * sz + j)]? = some (us i j)) →
      (∀ (i j : Nat) e c, es[i]? = some e → e[j]? = some c → RdR w T c (us i j)) → RdR w T (.row k es) (.slice (some ⟨b, off, none⟩) es.length cap)
  | ptr (b off cs j arr ty fz) (us : Nat → Value) : T b → w.heap[b]? = some (.cells arr ty fz) → (∀ j, j < cs.length → arr[off + j]? = some (us j)) →
      (∀ (j : Nat) c, cs[j]? = some c → RdR w T c (us j)) → RdR w T (.ptr cs j) (.pointer (some ⟨b, off + j, none⟩))

def CV.im : CV → CV
  | .row _ es => .row false es
  | x => x

/-- A cell of an object of the call's own, at its place. -/
inductive RdC (w : World) (loc : Nat → Option Loc) : Loc → CV → Value → Prop
  | im (ℓ c u) : RdR w (fun b => loc b = none) c u → c.im = c → RdC w loc ℓ c u
  | nil (ℓ) : RdC w loc ℓ (.row true []) (.slice none 0 0)
  | own (ℓ b sz cap es arr ty) (us : Nat → Nat → Value) : loc b = some ℓ → w.heap[b]? = some (.cells arr ty (0, 0)) → arr.size = cap * sz → es.length ≤ cap → (cap ≤ maxLen ∧ (es = [] → cap = 0)) →
      (∀ e ∈ es, e.length = sz) → (∀ i j, i < es.length → j < sz → arr[i * sz + j]? = some (us i j)) →
      (∀ (i j : Nat) e c, es[i]? = some e → e[j]? = some c → RdC w loc (ℓ.1, ℓ.2 ++ [(i, j)]) c (us i j)) → RdC w loc ℓ (.row true es) (.slice (some ⟨b, 0, none⟩) es.length cap)

/-- What a slot holds (sv: from an element on; mr: a map). -/
inductive AV where
  | c (x : CV)
  | bw (x : CV)
  | nul
  | sl (o n : Nat)
  | pt (o i j : Nat)
  | sv (o a n : Nat)
  | mr (o : Nat)
  | ag (cs : List AV)
  | tu (cs : List AV)
  | any
  deriving Inhabited

/-- An object of the call's own (rx: a row, and what the one cell holds which is a hole in it; mp: a map of strings to numbers). -/
inductive Ob where
  | box (ty : Nat) (cs : List AV)
  | rw (ty sz : Nat) (es : List (List CV))
  | rx (ty sz : Nat) (es : List (List CV)) (i j : Nat) (v : AV)
  | mp (m : List (ByteArray × Int))
  deriving Inhabited

def Ob.sz : Ob → Nat
  | .box _ _ => 0
  | .rw _ sz _ => sz
  | .rx _ sz _ _ _ _ => sz
  | .mp _ => 0
/-- What a reference leans on: the kind of its object. -/
def Ob.like : Ob → Ob → Prop
  | .box _ _, .box _ _ => True
  | .rw _ sz es, .rw _ sz' es' => sz = sz' ∧ (es = [] ↔ es' = [])
  | .rw _ sz es, .rx _ sz' _ _ _ _ => sz = sz' ∧ es ≠ []
  | .rx _ sz _ _ _ _, .rw _ sz' es' => sz = sz' ∧ es' ≠ []
  | .rx _ sz _ _ _ _, .rx _ sz' _ _ _ _ => sz = sz'
  | .mp _, .mp _ => True
  | _, _ => False
theorem Ob.like.refl (o : Ob) : o.like o := by cases o <;> simp [Ob.like]
theorem Ob.like.sz {a b : Ob} (h : a.like b) : a.sz = b.sz := by
  cases a <;> cases b <;> simp_all [Ob.like, Ob.sz]
theorem Ob.like.trans {a b c : Ob} (h : a.like b) (k : b.like c) : a.like c := by
  cases a <;> cases b <;> cases c <;> simp_all [Ob.like]

structure Env where
  rho : Nat → Option (Nat × Nat)
  loc : Nat → Option Loc

abbrev Env.T0 (E : Env) (b : Nat) : Prop := E.loc b = none
abbrev Env.T1 (E : Env) (b : Nat) : Prop := ∀ o, E.loc b ≠ some (o, [])

abbrev Hp := Nat → Option Ob

inductive RdV (w : World) (E : Env) (H : Hp) : AV → Value → Prop
  | c (x u) : RdR w E.T0 x u → RdV w E H (.c x) u
  | bw (x u) : RdR w E.T1 x u → RdV w E H (.bw x) u
  | nul : RdV w E H .nul (.slice none 0 0)
  | any (u) : RdV w E H .any u
  | slX (o n u) : H o = none → RdV w E H (.sl o n) u
  | sl (o n ty sz es b cap) : H o = some (.rw ty sz es) → E.rho o = some (b, cap) → RdV w E H (.sl o n) (.slice (some ⟨b, 0, none⟩) n cap)
  | slN (o ty sz) : H o = some (.rw ty sz []) → E.rho o = none → RdV w E H (.sl o 0) (.slice none 0 0)
  | slO (o n ty sz es i j v b cap) : H o = some (.rx ty sz es i j v) → E.rho o = some (b, cap) → RdV w E H (.sl o n) (.slice (some ⟨b, 0, none⟩) n cap)
  | svX (o a n u) : H o = none → RdV w E H (.sv o a n) u
  | sv (o a n ob b cap) : H o = some ob → E.rho o = some (b, cap) → RdV w E H (.sv o a n) (.slice (some ⟨b, a * ob.sz, none⟩) n (cap - a))
  | mrX (o u) : H o = none → RdV w E H (.mr o) u
  | mr (o m b cap) : H o = some (.mp m) → E.rho o = some (b, cap) → RdV w E H (.mr o) (.map (some b))
  | ptX (o i j u) : H o = none → RdV w E H (.pt o i j) u
  | pt (o i j ob b cap) : H o = some ob → E.rho o = some (b, cap) → RdV w E H (.pt o i j) (.pointer (some ⟨b, i * ob.sz + j, none⟩))
  | ag (cs) (us : Array Value) : us.size = cs.length → (∀ (i : Nat) c u, cs[i]? = some c → us[i]? = some u → RdV w E H c u) → RdV w E H (.ag cs) (.agg us)
  | tu (cs) (us : Array Value) : us.size = cs.length → (∀ (i : Nat) c u, cs[i]? = some c → us[i]? = some u → RdV w E H c u) → RdV w E H (.tu cs) (.tuple us)

def LiveOb (w : World) (E : Env) (H : Hp) (o : Nat) : Ob → Prop
  | .box ty cs => ∃ b arr, ∃ us : Nat → Value, E.rho o = some (b, 1) ∧ E.loc b = some (o, []) ∧ w.heap[b]? = some (.cells arr ty (0, 0)) ∧ arr.size = cs.length ∧
      (∀ j, j < cs.length → arr[j]? = some (us j)) ∧ ∀ (j : Nat) c, cs[j]? = some c → RdV w E H c (us j)
  | .rw ty sz es => (E.rho o = none ∧ es = []) ∨ ∃ b cap arr, ∃ us : Nat → Nat → Value, E.rho o = some (b, cap) ∧ E.loc b = some (o, []) ∧ (∃ ty', w.heap[b]? = some (.cells arr ty' (0, 0))) ∧ arr.size = cap * sz ∧
      es.length ≤ cap ∧ (cap ≤ maxLen ∧ (es = [] → cap = 0)) ∧ (∀ e ∈ es, e.length = sz) ∧ (∀ i j, i < es.length → j < sz → arr[i * sz + j]? = some (us i j)) ∧
      ∀ (i j : Nat) e c, es[i]? = some e → e[j]? = some c → RdC w E.loc (o, [(i, j)]) c (us i j)
  | .rx ty sz es i0 j0 v => i0 < es.length ∧ j0 < sz ∧ ∃ b cap arr, ∃ us : Nat → Nat → Value, E.rho o = some (b, cap) ∧ E.loc b = some (o, []) ∧ (∃ ty', w.heap[b]? = some (.cells arr ty' (0, 0))) ∧ arr.size = cap * sz ∧
      es.length ≤ cap ∧ (cap ≤ maxLen ∧ (es = [] → cap = 0)) ∧ (∀ e ∈ es, e.length = sz) ∧ (∀ i j, i < es.length → j < sz → arr[i * sz + j]? = some (us i j)) ∧
      (∀ (i j : Nat) e c, es[i]? = some e → e[j]? = some c → RdC w E.loc (o, [(i, j)]) c (us i j)) ∧ RdV w E H v (us i0 j0)
  | .mp m => ∃ b ents clock, E.rho o = some (b, 1) ∧ E.loc b = some (o, []) ∧ w.heap[b]? = some (.map ents clock) ∧ ents.toList.map (fun e => (e.key, e.val)) = m.map (fun x => (Value.string x.1, Value.int .i64 x.2))

/-- The references in a value are among U. -/
inductive Mn (U : Nat → Prop) : AV → Prop
  | c (x) : Mn U (.c x)
  | bw (x) : Mn U (.bw x)
  | nul : Mn U .nul
  | any : Mn U .any
  | sl (o n) : U o → Mn U (.sl o n)
  | pt (o i j) : U o → Mn U (.pt o i j)
  | sv (o a n) : U o → Mn U (.sv o a n)
  | mr (o) : U o → Mn U (.mr o)
  | ag (cs) : (∀ c ∈ cs, Mn U c) → Mn U (.ag cs)
  | tu (cs) : (∀ c ∈ cs, Mn U c) → Mn U (.tu cs)
def MnOb (U : Nat → Prop) : Ob → Prop
  | .box _ cs => ∀ c ∈ cs, Mn U c
  | .rw _ _ _ => True
  | .rx _ _ _ _ _ v => Mn U v
  | .mp _ => True

/-- How a world has gone on: what is not in M is as it was. -/
structure Evo (M : Nat → Prop) (w w' : World) : Prop where
  os : w'.os = w.os
  tape : w'.tape = w.tape
  output : w'.output = w.output
  size : w.heap.size ≤ w'.heap.size
  block : ∀ k, k < w.heap.size → ¬ M k → w'.heap[k]? = w.heap[k]?

structure ASt where
  t : Nat → AV
  H : Hp
  c : Nat

/-- What a call may change: the blocks of the objects that were handed to it (label 0: what is another's). -/
def Mut (E0 : Env) (b : Nat) : Prop := ∃ k p, E0.loc b = some (k, p) ∧ k ≠ 0

/-- How a call begins. -/
structure Ini where
  w : World
  E : Env
  H : Hp

structure RelE (nt : Nat) (I : Ini) (U : Nat → Prop) (s : ASt) (E : Env) (a : Act) (w : World) : Prop where
  defers : a.defers = []
  size : a.tmps.size = nt
  slots : ∀ (k : Nat) u, a.tmps[k]? = some u → RdV w E s.H (s.t k) u
  live : ∀ o ob, s.H o = some ob → LiveOb w E s.H o ob
  locLt : ∀ b ℓ, E.loc b = some ℓ → b < w.heap.size
  old : ∀ b, b < I.w.heap.size → ¬ Mut I.E b → E.loc b = I.E.loc b
  pas : ∀ o x, I.H o = some x → U o ∧ (s.H o = none ∨ (E.rho o = I.E.rho o ∧ ∃ y, s.H o = some y ∧ x.like y))
  u0 : U 0
  h0 : s.H 0 = none
  mnT : ∀ k, Mn U (s.t k)
  mnH : ∀ o ob, s.H o = some ob → U o ∧ MnOb U ob
  evo : Evo (Mut I.E) I.w w
def Rel (nt : Nat) (I : Ini) (U : Nat → Prop) (s : ASt) (a : Act) (w : World) : Prop := ∃ E, RelE nt I U s E a w

/-! ### How readings are kept -/
theorem RdR.one {w : World} {T : Nat → Prop} {c : CV} {u : Value} (h : RdR w T c u) : u.oneCell' = true := by
  cases h <;> first | rfl | assumption
theorem RdC.one {w : World} {loc : Nat → Option Loc} {ℓ : Loc} {c : CV} {u : Value} (h : RdC w loc ℓ c u) : u.oneCell' = true := by
  cases h with
  | im _ _ _ h => exact h.one
  | nil => rfl
  | own => rfl

theorem RdR.lt {w : World} {b : Nat} {o : Obj} (h : w.heap[b]? = some o) : b < w.heap.size := (Array.getElem?_eq_some_iff.1 h).1

theorem RdR.mono {w w' : World} {T T' : Nat → Prop} {c : CV} {u : Value} (h : RdR w T c u) (hk : ∀ b, b < w.heap.size → T b → w'.heap[b]? = w.heap[b]? ∧ T' b) : RdR w' T' c u := by
  induction h with
  | v x h => exact .v x h
  | hole u h => exact .hole u h
  | nil k a c h => exact .nil k a c h
  | row k b off sz cap es arr ty fz us hT hb hs hm hc hz hu _ ih =>
    have := hk b (RdR.lt hb) hT
    exact .row k b off sz cap es arr ty fz us this.2 (this.1.trans hb) hs hm hc hz hu ih
  | ptr b off cs j arr ty fz us hT hb hu _ ih =>
    have := hk b (RdR.lt hb) hT
    exact .ptr b off cs j arr ty fz us this.2 (this.1.trans hb) hu ih

/-- The labels are turned by g; the memory that counts is kept. -/
theorem RdC.relabel {w w' : World} {loc loc' : Nat → Option Loc} {ℓ : Loc} {c : CV} {u : Value} (h : RdC w loc ℓ c u) :
    ∀ ℓ' : Loc, (∀ b, b < w.heap.size → loc b = none → w'.heap[b]? = w.heap[b]? ∧ loc' b = none) →
    (∀ b q, b < w.heap.size → loc b = some (ℓ.1, ℓ.2 ++ q) → w'.heap[b]? = w.heap[b]? ∧ loc' b = some (ℓ'.1, ℓ'.2 ++ q)) → RdC w' loc' ℓ' c u := by
  induction h with
  | im ℓ c u h hi => exact fun ℓ' h0 _ => .im ℓ' c u (h.mono h0) hi
  | nil ℓ => exact fun ℓ' _ _ => .nil ℓ'
  | own ℓ b sz cap es arr ty us hl hb hz hc hm hs hu _ ih =>
    intro ℓ' h0 h1
    have hh := h1 b [] (RdR.lt hb) (by rw [hl]; simp)
    refine .own ℓ' b sz cap es arr ty us (by rw [hh.2]; simp) (hh.1.trans hb) hz hc hm hs hu (fun i j e c he hc' => ih i j e c he hc' _ h0 (fun b' q hb' hq => ?_))
    have := h1 b' ((i, j) :: q) hb' (by rw [hq]; simp)
    simpa using this

/-- A cell of an object is read, wherever its labels are not forbidden. -/
theorem RdC.toR {w : World} {loc : Nat → Option Loc} {ℓ : Loc} {c : CV} {u : Value} {T : Nat → Prop} (h : RdC w loc ℓ c u) :
    (∀ b, loc b = none → T b) → (∀ b q, loc b = some (ℓ.1, ℓ.2 ++ q) → T b) → RdR w T c u := by
  induction h with
  | im ℓ c u h hi => exact fun h0 _ => h.mono (fun b _ hb => ⟨rfl, h0 b hb⟩)
  | nil ℓ => exact fun _ _ => .nil true none 0 (fun _ => rfl)
  | own ℓ b sz cap es arr ty us hl hb hz hc hm hs hu _ ih =>
    intro h0 h1
    have e : (0 : Nat) + 0 = 0 := rfl
    exact .row true b 0 sz cap es arr ty (0, 0) us (h1 b [] (by rw [hl]; simp)) hb hs (Nat.le_trans hc hm.1) hc (fun _ => hm.2) (fun i j hi hj => by rw [Nat.zero_add]; exact hu i j hi hj)
      (fun i j e c he hc' => ih i j e c he hc' h0 (fun b' q hq => h1 b' ((i, j) :: q) (by rw [hq]; simp)))

structure Keeps (U : Nat → Prop) (w w' : World) (E E' : Env) (H H' : Hp) : Prop where
  t0 : ∀ b, b < w.heap.size → E.loc b = none → w'.heap[b]? = w.heap[b]? ∧ E'.loc b = none
  t1 : ∀ b, b < w.heap.size → E.T1 b → w'.heap[b]? = w.heap[b]? ∧ E'.T1 b
  ob : ∀ o, U o → H' o = none ∨ (E'.rho o = E.rho o ∧ ∃ x y, H o = some x ∧ H' o = some y ∧ x.like y)

theorem RdV.keeps {U : Nat → Prop} {w w' : World} {E E' : Env} {H H' : Hp} (k : Keeps U w w' E E' H H') {v : AV} {u : Value} (h : RdV w E H v u) (hm : Mn U v) : RdV w' E' H' v u := by
  induction h with
  | c x u h => exact .c x u (h.mono k.t0)
  | bw x u h => exact .bw x u (h.mono k.t1)
  | nul => exact .nul
  | any u => exact .any u
  | slX o n u h =>
    obtain _ | _ | _ | _ | ⟨_, _, hu⟩ := hm
    rcases k.ob o hu with h' | ⟨_, x, _, hx, _⟩
    · exact .slX o n u h'
    · rw [h] at hx; cases hx
  | sl o n ty sz es b cap h hr =>
    obtain _ | _ | _ | _ | ⟨_, _, hu⟩ := hm
    rcases k.ob o hu with h' | ⟨hr', x, y, hx, hy, hl⟩
    · exact .slX o n _ h'
    · rw [h] at hx
      cases hx
      cases y with
      | box => exact hl.elim
      | mp => exact hl.elim
      | rx ty' sz' es' i j v => exact .slO o n ty' sz' es' i j v b cap hy (hr'.trans hr)
      | rw ty' sz' es' => exact .sl o n ty' sz' es' b cap hy (hr'.trans hr)
  | slO o n ty sz es i j v b cap h hr =>
    obtain _ | _ | _ | _ | ⟨_, _, hu⟩ := hm
    rcases k.ob o hu with h' | ⟨hr', x, y, hx, hy, hl⟩
    · exact .slX o n _ h'
    · rw [h] at hx
      cases hx
      cases y with
      | box => exact hl.elim
      | mp => exact hl.elim
      | rx ty' sz' es' i j v => exact .slO o n ty' sz' es' i j v b cap hy (hr'.trans hr)
      | rw ty' sz' es' => exact .sl o n ty' sz' es' b cap hy (hr'.trans hr)
  | svX o a n u h =>
    obtain _ | _ | _ | _ | _ | _ | ⟨_, _, _, hu⟩ := hm
    rcases k.ob o hu with h' | ⟨_, x, _, hx, _⟩
    · exact .svX o a n u h'
    · rw [h] at hx; cases hx
  | sv o a n ob b cap h hr =>
    obtain _ | _ | _ | _ | _ | _ | ⟨_, _, _, hu⟩ := hm
    rcases k.ob o hu with h' | ⟨hr', x, y, hx, hy, hl⟩
    · exact .svX o a n _ h'
    · rw [h] at hx
      cases hx
      rw [hl.sz]
      exact .sv o a n y b cap hy (hr'.trans hr)
  | mrX o u h =>
    obtain _ | _ | _ | _ | _ | _ | _ | ⟨_, hu⟩ := hm
    rcases k.ob o hu with h' | ⟨_, x, _, hx, _⟩
    · exact .mrX o u h'
    · rw [h] at hx; cases hx
  | mr o m b cap h hr =>
    obtain _ | _ | _ | _ | _ | _ | _ | ⟨_, hu⟩ := hm
    rcases k.ob o hu with h' | ⟨hr', x, y, hx, hy, hl⟩
    · exact .mrX o _ h'
    · rw [h] at hx
      cases hx
      cases y with
      | box => exact hl.elim
      | rw => exact hl.elim
      | rx => exact hl.elim
      | mp m' => exact .mr o m' b cap hy (hr'.trans hr)
  | slN o ty sz h hr =>
    obtain _ | _ | _ | _ | ⟨_, _, hu⟩ := hm
    rcases k.ob o hu with h' | ⟨hr', x, y, hx, hy, hl⟩
    · exact .slX o 0 _ h'
    · rw [h] at hx
      cases hx
      cases y with
      | box => exact hl.elim
      | mp => exact hl.elim
      | rx => exact absurd rfl hl.2
      | rw ty' sz' es' =>
        have := hl.2.1 rfl
        subst this
        exact .slN o ty' sz' hy (hr'.trans hr)
  | ptX o i j u h =>
    obtain _ | _ | _ | _ | _ | ⟨_, _, _, hu⟩ := hm
    rcases k.ob o hu with h' | ⟨_, x, _, hx, _⟩
    · exact .ptX o i j u h'
    · rw [h] at hx; cases hx
  | pt o i j ob b cap h hr =>
    obtain _ | _ | _ | _ | _ | ⟨_, _, _, hu⟩ := hm
    rcases k.ob o hu with h' | ⟨hr', x, y, hx, hy, hl⟩
    · exact .ptX o i j _ h'
    · rw [h] at hx
      cases hx
      rw [hl.sz]
      exact .pt o i j y b cap hy (hr'.trans hr)
  | ag cs us hs _ ih =>
    cases hm with
    | ag _ hm => exact .ag cs us hs (fun i c u hc hu => ih i c u hc hu (hm c (List.mem_of_getElem? hc)))
  | tu cs us hs _ ih =>
    cases hm with
    | tu _ hm => exact .tu cs us hs (fun i c u hc hu => ih i c u hc hu (hm c (List.mem_of_getElem? hc)))

theorem Mn.mono {U U' : Nat → Prop} (h : ∀ o, U o → U' o) {v : AV} (hv : Mn U v) : Mn U' v := by
  induction hv with
  | c x => exact .c x
  | bw x => exact .bw x
  | nul => exact .nul
  | any => exact .any
  | sl o n hu => exact .sl o n (h o hu)
  | pt o i j hu => exact .pt o i j (h o hu)
  | sv o a n hu => exact .sv o a n (h o hu)
  | mr o hu => exact .mr o (h o hu)
  | ag cs _ ih => exact .ag cs ih
  | tu cs _ ih => exact .tu cs ih

theorem Evo.refl (M : Nat → Prop) (w : World) : Evo M w w := ⟨rfl, rfl, rfl, Nat.le_refl _, fun _ _ _ => rfl⟩
theorem Evo.trans {M : Nat → Prop} {a b c : World} (h : Evo M a b) (k : Evo M b c) : Evo M a c :=
  ⟨k.os.trans h.os, k.tape.trans h.tape, k.output.trans h.output, Nat.le_trans h.size k.size, fun i hi hm => (k.block i (Nat.lt_of_lt_of_le hi h.size) hm).trans (h.block i hi hm)⟩
/-- A step that turns only what is in M' (all of it new or in M). -/
theorem Evo.step {M M' : Nat → Prop} {a b c : World} (h : Evo M a b) (k : Evo M' b c) (hm : ∀ i, M' i → i < b.heap.size → a.heap.size ≤ i ∨ M i) : Evo M a c :=
  ⟨k.os.trans h.os, k.tape.trans h.tape, k.output.trans h.output, Nat.le_trans h.size k.size, fun i hi hn =>
    (k.block i (Nat.lt_of_lt_of_le hi h.size) (fun hx => by rcases hm i hx (Nat.lt_of_lt_of_le hi h.size) with h1 | h1; omega; exact hn h1)).trans (h.block i hi hn)⟩

end Go.Proofs.YtnnmpdanfeejbaaGreat.Abs

/- The abstract machine's operations: what each of the model's operations does to slots and objects. -/
namespace Go.Proofs.YtnnmpdanfeejbaaGreat.Abs
open Go Go.RowKit
set_option linter.unusedVariables false

def upd {α : Type} (f : Nat → α) (k : Nat) (x : α) : Nat → α := fun j => if j = k then x else f j
theorem upd_same {α : Type} (f : Nat → α) (k : Nat) (x : α) : upd f k x k = x := if_pos rfl
theorem upd_ne {α : Type} (f : Nat → α) {k j : Nat} (x : α) (h : j ≠ k) : upd f k x j = f j := if_neg h
theorem upd_at {α : Type} (f : Nat → α) (k j : Nat) (x : α) : upd f k x j = if j = k then x else f j := rfl
theorem upd_comm {α : Type} (f : Nat → α) {k j : Nat} (x y : α) (h : k ≠ j) : upd (upd f k x) j y = upd (upd f j y) k x := by
  funext i; unfold upd; split <;> split <;> simp_all

/-- What is asked of a type. -/
structure TI where
  size : Nat
  agg : Bool
  fields : List (Nat × Nat)
  elem : Option (Nat × Nat × Nat)
  zero : List Value
  prim : Option IntKind
  isStr : Bool
  isPtr : Bool
  isBool : Bool
  isBytes : Bool
  mkv : Option (Nat × Nat)
  zi : Bool

def sizeP (P : Program) (t : Nat) : Nat := ((P.info? t).map (·.size)).getD 0
def tiOf (P : Program) (t : Nat) : Option TI :=
  match P.info? t, P.underlying t with
  | some i, some d => some {
      size := i.size
      agg := match d with | .struct _ | .array _ _ => true | _ => false
      fields := match d with | .struct fs => fs.toList.map fun f => (f.offset, sizeP P f.type) | _ => []
      elem := match d with | .slice e => (match P.info? e with | some j => some (e, j.size, j.bytes) | none => none) | _ => none
      zero := match i.zero with | some z => z.cells.toList | none => []
      prim := match d with | .int k => some k | _ => none
      isStr := match d with | .string => true | _ => false
      isPtr := match d with | .pointer _ => true | _ => false
      isBool := match d with | .bool => true | _ => false
      isBytes := match d with | .slice e => (match P.underlying e with | some (.int .u8) => true | _ => false) | _ => false
      mkv := match d with | .map k e => some (k, e) | _ => none
      zi := match i.zero with | some (.int .i64 0) => true | _ => false }
  | _, _ => none

def constA : Value → AV
  | .slice none 0 0 => .nul
  | x => if x.oneCell' then .c (.v x) else .any
def zeroC : Value → CV
  | .slice none 0 0 => .row true []
  | x => .v x

def cellsA : AV → List AV
  | .ag cs => cs
  | x => [x]

/-- One cell for sure. -/
def oneA (H : Hp) : AV → Bool
  | .c _ | .bw _ | .nul => true
  | .sl o _ | .pt o _ _ | .sv o _ _ | .mr o => (H o).isSome
  | _ => false
/-- The cells of a struct must each be one, too. -/
def okA (H : Hp) : AV → Bool
  | .ag cs => cs.all (oneA H)
  | x => oneA H x

def lift : CV → AV
  | .v x => .c (.v x)
  | .row true es => .bw (.row true es)
  | .hole => .any
  | x => .c x
def liftB : CV → AV
  | .v x => .c (.v x)
  | .hole => .any
  | x => .bw x
def liftC : CV → AV
  | .hole => .any
  | x => .c x

def toC (H : Hp) : AV → Option (CV × Option Nat)
  | .c x => some (x.im, none)
  | .bw (.v x) => some (.v x, none)
  | .nul => some (.row true [], none)
  | .sl o n => match H o with
    | some (.rw _ _ es) => if n = es.length then some (.row true es, some o) else none
    | _ => none
  | _ => none

/-- The cells of a value, each for a row; what is taken in stands with its place. -/
def toCs (H : Hp) (i : Nat) : Nat → List AV → Option (List CV × List (Nat × Nat × Nat))
  | _, [] => some ([], [])
  | j, x :: r => match toC H x, toCs H i (j + 1) r with
    | some (c, none), some (cs, ks) => some (c :: cs, ks)
    | some (c, some o), some (cs, ks) => some (c :: cs, (o, i, j) :: ks)
    | _, _ => none

def splice {α : Type} (l : List α) (j : Nat) (m : List α) : List α := l.take j ++ m ++ l.drop (j + m.length)

def gone (ks : List (Nat × Nat × Nat)) : List (Nat × Option Ob) := ks.map fun k => (k.1, none)
def distinct (o : Nat) (ks : List (Nat × Nat × Nat)) : Bool := (ks.map (·.1)).Nodup && ks.all (fun k => k.1 != o)

def pureV (x : Sem Value) : Option Value := match x with | .pure v => some v | _ => none

def binI (op : BinOp) (k : IntKind) (a b : Int) : Option Value :=
  match op with
  | .add => some (.int k (k.wrap (a + b)))
  | .sub => some (.int k (k.wrap (a - b)))
  | .mul => some (.int k (k.wrap (a * b)))
  | .quo => if b ≠ 0 then some (.int k (k.wrap (a.tdiv b))) else none
  | .rem => if b ≠ 0 then some (.int k (a.tmod b)) else none
  | .lss => some (.bool (decide (a < b)))
  | .leq => some (.bool (decide (a ≤ b)))
  | .gtr => some (.bool (decide (a > b)))
  | .geq => some (.bool (decide (a ≥ b)))
  | .eql => some (.bool (a == b))
  | .neq => some (.bool (a != b))
  | .and => pureV (Op.intBits .and k a b)
  | .or => pureV (Op.intBits .or k a b)
  | .xor => pureV (Op.intBits .xor k a b)
  | _ => none
def binS (op : BinOp) (a b : ByteArray) : Option Value :=
  match op with
  | .add => if a.size + b.size ≤ 9223372036854775807 then some (.string (a ++ b)) else none
  | .eql => some (.bool (a.toList == b.toList))
  | .neq => some (.bool (!(a.toList == b.toList)))
  | .lss => some (.bool (Op.bytesLess a.toList b.toList))
  | .leq => some (.bool (Op.bytesLess a.toList b.toList || a.toList == b.toList))
  | .gtr => some (.bool !(Op.bytesLess a.toList b.toList || a.toList == b.toList))
  | .geq => some (.bool !(Op.bytesLess a.toList b.toList))
  | _ => none
def binV (op : BinOp) : Value → Value → Option Value
  | .int k a, .int k' b => match op with
    | .shl => pureV (Op.shift .shl k a k' b)
    | .shr => pureV (Op.shift .shr k a k' b)
    | _ => if k = k' then binI op k a b else none
  | .string a, .string b => binS op a b
  | _, _ => none

/-- Is the value a pointer that is nil? -/
def nilA (H : Hp) : AV → Option Bool
  | .c (.v (.pointer none)) => some true
  | .c (.ptr _ _) | .bw (.ptr _ _) => some false
  | .pt o _ _ => if (H o).isSome then some false else none
  | _ => none

def rowOf (H : Hp) : AV → Option (List (List CV))
  | .c (.row _ es) | .bw (.row _ es) => some es
  | .nul => some []
  | .sl o n => match H o with
    | some (.rw _ _ es) => if n ≤ es.length then some (es.take n) else none
    | _ => none
  | _ => none

def bytesOf : List (List CV) → Option (List UInt8)
  | [] => some []
  | [.v (.int .u8 n)] :: r => (bytesOf r).map (UInt8.ofNat n.toNat :: ·)
  | _ => none

def CV.isV : CV → Bool
  | .v _ => true
  | _ => false
def allV (es : List (List CV)) : Bool := es.all fun e => e.all CV.isV

def fillA (cs : List AV) : List (Nat × Nat × AV) → Option (List AV)
  | [] => some cs
  | (off, sz, x) :: r => if (cellsA x).length = sz ∧ off + sz ≤ cs.length then fillA (splice cs off (cellsA x)) r else none

abbrev EvR := Option (AV × List (Nat × Option Ob))

def evLoad (H : Hp) (i : TI) : AV → EvR
  | .pt o ii j => match H o with
    | some (.box _ cs) => if ii = 0 then (if i.agg then (if j + i.size ≤ cs.length then some (.ag ((cs.drop j).take i.size), []) else none) else (cs[j]?).bind fun c => some (c, [])) else none
    | some (.rw _ _ es) => (es[ii]?).bind fun e => if i.agg then (if j + i.size ≤ e.length then some (.ag (((e.drop j).take i.size).map lift), []) else none) else (e[j]?).bind fun c => some (lift c, [])
    | some (.rx _ _ es i0 j0 v) => (es[ii]?).bind fun e => if i.agg then none else if ii = i0 ∧ j = j0 then some (v, []) else (e[j]?).bind fun c => some (lift c, [])
    | _ => none
  | .c (.ptr cs j) => if i.agg then (if j + i.size ≤ cs.length then some (.ag (((cs.drop j).take i.size).map liftC), []) else none) else (cs[j]?).bind fun c => some (liftC c, [])
  | .bw (.ptr cs j) => if i.agg then (if j + i.size ≤ cs.length then some (.ag (((cs.drop j).take i.size).map liftB), []) else none) else (cs[j]?).bind fun c => some (liftB c, [])
  | _ => none

def evStore (H : Hp) (i : TI) (x : AV) : AV → EvR
  | .pt o ii j => if okA H x ∧ (cellsA x).length = i.size then (match H o with
    | some (.box ty cs) => if ii = 0 ∧ j + i.size ≤ cs.length then some (.any, [(o, some (.box ty (splice cs j (cellsA x))))]) else none
    | some (.rw ty sz es) => (es[ii]?).bind fun e => if j + i.size ≤ e.length then (match toCs H ii j (cellsA x) with
        | some (cs, ks) => if distinct o ks then some (.any, (o, some (.rw ty sz (es.set ii (splice e j cs)))) :: gone ks) else none
        | none => none) else none
    | some (.rx ty sz es i0 j0 v) => (es[ii]?).bind fun e => if j + i.size ≤ e.length ∧ ii = i0 ∧ j ≤ j0 ∧ j0 < j + i.size then (match toCs H ii j (cellsA x) with
        | some (cs, ks) => if distinct o ks then some (.any, (o, some (.rw ty sz (es.set ii (splice e j cs)))) :: gone ks) else none
        | none => none) else none
    | _ => none) else none
  | _ => none

def evIndexAddr (H : Hp) (esz : Nat) (n : Int) : AV → EvR
  | .sl o m => match H o with
    | some (.rw _ sz es) => if 0 ≤ n ∧ n < m ∧ m ≤ es.length ∧ sz = esz then some (.pt o n.toNat 0, []) else none
    | some (.rx _ sz es _ _ _) => if 0 ≤ n ∧ n < m ∧ m ≤ es.length ∧ sz = esz then some (.pt o n.toNat 0, []) else none
    | _ => none
  | .sv o a m => match H o with
    | some (.rw _ sz es) => if 0 ≤ n ∧ n < m ∧ a + m ≤ es.length ∧ sz = esz then some (.pt o (a + n.toNat) 0, []) else none
    | _ => none
  | .c (.row _ es) => (es[n.toNat]?).bind fun e => if 0 ≤ n ∧ e.length = esz then some (.c (.ptr e 0), []) else none
  | .bw (.row _ es) => (es[n.toNat]?).bind fun e => if 0 ≤ n ∧ e.length = esz then some (.bw (.ptr e 0), []) else none
  | _ => none

def evField (H : Hp) (off : Nat) : AV → EvR
  | .pt o ii j => if (H o).isSome then some (.pt o ii (j + off), []) else none
  | .c (.ptr cs j) => some (.c (.ptr cs (j + off)), [])
  | .bw (.ptr cs j) => some (.bw (.ptr cs (j + off)), [])
  | _ => none

def evLen (H : Hp) : AV → Option Int
  | .c (.v (.string s)) => some s.size
  | .c (.row _ es) | .bw (.row _ es) => some es.length
  | .nul => some 0
  | .sl o n => if (H o).isSome then some n else none
  | .sv o _ n => if (H o).isSome then some n else none
  | _ => none

def isStrA : AV → Bool
  | .c (.v (.string _)) => true
  | _ => false

/-- The new cells of an append: what is copied (plain cells, or a row that is only read), or a row of one's own that is used up. -/
def evSrc (H : Hp) : AV → Option (List (List CV) × Option Nat)
  | .c (.row _ es) => some (es.map (·.map CV.im), none)
  | .bw (.row _ es) => if allV es then some (es, none) else none
  | .nul => some ([], none)
  | .c (.v (.string s)) => some (s.data.toList.map fun b => [.v (.int .u8 b.toNat)], none)
  | .sl o n => match H o with
    | some (.rw _ _ es) => if n = es.length then (if allV es then some (es, none) else some (es, some o)) else none
    | _ => none
  | _ => none

/-- What an append brings: elements, or so many noughts. -/
def srcP (H : Hp) (j z : TI) (y : AV) : Option (List (List CV) × Option Nat) := match j.prim with
  | none => evSrc H y
  | some _ => (match z.zero, y with
    | [.int k m], .c (.v (.int .i64 n)) => if 0 ≤ n ∧ n ≤ 140737488355328 then some (List.replicate n.toNat [.v (.int k m)], none) else none
    | _, _ => none)

def goneO : Option Nat → List (Nat × Option Ob)
  | some q => [(q, none)]
  | none => []

def evAppend (id : Nat) (H : Hp) (e esz eb : Nat) (x : AV) (y : Option (List (List CV) × Option Nat)) : EvR :=
  match y with
  | some (new, src) => if ∀ c ∈ new, c.length = esz then (match x with
    | .nul => if new.length ≤ maxLen ∧ new.length * eb ≤ 140737488355328 then some (.sl id new.length, (id, some (.rw e esz new)) :: goneO src) else none
    | .sl o n => (match H o with
      | some (.rw ty sz es) => if n = es.length ∧ ty = e ∧ sz = esz ∧ src ≠ some o ∧ n + new.length ≤ maxLen ∧ (n + new.length) * eb ≤ 140737488355328 then
          some (.sl id (es.length + new.length), (id, some (.rw e esz (es ++ new))) :: (o, none) :: goneO src) else none
      | _ => none)
    | .c (.row true []) => if new ≠ [] ∧ new.length ≤ maxLen ∧ new.length * eb ≤ 140737488355328 then some (.sl id new.length, (id, some (.rw e esz new)) :: goneO src) else none
    | .sv o a n => (match H o, src with
      | some (.rw ty sz es), none => if a + n = es.length ∧ 0 < n ∧ sz = esz ∧ allV es = true ∧ allV new = true ∧ n + new.length ≤ maxLen ∧ (n + new.length) * eb ≤ 140737488355328 then
          some (.c (.row false (es.drop a ++ new)), [(o, none)]) else none
      | _, _ => none)
    | _ => none) else none
  | none => none

def boundA : Nat → AV → Option Nat
  | m, .c (.v (.int _ n)) => if 0 ≤ n ∧ n ≤ m then some n.toNat else none
  | _, _ => none
def loA : Option AV → Nat → Option Nat
  | none, _ => some 0
  | some v, h => boundA h v
def hiA : Option AV → Nat → Option Nat
  | none, m => some m
  | some v, m => boundA m v

def evSlice (H : Hp) (esz : Nat) (lo hi : Option AV) (x : AV) : EvR :=
  match x with
  | .c (.v (.string s)) => (hiA hi s.size).bind fun h => (loA lo h).bind fun l => some (.c (.v (.string (s.extract l h))), [])
  | .c (.row _ es) => (hiA hi es.length).bind fun h => (loA lo h).bind fun l => if ∀ e ∈ es, e.length = esz then some (.c (.row false ((es.take h).drop l)), []) else none
  | .bw (.row _ es) => (hiA hi es.length).bind fun h => (loA lo h).bind fun l => if ∀ e ∈ es, e.length = esz then some (.bw (.row false ((es.take h).drop l)), []) else none
  | .sl o n => (match H o with
    | some (.rw _ sz es) => (hiA hi n).bind fun h => (loA lo h).bind fun l => if sz = esz ∧ n ≤ es.length ∧ l < n then some (.sv o l (h - l), []) else none
    | _ => none)
  | _ => none


def unV (op : UnOp) : Value → Option Value
  | .bool b => match op with
    | .not => some (.bool (!b))
    | _ => none
  | .int k n => match op with
    | .neg => some (.int k (k.wrap (0 - n)))
    | _ => none
  | _ => none

def evConv (H : Hp) (id : Nat) (s d : TI) (x : AV) : EvR :=
  match d.prim, x with
  | some k, .c (.v (.int _ n)) => some (.c (.v (.int k (k.wrap n))), [])
  | _, _ => if d.isStr = true ∧ s.isBytes = true then ((rowOf H x).bind bytesOf).bind fun l => some (.c (.v (.string ⟨l.toArray⟩)), [])
    else match x with
    | .c (.v (.string b)) => if s.isStr = true ∧ d.isBytes = true ∧ b.size ≤ 9223372036854775807 then some (.c (.row false (b.data.toList.map fun u => [.v (.int .u8 u.toNat)])), []) else none
    | _ => none

def evBuild (H : Hp) (i : TI) (ps : List (Nat × AV)) : EvR :=
  (ps.mapM fun p => (i.fields[p.1]?).map fun f => (f.1, f.2, p.2)).bind fun l =>
    if ps.all (fun p => okA H p.2) ∧ i.agg = true ∧ i.fields ≠ [] ∧ i.zero ≠ [] ∧ (∀ f ∈ i.fields, f.2 ≠ 0) then (fillA (i.zero.map constA) l).bind fun cs => some (.ag cs, []) else none

/-- The elements of a literal row, out of its cells. -/
def evElems (H : Hp) (esz : Nat) (flat : List AV) : List Nat → Option (List (List CV) × List (Nat × Nat × Nat))
  | [] => some ([], [])
  | i :: r => match toCs H i 0 ((flat.drop (i * esz)).take esz), evElems H esz flat r with
    | some (e, ks), some (es, ks') => some (e :: es, ks ++ ks')
    | _, _ => none

def evBuildSlice (H : Hp) (id e esz : Nat) (zero : List Value) (n : Nat) (ps : List (Nat × AV)) : EvR :=
  if ps.all (fun p => okA H p.2) = true ∧ zero.length = esz ∧ zero.all (·.oneCell') = true ∧ 0 < esz ∧ n * esz ≤ 1000 then
    (fillA ((List.replicate n (zero.map constA)).flatten) (ps.map fun p => (p.1 * esz, esz, p.2))).bind fun flat =>
    (evElems H esz flat (List.range n)).bind fun r => if distinct id r.2 = true then some (.sl id n, (id, some (.rw e esz r.1)) :: gone r.2) else none
  else none

/-- Structs of strings (0), numbers (1), bools (2), one cell each, from offset k on. -/
def kindB (P : Program) (t c : Nat) : Bool := match P.underlying t with
  | some .string => c == 0
  | some (.int _) => c == 1
  | some .bool => c == 2
  | _ => false
def flatFs (P : Program) : Nat → List Field → List Nat → Bool
  | _, [], [] => true
  | k, f :: r, c :: q => f.offset == k && f.name != "_" && kindB P f.type c && flatFs P (k + 1) r q
  | _, _, _ => false
def flatB (P : Program) (t : Nat) (ks : List Nat) : Bool :=
  (match P.underlying t with | some (.struct fs) => flatFs P 0 fs.toList ks | _ => false) && !P.stoodInHeld t && !P.eqGuardType P.depth t
def kOf : AV → Nat
  | .c (.v (.string _)) => 0
  | .c (.v (.int _ _)) => 1
  | .c (.v (.bool _)) => 2
  | _ => 9
def valEq : Value → Value → Option Bool
  | .string a, .string b => some (a.toList == b.toList)
  | .int k a, .int k' b => if k = k' then some (a == b) else none
  | .bool a, .bool b => some (a == b)
  | _, _ => none
def celEq : List AV → List AV → Option Bool
  | [], [] => some true
  | .c (.v a) :: r, .c (.v b) :: q => (valEq a b).bind fun x => (celEq r q).bind fun y => some (x && y)
  | _, _ => none
/-- A copy into a row of one's own that has room. -/
def evCopy (H : Hp) (esz : Nat) (x y : AV) : EvR :=
  match x, evSrc H y with
  | .sl o n, some (new, none) => (match H o with
    | some (.rw ty sz es) => if n = es.length ∧ sz = 1 ∧ esz = 1 ∧ new.length ≤ es.length ∧ es.length ≤ maxLen ∧ (∀ c ∈ new, c.length = 1) then some (.c (.v (.int .i64 new.length)), [(o, some (.rw ty sz (new ++ es.drop new.length)))]) else none
    | _ => none)
  | _, _ => none
def mpGet : List (ByteArray × Int) → ByteArray → Int
  | [], _ => 0
  | (b, n) :: r, a => if a == b then n else mpGet r a
def mpPut : List (ByteArray × Int) → ByteArray → Int → List (ByteArray × Int)
  | [], a, m => [(a, m)]
  | (b, n) :: r, a, m => if a == b then (a, m) :: r else (b, n) :: mpPut r a m
def evOp (P : Program) (id : Nat) (H : Hp) (g : Operand → AV) : Op → EvR
  | .move x | .assign x => some (g x, [])
  | .pick c a b => match g c with
    | .c (.v (.bool t)) => some (if t then g a else g b, [])
    | _ => none
  | .alloc e => (tiOf P e).bind fun i => if i.zero.isEmpty then none else some (.pt id 0 0, [(id, some (.box e (i.zero.map constA)))])
  | .box e x => if okA H (g x) then some (.pt id 0 0, [(id, some (.box e (cellsA (g x))))]) else none
  | .load t a => (tiOf P t).bind fun i => evLoad H i (g a)
  | .store t a x => (tiOf P t).bind fun i => evStore H i (g x) (g a)
  | .fieldAddr t x f => (tiOf P t).bind fun i => (i.fields[f]?).bind fun o => if o.2 ≠ 0 then evField H o.1 (g x) else none
  | .indexAddr t x ix => match g ix with
    | .c (.v (.int _ n)) => (tiOf P t).bind fun i => i.elem.bind fun e => evIndexAddr H e.2.1 n (g x)
    | _ => none
  | .nilCheck x => (nilA H (g x)).bind fun b => if b then none else some (g x, [])
  | .binOp op t x y _ => match g x, g y with
    | .c (.v a), .c (.v b) => match a, b with
      | .bool p, .bool q => (tiOf P t).bind fun i => if i.isBool then (match op with
        | .eql => some (.c (.v (.bool (p == q))), [])
        | .neq => some (.c (.v (.bool (!(p == q)))), [])
        | _ => none) else none
      | .pointer none, .pointer none => (tiOf P t).bind fun i => if i.isPtr then (match op with | .eql => some (.c (.v (.bool true)), []) | .neq => some (.c (.v (.bool false)), []) | _ => none) else none
      | _, _ => (binV op a b).bind fun r => some (.c (.v r), [])
    | .ag l, .ag m => if flatB P t (l.map kOf) = true then (celEq l m).bind fun r => (match op with
      | .eql => some (.c (.v (.bool r)), [])
      | .neq => some (.c (.v (.bool (!r))), [])
      | _ => none) else none
    | a, b => (tiOf P t).bind fun i => if i.isPtr then ((nilA H a).bind fun p => (nilA H b).bind fun q => if p != q then (match op with | .eql => some (.c (.v (.bool false)), []) | .neq => some (.c (.v (.bool true)), []) | _ => none) else none) else none
  | .unOp op _ x => match g x with
    | .c (.v a) => (unV op a).bind fun r => some (.c (.v r), [])
    | _ => none
  | .convert s d x => (tiOf P s).bind fun i => (tiOf P d).bind fun j => evConv H id i j (g x)
  | .index t x ix => match g x, g ix with
    | .c (.v (.string s)), .c (.v (.int _ n)) => (tiOf P t).bind fun i => (s.data.toList[n.toNat]?).bind fun b => if 0 ≤ n ∧ i.isStr = true then some (.c (.v (.int .u8 b.toNat)), []) else none
    | _, _ => none
  | .slice t x lo hi mx => match mx with
    | none => (tiOf P t).bind fun i => if i.isStr = true then (match g x with | .c (.v (.string _)) => evSlice H 0 (lo.map g) (hi.map g) (g x) | _ => none) else i.elem.bind fun e => (match g x with | .c (.v (.string _)) => none | y => evSlice H e.2.1 (lo.map g) (hi.map g) y)
    | some _ => none
  | .makeSlice t l c => (tiOf P t).bind fun i => i.elem.bind fun e => match g l, g c with
    | .c (.v (.int .i64 n)), .c (.v (.int .i64 m)) => if n = m ∧ 0 ≤ n ∧ n * e.2.2 ≤ 140737488355328 ∧ n ≤ 140737488355328 ∧ 0 < e.2.1 then (tiOf P e.1).bind fun z => if z.zero.length ≠ e.2.1 ∨ z.zero.all (·.oneCell') = false then none else some (.sl id n.toNat, [(id, some (.rw e.1 e.2.1 (List.replicate n.toNat (z.zero.map zeroC))))]) else none
    | _, _ => none
  | .build t ps => (tiOf P t).bind fun i => evBuild H i (ps.toList.map fun p => (p.1, g p.2))
  | .buildSlice t n ps => (tiOf P t).bind fun i => i.elem.bind fun e => (tiOf P e.1).bind fun z => evBuildSlice H id e.1 e.2.1 z.zero n (ps.toList.map fun p => (p.1, g p.2))
  | .extract x k => match g x with
    | .tu vs => (vs[k]?).bind fun v => some (v, [])
    | _ => none
  | .makeMap t r => match r with
    | none => some (.mr id, [(id, some (.mp []))])
    | some _ => none
  | .mapUpdate t m k x => match g m, g k, g x with
    | .mr o, .c (.v (.string a)), .c (.v (.int .i64 n)) => (match H o with
      | some (.mp l) => (tiOf P t).bind fun i => i.mkv.bind fun q => (tiOf P q.1).bind fun j => if j.isStr = true then some (.any, [(o, some (.mp (mpPut l a n)))]) else none
      | _ => none)
    | _, _, _ => none
  | .lookup t m k ok => match g m, g k, ok with
    | .mr o, .c (.v (.string a)), false => (match H o with
      | some (.mp l) => (tiOf P t).bind fun i => i.mkv.bind fun q => (tiOf P q.1).bind fun j => (tiOf P q.2).bind fun z => if j.isStr = true ∧ z.zi = true then some (.c (.v (.int .i64 (mpGet l a))), []) else none
      | _ => none)
    | _, _, _ => none
  | .call { callee := .builtin b, args := args, argTypes := ts } => match b, args.toList, ts.toList with
    | .len, [x], [t] => (tiOf P t).bind fun i => (evLen H (g x)).bind fun n => if i.isStr = isStrA (g x) ∧ (i.isStr = true ∨ i.elem.isSome = true) then some (.c (.v (.int .i64 n)), []) else none
    | .append, [x, y], [t, u] => (tiOf P t).bind fun i => (tiOf P u).bind fun j => i.elem.bind fun e => (tiOf P e.1).bind fun z => if 0 < e.2.1 ∧ z.zero.length = e.2.1 then evAppend id H e.1 e.2.1 e.2.2 (g x) (srcP H j z (g y)) else none
    | .copy, [x, y], [t, _] => (tiOf P t).bind fun i => i.elem.bind fun e => evCopy H e.2.1 (g x) (g y)
    | .min, [x, y], _ => (match g x, g y with | .c (.v (.int .i64 a)), .c (.v (.int .i64 b)) => some (.c (.v (.int .i64 (if b < a then b else a))), []) | _, _ => none)
    | .max, [x, y], _ => (match g x, g y with | .c (.v (.int .i64 a)), .c (.v (.int .i64 b)) => some (.c (.v (.int .i64 (if b > a then b else a))), []) | _, _ => none)
    | _, _, _ => none
  | _ => none

end Go.Proofs.YtnnmpdanfeejbaaGreat.Abs

/- The abstract machine's operations hold of the model: what is common to all, and those that write nothing. -/
namespace Go.Proofs.YtnnmpdanfeejbaaGreat.Abs
open Go Go.RowKit
set_option linter.unusedVariables false
set_option linter.unusedSimpArgs false

def updL (H : Hp) : List (Nat × Option Ob) → Hp
  | [] => H
  | (o, x) :: r => updL (upd H o x) r
theorem updL_out {H : Hp} {l : List (Nat × Option Ob)} {o : Nat} (h : ∀ x ∈ l, x.1 ≠ o) : updL H l o = H o := by
  induction l generalizing H with
  | nil => rfl
  | cons y r ih =>
    unfold updL
    rw [ih (fun x hx => h x (List.mem_cons_of_mem _ hx)), upd_ne _ _ (fun e => h y (List.mem_cons_self ..) e.symm)]

def putT (nt : Nat) (t : Nat → AV) : Option Nat → AV → Nat → AV
  | none, _ => t
  | some d, v => if d < nt then upd t d v else t
def getA (nt : Nat) (t : Nat → AV) : Operand → AV
  | .tmp k => if k < nt then t k else .any
  | .const v => constA v
  | .func f => .c (.v (.func (.func f) #[] #[]))
  | _ => .any

structure Fx (w : World) (E : Env) (H : Hp) (U : Nat → Prop) (id : Nat) (v : AV) (objs : List (Nat × Option Ob)) (u : Value) (w' : World) (E' : Env) : Prop where
  evo : Evo (fun b => E.loc b ≠ none) w w'
  t0 : ∀ b, b < w.heap.size → E.loc b = none → E'.loc b = none
  t1 : ∀ b, b < w.heap.size → E.T1 b → w'.heap[b]? = w.heap[b]? ∧ E'.T1 b
  own : ∀ o, (∀ x ∈ objs, x.1 ≠ o) → E'.rho o = E.rho o ∧ ∀ b q, b < w.heap.size → E.loc b = some (o, q) → w'.heap[b]? = w.heap[b]? ∧ E'.loc b = some (o, q)
  ids : ∀ x ∈ objs, x.1 = id ∨ ∃ ob, H x.1 = some ob ∧ (updL H objs x.1 = none ∨ ∃ ob', updL H objs x.1 = some ob' ∧ ob.like ob' ∧ E'.rho x.1 = E.rho x.1)
  live : ∀ x ∈ objs, ∀ ob, updL H objs x.1 = some ob → LiveOb w' E' (updL H objs) x.1 ob ∧ MnOb (fun o => U o ∨ o = id) ob
  locs : ∀ b ℓ, E'.loc b = some ℓ → b < w'.heap.size ∧ (w.heap.size ≤ b ∨ E.loc b ≠ none)
  val : RdV w' E' (updL H objs) v u
  mn : Mn (fun o => U o ∨ o = id) v

theorem Evo.old {M : Nat → Prop} {w w' : World} (h : Evo M w w') {b : Nat} (hb : b < w.heap.size) (hm : ¬ M b) : w'.heap[b]? = w.heap[b]? := h.block b hb hm

theorem Fx.keeps {w w' : World} {E E' : Env} {H : Hp} {U : Nat → Prop} {id : Nat} {v : AV} {objs : List (Nat × Option Ob)} {u : Value} (f : Fx w E H U id v objs u w' E')
    (hid : ¬ U id) : Keeps U w w' E E' H (updL H objs) := by
  refine ⟨fun b hb h0 => ⟨f.evo.old hb (by simp [h0]), f.t0 b hb h0⟩, f.t1, fun o ho => ?_⟩
  by_cases hx : ∀ x ∈ objs, x.1 ≠ o
  · rw [updL_out hx]
    cases hh : H o with
    | none => exact .inl rfl
    | some ob => exact .inr ⟨(f.own o hx).1, ob, ob, rfl, rfl, Ob.like.refl ob⟩
  · simp only [Classical.not_forall, Classical.not_not] at hx
    obtain ⟨x, hx, rfl⟩ := hx
    rcases f.ids x hx with h | ⟨ob, h1, h2 | ⟨ob', h2, h3, h4⟩⟩
    · exact absurd (h ▸ ho) hid
    · exact .inl h2
    · exact .inr ⟨h4, ob, ob', h1, h2, h3⟩

theorem LiveOb.keeps {U : Nat → Prop} {w w' : World} {E E' : Env} {H H' : Hp} (k : Keeps U w w' E E' H H') {o : Nat} {ob : Ob} (h : LiveOb w E H o ob) (hm : MnOb U ob)
    (hr : E'.rho o = E.rho o) (hl : ∀ b q, b < w.heap.size → E.loc b = some (o, q) → w'.heap[b]? = w.heap[b]? ∧ E'.loc b = some (o, q)) : LiveOb w' E' H' o ob := by
  cases ob with
  | box ty cs =>
    obtain ⟨b, arr, us, h1, h2, h3, h4, h5, h6⟩ := h
    have := hl b [] (RdR.lt h3) h2
    exact ⟨b, arr, us, hr.trans h1, this.2, this.1.trans h3, h4, h5, fun j c hc => (h6 j c hc).keeps k (hm c (List.mem_of_getElem? hc))⟩
  | rw ty sz es =>
    rcases h with ⟨h1, h2⟩ | ⟨b, cap, arr, us, h1, h2, h3, h4, h5, h6, h7, h8, h9⟩
    · exact .inl ⟨hr.trans h1, h2⟩
    · obtain ⟨ty', h3⟩ := h3
      have := hl b [] (RdR.lt h3) h2
      exact .inr ⟨b, cap, arr, us, hr.trans h1, this.2, ⟨ty', this.1.trans h3⟩, h4, h5, h6, h7, h8, fun i j e c he hc =>
        (h9 i j e c he hc).relabel (o, [(i, j)]) k.t0 (fun b' q hb' hq => hl b' _ hb' hq)⟩
  | rx ty sz es i0 j0 v =>
    obtain ⟨hi0, hj0, b, cap, arr, us, h1, h2, ⟨ty', h3⟩, h4, h5, h6, h7, h8, h9, h10⟩ := h
    have := hl b [] (RdR.lt h3) h2
    exact ⟨hi0, hj0, b, cap, arr, us, hr.trans h1, this.2, ⟨ty', this.1.trans h3⟩, h4, h5, h6, h7, h8, fun i j e c he hc =>
      (h9 i j e c he hc).relabel (o, [(i, j)]) k.t0 (fun b' q hb' hq => hl b' _ hb' hq), h10.keeps k hm⟩
  | mp m =>
    obtain ⟨b, ents, clock, h1, h2, h3, h4⟩ := h
    have := hl b [] (RdR.lt h3) h2
    exact ⟨b, ents, clock, hr.trans h1, this.2, this.1.trans h3, h4⟩

theorem MnOb.mono {U U' : Nat → Prop} (h : ∀ o, U o → U' o) {ob : Ob} (hv : MnOb U ob) : MnOb U' ob := by
  cases ob with
  | box ty cs => exact fun c hc => (hv c hc).mono h
  | rw => trivial
  | rx => exact Mn.mono h hv
  | mp => trivial

theorem Rel.step {nt : Nat} {I : Ini} {U : Nat → Prop} {s : ASt} {E : Env} {a : Act} {w : World} (hR : RelE nt I U s E a w)
    {id : Nat} {v : AV} {objs : List (Nat × Option Ob)} {u : Value} {w' : World} {E' : Env} (hid : ¬ U id) (f : Fx w E s.H U id v objs u w' E') (d : Option Nat) :
    RelE nt I (fun o => U o ∨ o = id) { t := putT nt s.t d v, H := updL s.H objs, c := s.c } E' (a.put d u) w' := by
  have k := f.keeps hid
  have hU : ∀ o, U o → U o ∨ o = id := fun o h => .inl h
  have hz : ∀ x ∈ objs, x.1 ≠ 0 := fun x hx e => by
    rcases f.ids x hx with h | ⟨ob, h1, _⟩
    · exact hid (h ▸ e ▸ hR.u0)
    · rw [e, hR.h0] at h1; cases h1
  constructor
  · cases d <;> exact hR.defers
  · cases d <;> simp [Act.put, hR.size]
  · intro j x hx
    cases d with
    | none => exact (hR.slots j x hx).keeps k (hR.mnT j)
    | some d =>
      simp only [Act.put, Array.getElem?_setIfInBounds] at hx
      have hsz : a.tmps.size = nt := hR.size
      by_cases hd : d = j
      · subst hd
        by_cases hb : d < a.tmps.size
        · simp only [hb, if_true] at hx
          cases hx
          show RdV _ _ _ (putT nt s.t (some d) v d) _
          simp only [putT, if_pos (hsz ▸ hb), upd_same]
          exact f.val
        · simp [hb] at hx
      · simp only [if_neg hd] at hx
        have hj : putT nt s.t (some d) v j = s.t j := by
          simp only [putT]
          split
          · exact upd_ne _ _ (Ne.symm hd)
          · rfl
        show RdV _ _ _ (putT nt s.t (some d) v j) _
        rw [hj]
        exact (hR.slots j x hx).keeps k (hR.mnT j)
  · intro o ob ho
    by_cases hx : ∀ x ∈ objs, x.1 ≠ o
    · have h' : s.H o = some ob := (updL_out hx).symm.trans ho
      exact (hR.live o ob h').keeps k (hR.mnH o ob h').2 (f.own o hx).1 (fun b q => (f.own o hx).2 b q)
    · simp only [Classical.not_forall, Classical.not_not] at hx
      obtain ⟨x, hx, rfl⟩ := hx
      exact (f.live x hx ob ho).1
  · exact fun b ℓ hb => (f.locs b ℓ hb).1
  · intro b hb hm
    have h1 := hR.old b hb hm
    rw [← h1]
    have hlt := Nat.lt_of_lt_of_le hb hR.evo.size
    cases hl : E.loc b with
    | none => exact f.t0 b hlt hl
    | some ℓ =>
      obtain ⟨k, p⟩ := ℓ
      have hk : k = 0 := by
        by_cases hk : k = 0
        · exact hk
        · exact absurd ⟨k, p, by rw [← h1, hl], hk⟩ hm
      subst hk
      exact ((f.own 0 hz).2 b p hlt hl).2
  · intro o x hx
    obtain ⟨hu, h⟩ := hR.pas o x hx
    refine ⟨.inl hu, ?_⟩
    rcases k.ob o hu with h1 | ⟨h1, y, z, h2, h3, h4⟩
    · exact .inl h1
    · rcases h with h | ⟨h5, y', h6, h7⟩
      · rw [h] at h2; cases h2
      · rw [h2] at h6
        cases h6
        exact .inr ⟨h1.trans h5, z, h3, h7.trans h4⟩
  · exact .inl hR.u0
  · rw [show ({ t := putT nt s.t d v, H := updL s.H objs, c := s.c } : ASt).H = updL s.H objs from rfl, updL_out hz]
    exact hR.h0
  · intro j
    cases d with
    | none => exact (hR.mnT j).mono hU
    | some d =>
      show Mn _ (putT nt s.t (some d) v j)
      simp only [putT]
      split
      · by_cases hd : j = d
        · subst hd
          rw [upd_same]
          exact f.mn
        · rw [upd_ne _ _ hd]
          exact (hR.mnT j).mono hU
      · exact (hR.mnT j).mono hU
  · intro o ob ho
    by_cases hx : ∀ x ∈ objs, x.1 ≠ o
    · have h' : s.H o = some ob := (updL_out hx).symm.trans ho
      exact ⟨.inl (hR.mnH o ob h').1, (hR.mnH o ob h').2.mono hU⟩
    · simp only [Classical.not_forall, Classical.not_not] at hx
      obtain ⟨x, hx, rfl⟩ := hx
      refine ⟨?_, (f.live x hx ob ho).2⟩
      rcases f.ids x hx with h | ⟨ob', h1, _⟩
      · exact .inr h
      · exact .inl (hR.mnH _ _ h1).1
  · refine hR.evo.step (M' := fun b => ∃ k p, E.loc b = some (k, p) ∧ k ≠ 0) ⟨f.evo.os, f.evo.tape, f.evo.output, f.evo.size, fun i hi hn => ?_⟩ (fun i hi hlt => ?_)
    · cases hl : E.loc i with
      | none => exact f.evo.old hi (by simp [hl])
      | some ℓ =>
        obtain ⟨k, p⟩ := ℓ
        have hk : k = 0 := by
          by_cases hk : k = 0
          · exact hk
          · exact absurd ⟨k, p, hl, hk⟩ hn
        subst hk
        exact ((f.own 0 hz).2 i p hi hl).1
    · obtain ⟨k, p, h1, h2⟩ := hi
      by_cases hb : i < I.w.heap.size
      · by_cases hm : Mut I.E i
        · exact .inr hm
        · exact absurd ⟨k, p, by rw [← hR.old i hb hm]; exact h1, h2⟩ hm
      · exact .inl (by omega)

/-- Nothing is written. -/
theorem Fx.same {w : World} {E : Env} {H : Hp} {U : Nat → Prop} {id : Nat} {v : AV} {u : Value} (hl : ∀ b ℓ, E.loc b = some ℓ → b < w.heap.size) (h : RdV w E H v u) (hm : Mn U v) : Fx w E H U id v [] u w E :=
  ⟨Evo.refl _ _, fun _ _ h => h, fun _ _ h => ⟨rfl, h⟩, fun _ _ => ⟨rfl, fun _ _ _ h => ⟨rfl, h⟩⟩, fun _ hx => by simp at hx, fun _ hx => by simp at hx,
    fun b ℓ h => ⟨hl b ℓ h, .inr (by simp [h])⟩, h, hm.mono fun _ h => .inl h⟩

theorem RdV.const (w : World) (E : Env) (H : Hp) (v : Value) : RdV w E H (constA v) v := by
  unfold constA
  split
  · exact .nul
  · split
    · exact .c _ _ (.v _ (by assumption))
    · exact .any _
theorem Mn.const (U : Nat → Prop) (v : Value) : Mn U (constA v) := by
  unfold constA
  split
  · exact .nul
  · split
    · exact .c _
    · exact .any

section
variable {nt : Nat} {I : Ini} {U : Nat → Prop} {s : ASt} {E : Env} {a : Act} {w : World}
theorem RelE.get (hR : RelE nt I U s E a w) (x : Operand) : RdV w E s.H (getA nt s.t x) (a.eval x) := by
  cases x with
  | tmp k =>
    simp only [getA, Act.eval]
    split
    · rename_i h
      have hk : k < a.tmps.size := by rw [hR.size]; exact h
      refine hR.slots k _ ?_
      rw [Array.getElem?_eq_getElem hk]
      simp [Array.getD, hk]
    · exact .any _
  | const v => exact RdV.const ..
  | global g => exact .any _
  | func f => exact .c _ _ (.v _ rfl)
theorem RelE.mnGet (hR : RelE nt I U s E a w) (x : Operand) : Mn U (getA nt s.t x) := by
  cases x with
  | tmp k =>
    simp only [getA]
    split
    · exact hR.mnT k
    · exact .any
  | const v => exact Mn.const ..
  | global g => exact .any
  | func f => exact .c _
theorem RelE.eval (hR : RelE nt I U s E a w) {x : Operand} {v : Value} (h : getA nt s.t x = .c (.v v)) : a.eval x = v := by
  have := hR.get x
  rw [h] at this
  cases this with
  | c _ _ h => cases h; rfl
end

end Go.Proofs.YtnnmpdanfeejbaaGreat.Abs

/- The abstract machine's operations hold of the model: those that write nothing. -/
namespace Go.Proofs.YtnnmpdanfeejbaaGreat.Abs
open Go Go.RowKit
set_option linter.unusedVariables false
set_option linter.unusedSimpArgs false

theorem tiOf_spec {P : Program} {t : Nat} {i : TI} (h : tiOf P t = some i) : ∃ info d, P.info? t = some info ∧ P.underlying t = some d ∧ i.size = info.size ∧
    i.agg = (match d with | .struct _ | .array _ _ => true | _ => false) ∧ i.fields = (match d with | .struct fs => fs.toList.map fun f => (f.offset, sizeP P f.type) | _ => []) ∧
    i.elem = (match d with | .slice e => (match P.info? e with | some j => some (e, j.size, j.bytes) | none => none) | _ => none) ∧
    i.zero = (match info.zero with | some z => z.cells.toList | none => []) ∧ i.prim = (match d with | .int k => some k | _ => none) ∧
    i.isStr = (match d with | .string => true | _ => false) ∧ i.isPtr = (match d with | .pointer _ => true | _ => false) ∧ i.isBool = (match d with | .bool => true | _ => false) ∧ i.isBytes = (match d with | .slice e => (match P.underlying e with | some (.int .u8) => true | _ => false) | _ => false) ∧
    i.mkv = (match d with | .map k e => some (k, e) | _ => none) ∧ i.zi = (match info.zero with | some (.int .i64 0) => true | _ => false) := by
  unfold tiOf at h
  split at h
  · rename_i info d h1 h2
    cases h
    exact ⟨info, d, h1, h2, rfl, rfl, rfl, rfl, rfl, rfl, rfl, rfl, rfl, rfl, rfl, rfl⟩
  · cases h

/-- What is to be shown of an operation. -/
def Good (P : Program) (o : Oper) (a : Act) (w : World) (E : Env) (H : Hp) (U : Nat → Prop) (id : Nat) (v : AV) (objs : List (Nat × Option Ob)) : Prop :=
  ∃ u w' E', ((execOp a.eval o).run P w = .ok (.value u) w' ∨ ((execOp a.eval o).run P w = .ok .skip w' ∧ u = undef)) ∧ Fx w E H U id v objs u w' E'

section
variable {P : Program} {nt : Nat} {I : Ini} {U : Nat → Prop} {s : ASt} {E : Env} {a : Act} {w : World} {o : Oper} {id : Nat} {v : AV} {objs : List (Nat × Option Ob)} {H : Hp}

theorem Good.pure (hR : RelE nt I U s E a w) {u : Value} (hr : (execOp a.eval o).run P w = .ok (.value u) w) (h : RdV w E s.H v u) (hm : Mn U v) (he : objs = []) : Good P o a w E s.H U id v objs := by
  subst he
  exact ⟨u, w, E, .inl hr, Fx.same hR.locLt h hm⟩
/-- A plain value. -/
theorem Good.plain (hR : RelE nt I U s E a w) {u : Value} (hr : (execOp a.eval o).run P w = .ok (.value u) w) (hv : v = .c (.v u)) (he : objs = []) (h1 : u.oneCell' = true := by rfl) : Good P o a w E s.H U id v objs := by
  subst hv
  exact Good.pure hR hr (.c _ _ (.v _ h1)) (.c _) he

theorem good_move (hR : RelE nt I U s E a w) {x : Operand} (ho : o.op = .move x ∨ o.op = .assign x) : Good P o a w E s.H U id (getA nt s.t x) [] := by
  refine Good.pure hR (u := a.eval x) ?_ (hR.get x) (hR.mnGet x) rfl
  rcases ho with ho | ho <;> simp [execOp, ho]

theorem good_pick (hR : RelE nt I U s E a w) {c x y : Operand} (ho : o.op = .pick c x y) {t : Bool} (hc : getA nt s.t c = .c (.v (.bool t))) :
    Good P o a w E s.H U id (if t then getA nt s.t x else getA nt s.t y) [] := by
  have e := hR.eval hc
  refine Good.pure hR (u := if t then a.eval x else a.eval y) ?_ ?_ ?_ rfl
  · simp [execOp, ho, e, asBool]
  · split
    · exact hR.get x
    · exact hR.get y
  · split
    · exact hR.mnGet x
    · exact hR.mnGet y

theorem good_extract (hR : RelE nt I U s E a w) {x : Operand} {k : Nat} (ho : o.op = .extract x k) {vs : List AV} (hx : getA nt s.t x = .tu vs) (hv : vs[k]? = some v) :
    Good P o a w E s.H U id v [] := by
  have h := hR.get x
  have hm := hR.mnGet x
  rw [hx] at h hm
  generalize hu : a.eval x = u at h
  cases h with
  | tu _ us hs hi =>
    have hk : k < us.size := by rw [hs]; exact (List.getElem?_eq_some_iff.1 hv).1
    have hk' : us[k]? = some us[k] := Array.getElem?_eq_getElem hk
    refine Good.pure hR (u := us[k]) ?_ (hi k v _ hv hk') ?_ rfl
    · simp [execOp, ho, hu, Instr.extract, hk']
    · cases hm with
      | tu _ hm => exact hm v (List.mem_of_getElem? hv)

theorem unV_one {op : UnOp} {b r : Value} (hr : unV op b = some r) : r.oneCell' = true := by
  unfold unV at hr
  split at hr
  · split at hr <;> cases hr; rfl
  · split at hr <;> cases hr; rfl
  · cases hr

theorem good_unOp (hR : RelE nt I U s E a w) {op : UnOp} {t : Nat} {x : Operand} (ho : o.op = .unOp op t x) {b r : Value} (hx : getA nt s.t x = .c (.v b)) (hr : unV op b = some r) :
    Good P o a w E s.H U id (.c (.v r)) [] := by
  have e := hR.eval hx
  refine Good.plain hR (u := r) ?_ rfl rfl (unV_one hr)
  unfold unV at hr
  split at hr
  · split at hr
    · cases hr; simp [execOp, ho, e, Op.unary]
    · cases hr
  · split at hr
    · cases hr; simp [execOp, ho, e, Op.unary, Op.intArith]
    · cases hr
  · cases hr

theorem pureV_run {x : Sem Value} {r : Value} (h : pureV x = some r) (P : Program) (w : World) : x.run P w = .ok r w := by
  unfold pureV at h
  split at h
  · cases h; rfl
  · cases h

theorem run_binI {op : BinOp} {k : IntKind} {p q : Int} {r : Value} (h : binI op k p q = some r) (t : Nat) (P : Program) (w : World) : (binOp op t (.int k p) (.int k q)).run P w = .ok r w := by
  unfold binI at h
  split at h <;> first
    | (cases h; simp [binOp, Op.intArith, Op.intCmp]; done)
    | (split at h
       · rename_i hq; cases h; simp [binOp, Op.intDiv, hq]
       · cases h)
    | (have := pureV_run h P w; simp only [binOp, ne_eq, not_true_eq_false, if_false]; exact this)
    | cases h
theorem run_binS {op : BinOp} {p q : ByteArray} {r : Value} (h : binS op p q = some r) (t : Nat) (P : Program) (w : World) : (binOp op t (.string p) (.string q)).run P w = .ok r w := by
  unfold binS at h
  split at h <;> first
    | (cases h; simp [binOp, Op.stringOp]; done)
    | (split at h
       · rename_i hq
         cases h
         have : ¬ ((p.size + q.size : Nat) : Int) > IntKind.i64.max := by
           have : IntKind.i64.max = 9223372036854775807 := rfl
           omega
         simp only [binOp, Op.stringOp, if_neg this, Sem.run_pure]
       · cases h)
    | cases h
theorem run_binV {op : BinOp} {p q r : Value} (h : binV op p q = some r) (t : Nat) (P : Program) (w : World) : (binOp op t p q).run P w = .ok r w := by
  unfold binV at h
  split at h
  · split at h
    · exact pureV_run h P w
    · exact pureV_run h P w
    · split at h
      · rename_i hk
        subst hk
        exact run_binI h t P w
      · cases h
  · exact run_binS h t P w
  · cases h
theorem run_eqGuard {op : BinOp} {t : Nat} {x y : Operand} {p q : Value} (hp : ∀ cs, p ≠ .agg cs) (hn : p ≠ .nilIface) (P : Program) (w : World) : (eqGuard op t x y p q).run P w = .ok () w := by
  have h : ∀ z : Sem Unit, (match p, q with | .nilIface, .nilIface => z | .agg _, .agg _ => z | _, _ => Pure.pure ()) = Pure.pure () := by
    intro z
    split
    · exact absurd rfl hn
    · exact absurd rfl (hp _)
    · rfl
  unfold eqGuard
  cases hb : (!(op matches .eql | .neq)) with
  | true => rfl
  | false =>
    simp only [Bool.false_eq_true, if_false, pure_bind]
    split
    · exact absurd rfl hn
    · exact absurd rfl (hp _)
    · rfl
theorem run_eqPIn {d t e : Nat} {p q : Option Addr} (h : P.underlying t = some (.pointer e)) (hn : p = none ∨ q = none) : (Op.equalIn (d + 1) t (.pointer p) (.pointer q)).run P w = .ok (p.isNone && q.isNone) w := by
  cases p with
  | none => simp [Op.equalIn, run_underlying h]
  | some p =>
    have : q = none := hn.resolve_left (by simp)
    subst this
    simp [Op.equalIn, run_underlying h]
theorem run_eqP {t e : Nat} {p q : Option Addr} (h : P.underlying t = some (.pointer e)) (hn : p = none ∨ q = none) : (Op.equal t (.pointer p) (.pointer q)).run P w = .ok (p.isNone && q.isNone) w := by
  refine run_eqPIn (d := 9999) h hn

theorem binV_one {op : BinOp} {p q r : Value} (hr : binV op p q = some r) : r.oneCell' = true := by
  unfold binV at hr
  split at hr
  · split at hr
    · unfold Op.shift at hr; split at hr
      · exact absurd hr (by intro h; cases h)
      · simp only [pureV] at hr; cases hr; rfl
    · unfold Op.shift at hr; split at hr
      · exact absurd hr (by intro h; cases h)
      · simp only [pureV] at hr; cases hr; rfl
    · split at hr
      · unfold binI at hr
        split at hr <;> first | (cases hr; rfl) | (split at hr <;> cases hr; rfl) | cases hr
      · cases hr
  · unfold binS at hr
    split at hr <;> first | (cases hr; rfl) | (split at hr <;> cases hr; rfl) | cases hr
  · cases hr
theorem good_binV (hR : RelE nt I U s E a w) {op : BinOp} {t t' : Nat} {x y : Operand} (ho : o.op = .binOp op t x y t') {p q r : Value} (hx : getA nt s.t x = .c (.v p)) (hy : getA nt s.t y = .c (.v q))
    (hr : binV op p q = some r) : Good P o a w E s.H U id (.c (.v r)) [] := by
  have ex := hR.eval hx
  have ey := hR.eval hy
  refine Good.plain hR (u := r) ?_ rfl rfl (binV_one hr)
  have hg : (eqGuard op t x y p q).run P w = .ok () w := run_eqGuard (by rintro cs rfl; simp [binV] at hr) (by rintro rfl; simp [binV] at hr) P w
  simp [execOp, ho, ex, ey, hg, run_binV hr t P w]

theorem good_boolEq (hR : RelE nt I U s E a w) {op : BinOp} {t t' : Nat} {x y : Operand} (ho : o.op = .binOp op t x y t') {p q r : Bool} (hx : getA nt s.t x = .c (.v (.bool p))) (hy : getA nt s.t y = .c (.v (.bool q)))
    {i : TI} (hi : tiOf P t = some i) (hb : i.isBool = true) (hr : (op = .eql ∧ r = (p == q)) ∨ (op = .neq ∧ r = !(p == q))) : Good P o a w E s.H U id (.c (.v (.bool r))) [] := by
  have ex := hR.eval hx
  have ey := hR.eval hy
  obtain ⟨info, d, h1, h2, -, -, -, -, -, -, -, -, h3, -⟩ := tiOf_spec hi
  have hd : d = .bool := by rw [h3] at hb; cases d <;> simp_all
  subst hd
  have hg : (eqGuard op t x y (.bool p) (.bool q)).run P w = .ok () w := run_eqGuard (by rintro cs h; cases h) (by intro h; cases h) P w
  refine Good.plain hR (u := .bool r) ?_ rfl rfl
  rcases hr with ⟨rfl, rfl⟩ | ⟨rfl, rfl⟩ <;> simp [execOp, ho, ex, ey, hg, binOp, run_equal_bool w t p q h2]

theorem nilA_spec {x : AV} {b : Bool} {u : Value} (hn : nilA s.H x = some b) (h : RdV w E s.H x u) : if b then u = .pointer none else ∃ ad, u = .pointer (some ad) := by
  unfold nilA at hn
  split at hn
  · cases hn; cases h with | c _ _ h => cases h; rfl
  · cases hn; cases h with | c _ _ h => cases h; exact ⟨_, rfl⟩
  · cases hn; cases h with | bw _ _ h => cases h; exact ⟨_, rfl⟩
  · split at hn
    · rename_i o i j hs
      cases hn
      cases h with
      | ptX _ _ _ _ h => simp [h] at hs
      | pt => exact ⟨_, rfl⟩
    · cases hn
  · cases hn

theorem good_nilEq (hR : RelE nt I U s E a w) {op : BinOp} {t t' : Nat} {x y : Operand} (ho : o.op = .binOp op t x y t') {p q r : Bool} (hx : nilA s.H (getA nt s.t x) = some p) (hy : nilA s.H (getA nt s.t y) = some q)
    (hpq : p = true ∨ q = true) {i : TI} (hi : tiOf P t = some i) (hb : i.isPtr = true) (hr : (op = .eql ∧ r = (p && q)) ∨ (op = .neq ∧ r = !(p && q))) : Good P o a w E s.H U id (.c (.v (.bool r))) [] := by
  have ex := nilA_spec hx (hR.get x)
  have ey := nilA_spec hy (hR.get y)
  obtain ⟨info, d, h1, h2, -, -, -, -, -, -, -, h3, -, -⟩ := tiOf_spec hi
  obtain ⟨e, hd⟩ : ∃ e, d = .pointer e := by rw [h3] at hb; cases d <;> simp_all
  subst hd
  refine Good.plain hR (u := .bool r) ?_ rfl rfl
  cases p <;> cases q <;> simp at hpq ex ey
  · obtain ⟨ad, ex⟩ := ex
    have hg : (eqGuard op t x y (.pointer (some ad)) (.pointer none)).run P w = .ok () w := run_eqGuard (by rintro cs h; cases h) (by intro h; cases h) P w
    rcases hr with ⟨rfl, rfl⟩ | ⟨rfl, rfl⟩ <;> simp [execOp, ho, ex, ey, hg, binOp, run_eqP (w := w) h2]
  · obtain ⟨ad, ey⟩ := ey
    have hg : (eqGuard op t x y (.pointer none) (.pointer (some ad))).run P w = .ok () w := run_eqGuard (by rintro cs h; cases h) (by intro h; cases h) P w
    rcases hr with ⟨rfl, rfl⟩ | ⟨rfl, rfl⟩ <;> simp [execOp, ho, ex, ey, hg, binOp, run_eqP (w := w) h2]
  · have hg : (eqGuard op t x y (.pointer none) (.pointer none)).run P w = .ok () w := run_eqGuard (by rintro cs h; cases h) (by intro h; cases h) P w
    rcases hr with ⟨rfl, rfl⟩ | ⟨rfl, rfl⟩ <;> simp [execOp, ho, ex, ey, hg, binOp, run_eqP (w := w) h2]

theorem good_nilCheck (hR : RelE nt I U s E a w) {x : Operand} (ho : o.op = .nilCheck x) (hx : nilA s.H (getA nt s.t x) = some false) : Good P o a w E s.H U id (getA nt s.t x) [] := by
  have ex := nilA_spec hx (hR.get x)
  simp at ex
  obtain ⟨ad, ex⟩ := ex
  have := hR.get x
  refine Good.pure hR (u := a.eval x) ?_ (hR.get x) (hR.mnGet x) rfl
  simp [execOp, ho, ex]

theorem evLen_spec {x : AV} {n : Int} {u : Value} (hn : evLen s.H x = some n) (h : RdV w E s.H x u) : (∃ b, u = .string b ∧ n = b.size) ∨ (∃ ad m c, u = .slice ad m c ∧ n = m) := by
  unfold evLen at hn
  split at hn
  · cases hn; cases h with | c _ _ h => cases h; exact .inl ⟨_, rfl, rfl⟩
  · cases hn; cases h with | c _ _ h => cases h <;> exact .inr ⟨_, _, _, rfl, rfl⟩
  · cases hn; cases h with | bw _ _ h => cases h <;> exact .inr ⟨_, _, _, rfl, rfl⟩
  · cases hn; cases h; exact .inr ⟨_, _, _, rfl, rfl⟩
  · split at hn
    · rename_i o n hs
      cases hn
      cases h with
      | slX _ _ _ h => simp [h] at hs
      | sl => exact .inr ⟨_, _, _, rfl, rfl⟩
      | slO => exact .inr ⟨_, _, _, rfl, rfl⟩
      | slN => exact .inr ⟨_, _, _, rfl, rfl⟩
    · cases hn
  · split at hn
    · rename_i o a n hs
      cases hn
      cases h with
      | svX _ _ _ _ h => simp [h] at hs
      | sv => exact .inr ⟨_, _, _, rfl, rfl⟩
    · cases hn
  · cases hn

theorem good_len (hR : RelE nt I U s E a w) {x : Operand} {c : Call} (ho : o.op = .call c) (hc : c.callee = .builtin .len) (ha : c.args.toList = [x]) {t : Nat} (ht : c.argTypes.toList = [t]) {i : TI} (hi : tiOf P t = some i)
    (hk : i.isStr = true ∨ i.elem.isSome = true) {n : Int} (hn : evLen s.H (getA nt s.t x) = some n) (hs : i.isStr = isStrA (getA nt s.t x)) :
    Good P o a w E s.H U id (.c (.v (.int .i64 n))) [] := by
  have ex := evLen_spec hn (hR.get x)
  obtain ⟨info, d, h1, h2, -, -, -, h4, -, -, h3, -, -, -⟩ := tiOf_spec hi
  have ha' : c.args = #[x] := by rw [← ha]
  have ht' : c.argTypes = #[t] := by rw [← ht]
  refine Good.plain hR (u := .int .i64 n) ?_ rfl rfl
  have hstr' : isStrA (getA nt s.t x) = true ↔ ∃ b, a.eval x = .string b := by
    have h := hR.get x
    constructor
    · intro hq
      unfold isStrA at hq
      split at hq
      · rename_i b hb
        exact ⟨b, hR.eval hb⟩
      · cases hq
    · rintro ⟨b, hb⟩
      rw [hb] at h
      unfold evLen at hn
      unfold isStrA
      split
      · rfl
      · rename_i hno
        exfalso
        split at hn
        · exact hno _ (by assumption)
        · rename_i hx; rw [hx] at h; cases h with | c _ _ h => cases h
        · rename_i hx; rw [hx] at h; cases h with | bw _ _ h => cases h
        · rename_i hx; rw [hx] at h; cases h
        · rename_i q m hx
          rw [hx] at h
          split at hn
          · rename_i hq; cases h with | slX _ _ _ h => simp [h] at hq
          · cases hn
        · rename_i q a' m hx
          rw [hx] at h
          split at hn
          · rename_i hq; cases h with | svX _ _ _ _ h => simp [h] at hq
          · cases hn
        · cases hn
  rcases ex with ⟨b, hb, rfl⟩ | ⟨ad, m, cc, hb, rfl⟩
  · have hstr : i.isStr = true := hs.trans (hstr'.2 ⟨b, hb⟩)
    have hd : d = .string := by rw [h3] at hstr; cases d <;> simp_all
    subst hd
    simp [execOp, ho, resolve, hc, invoke, builtin, ha', ht', hb, Builtin.len_, run_underlying h2, goInt]
  · have hstr : i.isStr = false := by
      cases hh : i.isStr with
      | false => rfl
      | true => obtain ⟨b, hb'⟩ := hstr'.1 (hs.symm.trans hh); rw [hb] at hb'; cases hb'
    obtain ⟨e, hd⟩ : ∃ e, d = .slice e := by
      rw [hstr] at hk
      rw [h4] at hk
      cases d <;> simp_all
    subst hd
    simp [execOp, ho, resolve, hc, invoke, builtin, ha', ht', hb, Builtin.len_, run_underlying h2, goInt]
end

end Go.Proofs.YtnnmpdanfeejbaaGreat.Abs

/- The abstract machine's operations hold of the model: those that read memory. -/
namespace Go.Proofs.YtnnmpdanfeejbaaGreat.Abs
open Go Go.RowKit
set_option linter.unusedVariables false
set_option linter.unusedSimpArgs false

section
variable {P : Program} {nt : Nat} {I : Ini} {U : Nat → Prop} {s : ASt} {E : Env} {a : Act} {w : World} {o : Oper} {id : Nat} {v : AV} {objs : List (Nat × Option Ob)} {H : Hp}

theorem run_isAgg' {t : Nat} {i : TI} (hi : tiOf P t = some i) (w : World) : (isAgg t).run P w = .ok i.agg w := by
  obtain ⟨info, d, h1, h2, -, h3, -⟩ := tiOf_spec hi
  rw [h3]
  unfold isAgg
  simp only [Sem.run_bind, run_underlying h2, Result.andThen_ok]
  cases d <;> rfl
theorem run_size' {t : Nat} {i : TI} (hi : tiOf P t = some i) (w : World) : (sizeOf t).run P w = .ok i.size w := by
  obtain ⟨info, d, h1, h2, h3, -⟩ := tiOf_spec hi
  rw [h3]
  simp [sizeOf, run_typeInfo w h1]

theorem run_loadV {t : Nat} {i : TI} (hi : tiOf P t = some i) {b off : Nat} {us : Nat → Value} (h : ∀ k, k < i.size → w.cell? ⟨b, off + k, none⟩ = some (us k)) :
    (i.agg = true → (Instr.loadAt t (.pointer (some ⟨b, off, none⟩))).run P w = .ok (.agg ((List.range i.size).map us).toArray) w) ∧
    (i.agg = false → ∀ u, w.cell? ⟨b, off, none⟩ = some u → (Instr.loadAt t (.pointer (some ⟨b, off, none⟩))).run P w = .ok u w) := by
  constructor
  · intro ha
    have h1 := run_loadCells_list (P := P) w ⟨b, off, none⟩ ((List.range i.size).map us) (fun j v hj => by
      rw [Addr.add_lit]
      rw [List.getElem?_map, Option.map_eq_some_iff] at hj
      obtain ⟨k, hk, rfl⟩ := hj
      obtain ⟨hk1, hk2⟩ := List.getElem?_eq_some_iff.1 hk
      rw [List.getElem_range] at hk2
      subst hk2
      exact h j (by simpa using hk1))
    simp only [List.length_map, List.length_range] at h1
    simp [Instr.loadAt, Instr.sureAddr, loadVar, run_isAgg' hi, ha, run_size' hi, h1]
  · intro ha u hu
    simp [Instr.loadAt, Instr.sureAddr, loadVar, run_isAgg' hi, ha, hu]

theorem lift_ok {ℓ : Loc} {i j k : Nat} {q : List (Nat × Nat)} {c : CV} {u : Value} (h : RdC w E.loc (k, (i, j) :: q) c u) : RdV w E H (lift c) u := by
  have hR : RdR w E.T1 c u := h.toR (fun b hb o => by rw [hb]; simp) (fun b q' hb o => by rw [hb]; simp)
  cases h with
  | im _ c u h0 hi =>
    cases c with
    | v x => cases h0; exact .c _ _ (.v _ (by assumption))
    | row k es => cases k with
      | true => simp [CV.im] at hi
      | false => exact .c _ _ h0
    | ptr => exact .c _ _ h0
    | hole => exact .any _
  | nil => exact .bw _ _ (.nil _ _ _ (fun _ => rfl))
  | own => exact .bw _ _ hR
theorem liftC_ok {c : CV} {u : Value} (h : RdR w E.T0 c u) : RdV w E H (liftC c) u := by
  cases c <;> first | exact .any _ | exact .c _ _ h
theorem liftB_ok {c : CV} {u : Value} (h : RdR w E.T1 c u) : RdV w E H (liftB c) u := by
  cases c with
  | v x => cases h; exact .c _ _ (.v _ (by assumption))
  | hole => exact .any _
  | row => exact .bw _ _ h
  | ptr => exact .bw _ _ h
theorem lift_mn (c : CV) : Mn U (lift c) := by
  unfold lift; split <;> first | exact .c _ | exact .bw _ | exact .any
theorem liftC_mn (c : CV) : Mn U (liftC c) := by
  unfold liftC; split <;> first | exact .c _ | exact .any
theorem liftB_mn (c : CV) : Mn U (liftB c) := by
  unfold liftB; split <;> first | exact .c _ | exact .any | exact .bw _

/-- Nothing is written, and the world is the same. -/
def GoodP (P : Program) (o : Oper) (a : Act) (w : World) (E : Env) (H : Hp) (U : Nat → Prop) (v : AV) (objs : List (Nat × Option Ob)) : Prop :=
  objs = [] ∧ ∃ u, (execOp a.eval o).run P w = .ok (.value u) w ∧ RdV w E H v u ∧ Mn U v
theorem GoodP.pure (hR : RelE nt I U s E a w) {u : Value} (hr : (execOp a.eval o).run P w = .ok (.value u) w) (h : RdV w E s.H v u) (hm : Mn U v) (he : objs = []) : GoodP P o a w E s.H U v objs := ⟨he, u, hr, h, hm⟩
theorem GoodP.good (hR : RelE nt I U s E a w) (h : GoodP P o a w E s.H U v objs) : Good P o a w E s.H U id v objs := by
  obtain ⟨he, u, hr, h, hm⟩ := h
  exact Good.pure hR hr h hm he

/-- What a load brings, from the cells that are there. -/
theorem good_cells (hR : RelE nt I U s E a w) {t : Nat} {x : Operand} (ho : o.op = .load t x) {i : TI} (hi : tiOf P t = some i) {b off : Nat} (hx : a.eval x = .pointer (some ⟨b, off, none⟩))
    {cs : List AV} {us : Nat → Value} (hc : ∀ k, k < cs.length → w.cell? ⟨b, off + k, none⟩ = some (us k)) (hv : ∀ (k : Nat) c, cs[k]? = some c → RdV w E s.H c (us k) ∧ Mn U c)
    (he : if i.agg then cs.length = i.size ∧ v = .ag cs else ∃ r, cs = v :: r) : GoodP P o a w E s.H U v [] := by
  cases ha : i.agg with
  | true =>
    rw [ha, if_pos rfl] at he
    obtain ⟨hl, rfl⟩ := he
    have h1 := (run_loadV (P := P) (w := w) (us := us) hi (b := b) (off := off) (fun k hk => hc k (hl ▸ hk))).1 ha
    refine GoodP.pure hR (u := .agg ((List.range i.size).map us).toArray) ?_ ?_ ?_ rfl
    · simp [execOp, ho, hx, h1]
    · refine .ag _ _ (by simp [hl]) (fun k c u hk hu => ?_)
      have hkl := (List.getElem?_eq_some_iff.1 hk).1
      have : u = us k := by
        simp only [List.getElem?_toArray, List.getElem?_map] at hu
        rw [List.getElem?_range (hl ▸ hkl)] at hu
        simpa using hu.symm
      subst this
      exact (hv k c hk).1
    · refine .ag _ (fun c hc' => ?_)
      obtain ⟨k, hk⟩ := List.getElem?_of_mem hc'
      exact (hv k c hk).2
  | false =>
    rw [ha] at he
    simp only [Bool.false_eq_true, if_false] at he
    obtain ⟨r, rfl⟩ := he
    have h0 := hc 0 (by simp)
    have h1 : (Instr.loadAt t (.pointer (some ⟨b, off, none⟩))).run P w = .ok (us 0) w := by
      simp only [Instr.loadAt, Instr.sureAddr, loadVar, Sem.run_bind, Sem.run_pure, Result.andThen_ok, run_isAgg' hi, ha, Bool.false_eq_true, if_false, run_load]
      rw [show (⟨b, off, none⟩ : Addr) = ⟨b, off + 0, none⟩ from rfl, h0]
    exact GoodP.pure hR (u := us 0) (by simp [execOp, ho, hx, h1]) (hv 0 v rfl).1 (hv 0 v rfl).2 rfl

theorem takeAt {α : Type} {cs : List α} {j n k : Nat} {c : α} (h : ((cs.drop j).take n)[k]? = some c) : cs[j + k]? = some c := by
  rw [List.getElem?_take] at h
  split at h
  · rwa [List.getElem?_drop] at h
  · cases h
theorem cell_at {b off : Nat} {arr : Array Value} {ty : Nat} {fz : Nat × Nat} (h : w.heap[b]? = some (.cells arr ty fz)) : w.cell? ⟨b, off, none⟩ = arr[off]? := cell_of_row w b off arr ty fz h

/-- A load of the cells from j on of a list of cells. -/
theorem good_loadL (hR : RelE nt I U s E a w) {t : Nat} {x : Operand} (ho : o.op = .load t x) {i : TI} (hi : tiOf P t = some i) {b off j : Nat} (hx : a.eval x = .pointer (some ⟨b, off + j, none⟩))
    {α : Type} {cs : List α} {f : α → AV} {us : Nat → Value} (hc : ∀ k, k < cs.length → w.cell? ⟨b, off + k, none⟩ = some (us k)) (hv : ∀ (k : Nat) c, cs[k]? = some c → RdV w E s.H (f c) (us k) ∧ Mn U (f c))
    (he : (if i.agg then (if j + i.size ≤ cs.length then some (AV.ag (((cs.drop j).take i.size).map f), ([] : List (Nat × Option Ob))) else none) else (cs[j]?).bind fun c => some (f c, [])) = some (v, objs)) : GoodP P o a w E s.H U v objs := by
  cases ha : i.agg with
  | true =>
    rw [ha, if_pos rfl] at he
    split at he
    · rename_i hl
      cases he
      refine good_cells hR ho hi hx (us := fun k => us (j + k)) (fun k hk => ?_) (fun k c hk => ?_) (by rw [ha, if_pos rfl]; exact ⟨by simp; omega, rfl⟩)
      · simp at hk
        rw [Nat.add_assoc]
        exact hc (j + k) (by omega)
      · rw [List.getElem?_map, Option.map_eq_some_iff] at hk
        obtain ⟨c', hk, rfl⟩ := hk
        exact hv (j + k) c' (takeAt hk)
    · cases he
  | false =>
    rw [ha] at he
    simp only [Bool.false_eq_true, if_false, Option.bind_eq_some_iff] at he
    obtain ⟨c, hj, he⟩ := he
    cases he
    refine good_cells hR ho hi hx (cs := [f c]) (us := fun k => us (j + k)) (fun k hk => ?_) (fun k c' hk => ?_) (by rw [ha]; exact ⟨[], rfl⟩)
    · have : k = 0 := by simpa using hk
      subst this
      rw [Nat.add_assoc]
      exact hc (j + 0) (List.getElem?_eq_some_iff.1 hj).1
    · cases k with
      | zero =>
        cases hk
        exact hv j c hj
      | succ k => simp at hk

theorem goodP_load (hR : RelE nt I U s E a w) {t : Nat} {x : Operand} (ho : o.op = .load t x) {i : TI} (hi : tiOf P t = some i) (hH : ∀ o ob, H o = some ob → s.H o = some ob)
    (he : evLoad H i (getA nt s.t x) = some (v, objs)) : GoodP P o a w E s.H U v objs := by
  have hx := hR.get x
  have hm := hR.mnGet x
  generalize hgx : getA nt s.t x = gx at *
  generalize hu : a.eval x = u at *
  unfold evLoad at he
  split at he
  · rename_i q ii j
    split at he
    · rename_i ty cs hq
      have hq := hH _ _ hq
      split at he
      · rename_i h0
        subst h0
        obtain ⟨b, arr, us, h1, h2, h3, h4, h5, h6⟩ := hR.live q _ hq
        have hmn := (hR.mnH q _ hq).2
        cases hx with
        | ptX _ _ _ _ h => rw [hq] at h; cases h
        | pt _ _ _ ob b' cap h hr =>
          rw [hq] at h
          cases h
          rw [h1] at hr
          cases hr
          refine good_loadL hR ho hi (b := b) (off := 0) (j := j) (f := fun c => c) (us := us) (by rw [hu]; simp [Ob.sz]) (fun k hk => by rw [Nat.zero_add, cell_at h3]; exact h5 k hk) (fun k c hk => ⟨h6 k c hk, hmn c (List.mem_of_getElem? hk)⟩) (by simpa using he)
      · cases he
    · rename_i ty sz es hq
      have hq := hH _ _ hq
      rw [Option.bind_eq_some_iff] at he
      obtain ⟨e, hes, he⟩ := he
      have hl := hR.live q _ hq
      rcases hl with ⟨_, rfl⟩ | ⟨b, cap, arr, us, h1, h2, ⟨ty', h3⟩, h4, h5, h6, h7, h8, h9⟩
      · simp at hes
      · cases hx with
        | ptX _ _ _ _ h => rw [hq] at h; cases h
        | pt _ _ _ ob b' cap' h hr =>
          rw [hq] at h
          cases h
          rw [h1] at hr
          cases hr
          have hil := (List.getElem?_eq_some_iff.1 hes).1
          have hel : e.length = sz := h7 e (List.mem_of_getElem? hes)
          refine good_loadL hR ho hi (b := b) (off := ii * sz) (j := j) (f := lift) (us := us ii) (by rw [hu]; rfl) (fun k hk => by rw [cell_at h3]; exact h8 ii k hil (hel ▸ hk)) (fun k c hk => ⟨lift_ok (ℓ := (0, [])) (h9 ii k e c hes hk), lift_mn c⟩) he
    · rename_i ty sz es i0 j0 v0 hq
      have hq := hH _ _ hq
      rw [Option.bind_eq_some_iff] at he
      obtain ⟨e, hes, he⟩ := he
      obtain ⟨hi0, hj0, b, cap, arr, us, h1, h2, ⟨ty', h3⟩, h4, h5, h6, h7, h8, h9, h10⟩ := hR.live q _ hq
      have hmn := (hR.mnH q _ hq).2
      split at he
      · cases he
      · rename_i hag
        have hag : i.agg = false := by simpa using hag
        cases hx with
        | ptX _ _ _ _ h => rw [hq] at h; cases h
        | pt _ _ _ ob b' cap' h hr =>
          rw [hq] at h
          cases h
          rw [h1] at hr
          cases hr
          have hil := (List.getElem?_eq_some_iff.1 hes).1
          have hel : e.length = sz := h7 e (List.mem_of_getElem? hes)
          split at he
          · rename_i hij
            obtain ⟨rfl, rfl⟩ := hij
            cases he
            refine good_cells hR ho hi (b := b) (off := ii * sz + j) (cs := [v]) (us := fun _ => us ii j) (by rw [hu]; rfl) (fun k hk => ?_) (fun k c hk => ?_) (by rw [hag]; exact ⟨[], rfl⟩)
            · have : k = 0 := by simpa using hk
              subst this
              rw [cell_at h3]
              exact h8 ii j hil hj0
            · cases k with
              | zero => cases hk; exact ⟨h10, hmn⟩
              | succ k => simp at hk
          · refine good_loadL hR ho hi (b := b) (off := ii * sz) (j := j) (f := lift) (us := us ii) (by rw [hu]; rfl) (fun k hk => by rw [cell_at h3]; exact h8 ii k hil (hel ▸ hk)) (fun k c hk => ⟨lift_ok (ℓ := (0, [])) (h9 ii k e c hes hk), lift_mn c⟩) ?_
            rw [hag]
            simpa using he
    · cases he
  · rename_i cs j
    cases hx with
    | c _ _ h =>
      cases h with
      | ptr b off _ _ arr ty fz us hT hb h1 h2 =>
        exact good_loadL hR ho hi (b := b) (off := off) (j := j) (f := liftC) (us := us) (by rw [hu]) (fun k hk => by rw [cell_at hb]; exact h1 k hk) (fun k c hk => ⟨liftC_ok (h2 k c hk), liftC_mn c⟩) he
  · rename_i cs j
    cases hx with
    | bw _ _ h =>
      cases h with
      | ptr b off _ _ arr ty fz us hT hb h1 h2 =>
        exact good_loadL hR ho hi (b := b) (off := off) (j := j) (f := liftB) (us := us) (by rw [hu]) (fun k hk => by rw [cell_at hb]; exact h1 k hk) (fun k c hk => ⟨liftB_ok (h2 k c hk), liftB_mn c⟩) he
  · cases he

theorem good_load (hR : RelE nt I U s E a w) {t : Nat} {x : Operand} (ho : o.op = .load t x) {i : TI} (hi : tiOf P t = some i) (hH : ∀ o ob, H o = some ob → s.H o = some ob)
    (he : evLoad H i (getA nt s.t x) = some (v, objs)) : Good P o a w E s.H U id v objs := (goodP_load hR ho hi hH he).good hR

theorem good_fieldAddr (hR : RelE nt I U s E a w) {t : Nat} {x : Operand} {f : Nat} (ho : o.op = .fieldAddr t x f) {i : TI} (hi : tiOf P t = some i) (hH : ∀ o ob, H o = some ob → s.H o = some ob)
    {off sz : Nat} (hf : i.fields[f]? = some (off, sz)) (hz : sz ≠ 0) (he : evField H off (getA nt s.t x) = some (v, objs)) : Good P o a w E s.H U id v objs := by
  have hx := hR.get x
  have hm := hR.mnGet x
  generalize hgx : getA nt s.t x = gx at *
  obtain ⟨info, d, h1, h2, -, -, h3, -⟩ := tiOf_spec hi
  obtain ⟨fs, hd⟩ : ∃ fs, d = .struct fs := by
    rw [h3] at hf
    cases d <;> simp_all
  subst hd
  simp only at h3
  rw [h3, List.getElem?_map, Option.map_eq_some_iff] at hf
  obtain ⟨fd, hfd, hff⟩ := hf
  have hfd' : fs[f]? = some fd := by simpa using hfd
  cases hff
  have hsz : ∃ j, P.info? fd.type = some j ∧ j.size ≠ 0 := by
    unfold sizeP at hz
    cases hj : P.info? fd.type with
    | none => simp [hj] at hz
    | some j => exact ⟨j, rfl, by simpa [hj] using hz⟩
  obtain ⟨j, hj, hj0⟩ := hsz
  have hrun : ∀ b k, (a.eval x = .pointer (some ⟨b, k, none⟩)) → (execOp a.eval o).run P w = .ok (.value (.pointer (some ⟨b, k + fd.offset, none⟩))) w := by
    intro b k hbk
    have : (sizeOf fd.type).run P w = .ok j.size w := by simp [sizeOf, run_typeInfo w hj]
    simp [execOp, ho, hbk, Instr.fieldAt, run_underlying h2, hfd', Instr.sureAddr, fieldPlace, this, hj0, Addr.add_lit]
  unfold evField at he
  split at he
  · rename_i q ii jj
    split at he
    · rename_i hq
      cases he
      generalize hu : a.eval x = u at *
      cases hx with
      | ptX _ _ _ _ h =>
        cases hh : H q with
        | none => simp [hh] at hq
        | some ob => rw [hH _ _ hh] at h; cases h
      | pt _ _ _ ob b cap h hr =>
        refine Good.pure hR (hrun b _ rfl) ?_ (by cases hm with | pt _ _ _ hm => exact .pt _ _ _ hm) rfl
        rw [Nat.add_assoc]
        exact .pt q ii (jj + fd.offset) ob b cap h hr
    · cases he
  · rename_i cs jj
    cases he
    generalize hu : a.eval x = u at *
    cases hx with
    | c _ _ h =>
      cases h with
      | ptr b off _ _ arr ty fz us hT hb h1 h2 =>
        refine Good.pure hR (hrun b _ rfl) ?_ (.c _) rfl
        rw [Nat.add_assoc]
        exact .c _ _ (.ptr b off cs (jj + fd.offset) arr ty fz us hT hb h1 h2)
  · rename_i cs jj
    cases he
    generalize hu : a.eval x = u at *
    cases hx with
    | bw _ _ h =>
      cases h with
      | ptr b off _ _ arr ty fz us hT hb h1 h2 =>
        refine Good.pure hR (hrun b _ rfl) ?_ (.bw _) rfl
        rw [Nat.add_assoc]
        exact .bw _ _ (.ptr b off cs (jj + fd.offset) arr ty fz us hT hb h1 h2)
  · cases he

theorem elem_spec {t : Nat} {i : TI} (hi : tiOf P t = some i) {e sz eb : Nat} (he : i.elem = some (e, sz, eb)) : P.underlying t = some (.slice e) ∧ ∃ j, P.info? e = some j ∧ j.size = sz ∧ j.bytes = eb := by
  obtain ⟨info, d, h1, h2, -, -, -, h3, -⟩ := tiOf_spec hi
  rw [h3] at he
  cases d <;> simp only at he <;> try cases he
  rename_i e'
  cases hj : P.info? e' with
  | none => simp [hj] at he
  | some j =>
    simp only [hj, Option.some.injEq, Prod.mk.injEq] at he
    obtain ⟨rfl, rfl, rfl⟩ := he
    exact ⟨h2, j, hj, rfl, rfl⟩

theorem row_elem {T : Nat → Prop} {k : Bool} {es : List (List CV)} {u : Value} (h : RdR w T (.row k es) u) {n : Nat} {e : List CV} (hn : es[n]? = some e) :
    ∃ b off cap, u = .slice (some ⟨b, off, none⟩) es.length cap ∧ RdR w T (.ptr e 0) (.pointer (some ⟨b, off + n * e.length, none⟩)) := by
  cases h with
  | nil => simp at hn
  | row _ b off sz cap _ arr ty fz us hT hb hs hm hc _ hu hr =>
    have hl := (List.getElem?_eq_some_iff.1 hn).1
    have he := hs e (List.mem_of_getElem? hn)
    refine ⟨b, off, cap, rfl, ?_⟩
    subst he
    exact .ptr b (off + n * e.length) e 0 arr ty fz (us n) hT hb (fun j hj => by rw [Nat.add_assoc]; exact hu n j hl hj) (fun j c hc => hr n j e c hn hc)

theorem good_indexAddr (hR : RelE nt I U s E a w) {t : Nat} {x ix : Operand} (ho : o.op = .indexAddr t x ix) {k : IntKind} {n : Int} (hix : getA nt s.t ix = .c (.v (.int k n))) {i : TI} (hi : tiOf P t = some i)
    (hH : ∀ o ob, H o = some ob → s.H o = some ob) {e sz eb : Nat} (hel : i.elem = some (e, sz, eb)) (he : evIndexAddr H sz n (getA nt s.t x) = some (v, objs)) : Good P o a w E s.H U id v objs := by
  have ei := hR.eval hix
  have hx := hR.get x
  have hm := hR.mnGet x
  generalize hgx : getA nt s.t x = gx at *
  obtain ⟨hu, j, hj, rfl, rfl⟩ := elem_spec hi hel
  have hsz : (sizeOf e).run P w = .ok j.size w := by simp [sizeOf, run_typeInfo w hj]
  have hrun : ∀ b off m c, a.eval x = .slice (some ⟨b, off, none⟩) m c → 0 ≤ n → n < m → (execOp a.eval o).run P w = .ok (.value (.pointer (some ⟨b, off + n.toNat * j.size, none⟩))) w := by
    intro b off m c hb h0 h1
    simp [execOp, ho, hb, ei, Instr.indexAt, asIntOf, run_underlying hu, h0, h1, hsz, Addr.add_lit]
  unfold evIndexAddr at he
  split at he
  · rename_i q m
    split at he
    · rename_i ty sz' es hq
      split at he
      · rename_i hc
        obtain ⟨h0, h1, h2, rfl⟩ := hc
        cases he
        generalize hxu : a.eval x = u at *
        cases hx with
        | slX _ _ _ h => rw [hH _ _ hq] at h; cases h
        | sl _ _ ty' sz' es' b cap h hr =>
          rw [hH _ _ hq] at h
          cases h
          refine Good.pure hR (hrun b 0 _ _ rfl h0 h1) ?_ (by cases hm with | sl _ _ hm => exact .pt _ _ _ hm) rfl
          have := RdV.pt (w := w) (E := E) (H := s.H) q n.toNat 0 _ b cap (hH _ _ hq) hr
          simpa [Ob.sz] using this
        | slO _ _ _ _ _ _ _ _ _ _ h => rw [hH _ _ hq] at h; cases h
        | slN => omega
      · cases he
    · rename_i ty sz' es i0 j0 v0 hq
      split at he
      · rename_i hc
        obtain ⟨h0, h1, h2, rfl⟩ := hc
        cases he
        generalize hxu : a.eval x = u at *
        cases hx with
        | slX _ _ _ h => rw [hH _ _ hq] at h; cases h
        | sl _ _ ty' sz' es' b cap h hr => rw [hH _ _ hq] at h; cases h
        | slO _ _ ty' sz' es' i' j' v' b cap h hr =>
          rw [hH _ _ hq] at h
          cases h
          refine Good.pure hR (hrun b 0 _ _ rfl h0 h1) ?_ (by cases hm with | sl _ _ hm => exact .pt _ _ _ hm) rfl
          have := RdV.pt (w := w) (E := E) (H := s.H) q n.toNat 0 _ b cap (hH _ _ hq) hr
          simpa [Ob.sz] using this
        | slN _ _ _ h => rw [hH _ _ hq] at h; cases h
      · cases he
    · cases he
  · rename_i q a0 m
    split at he
    · rename_i ty sz' es hq
      split at he
      · rename_i hc
        obtain ⟨h0, h1, h2, rfl⟩ := hc
        cases he
        generalize hxu : a.eval x = u at *
        cases hx with
        | svX _ _ _ _ h => rw [hH _ _ hq] at h; cases h
        | sv _ _ _ ob b cap h hr =>
          rw [hH _ _ hq] at h
          cases h
          refine Good.pure hR (hrun b _ _ _ rfl h0 h1) ?_ (by cases hm with | sv _ _ _ hm => exact .pt _ _ _ hm) rfl
          have := RdV.pt (w := w) (E := E) (H := s.H) q (a0 + n.toNat) 0 _ b cap (hH _ _ hq) hr
          simpa [Ob.sz, Nat.add_mul] using this
      · cases he
    · cases he
  · rw [Option.bind_eq_some_iff] at he
    obtain ⟨e', hn, he⟩ := he
    split at he
    · rename_i hc
      obtain ⟨h0, h1⟩ := hc
      cases he
      generalize hxu : a.eval x = u at *
      cases hx with
      | c _ _ h =>
        obtain ⟨b, off, cap, rfl, hp⟩ := row_elem h hn
        rw [h1] at hp
        have := (List.getElem?_eq_some_iff.1 hn).1
        exact Good.pure hR (hrun b off _ _ rfl h0 (by omega)) (.c _ _ hp) (.c _) rfl
    · cases he
  · rw [Option.bind_eq_some_iff] at he
    obtain ⟨e', hn, he⟩ := he
    split at he
    · rename_i hc
      obtain ⟨h0, h1⟩ := hc
      cases he
      generalize hxu : a.eval x = u at *
      cases hx with
      | bw _ _ h =>
        obtain ⟨b, off, cap, rfl, hp⟩ := row_elem h hn
        rw [h1] at hp
        have := (List.getElem?_eq_some_iff.1 hn).1
        exact Good.pure hR (hrun b off _ _ rfl h0 (by omega)) (.bw _ _ hp) (.bw _) rfl
    · cases he
  · cases he
end

end Go.Proofs.YtnnmpdanfeejbaaGreat.Abs

/- The abstract machine's operations hold of the model: strings, cuts, conversions. -/
namespace Go.Proofs.YtnnmpdanfeejbaaGreat.Abs
open Go Go.RowKit
set_option linter.unusedVariables false
set_option linter.unusedSimpArgs false

section
variable {P : Program} {nt : Nat} {I : Ini} {U : Nat → Prop} {s : ASt} {E : Env} {a : Act} {w : World} {o : Oper} {id : Nat} {v : AV} {objs : List (Nat × Option Ob)} {H : Hp}

theorem str_desc {t : Nat} {i : TI} (hi : tiOf P t = some i) (hs : i.isStr = true) : P.underlying t = some .string := by
  obtain ⟨info, d, h1, h2, -, -, -, -, -, -, h3, -, -, -⟩ := tiOf_spec hi
  rw [h3] at hs
  cases d <;> simp_all
theorem good_index (hR : RelE nt I U s E a w) {t : Nat} {x ix : Operand} (ho : o.op = .index t x ix) {k : IntKind} {n : Int} (hix : getA nt s.t ix = .c (.v (.int k n))) {b : ByteArray} (hx : getA nt s.t x = .c (.v (.string b)))
    {i : TI} (hi : tiOf P t = some i) (hs : i.isStr = true) {c : UInt8} (hc : b.data.toList[n.toNat]? = some c) (h0 : 0 ≤ n) : Good P o a w E s.H U id (.c (.v (.int .u8 c.toNat))) [] := by
  have ei := hR.eval hix
  have ex := hR.eval hx
  have hg : b[n.toNat]? = some c := by
    obtain ⟨hl, hv⟩ := List.getElem?_eq_some_iff.1 hc
    have hl' : n.toNat < b.size := by simpa using hl
    rw [getElem?_pos b n.toNat hl']
    congr 1
  refine Good.plain hR (u := .int .u8 c.toNat) ?_ rfl rfl
  simp [execOp, ho, ex, ei, Instr.index, asIntOf, run_underlying (str_desc hi hs), h0, hg]

theorem boundA_spec {m n : Nat} {x : AV} (h : boundA m x = some n) : ∃ k, x = .c (.v (.int k (n : Int))) ∧ n ≤ m := by
  unfold boundA at h
  split at h
  · rename_i k q
    split at h
    · rename_i hq
      cases h
      exact ⟨k, by rw [Int.toNat_of_nonneg hq.1], by omega⟩
    · cases h
  · cases h

theorem run_bounds (hR : RelE nt I U s E a w) {isS : Bool} {len cap h l : Nat} (hlc : len ≤ cap) {lo hi : Option Operand} (hh : hiA (hi.map (getA nt s.t)) len = some h) (hl : loA (lo.map (getA nt s.t)) h = some l) (w' : World) :
    (Instr.sliceBounds isS len cap (lo.map a.eval) (hi.map a.eval) none).run P w' = .ok (l, h, cap) w' ∧ h ≤ len ∧ l ≤ h := by
  have h1 : h ≤ len ∧ (hi = none ∧ h = len ∨ ∃ x k, hi = some x ∧ a.eval x = .int k (h : Int)) := by
    cases hi with
    | none => simp [hiA] at hh; exact ⟨by omega, .inl ⟨rfl, hh.symm⟩⟩
    | some x =>
      simp only [hiA, Option.map_some] at hh
      obtain ⟨k, hk, hle⟩ := boundA_spec hh
      exact ⟨hle, .inr ⟨x, k, rfl, hR.eval hk⟩⟩
  have h2 : l ≤ h ∧ (lo = none ∧ l = 0 ∨ ∃ x k, lo = some x ∧ a.eval x = .int k (l : Int)) := by
    cases lo with
    | none => simp [loA] at hl; exact ⟨by omega, .inl ⟨rfl, hl.symm⟩⟩
    | some x =>
      simp only [loA, Option.map_some] at hl
      obtain ⟨k, hk, hle⟩ := boundA_spec hl
      exact ⟨hle, .inr ⟨x, k, rfl, hR.eval hk⟩⟩
  have c1 : (h : Int) ≤ (cap : Int) := by omega
  have c2 : (l : Int) ≤ (h : Int) := by omega
  have z1 : (0 : Int) ≤ (h : Int) := by omega
  have z2 : (0 : Int) ≤ (l : Int) := by omega
  refine ⟨?_, h1.1, h2.1⟩
  have t1 : ∀ k, (Instr.sliceBound (.int k (h : Int)) cap (if isS then .sliceAcap else .sliceAlen)).run P w' = .ok h w' := fun k => by
    simp only [Instr.sliceBound, asIntOf, Sem.run_bind, Sem.run_pure, Result.andThen_ok, z1, c1, and_self, if_true, Int.toNat_natCast]
  have t2 : ∀ k, (Instr.sliceBound (.int k (l : Int)) h .sliceB).run P w' = .ok l w' := fun k => by
    simp only [Instr.sliceBound, asIntOf, Sem.run_bind, Sem.run_pure, Result.andThen_ok, z2, c2, and_self, if_true, Int.toNat_natCast]
  rcases h1.2 with ⟨rfl, h1e⟩ | ⟨x, k, rfl, e1⟩ <;> rcases h2.2 with ⟨rfl, h2e⟩ | ⟨y, k', rfl, e2⟩
  · subst h1e h2e
    simp only [Instr.sliceBounds, Option.map_none, Sem.run_bind, Sem.run_pure, Result.andThen_ok]
  · subst h1e
    simp only [Instr.sliceBounds, Option.map_none, Option.map_some, e2, Option.isSome_none, Bool.false_eq_true, if_false, Sem.run_bind, Sem.run_pure, Result.andThen_ok, t2]
  · subst h2e
    simp only [Instr.sliceBounds, Option.map_none, Option.map_some, e1, Sem.run_bind, Sem.run_pure, Result.andThen_ok, t1]
  · simp only [Instr.sliceBounds, Option.map_none, Option.map_some, e1, e2, Option.isSome_none, Bool.false_eq_true, if_false, Sem.run_bind, Sem.run_pure, Result.andThen_ok, t1, t2]

theorem cut_row {T : Nat → Prop} {es : List (List CV)} {b off sz h l m : Nat} {arr : Array Value} {ty : Nat} {fz : Nat × Nat} {us : Nat → Nat → Value} (hT : T b) (hb : w.heap[b]? = some (.cells arr ty fz)) (hs : ∀ e ∈ es, e.length = sz)
    (hm : es.length ≤ maxLen) (hu : ∀ i j, i < es.length → j < sz → arr[off + (i * sz + j)]? = some (us i j)) (hr : ∀ (i j : Nat) e c, es[i]? = some e → e[j]? = some c → RdR w T c (us i j)) (hh : h ≤ es.length) (hl : l < h) (hc : h - l ≤ m) :
    RdR w T (.row false ((es.take h).drop l)) (.slice (some ⟨b, off + l * sz, none⟩) (h - l) m) := by
  have hlen : ((es.take h).drop l).length = h - l := by simp; omega
  have key := RdR.row (w := w) (T := T) false b (off + l * sz) sz m ((es.take h).drop l) arr ty fz (fun i j => us (l + i) j) hT hb (fun e he => hs e (List.mem_of_mem_take (List.mem_of_mem_drop he))) (by omega) (by omega) (fun h => by cases h)
    (fun i j hi hj => by
      have := hu (l + i) j (by omega) hj
      rw [show off + l * sz + (i * sz + j) = off + ((l + i) * sz + j) by rw [Nat.add_mul]; omega]
      exact this)
    (fun i j e c he hc => by
      rw [List.getElem?_drop] at he
      have : es[l + i]? = some e := by
        rw [List.getElem?_take] at he
        split at he
        · exact he
        · cases he
      exact hr (l + i) j e c this hc)
  rwa [hlen] at key

theorem slice_row {T : Nat → Prop} {k : Bool} {es : List (List CV)} {u : Value} (h : RdR w T (.row k es) u) {hh l : Nat} (hhl : hh ≤ es.length) (hl : l ≤ hh) {t e : Nat} {j : TypeInfo} (hu : P.underlying t = some (.slice e)) (hj : P.info? e = some j)
    (hsz : ∀ c ∈ es, c.length = j.size) {lo hi : Option Value} (hrun : ∀ cap, es.length ≤ cap → (Instr.sliceBounds true es.length cap lo hi none).run P w = .ok (l, hh, cap) w) :
    ∃ r, (Instr.slice t u lo hi none).run P w = .ok r w ∧ RdR w T (.row false ((es.take hh).drop l)) r := by
  have hsz' : (sizeOf e).run P w = .ok j.size w := by simp [sizeOf, run_typeInfo w hj]
  cases h with
  | nil _ ad c _ =>
    have h1 := hrun c (Nat.zero_le _)
    simp only [List.length_nil] at h1 hhl
    refine ⟨.slice (if c = l then ad else ad.map (·.add (l * j.size))) (hh - l) (c - l), ?_, ?_⟩
    · simp only [Instr.slice, Sem.run_bind, run_underlying hu, Result.andThen_ok, h1, hsz', Sem.run_pure]
    · have : hh - l = 0 := by omega
      rw [this]
      simp only [List.take_nil, List.drop_nil]
      exact .nil _ _ _ (fun h => by cases h)
  | row _ b off sz cap _ arr ty fz us hT hb hs hm hc _ hus hr =>
    have h1 := hrun cap hc
    refine ⟨.slice (if cap = l then some ⟨b, off, none⟩ else (some (⟨b, off, none⟩ : Addr)).map (·.add (l * j.size))) (hh - l) (cap - l), ?_, ?_⟩
    · simp only [Instr.slice, Sem.run_bind, run_underlying hu, Result.andThen_ok, h1, hsz', Sem.run_pure]
    · by_cases hlt : l < hh
      · rw [if_neg (by omega)]
        simp only [Option.map_some, Addr.add_lit]
        have hsz2 : j.size = sz := by
          have h0 : 0 < es.length := by omega
          have := hs es[0] (List.getElem_mem h0)
          rw [← this, hsz es[0] (List.getElem_mem h0)]
        rw [hsz2]
        exact cut_row hT hb hs hm hus hr hhl hlt (by omega)
      · have h2 : hh - l = 0 := by omega
        have h3 : (es.take hh).drop l = [] := List.drop_eq_nil_of_le (by simp; omega)
        rw [h2, h3]
        exact .nil _ _ _ (fun h => by cases h)

theorem good_sliceStr (hR : RelE nt I U s E a w) {t : Nat} {x : Operand} {lo hi : Option Operand} (ho : o.op = .slice t x lo hi none) {i : TI} (hi' : tiOf P t = some i) (hs : i.isStr = true) {b : ByteArray} (hx : getA nt s.t x = .c (.v (.string b)))
    {h l : Nat} (hh : hiA (hi.map (getA nt s.t)) b.size = some h) (hl : loA (lo.map (getA nt s.t)) h = some l) : Good P o a w E s.H U id (.c (.v (.string (b.extract l h)))) [] := by
  have ex := hR.eval hx
  have h1 := (run_bounds (P := P) hR (isS := false) (Nat.le_refl b.size) hh hl w).1
  refine Good.plain hR (u := .string (b.extract l h)) ?_ rfl rfl
  simp [execOp, ho, ex, Instr.sliceAt, Instr.slice, run_underlying (str_desc hi' hs), h1]

theorem good_sliceRow (hR : RelE nt I U s E a w) (hH : ∀ o ob, H o = some ob → s.H o = some ob) {t : Nat} {x : Operand} {lo hi : Option Operand} (ho : o.op = .slice t x lo hi none) {i : TI} (hi' : tiOf P t = some i) {e : Nat × Nat × Nat} (he' : i.elem = some e)
    (hns : ∀ b, getA nt s.t x ≠ .c (.v (.string b))) (he : evSlice H e.2.1 (lo.map (getA nt s.t)) (hi.map (getA nt s.t)) (getA nt s.t x) = some (v, objs)) : Good P o a w E s.H U id v objs := by
  obtain ⟨e, sz, eb⟩ := e
  obtain ⟨hu, j, hj, rfl, rfl⟩ := elem_spec hi' he'
  have hx := hR.get x
  unfold evSlice at he
  split at he
  · exact absurd (by assumption) (hns _)
  · rename_i k es hgx
    rw [hgx] at hx
    simp only [Option.bind_eq_some_iff] at he
    obtain ⟨h, hh, l, hl, he⟩ := he
    split at he
    · rename_i hsz
      cases he
      cases hx with
      | c _ _ hx =>
        have h1 := run_bounds (P := P) hR (isS := true) (Nat.le_refl es.length) hh hl w
        obtain ⟨r, hr, hrd⟩ := slice_row (P := P) hx h1.2.1 h1.2.2 hu hj hsz (lo := lo.map a.eval) (hi := hi.map a.eval) (fun cap hcap => (run_bounds (P := P) hR hcap hh hl w).1)
        refine Good.pure hR (u := r) ?_ (.c _ _ hrd) (.c _) rfl
        simp [execOp, ho, Instr.sliceAt, run_underlying hu, hr]
    · cases he
  · rename_i k es hgx
    rw [hgx] at hx
    simp only [Option.bind_eq_some_iff] at he
    obtain ⟨h, hh, l, hl, he⟩ := he
    split at he
    · rename_i hsz
      cases he
      cases hx with
      | bw _ _ hx =>
        have h1 := run_bounds (P := P) hR (isS := true) (Nat.le_refl es.length) hh hl w
        obtain ⟨r, hr, hrd⟩ := slice_row (P := P) hx h1.2.1 h1.2.2 hu hj hsz (lo := lo.map a.eval) (hi := hi.map a.eval) (fun cap hcap => (run_bounds (P := P) hR hcap hh hl w).1)
        refine Good.pure hR (u := r) ?_ (.bw _ _ hrd) (.bw _) rfl
        simp [execOp, ho, Instr.sliceAt, run_underlying hu, hr]
    · cases he
  · rename_i q n hgx
    rw [hgx] at hx
    have hm := hR.mnGet x
    rw [hgx] at hm
    split at he
    · rename_i ty sz es hq
      simp only [Option.bind_eq_some_iff, Option.ite_none_right_eq_some] at he
      obtain ⟨h, hh, l, hl, ⟨rfl, hn, hlt⟩, he⟩ := he
      cases he
      have hq := hH _ _ hq
      generalize hux : a.eval x = ux at hx
      cases hx with
      | slX _ _ _ h => rw [hq] at h; cases h
      | slO _ _ _ _ _ _ _ _ _ _ h => rw [hq] at h; cases h
      | slN _ ty' sz' h hr => omega
      | sl _ _ ty' sz' es' b cap h' hr =>
        rw [hq] at h'
        cases h'
        have hcap : n ≤ cap := by
          rcases hR.live q _ hq with ⟨h1, _⟩ | ⟨b', cap', arr, us, h1, h2, h3, h4, h5, _⟩
          · rw [h1] at hr; cases hr
          · rw [h1] at hr; cases hr; omega
        have h1 := run_bounds (P := P) hR (isS := true) hcap hh hl w
        have hsz' : (sizeOf e).run P w = .ok j.size w := by simp [sizeOf, run_typeInfo w hj]
        have hr2 : (Instr.slice t (.slice (some ⟨b, 0, none⟩) n cap) (lo.map a.eval) (hi.map a.eval) none).run P w = .ok (.slice (some ⟨b, l * j.size, none⟩) (h - l) (cap - l)) w := by
          simp only [Instr.slice, Sem.run_bind, run_underlying hu, Result.andThen_ok, h1.1, hsz', Sem.run_pure]
          rw [if_neg (by omega)]
          simp [Addr.add_lit]
        refine Good.pure hR (u := .slice (some ⟨b, l * j.size, none⟩) (h - l) (cap - l)) ?_ (.sv q l (h - l) _ b cap hq hr) (by cases hm with | sl _ _ hm => exact .sv _ _ _ hm) rfl
        simp [execOp, ho, Instr.sliceAt, run_underlying hu, hux, hr2]
    · cases he
  · cases he

/-- What is read of a row, plain cells. -/
theorem RdR.rowCells {T : Nat → Prop} {k : Bool} {es : List (List CV)} {u : Value} (h : RdR w T (.row k es) u) : ∃ ad cap, u = .slice ad es.length cap ∧ (es = [] ∨ ∃ b off, ad = some ⟨b, off, none⟩ ∧ b < w.heap.size ∧
    ∀ (i j : Nat) e x, es[i]? = some e → e[j]? = some (.v x) → w.cell? ⟨b, off + (i * e.length + j), none⟩ = some x) := by
  cases h with
  | nil _ ad c _ => exact ⟨ad, c, rfl, .inl rfl⟩
  | row _ b off sz cap _ arr ty fz us hT hb hs hm hc _ hus hr =>
    refine ⟨_, cap, rfl, .inr ⟨b, off, rfl, RdR.lt hb, fun i j e x he hx => ?_⟩⟩
    have hil := (List.getElem?_eq_some_iff.1 he).1
    have hjl := (List.getElem?_eq_some_iff.1 hx).1
    have hel := hs e (List.mem_of_getElem? he)
    rw [hel, cell_at hb, hus i j hil (hel ▸ hjl)]
    have := hr i j e _ he hx
    generalize us i j = y at *
    cases this
    rfl
theorem RdC.plain {loc : Nat → Option Loc} {ℓ : Loc} {x u : Value} (h : RdC w loc ℓ (.v x) u) : u = x := by
  cases h with
  | im _ _ _ h => cases h; rfl

theorem rowOf_spec (hR : RelE nt I U s E a w) (hH : ∀ o ob, H o = some ob → s.H o = some ob) {x : AV} {es : List (List CV)} (hx : rowOf H x = some es) {u : Value} (h : RdV w E s.H x u) :
    ∃ ad cap, u = .slice ad es.length cap ∧ (es = [] ∨ ∃ b off, ad = some ⟨b, off, none⟩ ∧ b < w.heap.size ∧
    ∀ (i j : Nat) e x, es[i]? = some e → e[j]? = some (.v x) → w.cell? ⟨b, off + (i * e.length + j), none⟩ = some x) := by
  unfold rowOf at hx
  split at hx
  · cases hx; cases h with | c _ _ h => exact h.rowCells
  · cases hx; cases h with | bw _ _ h => exact h.rowCells
  · cases hx; cases h with | nul => exact ⟨none, 0, rfl, .inl rfl⟩
  · rename_i q n
    split at hx
    · rename_i ty sz es' hq
      split at hx
      · rename_i hn
        cases hx
        have hq := hH _ _ hq
        have hlen : (es'.take n).length = n := by simp; omega
        cases h with
        | slX _ _ _ h => rw [hq] at h; cases h
        | sl _ _ ty' sz' es2 b cap h hr =>
          rw [hq] at h
          cases h
          rw [hlen]
          refine ⟨_, cap, rfl, .inr ⟨b, 0, rfl, ?_⟩⟩
          rcases hR.live q _ hq with ⟨h1, _⟩ | ⟨b', cap', arr, us, h1, h2, ⟨ty3, h3⟩, h4, h5, h6, h7, h8, h9⟩
          · rw [h1] at hr; cases hr
          · rw [h1] at hr
            cases hr
            refine ⟨RdR.lt h3, fun i j e x he hx => ?_⟩
            rw [List.getElem?_take] at he
            split at he
            · have hil := (List.getElem?_eq_some_iff.1 he).1
              have hjl := (List.getElem?_eq_some_iff.1 hx).1
              have hel := h7 e (List.mem_of_getElem? he)
              rw [hel, cell_at h3, Nat.zero_add, h8 i j hil (hel ▸ hjl), (h9 i j e _ he hx).plain]
            · cases he
        | slO _ _ _ _ _ _ _ _ _ _ h => rw [hq] at h; cases h
        | slN _ ty' sz' h hr =>
          rw [hq] at h
          cases h
          exact ⟨none, 0, by simp, .inl (by simp)⟩
      · cases hx
    · cases hx
  · cases hx

theorem bytesOf_spec : ∀ {es : List (List CV)} {l : List UInt8}, bytesOf es = some l → ∃ ns : List Int, es = ns.map (fun n => [CV.v (.int .u8 n)]) ∧ l = ns.map (fun n => UInt8.ofNat n.toNat)
  | [], l, h => by simp [bytesOf] at h; exact ⟨[], rfl, by simp [h]⟩
  | e :: r, l, h => by
    unfold bytesOf at h
    split at h
    · rename_i h0; cases h0
    · rename_i n r' h0
      cases h0
      rw [Option.map_eq_some_iff] at h
      obtain ⟨l', hl', rfl⟩ := h
      obtain ⟨ns, h1, h2⟩ := bytesOf_spec hl'
      exact ⟨n :: ns, by rw [h1]; rfl, by rw [h2]; rfl⟩
    · cases h
theorem foldl_push (ns : List Int) (b : ByteArray) : ns.foldl (fun r n => r.push (UInt8.ofNat n.toNat)) b = ⟨b.data ++ (ns.map fun n => UInt8.ofNat n.toNat).toArray⟩ := by
  induction ns generalizing b with
  | nil => simp
  | cons n ns ih =>
    rw [List.foldl_cons, ih]
    congr 1
    simp [ByteArray.push]

theorem good_convInt (hR : RelE nt I U s E a w) {t d : Nat} {x : Operand} (ho : o.op = .convert t d x) {i j : TI} (hi : tiOf P t = some i) (hj : tiOf P d = some j) {k k' : IntKind} {n : Int} (hk : j.prim = some k) (hx : getA nt s.t x = .c (.v (.int k' n))) :
    Good P o a w E s.H U id (.c (.v (.int k (k.wrap n)))) [] := by
  have ex := hR.eval hx
  obtain ⟨info, d1, h1, h2, -⟩ := tiOf_spec hi
  obtain ⟨info', d2, h3, h4, -, -, -, -, -, h5, -⟩ := tiOf_spec hj
  rw [h5] at hk
  have hd : d2 = .int k := by cases d2 <;> simp_all
  subst hd
  refine Good.plain hR (u := .int k (k.wrap n)) ?_ rfl rfl
  cases d1 <;> simp [execOp, ho, ex, convert, run_underlying h2, run_underlying h4, Conv.intToInt]

theorem bytes_desc {t : Nat} {i : TI} (hi : tiOf P t = some i) (hs : i.isBytes = true) : ∃ e, P.underlying t = some (.slice e) ∧ P.underlying e = some (.int .u8) := by
  obtain ⟨info, d, h1, h2, -, -, -, -, -, -, -, -, -, h3, -⟩ := tiOf_spec hi
  rw [h3] at hs
  cases d <;> simp at hs
  rename_i e
  refine ⟨e, h2, ?_⟩
  split at hs
  · assumption
  · cases hs

theorem good_convStr (hR : RelE nt I U s E a w) (hH : ∀ o ob, H o = some ob → s.H o = some ob) {t d : Nat} {x : Operand} (ho : o.op = .convert t d x) {i j : TI} (hi : tiOf P t = some i) (hj : tiOf P d = some j) (hs : j.isStr = true) (hb : i.isBytes = true)
    {es : List (List CV)} (hx : rowOf H (getA nt s.t x) = some es) {l : List UInt8} (hl : bytesOf es = some l) : Good P o a w E s.H U id (.c (.v (.string ⟨l.toArray⟩))) [] := by
  obtain ⟨e, he1, he2⟩ := bytes_desc hi hb
  obtain ⟨ns, rfl, rfl⟩ := bytesOf_spec hl
  obtain ⟨ad, cap, hu, hc⟩ := rowOf_spec hR hH hx (hR.get x)
  refine Good.plain hR (u := .string ⟨(ns.map fun n => UInt8.ofNat n.toNat).toArray⟩) ?_ rfl rfl
  have key : (Conv.bytesToString (.slice ad ns.length cap)).run P w = .ok (.string ⟨(ns.map fun n => UInt8.ofNat n.toNat).toArray⟩) w := by
    cases ad with
    | none =>
      rcases hc with hc | ⟨b, off, hc, _⟩
      · have : ns = [] := by simpa using hc
        subst this
        rfl
      · cases hc
    | some ad =>
      have hload : (loadCells ad ns.length).run P w = .ok (ns.map (Value.int .u8)).toArray w := by
        rcases hc with hc | ⟨b, off, hc, _, hcell⟩
        · have : ns = [] := by simpa using hc
          subst this
          rfl
        · cases hc
          have := run_loadCells_list (P := P) w ⟨b, off, none⟩ (ns.map (Value.int .u8)) (fun q v hq => by
            rw [List.getElem?_map, Option.map_eq_some_iff] at hq
            obtain ⟨n, hn, rfl⟩ := hq
            have h1 := hcell q 0 [CV.v (.int .u8 n)] (.int .u8 n) (by rw [List.getElem?_map, hn]; rfl) rfl
            rw [Addr.add_lit]
            simpa using h1)
          simpa using this
      rw [run_bytesToString w ad ns.length cap ns hload, foldl_push]
      simp
  simp only [List.length_map] at hu
  simp [execOp, ho, hu, run_convert_bytes_string w t d e ad ns.length cap he1 he2 (str_desc hj hs), key]
end

end Go.Proofs.YtnnmpdanfeejbaaGreat.Abs

/- The abstract machine's operations hold of the model: those that make an object. -/
namespace Go.Proofs.YtnnmpdanfeejbaaGreat.Abs
open Go Go.RowKit
set_option linter.unusedVariables false
set_option linter.unusedSimpArgs false

def mvl (d : Nat) (mv : List (Nat × Nat × Nat)) (ℓ : Loc) : Loc := match mv.find? (fun m => m.1 == ℓ.1) with
  | some m => (d, (m.2.1, m.2.2) :: ℓ.2)
  | none => ℓ
theorem mvl_out {d : Nat} {mv : List (Nat × Nat × Nat)} {k : Nat} {p : List (Nat × Nat)} (h : ∀ m ∈ mv, m.1 ≠ k) : mvl d mv (k, p) = (k, p) := by
  unfold mvl
  rw [List.find?_eq_none.2 (fun m hm => by simpa using h m hm)]
theorem mvl_nil {d : Nat} {mv : List (Nat × Nat × Nat)} {k o : Nat} {p : List (Nat × Nat)} (h : mvl d mv (k, p) = (o, [])) : p = [] := by
  unfold mvl at h
  split at h
  · simp at h
  · simpa using congrArg Prod.snd h
theorem mvl_in {d : Nat} {mv : List (Nat × Nat × Nat)} (hd : (mv.map (·.1)).Nodup) {k i j : Nat} (h : (k, i, j) ∈ mv) (p : List (Nat × Nat)) : mvl d mv (k, p) = (d, (i, j) :: p) := by
  have : mv.find? (fun m => m.1 == k) = some (k, i, j) := by
    induction mv with
    | nil => simp at h
    | cons m r ih =>
      rw [List.map_cons, List.nodup_cons] at hd
      rcases List.mem_cons.1 h with rfl | h
      · simp
      · have hne : m.1 ≠ k := fun e => hd.1 (e ▸ List.mem_map_of_mem (f := (·.1)) h)
        rw [List.find?_cons_of_neg (by simpa using hne)]
        exact ih hd.2 h
  unfold mvl
  rw [this]

def Env.fresh (E : Env) (w : World) (id cap : Nat) (g : Loc → Loc) : Env := ⟨upd E.rho id (some (w.heap.size, cap)), fun b => if b = w.heap.size then some (id, []) else (E.loc b).map g⟩

theorem mem_gone {x : Nat × Option Ob} {mv : List (Nat × Nat × Nat)} (h : x ∈ gone mv) : ∃ m ∈ mv, x = (m.1, none) := by
  unfold gone at h
  rw [List.mem_map] at h
  obtain ⟨m, hm, rfl⟩ := h
  exact ⟨m, hm, rfl⟩
theorem updL_gone {H : Hp} {mv : List (Nat × Nat × Nat)} {k : Nat} (h : ∃ m ∈ mv, m.1 = k) : updL H (gone mv) k = none := by
  induction mv generalizing H with
  | nil => simp at h
  | cons m r ih =>
    show updL (upd H m.1 none) (gone r) k = none
    by_cases hr : ∃ m ∈ r, m.1 = k
    · exact ih hr
    · have : m.1 = k := by
        obtain ⟨m', hm', hk⟩ := h
        rcases List.mem_cons.1 hm' with rfl | hm'
        · exact hk
        · exact absurd ⟨m', hm', hk⟩ hr
      subst this
      rw [updL_out (fun x hx => by obtain ⟨m', hm', rfl⟩ := mem_gone hx; exact fun e => hr ⟨m', hm', e⟩), upd_same]
theorem updL_new {H : Hp} {mv : List (Nat × Nat × Nat)} {id : Nat} {x : Option Ob} (h : ∀ m ∈ mv, m.1 ≠ id) : updL H ((id, x) :: gone mv) id = x := by
  show updL (upd H id x) (gone mv) id = x
  rw [updL_out (fun x hx => by obtain ⟨m', hm', rfl⟩ := mem_gone hx; exact h m' hm'), upd_same]
theorem updL_old {H : Hp} {mv : List (Nat × Nat × Nat)} {id k : Nat} {x : Option Ob} (h : ∃ m ∈ mv, m.1 = k) : updL H ((id, x) :: gone mv) k = none := updL_gone (H := upd H id x) h

section
variable {P : Program} {nt : Nat} {I : Ini} {U : Nat → Prop} {s : ASt} {E : Env} {a : Act} {w : World} {o : Oper} {id : Nat} {v : AV} {objs : List (Nat × Option Ob)} {H : Hp}

theorem keeps_new (hR : RelE nt I U s E a w) (hid : ¬ U id) {w' : World} (hw : Evo (fun _ => False) w w') {cap : Nat} {g : Loc → Loc} {mv : List (Nat × Nat × Nat)} {x : Option Ob}
    (hg2 : ∀ k p o, g (k, p) = (o, []) → p = []) : Keeps U w w' E (E.fresh w id cap g) s.H (updL s.H ((id, x) :: gone mv)) := by
  have hne : ∀ b, b < w.heap.size → (E.fresh w id cap g).loc b = (E.loc b).map g := fun b hb => if_neg (by omega)
  refine ⟨fun b hb h0 => ⟨hw.old hb id_false, by rw [hne b hb, h0]; rfl⟩, fun b hb h1 => ⟨hw.old hb id_false, fun o' ho' => ?_⟩, fun k hk => ?_⟩
  · rw [hne b hb, Option.map_eq_some_iff] at ho'
    obtain ⟨⟨k, p⟩, hk, hg⟩ := ho'
    have := hg2 k p o' hg
    subst this
    exact h1 k hk
  · have hki : k ≠ id := fun e => hid (e ▸ hk)
    by_cases hm : ∃ m ∈ mv, m.1 = k
    · exact .inl (updL_old hm)
    · have : updL s.H ((id, x) :: gone mv) k = s.H k := by
        show updL (upd s.H id x) (gone mv) k = _
        rw [updL_out (fun y hy => by obtain ⟨m', hm', rfl⟩ := mem_gone hy; exact fun e => hm ⟨m', hm', e⟩), upd_ne _ _ hki]
      rw [this]
      cases hh : s.H k with
      | none => exact .inl rfl
      | some ob => exact .inr ⟨upd_ne _ _ hki, ob, ob, rfl, rfl, Ob.like.refl ob⟩
where id_false : ¬ False := fun h => h

theorem Fx.new (hR : RelE nt I U s E a w) (hid : ¬ U id) {w' : World} (hw : Evo (fun _ => False) w w') (hsz : w.heap.size < w'.heap.size) {cap : Nat} {g : Loc → Loc} {mv : List (Nat × Nat × Nat)} {ob : Ob}
    (hg1 : ∀ k p, (∀ m ∈ mv, m.1 ≠ k) → g (k, p) = (k, p)) (hg2 : ∀ k p o, g (k, p) = (o, []) → p = []) (hmv : ∀ m ∈ mv, ∃ x, s.H m.1 = some x)
    (hl : LiveOb w' (E.fresh w id cap g) (updL s.H ((id, some ob) :: gone mv)) id ob) (hmn : MnOb (fun o => U o ∨ o = id) ob)
    {u : Value} (hv : RdV w' (E.fresh w id cap g) (updL s.H ((id, some ob) :: gone mv)) v u) (hm : Mn (fun o => U o ∨ o = id) v) :
    Fx w E s.H U id v ((id, some ob) :: gone mv) u w' (E.fresh w id cap g) := by
  have k := keeps_new (x := some ob) (mv := mv) (cap := cap) (g := g) hR hid hw hg2
  have hmi : ∀ m ∈ mv, m.1 ≠ id := fun m hm e => by
    obtain ⟨x, hx⟩ := hmv m hm
    exact hid (e ▸ (hR.mnH _ _ hx).1)
  have hne : ∀ b, b < w.heap.size → (E.fresh w id cap g).loc b = (E.loc b).map g := fun b hb => if_neg (by omega)
  constructor
  · exact ⟨hw.os, hw.tape, hw.output, hw.size, fun i hi _ => hw.block i hi (fun h => h)⟩
  · exact fun b hb h0 => (k.t0 b hb h0).2
  · exact k.t1
  · intro q hq
    have hqi : q ≠ id := fun e => hq (id, some ob) (List.mem_cons_self ..) e.symm
    refine ⟨upd_ne _ _ hqi, fun b p hb hp => ⟨hw.block b hb (fun h => h), ?_⟩⟩
    rw [hne b hb, hp, Option.map_some, hg1 q p (fun m hm e => hq (m.1, none) (List.mem_cons_of_mem _ (List.mem_map.2 ⟨m, hm, rfl⟩)) e)]
  · intro x hx
    rcases List.mem_cons.1 hx with rfl | hx
    · exact .inl rfl
    · obtain ⟨m, hm, rfl⟩ := mem_gone hx
      obtain ⟨y, hy⟩ := hmv m hm
      exact .inr ⟨y, hy, .inl (updL_old ⟨m, hm, rfl⟩)⟩
  · intro x hx ob' hob
    rcases List.mem_cons.1 hx with rfl | hx
    · rw [updL_new hmi] at hob
      cases hob
      exact ⟨hl, hmn⟩
    · obtain ⟨m, hm, rfl⟩ := mem_gone hx
      rw [updL_old ⟨m, hm, rfl⟩] at hob
      cases hob
  · intro b ℓ hb
    by_cases hbs : b = w.heap.size
    · subst hbs
      exact ⟨hsz, .inl (Nat.le_refl _)⟩
    · have : (E.loc b).map g = some ℓ := by
        have : (E.fresh w id cap g).loc b = (E.loc b).map g := if_neg hbs
        rw [← this]
        exact hb
      rw [Option.map_eq_some_iff] at this
      obtain ⟨ℓ0, h0, _⟩ := this
      have := hR.locLt b ℓ0 h0
      exact ⟨by omega, .inr (by simp [h0])⟩
  · exact hv
  · exact hm

theorem Evo.alloc (w : World) (x : Obj) : Evo (fun _ => False) w (w.alloc x) := ⟨rfl, rfl, rfl, by simp, fun k hk _ => heap_alloc_old w x k hk⟩

theorem oneA_ok {E : Env} (hH : ∀ o ob, H o = some ob → s.H o = some ob) {x : AV} (h1 : oneA H x = true) {u : Value} (h : RdV w E s.H x u) : u.oneCell' = true := by
  have hs : ∀ q, (H q).isSome = true → s.H q ≠ none := fun q hq hn => by
    cases hh : H q with
    | none => simp [hh] at hq
    | some ob => rw [hH _ _ hh] at hn; cases hn
  cases h with
  | c x u h => exact h.one
  | bw x u h => exact h.one
  | nul => rfl
  | any => cases h1
  | slX o n u h => exact absurd h (hs o h1)
  | sl => rfl
  | slO => rfl
  | slN => rfl
  | svX o a n u h => exact absurd h (hs o h1)
  | sv => rfl
  | mrX o u h => exact absurd h (hs o h1)
  | mr => rfl
  | ptX o i j u h => exact absurd h (hs o h1)
  | pt => rfl
  | ag => cases h1
  | tu => cases h1

theorem cells_one {u : Value} (h : u.oneCell' = true) : u.cells = #[u] := by cases u <;> first | rfl | cases h

/-- The cells of a value. -/
theorem okA_ok {E : Env} (hH : ∀ o ob, H o = some ob → s.H o = some ob) {x : AV} (h1 : okA H x = true) {u : Value} (h : RdV w E s.H x u) :
    u.cells.size = (cellsA x).length ∧ (∀ (k : Nat) c y, (cellsA x)[k]? = some c → u.cells[k]? = some y → RdV w E s.H c y) ∧ ∀ y ∈ u.cells, y.oneCell' = true := by
  by_cases hag : ∃ cs, x = .ag cs
  · obtain ⟨cs, rfl⟩ := hag
    cases h with
    | ag _ us hs hi =>
      refine ⟨hs, hi, fun y hy => ?_⟩
      obtain ⟨k, hk, rfl⟩ := Array.mem_iff_getElem.1 hy
      have hk' : k < us.size := hk
      have hc : k < cs.length := hs ▸ hk'
      exact oneA_ok hH (List.all_eq_true.1 h1 _ (List.getElem_mem hc)) (hi k cs[k] us[k] (List.getElem?_eq_getElem hc) (Array.getElem?_eq_getElem hk'))
  · have hc : cellsA x = [x] := by cases x <;> first | rfl | exact absurd ⟨_, rfl⟩ hag
    have h1' : oneA H x = true := by cases x <;> first | exact h1 | exact absurd ⟨_, rfl⟩ hag
    have := oneA_ok hH h1' h
    rw [hc, cells_one this]
    refine ⟨rfl, fun k c y hk hy => ?_, fun y hy => ?_⟩
    · cases k with
      | zero => simp at hk hy; subst hk hy; exact h
      | succ k => simp at hk
    · simp at hy
      subst hy
      exact this
theorem Mn.cells {x : AV} (h : Mn U x) : ∀ c ∈ cellsA x, Mn U c := by
  intro c hc
  by_cases hag : ∃ cs, x = .ag cs
  · obtain ⟨cs, rfl⟩ := hag
    cases h with | ag _ h => exact h c hc
  · have h0 : cellsA x = [x] := by cases x <;> first | rfl | exact absurd ⟨_, rfl⟩ hag
    rw [h0] at hc
    simp at hc
    subst hc
    exact h

/-- A box is made. -/
theorem good_newBox (hR : RelE nt I U s E a w) (hid : ¬ U id) {ty : Nat} {arr : Array Value} {cs : List AV} (hr : (execOp a.eval o).run P w = .ok (.value (.pointer (some ⟨w.heap.size, 0, none⟩))) (w.alloc (.cells arr ty)))
    (hs : arr.size = cs.length) (hc : ∀ (k : Nat) c y, cs[k]? = some c → arr[k]? = some y → RdV w E s.H c y) (hm : ∀ c ∈ cs, Mn U c) :
    Good P o a w E s.H U id (.pt id 0 0) [(id, some (.box ty cs))] := by
  have hw := Evo.alloc w (.cells arr ty)
  have k := keeps_new (x := some (.box ty cs)) (mv := []) (cap := 1) (g := fun ℓ => ℓ) (id := id) hR hid hw (fun k p o h => by simpa using congrArg Prod.snd h)
  refine ⟨_, _, E.fresh w id 1 (fun ℓ => ℓ), .inl hr, ?_⟩
  refine Fx.new (mv := []) hR hid hw (by simp) (fun _ _ _ => rfl) (fun k p o h => by simpa using congrArg Prod.snd h) (fun m hm => by simp at hm) ?_ ?_ ?_ ?_
  · refine ⟨w.heap.size, arr, fun j => arr.getD j undef, upd_same .., if_pos rfl, heap_alloc_new w _, hs, fun j hj => ?_, fun j c hj => ?_⟩
    · rw [Array.getElem?_eq_getElem (hs ▸ hj)]
      simp [Array.getD, hs, hj]
    · have hjl := (List.getElem?_eq_some_iff.1 hj).1
      have : arr[j]? = some (arr.getD j undef) := by
        rw [Array.getElem?_eq_getElem (hs ▸ hjl)]
        simp [Array.getD, hs, hjl]
      exact (hc j c _ hj this).keeps k (hm c (List.mem_of_getElem? hj))
  · exact fun c hc => (hm c hc).mono fun _ h => .inl h
  · have := RdV.pt (w := w.alloc (.cells arr ty)) (E := E.fresh w id 1 (fun ℓ => ℓ)) (H := updL s.H ((id, some (.box ty cs)) :: gone [])) id 0 0 (.box ty cs) w.heap.size 1 (updL_new (by simp)) (upd_same ..)
    simpa [Ob.sz] using this
  · exact .pt _ _ _ (.inr rfl)

theorem good_box (hR : RelE nt I U s E a w) (hid : ¬ U id) (hH : ∀ o ob, H o = some ob → s.H o = some ob) {e : Nat} {x : Operand} (ho : o.op = .box e x) (hx : okA H (getA nt s.t x) = true) :
    Good P o a w E s.H U id (.pt id 0 0) [(id, some (.box e (cellsA (getA nt s.t x))))] := by
  obtain ⟨h1, h2, h3⟩ := okA_ok hH hx (hR.get x)
  refine good_newBox (arr := (a.eval x).cells) hR hid ?_ h1 h2 (hR.mnGet x).cells
  simp [execOp, ho, Instr.box, newVar, newRow]

theorem good_alloc (hR : RelE nt I U s E a w) (hid : ¬ U id) {e : Nat} (ho : o.op = .alloc e) {i : TI} (hi : tiOf P e = some i) (hz : i.zero ≠ []) :
    Good P o a w E s.H U id (.pt id 0 0) [(id, some (.box e (i.zero.map constA)))] := by
  obtain ⟨info, d, h1, h2, -, -, -, -, h3, -⟩ := tiOf_spec hi
  cases hzz : info.zero with
  | none => rw [hzz] at h3; exact absurd h3 hz
  | some z =>
    simp only [hzz] at h3
    have hzr : (zeroValue e).run P w = .ok z w := by simp [zeroValue, run_typeInfo w h1, hzz]
    refine good_newBox (arr := z.cells) hR hid ?_ (by rw [h3]; simp) (fun k c y hk hy => ?_) (fun c hc => ?_)
    · simp [execOp, ho, Instr.alloc, hzr, newVar, newRow]
    · rw [h3, List.getElem?_map, Option.map_eq_some_iff] at hk
      obtain ⟨y', hy', rfl⟩ := hk
      have : y' = y := by
        rw [Array.getElem?_toList] at hy'
        rw [hy] at hy'
        exact (Option.some.inj hy').symm
      subst this
      exact RdV.const ..
    · rw [List.mem_map] at hc
      obtain ⟨z, _, rfl⟩ := hc
      exact Mn.const ..
end

end Go.Proofs.YtnnmpdanfeejbaaGreat.Abs

/- The abstract machine's operations hold of the model: what goes into a row; literal rows, made rows, structs. -/
namespace Go.Proofs.YtnnmpdanfeejbaaGreat.Abs
open Go Go.RowKit
set_option linter.unusedVariables false
set_option linter.unusedSimpArgs false

theorem RdR.im {w : World} {T : Nat → Prop} {c : CV} {u : Value} (h : RdR w T c u) : RdR w T c.im u := by
  cases h with
  | v _ h => exact .v _ h
  | hole _ h => exact .hole _ h
  | nil => exact .nil _ _ _ (fun h => by cases h)
  | row k b off sz cap es arr ty fz us h1 h2 h3 h4 h5 _ h6 h7 => exact .row false b off sz cap es arr ty fz us h1 h2 h3 h4 h5 (fun h => by cases h) h6 h7
  | ptr b off cs j arr ty fz us h1 h2 h3 h4 => exact .ptr b off cs j arr ty fz us h1 h2 h3 h4
theorem CV.im_im (c : CV) : c.im.im = c.im := by cases c <;> rfl

section
variable {P : Program} {nt : Nat} {I : Ini} {U : Nat → Prop} {s : ASt} {E : Env} {a : Act} {w : World} {o : Oper} {id : Nat} {v : AV} {objs : List (Nat × Option Ob)} {H : Hp}

/-- A value goes into a cell of a row. -/
theorem toC_ok (hR : RelE nt I U s E a w) (hH : ∀ o ob, H o = some ob → s.H o = some ob) {x : AV} {c : CV} {q : Option Nat} (hc : toC H x = some (c, q)) {u : Value} (h : RdV w E s.H x u)
    {w' : World} {loc' : Nat → Option Loc} {ℓ : Loc} (h0 : ∀ b, b < w.heap.size → E.loc b = none → w'.heap[b]? = w.heap[b]? ∧ loc' b = none)
    (h1 : ∀ k, q = some k → ∀ b p, b < w.heap.size → E.loc b = some (k, p) → w'.heap[b]? = w.heap[b]? ∧ loc' b = some (ℓ.1, ℓ.2 ++ p)) : RdC w' loc' ℓ c u := by
  unfold toC at hc
  split at hc
  · cases hc
    cases h with
    | c _ _ h => exact .im _ _ _ (h.im.mono h0) (CV.im_im _)
  · cases hc
    cases h with
    | bw _ _ h => cases h with | v _ h => exact .im _ _ _ (.v _ h) rfl
  · cases hc
    cases h
    exact .nil ..
  · rename_i k n
    split at hc
    · rename_i ty sz es hk
      split at hc
      · rename_i hn
        cases hc
        have hk := hH _ _ hk
        cases h with
        | slX _ _ _ h => rw [hk] at h; cases h
        | sl _ _ ty' sz' es' b cap h hr =>
          rw [hk] at h
          cases h
          rcases hR.live k _ hk with ⟨h2, _⟩ | ⟨b', cap', arr, us, h2, h3, ⟨ty4, h4⟩, h5, h6, h7, h8, h9, h10⟩
          · rw [h2] at hr; cases hr
          · rw [h2] at hr
            cases hr
            have hb := h1 k rfl b [] (RdR.lt h4) h3
            subst hn
            refine .own ℓ b sz cap es arr ty4 us (by simpa using hb.2) (hb.1.trans h4) h5 h6 h7 h8 h9 (fun i j e c he hc => (h10 i j e c he hc).relabel _ h0 (fun b' p hb' hp => ?_))
            have := h1 k rfl b' ((i, j) :: p) hb' hp
            simpa using this
        | slO _ _ _ _ _ _ _ _ _ _ h => rw [hk] at h; cases h
        | slN _ ty' sz' h hr =>
          rw [hk] at h
          cases h
          exact .nil ..
      · cases hc
    · cases hc
  all_goals (cases hc; done)

theorem toCs_spec {H : Hp} {i : Nat} : ∀ {xs : List AV} {j : Nat} {cs : List CV} {ks : List (Nat × Nat × Nat)}, toCs H i j xs = some (cs, ks) →
    cs.length = xs.length ∧ (∀ (k : Nat) x c, xs[k]? = some x → cs[k]? = some c → ∃ q, toC H x = some (c, q) ∧ ∀ m, q = some m → (m, i, j + k) ∈ ks) ∧ ∀ m ∈ ks, ∃ ty sz es, H m.1 = some (.rw ty sz es) ∧ .sl m.1 es.length ∈ xs
  | [], j, cs, ks, h => by
    cases h
    exact ⟨rfl, fun k x c hx => by simp at hx, fun m hm => by simp at hm⟩
  | x :: r, j, cs, ks, h => by
    unfold toCs at h
    split at h
    · rename_i c cs' ks' h1 h2
      cases h
      obtain ⟨a1, a2, a3⟩ := toCs_spec h2
      refine ⟨by simp [a1], fun k y d hy hd => ?_, fun m hm => ?_⟩
      · cases k with
        | zero =>
          simp at hy hd
          subst hy hd
          exact ⟨none, h1, fun m hm => by cases hm⟩
        | succ k =>
          obtain ⟨q, b1, b2⟩ := a2 k y d hy hd
          exact ⟨q, b1, fun m hm => by have := b2 m hm; rwa [show j + 1 + k = j + (k + 1) by omega] at this⟩
      · obtain ⟨ty, sz, es, b1, b2⟩ := a3 m hm
        exact ⟨ty, sz, es, b1, List.mem_cons_of_mem _ b2⟩
    · rename_i c q cs' ks' h1 h2
      cases h
      obtain ⟨a1, a2, a3⟩ := toCs_spec h2
      refine ⟨by simp [a1], fun k y d hy hd => ?_, fun m hm => ?_⟩
      · cases k with
        | zero =>
          simp at hy hd
          subst hy hd
          exact ⟨some q, h1, fun m hm => by cases hm; simp⟩
        | succ k =>
          obtain ⟨q', b1, b2⟩ := a2 k y d hy hd
          exact ⟨q', b1, fun m hm => by have := b2 m hm; rw [show j + 1 + k = j + (k + 1) by omega] at this; exact List.mem_cons_of_mem _ this⟩
      · rcases List.mem_cons.1 hm with rfl | hm
        · unfold toC at h1
          split at h1 <;> try (cases h1; done)
          rename_i o n
          split at h1 <;> try (cases h1; done)
          rename_i ty sz es hk
          split at h1 <;> try (cases h1; done)
          rename_i hn
          cases h1
          subst hn
          exact ⟨ty, sz, es, hk, List.mem_cons_self ..⟩
        · obtain ⟨ty, sz, es, b1, b2⟩ := a3 m hm
          exact ⟨ty, sz, es, b1, List.mem_cons_of_mem _ b2⟩
    · cases h

theorem distinct_spec {d : Nat} {ks : List (Nat × Nat × Nat)} (h : distinct d ks = true) : (ks.map (·.1)).Nodup ∧ ∀ m ∈ ks, m.1 ≠ d := by
  unfold distinct at h
  rw [Bool.and_eq_true, decide_eq_true_eq] at h
  exact ⟨h.1, fun m hm => by simpa using List.all_eq_true.1 h.2 m hm⟩

/-- The elements of a literal row. -/
theorem evElems_spec {H : Hp} {esz : Nat} {flat : List AV} : ∀ {is : List Nat} {es : List (List CV)} {ks : List (Nat × Nat × Nat)}, evElems H esz flat is = some (es, ks) →
    es.length = is.length ∧ (∀ (n : Nat) i e, is[n]? = some i → es[n]? = some e → ∃ ks', toCs H i 0 ((flat.drop (i * esz)).take esz) = some (e, ks') ∧ ∀ m ∈ ks', m ∈ ks) ∧
    ∀ m ∈ ks, ∃ ty sz es', H m.1 = some (.rw ty sz es')
  | [], es, ks, h => by
    cases h
    exact ⟨rfl, fun n i e hi => by simp at hi, fun m hm => by simp at hm⟩
  | i :: r, es, ks, h => by
    unfold evElems at h
    split at h
    · rename_i e ks1 es' ks2 h1 h2
      cases h
      obtain ⟨a1, a2, a3⟩ := evElems_spec h2
      refine ⟨by simp [a1], fun n i' e' hi he => ?_, fun m hm => ?_⟩
      · cases n with
        | zero =>
          simp at hi he
          subst hi he
          exact ⟨ks1, h1, fun m hm => List.mem_append_left _ hm⟩
        | succ n =>
          obtain ⟨ks', b1, b2⟩ := a2 n i' e' hi he
          exact ⟨ks', b1, fun m hm => List.mem_append_right _ (b2 m hm)⟩
      · rcases List.mem_append.1 hm with hm | hm
        · obtain ⟨ty, sz, es0, b1, _⟩ := (toCs_spec h1).2.2 m hm
          exact ⟨ty, sz, es0, b1⟩
        · exact a3 m hm
    · cases h

theorem zeroC_ok (w : World) (loc : Nat → Option Loc) (ℓ : Loc) (z : Value) (h : z.oneCell' = true) : RdC w loc ℓ (zeroC z) z := by
  unfold zeroC
  split
  · exact .nil ..
  · exact .im _ _ _ (.v _ h) rfl

/-- A row is made whose elements' cells are told. -/
theorem good_newRow (hR : RelE nt I U s E a w) (hid : ¬ U id) {ty sz n : Nat} {arr : Array Value} {es : List (List CV)} {ks : List (Nat × Nat × Nat)} {w' : World} (hw : Evo (fun _ => False) w w') (hb : w'.heap[w.heap.size]? = some (.cells arr ty (0, 0)))
    {cap : Nat} (hr : (execOp a.eval o).run P w = .ok (.value (.slice (some ⟨w.heap.size, 0, none⟩) n cap)) w') (hs : arr.size = cap * sz) (hn : n = es.length) (hcap : n ≤ cap) (hmax : cap ≤ maxLen) (h0cap : es = [] → cap = 0) (hes : ∀ e ∈ es, e.length = sz)
    (hks : ∀ m ∈ ks, ∃ ob, s.H m.1 = some ob)
    (hc : ∀ (i j : Nat) e c y, es[i]? = some e → e[j]? = some c → arr[i * sz + j]? = some y → RdC w' (E.fresh w id cap (mvl id ks)).loc (id, [(i, j)]) c y) :
    Good P o a w E s.H U id (.sl id n) ((id, some (.rw ty sz es)) :: gone ks) := by
  subst hn
  have hmi : ∀ m ∈ ks, m.1 ≠ id := fun m hm e => by
    obtain ⟨x, hx⟩ := hks m hm
    exact hid (e ▸ (hR.mnH _ _ hx).1)
  have hbound : ∀ i j, i < es.length → j < sz → i * sz + j < arr.size := fun i j hi hj => by
    rw [hs]
    calc i * sz + j < i * sz + sz := by omega
      _ = (i + 1) * sz := by rw [Nat.add_mul]; omega
      _ ≤ cap * sz := Nat.mul_le_mul_right _ (by omega)
  refine ⟨_, w', E.fresh w id cap (mvl id ks), .inl hr, ?_⟩
  refine Fx.new (ob := .rw ty sz es) hR hid hw (RdR.lt hb) (fun k p h => mvl_out h) (fun k p o h => mvl_nil h) hks ?_ trivial ?_ (.sl _ _ (.inr rfl))
  · refine .inr ⟨w.heap.size, cap, arr, fun i j => arr.getD (i * sz + j) undef, upd_same .., if_pos rfl, ⟨_, hb⟩, hs, hcap, ⟨hmax, h0cap⟩, hes, fun i j hi hj => ?_, fun i j e c he hc' => ?_⟩
    · have := hbound i j hi hj
      rw [Array.getElem?_eq_getElem this]
      simp [Array.getD, this]
    · have hj : j < sz := by rw [← hes e (List.mem_of_getElem? he)]; exact (List.getElem?_eq_some_iff.1 hc').1
      have := hbound i j (List.getElem?_eq_some_iff.1 he).1 hj
      refine hc i j e c _ he hc' ?_
      rw [Array.getElem?_eq_getElem this]
      simp [Array.getD, this]
  · exact .sl id es.length ty sz es w.heap.size cap (updL_new hmi) (upd_same ..)

end

theorem splice_get {α : Type} {l m : List α} {j k : Nat} (h : j + m.length ≤ l.length) : (splice l j m)[k]? = if j ≤ k ∧ k < j + m.length then m[k - j]? else l[k]? := by
  unfold splice
  have h1 : (l.take j).length = j := by simp; omega
  by_cases hk : k < j
  · rw [if_neg (by omega), List.append_assoc, List.getElem?_append_left (by omega), List.getElem?_take, if_pos hk]
  · rw [List.append_assoc, List.getElem?_append_right (by omega), h1]
    by_cases hk2 : k < j + m.length
    · rw [if_pos ⟨by omega, hk2⟩, List.getElem?_append_left (by omega)]
    · rw [if_neg (by omega), List.getElem?_append_right (by omega), List.getElem?_drop]
      congr 1
      omega
theorem splice_length {α : Type} {l m : List α} {j : Nat} (h : j + m.length ≤ l.length) : (splice l j m).length = l.length := by
  unfold splice
  simp
  omega
theorem foldl_set (off : Nat) : ∀ (vs : List Value) (n : Nat) (cells : Array Value), off + n + vs.length ≤ cells.size →
    ((vs.zipIdx n).foldl (fun cs (x : Value × Nat) => cs.setIfInBounds (off + x.2) x.1) cells).size = cells.size ∧
    ∀ k, ((vs.zipIdx n).foldl (fun cs (x : Value × Nat) => cs.setIfInBounds (off + x.2) x.1) cells)[k]? = if off + n ≤ k ∧ k < off + n + vs.length then vs[k - (off + n)]? else cells[k]?
  | [], n, cells, h => ⟨rfl, fun k => by rw [if_neg (by simp)]; rfl⟩
  | v :: r, n, cells, h => by
    simp only [List.length_cons] at h
    have ih := foldl_set off r (n + 1) (cells.setIfInBounds (off + n) v) (by simp; omega)
    rw [List.zipIdx_cons, List.foldl_cons]
    refine ⟨by rw [ih.1]; simp, fun k => ?_⟩
    rw [ih.2 k]
    by_cases h1 : off + (n + 1) ≤ k ∧ k < off + (n + 1) + r.length
    · rw [if_pos h1, if_pos (by simp only [List.length_cons]; omega)]
      rw [show k - (off + n) = (k - (off + (n + 1))) + 1 by omega]
      rfl
    · rw [if_neg h1]
      by_cases h2 : k = off + n
      · subst h2
        rw [if_pos (by simp only [List.length_cons]; omega), Array.getElem?_setIfInBounds_self_of_lt (by omega)]
        simp
      · rw [if_neg (by simp only [List.length_cons]; omega), Array.getElem?_setIfInBounds_ne (by omega)]

section
variable {P : Program} {nt : Nat} {I : Ini} {U : Nat → Prop} {s : ASt} {E : Env} {a : Act} {w : World} {o : Oper} {id : Nat} {v : AV} {objs : List (Nat × Option Ob)} {H : Hp}

def CellsOk (w : World) (E : Env) (H : Hp) (U : Nat → Prop) (cs : List AV) (arr : Array Value) : Prop := arr.size = cs.length ∧ (∀ (k : Nat) c y, cs[k]? = some c → arr[k]? = some y → RdV w E H c y) ∧ ∀ c ∈ cs, Mn U c

theorem fill_ok (hR : RelE nt I U s E a w) (hH : ∀ o ob, H o = some ob → s.H o = some ob) {place : Nat → Option (Nat × Nat)} : ∀ {ps : List (Nat × Operand)} {l : List (Nat × Nat × AV)} {cs cs' : List AV} {arr : Array Value},
    (∀ p ∈ ps, okA H (getA nt s.t p.2) = true) → (ps.mapM fun p => (place p.1).map fun f => (f.1, f.2, getA nt s.t p.2)) = some l → fillA cs l = some cs' → CellsOk w E s.H U cs arr →
    ∃ arr', Instr.fill place arr (ps.map fun p => (p.1, a.eval p.2)) = some arr' ∧ CellsOk w E s.H U cs' arr'
  | [], l, cs, cs', arr, hok, hm, hf, hc => by
    simp at hm
    subst hm
    cases hf
    exact ⟨arr, rfl, hc⟩
  | p :: r, l, cs, cs', arr, hok, hm, hf, hc => by
    rw [List.mapM_cons] at hm
    cases hp : place p.1 with
    | none => simp [hp] at hm
    | some f =>
      obtain ⟨off, sz⟩ := f
      simp only [hp, Option.map_some] at hm
      cases hr : (r.mapM fun p => (place p.1).map fun f => (f.1, f.2, getA nt s.t p.2)) with
      | none => rw [hr] at hm; simp at hm
      | some l' =>
        rw [hr] at hm
        have hl : l = (off, sz, getA nt s.t p.2) :: l' := by simpa using hm.symm
        subst hl
        unfold fillA at hf
        split at hf
        · rename_i hsz
          obtain ⟨e1, e2, e3⟩ := okA_ok hH (hok p (List.mem_cons_self ..)) (hR.get p.2)
          have hle : off + 0 + (a.eval p.2).cells.toList.length ≤ arr.size := by
            rw [Array.length_toList, e1, hc.1]; omega
          have fs := foldl_set off (a.eval p.2).cells.toList 0 arr hle
          have hfold : ((a.eval p.2).cells.zipIdx.foldl (fun cs (x : Value × Nat) => cs.setIfInBounds (off + x.2) x.1) arr) = (((a.eval p.2).cells.toList.zipIdx 0).foldl (fun cs (x : Value × Nat) => cs.setIfInBounds (off + x.2) x.1) arr) := by
            rw [← Array.foldl_toList, Array.toList_zipIdx]
          have hcs : off + (cellsA (getA nt s.t p.2)).length ≤ cs.length := by omega
          have hc' : CellsOk w E s.H U (splice cs off (cellsA (getA nt s.t p.2))) ((a.eval p.2).cells.zipIdx.foldl (fun cs (x : Value × Nat) => cs.setIfInBounds (off + x.2) x.1) arr) := by
            rw [hfold]
            refine ⟨by rw [fs.1, splice_length hcs, hc.1], fun k c y hk hy => ?_, fun c hcm => ?_⟩
            · rw [splice_get hcs] at hk
              rw [fs.2 k, Array.length_toList, e1] at hy
              simp only [Nat.add_zero] at hy
              split at hk
              · rename_i hkk
                rw [if_pos hkk, Array.getElem?_toList] at hy
                exact e2 _ c y hk hy
              · rename_i hkk
                rw [if_neg hkk] at hy
                exact hc.2.1 k c y hk hy
            · unfold splice at hcm
              simp only [List.append_assoc, List.mem_append] at hcm
              rcases hcm with hcm | hcm | hcm
              · exact hc.2.2 c (List.mem_of_mem_take hcm)
              · exact (hR.mnGet p.2).cells c hcm
              · exact hc.2.2 c (List.mem_of_mem_drop hcm)
          obtain ⟨arr', h1, h2⟩ := fill_ok hR hH (fun p hp => hok p (List.mem_cons_of_mem _ hp)) hr hf hc'
          refine ⟨arr', ?_, h2⟩
          rw [List.map_cons]
          unfold Instr.fill
          simp only [hp]
          rw [if_neg]
          · exact h1
          · simp only [Bool.or_eq_true, decide_eq_true_eq, not_or, Decidable.not_not, Nat.not_lt]
            rw [e1, hsz.1, hc.1]
            exact ⟨by simp, by omega⟩
        · cases hf

theorem fields_places {P : Program} {fs : List Field} {l : List (Nat × Nat)} (h : l = fs.map fun f => (f.offset, sizeP P f.type)) (hz : ∀ f ∈ l, f.2 ≠ 0) : fs.mapM (fun f => (P.info? f.type).map fun i => (f.offset, i.size)) = some l := by
  induction fs generalizing l with
  | nil => subst h; rfl
  | cons f r ih =>
    subst h
    have h0 := hz (f.offset, sizeP P f.type) (List.mem_cons_self ..)
    unfold sizeP at h0
    cases hi : P.info? f.type with
    | none => simp [hi] at h0
    | some i =>
      have := ih rfl (fun g hg => hz g (List.mem_cons_of_mem _ hg))
      rw [List.mapM_cons, this]
      simp [hi, sizeP]

theorem cells_zero (w : World) (E : Env) (H : Hp) (U : Nat → Prop) (z : Array Value) : CellsOk w E H U (z.toList.map constA) z := by
  refine ⟨by simp, fun k c y hk hy => ?_, fun c hc => ?_⟩
  · rw [List.getElem?_map, Option.map_eq_some_iff] at hk
    obtain ⟨y', hy', rfl⟩ := hk
    rw [Array.getElem?_toList, hy] at hy'
    cases hy'
    exact RdV.const ..
  · rw [List.mem_map] at hc
    obtain ⟨z, _, rfl⟩ := hc
    exact Mn.const ..

theorem good_build (hR : RelE nt I U s E a w) (hH : ∀ o ob, H o = some ob → s.H o = some ob) {t : Nat} {ps : Array (Nat × Operand)} (ho : o.op = .build t ps) {i : TI} (hi : tiOf P t = some i)
    (he : evBuild H i (ps.toList.map fun p => (p.1, getA nt s.t p.2)) = some (v, objs)) : Good P o a w E s.H U id v objs := by
  unfold evBuild at he
  rw [Option.bind_eq_some_iff] at he
  obtain ⟨l, hl, he⟩ := he
  split at he
  · rename_i hc
    obtain ⟨hok, hagg, hne, hz0, hfz⟩ := hc
    rw [Option.bind_eq_some_iff] at he
    obtain ⟨cs, hcs, he⟩ := he
    cases he
    obtain ⟨info, d, h1, h2, -, -, h3, -, h4, -⟩ := tiOf_spec hi
    obtain ⟨fs, hd⟩ : ∃ fs, d = .struct fs := by
      cases d <;> simp_all
    subst hd
    simp only at h3
    cases hzz : info.zero with
    | none => rw [hzz] at h4; exact absurd h4 hz0
    | some z =>
      rw [hzz] at h4
      simp only at h4
      have hpl := fields_places h3 hfz
      have hok' : ∀ p ∈ ps.toList, okA H (getA nt s.t p.2) = true := fun p hp => by
        have := List.all_eq_true.1 hok (p.1, getA nt s.t p.2) (List.mem_map.2 ⟨p, hp, rfl⟩)
        exact this
      have hl' : (ps.toList.mapM fun p => (i.fields.toArray[p.1]?).map fun f => (f.1, f.2, getA nt s.t p.2)) = some l := by
        rw [List.mapM_map] at hl
        rw [← hl]
        congr 1
        funext p
        simp
      obtain ⟨arr, ha, hca⟩ := fill_ok hR hH (place := fun i' => i.fields.toArray[i']?) hok' hl' hcs (h4 ▸ cells_zero w E s.H U z.cells)
      have hb : P.built t (ps.toList.map fun p => (p.1, a.eval p.2)) = some arr := by
        unfold Program.built
        simp only [h1, h2, hzz, hpl]
        exact ha
      have hrun := run_build (P := P) w t (ps.map fun p => (p.1, a.eval p.2)) arr (by rw [Array.toList_map]; exact hb)
      refine Good.pure hR (u := .agg arr) ?_ (.ag _ _ hca.1 hca.2.1) (.ag _ hca.2.2) rfl
      simp [execOp, ho, hrun]
  · cases he

theorem replicate_get {α : Type} {l : List α} (hl : 0 < l.length) : ∀ (n k : Nat), k < n * l.length → (List.replicate n l).flatten[k]? = l[k % l.length]?
  | 0, k, h => by simp at h
  | n + 1, k, h => by
    rw [List.replicate_succ, List.flatten_cons]
    by_cases hk : k < l.length
    · rw [List.getElem?_append_left hk, Nat.mod_eq_of_lt hk]
    · rw [List.getElem?_append_right (by omega), replicate_get hl n (k - l.length) (by rw [Nat.add_mul] at h; omega)]
      rw [Nat.mod_eq_sub_mod (Nat.not_lt.1 hk)]

theorem cells_zeros (w : World) (E : Env) (H : Hp) (U : Nat → Prop) (z : Array Value) (hz : 0 < z.size) (n : Nat) : CellsOk w E H U ((List.replicate n (z.toList.map constA)).flatten) ((Array.range (n * z.size)).map (z[· % z.size]!)) := by
  have hlen : ((List.replicate n (z.toList.map constA)).flatten).length = n * z.size := by simp
  refine ⟨by simp, fun k c y hk hy => ?_, fun c hc => ?_⟩
  · have hkl := (List.getElem?_eq_some_iff.1 hk).1
    rw [hlen] at hkl
    rw [replicate_get (by simpa using hz) n k (by simpa using hkl)] at hk
    simp only [List.length_map, Array.length_toList, List.getElem?_map, Option.map_eq_some_iff] at hk
    obtain ⟨y', hy', rfl⟩ := hk
    have hmod : k % z.size < z.size := Nat.mod_lt _ hz
    have e : y = y' := by
      rw [Array.getElem?_toList] at hy'
      simp only [Array.getElem?_map, Array.getElem?_range, hkl, if_true, Option.map_some, Option.some.injEq] at hy
      rw [← hy, getElem!_pos z _ hmod]
      rw [Array.getElem?_eq_getElem hmod] at hy'
      exact Option.some.inj hy'
    subst e
    exact RdV.const ..
  · rw [List.mem_flatten] at hc
    obtain ⟨l, hl, hc⟩ := hc
    rw [List.mem_replicate] at hl
    obtain ⟨_, rfl⟩ := hl
    rw [List.mem_map] at hc
    obtain ⟨z, _, rfl⟩ := hc
    exact Mn.const ..
end

end Go.Proofs.YtnnmpdanfeejbaaGreat.Abs

/- The abstract machine's operations hold of the model: literal rows, made rows, bytes of a string, least and greatest. -/
namespace Go.Proofs.YtnnmpdanfeejbaaGreat.Abs
open Go Go.RowKit
set_option linter.unusedVariables false
set_option linter.unusedSimpArgs false

section
variable {P : Program} {nt : Nat} {I : Ini} {U : Nat → Prop} {s : ASt} {E : Env} {a : Act} {w : World} {o : Oper} {id : Nat} {v : AV} {objs : List (Nat × Option Ob)} {H : Hp}

theorem run_buildSlice0 (w : World) (t e : Nat) (ie : TypeInfo) (hu : P.underlying t = some (.slice e)) (hie : P.info? e = some ie) :
    (Instr.buildSlice t 0 #[]).run P w = .ok (.slice (some ⟨w.heap.size, 0, none⟩) 0 0) (w.alloc (.cells #[] e)) := by
  have : ((Array.range 0).map fun _ => (default : Value)) = #[] := by apply Array.eq_empty_of_size_eq_zero; simp
  simp [Instr.buildSlice, run_underlying hu, sizeOf, typeInfo, hie, Instr.fill, newRow]
  rw [this]

theorem good_buildSlice (hR : RelE nt I U s E a w) (hid : ¬ U id) (hH : ∀ o ob, H o = some ob → s.H o = some ob) {t n : Nat} {ps : Array (Nat × Operand)} (ho : o.op = .buildSlice t n ps) {i : TI} (hi : tiOf P t = some i)
    {e esz eb : Nat} (hel : i.elem = some (e, esz, eb)) {z : TI} (hz : tiOf P e = some z) (he : evBuildSlice H id e esz z.zero n (ps.toList.map fun p => (p.1, getA nt s.t p.2)) = some (v, objs)) : Good P o a w E s.H U id v objs := by
  obtain ⟨hu, j, hj, rfl, rfl⟩ := elem_spec hi hel
  obtain ⟨info, d, g1, g2, -, -, -, -, g3, -⟩ := tiOf_spec hz
  rw [hj] at g1
  cases g1
  unfold evBuildSlice at he
  split at he
  · rename_i hc
    obtain ⟨hok, hzl, hz1, hpos, hsm⟩ := hc
    simp only [Option.bind_eq_some_iff] at he
    obtain ⟨flat, hf, ⟨es, ks⟩, hes, he⟩ := he
    simp only at he
    split at he
    · rename_i hd
      cases he
      cases hzz : j.zero with
      | none => rw [hzz] at g3; rw [g3] at hzl; simp at hzl; omega
      | some zv =>
        rw [hzz] at g3
        simp only at g3
        rw [g3] at hf hzl
        have hzs : zv.cells.size = j.size := by simpa using hzl
        have hok' : ∀ p ∈ ps.toList, okA H (getA nt s.t p.2) = true := fun p hp => List.all_eq_true.1 hok (p.1, getA nt s.t p.2) (List.mem_map.2 ⟨p, hp, rfl⟩)
        have hl' : (ps.toList.mapM fun p => ((fun i => some (i * j.size, j.size)) p.1).map fun f => (f.1, f.2, getA nt s.t p.2)) = some (ps.toList.map fun p => (p.1 * j.size, j.size, getA nt s.t p.2)) := by
          generalize ps.toList = q
          induction q with
          | nil => rfl
          | cons p r ih =>
            rw [List.mapM_cons, ih]
            rfl
        rw [List.map_map] at hf
        obtain ⟨arr, ha, hca⟩ := fill_ok hR hH (place := fun i => some (i * j.size, j.size)) hok' hl' hf (by have := cells_zeros w E s.H U zv.cells (by omega) n; exact this)
        obtain ⟨q1, q2, q3⟩ := evElems_spec hes
        have hd' := distinct_spec hd
        have hlen : flat.length = n * j.size := by
          have : ∀ {l : List (Nat × Nat × AV)} {cs cs' : List AV}, fillA cs l = some cs' → cs'.length = cs.length := by
            intro l
            induction l with
            | nil => intro cs cs' h; cases h; rfl
            | cons x r ih =>
              intro cs cs' h
              unfold fillA at h
              split at h
              · rename_i hx
                rw [ih h, splice_length (by omega)]
              · cases h
          rw [this hf]
          simp [hzs]
        have hrun : (execOp a.eval o).run P w = .ok (.value (.slice (some ⟨w.heap.size, 0, none⟩) n n)) (w.alloc (.cells arr e)) := by
          by_cases hn : n = 0
          · subst hn
            have harr : arr = #[] := Array.eq_empty_of_size_eq_zero (by rw [hca.1, hlen]; simp)
            subst harr
            have hps : ps = #[] := by
              cases hpl : ps.toList with
              | nil => exact Array.toList_eq_nil_iff.1 hpl
              | cons p r =>
                exfalso
                rw [hpl] at hf
                simp only [List.map_cons, List.replicate_zero, List.flatten_nil] at hf
                unfold fillA at hf
                split at hf
                · rename_i hx
                  simp at hx
                  omega
                · cases hf
            subst hps
            simp [execOp, ho, run_buildSlice0 (P := P) w t e j hu hj]
          · have hr := run_buildSlice (P := P) w t e n (ps.map fun p => (p.1, a.eval p.2)) arr j zv hu hj hzz (by omega) (by have := Nat.mul_pos (Nat.pos_of_ne_zero hn) hpos; omega) (by rw [Array.toList_map, ← hzs]; rw [← hzs] at ha; exact ha)
            simp [execOp, ho, hr]
        have hesz : ∀ e' ∈ es, e'.length = j.size := fun e' he' => by
          obtain ⟨k, hk⟩ := List.getElem?_of_mem he'
          have hkl := (List.getElem?_eq_some_iff.1 hk).1
          rw [q1, List.length_range] at hkl
          obtain ⟨ks', h1, _⟩ := q2 k k e' (by rw [List.getElem?_range hkl]) hk
          rw [(toCs_spec h1).1, List.length_take, List.length_drop, hlen]
          have : k * j.size + j.size ≤ n * j.size := by
            calc k * j.size + j.size = (k + 1) * j.size := by rw [Nat.add_mul]; omega
              _ ≤ n * j.size := Nat.mul_le_mul_right _ hkl
          omega
        have hks : ∀ m ∈ ks, ∃ ob, s.H m.1 = some ob := fun m hm => by
          obtain ⟨ty, sz, es', h⟩ := q3 m hm
          exact ⟨_, hH _ _ h⟩
        have hw := Evo.alloc w (.cells arr e)
        have k0 := keeps_new (x := some (.rw e j.size es)) (mv := ks) (cap := n) (g := mvl id ks) (id := id) hR hid hw (fun k p o h => mvl_nil h)
        refine good_newRow (es := es) (ks := ks) hR hid hw (heap_alloc_new w _) hrun (by rw [hca.1, hlen]) (by rw [q1]; simp) (Nat.le_refl _) (by
          have : n ≤ n * j.size := Nat.le_mul_of_pos_right _ hpos
          unfold maxLen
          omega) (fun e0 => by rw [e0] at q1; simpa using q1.symm) hesz hks (fun i' j' e' c y he' hc' hy => ?_)
        have hil := (List.getElem?_eq_some_iff.1 he').1
        rw [q1, List.length_range] at hil
        obtain ⟨ks', h1, h2⟩ := q2 i' i' e' (by rw [List.getElem?_range hil]) he'
        obtain ⟨r1, r2, r3⟩ := toCs_spec h1
        have hjl := (List.getElem?_eq_some_iff.1 hc').1
        rw [r1] at hjl
        have hx := List.getElem?_eq_getElem hjl
        obtain ⟨q, t1, t2⟩ := r2 j' _ c hx hc'
        have hfl := takeAt hx
        have hrd := hca.2.1 _ _ _ hfl hy
        refine toC_ok hR hH t1 hrd k0.t0 (fun k hk b p hb hp => ⟨hw.block b hb (fun h => h), ?_⟩)
        have hmem := h2 _ (t2 k hk)
        rw [Nat.zero_add] at hmem
        have : (E.fresh w id n (mvl id ks)).loc b = (E.loc b).map (mvl id ks) := if_neg (by omega)
        rw [this, hp, Option.map_some, mvl_in hd'.1 hmem]
        simp
    · cases he
  · cases he

theorem good_makeSlice (hR : RelE nt I U s E a w) (hid : ¬ U id) {t : Nat} {x y : Operand} (ho : o.op = .makeSlice t x y) {i : TI} (hi : tiOf P t = some i)
    {e esz eb : Nat} (hel : i.elem = some (e, esz, eb)) {z : TI} (hz : tiOf P e = some z) {n : Int} (hx : getA nt s.t x = .c (.v (.int .i64 n))) (hy : getA nt s.t y = .c (.v (.int .i64 n)))
    (h0 : 0 ≤ n) (hb : n * eb ≤ 140737488355328) (hm : n ≤ 140737488355328) (hpos : 0 < esz) (hzl : z.zero.length = esz) (hz1 : z.zero.all (·.oneCell') = true) : Good P o a w E s.H U id (.sl id n.toNat) [(id, some (.rw e esz (List.replicate n.toNat (z.zero.map zeroC))))] := by
  have ex := hR.eval hx
  have ey := hR.eval hy
  obtain ⟨hu, j, hj, rfl, rfl⟩ := elem_spec hi hel
  obtain ⟨info, d, g1, g2, -, -, -, -, g3, -⟩ := tiOf_spec hz
  rw [hj] at g1
  cases g1
  cases hzz : j.zero with
  | none => rw [hzz] at g3; rw [g3] at hzl; simp at hzl; omega
  | some zv =>
    rw [hzz] at g3
    simp only at g3
    rw [g3] at hzl
    have hzs : zv.cells.size = j.size := by simpa using hzl
    have hr := run_make (P := P) w t e j zv hu hj hzz .i64 .i64 n n h0 (Int.le_refl _) (by rw [Int.mul_comm]; omega) (by omega)
    have hw := Evo.alloc w (.cells (madeCells zv.cells (n.toNat * j.size)) e)
    refine good_newRow (ks := []) (cap := n.toNat) hR hid hw (heap_alloc_new w _) (by simp [execOp, ho, ex, ey, hr]) (by rw [size_madeCells]) (by simp) (Nat.le_refl _) (by unfold maxLen; omega) (fun e0 => by simpa using congrArg List.length e0) (fun e' he' => ?_) (fun m hm => by simp at hm) (fun i' j' e' c y he' hc' hy => ?_)
    · rw [List.mem_replicate] at he'
      rw [he'.2, g3]
      simpa using hzs
    · have hil := (List.getElem?_eq_some_iff.1 he').1
      rw [List.length_replicate] at hil
      rw [List.getElem?_replicate, if_pos hil] at he'
      cases he'
      have hjl := (List.getElem?_eq_some_iff.1 hc').1
      rw [List.length_map, g3, Array.length_toList, hzs] at hjl
      rw [List.getElem?_map, Option.map_eq_some_iff] at hc'
      obtain ⟨z', hz', rfl⟩ := hc'
      have hlt : i' * j.size + j' < n.toNat * j.size := by
        calc i' * j.size + j' < i' * j.size + j.size := by omega
          _ = (i' + 1) * j.size := by rw [Nat.add_mul]; omega
          _ ≤ n.toNat * j.size := Nat.mul_le_mul_right _ (by omega)
      have : y = z' := by
        simp only [madeCells, Array.getElem?_map, Array.getElem?_range, hlt, if_true, Option.map_some, Option.some.injEq] at hy
        have hmod : (i' * j.size + j') % zv.cells.size = j' := by
          rw [hzs, Nat.add_comm, Nat.add_mul_mod_self_right, Nat.mod_eq_of_lt hjl]
        rw [← hy, hmod, getElem!_pos zv.cells j' (by omega)]
        rw [g3, Array.getElem?_toList, Array.getElem?_eq_getElem (by omega)] at hz'
        exact Option.some.inj hz'
      subst this
      exact zeroC_ok _ _ _ _ (List.all_eq_true.1 hz1 _ (List.mem_of_getElem? hz'))

theorem good_convBytes (hR : RelE nt I U s E a w) {t d : Nat} {x : Operand} (ho : o.op = .convert t d x) {i j : TI} (hi : tiOf P t = some i) (hj : tiOf P d = some j) (hs : i.isStr = true) (hb : j.isBytes = true)
    {b : ByteArray} (hx : getA nt s.t x = .c (.v (.string b))) (hl : b.size ≤ 9223372036854775807) : Good P o a w E s.H U id (.c (.row false (b.data.toList.map fun u => [.v (.int .u8 u.toNat)]))) [] := by
  have ex := hR.eval hx
  obtain ⟨e, he1, he2⟩ := bytes_desc hj hb
  have hr := Lib.run_convert_string_bytes (P := P) w t d e b (str_desc hi hs) he1 he2
  have hold : ∀ k, k < w.heap.size → (Lib.bytesWorld w e b).heap[k]? = w.heap[k]? := fun k hk => Lib.bytesWorld_at_old w e b k hk
  have hev : Evo (fun _ => False) w (Lib.bytesWorld w e b) := ⟨rfl, rfl, rfl, by rw [Lib.bytesWorld_size]; omega, fun k hk _ => hold k hk⟩
  have hlen : (b.data.toList.map fun u => [CV.v (.int .u8 u.toNat)]).length = b.size := by simp
  refine ⟨.slice (some ⟨w.heap.size, 0, none⟩) b.size (grownCap w b.size 0 e), Lib.bytesWorld w e b, E, .inl (by simp [execOp, ho, ex, hr]), ?_⟩
  refine ⟨⟨rfl, rfl, rfl, hev.size, fun k hk _ => hold k hk⟩, fun _ _ h => h, fun k hk h => ⟨hold k hk, h⟩, fun _ _ => ⟨rfl, fun k q hk h => ⟨hold k hk, h⟩⟩, fun _ hx => by simp at hx, fun _ hx => by simp at hx,
    fun k ℓ h => ⟨Nat.lt_of_lt_of_le (hR.locLt k ℓ h) hev.size, .inr (by simp [h])⟩, .c _ _ ?_, .c _⟩
  have hnew := Lib.bytesWorld_at_new w e b
  have key := RdR.row (w := Lib.bytesWorld w e b) (T := E.T0) false w.heap.size 0 1 (grownCap w b.size 0 e) (b.data.toList.map fun u => [CV.v (.int .u8 u.toNat)]) (Lib.bytesCells w e b) e _ (fun i _ => .int .u8 (b.data.toList.getD i 0).toNat)
    (by
      change E.loc w.heap.size = none
      cases hh : E.loc w.heap.size with
      | none => rfl
      | some ℓ => have := hR.locLt _ ℓ hh; omega) hnew (fun e' he' => by rw [List.mem_map] at he'; obtain ⟨u, _, rfl⟩ := he'; rfl) (by rw [hlen]; unfold maxLen; omega) (by rw [hlen]; exact grownCap_ge w b.size 0 e) (fun h => by cases h)
    (fun i j hi hj => by
      rw [hlen] at hi
      have h1 := Lib.bytesWorld_cell w e b i hi
      rw [cell_at hnew] at h1
      have : j = 0 := by omega
      subst this
      simpa using h1)
    (fun i j e' c he' hc => by
      rw [List.getElem?_map, Option.map_eq_some_iff] at he'
      obtain ⟨u, hu, rfl⟩ := he'
      cases j with
      | zero =>
        cases hc
        have : b.data.toList.getD i 0 = u := by rw [List.getD_eq_getElem?_getD, hu]; rfl
        simp only [this]
        exact .v _ rfl
      | succ j => simp at hc)
  rwa [hlen] at key

theorem good_min (hR : RelE nt I U s E a w) {x y : Operand} {c : Call} (ho : o.op = .call c) (hc : c.callee = .builtin .min) (ha : c.args.toList = [x, y]) {p q : Int} (hx : getA nt s.t x = .c (.v (.int .i64 p))) (hy : getA nt s.t y = .c (.v (.int .i64 q))) :
    Good P o a w E s.H U id (.c (.v (.int .i64 (if q < p then q else p)))) [] := by
  have ex := hR.eval hx
  have ey := hR.eval hy
  have ha' : c.args = #[x, y] := by rw [← ha]
  refine Good.plain hR (u := .int .i64 (if q < p then q else p)) ?_ rfl rfl
  simp [execOp, ho, resolve, hc, invoke, builtin, ha', ex, ey, Builtin.min_, Builtin.min2]
theorem good_max (hR : RelE nt I U s E a w) {x y : Operand} {c : Call} (ho : o.op = .call c) (hc : c.callee = .builtin .max) (ha : c.args.toList = [x, y]) {p q : Int} (hx : getA nt s.t x = .c (.v (.int .i64 p))) (hy : getA nt s.t y = .c (.v (.int .i64 q))) :
    Good P o a w E s.H U id (.c (.v (.int .i64 (if q > p then q else p)))) [] := by
  have ex := hR.eval hx
  have ey := hR.eval hy
  have ha' : c.args = #[x, y] := by rw [← ha]
  refine Good.plain hR (u := .int .i64 (if q > p then q else p)) ?_ rfl rfl
  simp [execOp, ho, resolve, hc, invoke, builtin, ha', ex, ey, Builtin.max_, Builtin.max2]
end

end Go.Proofs.YtnnmpdanfeejbaaGreat.Abs

/- The abstract machine's operations hold of the model: stores. -/
namespace Go.Proofs.YtnnmpdanfeejbaaGreat.Abs
open Go Go.RowKit
set_option linter.unusedVariables false
set_option linter.unusedSimpArgs false

theorem heap_setRow_ne (w : World) (g : Nat) (cs : Array Value) (k : Nat) (h : k ≠ g) : (w.setRow g cs).heap[k]? = w.heap[k]? := by
  simp only [World.setRow, Array.getElem?_modify]
  rw [if_neg (Ne.symm h)]
theorem Evo.setRow (w : World) (g : Nat) (cs : Array Value) : Evo (fun b => b = g) w (w.setRow g cs) :=
  ⟨rfl, rfl, rfl, by simp [World.setRow], fun k _ hk => heap_setRow_ne w g cs k hk⟩

section
variable {P : Program} {nt : Nat} {I : Ini} {U : Nat → Prop} {s : ASt} {E : Env} {a : Act} {w : World} {o : Oper} {id : Nat} {v : AV} {objs : List (Nat × Option Ob)} {H : Hp}

/-- A live object's block is written; objects that are taken in move. -/
theorem Fx.write (hR : RelE nt I U s E a w) {q b cap : Nat} {ob ob' : Ob} {arr : Array Value} {mv : List (Nat × Nat × Nat)} (hq : s.H q = some ob) (hrho : E.rho q = some (b, cap)) (hloc : E.loc b = some (q, [])) (hlike : ob.like ob')
    (hmv : ∀ m ∈ mv, m.1 ≠ q ∧ ∃ x, s.H m.1 = some x) (hmn : MnOb U ob')
    (hl : Keeps U w (w.setRow b arr) E ⟨E.rho, fun k => (E.loc k).map (mvl q mv)⟩ s.H (updL s.H ((q, some ob') :: gone mv)) → LiveOb (w.setRow b arr) ⟨E.rho, fun k => (E.loc k).map (mvl q mv)⟩ (updL s.H ((q, some ob') :: gone mv)) q ob') :
    Fx w E s.H U id .any ((q, some ob') :: gone mv) undef (w.setRow b arr) ⟨E.rho, fun k => (E.loc k).map (mvl q mv)⟩ := by
  have hne : ∀ k, E.loc k ≠ some (q, []) → (w.setRow b arr).heap[k]? = w.heap[k]? := fun k hk => heap_setRow_ne w b arr k (fun e => hk (e ▸ hloc))
  have hmi : ∀ m ∈ mv, m.1 ≠ q := fun m hm => (hmv m hm).1
  have hupd : ∀ k, (∀ m ∈ mv, m.1 ≠ k) → k ≠ q → updL s.H ((q, some ob') :: gone mv) k = s.H k := fun k h1 h2 => by
    show updL (upd s.H q (some ob')) (gone mv) k = _
    rw [updL_out (fun y hy => by obtain ⟨m', hm', rfl⟩ := mem_gone hy; exact h1 m' hm'), upd_ne _ _ h2]
  have kp : Keeps U w (w.setRow b arr) E ⟨E.rho, fun k => (E.loc k).map (mvl q mv)⟩ s.H (updL s.H ((q, some ob') :: gone mv)) := by
    refine ⟨fun k hk h0 => ⟨hne k (by rw [h0]; simp), by simp only [h0]; rfl⟩, fun k hk h1 => ⟨hne k (h1 q), fun o' ho' => ?_⟩, fun k hk => ?_⟩
    · simp only [Option.map_eq_some_iff] at ho'
      obtain ⟨⟨k', p⟩, hk', hg⟩ := ho'
      have := mvl_nil hg
      subst this
      exact h1 k' hk'
    · by_cases hkq : k = q
      · subst hkq
        exact .inr ⟨rfl, ob, ob', hq, updL_new hmi, hlike⟩
      · by_cases hm : ∃ m ∈ mv, m.1 = k
        · exact .inl (updL_old hm)
        · rw [hupd k (fun m hm' e => hm ⟨m, hm', e⟩) hkq]
          cases hh : s.H k with
          | none => exact .inl rfl
          | some y => exact .inr ⟨rfl, y, y, rfl, rfl, Ob.like.refl y⟩
  constructor
  · exact ⟨rfl, rfl, rfl, by simp [World.setRow], fun k hk hn => hne k (fun e => hn (by rw [e]; simp))⟩
  · exact fun k hk h0 => (kp.t0 k hk h0).2
  · exact kp.t1
  · intro r hr
    have hrq : r ≠ q := fun e => hr (q, some ob') (List.mem_cons_self ..) e.symm
    refine ⟨rfl, fun b' p hb hp => ⟨hne b' (by rw [hp]; simp [hrq]), ?_⟩⟩
    simp only [hp, Option.map_some]
    rw [mvl_out (fun m hm e => hr (m.1, none) (List.mem_cons_of_mem _ (List.mem_map.2 ⟨m, hm, rfl⟩)) e)]
  · intro x hx
    rcases List.mem_cons.1 hx with rfl | hx
    · exact .inr ⟨ob, hq, .inr ⟨ob', updL_new hmi, hlike, rfl⟩⟩
    · obtain ⟨m, hm, rfl⟩ := mem_gone hx
      obtain ⟨_, y, hy⟩ := hmv m hm
      exact .inr ⟨y, hy, .inl (updL_old ⟨m, hm, rfl⟩)⟩
  · intro x hx ob2 hob
    rcases List.mem_cons.1 hx with rfl | hx
    · rw [updL_new hmi] at hob
      cases hob
      exact ⟨hl kp, hmn.mono fun _ h => .inl h⟩
    · obtain ⟨m, hm, rfl⟩ := mem_gone hx
      rw [updL_old ⟨m, hm, rfl⟩] at hob
      cases hob
  · intro b' ℓ hb
    simp only [Option.map_eq_some_iff] at hb
    obtain ⟨ℓ0, h0, _⟩ := hb
    have := hR.locLt b' ℓ0 h0
    exact ⟨by simpa [World.setRow] using this, .inr (by rw [h0]; simp)⟩
  · exact .any _
  · exact .any

theorem run_storeV {t : Nat} {i : TI} (hi : tiOf P t = some i) {b off ty : Nat} {arr : Array Value} (hb : w.heap[b]? = some (.cells arr ty (0, 0))) {u : Value} (hs : u.cells.size = i.size) (hf : off + i.size ≤ arr.size) (h1 : ∀ y ∈ u.cells, y.oneCell' = true) :
    (Instr.storeAt t (.pointer (some ⟨b, off, none⟩)) u).run P w = .ok () (w.setRow b (splice arr.toList off u.cells.toList).toArray) := by
  have hst := run_storeCells_at P b off ty u.cells.toList 0 arr w hb (by rw [Array.length_toList, hs]; omega) (fun y hy => h1 y (by simpa using hy))
  simp only [Nat.add_zero] at hst
  have hn : ¬ u.cells.size ≠ i.size := by simp [hs]
  simp only [Instr.storeAt, Instr.sureAddr, storeVar, Sem.run_bind, Sem.run_pure, Result.andThen_ok, run_size' hi, if_neg hn, Sem.run_ite]
  exact hst

theorem setRow_at {b ty : Nat} {arr arr' : Array Value} {fz : Nat × Nat} (hb : w.heap[b]? = some (.cells arr ty fz)) : (w.setRow b arr').heap[b]? = some (.cells arr' ty fz) := setRow_heap w b arr arr' ty fz hb

/-- Cells go into an element of a row. -/
theorem store_row (hR : RelE nt I U s E a w) {t : Nat} {x y : Operand} (ho : o.op = .store t y x) {i : TI} (hi : tiOf P t = some i) (hH : ∀ o ob, H o = some ob → s.H o = some ob) {q ii j ty sz ty' b cap : Nat} {es : List (List CV)} {e cs : List CV} {ks : List (Nat × Nat × Nat)} {ob : Ob} {arr : Array Value} {us : Nat → Nat → Value}
    (hq : s.H q = some ob) (hlike : ob.like (.rw ty sz (es.set ii (splice e j cs)))) (hes : es[ii]? = some e) (hfit : j + i.size ≤ e.length) (hcs : toCs H ii j (cellsA (getA nt s.t x)) = some (cs, ks)) (hd : distinct q ks = true)
    (hok : okA H (getA nt s.t x) = true) (hlen : (cellsA (getA nt s.t x)).length = i.size) (h1 : E.rho q = some (b, cap)) (h2 : E.loc b = some (q, [])) (h3 : w.heap[b]? = some (.cells arr ty' (0, 0))) (h4 : arr.size = cap * sz) (h5 : es.length ≤ cap)
    (h6 : cap ≤ maxLen ∧ (es = [] → cap = 0)) (h7 : ∀ e ∈ es, e.length = sz) (h8 : ∀ i j, i < es.length → j < sz → arr[i * sz + j]? = some (us i j)) (h9 : ∀ (i j : Nat) e c, es[i]? = some e → e[j]? = some c → RdC w E.loc (q, [(i, j)]) c (us i j))
    (huy : a.eval y = .pointer (some ⟨b, ii * sz + j, none⟩)) : Good P o a w E s.H U id .any ((q, some (.rw ty sz (es.set ii (splice e j cs)))) :: gone ks) := by
  obtain ⟨e1, e2, e3⟩ := okA_ok hH hok (hR.get x)
  obtain ⟨d1, d2⟩ := distinct_spec hd
  obtain ⟨r1, r2, r3⟩ := toCs_spec hcs
  have hil := (List.getElem?_eq_some_iff.1 hes).1
  have hel : e.length = sz := h7 e (List.mem_of_getElem? hes)
  have hrow : (ii + 1) * sz ≤ arr.size := by rw [h4]; exact Nat.mul_le_mul_right _ (by omega)
  rw [Nat.add_mul, Nat.one_mul] at hrow
  have hrun := run_storeV (P := P) hi h3 (off := ii * sz + j) (by rw [e1, hlen]) (by omega) e3
  have hcl : cs.length = i.size := by rw [r1, hlen]
  have hl1 : j + cs.length ≤ e.length := by omega
  have hl2 : (ii * sz + j) + (a.eval x).cells.toList.length ≤ arr.toList.length := by rw [Array.length_toList, Array.length_toList, e1]; omega
  refine ⟨undef, w.setRow b (splice arr.toList (ii * sz + j) (a.eval x).cells.toList).toArray, _, .inr ⟨?_, rfl⟩, Fx.write (mv := ks) (ob' := .rw ty sz (es.set ii (splice e j cs))) hR hq h1 h2 hlike (fun m hm => ⟨d2 m hm, ?_⟩) trivial (fun k => ?_)⟩
  · simp [execOp, ho, huy, hrun]
  · obtain ⟨ty', sz', es', q1, _⟩ := r3 m hm
    exact ⟨_, hH _ _ q1⟩
  · have hget : ∀ k, (splice arr.toList (ii * sz + j) (a.eval x).cells.toList).toArray[k]? = if ii * sz + j ≤ k ∧ k < (ii * sz + j) + cs.length then (a.eval x).cells[k - (ii * sz + j)]? else arr[k]? := fun k => by
      rw [List.getElem?_toArray, splice_get hl2, Array.length_toList, e1, ← r1, Array.getElem?_toList, Array.getElem?_toList]
    have hsize : (splice arr.toList (ii * sz + j) (a.eval x).cells.toList).toArray.size = arr.size := by rw [List.size_toArray, splice_length hl2, Array.length_toList]
    have hlocq : (Option.map (mvl q ks) (E.loc b)) = some (q, []) := by rw [h2, Option.map_some, mvl_out d2]
    refine .inr ⟨b, cap, (splice arr.toList (ii * sz + j) (a.eval x).cells.toList).toArray, fun i1 j1 => (splice arr.toList (ii * sz + j) (a.eval x).cells.toList).toArray.getD (i1 * sz + j1) undef, h1, hlocq, ⟨_, setRow_at h3⟩, by rw [hsize, h4], by simpa using h5, ⟨h6.1, fun e0 => h6.2 (by have := congrArg List.length e0; simp at this; exact this)⟩, fun e' he' => ?_, fun i1 j1 hi1 hj1 => ?_, fun i1 j1 e' c he' hc => ?_⟩
    · rcases List.mem_or_eq_of_mem_set he' with he' | rfl
      · exact h7 e' he'
      · rw [splice_length hl1, hel]
    · rw [List.length_set] at hi1
      have : i1 * sz + j1 < arr.size := by
        rw [h4]
        calc i1 * sz + j1 < i1 * sz + sz := by omega
          _ = (i1 + 1) * sz := by rw [Nat.add_mul]; omega
          _ ≤ cap * sz := Nat.mul_le_mul_right _ (by omega)
      rw [← hsize] at this
      rw [Array.getElem?_eq_getElem this]
      simp only [Array.getD, this, dite_true]
      rfl
    · have hi1 := (List.getElem?_eq_some_iff.1 he').1
      rw [List.length_set] at hi1
      have hj1 := (List.getElem?_eq_some_iff.1 hc).1
      have hj1' : j1 < sz := by
        rcases List.mem_or_eq_of_mem_set (List.mem_of_getElem? he') with h | rfl
        · rw [← h7 e' h]; exact hj1
        · rw [splice_length hl1, hel] at hj1; exact hj1
      have hlt : i1 * sz + j1 < arr.size := by
        rw [h4]
        calc i1 * sz + j1 < i1 * sz + sz := by omega
          _ = (i1 + 1) * sz := by rw [Nat.add_mul]; omega
          _ ≤ cap * sz := Nat.mul_le_mul_right _ (by omega)
      have hval : (splice arr.toList (ii * sz + j) (a.eval x).cells.toList).toArray[i1 * sz + j1]? = some ((splice arr.toList (ii * sz + j) (a.eval x).cells.toList).toArray.getD (i1 * sz + j1) undef) := by
        rw [← hsize] at hlt
        rw [Array.getElem?_eq_getElem hlt]
        simp only [Array.getD, hlt, dite_true]
        rfl
      rw [hget] at hval
      have old : ∀ e0, es[i1]? = some e0 → e0[j1]? = some c → arr[i1 * sz + j1]? = some ((splice arr.toList (ii * sz + j) (a.eval x).cells.toList).toArray.getD (i1 * sz + j1) undef) →
          RdC (w.setRow b (splice arr.toList (ii * sz + j) (a.eval x).cells.toList).toArray) (fun k => (E.loc k).map (mvl q ks)) (q, [(i1, j1)]) c ((splice arr.toList (ii * sz + j) (a.eval x).cells.toList).toArray.getD (i1 * sz + j1) undef) := fun e0 he0 hc0 hv0 => by
        rw [h8 i1 j1 hi1 hj1'] at hv0
        rw [← Option.some.inj hv0]
        refine (h9 i1 j1 e0 c he0 hc0).relabel (q, [(i1, j1)]) k.t0 (fun b' p hb' hp => ⟨heap_setRow_ne _ _ _ _ (fun e0 => ?_), ?_⟩)
        · rw [e0, h2] at hp
          simp at hp
        · simp only [hp, Option.map_some]
          rw [mvl_out d2]
      by_cases hii : i1 = ii
      · subst hii
        rw [List.getElem?_set_self hil] at he'
        cases he'
        rw [splice_get hl1] at hc
        split at hc
        · rename_i hjj
          rw [if_pos (by omega)] at hval
          have hidx : i1 * sz + j1 - (i1 * sz + j) = j1 - j := by omega
          rw [hidx] at hval
          have hxl : j1 - j < (cellsA (getA nt s.t x)).length := by rw [← r1]; omega
          have hx' := List.getElem?_eq_getElem hxl
          obtain ⟨qq, t1, t2⟩ := r2 (j1 - j) _ c hx' hc
          refine toC_ok hR hH t1 (e2 (j1 - j) _ _ hx' hval) k.t0 (fun k' hk' b' p hb' hp => ?_)
          have hmem := t2 k' hk'
          rw [show j + (j1 - j) = j1 by omega] at hmem
          refine ⟨heap_setRow_ne _ _ _ _ (fun e0 => ?_), ?_⟩
          · rw [e0, h2] at hp
            cases hp
            exact d2 _ hmem rfl
          · simp only [hp, Option.map_some]
            rw [mvl_in d1 hmem]
            simp
        · rename_i hjj
          rw [if_neg (by omega)] at hval
          exact old e hes hc hval
      · rw [List.getElem?_set_ne (Ne.symm hii)] at he'
        have hcond : ¬ (ii * sz + j ≤ i1 * sz + j1 ∧ i1 * sz + j1 < ii * sz + j + cs.length) := by
          intro hcc
          rcases Nat.lt_or_gt_of_ne hii with hlt' | hgt'
          · have : (i1 + 1) * sz ≤ ii * sz := Nat.mul_le_mul_right _ hlt'
            rw [Nat.add_mul] at this
            omega
          · have : (ii + 1) * sz ≤ i1 * sz := Nat.mul_le_mul_right _ hgt'
            rw [Nat.add_mul] at this
            omega
        rw [if_neg hcond] at hval
        exact old e' he' hc hval
theorem good_store (hR : RelE nt I U s E a w) {t : Nat} {x y : Operand} (ho : o.op = .store t y x) {i : TI} (hi : tiOf P t = some i) (hH : ∀ o ob, H o = some ob → s.H o = some ob)
    (he : evStore H i (getA nt s.t x) (getA nt s.t y) = some (v, objs)) : Good P o a w E s.H U id v objs := by
  have hy := hR.get y
  generalize hgy : getA nt s.t y = gy at *
  generalize huy : a.eval y = uy at *
  unfold evStore at he
  split at he
  · rename_i q ii j
    split at he
    · rename_i hok
      obtain ⟨hok, hlen⟩ := hok
      obtain ⟨e1, e2, e3⟩ := okA_ok hH hok (hR.get x)
      split at he
      · rename_i ty cs hq
        have hq := hH _ _ hq
        split at he
        · rename_i hc
          obtain ⟨rfl, hfit⟩ := hc
          cases he
          obtain ⟨b, arr, us, h1, h2, h3, h4, h5, h6⟩ := hR.live q _ hq
          cases hy with
          | ptX _ _ _ _ h => rw [hq] at h; cases h
          | pt _ _ _ ob b' cap h hr =>
            rw [hq] at h
            cases h
            rw [h1] at hr
            cases hr
            have hrun := run_storeV (P := P) hi h3 (off := j) (by rw [e1, hlen]) (by omega) e3
            refine ⟨undef, w.setRow b (splice arr.toList j (a.eval x).cells.toList).toArray, _, .inr ⟨?_, rfl⟩, Fx.write (mv := []) (ob' := .box ty (splice cs j (cellsA (getA nt s.t x)))) hR hq h1 h2 trivial (fun m hm => by simp at hm) (fun c hc => ?_) (fun kp => ?_)⟩
            · simp only [Nat.zero_mul, Nat.zero_add] at huy
              simp [execOp, ho, huy, hrun]
            · unfold splice at hc
              simp only [List.append_assoc, List.mem_append] at hc
              have hmn := (hR.mnH q _ hq).2
              rcases hc with hc | hc | hc
              · exact hmn c (List.mem_of_mem_take hc)
              · exact (hR.mnGet x).cells c hc
              · exact hmn c (List.mem_of_mem_drop hc)
            · have hl1 : j + (cellsA (getA nt s.t x)).length ≤ cs.length := by omega
              have hl2 : j + (a.eval x).cells.toList.length ≤ arr.toList.length := by rw [Array.length_toList, Array.length_toList, e1]; omega
              have hget : ∀ k, (splice arr.toList j (a.eval x).cells.toList).toArray[k]? = if j ≤ k ∧ k < j + (cellsA (getA nt s.t x)).length then (a.eval x).cells[k - j]? else arr[k]? := fun k => by
                rw [List.getElem?_toArray, splice_get hl2, Array.length_toList, e1, Array.getElem?_toList, Array.getElem?_toList]
              have hmn := (hR.mnH q _ hq).2
              refine ⟨b, (splice arr.toList j (a.eval x).cells.toList).toArray, fun k => (splice arr.toList j (a.eval x).cells.toList).toArray.getD k undef, h1, by simp only [h2, Option.map_some, mvl]; rfl, setRow_at h3, by
                rw [List.size_toArray, splice_length hl2, splice_length hl1, Array.length_toList, h4], fun k hk => ?_, fun k c hk => ?_⟩
              · rw [splice_length hl1] at hk
                have : k < (splice arr.toList j (a.eval x).cells.toList).toArray.size := by rw [List.size_toArray, splice_length hl2, Array.length_toList, h4]; exact hk
                rw [Array.getElem?_eq_getElem this]
                simp only [Array.getD, this, dite_true]
                rfl
              · have hkl := (List.getElem?_eq_some_iff.1 hk).1
                rw [splice_length hl1] at hkl
                have hks : k < (splice arr.toList j (a.eval x).cells.toList).toArray.size := by rw [List.size_toArray, splice_length hl2, Array.length_toList, h4]; exact hkl
                have hval : (splice arr.toList j (a.eval x).cells.toList).toArray[k]? = some ((splice arr.toList j (a.eval x).cells.toList).toArray.getD k undef) := by
                  rw [Array.getElem?_eq_getElem hks]
                  simp only [Array.getD, hks, dite_true]
                  rfl
                rw [hget k] at hval
                rw [splice_get hl1] at hk
                split at hk
                · rename_i hkk
                  rw [if_pos hkk] at hval
                  exact (e2 _ c _ hk hval).keeps kp ((hR.mnGet x).cells c (List.mem_of_getElem? hk))
                · rename_i hkk
                  rw [if_neg hkk] at hval
                  rw [h5 k hkl] at hval
                  show RdV _ _ _ c ((splice arr.toList j (a.eval x).cells.toList).toArray.getD k undef)
                  rw [← Option.some.inj hval]
                  exact (h6 k c hk).keeps kp (hmn c (List.mem_of_getElem? hk))
        · cases he
      · rename_i ty sz es hq
        have hq := hH _ _ hq
        rw [Option.bind_eq_some_iff] at he
        obtain ⟨e, hes, he⟩ := he
        split at he
        · rename_i hfit
          split at he
          · rename_i cs ks hcs
            split at he
            · rename_i hd
              cases he
              obtain ⟨d1, d2⟩ := distinct_spec hd
              obtain ⟨r1, r2, r3⟩ := toCs_spec hcs
              have hil := (List.getElem?_eq_some_iff.1 hes).1
              rcases hR.live q _ hq with ⟨_, rfl⟩ | ⟨b, cap, arr, us, h1, h2, ⟨ty3, h3⟩, h4, h5, h6, h7, h8, h9⟩
              · simp at hes
              · cases hy with
                | ptX _ _ _ _ h => rw [hq] at h; cases h
                | pt _ _ _ ob b' cap' h hr =>
                  rw [hq] at h
                  cases h
                  rw [h1] at hr
                  cases hr
                  have hne : es = [] ↔ es.set ii (splice e j cs) = [] := by
                    constructor
                    · intro h0; rw [h0] at hes; simp at hes
                    · intro h0
                      have := congrArg List.length h0
                      simp at this
                      exact this
                  exact store_row hR ho hi hH hq ⟨rfl, hne⟩ hes hfit hcs hd hok hlen h1 h2 h3 h4 h5 h6 h7 h8 h9 huy
            · cases he
          · cases he
        · cases he
      · rename_i ty sz es i0 j0 v0 hq
        have hq := hH _ _ hq
        rw [Option.bind_eq_some_iff] at he
        obtain ⟨e, hes, he⟩ := he
        split at he
        · rename_i hfit
          obtain ⟨hfit, rfl, hj1, hj2⟩ := hfit
          split at he
          · rename_i cs ks hcs
            split at he
            · rename_i hd
              cases he
              obtain ⟨hi0, hj0, b, cap, arr, us, h1, h2, ⟨ty3, h3⟩, h4, h5, h6, h7, h8, h9, h10⟩ := hR.live q _ hq
              cases hy with
              | ptX _ _ _ _ h => rw [hq] at h; cases h
              | pt _ _ _ ob b' cap' h hr =>
                rw [hq] at h
                cases h
                rw [h1] at hr
                cases hr
                have hne : es.set ii (splice e j cs) ≠ [] := by
                  intro h0
                  have := congrArg List.length h0
                  simp at this
                  subst this
                  simp at hes
                exact store_row hR ho hi hH hq ⟨rfl, hne⟩ hes hfit hcs hd hok hlen h1 h2 h3 h4 h5 h6 h7 h8 h9 huy
            · cases he
          · cases he
        · cases he
      · cases he
    · cases he
  · cases he
end

end Go.Proofs.YtnnmpdanfeejbaaGreat.Abs

/- The abstract machine's operations hold of the model: append. -/
namespace Go.Proofs.YtnnmpdanfeejbaaGreat.Abs
open Go Go.RowKit
set_option linter.unusedVariables false
set_option linter.unusedSimpArgs false

/-- What is appended: so many elements, these cells. -/
structure Src (P : Program) (w : World) (size : Nat) (y : Value) (m : Nat) (news : List Value) : Prop where
  len : ∀ w', (Builtin.lenOf y).run P w' = .ok m w'
  first : ∀ w', w'.heap = w.heap → (Builtin.firstCells size m y).run P w' = .ok news.toArray w'

theorem notInt (du : TypeDesc) : (∀ k, du ≠ .int k) → (match du with | .int k => true | x => false) = false := by
  intro h
  cases du <;> first | rfl | exact absurd rfl (h _)

section
variable {P : Program} {w : World}

theorem run_append_genN {t u ty e : Nat} {i : TypeInfo} {z : Value} {du : TypeDesc} (ht : P.underlying t = some (.slice e)) (hu : P.underlying u = some du) (hd : ∀ k, du ≠ .int k) (hi : P.info? e = some i) (hz : i.zero = some z)
    {y : Value} {m : Nat} {news : List Value} (hy : Src P w i.size y m news) (hl : news.length = m * i.size) (h63 : m ≤ 9223372036854775807) (h48 : m * i.bytes ≤ 281474976710656) :
    (Builtin.append_ #[t, u] ty #[.slice none 0 0, y]).run P w = if m = 0 then .ok (.slice none 0 0) w else
      .ok (.slice (some ⟨w.heap.size, 0, none⟩) m (grownCap w m 0 e)) (w.drew.alloc (.cells (news.toArray ++ Builtin.zeroCells z.cells (grownCap w m 0 e - m)) e)) := by
  have hdu := notInt du hd
  by_cases h0 : m = 0
  · subst h0
    have hn : news = [] := List.eq_nil_of_length_eq_zero (by simpa using hl)
    subst hn
    rw [if_pos rfl]
    have h1 := hy.len w
    have h2 := hy.first w rfl
    simp [Builtin.append_, run_underlying ht, run_underlying hu, hdu, sizeOf, typeInfo, hi, h1, h2]
  · rw [if_neg h0]
    have h1 := hy.len w
    have h2 := hy.first w.drew rfl
    have h63' : ¬ (9223372036854775807 < (m : Int)) := by omega
    have h48' : ¬ (281474976710656 < Builtin.nextslicecap m 0 * i.bytes) := by rw [nextslicecap_zero (by omega)]; omega
    simp [Builtin.append_, run_underlying ht, run_underlying hu, hdu, sizeOf, typeInfo, zeroValue, hi, hz, h0, h63', h48', Question.forced, run_firstCells_none, h1, h2, newRow, grownCap]

theorem run_append_genR {t u ty e e3 : Nat} {i : TypeInfo} {du : TypeDesc} (ht : P.underlying t = some (.slice e)) (hu : P.underlying u = some du) (hd : ∀ k, du ≠ .int k) (hi : P.info? e = some i)
    {y : Value} {m : Nat} {news : List Value} (hy : Src P w i.size y m news) (hl : news.length = m * i.size) (h1 : ∀ u ∈ news, u.oneCell' = true) {g n cap : Nat} {cur : Array Value} (hg : w.heap[g]? = some (.cells cur e3 (0, 0)))
    (hroom : n + m ≤ cap) (hfit : n * i.size + news.length ≤ cur.size) :
    (Builtin.append_ #[t, u] ty #[.slice (some ⟨g, 0, none⟩) n cap, y]).run P w =
      .ok (.slice (some ⟨g, 0, none⟩) (n + m) cap) (w.setRow g (cur.toList.take (n * i.size) ++ news ++ cur.toList.drop (n * i.size + news.length)).toArray) := by
  have hdu := notInt du hd
  have hst := run_storeCells_at P g (n * i.size) e3 news 0 cur w hg (by simpa using hfit) h1
  simp only [Nat.add_zero] at hst
  have h2 := hy.first w rfl
  simp [Builtin.append_, run_underlying ht, run_underlying hu, hdu, sizeOf, typeInfo, hi, hy.len w, hroom, h2, Addr.add_lit, hst]

theorem run_append_genRO {t u ty e e3 : Nat} {i : TypeInfo} {du : TypeDesc} (ht : P.underlying t = some (.slice e)) (hu : P.underlying u = some du) (hd : ∀ k, du ≠ .int k) (hi : P.info? e = some i)
    {y : Value} {m : Nat} {news : List Value} (hy : Src P w i.size y m news) (hl : news.length = m * i.size) (h1 : ∀ u ∈ news, u.oneCell' = true) {g off n cap : Nat} {cur : Array Value} (hg : w.heap[g]? = some (.cells cur e3 (0, 0)))
    (hroom : n + m ≤ cap) (hfit : off + n * i.size + news.length ≤ cur.size) :
    (Builtin.append_ #[t, u] ty #[.slice (some ⟨g, off, none⟩) n cap, y]).run P w =
      .ok (.slice (some ⟨g, off, none⟩) (n + m) cap) (w.setRow g (cur.toList.take (off + n * i.size) ++ news ++ cur.toList.drop (off + n * i.size + news.length)).toArray) := by
  have hdu := notInt du hd
  have hst := run_storeCells_at P g (off + n * i.size) e3 news 0 cur w hg (by simpa using hfit) h1
  simp only [Nat.add_zero] at hst
  have h2 := hy.first w rfl
  simp [Builtin.append_, run_underlying ht, run_underlying hu, hdu, sizeOf, typeInfo, hi, hy.len w, hroom, h2, Addr.add_lit, hst]

theorem run_append_genG {t u ty e : Nat} {i : TypeInfo} {z : Value} {du : TypeDesc} (ht : P.underlying t = some (.slice e)) (hu : P.underlying u = some du) (hd : ∀ k, du ≠ .int k) (hi : P.info? e = some i) (hz : i.zero = some z)
    {y : Value} {m : Nat} {news : List Value} (hy : Src P w i.size y m news) {b : Addr} {n cap : Nat} {olds : List Value} (hlo : olds.length = n * i.size) (holds : ∀ (j : Nat) v, olds[j]? = some v → w.cell? (b.add j) = some v)
    (hg : cap < n + m) (h63 : n + m ≤ 9223372036854775807) (hfit : Builtin.nextslicecap (n + m) cap * i.bytes ≤ 281474976710656) :
    (Builtin.append_ #[t, u] ty #[.slice (some b) n cap, y]).run P w =
      .ok (.slice (some ⟨w.heap.size, 0, none⟩) (n + m) (grownCap w (n + m) cap e))
        (w.drew.alloc (.cells (olds.toArray ++ news.toArray ++ Builtin.zeroCells z.cells (grownCap w (n + m) cap e - (n + m))) e)) := by
  have hdu := notInt du hd
  have hn : ¬ (n + m ≤ cap) := by omega
  have h63' : ¬ (9223372036854775807 < ((n : Int) + (m : Int))) := by omega
  have h48' : ¬ (281474976710656 < Builtin.nextslicecap (n + m) cap * i.bytes) := by omega
  have h2 := hy.first w.drew rfl
  have hfo := run_firstCells_some (P := P) w.drew i.size n b n cap olds hlo (by simpa using holds)
  simp [Builtin.append_, run_underlying ht, run_underlying hu, hdu, sizeOf, typeInfo, zeroValue, hi, hz, hy.len w, hn, h63', h48', Question.forced, h2, hfo, newRow, grownCap]
  congr 2
  apply Array.ext'
  simp [List.append_assoc]
end

section
variable {P : Program} {nt : Nat} {I : Ini} {U : Nat → Prop} {s : ASt} {E : Env} {a : Act} {w : World} {o : Oper} {id : Nat} {v : AV} {objs : List (Nat × Option Ob)} {H : Hp}

/-- A new object, made of memory that is new or that used-up objects held. -/
theorem Fx.move (hR : RelE nt I U s E a w) (hid : ¬ U id) {w' : World} {E' : Env} {g : Loc → Loc} {mv : List (Nat × Nat × Nat)} {ob : Ob} (hrho : ∀ k, k ≠ id → E'.rho k = E.rho k)
    (hloc : ∀ k, k < w.heap.size → E'.loc k = (E.loc k).map g) (hlocN : ∀ k ℓ, w.heap.size ≤ k → E'.loc k = some ℓ → k < w'.heap.size)
    (hw : Evo (fun k => ∃ m ∈ mv, E.loc k = some (m.1, [])) w w')
    (hg1 : ∀ k p, (∀ m ∈ mv, m.1 ≠ k) → g (k, p) = (k, p)) (hg2 : ∀ k p o, g (k, p) = (o, []) → p = []) (hmv : ∀ m ∈ mv, ∃ x, s.H m.1 = some x)
    (hl : Keeps U w w' E E' s.H (updL s.H ((id, some ob) :: gone mv)) → LiveOb w' E' (updL s.H ((id, some ob) :: gone mv)) id ob) (hmn : MnOb (fun o => U o ∨ o = id) ob)
    {u : Value} (hv : RdV w' E' (updL s.H ((id, some ob) :: gone mv)) v u) (hm : Mn (fun o => U o ∨ o = id) v) :
    Fx w E s.H U id v ((id, some ob) :: gone mv) u w' E' := by
  have hmi : ∀ m ∈ mv, m.1 ≠ id := fun m hm e => by
    obtain ⟨x, hx⟩ := hmv m hm
    exact hid (e ▸ (hR.mnH _ _ hx).1)
  have kp : Keeps U w w' E E' s.H (updL s.H ((id, some ob) :: gone mv)) := by
    refine ⟨fun b hb h0 => ⟨hw.old hb (by rintro ⟨m, _, h⟩; rw [h0] at h; cases h), by rw [hloc b hb, h0]; rfl⟩, fun b hb h1 => ⟨hw.old hb (by rintro ⟨m, _, h⟩; exact h1 _ h), fun o' ho' => ?_⟩, fun k hk => ?_⟩
    · rw [hloc b hb, Option.map_eq_some_iff] at ho'
      obtain ⟨⟨k, p⟩, hk, hg⟩ := ho'
      have := hg2 k p o' hg
      subst this
      exact h1 k hk
    · have hki : k ≠ id := fun e => hid (e ▸ hk)
      by_cases hm : ∃ m ∈ mv, m.1 = k
      · exact .inl (updL_old hm)
      · have : updL s.H ((id, some ob) :: gone mv) k = s.H k := by
          show updL (upd s.H id (some ob)) (gone mv) k = _
          rw [updL_out (fun y hy => by obtain ⟨m', hm', rfl⟩ := mem_gone hy; exact fun e => hm ⟨m', hm', e⟩), upd_ne _ _ hki]
        rw [this]
        cases hh : s.H k with
        | none => exact .inl rfl
        | some ob => exact .inr ⟨hrho k hki, ob, ob, rfl, rfl, Ob.like.refl ob⟩
  constructor
  · exact ⟨hw.os, hw.tape, hw.output, hw.size, fun i hi hn => hw.block i hi (by rintro ⟨m, _, h⟩; exact hn (by rw [h]; simp))⟩
  · exact fun b hb h0 => (kp.t0 b hb h0).2
  · exact kp.t1
  · intro q hq
    have hqi : q ≠ id := fun e => hq (id, some ob) (List.mem_cons_self ..) e.symm
    have hqm : ∀ m ∈ mv, m.1 ≠ q := fun m hm e => hq (m.1, none) (List.mem_cons_of_mem _ (List.mem_map.2 ⟨m, hm, rfl⟩)) e
    refine ⟨hrho q hqi, fun b p hb hp => ⟨hw.old hb (by rintro ⟨m, hm, h⟩; rw [hp] at h; cases h; exact hqm m hm rfl), ?_⟩⟩
    rw [hloc b hb, hp, Option.map_some, hg1 q p hqm]
  · intro x hx
    rcases List.mem_cons.1 hx with rfl | hx
    · exact .inl rfl
    · obtain ⟨m, hm, rfl⟩ := mem_gone hx
      obtain ⟨y, hy⟩ := hmv m hm
      exact .inr ⟨y, hy, .inl (updL_old ⟨m, hm, rfl⟩)⟩
  · intro x hx ob' hob
    rcases List.mem_cons.1 hx with rfl | hx
    · rw [updL_new hmi] at hob
      cases hob
      exact ⟨hl kp, hmn⟩
    · obtain ⟨m, hm, rfl⟩ := mem_gone hx
      rw [updL_old ⟨m, hm, rfl⟩] at hob
      cases hob
  · intro b ℓ hb
    by_cases hbs : b < w.heap.size
    · rw [hloc b hbs, Option.map_eq_some_iff] at hb
      obtain ⟨ℓ0, h0, _⟩ := hb
      exact ⟨Nat.lt_of_lt_of_le hbs hw.size, .inr (by rw [h0]; simp)⟩
    · exact ⟨hlocN b ℓ (by omega) hb, .inl (by omega)⟩
  · exact hv
  · exact hm

/-- The cells of what is appended, and how they stand once they lie in the new row. -/
def SrcOk (P : Program) (w : World) (E : Env) (esz : Nat) (new : List (List CV)) (q : Option Nat) (u : Value) : Prop :=
  ∃ news : List Value, Src P w esz u new.length news ∧ news.length = new.length * esz ∧ (∀ y ∈ news, y.oneCell' = true) ∧
    ∀ (i j : Nat) e c y, new[i]? = some e → e[j]? = some c → news[i * esz + j]? = some y → ∀ (w' : World) (loc' : Nat → Option Loc) (ℓ : Loc),
      (∀ b, b < w.heap.size → E.loc b = none → w'.heap[b]? = w.heap[b]? ∧ loc' b = none) →
      (∀ k, q = some k → ∀ b p, b < w.heap.size → E.loc b = some (k, (i, j) :: p) → w'.heap[b]? = w.heap[b]? ∧ loc' b = some (ℓ.1, ℓ.2 ++ p)) → RdC w' loc' ℓ c y

theorem Src.nil (P : Program) (w : World) (size : Nat) (ad : Option Addr) (cap : Nat) : Src P w size (.slice ad 0 cap) 0 [] := by
  refine ⟨fun w' => rfl, fun w' _ => ?_⟩
  cases ad <;> simp [Builtin.firstCells, loadCells, loadCellsFrom]

/-- A row of memory is appended. -/
theorem Src.row {size : Nat} (hsz : 0 < size) {b off n cap : Nat} {us : Nat → Nat → Value} (hc : ∀ i j, i < n → j < size → w.cell? ⟨b, off + (i * size + j), none⟩ = some (us i j)) :
    Src P w size (.slice (some ⟨b, off, none⟩) n cap) n ((List.range (n * size)).map fun k => us (k / size) (k % size)) := by
  refine ⟨fun w' => rfl, fun w' hw' => ?_⟩
  refine run_firstCells_some (P := P) w' size n ⟨b, off, none⟩ n cap _ (by simp) (fun k v hk => ?_)
  rw [List.getElem?_map, Option.map_eq_some_iff] at hk
  obtain ⟨k', hk', rfl⟩ := hk
  obtain ⟨h1, h2⟩ := List.getElem?_eq_some_iff.1 hk'
  rw [List.getElem_range] at h2
  subst h2
  have h3 : k < n * size := by simpa using h1
  have h4 := hc (k / size) (k % size) ((Nat.div_lt_iff_lt_mul hsz).2 h3) (Nat.mod_lt _ hsz)
  rw [Nat.mul_comm (k / size) size, Nat.div_add_mod] at h4
  rw [Addr.add_lit]
  unfold World.cell? at h4 ⊢
  rw [hw']
  exact h4
theorem rowNews_at {n size : Nat} {us : Nat → Nat → Value} (hsz : 0 < size) {i j : Nat} (hi : i < n) (hj : j < size) : ((List.range (n * size)).map fun k => us (k / size) (k % size))[i * size + j]? = some (us i j) := by
  have h : i * size + j < n * size := by
    calc i * size + j < i * size + size := by omega
      _ = (i + 1) * size := by rw [Nat.add_mul]; omega
      _ ≤ n * size := Nat.mul_le_mul_right _ hi
  rw [List.getElem?_map, List.getElem?_range h, Option.map_some]
  congr 1
  have h1 : (i * size + j) / size = i := by
    rw [Nat.add_comm, Nat.add_mul_div_right _ _ hsz, Nat.div_eq_of_lt hj, Nat.zero_add]
  have h2 : (i * size + j) % size = j := by
    rw [Nat.add_comm, Nat.add_mul_mod_self_right, Nat.mod_eq_of_lt hj]
  rw [h1, h2]

theorem srcOk_row {esz : Nat} (hsz : 0 < esz) {T : Nat → Prop} {k : Bool} {es new : List (List CV)} {u : Value} (h : RdR w T (.row k es) u) (hlen : new.length = es.length) (hes : ∀ e ∈ es, e.length = esz) {q : Option Nat}
    (hrd : ∀ (i j : Nat) e c c' y, es[i]? = some e → e[j]? = some c → (∃ e', new[i]? = some e' ∧ e'[j]? = some c') → RdR w T c y → ∀ (w' : World) (loc' : Nat → Option Loc) (ℓ : Loc),
      (∀ b, b < w.heap.size → E.loc b = none → w'.heap[b]? = w.heap[b]? ∧ loc' b = none) → RdC w' loc' ℓ c' y) (hnew : ∀ (i : Nat) e e', es[i]? = some e → new[i]? = some e' → e'.length = e.length) : SrcOk P w E esz new q u := by
  cases h with
  | nil _ ad cap _ =>
    have : new = [] := List.eq_nil_of_length_eq_zero (by simpa using hlen)
    subst this
    exact ⟨[], Src.nil P w esz ad cap, by simp, fun y hy => by simp at hy, fun i j e c y he => by simp at he⟩
  | row _ b off sz cap _ arr ty fz us hT hb hs hm hc _ hu hr =>
    by_cases h0 : es = []
    · subst h0
      have : new = [] := List.eq_nil_of_length_eq_zero (by simpa using hlen)
      subst this
      exact ⟨[], Src.nil P w esz _ cap, by simp, fun y hy => by simp at hy, fun i j e c y he => by simp at he⟩
    · have hszz : sz = esz := by
        obtain ⟨e, r, rfl⟩ := List.exists_cons_of_ne_nil h0
        rw [← hs e (List.mem_cons_self ..), hes e (List.mem_cons_self ..)]
      subst hszz
      have hcell : ∀ i j, i < es.length → j < sz → w.cell? ⟨b, off + (i * sz + j), none⟩ = some (us i j) := fun i j hi hj => by rw [cell_at hb]; exact hu i j hi hj
      refine ⟨(List.range (es.length * sz)).map fun k => us (k / sz) (k % sz), by rw [hlen]; exact Src.row hsz hcell, by simp [hlen], fun y hy => ?_, fun i j e c y he hc' hy w' loc' ℓ h0 _ => ?_⟩
      · rw [List.mem_map] at hy
        obtain ⟨k, hk, rfl⟩ := hy
        have hk' := List.mem_range.1 hk
        have hi : k / sz < es.length := (Nat.div_lt_iff_lt_mul hsz).2 hk'
        have hj : k % sz < (es[k / sz]).length := by rw [hs _ (List.getElem_mem hi)]; exact Nat.mod_lt _ hsz
        exact (hr (k / sz) (k % sz) _ _ (List.getElem?_eq_getElem hi) (List.getElem?_eq_getElem hj)).one
      · have hi : i < es.length := hlen ▸ (List.getElem?_eq_some_iff.1 he).1
        have he0 := List.getElem?_eq_getElem hi
        have hel := hnew i _ e he0 he
        have hj : j < sz := by
          have := (List.getElem?_eq_some_iff.1 hc').1
          rw [hel, hs _ (List.getElem_mem hi)] at this
          exact this
        have hjl : j < (es[i]).length := by rw [hs _ (List.getElem_mem hi)]; exact hj
        rw [rowNews_at hsz hi hj] at hy
        cases hy
        exact hrd i j _ _ c _ he0 (List.getElem?_eq_getElem hjl) ⟨e, he, hc'⟩ (hr i j _ _ he0 (List.getElem?_eq_getElem hjl)) w' loc' ℓ h0

theorem evSrc_ok (hR : RelE nt I U s E a w) (hH : ∀ o ob, H o = some ob → s.H o = some ob) {esz : Nat} (hsz : 0 < esz) {y : AV} {new : List (List CV)} {q : Option Nat} (he : evSrc H y = some (new, q)) (hlen : ∀ c ∈ new, c.length = esz) {u : Value} (h : RdV w E s.H y u) :
    SrcOk P w E esz new q u ∧ ∀ k, q = some k → ∃ ty sz es, H k = some (.rw ty sz es) := by
  unfold evSrc at he
  split at he
  · rename_i k es
    cases he
    refine ⟨?_, fun k hk => by cases hk⟩
    cases h with
    | c _ _ h =>
      refine srcOk_row hsz h (by simp) (fun e he => ?_) (fun i j e c c' y he hc hcc hy w' loc' ℓ h0 => ?_) (fun i e e' he he' => ?_)
      · have := hlen (e.map CV.im) (List.mem_map.2 ⟨e, he, rfl⟩)
        simpa using this
      · obtain ⟨e', he', hc'⟩ := hcc
        rw [List.getElem?_map, he] at he'
        cases he'
        rw [List.getElem?_map, hc] at hc'
        cases hc'
        exact .im _ _ _ (hy.im.mono h0) (CV.im_im _)
      · rw [List.getElem?_map, he] at he'
        cases he'
        simp
  · rename_i k es
    split at he
    · rename_i hv
      cases he
      refine ⟨?_, fun k hk => by cases hk⟩
      cases h with
      | bw _ _ h =>
        refine srcOk_row hsz h rfl hlen (fun i j e c c' y he hc hcc hy w' loc' ℓ h0 => ?_) (fun i e e' he he' => by rw [he] at he'; cases he'; rfl)
        obtain ⟨e', he', hc'⟩ := hcc
        rw [he] at he'
        cases he'
        rw [hc] at hc'
        cases hc'
        have h1 := List.all_eq_true.1 (List.all_eq_true.1 hv e (List.mem_of_getElem? he)) c (List.mem_of_getElem? hc)
        cases c <;> simp [CV.isV] at h1
        cases hy with
        | v _ hy => exact .im _ _ _ (.v _ hy) rfl
    · cases he
  · cases he
    refine ⟨?_, fun k hk => by cases hk⟩
    cases h
    exact ⟨[], Src.nil P w esz none 0, by simp, fun y hy => by simp at hy, fun i j e c y he => by simp at he⟩
  · rename_i b
    cases he
    refine ⟨?_, fun k hk => by cases hk⟩
    cases h with
    | c _ _ h =>
      cases h
      have h1 : b.data.toList = [] ∨ esz = 1 := by
        cases hb : b.data.toList with
        | nil => exact .inl rfl
        | cons x r => exact .inr (by have := hlen [.v (.int .u8 x.toNat)] (by rw [hb]; exact List.mem_cons_self ..); simpa using this.symm)
      have hl : (b.data.toList.map fun u => [CV.v (.int .u8 u.toNat)]).length = b.size := by simp
      refine ⟨(b.data.map fun u => Value.int .u8 u.toNat).toList, ⟨fun w' => by rw [hl]; rfl, fun w' _ => ?_⟩, ?_, fun y hy => ?_, fun i j e c y he hc hy w' loc' ℓ h0 _ => ?_⟩
      · rw [hl]
        have : b.extract 0 b.size = b := ByteArray.extract_zero_size
        simp [Builtin.firstCells, this]
        rw [← Array.toList_map, Array.toArray_toList]
      · rcases h1 with h1 | rfl
        · have : b.size = 0 := by
            have := congrArg List.length h1
            simpa using this
          simp [this]
        · simp
      · simp at hy
        obtain ⟨u, _, rfl⟩ := hy
        rfl
      · rw [List.getElem?_map, Option.map_eq_some_iff] at he
        obtain ⟨u, hu, rfl⟩ := he
        cases j with
        | succ j => simp at hc
        | zero =>
          cases hc
          have hesz : esz = 1 := h1.resolve_left (by intro h; rw [h] at hu; simp at hu)
          subst hesz
          have : y = .int .u8 u.toNat := by
            rw [Nat.mul_one, Nat.add_zero] at hy
            rw [Array.toList_map, List.getElem?_map, hu] at hy
            exact (Option.some.inj hy).symm
          subst this
          exact .im _ _ _ (.v _ rfl) rfl
  · rename_i k n
    split at he
    · rename_i ty sz es hk
      split at he
      · rename_i hn
        have hk' := hH _ _ hk
        have key : ∀ q', (allV es = true ∨ q' = some k) → (∀ c ∈ es, c.length = esz) → SrcOk P w E esz es q' u := by
          intro q' hq' hlen
          cases h with
          | slX _ _ _ h => rw [hk'] at h; cases h
          | slO _ _ _ _ _ _ _ _ _ _ h => rw [hk'] at h; cases h
          | sl _ _ ty' sz' es' b cap h hr =>
            rw [hk'] at h
            cases h
            subst hn
            rcases hR.live k _ hk' with ⟨h1, _⟩ | ⟨b', cap', arr, us, h1, h2, ⟨ty3, h3⟩, h4, h5, h6, h7, h8, h9⟩
            · rw [h1] at hr; cases hr
            · rw [h1] at hr
              cases hr
              by_cases h0 : es = []
              · subst h0
                exact ⟨[], Src.nil P w esz _ cap, by simp, fun y hy => by simp at hy, fun i j e c y he => by simp at he⟩
              · have hszz : sz = esz := by
                  obtain ⟨e, r, rfl⟩ := List.exists_cons_of_ne_nil h0
                  rw [← h7 e (List.mem_cons_self ..), hlen e (List.mem_cons_self ..)]
                subst hszz
                have hcell : ∀ i j, i < es.length → j < sz → w.cell? ⟨b, 0 + (i * sz + j), none⟩ = some (us i j) := fun i j hi hj => by rw [cell_at h3, Nat.zero_add]; exact h8 i j hi hj
                refine ⟨_, Src.row hsz hcell, by simp, fun y hy => ?_, fun i j e c y he hc hy w' loc' ℓ h0 hq => ?_⟩
                · rw [List.mem_map] at hy
                  obtain ⟨k', hk1, rfl⟩ := hy
                  have hk2 := List.mem_range.1 hk1
                  have hi : k' / sz < es.length := (Nat.div_lt_iff_lt_mul hsz).2 hk2
                  have hj : k' % sz < (es[k' / sz]).length := by rw [h7 _ (List.getElem_mem hi)]; exact Nat.mod_lt _ hsz
                  exact (h9 (k' / sz) (k' % sz) _ _ (List.getElem?_eq_getElem hi) (List.getElem?_eq_getElem hj)).one
                · have hi := (List.getElem?_eq_some_iff.1 he).1
                  have hj : j < sz := by
                    have := (List.getElem?_eq_some_iff.1 hc).1
                    rw [h7 e (List.mem_of_getElem? he)] at this
                    exact this
                  rw [rowNews_at hsz hi hj] at hy
                  cases hy
                  have hcc := h9 i j e c he hc
                  rcases hq' with hv | hq'
                  · have h1 := List.all_eq_true.1 (List.all_eq_true.1 hv e (List.mem_of_getElem? he)) c (List.mem_of_getElem? hc)
                    cases c <;> simp [CV.isV] at h1
                    have hone := hcc.one
                    rw [hcc.plain] at hone ⊢
                    exact .im _ _ _ (.v _ hone) rfl
                  · exact hcc.relabel ℓ h0 (fun b' p hb' hp => hq k hq' b' p hb' hp)
          | slN _ ty' sz' h hr =>
            rw [hk'] at h
            cases h
            exact ⟨[], Src.nil P w esz none 0, by simp, fun y hy => by simp at hy, fun i j e c y he => by simp at he⟩
        split at he
        · rename_i hv
          cases he
          exact ⟨key none (.inl hv) hlen, fun k hk => by cases hk⟩
        · cases he
          exact ⟨key (some k) (.inr rfl) hlen, fun k' hk' => by cases hk'; exact ⟨ty, sz, _, hk⟩⟩
      · cases he
    · cases he
  · cases he
end

section
variable {P : Program} {w : World}
/-- What is appended: elements, or so many noughts. -/
def SrcU (P : Program) (w : World) (u : Nat) (i : TypeInfo) (z : Value) (y : Value) (m : Nat) (news : List Value) : Prop :=
  (∃ du, P.underlying u = some du ∧ (∀ k, du ≠ .int k) ∧ Src P w i.size y m news) ∨
  (∃ k, P.underlying u = some (.int k) ∧ y = .int .i64 (m : Int) ∧ m * i.bytes ≤ 140737488355328 ∧ m ≤ 140737488355328 ∧ news = (Builtin.zeroCells z.cells m).toList ∧ 0 < i.size)
theorem asInt_run (k : IntKind) (n : Int) : (asInt (.int k n)).run P w = .ok n w := by simp [asInt, asIntOf]
theorem wrap_nat {m : Nat} (h : m ≤ 140737488355328) : IntKind.i64.wrap (m : Int) = (m : Int) := by
  simp [IntKind.wrap, IntKind.bits, IntKind.signed]; omega
theorem wrap_0 : IntKind.i64.wrap 0 = 0 := by decide
theorem srcU_N {t u ty e : Nat} {i : TypeInfo} {z : Value} (ht : P.underlying t = some (.slice e)) (hi : P.info? e = some i) (hz : i.zero = some z)
    {y : Value} {m : Nat} {news : List Value} (hy : SrcU P w u i z y m news) (hl : news.length = m * i.size) (h63 : m ≤ 9223372036854775807) (h48 : m * i.bytes ≤ 281474976710656) :
    (Builtin.append_ #[t, u] ty #[.slice none 0 0, y]).run P w = if m = 0 then .ok (.slice none 0 0) w else
      .ok (.slice (some ⟨w.heap.size, 0, none⟩) m (grownCap w m 0 e)) (w.drew.alloc (.cells (news.toArray ++ Builtin.zeroCells z.cells (grownCap w m 0 e - m)) e)) := by
  rcases hy with ⟨du, hu, hd, hy⟩ | ⟨k, hu, rfl, hb, hm, rfl, hs⟩
  · exact run_append_genN ht hu hd hi hz hy hl h63 h48
  have hw := wrap_nat hm
  have hb' : ¬ (281474976710656 < (m : Int) * i.bytes) := by
    have : ((m * i.bytes : Nat) : Int) ≤ 140737488355328 := by omega
    rw [Int.natCast_mul] at this; omega
  by_cases h0 : m = 0
  · subst h0
    simp [Builtin.append_, run_underlying ht, run_underlying hu, sizeOf, typeInfo, hi, asInt_run, wrap_0, hw]
  · rw [if_neg h0]
    have hn : ¬ ((m : Int) < 0) := by omega
    have h63' : ¬ (9223372036854775807 < (m : Int)) := by omega
    have h48' : ¬ (281474976710656 < Builtin.nextslicecap m 0 * i.bytes) := by rw [nextslicecap_zero (by omega)]; omega
    have hms : ¬ (m * i.size = 0) := by have := Nat.mul_pos (Nat.pos_of_ne_zero h0) hs; omega
    simp [Builtin.append_, run_underlying ht, run_underlying hu, sizeOf, typeInfo, zeroValue, hi, hz, h0, hn, h63', h48', hw, hb', hms, Question.forced, run_firstCells_none, newRow, grownCap, asInt_run]
theorem srcU_R {t u ty e e3 : Nat} {i : TypeInfo} {z : Value} (ht : P.underlying t = some (.slice e)) (hi : P.info? e = some i) (hz : i.zero = some z)
    {y : Value} {m : Nat} {news : List Value} (hy : SrcU P w u i z y m news) (hl : news.length = m * i.size) (h1 : ∀ u ∈ news, u.oneCell' = true) {g n cap : Nat} {cur : Array Value} (hg : w.heap[g]? = some (.cells cur e3 (0, 0)))
    (hroom : n + m ≤ cap) (hfit : n * i.size + news.length ≤ cur.size) :
    (Builtin.append_ #[t, u] ty #[.slice (some ⟨g, 0, none⟩) n cap, y]).run P w =
      .ok (.slice (some ⟨g, 0, none⟩) (n + m) cap) (w.setRow g (cur.toList.take (n * i.size) ++ news ++ cur.toList.drop (n * i.size + news.length)).toArray) := by
  rcases hy with ⟨du, hu, hd, hy⟩ | ⟨k, hu, rfl, hb, hm, rfl, hs⟩
  · exact run_append_genR ht hu hd hi hy hl h1 hg hroom hfit
  have hw := wrap_nat hm
  have hb' : ¬ (281474976710656 < (m : Int) * i.bytes) := by
    have : ((m * i.bytes : Nat) : Int) ≤ 140737488355328 := by omega
    rw [Int.natCast_mul] at this; omega
  have hn : ¬ ((m : Int) < 0) := by omega
  generalize hZ : (Builtin.zeroCells z.cells m).toList = news at *
  have hst := run_storeCells_at P g (n * i.size) e3 news 0 cur w hg (by simpa using hfit) h1
  simp only [Nat.add_zero] at hst
  by_cases h0 : m = 0
  · subst h0
    have hn0 : news = [] := List.eq_nil_of_length_eq_zero (by simpa using hl)
    subst hn0
    have hroom' : n ≤ cap := hroom
    simp [Builtin.append_, run_underlying ht, run_underlying hu, sizeOf, typeInfo, hi, hz, asInt_run, wrap_0, hw, hroom', Addr.add_lit, hst]
  · have hms : ¬ (m * i.size = 0) := by have := Nat.mul_pos (Nat.pos_of_ne_zero h0) hs; omega
    simp [Builtin.append_, run_underlying ht, run_underlying hu, sizeOf, typeInfo, zeroValue, hi, hz, asInt_run, wrap_0, hw, hb', hn, hms, hroom, hZ, Addr.add_lit, hst]
theorem srcU_RO {t u ty e e3 : Nat} {i : TypeInfo} {z : Value} (ht : P.underlying t = some (.slice e)) (hi : P.info? e = some i) (hz : i.zero = some z)
    {y : Value} {m : Nat} {news : List Value} (hy : SrcU P w u i z y m news) (hl : news.length = m * i.size) (h1 : ∀ u ∈ news, u.oneCell' = true) {g off n cap : Nat} {cur : Array Value} (hg : w.heap[g]? = some (.cells cur e3 (0, 0)))
    (hroom : n + m ≤ cap) (hfit : off + n * i.size + news.length ≤ cur.size) :
    (Builtin.append_ #[t, u] ty #[.slice (some ⟨g, off, none⟩) n cap, y]).run P w =
      .ok (.slice (some ⟨g, off, none⟩) (n + m) cap) (w.setRow g (cur.toList.take (off + n * i.size) ++ news ++ cur.toList.drop (off + n * i.size + news.length)).toArray) := by
  rcases hy with ⟨du, hu, hd, hy⟩ | ⟨k, hu, rfl, hb, hm, rfl, hs⟩
  · exact run_append_genRO ht hu hd hi hy hl h1 hg hroom hfit
  have hw := wrap_nat hm
  have hb' : ¬ (281474976710656 < (m : Int) * i.bytes) := by
    have : ((m * i.bytes : Nat) : Int) ≤ 140737488355328 := by omega
    rw [Int.natCast_mul] at this; omega
  have hn : ¬ ((m : Int) < 0) := by omega
  generalize hZ : (Builtin.zeroCells z.cells m).toList = news at *
  have hst := run_storeCells_at P g (off + n * i.size) e3 news 0 cur w hg (by simpa using hfit) h1
  simp only [Nat.add_zero] at hst
  by_cases h0 : m = 0
  · subst h0
    have hn0 : news = [] := List.eq_nil_of_length_eq_zero (by simpa using hl)
    subst hn0
    have hroom' : n ≤ cap := hroom
    simp [Builtin.append_, run_underlying ht, run_underlying hu, sizeOf, typeInfo, hi, hz, asInt_run, wrap_0, hw, hroom', Addr.add_lit, hst]
  · have hms : ¬ (m * i.size = 0) := by have := Nat.mul_pos (Nat.pos_of_ne_zero h0) hs; omega
    simp [Builtin.append_, run_underlying ht, run_underlying hu, sizeOf, typeInfo, zeroValue, hi, hz, asInt_run, wrap_0, hw, hb', hn, hms, hroom, hZ, Addr.add_lit, hst]
theorem srcU_G {t u ty e : Nat} {i : TypeInfo} {z : Value} (ht : P.underlying t = some (.slice e)) (hi : P.info? e = some i) (hz : i.zero = some z)
    {y : Value} {m : Nat} {news : List Value} (hy : SrcU P w u i z y m news) {b : Addr} {n cap : Nat} {olds : List Value} (hlo : olds.length = n * i.size) (holds : ∀ (j : Nat) v, olds[j]? = some v → w.cell? (b.add j) = some v)
    (hg : cap < n + m) (h63 : n + m ≤ 9223372036854775807) (hfit : Builtin.nextslicecap (n + m) cap * i.bytes ≤ 281474976710656) :
    (Builtin.append_ #[t, u] ty #[.slice (some b) n cap, y]).run P w =
      .ok (.slice (some ⟨w.heap.size, 0, none⟩) (n + m) (grownCap w (n + m) cap e))
        (w.drew.alloc (.cells (olds.toArray ++ news.toArray ++ Builtin.zeroCells z.cells (grownCap w (n + m) cap e - (n + m))) e)) := by
  rcases hy with ⟨du, hu, hd, hy⟩ | ⟨k, hu, rfl, hb, hm, rfl, hs⟩
  · exact run_append_genG ht hu hd hi hz hy hlo holds hg h63 hfit
  have hw := wrap_nat hm
  have hb' : ¬ (281474976710656 < (m : Int) * i.bytes) := by
    have : ((m * i.bytes : Nat) : Int) ≤ 140737488355328 := by omega
    rw [Int.natCast_mul] at this; omega
  have hn : ¬ ((m : Int) < 0) := by omega
  have hc : ¬ (n + m ≤ cap) := by omega
  have h63' : ¬ (9223372036854775807 < ((n : Int) + (m : Int))) := by omega
  have h48' : ¬ (281474976710656 < Builtin.nextslicecap (n + m) cap * i.bytes) := by omega
  have hfo := run_firstCells_some (P := P) w.drew i.size n b n cap olds hlo (by simpa using holds)
  by_cases h0 : m = 0
  · subst h0
    have hc0 : ¬ (n ≤ cap) := hc
    have h63'' : ¬ (9223372036854775807 < (n : Int)) := by omega
    have h48'' : ¬ (281474976710656 < Builtin.nextslicecap n cap * i.bytes) := h48'
    have hz0 : Builtin.zeroCells z.cells 0 = #[] := by simp [Builtin.zeroCells]
    simp [Builtin.append_, run_underlying ht, run_underlying hu, sizeOf, typeInfo, zeroValue, hi, hz, asInt_run, wrap_0, hw, hc0, h63'', h48'', hz0, Question.forced, hfo, newRow, grownCap]
  · have hms : ¬ (m * i.size = 0) := by have := Nat.mul_pos (Nat.pos_of_ne_zero h0) hs; omega
    simp [Builtin.append_, run_underlying ht, run_underlying hu, sizeOf, typeInfo, zeroValue, hi, hz, asInt_run, wrap_0, hw, hb', hn, hms, hc, h63', h48', Question.forced, hfo, newRow, grownCap]
end
section
variable {P : Program} {nt : Nat} {I : Ini} {U : Nat → Prop} {s : ASt} {E : Env} {a : Act} {w : World} {H : Hp}
def SrcOkU (P : Program) (w : World) (E : Env) (un : Nat) (ie : TypeInfo) (zv : Value) (new : List (List CV)) (q : Option Nat) (u : Value) : Prop :=
  ∃ news : List Value, SrcU P w un ie zv u new.length news ∧ news.length = new.length * ie.size ∧ (∀ y ∈ news, y.oneCell' = true) ∧
    ∀ (i j : Nat) e c y, new[i]? = some e → e[j]? = some c → news[i * ie.size + j]? = some y → ∀ (w' : World) (loc' : Nat → Option Loc) (ℓ : Loc),
      (∀ b, b < w.heap.size → E.loc b = none → w'.heap[b]? = w.heap[b]? ∧ loc' b = none) →
      (∀ k, q = some k → ∀ b p, b < w.heap.size → E.loc b = some (k, (i, j) :: p) → w'.heap[b]? = w.heap[b]? ∧ loc' b = some (ℓ.1, ℓ.2 ++ p)) → RdC w' loc' ℓ c y
theorem srcP_ok (hR : RelE nt I U s E a w) (hH : ∀ o ob, H o = some ob → s.H o = some ob) {un e : Nat} {j z : TI} (hj : tiOf P un = some j) (hz : tiOf P e = some z) {ie : TypeInfo} (hie : P.info? e = some ie) {zv : Value} (hzv : ie.zero = some zv) (hpos : 0 < ie.size) (hzs : zv.cells.size = ie.size)
    {y : AV} {new : List (List CV)} {q : Option Nat} (he : srcP H j z y = some (new, q)) (hlen : ∀ c ∈ new, c.length = ie.size) (hb : new.length * ie.bytes ≤ 140737488355328) {u : Value} (h : RdV w E s.H y u) :
    SrcOkU P w E un ie zv new q u ∧ ∀ k, q = some k → ∃ ty sz es, H k = some (.rw ty sz es) := by
  obtain ⟨info', du, q1, q2, -, -, -, -, -, q3, -⟩ := tiOf_spec hj
  obtain ⟨info, d, g1, g2, -, -, -, -, g3, g4, -⟩ := tiOf_spec hz
  rw [hie] at g1
  cases g1
  unfold srcP at he
  split at he
  · rename_i hp
    obtain ⟨⟨news, n1, n2, n3, n4⟩, n5⟩ := evSrc_ok (P := P) hR hH hpos he hlen h
    refine ⟨⟨news, .inl ⟨du, q2, fun k hk => ?_, n1⟩, n2, n3, n4⟩, n5⟩
    subst hk
    rw [hp] at q3
    cases q3
  · rename_i k hp
    split at he
    · rename_i kz m0 n hzp
      rw [Option.ite_none_right_eq_some] at he
      obtain ⟨⟨hn0, hn1⟩, he⟩ := he
      cases he
      refine ⟨?_, fun k hk => by cases hk⟩
      obtain ⟨m, rfl⟩ : ∃ m : Nat, n = m := ⟨n.toNat, by omega⟩
      rw [Int.toNat_natCast] at hlen hb ⊢
      obtain ⟨ku, hku⟩ : ∃ ku, du = .int ku := by
        rw [hp] at q3
        cases du <;> simp at q3
        exact ⟨_, rfl⟩
      subst hku
      rw [hzv, hzp] at g3
      simp only at g3
      have hc : zv.cells = #[.int kz m0] := by rw [← Array.toList_inj, ← g3]
      have h1 : ie.size = 1 := by rw [← hzs, hc]; rfl
      have hZ : (Builtin.zeroCells zv.cells m).toList = List.replicate m (.int kz m0) := by
        rw [hc]
        apply List.ext_getElem
        · simp [Builtin.zeroCells]
        · intro n h2 h3; simp [Builtin.zeroCells, Nat.mod_one]
      cases h with
      | c _ _ h =>
        cases h
        unfold SrcOkU
        rw [List.length_replicate] at hb ⊢
        refine ⟨List.replicate m (.int kz m0), .inr ⟨ku, q2, rfl, hb, by omega, hZ.symm, hpos⟩, by simp [h1], fun y hy => ?_, fun i j e c y he hc' hy w' loc' ℓ h0 hq => ?_⟩
        · rw [List.eq_of_mem_replicate hy]; rfl
        · have he' := List.eq_of_mem_replicate (List.mem_of_getElem? he)
          subst he'
          have hy' := List.eq_of_mem_replicate (List.mem_of_getElem? hy)
          subst hy'
          have := List.mem_singleton.1 (List.mem_of_getElem? hc')
          subst this
          exact .im _ _ _ (.v _ rfl) rfl
    · cases he
end
end Go.Proofs.YtnnmpdanfeejbaaGreat.Abs
