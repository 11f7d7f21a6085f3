/- The abstract machine: what stands behind a call by a contract. -/
import Derived.Test.YtnnmpdanfeejbaaAbsN
namespace Go.Proofs.Ytnnmpdanfeejbaa.Abs
open Go Go.RowKit
set_option linter.unusedVariables false
set_option linter.unusedSimpArgs false

mutual
def killA : AV → AV
  | .bw _ => .any
  | .ag cs => .ag (killL cs)
  | .tu cs => .tu (killL cs)
  | .c x => .c x
  | .nul => .nul
  | .any => .any
  | .sl o n => .sl o n
  | .pt o i j => .pt o i j
def killL : List AV → List AV
  | [] => []
  | x :: r => killA x :: killL r
end
theorem killL_map (l : List AV) : killL l = l.map killA := by
  induction l with
  | nil => rfl
  | cons x r ih => rw [killL, ih]; rfl
def killO : Ob → Ob
  | .box ty cs => .box ty (killL cs)
  | .rw ty sz es => .rw ty sz es
def klA (ps : List Nat) (x : AV) : AV := if ps.isEmpty then x else killA x
def kl (ps : List Nat) (t : Nat → AV) : Nat → AV := if ps.isEmpty then t else fun k => killA (t k)
def klH (ps : List Nat) (H : Hp) : Hp := if ps.isEmpty then H else fun k => (H k).map killO
theorem kl_at (ps : List Nat) (t : Nat → AV) (k : Nat) : kl ps t k = klA ps (t k) := by unfold kl klA; split <;> rfl

/-- The caller's number of an object of the contract's. -/
def rn (ps : List Nat) (id : Nat) (k : Nat) : Nat := if k = 0 then 0 else (ps[k - 1]?).getD (id + (k - 1 - ps.length))
def callIds (ps : List Nat) (id m : Nat) : List Nat := (List.range m).map fun k => rn ps id (k + 1)
def callObjs (ps : List Nat) (id : Nat) : Nat → List (Option Ob) → List (Nat × Option Ob)
  | _, [] => []
  | k, x :: r => (rn ps id (k + 1), x.map (renO (rn ps id))) :: callObjs ps id (k + 1) r

theorem rn_pass {ps : List Nat} {id k o : Nat} (h : ps[k]? = some o) : rn ps id (k + 1) = o := by simp [rn, h]
theorem rn_new {ps : List Nat} {id k : Nat} (h : ps.length ≤ k) : rn ps id (k + 1) = id + (k - ps.length) := by
  have : ps[k]? = none := List.getElem?_eq_none h
  simp [rn, this]

theorem callObjs_mem {ps : List Nat} {id : Nat} : ∀ {l : List (Option Ob)} {k : Nat} {x : Nat × Option Ob}, x ∈ callObjs ps id k l → ∃ j y, l[j]? = some y ∧ x = (rn ps id (k + j + 1), y.map (renO (rn ps id)))
  | [], k, x, h => by simp [callObjs] at h
  | y :: r, k, x, h => by
    unfold callObjs at h
    rcases List.mem_cons.1 h with rfl | h
    · exact ⟨0, y, rfl, rfl⟩
    · obtain ⟨j, z, hj, hx⟩ := callObjs_mem h
      exact ⟨j + 1, z, hj, by rw [hx]; congr 2; omega⟩
theorem callObjs_in {ps : List Nat} {id : Nat} : ∀ {l : List (Option Ob)} {k j : Nat} {y : Option Ob}, l[j]? = some y → (rn ps id (k + j + 1), y.map (renO (rn ps id))) ∈ callObjs ps id k l
  | [], k, j, y, h => by simp at h
  | z :: r, k, 0, y, h => by
    simp at h
    subst h
    exact List.mem_cons_self ..
  | z :: r, k, j + 1, y, h => by
    have := callObjs_in (ps := ps) (id := id) (k := k + 1) (l := r) (j := j) (y := y) (by simpa using h)
    rw [show k + 1 + j + 1 = k + (j + 1) + 1 by omega] at this
    exact List.mem_cons_of_mem _ this
theorem updL_uniq {H : Hp} : ∀ {l : List (Nat × Option Ob)} {x : Nat × Option Ob}, x ∈ l → (∀ y ∈ l, y.1 = x.1 → y = x) → updL H l x.1 = x.2
  | [], x, h, _ => by simp at h
  | z :: r, x, h, hu => by
    by_cases hr : x ∈ r
    · exact updL_uniq (H := upd H z.1 z.2) hr (fun y hy => hu y (List.mem_cons_of_mem _ hy))
    · have hz : x = z := (List.mem_cons.1 h).resolve_right hr
      subst hz
      show updL (upd H x.1 x.2) r x.1 = x.2
      rw [updL_out (fun y hy e => hr (hu y (List.mem_cons_of_mem _ hy) e ▸ hy)), upd_same]

theorem RdV.kill {U : Nat → Prop} {w w' : World} {E E' : Env} {H H' : Hp} (t0 : ∀ b, b < w.heap.size → E.loc b = none → w'.heap[b]? = w.heap[b]? ∧ E'.loc b = none)
    (ob : ∀ o, U o → H' o = none ∨ (E'.rho o = E.rho o ∧ ∃ x y, H o = some x ∧ H' o = some y ∧ x.like y)) {v : AV} {u : Value} (h : RdV w E H v u) (hm : Mn U v) : RdV w' E' H' (killA v) u := by
  induction h with
  | c x u h => exact .c x u (h.mono t0)
  | bw x u h => exact .any u
  | nul => exact .nul
  | any u => exact .any u
  | slX o n u h =>
    obtain _ | _ | _ | _ | ⟨_, _, hu⟩ := hm
    rcases ob o hu with h' | ⟨_, x, _, hx, _⟩
    · exact .slX o n u h'
    · rw [h] at hx; cases hx
  | sl o n ty sz es b cap h hr =>
    obtain _ | _ | _ | _ | ⟨_, _, hu⟩ := hm
    rcases ob o hu with h' | ⟨hr', x, y, hx, hy, hl⟩
    · exact .slX o n _ h'
    · rw [h] at hx
      cases hx
      cases y with
      | box => exact hl.elim
      | rw ty' sz' es' => exact .sl o n ty' sz' es' b cap hy (hr'.trans hr)
  | slN o ty sz h hr =>
    obtain _ | _ | _ | _ | ⟨_, _, hu⟩ := hm
    rcases ob o hu with h' | ⟨hr', x, y, hx, hy, hl⟩
    · exact .slX o 0 _ h'
    · rw [h] at hx
      cases hx
      cases y with
      | box => exact hl.elim
      | rw ty' sz' es' =>
        have := hl.2.1 rfl
        subst this
        exact .slN o ty' sz' hy (hr'.trans hr)
  | ptX o i j u h =>
    obtain _ | _ | _ | _ | _ | ⟨_, _, _, hu⟩ := hm
    rcases ob o hu with h' | ⟨_, x, _, hx, _⟩
    · exact .ptX o i j u h'
    · rw [h] at hx; cases hx
  | pt o i j obb b cap h hr =>
    obtain _ | _ | _ | _ | _ | ⟨_, _, _, hu⟩ := hm
    rcases ob o hu with h' | ⟨hr', x, y, hx, hy, hl⟩
    · exact .ptX o i j _ h'
    · rw [h] at hx
      cases hx
      have : obb.sz = y.sz := by cases obb <;> cases y <;> simp_all [Ob.like, Ob.sz]
      rw [this]
      exact .pt o i j y b cap hy (hr'.trans hr)
  | ag cs us hs _ ih =>
    cases hm with
    | ag _ hm =>
      show RdV _ _ _ (.ag (killL cs)) _
      rw [killL_map]
      refine .ag _ us (by simpa using hs) (fun i c u hc hu => ?_)
      rw [List.getElem?_map, Option.map_eq_some_iff] at hc
      obtain ⟨c', hc', rfl⟩ := hc
      exact ih i c' u hc' hu (hm c' (List.mem_of_getElem? hc'))
  | tu cs us hs _ ih =>
    cases hm with
    | tu _ hm =>
      show RdV _ _ _ (.tu (killL cs)) _
      rw [killL_map]
      refine .tu _ us (by simpa using hs) (fun i c u hc hu => ?_)
      rw [List.getElem?_map, Option.map_eq_some_iff] at hc
      obtain ⟨c', hc', rfl⟩ := hc
      exact ih i c' u hc' hu (hm c' (List.mem_of_getElem? hc'))

theorem Mn.kill {U : Nat → Prop} {v : AV} (h : Mn U v) : Mn U (killA v) := by
  induction h with
  | c x => exact .c x
  | bw x => exact .any
  | nul => exact .nul
  | any => exact .any
  | sl o n h => exact .sl o n h
  | pt o i j h => exact .pt o i j h
  | ag cs _ ih =>
    show Mn U (.ag (killL cs))
    rw [killL_map]
    refine .ag _ (fun c hc => ?_)
    obtain ⟨c', hc', rfl⟩ := List.mem_map.1 hc
    exact ih c' hc'
  | tu cs _ ih =>
    show Mn U (.tu (killL cs))
    rw [killL_map]
    refine .tu _ (fun c hc => ?_)
    obtain ⟨c', hc', rfl⟩ := List.mem_map.1 hc
    exact ih c' hc'

/-- The contract's values, by the caller's numbers. -/
theorem RdV.ren {w : World} {E E' : Env} {H H' : Hp} {bor : Bool} {m : Nat} {f : Nat → Nat} (t0 : bor = false → ∀ b, b < w.heap.size → E.loc b = none → E'.loc b = none)
    (ob : ∀ k, 1 ≤ k → k ≤ m → H k = none ∧ H' (f k) = none ∨ (E'.rho (f k) = E.rho k ∧ ∃ x y, H k = some x ∧ H' (f k) = some y ∧ x.like y)) {v : AV} {u : Value} (h : RdV w E H v u) (hm : Rs bor m v) : RdV w E' H' (renA f v) u := by
  induction h with
  | c x u h =>
    cases hm with
    | v x => cases h with | v _ h => exact .c _ _ (.v _ h)
    | c _ hb => exact .c _ _ (h.mono (fun b hb' h0 => ⟨rfl, t0 hb b hb' h0⟩))
  | bw x u h => cases hm
  | nul => exact .nul
  | any u => exact .any u
  | slX o n u h =>
    cases hm with
    | sl _ _ h1 h2 =>
      rcases ob o h1 h2 with h' | ⟨_, x, _, hx, _⟩
      · exact .slX _ n u h'.2
      · rw [h] at hx; cases hx
  | sl o n ty sz es b cap h hr =>
    cases hm with
    | sl _ _ h1 h2 =>
      rcases ob o h1 h2 with h' | ⟨hr', x, y, hx, hy, hl⟩
      · exact .slX _ n _ h'.2
      · rw [h] at hx
        cases hx
        cases y with
        | box => exact hl.elim
        | rw ty' sz' es' => exact .sl _ n ty' sz' es' b cap hy (hr'.trans hr)
  | slN o ty sz h hr =>
    cases hm with
    | sl _ _ h1 h2 =>
      rcases ob o h1 h2 with h' | ⟨hr', x, y, hx, hy, hl⟩
      · exact .slX _ 0 _ h'.2
      · rw [h] at hx
        cases hx
        cases y with
        | box => exact hl.elim
        | rw ty' sz' es' =>
          have := hl.2.1 rfl
          subst this
          exact .slN _ ty' sz' hy (hr'.trans hr)
  | ptX o i j u h =>
    cases hm with
    | pt _ _ _ h1 h2 =>
      rcases ob o h1 h2 with h' | ⟨_, x, _, hx, _⟩
      · exact .ptX _ i j u h'.2
      · rw [h] at hx; cases hx
  | pt o i j obb b cap h hr =>
    cases hm with
    | pt _ _ _ h1 h2 =>
      rcases ob o h1 h2 with h' | ⟨hr', x, y, hx, hy, hl⟩
      · exact .ptX _ i j _ h'.2
      · rw [h] at hx
        cases hx
        have : obb.sz = y.sz := by cases obb <;> cases y <;> simp_all [Ob.like, Ob.sz]
        rw [this]
        exact .pt _ i j y b cap hy (hr'.trans hr)
  | ag cs us hs _ ih =>
    cases hm with
    | ag _ hm =>
      show RdV _ _ _ (.ag (renL f cs)) _
      rw [renL_map]
      refine .ag _ us (by simpa using hs) (fun i c u hc hu => ?_)
      rw [List.getElem?_map, Option.map_eq_some_iff] at hc
      obtain ⟨c', hc', rfl⟩ := hc
      exact ih i c' u hc' hu (hm c' (List.mem_of_getElem? hc'))
  | tu cs us hs _ ih =>
    cases hm with
    | tu _ hm =>
      show RdV _ _ _ (.tu (renL f cs)) _
      rw [renL_map]
      refine .tu _ us (by simpa using hs) (fun i c u hc hu => ?_)
      rw [List.getElem?_map, Option.map_eq_some_iff] at hc
      obtain ⟨c', hc', rfl⟩ := hc
      exact ih i c' u hc' hu (hm c' (List.mem_of_getElem? hc'))
theorem Rs.mn {bor : Bool} {m : Nat} {U : Nat → Prop} {f : Nat → Nat} (hf : ∀ k, 1 ≤ k → k ≤ m → U (f k)) {v : AV} (h : Rs bor m v) : Mn U (renA f v) := by
  induction h with
  | v x => exact .c _
  | c x _ => exact .c x
  | nul => exact .nul
  | any => exact .any
  | sl o n h1 h2 => exact .sl _ n (hf o h1 h2)
  | pt o i j h1 h2 => exact .pt _ i j (hf o h1 h2)
  | ag cs _ ih =>
    show Mn U (.ag (renL f cs))
    rw [renL_map]
    refine .ag _ (fun c hc => ?_)
    obtain ⟨c', hc', rfl⟩ := List.mem_map.1 hc
    exact ih c' hc'
  | tu cs _ ih =>
    show Mn U (.tu (renL f cs))
    rw [renL_map]
    refine .tu _ (fun c hc => ?_)
    obtain ⟨c', hc', rfl⟩ := List.mem_map.1 hc
    exact ih c' hc'

/-- Owned cells move whatever becomes of the memory that is shared. -/
theorem RdC.own_relabel {w : World} {loc loc' : Nat → Option Loc} {ℓ : Loc} {c : CV} {u : Value} (h : RdC w loc ℓ c u) : Own c →
    ∀ ℓ' : Loc, (∀ b q, b < w.heap.size → loc b = some (ℓ.1, ℓ.2 ++ q) → loc' b = some (ℓ'.1, ℓ'.2 ++ q)) → RdC w loc' ℓ' c u := by
  induction h with
  | im ℓ c u h hi =>
    intro ho ℓ' h1
    cases ho with
    | v x => cases h with | v _ h => exact .im _ _ _ (.v _ h) rfl
    | row es _ => simp [CV.im] at hi
  | nil ℓ a => exact fun _ ℓ' _ => .nil ℓ' a
  | own ℓ b sz cap es arr ty us hl hb hz hc hm hs hu _ ih =>
    intro ho ℓ' h1
    cases ho with
    | row _ hown =>
      have hh := h1 b [] (RdR.lt hb) (by rw [hl]; simp)
      refine .own ℓ' b sz cap es arr ty us (by simpa using hh) hb hz hc hm hs hu (fun i j e c he hc' => ih i j e c he hc' (hown e (List.mem_of_getElem? he) c (List.mem_of_getElem? hc')) _ (fun b' q hb' hq => ?_))
      have := h1 b' ((i, j) :: q) hb' (by rw [hq]; simp)
      simpa using this
end Go.Proofs.Ytnnmpdanfeejbaa.Abs
