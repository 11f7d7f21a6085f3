/- The abstract machine: a call that gets an inner row of an object to write into. -/
import Derived.Test.YtnnmpdanfeejbaaAbsR
namespace Go.Proofs.Ytnnmpdanfeejbaa.Abs
open Go Go.RowKit
set_option linter.unusedVariables false
set_option linter.unusedSimpArgs false

def inlL (o i j : Nat) (ℓ : Loc) : Option Loc := if ℓ.1 = o then (match ℓ.2 with
  | (i', j') :: q => if i' = i ∧ j' = j then some (1, q) else none
  | [] => none) else none
/-- What the callee sees of the memory. -/
def Env.inl (E : Env) (o i j b0 cap0 : Nat) : Env := ⟨fun k => if k = 1 then some (b0, cap0) else none, fun b => (E.loc b).bind (inlL o i j)⟩
theorem inl_some {E : Env} {o i j b0 cap0 b : Nat} {q : List (Nat × Nat)} (h : E.loc b = some (o, (i, j) :: q)) : (E.inl o i j b0 cap0).loc b = some (1, q) := by
  simp [Env.inl, h, inlL]
theorem mut_inl {E : Env} {o i j b0 cap0 b : Nat} : Mut (E.inl o i j b0 cap0) b ↔ ∃ q, E.loc b = some (o, (i, j) :: q) := by
  constructor
  · rintro ⟨k, p, h, hk⟩
    simp only [Env.inl, Option.bind_eq_some_iff] at h
    obtain ⟨⟨o', p'⟩, h1, h2⟩ := h
    unfold inlL at h2
    split at h2
    · rename_i ho
      split at h2
      · rename_i i' j' q hp
        split at h2
        · rename_i hij
          simp only at ho hp
          exact ⟨q, by rw [h1, ho, hp, hij.1, hij.2]⟩
        · cases h2
      · cases h2
    · cases h2
  · rintro ⟨q, h⟩
    exact ⟨1, q, inl_some h, by omega⟩
open Classical in
noncomputable def Env.inlBack (E : Env) (w : World) (o i j b0 cap0 : Nat) (E' : Env) : Env :=
  ⟨E.rho, fun b => if b < w.heap.size ∧ ¬ Mut (E.inl o i j b0 cap0) b then E.loc b else (E'.loc b).map fun ℓ => if ℓ.1 = 1 then (o, (i, j) :: ℓ.2) else (0, (ℓ.1, 0) :: ℓ.2)⟩

def inlS (nt : Nat) (s : ASt) (o i j ty sz : Nat) (es : List (List CV)) (e : List CV) (es2 : List (List CV)) (d : Option Nat) (r : AV) : ASt :=
  ⟨putT nt (fun k => killA (s.t k)) d r, upd (fun k => (s.H k).map killO) o (some (.rw ty sz (es.set i (e.set j (.row true es2))))), s.c⟩

section
variable {P : Program} {nt : Nat} {I : Ini} {U : Nat → Prop} {s : ASt} {E : Env} {a : Act} {w : World}

theorem inl_after (hR : RelE nt I U s E a w) {o i j ty sz b cap b0 cap0 : Nat} {es : List (List CV)} {e : List CV} {es' : List (List CV)} {arr : Array Value} {us : Nat → Nat → Value} (hH : s.H o = some (.rw ty sz es)) (he : es[i]? = some e) (hc : e[j]? = some (.row true es'))
    (g1 : E.rho o = some (b, cap)) (g2 : E.loc b = some (o, [])) (g3 : w.heap[b]? = some (.cells arr ty (0, 0))) (g4 : arr.size = cap * sz) (g5 : es.length ≤ cap) (g6 : cap ≤ maxLen) (g7 : ∀ e ∈ es, e.length = sz)
    (g8 : ∀ i j, i < es.length → j < sz → arr[i * sz + j]? = some (us i j)) (g9 : ∀ (i j : Nat) e c, es[i]? = some e → e[j]? = some c → RdC w E.loc (o, [(i, j)]) c (us i j)) (hu : us i j = .slice (some ⟨b0, 0, none⟩) es'.length cap0)
    {w' : World} {x : Value} {es2 : List (List CV)} {ty' sz' : Nat} {E' : Env} (hx : x.oneCell' = true) (hlive : LiveOb w' E' (HpL [some (.rw ty' sz' es2)]) 1 (.rw ty' sz' es2)) (hown : ∀ e ∈ es2, ∀ c ∈ e, Own c) (hlen : es2.length = es'.length) (hr1 : E'.rho 1 = some (b0, cap0))
    (hevo : Evo (Mut (E.inl o i j b0 cap0)) w w') (hlt : ∀ b ℓ, E'.loc b = some ℓ → b < w'.heap.size) (hold : ∀ b, b < w.heap.size → ¬ Mut (E.inl o i j b0 cap0) b → E'.loc b = (E.inl o i j b0 cap0).loc b) (d : Option Nat) :
    RelE nt I U (inlS nt s o i j ty sz es e es2 d (.c (.v x))) (E.inlBack w o i j b0 cap0 E') (a.put d x) w' := by
  have ho0 : o ≠ 0 := fun h => by rw [h, hR.h0] at hH; cases hH
  have hlocO : ∀ b, b < w.heap.size → ¬ Mut (E.inl o i j b0 cap0) b → (E.inlBack w o i j b0 cap0 E').loc b = E.loc b := fun b h1 h2 => if_pos ⟨h1, h2⟩
  have hlocN : ∀ b p, E'.loc b = some (1, p) → (E.inlBack w o i j b0 cap0 E').loc b = some (o, (i, j) :: p) := fun b p h => by
    have : ¬ (b < w.heap.size ∧ ¬ Mut (E.inl o i j b0 cap0) b) := by
      rintro ⟨h1, h2⟩
      refine h2 ⟨1, p, ?_, by omega⟩
      rw [← hold b h1 h2, h]
    have h2 : (E.inlBack w o i j b0 cap0 E').loc b = (E'.loc b).map (fun ℓ : Loc => if ℓ.1 = 1 then (o, (i, j) :: ℓ.2) else (0, (ℓ.1, 0) :: ℓ.2)) := if_neg this
    rw [h2, h]
    rfl
  have hnm : ∀ {b ℓ}, E.loc b = ℓ → (∀ q, ℓ ≠ some (o, (i, j) :: q)) → ¬ Mut (E.inl o i j b0 cap0) b := fun h1 h2 hm => by
    obtain ⟨q, hq⟩ := mut_inl.1 hm
    exact h2 q (by rw [← h1, hq])
  have t0 : ∀ b, b < w.heap.size → E.loc b = none → w'.heap[b]? = w.heap[b]? ∧ (E.inlBack w o i j b0 cap0 E').loc b = none := fun b hb h => by
    have := hnm h (fun q => by simp)
    exact ⟨hevo.old hb this, by rw [hlocO b hb this]; exact h⟩
  have town : ∀ o' p b, b < w.heap.size → E.loc b = some (o', p) → (∀ q, (o', p) ≠ (o, (i, j) :: q)) → w'.heap[b]? = w.heap[b]? ∧ (E.inlBack w o i j b0 cap0 E').loc b = some (o', p) := fun o' p b hb h hq => by
    have := hnm h (fun q hh => hq q (Option.some.inj hh))
    exact ⟨hevo.old hb this, by rw [hlocO b hb this]; exact h⟩
  have hil := (List.getElem?_eq_some_iff.1 he).1
  have hlike : (Ob.rw ty sz es).like (.rw ty sz (es.set i (e.set j (.row true es2)))) := ⟨rfl, by
    constructor
    · intro h; rw [h] at hil; simp at hil
    · intro h; have := congrArg List.length h; simp at this; rw [this] at hil; simp at hil⟩
  have hob : ∀ o', U o' → (inlS nt s o i j ty sz es e es2 d (.c (.v x))).H o' = none ∨ ((E.inlBack w o i j b0 cap0 E').rho o' = E.rho o' ∧ ∃ x' y, s.H o' = some x' ∧ (inlS nt s o i j ty sz es e es2 d (.c (.v x))).H o' = some y ∧ x'.like y) := fun o' _ => by
    simp only [inlS]
    by_cases ho : o' = o
    · subst ho
      simp only [upd_same]
      exact .inr ⟨rfl, _, _, hH, rfl, hlike⟩
    · rw [upd_ne _ _ ho]
      cases hh : s.H o' with
      | none => exact .inl rfl
      | some y => exact .inr ⟨rfl, y, killO y, rfl, rfl, killO_like y⟩
  constructor
  · cases d <;> exact hR.defers
  · cases d <;> simp [Act.put, hR.size]
  · intro k u hk
    cases d with
    | none => exact (hR.slots k u hk).kill t0 hob (hR.mnT k)
    | some d =>
      simp only [Act.put, Array.getElem?_setIfInBounds] at hk
      have hsz : a.tmps.size = nt := hR.size
      show RdV _ _ _ (putT nt (fun k => killA (s.t k)) (some d) _ k) _
      by_cases hd : d = k
      · subst hd
        by_cases hb : d < a.tmps.size
        · simp only [hb, if_true] at hk
          cases hk
          simp only [putT, if_pos (hsz ▸ hb), upd_same]
          exact .c _ _ (.v _ hx)
        · simp [hb] at hk
      · simp only [if_neg hd] at hk
        have hj : ∀ v, putT nt (fun k => killA (s.t k)) (some d) v k = killA (s.t k) := fun v => by
          simp only [putT]
          split
          · exact upd_ne _ _ (Ne.symm hd)
          · rfl
        rw [hj]
        exact (hR.slots k u hk).kill t0 hob (hR.mnT k)
  · intro o' ob ho
    by_cases hoo : o' = o
    · subst hoo
      have : ob = .rw ty sz (es.set i (e.set j (.row true es2))) := by
        have h : (upd (fun k => (s.H k).map killO) o' (some (Ob.rw ty sz (es.set i (e.set j (.row true es2))))) : Hp) o' = some ob := ho
        rw [upd_same] at h
        exact (Option.some.inj h).symm
      subst this
      have hb := town o' [] b (RdR.lt g3) g2 (fun q => by simp)
      refine .inr ⟨b, cap, arr, us, g1, hb.2, hb.1.trans g3, g4, by simpa using g5, g6, fun e' he' => ?_, fun i' j' hi' hj' => g8 i' j' (by simpa using hi') hj', fun i' j' e' c' he' hc' => ?_⟩
      · rcases List.mem_or_eq_of_mem_set he' with h | h
        · exact g7 e' h
        · rw [h, List.length_set]; exact g7 e (List.mem_of_getElem? he)
      · have hrel : ∀ {c}, (i', j') ≠ (i, j) → RdC w E.loc (o', [(i', j')]) c (us i' j') → RdC w' (E.inlBack w o' i j b0 cap0 E').loc (o', [(i', j')]) c (us i' j') := fun hne h =>
          h.relabel (o', [(i', j')]) t0 (fun b' q hb' hq => town o' _ b' hb' hq (fun q' h' => by simp at h'; exact hne (by rw [h'.1.1, h'.1.2])))
        rw [List.getElem?_set] at he'
        by_cases hi : i = i'
        · subst hi
          rw [if_pos rfl, if_pos hil] at he'
          cases he'
          rw [List.getElem?_set] at hc'
          by_cases hj : j = j'
          · subst hj
            have hjl := (List.getElem?_eq_some_iff.1 hc).1
            rw [if_pos rfl, if_pos hjl] at hc'
            cases hc'
            rw [hu]
            rcases hlive with ⟨h1, _⟩ | ⟨b', cap', arr', us', k1, k2, k3, k4, k5, k6, k7, k8, k9⟩
            · rw [h1] at hr1; cases hr1
            · rw [k1] at hr1
              cases hr1
              rw [← hlen]
              refine .own _ b0 sz' cap0 es2 arr' ty' us' (hlocN _ _ k2) k3 k4 k5 k6 k7 k8 (fun i2 j2 e2 c2 he2 hc2 => ?_)
              exact (k9 i2 j2 e2 c2 he2 hc2).own_relabel (hown e2 (List.mem_of_getElem? he2) c2 (List.mem_of_getElem? hc2)) (o', [(i, j)] ++ [(i2, j2)]) (fun b' q hb' hq => by
                have := hlocN b' _ hq
                simpa using this)
          · rw [if_neg hj] at hc'
            exact hrel (by simp; exact fun h => hj h.symm) (g9 i j' e c' he hc')
        · rw [if_neg hi] at he'
          exact hrel (by simp; exact fun h => absurd h.symm hi) (g9 i' j' e' c' he' hc')
    · have ho' : (s.H o').map killO = some ob := by
        have h : (upd (fun k => (s.H k).map killO) o (some (Ob.rw ty sz (es.set i (e.set j (.row true es2))))) : Hp) o' = some ob := ho
        rw [upd_ne _ _ hoo] at h
        exact h
      rw [Option.map_eq_some_iff] at ho'
      obtain ⟨y, hy, rfl⟩ := ho'
      have hly := hR.live o' y hy
      have hmy := (hR.mnH o' y hy).2
      cases y with
      | box ty1 cs =>
        obtain ⟨b', arr', us', k1, k2, k3, k4, k5, k6⟩ := hly
        have hb := town o' [] b' (RdR.lt k3) k2 (fun q h => hoo (Prod.mk.inj h).1)
        show LiveOb _ _ _ _ (.box ty1 (killL cs))
        rw [killL_map]
        refine ⟨b', arr', us', k1, hb.2, hb.1.trans k3, by simpa using k4, fun j hj => k5 j (by simpa using hj), fun j c hj => ?_⟩
        rw [List.getElem?_map, Option.map_eq_some_iff] at hj
        obtain ⟨c', hc', rfl⟩ := hj
        exact (k6 j c' hc').kill t0 hob (hmy c' (List.mem_of_getElem? hc'))
      | rw ty1 sz1 es1 =>
        rcases hly with ⟨k1, k2⟩ | ⟨b', cap', arr', us', k1, k2, k3, k4, k5, k6, k7, k8, k9⟩
        · exact .inl ⟨k1, k2⟩
        · have hb := town o' [] b' (RdR.lt k3) k2 (fun q h => hoo (Prod.mk.inj h).1)
          exact .inr ⟨b', cap', arr', us', k1, hb.2, hb.1.trans k3, k4, k5, k6, k7, k8, fun i j e c he hc => (k9 i j e c he hc).relabel (o', [(i, j)]) t0 (fun b2 q hb2 hq => town o' _ b2 hb2 hq (fun q' h => hoo (Prod.mk.inj h).1))⟩
  · intro b ℓ hb
    by_cases hcc : b < w.heap.size ∧ ¬ Mut (E.inl o i j b0 cap0) b
    · exact Nat.lt_of_lt_of_le hcc.1 hevo.size
    · have h1 : (E.inlBack w o i j b0 cap0 E').loc b = (E'.loc b).map (fun ℓ : Loc => if ℓ.1 = 1 then (o, (i, j) :: ℓ.2) else (0, (ℓ.1, 0) :: ℓ.2)) := if_neg hcc
      rw [h1, Option.map_eq_some_iff] at hb
      obtain ⟨ℓ0, h0, _⟩ := hb
      exact hlt b ℓ0 h0
  · intro b hb hm
    have h1 := hR.old b hb hm
    have hbw := Nat.lt_of_lt_of_le hb hR.evo.size
    rw [← h1]
    refine hlocO b hbw (fun hmm => ?_)
    obtain ⟨q, hq⟩ := mut_inl.1 hmm
    exact hm ⟨o, _, by rw [← h1, hq], ho0⟩
  · intro o' x' hx'
    obtain ⟨hu', h⟩ := hR.pas o' x' hx'
    refine ⟨hu', ?_⟩
    rcases hob o' hu' with h1 | ⟨h1, y, z, h2, h3, h4⟩
    · exact .inl h1
    · rcases h with h | ⟨h5, y', h6, h7⟩
      · rw [h] at h2; cases h2
      · rw [h2] at h6
        cases h6
        exact .inr ⟨h1.trans h5, z, h3, h7.trans h4⟩
  · exact hR.u0
  · simp only [inlS]
    rw [upd_ne _ _ (Ne.symm ho0), hR.h0]
    rfl
  · intro k
    cases d with
    | none => exact (hR.mnT k).kill
    | some d =>
      show Mn _ (putT nt (fun k => killA (s.t k)) (some d) _ k)
      simp only [putT]
      split
      · by_cases hd : k = d
        · subst hd
          rw [upd_same]
          exact .c _
        · rw [upd_ne _ _ hd]
          exact (hR.mnT k).kill
      · exact (hR.mnT k).kill
  · intro o' ob ho
    by_cases hoo : o' = o
    · subst hoo
      have h : (upd (fun k => (s.H k).map killO) o' (some (Ob.rw ty sz (es.set i (e.set j (.row true es2))))) : Hp) o' = some ob := ho
      rw [upd_same] at h
      cases h
      exact ⟨(hR.mnH _ _ hH).1, trivial⟩
    · have h : (upd (fun k => (s.H k).map killO) o (some (Ob.rw ty sz (es.set i (e.set j (.row true es2))))) : Hp) o' = some ob := ho
      rw [upd_ne _ _ hoo, Option.map_eq_some_iff] at h
      obtain ⟨y, hy, rfl⟩ := h
      refine ⟨(hR.mnH _ _ hy).1, ?_⟩
      have := (hR.mnH _ _ hy).2
      cases y with
      | box ty1 cs =>
        show ∀ c ∈ killL cs, _
        rw [killL_map]
        intro c hc
        obtain ⟨c', hc', rfl⟩ := List.mem_map.1 hc
        exact (this c' hc').kill
      | rw => trivial
  · refine ⟨hevo.os.trans hR.evo.os, hevo.tape.trans hR.evo.tape, hevo.output.trans hR.evo.output, Nat.le_trans hR.evo.size hevo.size, fun k hk hm => ?_⟩
    rw [hevo.block k (Nat.lt_of_lt_of_le hk hR.evo.size) (fun hmm => ?_)]
    · exact hR.evo.block k hk hm
    · obtain ⟨q, hq⟩ := mut_inl.1 hmm
      exact hm ⟨o, _, by rw [← hR.old k hk hm, hq], ho0⟩

theorem CallOk.mono {f : Nat} {Hin : List Ob} {args : List AV} {Post Post' : AV → List (Option Ob) → Prop} (h : CallOk P f Hin args Post) (hp : ∀ r out, Post r out → Post' r out) : CallOk P f Hin args Post' :=
  ⟨h.1, fun w E vals h1 h2 h3 h4 => (h.2 w E vals h1 h2 h3 h4).mono (fun e w' ⟨u, r, out, E', k1, k2, k⟩ => ⟨u, r, out, E', k1, hp r out k2, k⟩)⟩

/-- A call's way, by a contract. -/
theorem run_enter {f : Nat} {Hin : List Ob} {args' : List AV} {Post : AV → List (Option Ob) → Prop} (h : CallOk P f Hin args' Post) {o : Oper} {args : Array Operand} {ts : Array Nat} (hop : o.op = .call { callee := .value (.func f), args := args, argTypes := ts }) :
    (execOp a.eval o).run P w = .ok (.enter f (args.map a.eval)) w := by
  have hc := h.1
  have : (callFunc f (args.map a.eval)).run P w = .ok (.enter f (args.map a.eval)) w := by
    unfold callable at hc
    split at hc
    · rename_i fn hf
      rw [Bool.and_eq_true] at hc
      have h1 : fn.body ≠ none := by
        intro hb
        rw [hb] at hc
        simp at hc
      have h2 : fn.name ≠ "runtime.NumGoroutine" := by simpa using hc.2
      simp [callFunc, hf, h1, h2]
    · cases hc
  have h3 : execOp a.eval o = (do let d ← resolve a.eval { callee := .value (.func f), args := args, argTypes := ts } o.type; invoke d.target d.args) := by
    simp only [execOp, hop]
  rw [h3]
  simp [resolve, Deferred.ofValue, Act.eval, invoke, this]

def TriQ (P : Program) (nt : Nat) (o1 o2 o3 : Oper) (s : ASt) (K : ASt → Prop) : Prop :=
  ∃ (t x d1 m d2 f : Nat) (ts : Array Nat) (o i j ty sz : Nat) (es : List (List CV)) (e : List CV) (es' : List (List CV)) (v : Value) (ti : TI),
    (o1.op = .load t (.tmp x) ∧ o1.dst = some d1 ∧ o1.guard = none ∧ o2.op = .move (.tmp m) ∧ o2.dst = some d2 ∧ o2.guard = none ∧ o3.op = .call { callee := .value (.func f), args := #[.tmp d1, .tmp d2], argTypes := ts } ∧ o3.guard = none) ∧
    d1 ≠ d2 ∧ d1 < nt ∧ d2 < nt ∧ m ≠ d1 ∧ m < nt ∧ x < nt ∧ tiOf P t = some ti ∧ ti.agg = false ∧ s.t x = .pt o i j ∧ s.H o = some (.rw ty sz es) ∧ es[i]? = some e ∧ e[j]? = some (.row true es') ∧ es' ≠ [] ∧ s.t m = .c (.v v) ∧
    ∀ ty' sz', (∀ e ∈ es', e.length = sz') → CallOk P f [.rw ty' sz' es'] [.sl 1 es'.length, .c (.v v)] (fun r out => ∃ y es2, r = .c (.v y) ∧ y.oneCell' = true ∧ out = [some (.rw ty' sz' es2)] ∧ es2.length = es'.length ∧ (∀ e ∈ es2, ∀ c ∈ e, Own c) ∧
      K (inlS nt ⟨upd (upd s.t d1 .any) d2 (.c (.v v)), s.H, s.c⟩ o i j ty sz es e es2 o3.dst (.c (.v y))))

theorem RelE.putAny (hR : RelE nt I U s E a w) {d : Nat} {u : Value} {x : AV} (hx : RdV w E s.H x u) (hm : Mn U x) (hd : d < nt) : RelE nt I U { s with t := upd s.t d x } E (a.put (some d) u) w := by
  constructor
  · exact hR.defers
  · simp [Act.put, hR.size]
  · intro k y hk
    simp only [Act.put, Array.getElem?_setIfInBounds] at hk
    have hsz : a.tmps.size = nt := hR.size
    by_cases hdk : d = k
    · subst hdk
      rw [if_pos rfl, if_pos (hsz ▸ hd)] at hk
      cases hk
      show RdV w E s.H (upd s.t d x d) _
      rw [upd_same]
      exact hx
    · rw [if_neg hdk] at hk
      show RdV w E s.H (upd s.t d x k) _
      rw [upd_ne _ _ (Ne.symm hdk)]
      exact hR.slots k y hk
  · exact hR.live
  · exact hR.locLt
  · exact hR.old
  · exact hR.pas
  · exact hR.u0
  · exact hR.h0
  · intro k
    show Mn U (upd s.t d x k)
    by_cases hdk : k = d
    · subst hdk; rw [upd_same]; exact hm
    · rw [upd_ne _ _ hdk]; exact hR.mnT k
  · exact hR.mnH
  · exact hR.evo

theorem triQ_sound {ops : Array Oper} {o1 o2 o3 : Oper} {rest : List Oper} {K : ASt → Prop} {Q : Exit → Act → World → Prop} (hR : RelE nt I U s E a w) (h : TriQ P nt o1 o2 o3 s K)
    (hn : ∀ s' E' a' w', K s' → s'.c = s.c → RelE nt I U s' E' a' w' → wpList P ops Q rest a' w') : wpList P ops Q (o1 :: o2 :: o3 :: rest) a w := by
  obtain ⟨t, x, d1, m, d2, f, ts, o, i, j, ty, sz, es, e, es', v, ti, ⟨p1, p2, p3, p4, p5, p6, p7, p8⟩, q1, q2, q3, q4, q5, q6, q7, q8, q9, q10, q11, q12, q13, q14, hk⟩ := h
  have hil := (List.getElem?_eq_some_iff.1 q11).1
  have hjl := (List.getElem?_eq_some_iff.1 q12).1
  rcases hR.live o _ q10 with ⟨_, h1⟩ | ⟨b, cap, arr, us, g1, g2, g3, g4, g5, g6, g7, g8, g9⟩
  · rw [h1] at hil; simp at hil
  have hel := g7 e (List.mem_of_getElem? q11)
  have hcell := g9 i j e _ q11 q12
  have hat : arr[i * sz + j]? = some (us i j) := g8 i j hil (hel ▸ hjl)
  obtain ⟨b0, cap0, sz0, arr0, ty0, us0, hu, l1, l2, l3, l4, l5, l6, l7, l8⟩ : ∃ b0 cap0 sz0 arr0 ty0, ∃ us0 : Nat → Nat → Value, us i j = .slice (some ⟨b0, 0, none⟩) es'.length cap0 ∧ E.loc b0 = some (o, [(i, j)]) ∧ w.heap[b0]? = some (.cells arr0 ty0 (0, 0)) ∧ arr0.size = cap0 * sz0 ∧ es'.length ≤ cap0 ∧ cap0 ≤ maxLen ∧
      (∀ e ∈ es', e.length = sz0) ∧ (∀ i j, i < es'.length → j < sz0 → arr0[i * sz0 + j]? = some (us0 i j)) ∧ (∀ (i' j' : Nat) e c, es'[i']? = some e → e[j']? = some c → RdC w E.loc (o, [(i, j)] ++ [(i', j')]) c (us0 i' j')) := by
    generalize hy : us i j = y at hcell
    cases hcell with
    | im _ _ _ _ hi => simp [CV.im] at hi
    | nil => exact absurd rfl q13
    | own _ b0 sz0 cap0 _ arr0 ty0 us0 l1 l2 l3 l4 l5 l6 l7 l8 => exact ⟨b0, cap0, sz0, arr0, ty0, us0, rfl, l1, l2, l3, l4, l5, l6, l7, l8⟩
  have hx : a.eval (.tmp x) = .pointer (some ⟨b, i * sz + j, none⟩) := by
    have := hR.get (.tmp x)
    simp only [getA, if_pos q6, q9] at this
    generalize hy : a.eval (.tmp x) = y at this
    cases this with
    | ptX _ _ _ _ h => rw [q10] at h; cases h
    | pt _ _ _ ob b' cap' h hr =>
      rw [q10] at h
      cases h
      rw [g1] at hr
      cases hr
      rfl
  have hrun1 : (execOp a.eval o1).run P w = .ok (.value (us i j)) w := by
    have h1 : (Instr.loadAt t (.pointer (some ⟨b, i * sz + j, none⟩))).run P w = .ok (us i j) w := by
      simp only [Instr.loadAt, Instr.sureAddr, loadVar, Sem.run_bind, Sem.run_pure, Result.andThen_ok, run_isAgg' q7, q8, Bool.false_eq_true, if_false, run_load]
      rw [cell_at g3, hat]
    simp [execOp, p1, hx, h1]
  have hm1 : (a.put (some d1) (us i j)).eval (.tmp m) = v := by
    have h1 : a.eval (.tmp m) = v := hR.eval (by simp only [getA, if_pos q5]; exact q14)
    rw [← h1]
    simp only [Act.eval, Act.put, Array.getD_eq_getD_getElem?, Array.getElem?_setIfInBounds]
    rw [if_neg (Ne.symm q4)]
  have hrun2 : (execOp (a.put (some d1) (us i j)).eval o2).run P w = .ok (.value v) w := by
    simp only [execOp, p4, hm1]
    rfl
  have hR1 : RelE nt I U { s with t := upd s.t d1 .any } E (a.put (some d1) (us i j)) w := hR.putAny (.any _) .any q2
  have hv : v.oneCell' = true := by
    have h1 := hR.get (.tmp m)
    simp only [getA, if_pos q5, q14] at h1
    cases h1 with
    | c _ _ h => exact (by cases h; assumption)
  have hR2 : RelE nt I U ⟨upd (upd s.t d1 .any) d2 (.c (.v v)), s.H, s.c⟩ E ((a.put (some d1) (us i j)).put (some d2) v) w := hR1.putAny (.c _ _ (.v _ hv)) (.c _) q3
  have hok := hk ty0 sz0 l6
  have hrun3 := run_enter (a := (a.put (some d1) (us i j)).put (some d2) v) (w := w) hok p7
  have hw : ∀ {o : Oper} {A : Act}, o.guard = none → Region.wanted o (yielded ops A.tmps) = true := fun h => by simp [Region.wanted, h]
  unfold wpList
  rw [if_pos (hw p3)]
  refine .inl ?_
  unfold Oper.wp
  rw [hrun1]
  show wpList P ops Q (o2 :: o3 :: rest) (a.put o1.dst (us i j)) w
  rw [p2]
  unfold wpList
  rw [if_pos (hw p6)]
  refine .inl ?_
  unfold Oper.wp
  rw [hrun2]
  show wpList P ops Q (o3 :: rest) ((a.put (some d1) (us i j)).put o2.dst v) w
  rw [p5]
  unfold wpList
  rw [if_pos (hw p8)]
  refine .inl ?_
  unfold Oper.wp
  rw [hrun3]
  have hu2 : (#[Operand.tmp d1, Operand.tmp d2].map ((a.put (some d1) (us i j)).put (some d2) v).eval) = #[us i j, v] := by
    have hsz := hR.size
    have e1 : d1 < a.tmps.size := by rw [hsz]; exact q2
    have e2 : d2 < a.tmps.size := by rw [hsz]; exact q3
    simp [Act.eval, Act.put, Array.getD_eq_getD_getElem?, Array.getElem?_setIfInBounds, e1, e2, Ne.symm q1]
  rw [hu2]
  show Calls P f _ w _
  refine (hok.2 w (E.inl o i j b0 cap0) #[us i j, v] ?_ ?_ rfl ?_).mono ?_
  · intro k ob hk'
    have hk1 : k = 1 ∧ ob = .rw ty0 sz0 es' := by
      unfold HpS at hk'
      split at hk'
      · cases hk'
      · match k, hk' with
        | 0, hk' => simp at *
        | 1, hk' => simp at hk'; exact ⟨rfl, hk'.symm⟩
        | k + 2, hk' => simp at hk'
    obtain ⟨rfl, rfl⟩ := hk1
    refine .inr ⟨b0, cap0, arr0, us0, rfl, inl_some l1, l2, l3, l4, l5, l6, l7, fun i' j' e' c' he' hc' => (l8 i' j' e' c' he' hc').relabel (1, [(i', j')]) (fun b' _ hb' => ⟨rfl, by simp [Env.inl, hb']⟩) (fun b' q _ hq => ⟨rfl, ?_⟩)⟩
    exact inl_some (q := (i', j') :: q) (by simpa using hq)
  · intro b' ℓ hb
    simp only [Env.inl, Option.bind_eq_some_iff] at hb
    obtain ⟨ℓ0, h0, _⟩ := hb
    exact hR.locLt b' ℓ0 h0
  · intro k y u hy hu'
    match k, hy, hu' with
    | 0, hy, hu' =>
      cases hy
      cases hu'
      rw [hu]
      exact .sl 1 es'.length ty0 sz0 es' b0 cap0 rfl rfl
    | 1, hy, hu' =>
      cases hy
      cases hu'
      exact .c _ _ (.v _ hv)
    | k + 2, hy, hu' => simp at hy
  · rintro ex w' ⟨u, r, out, E', rfl, ⟨y, es2, rfl, hy, rfl, hlen, hown, hK⟩, hr, hlive, hrs, hros, hpas, hevo, hold, hlt⟩
    have huy : u = y := by
      cases hr with
      | c _ _ h => cases h; rfl
    subst huy
    have hp1 := hpas 1 (.rw ty0 sz0 es') rfl
    rcases hp1 with hp1 | ⟨hp1, _⟩
    · simp [HpL] at hp1
    exact hn _ _ _ w' hK rfl (inl_after hR2 q10 q11 q12 g1 g2 g3 g4 g5 g6 g7 g8 g9 hu hy (hlive 1 _ rfl) hown hlen hp1 hevo hlt hold o3.dst)

theorem seqR_soundL {ops : Array Oper} {Q : Exit → Act → World → Prop} {c : Nat} {rest : List Oper} : ∀ {l : List Oper} {p : Nat} {s : ASt} {E : Env} {a : Act} {w : World} {K : ASt → Prop}, s.c = c → RelE nt I (fun o => o < c + 8 * p) s E a w → seqR P nt (dstOf ops) p l s K →
    (∀ s' E' a' w', K s' → s'.c = c → RelE nt I (fun o => o < c + 8 * (p + l.length)) s' E' a' w' → wpList P ops Q rest a' w') → wpList P ops Q (l ++ rest) a w
  | [], p, s, E, a, w, K, hc, hR, h, hn => hn s E a w h hc hR
  | o :: r, p, s, E, a, w, K, hc, hR, h, hn => by
    have := gstp_sound (ops := ops) (P := P) (Q := Q) hR (fun j hj => by omega) h (next := wpList P ops Q (r ++ rest)) (fun s' E' a' w' hK hc' hR' =>
      seqR_soundL (hc'.trans hc) (hR'.mono (fun q hq => by rcases hq with hq | ⟨j, hj, rfl⟩ <;> omega)) hK (fun s2 E2 a2 w2 hK2 hc2 hR2 => hn s2 E2 a2 w2 hK2 hc2 (by rw [List.length_cons, show p + (r.length + 1) = p + 1 + r.length by omega]; exact hR2)))
    show wpList P ops Q (o :: (r ++ rest)) a w
    unfold wpList
    split
    · rename_i hw; rw [if_pos hw] at this; exact .inl this
    · rename_i hw; rw [if_neg hw] at this; exact this

/-- A region in which the three operations from q on may be taken as one. -/
def FuseQ (P : Program) (nt q : Nat) (ops : Array Oper) (s : ASt) (K : ASt → Prop) : Prop :=
  seqR P nt (dstOf ops) 0 (ops.toList.take q) s fun s1 => seqR P nt (dstOf ops) q (ops.toList.drop q) s1 K ∨ ∃ o1 o2 o3 r, ops.toList.drop q = o1 :: o2 :: o3 :: r ∧ TriQ P nt o1 o2 o3 s1 fun s2 => seqR P nt (dstOf ops) (q + 3) r s2 K
theorem fuseQ_sound {ops : Array Oper} {Q : Exit → Act → World → Prop} {q : Nat} {K : ASt → Prop} (hR : RelE nt I (fun o => o < s.c) s E a w) (hq : q ≤ ops.size) (h : FuseQ P nt q ops s K)
    (hn : ∀ s' E' a' w', K s' → s'.c = s.c → RelE nt I (fun o => o < s.c + 8 * ops.size) s' E' a' w' → Q .normal a' w') : wpList P ops Q ops.toList a w := by
  have hl : ops.toList = ops.toList.take q ++ ops.toList.drop q := (List.take_append_drop q ops.toList).symm
  rw [hl]
  have hlen : (ops.toList.take q).length = q := by rw [List.length_take, Array.length_toList]; omega
  refine seqR_soundL rfl (hR.mono (fun o ho => by omega)) h (fun s1 E1 a1 w1 h1 hc1 hR1 => ?_)
  rw [Nat.zero_add, hlen] at hR1
  rcases h1 with h1 | ⟨o1, o2, o3, r, hd, h1⟩
  · refine seqR_sound hc1 hR1 h1 (fun s2 E2 a2 w2 h2 hc2 hR2 => hn s2 E2 a2 w2 h2 hc2 (hR2.mono (fun o ho => ?_)))
    have : (ops.toList.drop q).length = ops.size - q := by rw [List.length_drop, Array.length_toList]
    omega
  · rw [hd]
    refine triQ_sound hR1 h1 (fun s2 E2 a2 w2 h2 hc2 hR2 => ?_)
    refine seqR_sound (hc2.trans hc1) (hR2.mono (fun o ho => by omega)) h2 (fun s3 E3 a3 w3 h3 hc3 hR3 => hn s3 E3 a3 w3 h3 hc3 (hR3.mono (fun o ho => ?_)))
    have : (ops.toList.drop q).length = ops.size - q := by rw [List.length_drop, Array.length_toList]
    rw [hd] at this
    simp only [List.length_cons] at this
    omega
end
end Go.Proofs.Ytnnmpdanfeejbaa.Abs
