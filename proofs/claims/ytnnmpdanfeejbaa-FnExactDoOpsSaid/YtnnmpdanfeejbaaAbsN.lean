/- The abstract machine: contracts of functions, and a call by a contract. -/
import Derived.Test.YtnnmpdanfeejbaaAbsM
namespace Go.Proofs.Ytnnmpdanfeejbaa.Abs
open Go Go.RowKit
set_option linter.unusedVariables false
set_option linter.unusedSimpArgs false

/-- The same but for the marks of ownership. -/
inductive Sim : CV → CV → Prop
  | v (x) : Sim (.v x) (.v x)
  | row (k k' es es') : es.length = es'.length → (∀ (i : Nat) e e', es[i]? = some e → es'[i]? = some e' → e.length = e'.length) → (∀ (i j : Nat) e e' c c', es[i]? = some e → es'[i]? = some e' → e[j]? = some c → e'[j]? = some c' → Sim c c') → Sim (.row k es) (.row k' es')
  | ptr (cs cs' j) : cs.length = cs'.length → (∀ (j : Nat) c c', cs[j]? = some c → cs'[j]? = some c' → Sim c c') → Sim (.ptr cs j) (.ptr cs' j)

theorem RdR.sim {w : World} {T : Nat → Prop} {c : CV} {u : Value} (h : RdR w T c u) : ∀ {c' : CV}, Sim c c' → RdR w T c' u := by
  induction h with
  | v x hx => intro c' hs; cases hs; exact .v x hx
  | hole => intro c' hs; cases hs
  | nil k a c =>
    intro c' hs
    cases hs with
    | row _ k' _ es' hl =>
      have : es' = [] := List.eq_nil_of_length_eq_zero (by simpa using hl.symm)
      subst this
      exact .nil ..
  | row k b off sz cap es arr ty fz us hT hb hs hm hc hu _ ih =>
    intro c' hsim
    cases hsim with
    | row _ k' _ es' hl hle hcc =>
      have := RdR.row (w := w) (T := T) k' b off sz cap es' arr ty fz us hT hb (fun e' he' => by
        obtain ⟨i, hi⟩ := List.getElem?_of_mem he'
        have hil := (List.getElem?_eq_some_iff.1 hi).1
        have hie := List.getElem?_eq_getElem (hl ▸ hil)
        rw [← hle i _ e' hie hi]
        exact hs _ (List.getElem_mem _)) (hl ▸ hm) (hl ▸ hc) (fun i j hi hj => hu i j (hl ▸ hi) hj) (fun i j e' c' he' hc' => by
        have hil := (List.getElem?_eq_some_iff.1 he').1
        have hie := List.getElem?_eq_getElem (hl ▸ hil)
        have hjl := (List.getElem?_eq_some_iff.1 hc').1
        rw [← hle i _ e' hie he'] at hjl
        have hje := List.getElem?_eq_getElem hjl
        exact ih i j _ _ hie hje (hcc i j _ e' _ c' hie he' hje hc'))
      rwa [← hl] at this
  | ptr b off cs j arr ty fz us hT hb hu _ ih =>
    intro c' hs
    cases hs with
    | ptr _ cs' _ hl hcc =>
      exact .ptr b off cs' j arr ty fz us hT hb (fun j hj => hu j (hl ▸ hj)) (fun j c' hc' => by
        have hjl := (List.getElem?_eq_some_iff.1 hc').1
        have hje := List.getElem?_eq_getElem (hl ▸ hjl)
        exact ih j _ hje (hcc j _ c' hje hc'))

/-- Objects by number, from 1 on. -/
def HpL (l : List (Option Ob)) : Hp := fun k => if k = 0 then none else (l[k - 1]?).join
def HpS (l : List Ob) : Hp := fun k => if k = 0 then none else l[k - 1]?

mutual
def renA (f : Nat → Nat) : AV → AV
  | .sl o n => .sl (f o) n
  | .pt o i j => .pt (f o) i j
  | .ag cs => .ag (renL f cs)
  | .tu cs => .tu (renL f cs)
  | .c x => .c x
  | .bw x => .bw x
  | .nul => .nul
  | .any => .any
def renL (f : Nat → Nat) : List AV → List AV
  | [] => []
  | x :: r => renA f x :: renL f r
end
theorem renL_map (f : Nat → Nat) (l : List AV) : renL f l = l.map (renA f) := by
  induction l with
  | nil => rfl
  | cons x r ih => rw [renL, ih]; rfl
def renO (f : Nat → Nat) : Ob → Ob
  | .box ty cs => .box ty (renL f cs)
  | .rw ty sz es => .rw ty sz es

/-- A cell without shared memory below it. -/
inductive Own : CV → Prop
  | v (x) : Own (.v x)
  | row (es) : (∀ e ∈ es, ∀ c ∈ e, Own c) → Own (.row true es)
/-- What a call may hand back: references to its m objects; no shared memory, if bor is true. -/
inductive Rs (bor : Bool) (m : Nat) : AV → Prop
  | v (x) : Rs bor m (.c (.v x))
  | c (x) : bor = false → Rs bor m (.c x)
  | nul : Rs bor m .nul
  | any : Rs bor m .any
  | sl (o n) : 1 ≤ o → o ≤ m → Rs bor m (.sl o n)
  | pt (o i j) : 1 ≤ o → o ≤ m → Rs bor m (.pt o i j)
  | ag (cs) : (∀ c ∈ cs, Rs bor m c) → Rs bor m (.ag cs)
  | tu (cs) : (∀ c ∈ cs, Rs bor m c) → Rs bor m (.tu cs)
def RsOb (bor : Bool) (m : Nat) : Ob → Prop
  | .box _ cs => ∀ c ∈ cs, Rs bor m c
  | .rw _ _ es => bor = false ∨ ∀ e ∈ es, ∀ c ∈ e, Own c

def callable (P : Program) (f : Nat) : Bool := match P.funcs[f]? with
  | some fn => fn.body.isSome && !(fn.name == "runtime.NumGoroutine")
  | none => false

/-- A contract: of objects that are handed over (and may be changed) and arguments, to what comes back. -/
def CallOk (P : Program) (f : Nat) (Hin : List Ob) (args : List AV) (Post : AV → List (Option Ob) → Prop) : Prop :=
  callable P f = true ∧ ∀ (w : World) (E : Env) (vals : Array Value), (∀ k ob, HpS Hin k = some ob → LiveOb w E (HpS Hin) k ob) → (∀ b ℓ, E.loc b = some ℓ → b < w.heap.size) →
    vals.size = args.length → (∀ (i : Nat) x u, args[i]? = some x → vals[i]? = some u → RdV w E (HpS Hin) x u) →
    Calls P f vals w fun e w' => ∃ u r out E', e = .returned u ∧ Post r out ∧ RdV w' E' (HpL out) r u ∧ (∀ k ob, HpL out k = some ob → LiveOb w' E' (HpL out) k ob) ∧ Rs false out.length r ∧ (∀ ob, some ob ∈ out → RsOb false out.length ob) ∧ (∀ k x, HpS Hin k = some x → HpL out k = none ∨ (E'.rho k = E.rho k ∧ ∃ y, HpL out k = some y ∧ x.like y)) ∧
      Evo (Mut E) w w' ∧ (∀ b, b < w.heap.size → ¬ Mut E b → E'.loc b = E.loc b) ∧ (∀ b ℓ, E'.loc b = some ℓ → b < w'.heap.size)

/-- How an argument is seen by the callee: what is handed over by its number, all else only read. -/
inductive View (bor : Bool) (H : Hp) (ps : List Nat) : AV → AV → Prop
  | c (x x') : Sim x x' → View bor H ps (.c x) (.c x')
  | same (x) : View bor H ps (.c x) (.c x)
  | bw (x x') : bor = true → ps = [] → Sim x x' → View bor H ps (.bw x) (.c x')
  | nul : View bor H ps .nul .nul
  | nulR (k) : View bor H ps .nul (.c (.row k []))
  | any (x) : View bor H ps x .any
  | slP (o n k) : ps[k]? = some o → View bor H ps (.sl o n) (.sl (k + 1) n)
  | slB (o n ty sz es x') : bor = true → o ∉ ps → H o = some (.rw ty sz es) → n = es.length → Sim (.row true es) x' → View bor H ps (.sl o n) (.c x')
  | ptP (o i j k) : ps[k]? = some o → View bor H ps (.pt o i j) (.pt (k + 1) i j)
  | ptB (o j ty cs cs') : bor = true → o ∉ ps → H o = some (.box ty cs) → cs.length = cs'.length → (∀ (i : Nat) c c', cs[i]? = some c → cs'[i]? = some c' → View bor H ps c (.c c')) → View bor H ps (.pt o 0 j) (.c (.ptr cs' j))
  | ptE (o i j ty sz es e e') : bor = true → o ∉ ps → H o = some (.rw ty sz es) → es[i]? = some e → Sim (.ptr e j) (.ptr e' j) → View bor H ps (.pt o i j) (.c (.ptr e' j))
  | ag (cs cs') : cs.length = cs'.length → (∀ (i : Nat) c c', cs[i]? = some c → cs'[i]? = some c' → View bor H ps c c') → View bor H ps (.ag cs) (.ag cs')
/-- How an object that is handed over is seen. -/
def ViewO (bor : Bool) (H : Hp) (ps : List Nat) : Ob → Ob → Prop
  | .box ty cs, .box ty' cs' => ty = ty' ∧ cs.length = cs'.length ∧ ∀ (i : Nat) c c', cs[i]? = some c → cs'[i]? = some c' → View bor H ps c c'
  | .rw ty sz es, .rw ty' sz' es' => ty = ty' ∧ sz = sz' ∧ es = es'
  | _, _ => False

def Env.call (E : Env) (bor : Bool) (ps : List Nat) : Env :=
  ⟨fun k => if k = 0 then none else (ps[k - 1]?).bind E.rho, fun b => (E.loc b).bind fun ℓ => match ps.idxOf? ℓ.1 with
    | some k => some (k + 1, ℓ.2)
    | none => if bor then none else some (0, (ℓ.1, 0) :: ℓ.2)⟩

theorem idxOf_of_get {ps : List Nat} (hn : ps.Nodup) {k o : Nat} (h : ps[k]? = some o) : ps.idxOf? o = some k := by
  obtain ⟨hk, rfl⟩ := List.getElem?_eq_some_iff.1 h
  rw [List.idxOf?_eq_some_iff]
  refine ⟨hk, rfl, fun j hj => ?_⟩
  have h1 := List.pairwise_iff_getElem.1 hn j k (by omega) hk hj
  simpa using h1
theorem idxOf_none {ps : List Nat} {o : Nat} (h : o ∉ ps) : ps.idxOf? o = none := List.idxOf?_eq_none_iff.2 h
theorem get_of_idxOf {ps : List Nat} {k o : Nat} (h : ps.idxOf? o = some k) : ps[k]? = some o := by
  rw [List.idxOf?_eq_some_iff] at h
  obtain ⟨hk, h1, _⟩ := h
  rw [List.getElem?_eq_getElem hk, h1]

section
variable {P : Program} {nt : Nat} {I : Ini} {U : Nat → Prop} {s : ASt} {E : Env} {a : Act} {w : World} {bor : Bool} {ps : List Nat}

theorem call_t0 {b : Nat} (h : E.loc b = none) : (E.call bor ps).loc b = none := by simp [Env.call, h]
theorem call_bor {b o : Nat} {p : List (Nat × Nat)} (hb : bor = true) (ho : o ∉ ps) (h : E.loc b = some (o, p)) : (E.call bor ps).loc b = none := by simp [Env.call, h, idxOf_none ho, hb]
theorem call_pass (hn : ps.Nodup) {b o k : Nat} {p : List (Nat × Nat)} (ho : ps[k]? = some o) (h : E.loc b = some (o, p)) : (E.call bor ps).loc b = some (k + 1, p) := by simp [Env.call, h, idxOf_of_get hn ho]
theorem call_rho {o k : Nat} (ho : ps[k]? = some o) : (E.call bor ps).rho (k + 1) = E.rho o := by simp [Env.call, ho]

theorem View.ok (hR : RelE nt I U s E a w) (hn : ps.Nodup) {Hin : List Ob} (hin : ∀ (k o : Nat), ps[k]? = some o → ∃ ob ob', s.H o = some ob ∧ Hin[k]? = some ob' ∧ ViewO bor s.H ps ob ob') {x x' : AV} (hv : View bor s.H ps x x') :
    ∀ {u : Value}, RdV w E s.H x u → RdV w (E.call bor ps) (HpS Hin) x' u := by
  have hT0 : ∀ {x : CV} {u : Value}, RdR w E.T0 x u → RdR w (E.call bor ps).T0 x u := fun h => h.mono (fun b _ hb => ⟨rfl, call_t0 hb⟩)
  induction hv with
  | c x x' hs => intro u h; cases h with | c _ _ h => exact .c _ _ ((hT0 h).sim hs)
  | same x => intro u h; cases h with | c _ _ h => exact .c _ _ (hT0 h)
  | bw x x' hb hp hs =>
    intro u h
    cases h with
    | bw _ _ h =>
      refine .c _ _ (RdR.sim (h.mono (fun b _ hT => ⟨rfl, ?_⟩)) hs)
      subst hp hb
      cases hl : E.loc b with
      | none => exact call_t0 hl
      | some ℓ => exact call_bor rfl (by simp) hl
  | nul => intro u h; cases h; exact .nul
  | nulR k => intro u h; cases h; exact .c _ _ (.nil ..)
  | any x => intro u h; exact .any _
  | slP o n k hk =>
    intro u h
    obtain ⟨ob, ob', h1, h2, h3⟩ := hin k o hk
    cases h with
    | slX _ _ _ h => rw [h1] at h; cases h
    | sl _ _ ty sz es b cap h hr =>
      rw [h1] at h
      cases h
      cases ob' with
      | box => exact h3.elim
      | rw ty' sz' es' => exact .sl (k + 1) n ty' sz' es' b cap (by simp [HpS, h2]) ((call_rho hk).trans hr)
    | slN _ ty sz h hr =>
      rw [h1] at h
      cases h
      cases ob' with
      | box => exact h3.elim
      | rw ty' sz' es' =>
        obtain ⟨rfl, rfl, rfl⟩ := h3
        exact .slN (k + 1) ty sz (by simp [HpS, h2]) ((call_rho hk).trans hr)
  | slB o n ty sz es x' hb ho hH hn' hs =>
    intro u h
    cases h with
    | slX _ _ _ h => rw [hH] at h; cases h
    | sl _ _ ty' sz' es' b cap h hr =>
      rw [hH] at h
      cases h
      rcases hR.live o _ hH with ⟨h1, _⟩ | ⟨b', cap', arr, us, h1, h2, h3, h4, h5, h6, h7, h8, h9⟩
      · rw [h1] at hr; cases hr
      · rw [h1] at hr
        cases hr
        subst hn'
        refine .c _ _ (RdR.sim (RdR.row true b 0 sz cap es arr ty (0, 0) us (call_bor hb ho h2) h3 h7 (Nat.le_trans h5 h6) h5 (fun i j hi hj => by rw [Nat.zero_add]; exact h8 i j hi hj) (fun i j e c he hc => ?_)) hs)
        exact (h9 i j e c he hc).toR (fun b' hb' => call_t0 hb') (fun b' q hq => call_bor hb ho hq)
    | slN _ ty' sz' h hr =>
      rw [hH] at h
      cases h
      exact .c _ _ (RdR.sim (.nil true none 0) hs)
  | ptP o i j k hk =>
    intro u h
    obtain ⟨ob, ob', h1, h2, h3⟩ := hin k o hk
    cases h with
    | ptX _ _ _ _ h => rw [h1] at h; cases h
    | pt _ _ _ ob2 b cap h hr =>
      rw [h1] at h
      cases h
      have : ob.sz = ob'.sz := by
        cases ob <;> cases ob' <;> first | rfl | exact h3.elim | exact h3.2.1
      rw [this]
      exact .pt (k + 1) i j ob' b cap (by simp [HpS, h2]) ((call_rho hk).trans hr)
  | ptB o j ty cs cs' hb ho hH hl hcc ih =>
    intro u h
    obtain ⟨b, arr, us, h1, h2, h3, h4, h5, h6⟩ := hR.live o _ hH
    cases h with
    | ptX _ _ _ _ h => rw [hH] at h; cases h
    | pt _ _ _ ob2 b' cap h hr =>
      rw [hH] at h
      cases h
      rw [h1] at hr
      cases hr
      simp only [Ob.sz, Nat.zero_mul, Nat.zero_add]
      have key := RdR.ptr (w := w) (T := (E.call bor ps).T0) b 0 cs' j arr ty (0, 0) us (call_bor hb ho h2) h3 (fun i hi => by rw [Nat.zero_add]; exact h5 i (hl ▸ hi)) (fun i c' hc' => by
        have hil := (List.getElem?_eq_some_iff.1 hc').1
        have hie := List.getElem?_eq_getElem (hl ▸ hil)
        have := ih i _ c' hie hc' (h6 i _ hie)
        cases this with
        | c _ _ h => exact h)
      rw [Nat.zero_add] at key
      exact .c _ _ key
  | ptE o i j ty sz es e e' hb ho hH he hs =>
    intro u h
    cases h with
    | ptX _ _ _ _ h => rw [hH] at h; cases h
    | pt _ _ _ ob2 b cap h hr =>
      rw [hH] at h
      cases h
      rcases hR.live o _ hH with ⟨h1, _⟩ | ⟨b', cap', arr, us, h1, h2, h3, h4, h5, h6, h7, h8, h9⟩
      · rw [h1] at hr; cases hr
      · rw [h1] at hr
        cases hr
        have hil := (List.getElem?_eq_some_iff.1 he).1
        have hel := h7 e (List.mem_of_getElem? he)
        exact .c _ _ (RdR.sim (RdR.ptr b (i * sz) e j arr ty (0, 0) (us i) (call_bor hb ho h2) h3 (fun j hj => h8 i j hil (hel ▸ hj)) (fun j c hc => (h9 i j e c he hc).toR (fun b' hb' => call_t0 hb') (fun b' q hq => call_bor hb ho hq))) hs)
  | ag cs cs' hl hcc ih =>
    intro u h
    cases h with
    | ag _ us hs hi =>
      refine .ag _ _ (hs.trans hl) (fun i c' y hc' hy => ?_)
      have hil := (List.getElem?_eq_some_iff.1 hc').1
      have hie := List.getElem?_eq_getElem (hl ▸ hil)
      exact ih i _ c' hie hc' (hi i _ y hie hy)

theorem ViewO.live (hR : RelE nt I U s E a w) (hn : ps.Nodup) {Hin : List Ob} (hin : ∀ (k o : Nat), ps[k]? = some o → ∃ ob ob', s.H o = some ob ∧ Hin[k]? = some ob' ∧ ViewO bor s.H ps ob ob') (hl : Hin.length = ps.length) :
    ∀ k ob, HpS Hin k = some ob → LiveOb w (E.call bor ps) (HpS Hin) k ob := by
  intro k ob hk
  unfold HpS at hk
  split at hk
  · cases hk
  · rename_i hk0
    obtain ⟨k, rfl⟩ : ∃ m, k = m + 1 := ⟨k - 1, by omega⟩
    simp only [Nat.add_sub_cancel] at hk
    have hkl := (List.getElem?_eq_some_iff.1 hk).1
    have hp := List.getElem?_eq_getElem (l := ps) (hl ▸ hkl)
    obtain ⟨ob1, ob', h1, h2, h3⟩ := hin k _ hp
    rw [hk] at h2
    cases h2
    have h4 := hR.live _ _ h1
    cases ob1 with
    | box ty cs =>
      cases ob with
      | rw => exact h3.elim
      | box ty' cs' =>
        obtain ⟨rfl, hlc, hv⟩ := h3
        obtain ⟨b, arr, us, g1, g2, g3, g4, g5, g6⟩ := h4
        refine ⟨b, arr, us, (call_rho hp).trans g1, call_pass hn hp g2, g3, g4.trans hlc, fun j hj => g5 j (hlc ▸ hj), fun j c' hc' => ?_⟩
        have hil := (List.getElem?_eq_some_iff.1 hc').1
        have hie := List.getElem?_eq_getElem (hlc ▸ hil)
        exact (hv j _ c' hie hc').ok hR hn hin (g6 j _ hie)
    | rw ty sz es =>
      cases ob with
      | box => exact h3.elim
      | rw ty' sz' es' =>
        obtain ⟨rfl, rfl, rfl⟩ := h3
        rcases h4 with ⟨g1, g2⟩ | ⟨b, cap, arr, us, g1, g2, g3, g4, g5, g6, g7, g8, g9⟩
        · exact .inl ⟨(call_rho hp).trans g1, g2⟩
        · exact .inr ⟨b, cap, arr, us, (call_rho hp).trans g1, call_pass hn hp g2, g3, g4, g5, g6, g7, g8, fun i j e c he hc => (g9 i j e c he hc).relabel (k + 1, [(i, j)]) (fun b' _ hb' => ⟨rfl, call_t0 hb'⟩) (fun b' q _ hq => ⟨rfl, call_pass hn hp hq⟩)⟩
end

end Go.Proofs.Ytnnmpdanfeejbaa.Abs
