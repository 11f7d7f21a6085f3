/- The abstract machine: code, and a function's contract. -/
import Derived.Test.YtnnmpdanfeejbaaAbsXf
namespace Go.Proofs.Ytnnmpdanfeejbaa.Abs
open Go Go.RowKit
set_option linter.unusedVariables false
set_option linter.unusedSimpArgs false

/-- A loop: a relation that holds at each round's head, and a number that falls. -/
def LoopQ (np : Nat) (body : ASt → (Exit → ASt → Prop) → Prop) (s : ASt) (K : Exit → ASt → Prop) : Prop :=
  ∃ R : ASt → Nat → Prop, (∃ s' n, Weak np s s' ∧ R s' n) ∧ ∀ s n, R s n → body s fun e s' => match e with
    | .normal => ∃ s'' m, Weak np s' s'' ∧ R s'' m ∧ m < n
    | e => K e s'

/-- Ways meet: a relation that holds where they do. -/
def JoinQ (np : Nat) (x y : ASt → (Exit → ASt → Prop) → Prop) (s : ASt) (K : Exit → ASt → Prop) : Prop :=
  ∃ J : ASt → Prop, (x s fun e s' => match e with
    | .normal => ∃ s'', Weak np s' s'' ∧ J s''
    | e => K e s') ∧ ∀ s', J s' → y s' K
def firstReg : Code → Option Nat
  | .region id _ _ => some id
  | .seq x _ => firstReg x
  | .block _ c => firstReg c
  | .loop c => firstReg c
  | _ => none
/-- What a proof picks: ahead of which regions ways meet; at which place of a region three operations are one. -/
structure Cfg where
  js : List Nat := []
  fs : List (Nat × Nat) := []
  /-- which objects are read only from a region on -/
  fz : List (Nat × List Nat) := []
  /-- and which at the end -/
  en : List Nat := []
def Cfg.joins (g : Cfg) (y : Code) : Bool := match firstReg y with
  | some k => g.js.contains k
  | none => false

def optK (o : Option Nat) (f : Nat → Prop) (x : Prop) : Prop := match o with
  | some q => f q
  | none => x
theorem optK_some (q : Nat) (f : Nat → Prop) (x : Prop) : optK (some q) f x = f q := rfl
theorem optK_none (f : Nat → Prop) (x : Prop) : optK none f x = x := rfl
def wpC (P : Program) (nt np : Nat) (g : Cfg) : Code → ASt → (Exit → ASt → Prop) → Prop
  | .skip, s, K => K .normal s
  | .seq x y, s, K => if g.joins y then JoinQ np (wpC P nt np g x) (wpC P nt np g y) s K else wpC P nt np g x s fun e s' => match e with
    | .normal => wpC P nt np g y s' K
    | e => K e s'
  | .region id ops d, s, K => if d then DrawQ P nt ops (frzC (g.fz.lookup id) s) fun s' => K .normal { s' with c := s'.c + 8 * ops.size }
    else optK (g.fs.lookup id) (fun q => q ≤ ops.size ∧ FuseQ P nt q ops (frzC (g.fz.lookup id) s) fun s' => K .normal { s' with c := s'.c + 8 * ops.size })
      (seqR P nt (dstOf ops) 0 ops.toList (frzC (g.fz.lookup id) s) fun s' => K .normal { s' with c := s'.c + 8 * ops.size })
  | .cond c x y, s, K => match c with
    | .tmp d => d < nt ∧ boolK (s.t d) fun b => brB b (wpC P nt np g x { s with t := upd s.t d (.c (.v (.bool true))) } K) (wpC P nt np g y { s with t := upd s.t d (.c (.v (.bool false))) } K)
    | _ => False
  | .block id c, s, K => wpC P nt np g c s fun e s' => match e with
    | .exit j => if j = id then K .normal s' else K (.exit j) s'
    | e => K e s'
  | .loop c, s, K => LoopQ np (wpC P nt np g c) s K
  | .exit id, s, K => K (.exit id) s
  | .ret, s, K => K .ret s
  | _, _, _ => False

section
variable {P : Program} {nt np : Nat} {I : Ini} {g : Cfg}

theorem wpC_sound (hm : P.follows .mixedOrders = true) (hnp : ∀ o x, I.H o = some x → 1 ≤ o ∧ o ≤ np) : ∀ (c : Code) {s : ASt} {E : Env} {a : Act} {w : World} {K : Exit → ASt → Prop} {Q : Exit → Act → World → Prop}, RelE nt I (fun o => o < s.c) s E a w → wpC P nt np g c s K →
    (∀ e s' E' a' w', K e s' → RelE nt I (fun o => o < s'.c) s' E' a' w' → Q e a' w') → c.wp P Q a w := by
  intro c
  induction c with
  | skip => exact fun hR h hn => wp_skip (hn _ _ _ _ _ h hR)
  | seq x y ihx ihy =>
    intro s E a w K Q hR h hn
    simp only [wpC] at h
    split at h
    · obtain ⟨J, h1, h2⟩ := h
      refine wp_seq (ihx hR h1 (fun e s' E' a' w' hK hR' => ?_))
      cases e with
      | normal =>
        obtain ⟨s2, hw, hJ⟩ := hK
        obtain ⟨E2, hR2⟩ := hR'.weak hnp hw
        exact ihy hR2 (h2 s2 hJ) hn
      | exit => exact hn _ _ _ _ _ hK hR'
      | goto => exact hn _ _ _ _ _ hK hR'
      | ret => exact hn _ _ _ _ _ hK hR'
      | panic => exact hn _ _ _ _ _ hK hR'
      | outgrown => exact hn _ _ _ _ _ hK hR'
    refine wp_seq (ihx hR h (fun e s' E' a' w' hK hR' => ?_))
    cases e with
    | normal => exact ihy hR' hK hn
    | exit => exact hn _ _ _ _ _ hK hR'
    | goto => exact hn _ _ _ _ _ hK hR'
    | ret => exact hn _ _ _ _ _ hK hR'
    | panic => exact hn _ _ _ _ _ hK hR'
    | outgrown => exact hn _ _ _ _ _ hK hR'
  | region id ops d =>
    intro s0 E0 a w K Q hR0 h hn
    simp only [wpC] at h
    obtain ⟨E, hR1⟩ := hR0.frzC (g.fz.lookup id)
    generalize hsf : frzC (g.fz.lookup id) s0 = s at h hR1
    have hR : RelE nt I (fun o => o < s.c) s E a w := by rw [← hsf, frzC_c, hsf]; exact hR1
    have hc : ∀ (s' : ASt) E' a' w', s'.c = s.c → RelE nt I (fun o => o < s.c + 8 * ops.size) s' E' a' w' → RelE nt I (fun o => o < ({ s' with c := s'.c + 8 * ops.size } : ASt).c) { s' with c := s'.c + 8 * ops.size } E' a' w' := fun s' E' a' w' hc h => by
      show RelE nt I (fun o => o < s'.c + 8 * ops.size) _ E' a' w'
      rw [hc]
      exact ⟨h.defers, h.size, h.slots, h.live, h.locLt, h.old, h.pas, h.u0, h.h0, h.mnT, h.mnH, h.evo⟩
    cases d with
    | true =>
      rw [if_pos rfl] at h
      exact drawQ_sound hm hR h (fun s' E' a' w' hK hcc hR' => hn _ _ E' _ _ hK (hc s' E' a' w' hcc hR'))
    | false =>
      rw [if_neg (by simp)] at h
      unfold optK at h
      split at h
      · exact wp_region_list (fuseQ_sound hR h.1 h.2 (fun s' E' a' w' hK hcc hR' => hn _ _ E' _ _ hK (hc s' E' a' w' hcc hR')))
      refine wp_region_list (seqR_sound rfl (hR.mono (fun o ho => by omega)) h (fun s' E' a' w' hK hcc hR' => hn _ _ E' _ _ hK (hc s' E' a' w' hcc (by simpa using hR'))))
  | cond c x y ihx ihy =>
    intro s E a w K Q hR h hn
    simp only [wpC] at h
    cases c with
    | const => exact h.elim
    | global => exact h.elim
    | func => exact h.elim
    | tmp d =>
    obtain ⟨hd, h⟩ := h
    obtain ⟨b, hb, h1, h2⟩ : ∃ b, s.t d = .c (.v (.bool b)) ∧ (b = true → wpC P nt np g x { s with t := upd s.t d (.c (.v (.bool true))) } K) ∧ (b = false → wpC P nt np g y { s with t := upd s.t d (.c (.v (.bool false))) } K) := by
      obtain ⟨b, hb, h⟩ := boolK_ex h
      exact ⟨b, hb, h⟩
    have hv : a.eval (.tmp d) = .bool b := hR.eval (x := .tmp d) (by simp only [getA, if_pos hd]; exact hb)
    cases b with
    | true => exact wp_cond_true hv (ihx (hR.refine hb) (h1 rfl) hn)
    | false => exact wp_cond_false hv (ihy (hR.refine hb) (h2 rfl) hn)
  | block id c ih =>
    intro s E a w K Q hR h hn
    refine wp_block (ih hR h (fun e s' E' a' w' hK hR' => ?_))
    cases e with
    | exit j =>
      simp only at hK
      show if j = id then Q .normal a' w' else Q (.exit j) a' w'
      split at hK
      · rename_i hj; rw [if_pos hj]; exact hn _ _ _ _ _ hK hR'
      · rename_i hj; rw [if_neg hj]; exact hn _ _ _ _ _ hK hR'
    | normal => exact hn _ _ _ _ _ hK hR'
    | goto => exact hn _ _ _ _ _ hK hR'
    | ret => exact hn _ _ _ _ _ hK hR'
    | panic => exact hn _ _ _ _ _ hK hR'
    | outgrown => exact hn _ _ _ _ _ hK hR'
  | loop c ih =>
    intro s E a w K Q hR h hn
    obtain ⟨R, ⟨s0, n0, hw0, hR0⟩, hstep⟩ := h
    obtain ⟨E1, hR1⟩ := hR.weak hnp hw0
    refine wp_loop_ghost (fun n a w => ∃ s E, R s n ∧ RelE nt I (fun o => o < s.c) s E a w) n0 ⟨s0, E1, hR0, hR1⟩ (fun n a w hh => ?_)
    obtain ⟨s, E, hRs, hrel⟩ := hh
    refine ih hrel (hstep s n hRs) (fun e s' E' a' w' hK hR' => ?_)
    cases e with
    | normal =>
      obtain ⟨s2, m, hw2, hR2, hlt⟩ := hK
      obtain ⟨E2, hR3⟩ := hR'.weak hnp hw2
      exact ⟨m, hlt, s2, E2, hR2, hR3⟩
    | exit => exact hn _ _ _ _ _ hK hR'
    | goto => exact hn _ _ _ _ _ hK hR'
    | ret => exact hn _ _ _ _ _ hK hR'
    | panic => exact hn _ _ _ _ _ hK hR'
    | outgrown => exact hn _ _ _ _ _ hK hR'
  | exit id => exact fun hR h hn => wp_exit (hn _ _ _ _ _ h hR)
  | ret => exact fun hR h hn => wp_ret (hn _ _ _ _ _ h hR)
  | rangeFunc => exact fun hR h hn => h.elim
  | scope => exact fun hR h hn => h.elim
  | label => exact fun hR h hn => h.elim
  | goto => exact fun hR h hn => h.elim
  | refuse => exact fun hR h hn => h.elim

/-- The results, one by one. -/
def resV (P : Program) (nt : Nat) (s : ASt) : List ResultVar → (List AV → Prop) → Prop
  | [], K => K []
  | .tmp t :: r, K => resV P nt s r fun l => K (getA nt s.t (.tmp t) :: l)
  | .cell t ty :: r, K => bindK ((tiOf P ty).bind fun i => evLoad s.H i (getA nt s.t (.tmp t))) fun v _ => resV P nt s r fun l => K (v :: l)
def tupA : List AV → AV
  | [] => .tu []
  | [x] => x
  | x :: y :: l => .tu (x :: y :: l)
/-- The end of a function: what is handed back, under the contract's numbers. -/
def EndQ (np : Nat) (H : Hp) (x : AV) (Post : AV → List (Option Ob) → Prop) : Prop :=
  ∃ (g : Nat → Nat) (r : AV) (out : List (Option Ob)), Wk g x r ∧ WkH g H (HpL out) ∧ (∀ o, 1 ≤ o → o ≤ np → HpL out o = none ∨ g o = o) ∧ Rs false out.length r ∧ (∀ ob, some ob ∈ out → RsOb false out.length ob) ∧ Post r out
def EndA (P : Program) (nt np : Nat) (rs : List ResultVar) (Post : AV → List (Option Ob) → Prop) (s : ASt) : Prop := resV P nt s rs fun l => EndQ np s.H (tupA l) Post

/-- Nothing but closed values comes back. -/
theorem EndQ.closed {H : Hp} {x : AV} {Post : AV → List (Option Ob) → Prop} (hx : Rs false 0 x) (hP : Post x []) : EndQ 0 H x Post := by
  refine ⟨fun o => o, x, [], ?_, ⟨fun o x' h => ?_, fun o o' h => ?_⟩, fun o h1 h2 => by omega, hx, fun ob h => by simp at h, hP⟩
  · clear hP
    induction hx with
    | v x => exact .same _
    | c x => exact .same _
    | nul => exact .nul
    | any => exact .any _
    | sl o n h1 h2 => omega
    | pt o i j h1 h2 => omega
    | ag cs _ ih => exact .ag _ _ rfl (fun i c c' h h' => by rw [h] at h'; cases h'; exact ih c (List.mem_of_getElem? h))
    | tu cs _ ih => exact .tu _ _ rfl (fun i c c' h h' => by rw [h] at h'; cases h'; exact ih c (List.mem_of_getElem? h))
  · simp [HpL] at h
  · simp [HpL] at h

theorem resV_run {s : ASt} {E : Env} {a : Act} {w : World} {U : Nat → Prop} (hR : RelE nt I U s E a w) : ∀ {rs : List ResultVar} {K : List AV → Prop}, resV P nt s rs K →
    ∃ (us : List Value) (l : List AV), K l ∧ (rs.mapM (m := Sem) fun | .tmp t => Pure.pure (a.tmps.getD t undef) | .cell a' t => do loadVar t (← asAddr (a.tmps.getD a' undef))).run P w = .ok us w ∧ us.length = l.length ∧ ∀ (i : Nat) x u, l[i]? = some x → us[i]? = some u → RdV w E s.H x u
  | [], K, h => ⟨[], [], h, by simp, rfl, fun i x u hx => by simp at hx⟩
  | .tmp t :: r, K, h => by
    have h' : resV P nt s r fun l => K (getA nt s.t (.tmp t) :: l) := h
    obtain ⟨us, l, hK, h1, h2, h3⟩ := resV_run hR h'
    refine ⟨a.tmps.getD t undef :: us, _, hK, by simp only [List.mapM_cons, Sem.run_bind, Sem.run_pure, Result.andThen_ok, h1], by simp [h2], fun i x u hx hu => ?_⟩
    cases i with
    | zero =>
      cases hx
      cases hu
      exact hR.get (.tmp t)
    | succ i => exact h3 i x u (by simpa using hx) (by simpa using hu)
  | .cell t ty :: r, K, h => by
    simp only [resV] at h
    have h0 := bindK_ex h
    obtain ⟨v, objs, he, h⟩ := h0
    have h' : resV P nt s r fun l => K (v :: l) := h
    obtain ⟨us, l, hK, h1, h2, h3⟩ := resV_run hR h'
    rw [Option.bind_eq_some_iff] at he
    obtain ⟨i, hi, he⟩ := he
    obtain ⟨_, u, hrun, hrd, _⟩ := goodP_load (P := P) (o := { dst := none, op := .load ty (.tmp t), type := 0, pos := "", after := #[], guard := none }) hR rfl hi (fun _ _ h => h) he
    have hst : (execOp a.eval { dst := none, op := .load ty (.tmp t), type := 0, pos := "", after := #[], guard := none }).run P w = ((Instr.loadAt ty (a.eval (.tmp t))).run P w).andThen fun v w => .ok (.value v) w := by
      simp [execOp]
    rw [hst] at hrun
    have hld : (Instr.loadAt ty (a.eval (.tmp t))).run P w = .ok u w := by
      cases hq : (Instr.loadAt ty (a.eval (.tmp t))).run P w with
      | ok u' w' => rw [hq] at hrun; simp only [Result.andThen_ok, Result.ok.injEq, Next.value.injEq] at hrun; rw [hrun.1, hrun.2]
      | halt => rw [hq] at hrun; simp at hrun
    have hload : (do loadVar ty (← asAddr (a.tmps.getD t undef)) : Sem Value).run P w = .ok u w := by
      have e1 : a.eval (.tmp t) = a.tmps.getD t undef := rfl
      rw [e1] at hld
      cases hv : a.tmps.getD t undef with
      | pointer p =>
        cases p with
        | some ad => rw [hv] at hld; simpa [Instr.loadAt, Instr.sureAddr, asAddr] using hld
        | none => rw [hv] at hld; simp [Instr.loadAt, Instr.sureAddr] at hld
      | _ => rw [hv] at hld; simp [Instr.loadAt, Instr.sureAddr] at hld
    have h' : resV P nt s r fun l => K (v :: l) := h
    obtain ⟨us, l, hK, h1, h2, h3⟩ := resV_run hR h'
    refine ⟨u :: us, _, hK, by simp only [List.mapM_cons, Sem.run_bind, Sem.run_pure, Result.andThen_ok, h1]; simp only [Sem.run_bind] at hload; rw [hload]; simp only [Result.andThen_ok]; rw [h1]; rfl, by simp [h2], fun i x y hx hu => ?_⟩
    cases i with
    | zero =>
      cases hx
      cases hu
      exact hrd
    | succ i => exact h3 i x y (by simpa using hx) (by simpa using hu)

theorem tupA_ok {s : ASt} {E : Env} {w : World} {l : List AV} {us : List Value} (h : us.length = l.length) (hr : ∀ (i : Nat) x u, l[i]? = some x → us[i]? = some u → RdV w E s.H x u) :
    RdV w E s.H (tupA l) (if h : us.toArray.size = 1 then us.toArray[0] else .tuple us.toArray) := by
  by_cases h1 : us.length = 1
  · rw [dif_pos (by simpa using h1)]
    obtain ⟨u, rfl⟩ := List.length_eq_one_iff.1 h1
    obtain ⟨x, rfl⟩ := List.length_eq_one_iff.1 (h ▸ h1)
    exact hr 0 x u rfl rfl
  · rw [dif_neg (by simpa using h1)]
    have : tupA l = .tu l := by
      match l, h1, h with
      | [], _, _ => rfl
      | [x], h1, h => rw [h] at h1; simp at h1
      | x :: y :: l, _, _ => rfl
    rw [this]
    exact .tu _ _ (by simpa using h) (fun i x u hx hu => hr i x u hx (by simpa using hu))

theorem ends_ok {s : ASt} {E : Env} {a : Act} {w : World} {U : Nat → Prop} {fn : Func} {Post : AV → List (Option Ob) → Prop} (hR : RelE nt I U s E a w) (h : EndA P nt np fn.results.toList Post s) :
    ∃ u r out E', (results fn a.tmps).run P w = .ok u w ∧ Post r out ∧ RdV w E' (HpL out) r u ∧ (∀ k ob, HpL out k = some ob → LiveOb w E' (HpL out) k ob) ∧ Rs false out.length r ∧ (∀ ob, some ob ∈ out → RsOb false out.length ob) ∧
      (∀ k x, 1 ≤ k → k ≤ np → I.H k = some x → HpL out k = none ∨ (E'.rho k = I.E.rho k ∧ ∃ y, HpL out k = some y ∧ x.like y)) ∧ (∀ b, b < I.w.heap.size → ¬ Mut I.E b → E'.loc b = I.E.loc b) ∧ (∀ b ℓ, E'.loc b = some ℓ → b < w.heap.size) := by
  obtain ⟨us, l, ⟨g, r, out, hw, hk, hg, hrs, hros, hP⟩, h1, h2, h3⟩ := resV_run hR h
  refine ⟨_, r, out, E.weak g (HpL out), ?_, hP, (tupA_ok h2 h3).weak hk hw, fun k ob hk' => ?_, hrs, hros, fun k x hk1 hk2 hx => ?_, fun b hb hm => ?_, fun b ℓ hb => ?_⟩
  · unfold results
    have : (fn.results.mapM (m := Sem) fun | .tmp t => Pure.pure (a.tmps.getD t undef) | .cell a' t => do loadVar t (← asAddr (a.tmps.getD a' undef))).run P w = .ok us.toArray w := by
      rw [← Array.toArray_toList (xs := fn.results), List.mapM_toArray]
      simp only [Sem.run_map, h1, Result.andThen_ok]
    simp only [Sem.run_bind]
    refine (congrArg (fun r => Result.andThen r _) this).trans ?_
    simp only [Result.andThen_ok, Sem.run_pure]
  · rcases hk.ob k ob hk' with ⟨hg', x, h4, h5⟩ | ⟨hg', ty, sz, rfl⟩
    · exact (hR.live _ x h4).weak hk hg' hk' h5
    · exact .inl ⟨if_pos hg', rfl⟩
  · obtain ⟨h4, h5⟩ := hR.pas k x hx
    rcases hg k hk1 hk2 with h8 | h8
    · exact .inl h8
    · cases hh : HpL out k with
      | none => exact .inl rfl
      | some x' =>
        right
        obtain ⟨hg', y, h9, h10⟩ : g k ≠ 0 ∧ ∃ x, s.H (g k) = some x ∧ WkO g x x' := (hk.ob k x' hh).resolve_right (fun h => by omega)
        rw [h8] at h9
        rcases h5 with h5 | ⟨h5, z, h11, h12⟩
        · rw [h5] at h9; cases h9
        · rw [h11] at h9
          cases h9
          exact ⟨by rw [weak_rho hg', h8]; exact h5, x', rfl, h12.trans h10.like⟩
  · have h4 := hR.old b hb hm
    rw [← h4]
    cases hl : E.loc b with
    | none => exact weak_t0 hl
    | some ℓ =>
      obtain ⟨k, p⟩ := ℓ
      have hk0 : k = 0 := by
        by_cases hk0 : k = 0
        · exact hk0
        · exact absurd ⟨k, p, by rw [← h4, hl], hk0⟩ hm
      subst hk0
      simp [Env.weak, hl]
  · simp only [Env.weak, Option.map_eq_some_iff] at hb
    obtain ⟨ℓ0, h0, _⟩ := hb
    exact hR.locLt b ℓ0 h0

mutual
def mnA (np : Nat) : AV → Bool
  | .sl o _ => Nat.ble o np
  | .pt o _ _ => Nat.ble o np
  | .ag cs => mnL np cs
  | .tu cs => mnL np cs
  | _ => true
def mnL (np : Nat) : List AV → Bool
  | [] => true
  | x :: r => mnA np x && mnL np r
end
def mnO (np : Nat) : Ob → Bool
  | .box _ cs => mnL np cs
  | .rw _ _ _ => true
mutual
theorem mnA_ok {np : Nat} : (x : AV) → mnA np x = true → Mn (fun o => o ≤ np) x
  | .sl o n, h => .sl o n (Nat.le_of_ble_eq_true h)
  | .pt o i j, h => .pt o i j (Nat.le_of_ble_eq_true h)
  | .ag cs, h => .ag cs (mnL_ok cs h)
  | .tu cs, h => .tu cs (mnL_ok cs h)
  | .c x, _ => .c x
  | .bw x, _ => .bw x
  | .nul, _ => .nul
  | .any, _ => .any
termination_by structural x => x
theorem mnL_ok {np : Nat} : (l : List AV) → mnL np l = true → ∀ x ∈ l, Mn (fun o => o ≤ np) x
  | [], _, x, hx => by simp at hx
  | y :: r, h, x, hx => by
    simp only [mnL, Bool.and_eq_true] at h
    have h1 := mnA_ok y h.1
    have h2 := mnL_ok r h.2
    rcases List.mem_cons.1 hx with h3 | h3
    · rw [h3]; exact h1
    · exact h2 x h3
termination_by structural l => l
end
theorem mnO_ok {np : Nat} {ob : Ob} (h : mnO np ob = true) : MnOb (fun o => o ≤ np) ob := by
  cases ob with
  | box ty cs => exact mnL_ok cs h
  | rw => trivial
def isEnd : Exit → Prop
  | .normal | .ret => True
  | _ => False

def initT : Nat → List AV → Nat → AV
  | _, [] => fun _ => .any
  | k, x :: r => upd (initT (k + 1) r) k x
theorem initT_at : ∀ {l : List AV} {k j : Nat}, initT k l j = if k ≤ j then (l[j - k]?).getD .any else .any
  | [], k, j => by simp [initT]
  | x :: r, k, j => by
    unfold initT
    rw [upd_at, initT_at]
    by_cases h : j = k
    · subst h; simp
    · rw [if_neg h]
      by_cases h2 : k + 1 ≤ j
      · rw [if_pos h2, if_pos (by omega), show j - k = (j - (k + 1)) + 1 by omega]
        rfl
      · rw [if_neg h2, if_neg (by omega)]

/-- A function's contract, by its code. -/
theorem callOk_of (g : Cfg) (hm : P.follows .mixedOrders = true) {f : Nat} {fn : Func} {c : Code} {Hin : List Ob} {args : List AV} {Post : AV → List (Option Ob) → Prop} {rs : List ResultVar} (hf : P.funcs[f]? = some fn) (hb : fn.body = some c) (hnt : fn.ntmps = nt) (hrs : fn.results = rs.toArray) (hname : (fn.name == "runtime.NumGoroutine") = false) (hal : args.length ≤ nt) (hnp : Hin.length = np)
    (hin' : Hin.all (mnO np) = true) (hargs' : args.all (mnA np) = true)
    (h : wpC P nt np g c { t := initT 0 args, H := HpS Hin, c := np + 1 } fun e s' => isEnd e ∧ EndA P nt np rs Post (frz g.en s')) : CallOk P f Hin args Post := by
  have hargs : ∀ x ∈ args, Mn (fun o => o ≤ np) x := fun x hx => mnA_ok x (List.all_eq_true.1 hargs' x hx)
  have hin : ∀ ob ∈ Hin, MnOb (fun o => o ≤ np) ob := fun ob hob => mnO_ok (List.all_eq_true.1 hin' ob hob)
  have hrs' : fn.results.toList = rs := by rw [hrs]
  rw [← hrs'] at h
  refine ⟨by simp [callable, hf, hb, hname], ?_⟩
  intro w E vals hlive hlt hsz hv
  have hR : RelE nt ⟨w, E, HpS Hin⟩ (fun o => o < np + 1) { t := initT 0 args, H := HpS Hin, c := np + 1 } E { tmps := vals ++ Array.replicate (fn.ntmps - vals.size) undef, defers := [] } w := by
    refine ⟨rfl, by simp [hsz, hnt]; omega, fun k u hu => ?_, hlive, hlt, fun _ _ _ => rfl, fun o x hx => ⟨?_, .inr ⟨rfl, x, hx, Ob.like.refl x⟩⟩, by omega, rfl, fun k => ?_, fun o ob ho => ?_, Evo.refl _ _⟩
    · show RdV w E _ (initT 0 args k) u
      rw [initT_at, if_pos (Nat.zero_le _), Nat.sub_zero]
      simp only [Array.getElem?_append] at hu
      split at hu
      · rename_i hk
        have hk' : k < args.length := hsz ▸ hk
        rw [List.getElem?_eq_getElem hk']
        exact hv k _ u (List.getElem?_eq_getElem hk') hu
      · rename_i hk
        rw [List.getElem?_eq_none (by omega)]
        exact .any _
    · simp only [HpS] at hx
      split at hx
      · cases hx
      · have := (List.getElem?_eq_some_iff.1 hx).1
        omega
    · show Mn _ (initT 0 args k)
      rw [initT_at, if_pos (Nat.zero_le _), Nat.sub_zero]
      cases hh : args[k]? with
      | none => exact .any
      | some x => exact (hargs x (List.mem_of_getElem? hh)).mono fun o ho => by omega
    · have ho' := ho
      simp only [HpS] at ho'
      split at ho'
      · cases ho'
      · have := (List.getElem?_eq_some_iff.1 ho').1
        exact ⟨by omega, (hin ob (List.mem_of_getElem? ho')).mono fun o ho => by omega⟩
  have hnp' : ∀ o x, (Ini.mk w E (HpS Hin)).H o = some x → 1 ≤ o ∧ o ≤ np := fun o x hx => by
    simp only [HpS] at hx
    split at hx
    · cases hx
    · have := (List.getElem?_eq_some_iff.1 hx).1
      omega
  refine calls_of_wp hf hb (wpC_sound hm hnp' c hR h (fun e s' E' a' w' hK hR' => ?_))
  obtain ⟨he, hE⟩ := hK
  have he : e = .normal ∨ e = .ret := by cases e <;> simp_all [isEnd]
  obtain ⟨Ef, hRf⟩ := hR'.frzL g.en
  obtain ⟨u, r, out, E2, h1, h2, h3, h4, h5, h6, h7, h8, h9⟩ := ends_ok hRf hE
  rcases he with rfl | rfl
  · exact ⟨hR'.defers, u, h1, u, r, out, E2, rfl, h2, h3, h4, h5, h6, fun k x hx => h7 k x (hnp' k x hx).1 (hnp' k x hx).2 hx, hR'.evo, h8, h9⟩
  · exact ⟨hR'.defers, u, h1, u, r, out, E2, rfl, h2, h3, h4, h5, h6, fun k x hx => h7 k x (hnp' k x hx).1 (hnp' k x hx).2 hx, hR'.evo, h8, h9⟩
end

end Go.Proofs.Ytnnmpdanfeejbaa.Abs
