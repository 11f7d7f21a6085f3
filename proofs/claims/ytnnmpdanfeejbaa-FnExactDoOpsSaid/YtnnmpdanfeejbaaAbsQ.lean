/- The abstract machine: code. -/
import Derived.Test.YtnnmpdanfeejbaaAbsP
import Derived.Deep.LoopGhost
import Derived.Tactics
namespace Go.Proofs.Ytnnmpdanfeejbaa.Abs
open Go Go.RowKit
set_option linter.unusedVariables false
set_option linter.unusedSimpArgs false

/-- Two ways, by a bool. -/
def brB (b : Bool) (x y : Prop) : Prop := (b = true → x) ∧ (b = false → y)
theorem brB_true (x y : Prop) : brB true x y = x := by simp [brB]
theorem brB_false (x y : Prop) : brB false x y = y := by simp [brB]
theorem brB_intro {b : Bool} {x y : Prop} (h1 : b = true → x) (h2 : b = false → y) : brB b x y := ⟨h1, h2⟩

/-- A call, as its caller sees it. -/
def Callq (P : Program) (nt : Nat) (f : Nat) (args : List AV) (d : Option Nat) (id : Nat) (s : ASt) (K : ASt → Prop) : Prop :=
  ∃ (bor : Bool) (ps : List Nat) (Hin : List Ob) (args' : List AV) (Post : AV → List (Option Ob) → Prop), CallOk P f Hin args' Post ∧ ps.Nodup ∧ Hin.length = ps.length ∧
    (∀ (k o : Nat), ps[k]? = some o → ∃ ob ob', s.H o = some ob ∧ Hin[k]? = some ob' ∧ ViewO bor s.H ps ob ob') ∧ args.length = args'.length ∧
    (∀ (i : Nat) x x', args[i]? = some x → args'[i]? = some x' → View bor s.H ps x x') ∧
    ∀ r out, Post r out → ps.length ≤ out.length ∧ out.length ≤ ps.length + 8 ∧ (bor = true → Rs true out.length r ∧ ∀ ob, some ob ∈ out → RsOb true out.length ob) ∧ K (after nt s ps id d r out)

def bindK (r : EvR) (K : AV → List (Nat × Option Ob) → Prop) : Prop := match r with
  | some (v, o) => K v o
  | none => False
theorem bindK_some (v : AV) (o : List (Nat × Option Ob)) (K : AV → List (Nat × Option Ob) → Prop) : bindK (some (v, o)) K = K v o := rfl
theorem bindK_none (K : AV → List (Nat × Option Ob) → Prop) : bindK none K = False := rfl
theorem bindK_ite (c : Prop) [Decidable c] (r : EvR) (K : AV → List (Nat × Option Ob) → Prop) : bindK (if c then r else none) K = (c ∧ bindK r K) := by
  by_cases h : c <;> simp [h, bindK]
theorem bindK_ex {r : EvR} {K : AV → List (Nat × Option Ob) → Prop} (h : bindK r K) : ∃ v o, r = some (v, o) ∧ K v o := by
  unfold bindK at h
  split at h
  · exact ⟨_, _, rfl, h⟩
  · exact h.elim

def stp (P : Program) (nt p : Nat) (o : Oper) (s : ASt) (K : ASt → Prop) : Prop :=
  match o.op with
  | .call { callee := .value (.func f), args := args, argTypes := _ } => Callq P nt f (args.toList.map (getA nt s.t)) o.dst (s.c + 8 * p) s K
  | op => bindK (evOp P (s.c + 8 * p) s.H (getA nt s.t) op) fun v objs => K { t := putT nt s.t o.dst v, H := updL s.H objs, c := s.c }

/-- By a bool. -/
def boolK (v : AV) (f : Bool → Prop) : Prop := match v with
  | .c (.v (.bool b)) => f b
  | _ => False
theorem boolK_c (b : Bool) (f : Bool → Prop) : boolK (.c (.v (.bool b))) f = f b := rfl
theorem boolK_ex {v : AV} {f : Bool → Prop} (h : boolK v f) : ∃ b, v = .c (.v (.bool b)) ∧ f b := by
  unfold boolK at h
  split at h
  · exact ⟨_, rfl, h⟩
  · exact h.elim

def gstp (P : Program) (nt : Nat) (dsts : Nat → Option Nat) (p : Nat) (o : Oper) (s : ASt) (K : ASt → Prop) : Prop :=
  match o.guard with
  | none => stp P nt p o s K
  | some (j, want) => match dsts j with
    | none => False
    | some d => d < nt ∧ boolK (s.t d) fun b => match want with
        | true => brB b (stp P nt p o { s with t := upd s.t d (.c (.v (.bool true))) } K) (K { s with t := putT nt (upd s.t d (.c (.v (.bool false)))) o.dst .any })
        | false => brB b (K { s with t := putT nt (upd s.t d (.c (.v (.bool true)))) o.dst .any }) (stp P nt p o { s with t := upd s.t d (.c (.v (.bool false))) } K)

def seqR (P : Program) (nt : Nat) (dsts : Nat → Option Nat) : Nat → List Oper → ASt → (ASt → Prop) → Prop
  | _, [], s, K => K s
  | p, o :: r, s, K => gstp P nt dsts p o s fun s' => seqR P nt dsts (p + 1) r s' K

def dstOf (ops : Array Oper) (j : Nat) : Option Nat := (ops[j]?).bind (·.dst)

section
variable {P : Program} {nt : Nat} {I : Ini} {s : ASt} {E : Env} {a : Act} {w : World}

theorem RelE.mono {U U' : Nat → Prop} (h : RelE nt I U s E a w) (hU : ∀ o, U o → U' o) : RelE nt I U' s E a w :=
  ⟨h.defers, h.size, h.slots, h.live, h.locLt, h.old, fun o x hx => ⟨hU o (h.pas o x hx).1, (h.pas o x hx).2⟩, hU 0 h.u0, h.h0, fun k => (h.mnT k).mono hU, fun o ob ho => ⟨hU o (h.mnH o ob ho).1, (h.mnH o ob ho).2.mono hU⟩, h.evo⟩

/-- The number of draws, and what else doesn't count, may go on. -/
theorem RelE.drew {U : Nat → Prop} (h : RelE nt I U s E a w) (w' : World) (hh : w'.heap = w.heap) (ho : w'.os = w.os) (ht : w'.tape = w.tape) (hp : w'.output = w.output) : RelE nt I U s E a w' := by
  have k : Keeps U w w' E E s.H s.H := ⟨fun b _ h => ⟨by rw [hh], h⟩, fun b _ h => ⟨by rw [hh], h⟩, fun o _ => by
    cases hs : s.H o with
    | none => exact .inl rfl
    | some x => exact .inr ⟨rfl, x, x, rfl, rfl, Ob.like.refl x⟩⟩
  exact ⟨h.defers, h.size, fun j u hu => (h.slots j u hu).keeps k (h.mnT j), fun o ob hob => (h.live o ob hob).keeps k (h.mnH o ob hob).2 rfl (fun b q _ hq => ⟨by rw [hh], hq⟩), fun b ℓ hb => by rw [hh]; exact h.locLt b ℓ hb, h.old, h.pas, h.u0, h.h0, h.mnT, h.mnH,
    ⟨ho.trans h.evo.os, ht.trans h.evo.tape, hp.trans h.evo.output, by rw [hh]; exact h.evo.size, fun i hi hm => by rw [hh]; exact h.evo.block i hi hm⟩⟩

/-- A slot's value that is known more exactly. -/
theorem RelE.refine {U : Nat → Prop} (h : RelE nt I U s E a w) {d : Nat} {v : AV} (hv : s.t d = v) : RelE nt I U { s with t := upd s.t d v } E a w := by
  have : upd s.t d v = s.t := by
    funext k
    unfold upd
    split
    · rename_i hk; subst hk; exact hv.symm
    · rfl
  rw [this]
  exact h

theorem upon_good {o : Oper} {U : Nat → Prop} {id : Nat} {v : AV} {objs : List (Nat × Option Ob)} (hg : Good P o a w E s.H U id v objs) {next : Act → World → Prop} {Q : Exit → Act → World → Prop}
    (h : ∀ u w' E', Fx w E s.H U id v objs u w' E' → next (a.put o.dst u) w') : o.wp P a w next Q := by
  obtain ⟨u, w', E', hr, hf⟩ := hg
  unfold Oper.wp
  rcases hr with hr | ⟨hr, rfl⟩
  · rw [hr]; exact h u w' E' hf
  · rw [hr]; exact h undef w' E' hf

theorem stp_sound {o : Oper} {p : Nat} {K : ASt → Prop} {U : Nat → Prop} (hR : RelE nt I U s E a w) (hU : ∀ j, j < 8 → ¬ U (s.c + 8 * p + j)) (h : stp P nt p o s K) {next : Act → World → Prop} {Q : Exit → Act → World → Prop}
    (hn : ∀ s' E' a' w', K s' → s'.c = s.c → RelE nt I (fun o => U o ∨ ∃ j, j < 8 ∧ o = s.c + 8 * p + j) s' E' a' w' → next a' w') : o.wp P a w next Q := by
  have general : ∀ v objs, evOp P (s.c + 8 * p) s.H (getA nt s.t) o.op = some (v, objs) → K { t := putT nt s.t o.dst v, H := updL s.H objs, c := s.c } → o.wp P a w next Q := fun v objs he hK => by
    have hid : ¬ U (s.c + 8 * p) := by simpa using hU 0 (by omega)
    refine upon_good (ev_sound hR hid (fun _ _ h => h) he) (fun u w' E' hf => hn _ E' _ w' hK rfl ((Rel.step hR hid hf o.dst).mono (fun q hq => ?_)))
    rcases hq with hq | hq
    · exact .inl hq
    · exact .inr ⟨0, by omega, by omega⟩
  unfold stp at h
  split at h
  · rename_i f args ts hop
    obtain ⟨bor, ps, Hin, args', Post, ⟨hc, hok⟩, hnd, hl, hin, hal, hav, hpost⟩ := h
    have hrun : (execOp a.eval o).run P w = .ok (.enter f (args.map a.eval)) w := by
      have : (callFunc f (args.map a.eval)).run P w = .ok (.enter f (args.map a.eval)) w := by
        unfold callable at hc
        split at hc
        · rename_i fn hf
          rw [Bool.and_eq_true] at hc
          have h1 : fn.body ≠ none := by
            intro hb
            rw [hb] at hc
            simp at hc
          have h2 : fn.name ≠ "runtime.NumGoroutine" := by simpa using hc.2
          simp [callFunc, hf, h1, h2]
        · cases hc
      have h3 : execOp a.eval o = (do let d ← resolve a.eval { callee := .value (.func f), args := args, argTypes := ts } o.type; invoke d.target d.args) := by
        simp only [execOp, hop]
      rw [h3]
      simp [resolve, Deferred.ofValue, Act.eval, invoke, this]
    unfold Oper.wp
    rw [hrun]
    show Calls P f (args.map a.eval) w _
    have hvals : (args.map a.eval).size = args'.length := by rw [← hal]; simp
    have hview : ∀ (i : Nat) x u, args'[i]? = some x → (args.map a.eval)[i]? = some u → RdV w (E.call bor ps) (HpS Hin) x u := fun i x' u hx hu => by
      rw [Array.getElem?_map, Option.map_eq_some_iff] at hu
      obtain ⟨y, hy, rfl⟩ := hu
      have hy' : (args.toList.map (getA nt s.t))[i]? = some (getA nt s.t y) := by
        rw [List.getElem?_map, Array.getElem?_toList, hy]; rfl
      exact (hav i _ x' hy' hx).ok hR hnd hin (hR.get y)
    have hlocs : ∀ b ℓ, (E.call bor ps).loc b = some ℓ → b < w.heap.size := fun b ℓ hb => by
      simp only [Env.call, Option.bind_eq_some_iff] at hb
      obtain ⟨ℓ0, h0, _⟩ := hb
      exact hR.locLt b ℓ0 h0
    refine (hok w (E.call bor ps) (args.map a.eval) (ViewO.live hR hnd hin hl) hlocs hvals hview).mono ?_
    rintro e w' ⟨u, r, out, E', rfl, hP, hr, hlive, hrs, hros, hpas, hevo, hold, hlt⟩
    obtain ⟨q1, q2, q3, q4⟩ := hpost r out hP
    have hrs' : Rs bor out.length r := by cases bor with | true => exact (q3 rfl).1 | false => exact hrs
    have hros' : ∀ ob, some ob ∈ out → RsOb bor out.length ob := fun ob hob => by cases bor with | true => exact (q3 rfl).2 ob hob | false => exact hros ob hob
    exact hn _ _ _ w' q4 rfl (call_after hR hnd hin hl hU q1 q2 hr hlive hrs' hros' hpas hevo hold hlt o.dst)
  · obtain ⟨v, objs, he, hK⟩ := bindK_ex h
    exact general v objs he hK

theorem gstp_sound {ops : Array Oper} {o : Oper} {p : Nat} {K : ASt → Prop} {U : Nat → Prop} (hR : RelE nt I U s E a w) (hU : ∀ j, j < 8 → ¬ U (s.c + 8 * p + j)) (h : gstp P nt (dstOf ops) p o s K) {next : Act → World → Prop} {Q : Exit → Act → World → Prop}
    (hn : ∀ s' E' a' w', K s' → s'.c = s.c → RelE nt I (fun o => U o ∨ ∃ j, j < 8 ∧ o = s.c + 8 * p + j) s' E' a' w' → next a' w') :
    if Region.wanted o (yielded ops a.tmps) then o.wp P a w next Q else next (a.put o.dst undef) w := by
  unfold gstp at h
  split at h
  · rename_i hg
    rw [if_pos (by simp [Region.wanted, hg])]
    exact stp_sound hR hU h hn
  · rename_i j want hg
    obtain ⟨d, b, hd, hlt, hb, h1, h2⟩ : ∃ d b, dstOf ops j = some d ∧ d < nt ∧ s.t d = .c (.v (.bool b)) ∧
      (b = want → stp P nt p o { s with t := upd s.t d (.c (.v (.bool want))) } K) ∧ (b = (!want) → K { s with t := putT nt (upd s.t d (.c (.v (.bool (!want))))) o.dst .any }) := by
      cases hd : dstOf ops j with
      | none => rw [hd] at h; exact h.elim
      | some d =>
        rw [hd] at h
        obtain ⟨hlt, h⟩ := h
        obtain ⟨b, hb, h⟩ := boolK_ex h
        refine ⟨d, b, rfl, hlt, hb, ?_⟩
        cases want
        · exact ⟨h.2, h.1⟩
        · exact h
    have hsl : a.tmps[d]? = some (.bool b) := by
      have hk : d < a.tmps.size := by rw [hR.size]; exact hlt
      have h3 := hR.slots d a.tmps[d] (Array.getElem?_eq_getElem hk)
      rw [hb] at h3
      cases h3 with
      | c _ _ h3 =>
        generalize hq : a.tmps[d] = q at h3
        cases h3
        rw [Array.getElem?_eq_getElem hk, hq]
    have hw : Region.wanted o (yielded ops a.tmps) = (some b == some want) := by
      unfold Region.wanted
      rw [hg]
      simp only [yielded]
      unfold dstOf at hd
      rw [hd]
      simp [hsl]
    rw [hw]
    by_cases hbw : b = want
    · subst hbw
      rw [if_pos (by simp)]
      exact stp_sound (hR.refine hb) hU (h1 rfl) hn
    · have hbn : b = !want := by cases b <;> cases want <;> simp_all
      rw [if_neg (by simpa using hbw)]
      have hR' := hR.refine (d := d) (v := .c (.v (.bool (!want)))) (by rw [hb, hbn])
      have fx : Fx w E s.H U (s.c + 8 * p) .any [] undef w E := Fx.same hR.locLt (.any _) .any
      have := Rel.step hR' (by simpa using hU 0 (by omega)) fx o.dst
      refine hn _ E _ w (h2 hbn) rfl (this.mono (fun q hq => ?_))
      rcases hq with hq | hq
      · exact .inl hq
      · exact .inr ⟨0, by omega, by omega⟩

theorem seqR_sound {ops : Array Oper} {Q : Exit → Act → World → Prop} {c : Nat} : ∀ {l : List Oper} {p : Nat} {s : ASt} {E : Env} {a : Act} {w : World} {K : ASt → Prop}, s.c = c → RelE nt I (fun o => o < c + 8 * p) s E a w → seqR P nt (dstOf ops) p l s K →
    (∀ s' E' a' w', K s' → s'.c = c → RelE nt I (fun o => o < c + 8 * (p + l.length)) s' E' a' w' → Q .normal a' w') → wpList P ops Q l a w
  | [], p, s, E, a, w, K, hc, hR, h, hn => hn s E a w h hc hR
  | o :: r, p, s, E, a, w, K, hc, hR, h, hn => by
    have := gstp_sound (ops := ops) (P := P) (Q := Q) hR (fun j hj => by omega) h (next := wpList P ops Q r) (fun s' E' a' w' hK hc' hR' =>
      seqR_sound (hc'.trans hc) (hR'.mono (fun q hq => by rcases hq with hq | ⟨j, hj, rfl⟩ <;> omega)) hK (fun s2 E2 a2 w2 hK2 hc2 hR2 => hn s2 E2 a2 w2 hK2 hc2 (by rw [List.length_cons, show p + (r.length + 1) = p + 1 + r.length by omega]; exact hR2)))
    unfold wpList
    split
    · rename_i hw; rw [if_pos hw] at this; exact .inl this
    · rename_i hw; rw [if_neg hw] at this; exact this
end

end Go.Proofs.Ytnnmpdanfeejbaa.Abs
