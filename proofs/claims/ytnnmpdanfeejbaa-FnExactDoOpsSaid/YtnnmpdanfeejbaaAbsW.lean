/- The abstract machine: a region that draws its order holds of the model, whatever order is drawn. -/
import Derived.Test.YtnnmpdanfeejbaaAbsV
namespace Go.Proofs.Ytnnmpdanfeejbaa.Abs
open Go Go.RowKit
set_option linter.unusedVariables false
set_option linter.unusedSimpArgs false

theorem View.monoH {bor : Bool} {H H' : Hp} {ps : List Nat} (hH : ∀ o ob, H o = some ob → H' o = some ob) {x y : AV} (h : View bor H ps x y) : View bor H' ps x y := by
  induction h with
  | c x x' h => exact .c x x' h
  | same x => exact .same x
  | bw x x' h1 h2 h3 => exact .bw x x' h1 h2 h3
  | nul => exact .nul
  | nulR k => exact .nulR k
  | any x => exact .any x
  | slP o n k h => exact .slP o n k h
  | slB o n ty sz es x' h1 h2 h3 h4 h5 => exact .slB o n ty sz es x' h1 h2 (hH _ _ h3) h4 h5
  | ptP o i j k h => exact .ptP o i j k h
  | ptB o j ty cs cs' h1 h2 h3 h4 _ ih => exact .ptB o j ty cs cs' h1 h2 (hH _ _ h3) h4 ih
  | ptE o i j ty sz es e e' h1 h2 h3 h4 h5 => exact .ptE o i j ty sz es e e' h1 h2 (hH _ _ h3) h4 h5
  | ag cs cs' h _ ih => exact .ag cs cs' h ih
theorem ViewO.monoH {bor : Bool} {H H' : Hp} {ps : List Nat} (hH : ∀ o ob, H o = some ob → H' o = some ob) {x y : Ob} (h : ViewO bor H ps x y) : ViewO bor H' ps x y := by
  cases x <;> cases y <;> first | exact h.elim | exact h | exact ⟨h.1, h.2.1, fun i c c' hc hc' => (h.2.2 i c c' hc hc').monoH hH⟩

theorem res_le (refs : List Nat) (H : Hp) : ∀ o ob, res refs H o = some ob → H o = some ob := by
  intro o ob h
  unfold res at h
  split at h
  · exact h
  · cases h

section
variable {P : Program} {nt : Nat} {I : Ini} {pc : Bool} {ops : Array Oper} {s : ASt} {E : Env} {a : Act} {w : World}

theorem NoB.kl (h : NoB s) (ps : List Nat) : kl ps s.t = s.t ∧ klH ps s.H = s.H := by
  constructor
  · funext k
    rw [kl_at]
    exact klA_nb (.inr (h.1 k))
  · unfold klH
    split
    · rfl
    · funext o
      have := h.2 o
      show (s.H o).map killO = s.H o
      cases hh : s.H o with
      | none => rfl
      | some ob => rw [hh] at this; simp only [Option.map_some, nb_killO this]

theorem rs_nb {bor : Bool} {m : Nat} {f : Nat → Nat} {x : AV} (h : Rs bor m x) : nbA (renA f x) = true := by
  have hl : ∀ (l : List AV), (∀ c ∈ l, nbA (renA f c) = true) → nbL (renL f l) = true := by
    intro l
    induction l with
    | nil => exact fun _ => rfl
    | cons y r ih =>
      intro hy
      show (nbA (renA f y) && nbL (renL f r)) = true
      rw [hy y (List.mem_cons_self ..), ih (fun z hz => hy z (List.mem_cons_of_mem _ hz))]
      rfl
  induction h with
  | v x => rfl
  | c x _ => rfl
  | nul => rfl
  | any => rfl
  | sl o n _ _ => rfl
  | pt o i j _ _ => rfl
  | ag cs _ ih => exact hl cs ih
  | tu cs _ ih => exact hl cs ih

theorem rsL_nb {bor : Bool} {m : Nat} {f : Nat → Nat} {l : List AV} (h : ∀ c ∈ l, Rs bor m c) : nbL (renL f l) = true := by
  induction l with
  | nil => rfl
  | cons y r ih =>
    show (nbA (renA f y) && nbL (renL f r)) = true
    rw [rs_nb (h y (List.mem_cons_self ..)), ih (fun z hz => h z (List.mem_cons_of_mem _ hz))]
    rfl
theorem CallOk.rs {P : Program} {f : Nat} {Hin : List Ob} {args : List AV} {Post : AV → List (Option Ob) → Prop} (h : CallOk P f Hin args Post) :
    CallOk P f Hin args (fun r out => Post r out ∧ Rs false out.length r ∧ ∀ ob, some ob ∈ out → RsOb false out.length ob) := by
  refine ⟨h.1, fun w E vals h1 h2 h3 h4 => (h.2 w E vals h1 h2 h3 h4).mono ?_⟩
  rintro e w' ⟨u, r, out, E', rfl, hP, hr, hlive, hrs, hros, rest⟩
  exact ⟨u, r, out, E', rfl, ⟨hP, hrs, hros⟩, hr, hlive, hrs, hros, rest⟩

theorem NoB.put (h : NoB s) {d : Option Nat} {v : AV} {objs : List (Nat × Option Ob)} (hv : nbA v = true) (ho : ∀ x ∈ objs, nbO x.2 = true) : NoB { t := putT nt s.t d v, H := updL s.H objs, c := s.c } := by
  refine ⟨fun k => ?_, fun o => ?_⟩
  · show nbA (putT nt s.t d v k) = true
    cases d with
    | none => exact h.1 k
    | some d =>
      simp only [putT]
      split
      · rw [upd_at]
        split
        · exact hv
        · exact h.1 k
      · exact h.1 k
  · show nbO (updL s.H objs o) = true
    by_cases hx : ∃ x ∈ objs, x.1 = o
    · have : ∀ (l : List (Nat × Option Ob)) (H : Hp), (∀ x ∈ l, nbO x.2 = true) → (∀ o, nbO (H o) = true) → ∀ o, nbO (updL H l o) = true := by
        intro l
        induction l with
        | nil => exact fun H _ h => h
        | cons y r ih =>
          intro H hl hH o
          refine ih (upd H y.1 y.2) (fun z hz => hl z (List.mem_cons_of_mem _ hz)) (fun q => ?_) o
          rw [upd_at]
          split
          · exact hl y (List.mem_cons_self ..)
          · exact hH q
      exact this objs s.H ho h.2 o
    · rw [updL_out (fun x hx' e => hx ⟨x, hx', e⟩)]
      exact h.2 o

theorem gstepD_mono {p : Nat} {o : Oper} {acc : List Fp} {K K' : Fp → ASt → Prop} (hk : ∀ fp s', K fp s' → K' fp s') (h : gstepD P nt p pc ops o acc s K) : gstepD P nt p pc ops o acc s K' := by
  rcases gstep_cases.1 h with ⟨fp, v, objs, hd, hK⟩ | ⟨hg, f, args, ts, ho, hc⟩
  · exact gstep_cases.2 (.inl ⟨fp, v, objs, hd, hk _ _ hK⟩)
  · exact gstep_cases.2 (.inr ⟨hg, f, args, ts, ho, hc.congr rfl (fun used ps hck => ⟨hck, fun _ _ => rfl⟩) (fun used ps r out _ _ hK => hk _ _ hK)⟩)

theorem moveFront {i : Nat} {oi : Oper} {post : List (Nat × Oper)} {K : ASt → Prop} : ∀ {pre : List (Nat × Oper)} {acc : List Fp} {s : ASt}, (∀ x ∈ pre, apartB ops x.2 oi = true ∧ ordered ops i x.1 = false) →
    drawR P nt pc ops (pre ++ (i, oi) :: post) acc s K → drawR P nt pc ops ((i, oi) :: (pre ++ post)) acc s K
  | [], acc, s, _, h => h
  | (j, oj) :: pre, acc, s, hx, h => by
    have h1 : drawR P nt pc ops ((j, oj) :: (i, oi) :: (pre ++ post)) acc s K := gstepD_mono (fun fp s' hK => moveFront (fun x hx' => hx x (List.mem_cons_of_mem _ hx')) hK) h
    obtain ⟨h2, h3⟩ := hx (j, oj) (List.mem_cons_self ..)
    exact drawR_swap h2 h3 h1

theorem goes_wanted {o : Oper} {b : Bool} {U : Nat → Prop} (hR : RelE nt I U s E a w) (h : goes ops nt o s b) : Region.wanted o (yielded ops a.tmps) = b := by
  unfold goes at h
  cases hg : o.guard with
  | none => rw [hg] at h; simp only at h; simp [Region.wanted, hg, h]
  | some jw =>
    obtain ⟨j, want⟩ := jw
    rw [hg] at h
    obtain ⟨d, v, hd, hlt, hb, rfl⟩ := h
    have hk : d < a.tmps.size := by rw [hR.size]; exact hlt
    have h3 := hR.slots d a.tmps[d] (Array.getElem?_eq_getElem hk)
    rw [hb] at h3
    have hsl : a.tmps[d]? = some (.bool v) := by
      cases h3 with
      | c _ _ h3 =>
        generalize hq : a.tmps[d] = q at h3
        cases h3
        rw [Array.getElem?_eq_getElem hk, hq]
    unfold Region.wanted
    rw [hg]
    simp only [yielded]
    unfold dstOf at hd
    rw [hd]
    simp only [Option.bind_some, hsl]
    cases v <;> cases want <;> rfl

theorem gstepD_sound {o : Oper} {p : Nat} {acc : List Fp} {K : Fp → ASt → Prop} {U : Nat → Prop} (hR : RelE nt I U s E a w) (hU : ∀ j, j < 8 → ¬ U (s.c + 8 * p + j)) (hnb : pc = true → NoB s) (h : gstepD P nt p pc ops o acc s K) {next : Act → World → Prop} {Q : Exit → Act → World → Prop}
    (hn : ∀ fp s' E' a' w', K fp s' → s'.c = s.c → (pc = true → NoB s') → RelE nt I (fun o => U o ∨ ∃ j, j < 8 ∧ o = s.c + 8 * p + j) s' E' a' w' → next a' w') :
    if Region.wanted o (yielded ops a.tmps) then o.wp P a w next Q else next (a.put o.dst undef) w := by
  have hU0 : ¬ U (s.c + 8 * p) := by simpa using hU 0 (by omega)
  have hmono : ∀ {s' : ASt} {E' : Env} {a' : Act} {w' : World}, RelE nt I (fun o => U o ∨ o = s.c + 8 * p) s' E' a' w' → RelE nt I (fun o => U o ∨ ∃ j, j < 8 ∧ o = s.c + 8 * p + j) s' E' a' w' := fun h => h.mono (fun q hq => hq.imp (fun h => h) (fun h => ⟨0, by omega, by omega⟩))
  rcases gstep_cases.1 h with ⟨fp, v, objs, hd, hK⟩ | ⟨hg, f, args, ts, hop, hc⟩
  · rcases hd with ⟨h1, rfl, rfl, rfl⟩ | ⟨h1, h2, h3, rfl, h5⟩
    · rw [goes_wanted hR h1]
      rw [if_neg (by simp)]
      have fx : Fx w E s.H U (s.c + 8 * p) .any [] undef w E := Fx.same hR.locLt (.any _) .any
      exact hn _ _ E _ w hK rfl (fun hp => (hnb hp).put rfl (fun x hx => by simp at hx)) (hmono (Rel.step hR hU0 fx o.dst))
    · rw [goes_wanted hR h1, if_pos rfl]
      refine upon_good (ev_sound hR hU0 (res_le _ _) h3) (fun u w' E' hf => hn _ _ E' _ w' hK rfl (fun hp => (hnb hp).put ?_ ?_) (hmono (Rel.step hR hU0 hf o.dst)))
      · simp only [Ck, Bool.and_eq_true, detFp, hp, Bool.not_true, Bool.false_or] at h5
        exact h5.1.1.1
      · simp only [Ck, Bool.and_eq_true, detFp, hp, Bool.not_true, Bool.false_or] at h5
        exact List.all_eq_true.1 h5.1.1.2
  · rw [goes_wanted hR hg, if_pos rfl]
    obtain ⟨used, bor, ps, Hin, args', Post, hok, hnd, hl, hin, hal, hav, hck, _, hpost⟩ := hc
    have hkl : kl ps s.t = s.t ∧ klH ps s.H = s.H := by
      by_cases hps : ps = []
      · subst hps; exact ⟨rfl, rfl⟩
      · simp only [Ck, Bool.and_eq_true, Bool.or_eq_true, Bool.not_eq_true', Bool.not_eq_false'] at hck
        have : pc = true := by
          rcases hck.1.2 with h | h
          · exact absurd (List.isEmpty_iff.1 (by simpa using h)) hps
          · exact h
        exact (hnb this).kl ps
    have hafter : ∀ id d r out, after nt s ps id d r out = after0 nt s ps id d r out := fun id d r out => by
      unfold after after0
      rw [hkl.1, hkl.2]
    have hstp : stp P nt p o s (fun s' => ∃ fp, K fp s' ∧ (pc = true → NoB s')) := by
      unfold stp
      rw [hop]
      refine ⟨bor, ps, Hin, args', _, hok.rs, hnd, hl, fun k q hk => ?_, hal, fun i x x' hx hx' => (hav i x x' hx hx').monoH (res_le _ _), fun r out ⟨hP, hrs, hros⟩ => ?_⟩
      · obtain ⟨ob, ob', h1, h2, h3⟩ := hin k q hk
        exact ⟨ob, ob', res_le _ _ _ _ h1, h2, h3.monoH (res_le _ _)⟩
      · obtain ⟨q1, q2, q3, q4⟩ := hpost r out hP
        refine ⟨q1, q2, q3, ?_⟩
        rw [hafter]
        refine ⟨_, q4, fun hp => (hnb hp).put (rs_nb hrs) (fun x hx => ?_)⟩
        obtain ⟨j, y, hj, rfl⟩ := callObjs_mem hx
        cases y with
        | none => rfl
        | some ob =>
          have := hros ob (List.mem_of_getElem? hj)
          cases ob with
          | box ty cs =>
            show nbL (renL _ cs) = true
            exact rsL_nb this
          | rw => rfl
    exact stp_sound hR hU hstp (fun s' E' a' w' ⟨fp, hK, hnb'⟩ hc hR' => hn fp s' E' a' w' hK hc hnb' hR')

theorem fast_spec (h : fastB ops = true) {i : Nat} {o : Oper} (ho : ops[i]? = some o) : (∀ e ∈ o.after, Region.binds .any e = true → e.on < i) ∧ ∀ j o', j < i → ops[j]? = some o' → ordered ops i j = true ∨ apartB ops o o' = true := by
  unfold fastB at h
  have hi := (Array.getElem?_eq_some_iff.1 ho).1
  have := List.all_eq_true.1 h i (List.mem_range.2 hi)
  rw [ho] at this
  simp only [Bool.and_eq_true] at this
  refine ⟨fun e he hb => ?_, fun j o' hj ho' => ?_⟩
  · have h1 := List.all_eq_true.1 this.1 e (by simpa using he)
    simpa [hb] using h1
  · have h1 := List.all_eq_true.1 this.2 j (List.mem_range.2 hj)
    rw [ho'] at h1
    simpa using h1
theorem anc_lt (h : fastB ops = true) : ∀ {f i j : Nat}, ancB ops f i j = true → j < i
  | 0, i, j, hh => by cases hh
  | f + 1, i, j, hh => by
    unfold ancB at hh
    split at hh
    · rename_i o ho
      obtain ⟨e, he, hb⟩ := List.any_eq_true.1 hh
      simp only [Bool.and_eq_true, Bool.or_eq_true, beq_iff_eq] at hb
      have h1 := (fast_spec h ho).1 e (by simpa using he) hb.1
      rcases hb.2 with h2 | h2
      · omega
      · have := anc_lt h h2
        omega
    · cases hh
/-- What has come up is closed under what must come before. -/
def Closed (ops : Array Oper) (l : Array Bool) : Prop := ∀ (i : Nat) o, ops[i]? = some o → l.getD i true = true → ∀ e ∈ o.after, Region.binds .any e = true → l.getD e.on false = true
theorem getD_tf {l : Array Bool} {i : Nat} (h : l.getD i false = true) : l.getD i true = true := by
  simp only [Array.getD_eq_getD_getElem?] at h ⊢
  cases hh : l[i]? with
  | none => rw [hh] at h; cases h
  | some b => rw [hh] at h; exact h
theorem anc_listed {l : Array Bool} (hc : Closed ops l) : ∀ {f i j : Nat} {o : Oper}, ops[i]? = some o → (∀ e ∈ o.after, Region.binds .any e = true → l.getD e.on false = true) → ancB ops f i j = true → l.getD j true = true
  | 0, i, j, o, ho, hp, hh => by cases hh
  | f + 1, i, j, o, ho, hp, hh => by
    unfold ancB at hh
    rw [ho] at hh
    obtain ⟨e, he, hb⟩ := List.any_eq_true.1 hh
    simp only [Bool.and_eq_true, Bool.or_eq_true, beq_iff_eq] at hb
    have h1 := hp e (by simpa using he) hb.1
    rcases hb.2 with h2 | h2
    · rw [← h2]; exact getD_tf h1
    · cases ho' : ops[e.on]? with
      | none =>
        cases f with
        | zero => cases h2
        | succ f => unfold ancB at h2; rw [ho'] at h2; cases h2
      | some o' => exact anc_listed hc ho' (hc e.on o' ho' (getD_tf h1)) h2

theorem any_sound (hfast : fastB ops = true) {c : Nat} {K : ASt → Prop} {Q : Exit → Act → World → Prop} (hend : ∀ s' E' a' w', K s' → s'.c = c → RelE nt I (fun o => o < c + 8 * ops.size) s' E' a' w' → Q .normal a' w') :
    ∀ (fuel : Nat) (listed : Array Bool) (L : List (Nat × Oper)) (acc : List Fp) (s : ASt) (E : Env) (a : Act) (w : World), listed.size = ops.size → (∀ p o, (p, o) ∈ L ↔ ops[p]? = some o ∧ listed.getD p true = false) → L.Pairwise (fun x y => x.1 < y.1) → L.length ≤ fuel → Closed ops listed →
      s.c = c → (pc = true → NoB s) → drawR P nt pc ops L acc s K → RelE nt I (fun q => q < c ∨ ∃ p j, p < ops.size ∧ listed.getD p true = true ∧ j < 8 ∧ q = c + 8 * p + j) s E a w → wpAny P .any ops Q fuel listed a w := by
  intro fuel
  have hfin : ∀ (listed : Array Bool) (L : List (Nat × Oper)) (acc : List Fp) (s : ASt) (E : Env) (a : Act) (w : World), L = [] → s.c = c → drawR P nt pc ops L acc s K → RelE nt I (fun q => q < c ∨ ∃ p j, p < ops.size ∧ listed.getD p true = true ∧ j < 8 ∧ q = c + 8 * p + j) s E a w → Q .normal a w := by
    intro listed L acc s E a w hL hc h hR
    subst hL
    refine hend s E a w h hc (hR.mono (fun q hq => ?_))
    rcases hq with hq | ⟨p, j, hp, _, hj, rfl⟩ <;> omega
  have hready : ∀ (listed : Array Bool) (i : Nat), i ∈ Region.ready .any ops listed ↔ ∃ o, ops[i]? = some o ∧ listed.getD i true = false ∧ ∀ e ∈ o.after, Region.binds .any e = true → listed.getD e.on false = true := by
    intro listed i
    unfold Region.ready
    rw [List.mem_filter, List.mem_range]
    constructor
    · rintro ⟨hi, h⟩
      have ho := Array.getElem?_eq_getElem hi
      rw [ho] at h
      simp only [Option.map_some, Option.getD_some, Bool.and_eq_true, Bool.not_eq_true'] at h
      refine ⟨_, ho, h.1, fun e he hb => ?_⟩
      have := Array.all_eq_true'.1 h.2 e he
      simpa [hb] using this
    · rintro ⟨o, ho, h1, h2⟩
      refine ⟨(Array.getElem?_eq_some_iff.1 ho).1, ?_⟩
      rw [ho, h1]
      simp only [Option.map_some, Option.getD_some, Bool.not_false, Bool.true_and]
      refine Array.all_eq_true'.2 (fun e he => ?_)
      by_cases hb : Region.binds .any e = true
      · simp [h2 e he hb]
      · simp [hb]
  have hnil : ∀ (listed : Array Bool) (L : List (Nat × Oper)), listed.size = ops.size → (∀ p o, (p, o) ∈ L ↔ ops[p]? = some o ∧ listed.getD p true = false) → L.Pairwise (fun x y => x.1 < y.1) → Region.ready .any ops listed = [] → L = [] := by
    intro listed L hsz hL hs hr
    cases L with
    | nil => rfl
    | cons x r =>
      exfalso
      obtain ⟨p, o⟩ := x
      obtain ⟨ho, hl⟩ := (hL p o).1 (List.mem_cons_self ..)
      have : p ∈ Region.ready .any ops listed := (hready listed p).2 ⟨o, ho, hl, fun e he hb => ?_⟩
      · rw [hr] at this; simp at this
      · have hlt := (fast_spec hfast ho).1 e he hb
        have hp := (Array.getElem?_eq_some_iff.1 ho).1
        have hoe := Array.getElem?_eq_getElem (xs := ops) (i := e.on) (by omega)
        cases hb' : listed.getD e.on true with
        | true =>
          have hlt' : e.on < listed.size := by omega
          simp only [Array.getD_eq_getD_getElem?, Array.getElem?_eq_getElem hlt', Option.getD_some] at hb' ⊢
          exact hb'
        | false =>
          have hm := (hL e.on _).2 ⟨hoe, hb'⟩
          rcases List.mem_cons.1 hm with h | h
          · cases h; omega
          · have := (List.pairwise_cons.1 hs).1 _ h
            simp at this
            omega
  induction fuel with
  | zero =>
    intro listed L acc s E a w hsz hL hs hlen hcl hc hnb h hR
    have hL0 : L = [] := List.eq_nil_of_length_eq_zero (by omega)
    refine ⟨?_, hfin listed L acc s E a w hL0 hc h hR⟩
    rw [List.eq_nil_iff_forall_not_mem]
    intro i hi
    obtain ⟨o, ho, hl, _⟩ := (hready listed i).1 hi
    have := (hL i o).2 ⟨ho, hl⟩
    rw [hL0] at this
    simp at this
  | succ fuel ih =>
    intro listed L acc s E a w hsz hL hs hlen hcl hc hnb h hR
    refine ⟨fun hr => hfin listed L acc s E a w (hnil listed L hsz hL hs hr) hc h hR, fun i hi => ?_⟩
    obtain ⟨oi, ho, hl, hpred⟩ := (hready listed i).1 hi
    have hil := (Array.getElem?_eq_some_iff.1 ho).1
    obtain ⟨pre, post, rfl⟩ := List.append_of_mem ((hL i oi).2 ⟨ho, hl⟩)
    have hpre : ∀ x ∈ pre, apartB ops x.2 oi = true ∧ ordered ops i x.1 = false := fun x hx => by
      obtain ⟨j, oj⟩ := x
      have hj := (hL j oj).1 (List.mem_append_left _ hx)
      have hlt : j < i := by
        have := (List.pairwise_append.1 hs).2.2 (j, oj) hx (i, oi) (List.mem_cons_self ..)
        exact this
      have hord : ordered ops i j = false := by
        unfold ordered
        rw [Bool.or_eq_false_iff]
        constructor
        · cases hb : ancB ops ops.size i j with
          | false => rfl
          | true =>
            have := anc_listed hcl ho hpred hb
            rw [hj.2] at this
            cases this
        · cases hb : ancB ops ops.size j i with
          | false => rfl
          | true =>
            have := anc_lt hfast hb
            omega
      refine ⟨?_, hord⟩
      rcases (fast_spec hfast ho).2 j oj hlt hj.1 with h1 | h1
      · rw [hord] at h1; cases h1
      · exact apartB_comm h1
    have h' := moveFront hpre h
    have hU : ∀ j, j < 8 → ¬ (s.c + 8 * i + j < c ∨ ∃ p j', p < ops.size ∧ listed.getD p true = true ∧ j' < 8 ∧ s.c + 8 * i + j = c + 8 * p + j') := by
      intro j hj hx
      rw [hc] at hx
      rcases hx with hx | ⟨p, j', hp, hpl, hj', he⟩
      · omega
      · have : p = i := by omega
        subst this
        rw [hl] at hpl
        cases hpl
    unfold wpOp
    rw [ho]
    have hst := gstepD_sound (ops := ops) (P := P) (Q := Q) (next := wpAny P .any ops Q fuel (listed.setIfInBounds i true)) hR hU hnb h' (fun fp s' E' a' w' hK hc' hnb' hR' => ?_)
    · simp only
      split
      · rename_i hw; rw [if_pos hw] at hst; exact .inl hst
      · rename_i hw; rw [if_neg hw] at hst; exact hst
    · have hset : ∀ (p : Nat) (d : Bool), p < ops.size → (listed.setIfInBounds i true).getD p d = if p = i then true else listed.getD p d := fun p d hp => by
        simp only [Array.getD_eq_getD_getElem?, Array.getElem?_setIfInBounds]
        by_cases hpi : p = i
        · subst hpi
          simp [hsz, hil]
        · rw [if_neg (fun h => hpi h.symm), if_neg hpi]
      refine ih (listed.setIfInBounds i true) (pre ++ post) (fp :: acc) s' E' a' w' (by simpa using hsz) (fun p o => ?_) ?_ (by simp at hlen ⊢; omega) (fun p o hop hlp e he hb => ?_) (hc'.trans hc) hnb' hK (hR'.mono (fun q hq => ?_))
      · have h1 := hL p o
        rw [List.mem_append, List.mem_cons] at h1
        rw [List.mem_append]
        constructor
        · intro hm
          have h2 := h1.1 (hm.imp id (fun h => .inr h))
          have hps := (Array.getElem?_eq_some_iff.1 h2.1).1
          refine ⟨h2.1, ?_⟩
          rw [hset p true hps, if_neg]
          · exact h2.2
          · intro hpi
            subst hpi
            have hpw := List.pairwise_append.1 hs
            rcases hm with hm | hm
            · have := hpw.2.2 _ hm _ (List.mem_cons_self ..)
              simp at this
            · have := (List.pairwise_cons.1 hpw.2.1).1 _ hm
              simp at this
        · rintro ⟨h2, h3⟩
          have hps := (Array.getElem?_eq_some_iff.1 h2).1
          rw [hset p true hps] at h3
          split at h3
          · cases h3
          · rename_i hpi
            rcases h1.2 ⟨h2, h3⟩ with h | h | h
            · exact .inl h
            · cases h; exact absurd rfl hpi
            · exact .inr h
      · rw [List.pairwise_append] at hs ⊢
        exact ⟨hs.1, (List.pairwise_cons.1 hs.2.1).2, fun x hx y hy => hs.2.2 x hx y (List.mem_cons_of_mem _ hy)⟩
      · have hps := (Array.getElem?_eq_some_iff.1 hop).1
        have hlt := (fast_spec hfast hop).1 e he hb
        rw [hset e.on false (by omega)]
        split
        · rfl
        · rw [hset p true hps] at hlp
          split at hlp
          · rename_i hpi
            subst hpi
            rw [ho] at hop
            cases hop
            exact hpred e he hb
          · exact hcl p o hop hlp e he hb
      · rcases hq with (hq | ⟨p, j, hp, hpl, hj, rfl⟩) | ⟨j, hj, rfl⟩
        · exact .inl hq
        · refine .inr ⟨p, j, hp, ?_, hj, rfl⟩
          rw [hset p true hp]
          split
          · rfl
          · exact hpl
        · refine .inr ⟨i, j, hil, ?_, hj, by rw [hc]⟩
          rw [hset i true hil, if_pos rfl]

theorem numbered_mem : ∀ {l : List Oper} {k p : Nat} {o : Oper}, (p, o) ∈ numbered k l ↔ k ≤ p ∧ l[p - k]? = some o
  | [], k, p, o => by simp [numbered]
  | x :: r, k, p, o => by
    unfold numbered
    rw [List.mem_cons, numbered_mem]
    constructor
    · rintro (h | ⟨h1, h2⟩)
      · cases h; simp
      · refine ⟨by omega, ?_⟩
        rw [show p - k = (p - (k + 1)) + 1 by omega]
        simpa using h2
    · rintro ⟨h1, h2⟩
      by_cases hp : p = k
      · subst hp
        simp at h2
        exact .inl (by rw [h2])
      · refine .inr ⟨by omega, ?_⟩
        rw [show p - k = (p - (k + 1)) + 1 by omega] at h2
        simpa using h2
theorem numbered_sorted : ∀ {l : List Oper} {k : Nat}, (numbered k l).Pairwise (fun x y => x.1 < y.1)
  | [], k => .nil
  | x :: r, k => by
    unfold numbered
    refine List.pairwise_cons.2 ⟨fun y hy => ?_, numbered_sorted⟩
    obtain ⟨p, o⟩ := y
    have := (numbered_mem.1 hy).1
    show k < p
    omega
theorem numbered_length : ∀ {l : List Oper} {k : Nat}, (numbered k l).length = l.length
  | [], k => rfl
  | x :: r, k => by unfold numbered; rw [List.length_cons, numbered_length, List.length_cons]

theorem drawQ_sound (hm : P.follows .mixedOrders = true) {id : Nat} {K : ASt → Prop} {Q : Exit → Act → World → Prop} (hR : RelE nt I (fun o => o < s.c) s E a w) (h : DrawQ P nt ops s K)
    (hn : ∀ s' E' a' w', K s' → s'.c = s.c → RelE nt I (fun o => o < s.c + 8 * ops.size) s' E' a' w' → Q .normal a' w') : (Code.region id ops true).wp P Q a w := by
  obtain ⟨hfast, pc, hnb, h⟩ := h
  have hrep : ∀ (p : Nat) (d : Bool), p < ops.size → (Array.replicate ops.size false).getD p d = false := fun p d hp => by
    simp [Array.getD_eq_getD_getElem?, hp]
  refine wp_region_any hm (any_sound hfast (c := s.c) hn ops.size (Array.replicate ops.size false) (numbered 0 ops.toList) [] s E a _ (by simp) (fun p o => ?_) numbered_sorted (by rw [numbered_length]; simp) (fun i o ho hl => ?_) rfl hnb h ((hR.drew { w with drawn := w.drawn + 1 } rfl rfl rfl rfl).mono (fun q hq => .inl hq)))
  · rw [numbered_mem]
    constructor
    · rintro ⟨_, h2⟩
      have h3 : ops[p]? = some o := by simpa using h2
      exact ⟨h3, hrep p true (Array.getElem?_eq_some_iff.1 h3).1⟩
    · rintro ⟨h2, _⟩
      exact ⟨Nat.zero_le _, by simpa using h2⟩
  · rw [hrep i true (Array.getElem?_eq_some_iff.1 ho).1] at hl
    cases hl
end
end Go.Proofs.Ytnnmpdanfeejbaa.Abs
