/- The abstract machine: operations that have no order change places. -/
import Derived.Test.YtnnmpdanfeejbaaAbsT
namespace Go.Proofs.Ytnnmpdanfeejbaa.Abs
open Go Go.RowKit
set_option linter.unusedVariables false
set_option linter.unusedSimpArgs false

def isCallB (op : Op) : Bool := match op with
  | .call { callee := .value (.func _), args := _, argTypes := _ } => true
  | _ => false
def apS (nt : Nat) (s : ASt) (d : Option Nat) (v : AV) (objs : List (Nat × Option Ob)) : ASt := { t := putT nt s.t d v, H := updL s.H objs, c := s.c }

section
variable {P : Program} {nt : Nat} {pc : Bool} {ops : Array Oper} {s s' : ASt}

def vals (nt : Nat) (s : ASt) (o : Oper) : List AV := o.op.operands.toList.map (getA nt s.t)

/-- A step without a call: carried out or left out. -/
def DetS (P : Program) (nt : Nat) (pc : Bool) (ops : Array Oper) (p : Nat) (o : Oper) (acc : List Fp) (s : ASt) (fp : Fp) (v : AV) (objs : List (Nat × Option Ob)) : Prop :=
  (goes ops nt o s false ∧ fp = skipFp p ∧ v = .any ∧ objs = []) ∨
  (goes ops nt o s true ∧ isCallB o.op = false ∧ evOp P (s.c + 8 * p) (res (refsL (vals nt s o)) s.H) (getA nt s.t) o.op = some (v, objs) ∧ fp = detFp p (vals nt s o) v objs ∧ Ck pc ops acc fp)

theorem gstep_cases {p : Nat} {o : Oper} {acc : List Fp} {K : Fp → ASt → Prop} : gstepD P nt p pc ops o acc s K ↔
    (∃ fp v objs, DetS P nt pc ops p o acc s fp v objs ∧ K fp (apS nt s o.dst v objs)) ∨
    (goes ops nt o s true ∧ ∃ f args ts, o.op = .call { callee := .value (.func f), args := args, argTypes := ts } ∧ CallD P nt f (args.toList.map (getA nt s.t)) p (s.c + 8 * p) s (fun fp => Ck pc ops acc fp) fun fp s' => K fp (s' o.dst)) := by
  have hstep : ∀ {K : Fp → ASt → Prop}, stepD P nt p pc ops o acc s K ↔ (∃ v objs, isCallB o.op = false ∧ evOp P (s.c + 8 * p) (res (refsL (vals nt s o)) s.H) (getA nt s.t) o.op = some (v, objs) ∧ Ck pc ops acc (detFp p (vals nt s o) v objs) ∧ K (detFp p (vals nt s o) v objs) (apS nt s o.dst v objs)) ∨
      (∃ f args ts, o.op = .call { callee := .value (.func f), args := args, argTypes := ts } ∧ CallD P nt f (args.toList.map (getA nt s.t)) p (s.c + 8 * p) s (fun fp => Ck pc ops acc fp) fun fp s' => K fp (s' o.dst)) := by
    intro K
    unfold stepD
    split
    · rename_i f args ts hop
      constructor
      · exact fun h => .inr ⟨f, args, ts, hop, h⟩
      · rintro (⟨v, objs, h, _⟩ | ⟨f', args', ts', h1, h2⟩)
        · rw [hop] at h; cases h
        · rw [hop] at h1
          cases h1
          exact h2
    · rename_i op hno
      have hnc : isCallB o.op = false := by
        unfold isCallB
        split
        · rename_i f args ts h
          exact absurd h (hno f args ts)
        · rfl
      constructor
      · intro h
        obtain ⟨v, objs, he, hc, hK⟩ := bindK_ex h
        exact .inl ⟨v, objs, hnc, he, hc, hK⟩
      · rintro (⟨v, objs, _, he, hc, hK⟩ | ⟨f', args', ts', h1, _⟩)
        · show bindK (evOp P _ _ _ o.op) _
          have he' : evOp P (s.c + 8 * p) (res (refsL (o.op.operands.toList.map (getA nt s.t))) s.H) (getA nt s.t) o.op = some (v, objs) := he
          rw [he']
          exact ⟨hc, hK⟩
        · exact absurd h1 (hno f' args' ts')
  constructor
  · intro h
    rcases gstepD_goes h with ⟨hg, h⟩ | ⟨hg, h⟩
    · rcases hstep.1 h with ⟨v, objs, h1, h2, h3, h4⟩ | ⟨f, args, ts, h1, h2⟩
      · exact .inl ⟨_, v, objs, .inr ⟨hg, h1, h2, rfl, h3⟩, h4⟩
      · exact .inr ⟨hg, f, args, ts, h1, h2⟩
    · exact .inl ⟨_, _, _, .inl ⟨hg, rfl, rfl, rfl⟩, h⟩
  · rintro (⟨fp, v, objs, ⟨hg, rfl, rfl, rfl⟩ | ⟨hg, h1, h2, rfl, h3⟩, h4⟩ | ⟨hg, f, args, ts, h1, h2⟩)
    · exact gstepD_of (.inr ⟨hg, h4⟩)
    · exact gstepD_of (.inl ⟨hg, hstep.2 (.inl ⟨v, objs, h1, h2, h3, h4⟩)⟩)
    · exact gstepD_of (.inl ⟨hg, hstep.2 (.inr ⟨f, args, ts, h1, h2⟩)⟩)

theorem goes_congr {o : Oper} {b : Bool} (h : goes ops nt o s b) (hg : ∀ j w d, o.guard = some (j, w) → dstOf ops j = some d → s'.t d = s.t d) : goes ops nt o s' b := by
  unfold goes at h ⊢
  cases hgu : o.guard with
  | none => rw [hgu] at h; exact h
  | some jw =>
    obtain ⟨j, w⟩ := jw
    rw [hgu] at h
    obtain ⟨d, v, h1, h2, h3, h4⟩ := h
    exact ⟨d, v, h1, h2, by rw [hg j w d hgu h1]; exact h3, h4⟩

theorem res_congr {refs : List Nat} {H H' : Hp} (h : ∀ x ∈ refs, H' x = H x) : res refs H' = res refs H := by
  funext x
  unfold res
  split
  · rename_i hx; exact h x (by simpa using hx)
  · rfl

theorem DetS.loc {p : Nat} {o : Oper} {acc acc' : List Fp} {fp : Fp} {v : AV} {objs : List (Nat × Option Ob)} (h : DetS P nt pc ops p o acc s fp v objs) (ho : goes ops nt o s true → fp = detFp p (vals nt s o) v objs → ∀ x ∈ o.op.operands, getA nt s'.t x = getA nt s.t x)
    (hg : ∀ j w d, o.guard = some (j, w) → dstOf ops j = some d → s'.t d = s.t d) (hH : ∀ x ∈ fp.refs, s'.H x = s.H x) (hc : s'.c = s.c) (hck : Ck pc ops acc fp → Ck pc ops acc' fp) : DetS P nt pc ops p o acc' s' fp v objs := by
  rcases h with ⟨h1, h2, h3, h4⟩ | ⟨h1, h2, h3, h4, h5⟩
  · exact .inl ⟨goes_congr h1 hg, h2, h3, h4⟩
  · have ho' := ho h1 h4
    have hv : vals nt s' o = vals nt s o := List.map_congr_left (fun x hx => ho' x (by simpa using hx))
    have hrefs : fp.refs = refsL (vals nt s o) := by rw [h4]; rfl
    rw [hrefs] at hH
    refine .inr ⟨goes_congr h1 hg, h2, ?_, ?_, hck h5⟩
    · rw [hv, hc, res_congr hH, ← h3]
      exact evOp_congr ho'
    · rw [h4, hv]

theorem disj_iff {a b : List Nat} : disj a b = true ↔ ∀ x ∈ a, x ∉ b := by
  simp [disj]
theorem okPair_comm {x y : Fp} (h : okPair x y = true) : okPair y x = true := by
  simp only [okPair, Bool.and_eq_true, disj_iff, Bool.not_eq_true', Bool.or_eq_true] at h ⊢
  obtain ⟨⟨⟨h1, h2⟩, h3⟩, h4⟩ := h
  exact ⟨⟨⟨by rw [Bool.and_comm]; exact h1, h4⟩, fun a ha hb => h3 a hb ha⟩, h2⟩
theorem Ck_cons {acc : List Fp} {x f : Fp} : Ck pc ops (x :: acc) f ↔ (ordered ops f.p x.p = true ∨ okPair f x = true) ∧ Ck pc ops acc f := by
  simp only [Ck, chkB, List.all_cons, Bool.and_eq_true, Bool.or_eq_true]
  constructor
  · exact fun h => ⟨h.2.1, h.1, h.2.2⟩
  · exact fun h => ⟨h.2.1, h.1, h.2.2⟩
theorem Ck_sub {acc acc' : List Fp} {f : Fp} (h : ∀ x ∈ acc', x ∈ acc) (hc : Ck pc ops acc f) : Ck pc ops acc' f := by
  simp only [Ck, chkB, Bool.and_eq_true] at hc ⊢
  exact ⟨hc.1, List.all_eq_true.2 fun x hx => List.all_eq_true.1 hc.2 x (h x hx)⟩
theorem okPair_skip {p : Nat} {x : Fp} : okPair (skipFp p) x = true := by
  simp [okPair, skipFp, disj]

theorem DetS.fpp {p : Nat} {o : Oper} {acc : List Fp} {fp : Fp} {v : AV} {objs : List (Nat × Option Ob)} (h : DetS P nt pc ops p o acc s fp v objs) : fp.p = p ∧ fp.call = false ∧ fp.pas = false ∧ objs.map (·.1) = fp.wr := by
  rcases h with ⟨h1, rfl, h3, rfl⟩ | ⟨h1, h2, h3, rfl, h5⟩ <;> exact ⟨rfl, rfl, rfl, rfl⟩
/-- Two that have no order agree. -/
theorem DetS.okp {p q : Nat} {o : Oper} {acc : List Fp} {f fp : Fp} {v : AV} {objs : List (Nat × Option Ob)} (h : DetS P nt pc ops p o (f :: acc) s fp v objs) (hord : ordered ops p q = false) (hf : f.p = q) : okPair fp f = true ∧ (Ck pc ops acc fp ∨ fp = skipFp p) := by
  rcases h with ⟨h1, rfl, h3, rfl⟩ | ⟨h1, h2, h3, rfl, h5⟩
  · exact ⟨okPair_skip, .inr rfl⟩
  · have := Ck_cons.1 h5
    refine ⟨this.1.resolve_left (fun h => ?_), .inl this.2⟩
    rw [hf] at h
    have : ordered ops p q = true := h
    rw [hord] at this
    cases this

theorem apart_spec {x y : Oper} (h : apartB ops x y = true) : (∀ d, x.dst = some d → d ∉ y.looksAt ops ∧ y.dst ≠ some d) ∧ (∀ d, y.dst = some d → d ∉ x.looksAt ops ∧ x.dst ≠ some d) := by
  unfold apartB at h
  rw [Bool.and_eq_true] at h
  refine ⟨fun d hd => ?_, fun d hd => ?_⟩
  · have := h.1
    rw [hd] at this
    simpa using this
  · have := h.2
    rw [hd] at this
    simpa using this
theorem looks_op {o : Oper} {k : Nat} (h : Operand.tmp k ∈ o.op.operands) : k ∈ o.looksAt ops := by
  unfold Oper.looksAt
  refine List.mem_append_left _ (List.mem_filterMap.2 ⟨.tmp k, by simpa using h, rfl⟩)
theorem looks_guard {o : Oper} {j d : Nat} {w : Bool} (h : o.guard = some (j, w)) (hd : dstOf ops j = some d) : d ∈ o.looksAt ops := by
  unfold Oper.looksAt
  refine List.mem_append_right _ ?_
  rw [h]
  unfold dstOf at hd
  simp [hd]

/-- Slots that another's result doesn't touch. -/
theorem put_operands {x y : Oper} (h : apartB ops x y = true) {t : Nat → AV} {v : AV} : (∀ z ∈ y.op.operands, getA nt (putT nt t x.dst v) z = getA nt t z) ∧ (∀ j w d, y.guard = some (j, w) → dstOf ops j = some d → putT nt t x.dst v d = t d) := by
  have := (apart_spec h).1
  refine ⟨fun z hz => getA_congr (fun k hk => putT_at (fun hd => ?_)), fun j w d hg hd => putT_at (fun hx => (this d hx).1 (looks_guard hg hd))⟩
  subst hk
  exact (this k hd).1 (looks_op hz)
theorem apartB_comm {x y : Oper} (h : apartB ops x y = true) : apartB ops y x = true := by
  unfold apartB at h ⊢
  rw [Bool.and_comm]
  exact h
theorem dst_ne {x y : Oper} (h : apartB ops x y = true) : ∀ k, x.dst = some k → y.dst ≠ some k := fun k hk => ((apart_spec h).1 k hk).2
theorem ordered_comm {i j : Nat} : ordered ops i j = ordered ops j i := by unfold ordered; rw [Bool.or_comm]

theorem apS_comm {x y : Oper} (h : apartB ops x y = true) {v u : AV} {a b : List (Nat × Option Ob)} (hd : ∀ p ∈ a, ∀ q ∈ b, p.1 ≠ q.1) : apS nt (apS nt s x.dst v a) y.dst u b = apS nt (apS nt s y.dst u b) x.dst v a := by
  unfold apS
  simp only
  rw [putT_comm (dst_ne h), updL_comm hd]

theorem swap_det {i j : Nat} {oi oj : Oper} {acc : List Fp} (hap : apartB ops oj oi = true) (hord : ordered ops i j = false) {fj fi : Fp} {vj vi : AV} {bj bi : List (Nat × Option Ob)}
    (hj : DetS P nt pc ops j oj acc s fj vj bj) (hi : DetS P nt pc ops i oi (fj :: acc) (apS nt s oj.dst vj bj) fi vi bi) :
    DetS P nt pc ops i oi acc s fi vi bi ∧ DetS P nt pc ops j oj (fi :: acc) (apS nt s oi.dst vi bi) fj vj bj ∧ apS nt (apS nt s oj.dst vj bj) oi.dst vi bi = apS nt (apS nt s oi.dst vi bi) oj.dst vj bj := by
  obtain ⟨p1, c1, q1, w1⟩ := hj.fpp
  obtain ⟨p2, c2, q2, w2⟩ := hi.fpp
  obtain ⟨hok, _⟩ := hi.okp hord p1
  have hok' := okPair_comm hok
  simp only [okPair, Bool.and_eq_true, disj_iff] at hok hok'
  have hHi : ∀ x ∈ fi.refs, s.H x = (apS nt s oj.dst vj bj).H x := fun x hx => (updL_out (fun y hy e => hok'.1.1.2 y.1 (by rw [← w1]; exact List.mem_map_of_mem hy) (e ▸ hx))).symm
  have hHj : ∀ x ∈ fj.refs, (apS nt s oi.dst vi bi).H x = s.H x := fun x hx => updL_out (fun y hy e => hok.1.1.2 y.1 (by rw [← w2]; exact List.mem_map_of_mem hy) (e ▸ hx))
  have po := put_operands (nt := nt) hap (t := s.t) (v := vj)
  have po' := put_operands (nt := nt) (apartB_comm hap) (t := s.t) (v := vi)
  refine ⟨hi.loc (fun _ _ x hx => (po.1 x hx).symm) (fun j w d hg hd => (po.2 j w d hg hd).symm) hHi rfl (Ck_sub (fun x hx => List.mem_cons_of_mem _ hx)), hj.loc (fun _ _ => po'.1) po'.2 hHj rfl (fun hc => ?_), apS_comm hap (fun x hx y hy e => ?_)⟩
  · refine Ck_cons.2 ⟨.inr (by simp only [okPair, Bool.and_eq_true, disj_iff]; exact hok'), hc⟩
  · exact hok'.1.2 x.1 (by rw [← w1]; exact List.mem_map_of_mem hx) (by rw [← w2, e]; exact List.mem_map_of_mem hy)
end
end Go.Proofs.Ytnnmpdanfeejbaa.Abs
