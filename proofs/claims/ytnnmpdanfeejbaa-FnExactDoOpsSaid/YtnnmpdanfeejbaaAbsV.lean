/- The abstract machine: a call and an operation that has no order to it change places. -/
import Derived.Test.YtnnmpdanfeejbaaAbsU
namespace Go.Proofs.Ytnnmpdanfeejbaa.Abs
open Go Go.RowKit
set_option linter.unusedVariables false
set_option linter.unusedSimpArgs false

mutual
theorem nb_kill : (x : AV) → nbA x = true → killA x = x
  | .sl o n, _ => rfl
  | .pt o i j, _ => rfl
  | .ag cs, h => by
    show AV.ag (killL cs) = .ag cs
    rw [nb_killL cs h]
  | .tu cs, h => by
    show AV.tu (killL cs) = .tu cs
    rw [nb_killL cs h]
  | .c x, _ => rfl
  | .nul, _ => rfl
  | .any, _ => rfl
  | .bw x, h => by cases h
termination_by structural x => x
theorem nb_killL : (l : List AV) → nbL l = true → killL l = l
  | [], _ => rfl
  | x :: r, h => by
    simp only [nbL, Bool.and_eq_true] at h
    show killA x :: killL r = x :: r
    rw [nb_kill x h.1, nb_killL r h.2]
termination_by structural l => l
end
theorem nb_killO {x : Ob} (h : nbO (some x) = true) : killO x = x := by
  cases x with
  | box ty cs =>
    show Ob.box ty (killL cs) = _
    rw [nb_killL cs h]
  | rw => rfl
theorem nbL_mem {l : List AV} (h : nbL l = true) : ∀ x ∈ l, nbA x = true := by
  induction l with
  | nil => exact fun x hx => by simp at hx
  | cons y r ih =>
    simp only [nbL, Bool.and_eq_true] at h
    intro x hx
    rcases List.mem_cons.1 hx with rfl | hx
    · exact h.1
    · exact ih h.2 x hx
theorem klA_nb {ps : List Nat} {x : AV} (h : ps.isEmpty = true ∨ nbA x = true) : klA ps x = x := by
  unfold klA
  split
  · rfl
  · rename_i hn
    exact nb_kill x (h.resolve_left hn)

section
variable {P : Program} {nt : Nat} {pc : Bool} {ops : Array Oper} {s s' : ASt}

theorem goes_unique {o : Oper} {b b' : Bool} (h : goes ops nt o s b) (h' : goes ops nt o s b') : b = b' := by
  unfold goes at h h'
  cases hg : o.guard with
  | none => rw [hg] at h h'; simp only at h h'; rw [h, h']
  | some jw =>
    obtain ⟨j, w⟩ := jw
    rw [hg] at h h'
    obtain ⟨d, v, h1, h2, h3, h4⟩ := h
    obtain ⟨d', v', h1', h2', h3', h4'⟩ := h'
    rw [h1] at h1'
    cases h1'
    rw [h3] at h3'
    cases h3'
    rw [h4, h4']
theorem DetS.unique {p : Nat} {o : Oper} {acc acc' : List Fp} {fp fp' : Fp} {v v' : AV} {b b' : List (Nat × Option Ob)} (h : DetS P nt pc ops p o acc s fp v b) (h' : DetS P nt pc ops p o acc' s fp' v' b') : fp = fp' ∧ v = v' ∧ b = b' := by
  rcases h with ⟨h1, rfl, rfl, rfl⟩ | ⟨h1, h2, h3, rfl, h5⟩ <;> rcases h' with ⟨g1, rfl, rfl, rfl⟩ | ⟨g1, g2, g3, rfl, g5⟩
  · exact ⟨rfl, rfl, rfl⟩
  · have := goes_unique h1 g1; cases this
  · have := goes_unique h1 g1; cases this
  · rw [h3] at g3
    cases g3
    exact ⟨rfl, rfl, rfl⟩

theorem callObjs_ids {ps : List Nat} {id : Nat} {out : List (Option Ob)} (h : out.length ≤ ps.length + 8) : ∀ x ∈ callObjs ps id 0 out, x.1 ∈ ps ++ (List.range 8).map (id + ·) := by
  intro x hx
  obtain ⟨j, y, hj, rfl⟩ := callObjs_mem hx
  rw [Nat.zero_add]
  by_cases hjp : j < ps.length
  · rw [rn_pass (List.getElem?_eq_getElem hjp)]
    exact List.mem_append_left _ (List.getElem_mem hjp)
  · rw [rn_new (by omega)]
    have := (List.getElem?_eq_some_iff.1 hj).1
    exact List.mem_append_right _ (List.mem_map.2 ⟨j - ps.length, List.mem_range.2 (by omega), rfl⟩)

/-- What a call leaves, seen by an operation that has no order to it. -/
theorem after_loc {p i : Nat} {o oi : Oper} {acc acc' : List Fp} {fp : Fp} {v : AV} {objs : List (Nat × Option Ob)} {ps used : List Nat} {id : Nat} {r : AV} {out : List (Option Ob)} {bb : Bool} (hap : apartB ops oi o = true) (hout : out.length ≤ ps.length + 8)
    (h : DetS P nt pc ops p o acc s fp v objs) (hok : okPair fp ⟨i, used ++ ps, ps ++ (List.range 8).map (id + ·), true, bb, true⟩ = true) (hck : Ck pc ops acc fp → Ck pc ops acc' fp) : DetS P nt pc ops p o acc' (after0 nt s ps id oi.dst r out) fp v objs := by
  simp only [okPair, Bool.and_eq_true, disj_iff] at hok
  have po := put_operands (nt := nt) hap (t := s.t) (v := renA (rn ps id) r)
  exact h.loc (fun _ _ => po.1) po.2 (fun x hx => updL_out (fun y hy e => hok.2 y.1 (callObjs_ids hout y hy) (e ▸ hx))) rfl hck
theorem after_back {p i : Nat} {o oi : Oper} {acc acc' : List Fp} {fp : Fp} {v : AV} {objs : List (Nat × Option Ob)} {ps used : List Nat} {id : Nat} {r : AV} {out : List (Option Ob)} {bb : Bool} (hap : apartB ops oi o = true) (hout : out.length ≤ ps.length + 8)
    (h : DetS P nt pc ops p o acc (after0 nt s ps id oi.dst r out) fp v objs) (hok : okPair fp ⟨i, used ++ ps, ps ++ (List.range 8).map (id + ·), true, bb, true⟩ = true) (hck : Ck pc ops acc fp → Ck pc ops acc' fp) : DetS P nt pc ops p o acc' s fp v objs := by
  simp only [okPair, Bool.and_eq_true, disj_iff] at hok
  have po := put_operands (nt := nt) hap (t := s.t) (v := renA (rn ps id) r)
  exact h.loc (fun _ _ x hx => (po.1 x hx).symm) (fun j w d hg hd => (po.2 j w d hg hd).symm) (fun x hx => (updL_out (fun y hy e => hok.2 y.1 (callObjs_ids hout y hy) (e ▸ hx))).symm) rfl hck

theorem after_comm {p i : Nat} {o oi : Oper} {acc : List Fp} {fp : Fp} {v : AV} {objs : List (Nat × Option Ob)} {s0 : ASt} {ps used : List Nat} {id : Nat} {r : AV} {out : List (Option Ob)} {bb : Bool} (hap : apartB ops oi o = true) (hout : out.length ≤ ps.length + 8)
    (h : DetS P nt pc ops p o acc s0 fp v objs) (hok : okPair fp ⟨i, used ++ ps, ps ++ (List.range 8).map (id + ·), true, bb, true⟩ = true) :
    apS nt (after0 nt s ps id oi.dst r out) o.dst v objs = after0 nt (apS nt s o.dst v objs) ps id oi.dst r out := by
  have hw := h.fpp.2.2.2
  simp only [okPair, Bool.and_eq_true, disj_iff] at hok
  unfold apS after0
  simp only
  rw [putT_comm (dst_ne hap), updL_comm (fun x hx y hy e => ?_)]
  exact hok.1.2 y.1 (by rw [← hw]; exact List.mem_map_of_mem hy) (by rw [← e]; exact callObjs_ids hout x hx)

/-- The call is seen alike. -/
theorem CallD.congr {f p id : Nat} {args args' : List AV} {C C' : Fp → Prop} {K K' : Fp → (Option Nat → ASt) → Prop} (h : CallD P nt f args p id s C K) (ha : args' = args)
    (hc : ∀ used ps, C ⟨p, used ++ ps, ps ++ (List.range 8).map (id + ·), true, !ps.isEmpty, true⟩ → C' ⟨p, used ++ ps, ps ++ (List.range 8).map (id + ·), true, !ps.isEmpty, true⟩ ∧ ∀ x ∈ used ++ ps, s'.H x = s.H x)
    (hk : ∀ used ps r out, C ⟨p, used ++ ps, ps ++ (List.range 8).map (id + ·), true, !ps.isEmpty, true⟩ → out.length ≤ ps.length + 8 → K ⟨p, used ++ ps, ps ++ (List.range 8).map (id + ·), true, !ps.isEmpty, true⟩ (fun d => after0 nt s ps id d r out) →
      K' ⟨p, used ++ ps, ps ++ (List.range 8).map (id + ·), true, !ps.isEmpty, true⟩ (fun d => after0 nt s' ps id d r out)) : CallD P nt f args' p id s' C' K' := by
  obtain ⟨used, bor, ps, Hin, args0, Post, h1, h2, h3, h4, h5, h6, h7, h8, h9⟩ := h
  obtain ⟨g1, g2⟩ := hc used ps h7
  have hres : res used s'.H = res used s.H := res_congr (fun x hx => g2 x (List.mem_append_left _ hx))
  refine ⟨used, bor, ps, Hin, args0, Post, h1, h2, h3, by rw [hres]; exact h4, by rw [ha]; exact h5, by rw [hres, ha]; exact h6, g1, h8, fun r out hP => ?_⟩
  obtain ⟨q1, q2, q3, q4⟩ := h9 r out hP
  exact ⟨q1, q2, q3, hk used ps r out h7 q2 q4⟩

theorem drawR_sub {l : List (Nat × Oper)} : ∀ {acc acc' : List Fp} {s : ASt} {K : ASt → Prop}, (∀ x ∈ acc', x ∈ acc) → drawR P nt pc ops l acc s K → drawR P nt pc ops l acc' s K := by
  induction l with
  | nil => exact fun _ h => h
  | cons x r ih =>
    intro acc acc' s K hs h
    obtain ⟨p, o⟩ := x
    have hcons : ∀ (f : Fp), ∀ y ∈ f :: acc', y ∈ f :: acc := fun f y hy => by
      rcases List.mem_cons.1 hy with rfl | hy
      · exact List.mem_cons_self ..
      · exact List.mem_cons_of_mem _ (hs y hy)
    rcases gstep_cases.1 h with ⟨fp, v, objs, hd, hK⟩ | ⟨hg, f, args, ts, ho, hc⟩
    · exact gstep_cases.2 (.inl ⟨fp, v, objs, hd.loc (fun _ _ _ _ => rfl) (fun _ _ _ _ _ => rfl) (fun _ _ => rfl) rfl (Ck_sub hs), ih (hcons fp) hK⟩)
    · exact gstep_cases.2 (.inr ⟨hg, f, args, ts, ho, hc.congr rfl (fun used ps hck => ⟨Ck_sub hs hck, fun _ _ => rfl⟩) (fun used ps r out _ _ hK => ih (hcons _) hK)⟩)

/-- Two neighbours without an order change places. -/
theorem drawR_swap {i j : Nat} {oi oj : Oper} {l : List (Nat × Oper)} {acc : List Fp} {K : ASt → Prop} (hap : apartB ops oj oi = true) (hord : ordered ops i j = false)
    (h : drawR P nt pc ops ((j, oj) :: (i, oi) :: l) acc s K) : drawR P nt pc ops ((i, oi) :: (j, oj) :: l) acc s K := by
  have hap' := apartB_comm hap
  have hperm : ∀ (x y : Fp) (a : List Fp), ∀ z ∈ x :: y :: a, z ∈ y :: x :: a := fun x y a z hz => by
    simp only [List.mem_cons] at hz ⊢
    rcases hz with h | h | h
    · exact .inr (.inl h)
    · exact .inl h
    · exact .inr (.inr h)
  rcases gstep_cases.1 h with ⟨fj, vj, bj, hj, h⟩ | ⟨hgj, f, args, ts, hoj, hc⟩
  · rcases gstep_cases.1 h with ⟨fi, vi, bi, hi, h⟩ | ⟨hgi, f, args, ts, hoi, hc⟩
    · obtain ⟨h1, h2, h3⟩ := swap_det hap hord hj hi
      refine gstep_cases.2 (.inl ⟨fi, vi, bi, h1, gstep_cases.2 (.inl ⟨fj, vj, bj, h2, ?_⟩)⟩)
      rw [← h3]
      exact drawR_sub (hperm _ _ _) h
    · -- a step, then a call
      have po := put_operands (nt := nt) hap (t := s.t) (v := vj)
      have hpj := hj.fpp.1
      have key : ∀ used ps, Ck pc ops (fj :: acc) ⟨i, used ++ ps, ps ++ (List.range 8).map (s.c + 8 * i + ·), true, !ps.isEmpty, true⟩ → okPair ⟨i, used ++ ps, ps ++ (List.range 8).map (s.c + 8 * i + ·), true, !ps.isEmpty, true⟩ fj = true ∧ Ck pc ops acc ⟨i, used ++ ps, ps ++ (List.range 8).map (s.c + 8 * i + ·), true, !ps.isEmpty, true⟩ := fun used ps hck => by
        have := Ck_cons.1 hck
        refine ⟨this.1.resolve_left (fun h => ?_), this.2⟩
        rw [hpj] at h
        have : ordered ops i j = true := h
        rw [hord] at this
        cases this
      refine gstep_cases.2 (.inr ⟨goes_congr hgi (fun j w d hg hd => (po.2 j w d hg hd).symm), f, args, ts, hoi, CallD.congr (s := apS nt s oj.dst vj bj) (s' := s) hc (List.map_congr_left (fun x hx => (po.1 x (by rw [hoi]; simpa [Op.operands, Call.operands] using Or.inr hx)).symm)) (fun used ps hck => ⟨(key used ps hck).2, fun x hx => ?_⟩) (fun used ps r out hck hout hK => ?_)⟩)
      · have hok := (key used ps hck).1
        simp only [okPair, Bool.and_eq_true, disj_iff] at hok
        exact (updL_out (fun y hy e => hok.2 y.1 (by rw [← hj.fpp.2.2.2]; exact List.mem_map_of_mem hy) (e ▸ hx))).symm
      · have hok := okPair_comm (key used ps hck).1
        refine gstep_cases.2 (.inl ⟨fj, vj, bj, after_loc hap' hout hj hok (fun hc => Ck_cons.2 ⟨.inr hok, hc⟩), ?_⟩)
        rw [after_comm hap' hout hj hok]
        exact drawR_sub (hperm _ _ _) hK
  · -- a call, then a step or a call
    obtain ⟨used, bor, ps, Hin, args0, Post, h1, h2, h3, h4, h5, h6, h7, ⟨r0, out0, hP0⟩, h9⟩ := hc
    obtain ⟨q1, q2, q3, q4⟩ := h9 r0 out0 hP0
    have hnc : ∀ (r : AV) (out : List (Option Ob)), out.length ≤ ps.length + 8 → drawR P nt pc ops ((i, oi) :: l) (⟨j, used ++ ps, ps ++ (List.range 8).map (s.c + 8 * j + ·), true, !ps.isEmpty, true⟩ :: acc) (after0 nt s ps (s.c + 8 * j) oj.dst r out) K →
        ∃ fi vi bi, DetS P nt pc ops i oi (⟨j, used ++ ps, ps ++ (List.range 8).map (s.c + 8 * j + ·), true, !ps.isEmpty, true⟩ :: acc) (after0 nt s ps (s.c + 8 * j) oj.dst r out) fi vi bi ∧
          drawR P nt pc ops l (fi :: ⟨j, used ++ ps, ps ++ (List.range 8).map (s.c + 8 * j + ·), true, !ps.isEmpty, true⟩ :: acc) (apS nt (after0 nt s ps (s.c + 8 * j) oj.dst r out) oi.dst vi bi) K := fun r out hout hK => by
      rcases gstep_cases.1 hK with ⟨fi, vi, bi, hi, h⟩ | ⟨hgi, f', args', ts', hoi, used', bor', ps', Hin', args0', Post', _, _, _, _, _, _, g7, _⟩
      · exact ⟨fi, vi, bi, hi, h⟩
      · exfalso
        have := (Ck_cons.1 g7).1
        rcases this with h | h
        · have h' : ordered ops i j = true := h
          rw [hord] at h'
          cases h'
        · simp [okPair] at h
    obtain ⟨fi, vi, bi, hi, hrest⟩ := hnc r0 out0 q2 q4
    have hpi := hi.fpp.1
    obtain ⟨hok, _⟩ := hi.okp hord rfl
    have hi0 : DetS P nt pc ops i oi acc s fi vi bi := after_back hap q2 hi hok (fun hc => Ck_sub (fun x hx => List.mem_cons_of_mem _ hx) hc)
    refine gstep_cases.2 (.inl ⟨fi, vi, bi, hi0, gstep_cases.2 (.inr ⟨goes_congr hgj (fun jj w d hg hd => (put_operands (nt := nt) hap' (t := s.t) (v := vi)).2 jj w d hg hd), f, args, ts, hoj, ?_⟩)⟩)
    have po := put_operands (nt := nt) hap' (t := s.t) (v := vi)
    have hcall : CallD P nt f (args.toList.map (getA nt s.t)) j (s.c + 8 * j) s (fun fp => Ck pc ops acc fp) fun fp s' => ∀ r out, s' = (fun d => after0 nt s ps (s.c + 8 * j) d r out) → out.length ≤ ps.length + 8 → fp = ⟨j, used ++ ps, ps ++ (List.range 8).map (s.c + 8 * j + ·), true, !ps.isEmpty, true⟩ → drawR P nt pc ops ((i, oi) :: l) (fp :: acc) (s' oj.dst) K := by
      refine ⟨used, bor, ps, Hin, args0, Post, h1, h2, h3, h4, h5, h6, h7, ⟨r0, out0, hP0⟩, fun r out hP => ?_⟩
      obtain ⟨a1, a2, a3, a4⟩ := h9 r out hP
      exact ⟨a1, a2, a3, fun r' out' he ho hf => a4⟩
    have hargs : args.toList.map (getA nt (apS nt s oi.dst vi bi).t) = args.toList.map (getA nt s.t) := List.map_congr_left (fun x hx => po.1 x (by rw [hoj]; simpa [Op.operands, Call.operands] using Or.inr hx))
    have hokc := okPair_comm hok
    have hokc' := hokc
    simp only [okPair, Bool.and_eq_true, disj_iff] at hokc
    have hHs : ∀ x ∈ used ++ ps, (apS nt s oi.dst vi bi).H x = s.H x := fun x hx => updL_out (fun y hy e => hokc.2 y.1 (by rw [← hi.fpp.2.2.2]; exact List.mem_map_of_mem hy) (e ▸ hx))
    have hres : res used (apS nt s oi.dst vi bi).H = res used s.H := res_congr (fun x hx => hHs x (List.mem_append_left _ hx))
    refine ⟨used, bor, ps, Hin, args0, Post, h1, h2, h3, by rw [hres]; exact h4, by rw [hargs]; exact h5, by rw [hres, hargs]; exact h6, Ck_cons.2 ⟨.inr hokc', h7⟩, ⟨r0, out0, hP0⟩, fun r out hP => ?_⟩
    obtain ⟨a1, a2, a3, a4⟩ := h9 r out hP
    refine ⟨a1, a2, a3, ?_⟩
    obtain ⟨fi', vi', bi', hi', hrest'⟩ := hnc r out a2 a4
    obtain ⟨hok'', _⟩ := hi'.okp hord rfl
    have hi1 : DetS P nt pc ops i oi acc s fi' vi' bi' := after_back hap a2 hi' hok'' (fun hc => Ck_sub (fun x hx => List.mem_cons_of_mem _ hx) hc)
    obtain ⟨rfl, rfl, rfl⟩ := hi0.unique hi1
    have hcm := after_comm (s := s) (r := r) (out := out) hap a2 hi0 hok''
    show drawR P nt pc ops l _ (after0 nt (apS nt s oi.dst vi bi) ps (s.c + 8 * j) oj.dst r out) K
    rw [← hcm]
    exact drawR_sub (hperm _ _ _) hrest'
end
end Go.Proofs.Ytnnmpdanfeejbaa.Abs
