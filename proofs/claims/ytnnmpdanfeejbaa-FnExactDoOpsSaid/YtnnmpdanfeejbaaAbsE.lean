/- The abstract machine's operations hold of the model: those that read memory. -/
import Derived.Test.YtnnmpdanfeejbaaAbsD
import Derived.Laws.BytesString
import Derived.Lib.ConvBytes
namespace Go.Proofs.Ytnnmpdanfeejbaa.Abs
open Go Go.RowKit
set_option linter.unusedVariables false
set_option linter.unusedSimpArgs false

section
variable {P : Program} {nt : Nat} {I : Ini} {U : Nat → Prop} {s : ASt} {E : Env} {a : Act} {w : World} {o : Oper} {id : Nat} {v : AV} {objs : List (Nat × Option Ob)} {H : Hp}

theorem run_isAgg' {t : Nat} {i : TI} (hi : tiOf P t = some i) (w : World) : (isAgg t).run P w = .ok i.agg w := by
  obtain ⟨info, d, h1, h2, -, h3, -⟩ := tiOf_spec hi
  rw [h3]
  unfold isAgg
  simp only [Sem.run_bind, run_underlying h2, Result.andThen_ok]
  cases d <;> rfl
theorem run_size' {t : Nat} {i : TI} (hi : tiOf P t = some i) (w : World) : (sizeOf t).run P w = .ok i.size w := by
  obtain ⟨info, d, h1, h2, h3, -⟩ := tiOf_spec hi
  rw [h3]
  simp [sizeOf, run_typeInfo w h1]

theorem run_loadV {t : Nat} {i : TI} (hi : tiOf P t = some i) {b off : Nat} {us : Nat → Value} (h : ∀ k, k < i.size → w.cell? ⟨b, off + k, none⟩ = some (us k)) :
    (i.agg = true → (Instr.loadAt t (.pointer (some ⟨b, off, none⟩))).run P w = .ok (.agg ((List.range i.size).map us).toArray) w) ∧
    (i.agg = false → ∀ u, w.cell? ⟨b, off, none⟩ = some u → (Instr.loadAt t (.pointer (some ⟨b, off, none⟩))).run P w = .ok u w) := by
  constructor
  · intro ha
    have h1 := run_loadCells_list (P := P) w ⟨b, off, none⟩ ((List.range i.size).map us) (fun j v hj => by
      rw [Addr.add_lit]
      rw [List.getElem?_map, Option.map_eq_some_iff] at hj
      obtain ⟨k, hk, rfl⟩ := hj
      obtain ⟨hk1, hk2⟩ := List.getElem?_eq_some_iff.1 hk
      rw [List.getElem_range] at hk2
      subst hk2
      exact h j (by simpa using hk1))
    simp only [List.length_map, List.length_range] at h1
    simp [Instr.loadAt, Instr.sureAddr, loadVar, run_isAgg' hi, ha, run_size' hi, h1]
  · intro ha u hu
    simp [Instr.loadAt, Instr.sureAddr, loadVar, run_isAgg' hi, ha, hu]

theorem lift_ok {ℓ : Loc} {i j k : Nat} {q : List (Nat × Nat)} {c : CV} {u : Value} (h : RdC w E.loc (k, (i, j) :: q) c u) : RdV w E H (lift c) u := by
  have hR : RdR w E.T1 c u := h.toR (fun b hb o => by rw [hb]; simp) (fun b q' hb o => by rw [hb]; simp)
  cases h with
  | im _ c u h0 hi =>
    cases c with
    | v x => cases h0; exact .c _ _ (.v _ (by assumption))
    | row k es => cases k with
      | true => simp [CV.im] at hi
      | false => exact .c _ _ h0
    | ptr => exact .c _ _ h0
    | hole => exact .any _
  | nil => exact .bw _ _ (.nil ..)
  | own => exact .bw _ _ hR
theorem liftC_ok {c : CV} {u : Value} (h : RdR w E.T0 c u) : RdV w E H (liftC c) u := by
  cases c <;> first | exact .any _ | exact .c _ _ h
theorem liftB_ok {c : CV} {u : Value} (h : RdR w E.T1 c u) : RdV w E H (liftB c) u := by
  cases c with
  | v x => cases h; exact .c _ _ (.v _ (by assumption))
  | hole => exact .any _
  | row => exact .bw _ _ h
  | ptr => exact .bw _ _ h
theorem lift_mn (c : CV) : Mn U (lift c) := by
  unfold lift; split <;> first | exact .c _ | exact .bw _ | exact .any
theorem liftC_mn (c : CV) : Mn U (liftC c) := by
  unfold liftC; split <;> first | exact .c _ | exact .any
theorem liftB_mn (c : CV) : Mn U (liftB c) := by
  unfold liftB; split <;> first | exact .c _ | exact .any | exact .bw _

/-- Nothing is written, and the world is the same. -/
def GoodP (P : Program) (o : Oper) (a : Act) (w : World) (E : Env) (H : Hp) (U : Nat → Prop) (v : AV) (objs : List (Nat × Option Ob)) : Prop :=
  objs = [] ∧ ∃ u, (execOp a.eval o).run P w = .ok (.value u) w ∧ RdV w E H v u ∧ Mn U v
theorem GoodP.pure (hR : RelE nt I U s E a w) {u : Value} (hr : (execOp a.eval o).run P w = .ok (.value u) w) (h : RdV w E s.H v u) (hm : Mn U v) (he : objs = []) : GoodP P o a w E s.H U v objs := ⟨he, u, hr, h, hm⟩
theorem GoodP.good (hR : RelE nt I U s E a w) (h : GoodP P o a w E s.H U v objs) : Good P o a w E s.H U id v objs := by
  obtain ⟨he, u, hr, h, hm⟩ := h
  exact Good.pure hR hr h hm he

/-- What a load brings, from the cells that are there. -/
theorem good_cells (hR : RelE nt I U s E a w) {t : Nat} {x : Operand} (ho : o.op = .load t x) {i : TI} (hi : tiOf P t = some i) {b off : Nat} (hx : a.eval x = .pointer (some ⟨b, off, none⟩))
    {cs : List AV} {us : Nat → Value} (hc : ∀ k, k < cs.length → w.cell? ⟨b, off + k, none⟩ = some (us k)) (hv : ∀ (k : Nat) c, cs[k]? = some c → RdV w E s.H c (us k) ∧ Mn U c)
    (he : if i.agg then cs.length = i.size ∧ v = .ag cs else ∃ r, cs = v :: r) : GoodP P o a w E s.H U v [] := by
  cases ha : i.agg with
  | true =>
    rw [ha, if_pos rfl] at he
    obtain ⟨hl, rfl⟩ := he
    have h1 := (run_loadV (P := P) (w := w) (us := us) hi (b := b) (off := off) (fun k hk => hc k (hl ▸ hk))).1 ha
    refine GoodP.pure hR (u := .agg ((List.range i.size).map us).toArray) ?_ ?_ ?_ rfl
    · simp [execOp, ho, hx, h1]
    · refine .ag _ _ (by simp [hl]) (fun k c u hk hu => ?_)
      have hkl := (List.getElem?_eq_some_iff.1 hk).1
      have : u = us k := by
        simp only [List.getElem?_toArray, List.getElem?_map] at hu
        rw [List.getElem?_range (hl ▸ hkl)] at hu
        simpa using hu.symm
      subst this
      exact (hv k c hk).1
    · refine .ag _ (fun c hc' => ?_)
      obtain ⟨k, hk⟩ := List.getElem?_of_mem hc'
      exact (hv k c hk).2
  | false =>
    rw [ha] at he
    simp only [Bool.false_eq_true, if_false] at he
    obtain ⟨r, rfl⟩ := he
    have h0 := hc 0 (by simp)
    have h1 : (Instr.loadAt t (.pointer (some ⟨b, off, none⟩))).run P w = .ok (us 0) w := by
      simp only [Instr.loadAt, Instr.sureAddr, loadVar, Sem.run_bind, Sem.run_pure, Result.andThen_ok, run_isAgg' hi, ha, Bool.false_eq_true, if_false, run_load]
      rw [show (⟨b, off, none⟩ : Addr) = ⟨b, off + 0, none⟩ from rfl, h0]
    exact GoodP.pure hR (u := us 0) (by simp [execOp, ho, hx, h1]) (hv 0 v rfl).1 (hv 0 v rfl).2 rfl

theorem takeAt {α : Type} {cs : List α} {j n k : Nat} {c : α} (h : ((cs.drop j).take n)[k]? = some c) : cs[j + k]? = some c := by
  rw [List.getElem?_take] at h
  split at h
  · rwa [List.getElem?_drop] at h
  · cases h
theorem cell_at {b off : Nat} {arr : Array Value} {ty : Nat} {fz : Nat × Nat} (h : w.heap[b]? = some (.cells arr ty fz)) : w.cell? ⟨b, off, none⟩ = arr[off]? := cell_of_row w b off arr ty fz h

/-- A load of the cells from j on of a list of cells. -/
theorem good_loadL (hR : RelE nt I U s E a w) {t : Nat} {x : Operand} (ho : o.op = .load t x) {i : TI} (hi : tiOf P t = some i) {b off j : Nat} (hx : a.eval x = .pointer (some ⟨b, off + j, none⟩))
    {α : Type} {cs : List α} {f : α → AV} {us : Nat → Value} (hc : ∀ k, k < cs.length → w.cell? ⟨b, off + k, none⟩ = some (us k)) (hv : ∀ (k : Nat) c, cs[k]? = some c → RdV w E s.H (f c) (us k) ∧ Mn U (f c))
    (he : (if i.agg then (if j + i.size ≤ cs.length then some (AV.ag (((cs.drop j).take i.size).map f), ([] : List (Nat × Option Ob))) else none) else (cs[j]?).bind fun c => some (f c, [])) = some (v, objs)) : GoodP P o a w E s.H U v objs := by
  cases ha : i.agg with
  | true =>
    rw [ha, if_pos rfl] at he
    split at he
    · rename_i hl
      cases he
      refine good_cells hR ho hi hx (us := fun k => us (j + k)) (fun k hk => ?_) (fun k c hk => ?_) (by rw [ha, if_pos rfl]; exact ⟨by simp; omega, rfl⟩)
      · simp at hk
        rw [Nat.add_assoc]
        exact hc (j + k) (by omega)
      · rw [List.getElem?_map, Option.map_eq_some_iff] at hk
        obtain ⟨c', hk, rfl⟩ := hk
        exact hv (j + k) c' (takeAt hk)
    · cases he
  | false =>
    rw [ha] at he
    simp only [Bool.false_eq_true, if_false, Option.bind_eq_some_iff] at he
    obtain ⟨c, hj, he⟩ := he
    cases he
    refine good_cells hR ho hi hx (cs := [f c]) (us := fun k => us (j + k)) (fun k hk => ?_) (fun k c' hk => ?_) (by rw [ha]; exact ⟨[], rfl⟩)
    · have : k = 0 := by simpa using hk
      subst this
      rw [Nat.add_assoc]
      exact hc (j + 0) (List.getElem?_eq_some_iff.1 hj).1
    · cases k with
      | zero =>
        cases hk
        exact hv j c hj
      | succ k => simp at hk

theorem goodP_load (hR : RelE nt I U s E a w) {t : Nat} {x : Operand} (ho : o.op = .load t x) {i : TI} (hi : tiOf P t = some i) (hH : ∀ o ob, H o = some ob → s.H o = some ob)
    (he : evLoad H i (getA nt s.t x) = some (v, objs)) : GoodP P o a w E s.H U v objs := by
  have hx := hR.get x
  have hm := hR.mnGet x
  generalize hgx : getA nt s.t x = gx at *
  generalize hu : a.eval x = u at *
  unfold evLoad at he
  split at he
  · rename_i q ii j
    split at he
    · rename_i ty cs hq
      have hq := hH _ _ hq
      split at he
      · rename_i h0
        subst h0
        obtain ⟨b, arr, us, h1, h2, h3, h4, h5, h6⟩ := hR.live q _ hq
        have hmn := (hR.mnH q _ hq).2
        cases hx with
        | ptX _ _ _ _ h => rw [hq] at h; cases h
        | pt _ _ _ ob b' cap h hr =>
          rw [hq] at h
          cases h
          rw [h1] at hr
          cases hr
          refine good_loadL hR ho hi (b := b) (off := 0) (j := j) (f := fun c => c) (us := us) (by rw [hu]; simp [Ob.sz]) (fun k hk => by rw [Nat.zero_add, cell_at h3]; exact h5 k hk) (fun k c hk => ⟨h6 k c hk, hmn c (List.mem_of_getElem? hk)⟩) (by simpa using he)
      · cases he
    · rename_i ty sz es hq
      have hq := hH _ _ hq
      rw [Option.bind_eq_some_iff] at he
      obtain ⟨e, hes, he⟩ := he
      have hl := hR.live q _ hq
      rcases hl with ⟨_, rfl⟩ | ⟨b, cap, arr, us, h1, h2, h3, h4, h5, h6, h7, h8, h9⟩
      · simp at hes
      · cases hx with
        | ptX _ _ _ _ h => rw [hq] at h; cases h
        | pt _ _ _ ob b' cap' h hr =>
          rw [hq] at h
          cases h
          rw [h1] at hr
          cases hr
          have hil := (List.getElem?_eq_some_iff.1 hes).1
          have hel : e.length = sz := h7 e (List.mem_of_getElem? hes)
          refine good_loadL hR ho hi (b := b) (off := ii * sz) (j := j) (f := lift) (us := us ii) (by rw [hu]; rfl) (fun k hk => by rw [cell_at h3]; exact h8 ii k hil (hel ▸ hk)) (fun k c hk => ⟨lift_ok (ℓ := (0, [])) (h9 ii k e c hes hk), lift_mn c⟩) he
    · cases he
  · rename_i cs j
    cases hx with
    | c _ _ h =>
      cases h with
      | ptr b off _ _ arr ty fz us hT hb h1 h2 =>
        exact good_loadL hR ho hi (b := b) (off := off) (j := j) (f := liftC) (us := us) (by rw [hu]) (fun k hk => by rw [cell_at hb]; exact h1 k hk) (fun k c hk => ⟨liftC_ok (h2 k c hk), liftC_mn c⟩) he
  · rename_i cs j
    cases hx with
    | bw _ _ h =>
      cases h with
      | ptr b off _ _ arr ty fz us hT hb h1 h2 =>
        exact good_loadL hR ho hi (b := b) (off := off) (j := j) (f := liftB) (us := us) (by rw [hu]) (fun k hk => by rw [cell_at hb]; exact h1 k hk) (fun k c hk => ⟨liftB_ok (h2 k c hk), liftB_mn c⟩) he
  · cases he

theorem good_load (hR : RelE nt I U s E a w) {t : Nat} {x : Operand} (ho : o.op = .load t x) {i : TI} (hi : tiOf P t = some i) (hH : ∀ o ob, H o = some ob → s.H o = some ob)
    (he : evLoad H i (getA nt s.t x) = some (v, objs)) : Good P o a w E s.H U id v objs := (goodP_load hR ho hi hH he).good hR

theorem good_fieldAddr (hR : RelE nt I U s E a w) {t : Nat} {x : Operand} {f : Nat} (ho : o.op = .fieldAddr t x f) {i : TI} (hi : tiOf P t = some i) (hH : ∀ o ob, H o = some ob → s.H o = some ob)
    {off sz : Nat} (hf : i.fields[f]? = some (off, sz)) (hz : sz ≠ 0) (he : evField H off (getA nt s.t x) = some (v, objs)) : Good P o a w E s.H U id v objs := by
  have hx := hR.get x
  have hm := hR.mnGet x
  generalize hgx : getA nt s.t x = gx at *
  obtain ⟨info, d, h1, h2, -, -, h3, -⟩ := tiOf_spec hi
  obtain ⟨fs, hd⟩ : ∃ fs, d = .struct fs := by
    rw [h3] at hf
    cases d <;> simp_all
  subst hd
  simp only at h3
  rw [h3, List.getElem?_map, Option.map_eq_some_iff] at hf
  obtain ⟨fd, hfd, hff⟩ := hf
  have hfd' : fs[f]? = some fd := by simpa using hfd
  cases hff
  have hsz : ∃ j, P.info? fd.type = some j ∧ j.size ≠ 0 := by
    unfold sizeP at hz
    cases hj : P.info? fd.type with
    | none => simp [hj] at hz
    | some j => exact ⟨j, rfl, by simpa [hj] using hz⟩
  obtain ⟨j, hj, hj0⟩ := hsz
  have hrun : ∀ b k, (a.eval x = .pointer (some ⟨b, k, none⟩)) → (execOp a.eval o).run P w = .ok (.value (.pointer (some ⟨b, k + fd.offset, none⟩))) w := by
    intro b k hbk
    have : (sizeOf fd.type).run P w = .ok j.size w := by simp [sizeOf, run_typeInfo w hj]
    simp [execOp, ho, hbk, Instr.fieldAt, run_underlying h2, hfd', Instr.sureAddr, fieldPlace, this, hj0, Addr.add_lit]
  unfold evField at he
  split at he
  · rename_i q ii jj
    split at he
    · rename_i hq
      cases he
      generalize hu : a.eval x = u at *
      cases hx with
      | ptX _ _ _ _ h =>
        cases hh : H q with
        | none => simp [hh] at hq
        | some ob => rw [hH _ _ hh] at h; cases h
      | pt _ _ _ ob b cap h hr =>
        refine Good.pure hR (hrun b _ rfl) ?_ (by cases hm with | pt _ _ _ hm => exact .pt _ _ _ hm) rfl
        rw [Nat.add_assoc]
        exact .pt q ii (jj + fd.offset) ob b cap h hr
    · cases he
  · rename_i cs jj
    cases he
    generalize hu : a.eval x = u at *
    cases hx with
    | c _ _ h =>
      cases h with
      | ptr b off _ _ arr ty fz us hT hb h1 h2 =>
        refine Good.pure hR (hrun b _ rfl) ?_ (.c _) rfl
        rw [Nat.add_assoc]
        exact .c _ _ (.ptr b off cs (jj + fd.offset) arr ty fz us hT hb h1 h2)
  · rename_i cs jj
    cases he
    generalize hu : a.eval x = u at *
    cases hx with
    | bw _ _ h =>
      cases h with
      | ptr b off _ _ arr ty fz us hT hb h1 h2 =>
        refine Good.pure hR (hrun b _ rfl) ?_ (.bw _) rfl
        rw [Nat.add_assoc]
        exact .bw _ _ (.ptr b off cs (jj + fd.offset) arr ty fz us hT hb h1 h2)
  · cases he

theorem elem_spec {t : Nat} {i : TI} (hi : tiOf P t = some i) {e sz eb : Nat} (he : i.elem = some (e, sz, eb)) : P.underlying t = some (.slice e) ∧ ∃ j, P.info? e = some j ∧ j.size = sz ∧ j.bytes = eb := by
  obtain ⟨info, d, h1, h2, -, -, -, h3, -⟩ := tiOf_spec hi
  rw [h3] at he
  cases d <;> simp only at he <;> try cases he
  rename_i e'
  cases hj : P.info? e' with
  | none => simp [hj] at he
  | some j =>
    simp only [hj, Option.some.injEq, Prod.mk.injEq] at he
    obtain ⟨rfl, rfl, rfl⟩ := he
    exact ⟨h2, j, hj, rfl, rfl⟩

theorem row_elem {T : Nat → Prop} {k : Bool} {es : List (List CV)} {u : Value} (h : RdR w T (.row k es) u) {n : Nat} {e : List CV} (hn : es[n]? = some e) :
    ∃ b off cap, u = .slice (some ⟨b, off, none⟩) es.length cap ∧ RdR w T (.ptr e 0) (.pointer (some ⟨b, off + n * e.length, none⟩)) := by
  cases h with
  | nil => simp at hn
  | row _ b off sz cap _ arr ty fz us hT hb hs hm hc hu hr =>
    have hl := (List.getElem?_eq_some_iff.1 hn).1
    have he := hs e (List.mem_of_getElem? hn)
    refine ⟨b, off, cap, rfl, ?_⟩
    subst he
    exact .ptr b (off + n * e.length) e 0 arr ty fz (us n) hT hb (fun j hj => by rw [Nat.add_assoc]; exact hu n j hl hj) (fun j c hc => hr n j e c hn hc)

theorem good_indexAddr (hR : RelE nt I U s E a w) {t : Nat} {x ix : Operand} (ho : o.op = .indexAddr t x ix) {k : IntKind} {n : Int} (hix : getA nt s.t ix = .c (.v (.int k n))) {i : TI} (hi : tiOf P t = some i)
    (hH : ∀ o ob, H o = some ob → s.H o = some ob) {e sz eb : Nat} (hel : i.elem = some (e, sz, eb)) (he : evIndexAddr H sz n (getA nt s.t x) = some (v, objs)) : Good P o a w E s.H U id v objs := by
  have ei := hR.eval hix
  have hx := hR.get x
  have hm := hR.mnGet x
  generalize hgx : getA nt s.t x = gx at *
  obtain ⟨hu, j, hj, rfl, rfl⟩ := elem_spec hi hel
  have hsz : (sizeOf e).run P w = .ok j.size w := by simp [sizeOf, run_typeInfo w hj]
  have hrun : ∀ b off m c, a.eval x = .slice (some ⟨b, off, none⟩) m c → 0 ≤ n → n < m → (execOp a.eval o).run P w = .ok (.value (.pointer (some ⟨b, off + n.toNat * j.size, none⟩))) w := by
    intro b off m c hb h0 h1
    simp [execOp, ho, hb, ei, Instr.indexAt, asIntOf, run_underlying hu, h0, h1, hsz, Addr.add_lit]
  unfold evIndexAddr at he
  split at he
  · rename_i q m
    split at he
    · rename_i ty sz' es hq
      split at he
      · rename_i hc
        obtain ⟨h0, h1, h2, rfl⟩ := hc
        cases he
        generalize hxu : a.eval x = u at *
        cases hx with
        | slX _ _ _ h => rw [hH _ _ hq] at h; cases h
        | sl _ _ ty' sz' es' b cap h hr =>
          rw [hH _ _ hq] at h
          cases h
          refine Good.pure hR (hrun b 0 _ _ rfl h0 h1) ?_ (by cases hm with | sl _ _ hm => exact .pt _ _ _ hm) rfl
          have := RdV.pt (w := w) (E := E) (H := s.H) q n.toNat 0 _ b cap (hH _ _ hq) hr
          simpa [Ob.sz] using this
        | slN => omega
      · cases he
    · cases he
  · rw [Option.bind_eq_some_iff] at he
    obtain ⟨e', hn, he⟩ := he
    split at he
    · rename_i hc
      obtain ⟨h0, h1⟩ := hc
      cases he
      generalize hxu : a.eval x = u at *
      cases hx with
      | c _ _ h =>
        obtain ⟨b, off, cap, rfl, hp⟩ := row_elem h hn
        rw [h1] at hp
        have := (List.getElem?_eq_some_iff.1 hn).1
        exact Good.pure hR (hrun b off _ _ rfl h0 (by omega)) (.c _ _ hp) (.c _) rfl
    · cases he
  · rw [Option.bind_eq_some_iff] at he
    obtain ⟨e', hn, he⟩ := he
    split at he
    · rename_i hc
      obtain ⟨h0, h1⟩ := hc
      cases he
      generalize hxu : a.eval x = u at *
      cases hx with
      | bw _ _ h =>
        obtain ⟨b, off, cap, rfl, hp⟩ := row_elem h hn
        rw [h1] at hp
        have := (List.getElem?_eq_some_iff.1 hn).1
        exact Good.pure hR (hrun b off _ _ rfl h0 (by omega)) (.bw _ _ hp) (.bw _) rfl
    · cases he
  · cases he
end

end Go.Proofs.Ytnnmpdanfeejbaa.Abs
