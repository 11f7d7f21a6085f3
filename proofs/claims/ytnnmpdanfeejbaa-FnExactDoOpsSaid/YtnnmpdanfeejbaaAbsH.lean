/- The abstract machine's operations hold of the model: what goes into a row; literal rows, made rows, structs. -/
import Derived.Test.YtnnmpdanfeejbaaAbsG
import Derived.Laws.MakeOwn
namespace Go.Proofs.Ytnnmpdanfeejbaa.Abs
open Go Go.RowKit
set_option linter.unusedVariables false
set_option linter.unusedSimpArgs false

theorem RdR.im {w : World} {T : Nat → Prop} {c : CV} {u : Value} (h : RdR w T c u) : RdR w T c.im u := by
  cases h with
  | v _ h => exact .v _ h
  | hole _ h => exact .hole _ h
  | nil => exact .nil ..
  | row k b off sz cap es arr ty fz us h1 h2 h3 h4 h5 h6 h7 => exact .row false b off sz cap es arr ty fz us h1 h2 h3 h4 h5 h6 h7
  | ptr b off cs j arr ty fz us h1 h2 h3 h4 => exact .ptr b off cs j arr ty fz us h1 h2 h3 h4
theorem CV.im_im (c : CV) : c.im.im = c.im := by cases c <;> rfl

section
variable {P : Program} {nt : Nat} {I : Ini} {U : Nat → Prop} {s : ASt} {E : Env} {a : Act} {w : World} {o : Oper} {id : Nat} {v : AV} {objs : List (Nat × Option Ob)} {H : Hp}

/-- A value goes into a cell of a row. -/
theorem toC_ok (hR : RelE nt I U s E a w) (hH : ∀ o ob, H o = some ob → s.H o = some ob) {x : AV} {c : CV} {q : Option Nat} (hc : toC H x = some (c, q)) {u : Value} (h : RdV w E s.H x u)
    {w' : World} {loc' : Nat → Option Loc} {ℓ : Loc} (h0 : ∀ b, b < w.heap.size → E.loc b = none → w'.heap[b]? = w.heap[b]? ∧ loc' b = none)
    (h1 : ∀ k, q = some k → ∀ b p, b < w.heap.size → E.loc b = some (k, p) → w'.heap[b]? = w.heap[b]? ∧ loc' b = some (ℓ.1, ℓ.2 ++ p)) : RdC w' loc' ℓ c u := by
  unfold toC at hc
  split at hc
  · cases hc
    cases h with
    | c _ _ h => exact .im _ _ _ (h.im.mono h0) (CV.im_im _)
  · cases hc
    cases h with
    | bw _ _ h => cases h with | v _ h => exact .im _ _ _ (.v _ h) rfl
  · cases hc
    cases h
    exact .nil ..
  · rename_i k n
    split at hc
    · rename_i ty sz es hk
      split at hc
      · rename_i hn
        cases hc
        have hk := hH _ _ hk
        cases h with
        | slX _ _ _ h => rw [hk] at h; cases h
        | sl _ _ ty' sz' es' b cap h hr =>
          rw [hk] at h
          cases h
          rcases hR.live k _ hk with ⟨h2, _⟩ | ⟨b', cap', arr, us, h2, h3, h4, h5, h6, h7, h8, h9, h10⟩
          · rw [h2] at hr; cases hr
          · rw [h2] at hr
            cases hr
            have hb := h1 k rfl b [] (RdR.lt h4) h3
            subst hn
            refine .own ℓ b sz cap es arr ty us (by simpa using hb.2) (hb.1.trans h4) h5 h6 h7 h8 h9 (fun i j e c he hc => (h10 i j e c he hc).relabel _ h0 (fun b' p hb' hp => ?_))
            have := h1 k rfl b' ((i, j) :: p) hb' hp
            simpa using this
        | slN _ ty' sz' h hr =>
          rw [hk] at h
          cases h
          exact .nil ..
      · cases hc
    · cases hc
  all_goals (cases hc; done)

theorem toCs_spec {H : Hp} {i : Nat} : ∀ {xs : List AV} {j : Nat} {cs : List CV} {ks : List (Nat × Nat × Nat)}, toCs H i j xs = some (cs, ks) →
    cs.length = xs.length ∧ (∀ (k : Nat) x c, xs[k]? = some x → cs[k]? = some c → ∃ q, toC H x = some (c, q) ∧ ∀ m, q = some m → (m, i, j + k) ∈ ks) ∧ ∀ m ∈ ks, ∃ ty sz es, H m.1 = some (.rw ty sz es) ∧ .sl m.1 es.length ∈ xs
  | [], j, cs, ks, h => by
    cases h
    exact ⟨rfl, fun k x c hx => by simp at hx, fun m hm => by simp at hm⟩
  | x :: r, j, cs, ks, h => by
    unfold toCs at h
    split at h
    · rename_i c cs' ks' h1 h2
      cases h
      obtain ⟨a1, a2, a3⟩ := toCs_spec h2
      refine ⟨by simp [a1], fun k y d hy hd => ?_, fun m hm => ?_⟩
      · cases k with
        | zero =>
          simp at hy hd
          subst hy hd
          exact ⟨none, h1, fun m hm => by cases hm⟩
        | succ k =>
          obtain ⟨q, b1, b2⟩ := a2 k y d hy hd
          exact ⟨q, b1, fun m hm => by have := b2 m hm; rwa [show j + 1 + k = j + (k + 1) by omega] at this⟩
      · obtain ⟨ty, sz, es, b1, b2⟩ := a3 m hm
        exact ⟨ty, sz, es, b1, List.mem_cons_of_mem _ b2⟩
    · rename_i c q cs' ks' h1 h2
      cases h
      obtain ⟨a1, a2, a3⟩ := toCs_spec h2
      refine ⟨by simp [a1], fun k y d hy hd => ?_, fun m hm => ?_⟩
      · cases k with
        | zero =>
          simp at hy hd
          subst hy hd
          exact ⟨some q, h1, fun m hm => by cases hm; simp⟩
        | succ k =>
          obtain ⟨q', b1, b2⟩ := a2 k y d hy hd
          exact ⟨q', b1, fun m hm => by have := b2 m hm; rw [show j + 1 + k = j + (k + 1) by omega] at this; exact List.mem_cons_of_mem _ this⟩
      · rcases List.mem_cons.1 hm with rfl | hm
        · unfold toC at h1
          split at h1 <;> try (cases h1; done)
          rename_i o n
          split at h1 <;> try (cases h1; done)
          rename_i ty sz es hk
          split at h1 <;> try (cases h1; done)
          rename_i hn
          cases h1
          subst hn
          exact ⟨ty, sz, es, hk, List.mem_cons_self ..⟩
        · obtain ⟨ty, sz, es, b1, b2⟩ := a3 m hm
          exact ⟨ty, sz, es, b1, List.mem_cons_of_mem _ b2⟩
    · cases h

theorem distinct_spec {d : Nat} {ks : List (Nat × Nat × Nat)} (h : distinct d ks = true) : (ks.map (·.1)).Nodup ∧ ∀ m ∈ ks, m.1 ≠ d := by
  unfold distinct at h
  rw [Bool.and_eq_true, decide_eq_true_eq] at h
  exact ⟨h.1, fun m hm => by simpa using List.all_eq_true.1 h.2 m hm⟩

/-- The elements of a literal row. -/
theorem evElems_spec {H : Hp} {esz : Nat} {flat : List AV} : ∀ {is : List Nat} {es : List (List CV)} {ks : List (Nat × Nat × Nat)}, evElems H esz flat is = some (es, ks) →
    es.length = is.length ∧ (∀ (n : Nat) i e, is[n]? = some i → es[n]? = some e → ∃ ks', toCs H i 0 ((flat.drop (i * esz)).take esz) = some (e, ks') ∧ ∀ m ∈ ks', m ∈ ks) ∧
    ∀ m ∈ ks, ∃ ty sz es', H m.1 = some (.rw ty sz es')
  | [], es, ks, h => by
    cases h
    exact ⟨rfl, fun n i e hi => by simp at hi, fun m hm => by simp at hm⟩
  | i :: r, es, ks, h => by
    unfold evElems at h
    split at h
    · rename_i e ks1 es' ks2 h1 h2
      cases h
      obtain ⟨a1, a2, a3⟩ := evElems_spec h2
      refine ⟨by simp [a1], fun n i' e' hi he => ?_, fun m hm => ?_⟩
      · cases n with
        | zero =>
          simp at hi he
          subst hi he
          exact ⟨ks1, h1, fun m hm => List.mem_append_left _ hm⟩
        | succ n =>
          obtain ⟨ks', b1, b2⟩ := a2 n i' e' hi he
          exact ⟨ks', b1, fun m hm => List.mem_append_right _ (b2 m hm)⟩
      · rcases List.mem_append.1 hm with hm | hm
        · obtain ⟨ty, sz, es0, b1, _⟩ := (toCs_spec h1).2.2 m hm
          exact ⟨ty, sz, es0, b1⟩
        · exact a3 m hm
    · cases h

theorem zeroC_ok (w : World) (loc : Nat → Option Loc) (ℓ : Loc) (z : Value) (h : z.oneCell' = true) : RdC w loc ℓ (zeroC z) z := by
  unfold zeroC
  split
  · exact .nil ..
  · exact .im _ _ _ (.v _ h) rfl

/-- A row is made whose elements' cells are told. -/
theorem good_newRow (hR : RelE nt I U s E a w) (hid : ¬ U id) {ty sz n : Nat} {arr : Array Value} {es : List (List CV)} {ks : List (Nat × Nat × Nat)} {w' : World} (hw : Evo (fun _ => False) w w') (hb : w'.heap[w.heap.size]? = some (.cells arr ty (0, 0)))
    {cap : Nat} (hr : (execOp a.eval o).run P w = .ok (.value (.slice (some ⟨w.heap.size, 0, none⟩) n cap)) w') (hs : arr.size = cap * sz) (hn : n = es.length) (hcap : n ≤ cap) (hmax : cap ≤ maxLen) (hes : ∀ e ∈ es, e.length = sz)
    (hks : ∀ m ∈ ks, ∃ ob, s.H m.1 = some ob)
    (hc : ∀ (i j : Nat) e c y, es[i]? = some e → e[j]? = some c → arr[i * sz + j]? = some y → RdC w' (E.fresh w id cap (mvl id ks)).loc (id, [(i, j)]) c y) :
    Good P o a w E s.H U id (.sl id n) ((id, some (.rw ty sz es)) :: gone ks) := by
  subst hn
  have hmi : ∀ m ∈ ks, m.1 ≠ id := fun m hm e => by
    obtain ⟨x, hx⟩ := hks m hm
    exact hid (e ▸ (hR.mnH _ _ hx).1)
  have hbound : ∀ i j, i < es.length → j < sz → i * sz + j < arr.size := fun i j hi hj => by
    rw [hs]
    calc i * sz + j < i * sz + sz := by omega
      _ = (i + 1) * sz := by rw [Nat.add_mul]; omega
      _ ≤ cap * sz := Nat.mul_le_mul_right _ (by omega)
  refine ⟨_, w', E.fresh w id cap (mvl id ks), .inl hr, ?_⟩
  refine Fx.new (ob := .rw ty sz es) hR hid hw (RdR.lt hb) (fun k p h => mvl_out h) (fun k p o h => mvl_nil h) hks ?_ trivial ?_ (.sl _ _ (.inr rfl))
  · refine .inr ⟨w.heap.size, cap, arr, fun i j => arr.getD (i * sz + j) undef, upd_same .., if_pos rfl, hb, hs, hcap, hmax, hes, fun i j hi hj => ?_, fun i j e c he hc' => ?_⟩
    · have := hbound i j hi hj
      rw [Array.getElem?_eq_getElem this]
      simp [Array.getD, this]
    · have hj : j < sz := by rw [← hes e (List.mem_of_getElem? he)]; exact (List.getElem?_eq_some_iff.1 hc').1
      have := hbound i j (List.getElem?_eq_some_iff.1 he).1 hj
      refine hc i j e c _ he hc' ?_
      rw [Array.getElem?_eq_getElem this]
      simp [Array.getD, this]
  · exact .sl id es.length ty sz es w.heap.size cap (updL_new hmi) (upd_same ..)

end

theorem splice_get {α : Type} {l m : List α} {j k : Nat} (h : j + m.length ≤ l.length) : (splice l j m)[k]? = if j ≤ k ∧ k < j + m.length then m[k - j]? else l[k]? := by
  unfold splice
  have h1 : (l.take j).length = j := by simp; omega
  by_cases hk : k < j
  · rw [if_neg (by omega), List.append_assoc, List.getElem?_append_left (by omega), List.getElem?_take, if_pos hk]
  · rw [List.append_assoc, List.getElem?_append_right (by omega), h1]
    by_cases hk2 : k < j + m.length
    · rw [if_pos ⟨by omega, hk2⟩, List.getElem?_append_left (by omega)]
    · rw [if_neg (by omega), List.getElem?_append_right (by omega), List.getElem?_drop]
      congr 1
      omega
theorem splice_length {α : Type} {l m : List α} {j : Nat} (h : j + m.length ≤ l.length) : (splice l j m).length = l.length := by
  unfold splice
  simp
  omega
theorem foldl_set (off : Nat) : ∀ (vs : List Value) (n : Nat) (cells : Array Value), off + n + vs.length ≤ cells.size →
    ((vs.zipIdx n).foldl (fun cs (x : Value × Nat) => cs.setIfInBounds (off + x.2) x.1) cells).size = cells.size ∧
    ∀ k, ((vs.zipIdx n).foldl (fun cs (x : Value × Nat) => cs.setIfInBounds (off + x.2) x.1) cells)[k]? = if off + n ≤ k ∧ k < off + n + vs.length then vs[k - (off + n)]? else cells[k]?
  | [], n, cells, h => ⟨rfl, fun k => by rw [if_neg (by simp)]; rfl⟩
  | v :: r, n, cells, h => by
    simp only [List.length_cons] at h
    have ih := foldl_set off r (n + 1) (cells.setIfInBounds (off + n) v) (by simp; omega)
    rw [List.zipIdx_cons, List.foldl_cons]
    refine ⟨by rw [ih.1]; simp, fun k => ?_⟩
    rw [ih.2 k]
    by_cases h1 : off + (n + 1) ≤ k ∧ k < off + (n + 1) + r.length
    · rw [if_pos h1, if_pos (by simp only [List.length_cons]; omega)]
      rw [show k - (off + n) = (k - (off + (n + 1))) + 1 by omega]
      rfl
    · rw [if_neg h1]
      by_cases h2 : k = off + n
      · subst h2
        rw [if_pos (by simp only [List.length_cons]; omega), Array.getElem?_setIfInBounds_self_of_lt (by omega)]
        simp
      · rw [if_neg (by simp only [List.length_cons]; omega), Array.getElem?_setIfInBounds_ne (by omega)]

section
variable {P : Program} {nt : Nat} {I : Ini} {U : Nat → Prop} {s : ASt} {E : Env} {a : Act} {w : World} {o : Oper} {id : Nat} {v : AV} {objs : List (Nat × Option Ob)} {H : Hp}

def CellsOk (w : World) (E : Env) (H : Hp) (U : Nat → Prop) (cs : List AV) (arr : Array Value) : Prop := arr.size = cs.length ∧ (∀ (k : Nat) c y, cs[k]? = some c → arr[k]? = some y → RdV w E H c y) ∧ ∀ c ∈ cs, Mn U c

theorem fill_ok (hR : RelE nt I U s E a w) (hH : ∀ o ob, H o = some ob → s.H o = some ob) {place : Nat → Option (Nat × Nat)} : ∀ {ps : List (Nat × Operand)} {l : List (Nat × Nat × AV)} {cs cs' : List AV} {arr : Array Value},
    (∀ p ∈ ps, okA H (getA nt s.t p.2) = true) → (ps.mapM fun p => (place p.1).map fun f => (f.1, f.2, getA nt s.t p.2)) = some l → fillA cs l = some cs' → CellsOk w E s.H U cs arr →
    ∃ arr', Instr.fill place arr (ps.map fun p => (p.1, a.eval p.2)) = some arr' ∧ CellsOk w E s.H U cs' arr'
  | [], l, cs, cs', arr, hok, hm, hf, hc => by
    simp at hm
    subst hm
    cases hf
    exact ⟨arr, rfl, hc⟩
  | p :: r, l, cs, cs', arr, hok, hm, hf, hc => by
    rw [List.mapM_cons] at hm
    cases hp : place p.1 with
    | none => simp [hp] at hm
    | some f =>
      obtain ⟨off, sz⟩ := f
      simp only [hp, Option.map_some] at hm
      cases hr : (r.mapM fun p => (place p.1).map fun f => (f.1, f.2, getA nt s.t p.2)) with
      | none => rw [hr] at hm; simp at hm
      | some l' =>
        rw [hr] at hm
        have hl : l = (off, sz, getA nt s.t p.2) :: l' := by simpa using hm.symm
        subst hl
        unfold fillA at hf
        split at hf
        · rename_i hsz
          obtain ⟨e1, e2, e3⟩ := okA_ok hH (hok p (List.mem_cons_self ..)) (hR.get p.2)
          have hle : off + 0 + (a.eval p.2).cells.toList.length ≤ arr.size := by
            rw [Array.length_toList, e1, hc.1]; omega
          have fs := foldl_set off (a.eval p.2).cells.toList 0 arr hle
          have hfold : ((a.eval p.2).cells.zipIdx.foldl (fun cs (x : Value × Nat) => cs.setIfInBounds (off + x.2) x.1) arr) = (((a.eval p.2).cells.toList.zipIdx 0).foldl (fun cs (x : Value × Nat) => cs.setIfInBounds (off + x.2) x.1) arr) := by
            rw [← Array.foldl_toList, Array.toList_zipIdx]
          have hcs : off + (cellsA (getA nt s.t p.2)).length ≤ cs.length := by omega
          have hc' : CellsOk w E s.H U (splice cs off (cellsA (getA nt s.t p.2))) ((a.eval p.2).cells.zipIdx.foldl (fun cs (x : Value × Nat) => cs.setIfInBounds (off + x.2) x.1) arr) := by
            rw [hfold]
            refine ⟨by rw [fs.1, splice_length hcs, hc.1], fun k c y hk hy => ?_, fun c hcm => ?_⟩
            · rw [splice_get hcs] at hk
              rw [fs.2 k, Array.length_toList, e1] at hy
              simp only [Nat.add_zero] at hy
              split at hk
              · rename_i hkk
                rw [if_pos hkk, Array.getElem?_toList] at hy
                exact e2 _ c y hk hy
              · rename_i hkk
                rw [if_neg hkk] at hy
                exact hc.2.1 k c y hk hy
            · unfold splice at hcm
              simp only [List.append_assoc, List.mem_append] at hcm
              rcases hcm with hcm | hcm | hcm
              · exact hc.2.2 c (List.mem_of_mem_take hcm)
              · exact (hR.mnGet p.2).cells c hcm
              · exact hc.2.2 c (List.mem_of_mem_drop hcm)
          obtain ⟨arr', h1, h2⟩ := fill_ok hR hH (fun p hp => hok p (List.mem_cons_of_mem _ hp)) hr hf hc'
          refine ⟨arr', ?_, h2⟩
          rw [List.map_cons]
          unfold Instr.fill
          simp only [hp]
          rw [if_neg]
          · exact h1
          · simp only [Bool.or_eq_true, decide_eq_true_eq, not_or, Decidable.not_not, Nat.not_lt]
            rw [e1, hsz.1, hc.1]
            exact ⟨by simp, by omega⟩
        · cases hf

theorem fields_places {P : Program} {fs : List Field} {l : List (Nat × Nat)} (h : l = fs.map fun f => (f.offset, sizeP P f.type)) (hz : ∀ f ∈ l, f.2 ≠ 0) : fs.mapM (fun f => (P.info? f.type).map fun i => (f.offset, i.size)) = some l := by
  induction fs generalizing l with
  | nil => subst h; rfl
  | cons f r ih =>
    subst h
    have h0 := hz (f.offset, sizeP P f.type) (List.mem_cons_self ..)
    unfold sizeP at h0
    cases hi : P.info? f.type with
    | none => simp [hi] at h0
    | some i =>
      have := ih rfl (fun g hg => hz g (List.mem_cons_of_mem _ hg))
      rw [List.mapM_cons, this]
      simp [hi, sizeP]

theorem cells_zero (w : World) (E : Env) (H : Hp) (U : Nat → Prop) (z : Array Value) : CellsOk w E H U (z.toList.map constA) z := by
  refine ⟨by simp, fun k c y hk hy => ?_, fun c hc => ?_⟩
  · rw [List.getElem?_map, Option.map_eq_some_iff] at hk
    obtain ⟨y', hy', rfl⟩ := hk
    rw [Array.getElem?_toList, hy] at hy'
    cases hy'
    exact RdV.const ..
  · rw [List.mem_map] at hc
    obtain ⟨z, _, rfl⟩ := hc
    exact Mn.const ..

theorem good_build (hR : RelE nt I U s E a w) (hH : ∀ o ob, H o = some ob → s.H o = some ob) {t : Nat} {ps : Array (Nat × Operand)} (ho : o.op = .build t ps) {i : TI} (hi : tiOf P t = some i)
    (he : evBuild H i (ps.toList.map fun p => (p.1, getA nt s.t p.2)) = some (v, objs)) : Good P o a w E s.H U id v objs := by
  unfold evBuild at he
  rw [Option.bind_eq_some_iff] at he
  obtain ⟨l, hl, he⟩ := he
  split at he
  · rename_i hc
    obtain ⟨hok, hagg, hne, hz0, hfz⟩ := hc
    rw [Option.bind_eq_some_iff] at he
    obtain ⟨cs, hcs, he⟩ := he
    cases he
    obtain ⟨info, d, h1, h2, -, -, h3, -, h4, -⟩ := tiOf_spec hi
    obtain ⟨fs, hd⟩ : ∃ fs, d = .struct fs := by
      cases d <;> simp_all
    subst hd
    simp only at h3
    cases hzz : info.zero with
    | none => rw [hzz] at h4; exact absurd h4 hz0
    | some z =>
      rw [hzz] at h4
      simp only at h4
      have hpl := fields_places h3 hfz
      have hok' : ∀ p ∈ ps.toList, okA H (getA nt s.t p.2) = true := fun p hp => by
        have := List.all_eq_true.1 hok (p.1, getA nt s.t p.2) (List.mem_map.2 ⟨p, hp, rfl⟩)
        exact this
      have hl' : (ps.toList.mapM fun p => (i.fields.toArray[p.1]?).map fun f => (f.1, f.2, getA nt s.t p.2)) = some l := by
        rw [List.mapM_map] at hl
        rw [← hl]
        congr 1
        funext p
        simp
      obtain ⟨arr, ha, hca⟩ := fill_ok hR hH (place := fun i' => i.fields.toArray[i']?) hok' hl' hcs (h4 ▸ cells_zero w E s.H U z.cells)
      have hb : P.built t (ps.toList.map fun p => (p.1, a.eval p.2)) = some arr := by
        unfold Program.built
        simp only [h1, h2, hzz, hpl]
        exact ha
      have hrun := run_build (P := P) w t (ps.map fun p => (p.1, a.eval p.2)) arr (by rw [Array.toList_map]; exact hb)
      refine Good.pure hR (u := .agg arr) ?_ (.ag _ _ hca.1 hca.2.1) (.ag _ hca.2.2) rfl
      simp [execOp, ho, hrun]
  · cases he

theorem replicate_get {α : Type} {l : List α} (hl : 0 < l.length) : ∀ (n k : Nat), k < n * l.length → (List.replicate n l).flatten[k]? = l[k % l.length]?
  | 0, k, h => by simp at h
  | n + 1, k, h => by
    rw [List.replicate_succ, List.flatten_cons]
    by_cases hk : k < l.length
    · rw [List.getElem?_append_left hk, Nat.mod_eq_of_lt hk]
    · rw [List.getElem?_append_right (by omega), replicate_get hl n (k - l.length) (by rw [Nat.add_mul] at h; omega)]
      rw [Nat.mod_eq_sub_mod (Nat.not_lt.1 hk)]

theorem cells_zeros (w : World) (E : Env) (H : Hp) (U : Nat → Prop) (z : Array Value) (hz : 0 < z.size) (n : Nat) : CellsOk w E H U ((List.replicate n (z.toList.map constA)).flatten) ((Array.range (n * z.size)).map (z[· % z.size]!)) := by
  have hlen : ((List.replicate n (z.toList.map constA)).flatten).length = n * z.size := by simp
  refine ⟨by simp, fun k c y hk hy => ?_, fun c hc => ?_⟩
  · have hkl := (List.getElem?_eq_some_iff.1 hk).1
    rw [hlen] at hkl
    rw [replicate_get (by simpa using hz) n k (by simpa using hkl)] at hk
    simp only [List.length_map, Array.length_toList, List.getElem?_map, Option.map_eq_some_iff] at hk
    obtain ⟨y', hy', rfl⟩ := hk
    have hmod : k % z.size < z.size := Nat.mod_lt _ hz
    have e : y = y' := by
      rw [Array.getElem?_toList] at hy'
      simp only [Array.getElem?_map, Array.getElem?_range, hkl, if_true, Option.map_some, Option.some.injEq] at hy
      rw [← hy, getElem!_pos z _ hmod]
      rw [Array.getElem?_eq_getElem hmod] at hy'
      exact Option.some.inj hy'
    subst e
    exact RdV.const ..
  · rw [List.mem_flatten] at hc
    obtain ⟨l, hl, hc⟩ := hc
    rw [List.mem_replicate] at hl
    obtain ⟨_, rfl⟩ := hl
    rw [List.mem_map] at hc
    obtain ⟨z, _, rfl⟩ := hc
    exact Mn.const ..
end

end Go.Proofs.Ytnnmpdanfeejbaa.Abs
