/- The abstract machine's operations hold of the model: stores. -/
import Derived.Test.YtnnmpdanfeejbaaAbsI
namespace Go.Proofs.Ytnnmpdanfeejbaa.Abs
open Go Go.RowKit
set_option linter.unusedVariables false
set_option linter.unusedSimpArgs false

theorem heap_setRow_ne (w : World) (g : Nat) (cs : Array Value) (k : Nat) (h : k ≠ g) : (w.setRow g cs).heap[k]? = w.heap[k]? := by
  simp only [World.setRow, Array.getElem?_modify]
  rw [if_neg (Ne.symm h)]
theorem Evo.setRow (w : World) (g : Nat) (cs : Array Value) : Evo (fun b => b = g) w (w.setRow g cs) :=
  ⟨rfl, rfl, rfl, by simp [World.setRow], fun k _ hk => heap_setRow_ne w g cs k hk⟩

section
variable {P : Program} {nt : Nat} {I : Ini} {U : Nat → Prop} {s : ASt} {E : Env} {a : Act} {w : World} {o : Oper} {id : Nat} {v : AV} {objs : List (Nat × Option Ob)} {H : Hp}

/-- A live object's block is written; objects that are taken in move. -/
theorem Fx.write (hR : RelE nt I U s E a w) {q b cap : Nat} {ob ob' : Ob} {arr : Array Value} {mv : List (Nat × Nat × Nat)} (hq : s.H q = some ob) (hrho : E.rho q = some (b, cap)) (hloc : E.loc b = some (q, [])) (hlike : ob.like ob')
    (hmv : ∀ m ∈ mv, m.1 ≠ q ∧ ∃ x, s.H m.1 = some x) (hmn : MnOb U ob')
    (hl : Keeps U w (w.setRow b arr) E ⟨E.rho, fun k => (E.loc k).map (mvl q mv)⟩ s.H (updL s.H ((q, some ob') :: gone mv)) → LiveOb (w.setRow b arr) ⟨E.rho, fun k => (E.loc k).map (mvl q mv)⟩ (updL s.H ((q, some ob') :: gone mv)) q ob') :
    Fx w E s.H U id .any ((q, some ob') :: gone mv) undef (w.setRow b arr) ⟨E.rho, fun k => (E.loc k).map (mvl q mv)⟩ := by
  have hne : ∀ k, E.loc k ≠ some (q, []) → (w.setRow b arr).heap[k]? = w.heap[k]? := fun k hk => heap_setRow_ne w b arr k (fun e => hk (e ▸ hloc))
  have hmi : ∀ m ∈ mv, m.1 ≠ q := fun m hm => (hmv m hm).1
  have hupd : ∀ k, (∀ m ∈ mv, m.1 ≠ k) → k ≠ q → updL s.H ((q, some ob') :: gone mv) k = s.H k := fun k h1 h2 => by
    show updL (upd s.H q (some ob')) (gone mv) k = _
    rw [updL_out (fun y hy => by obtain ⟨m', hm', rfl⟩ := mem_gone hy; exact h1 m' hm'), upd_ne _ _ h2]
  have kp : Keeps U w (w.setRow b arr) E ⟨E.rho, fun k => (E.loc k).map (mvl q mv)⟩ s.H (updL s.H ((q, some ob') :: gone mv)) := by
    refine ⟨fun k hk h0 => ⟨hne k (by rw [h0]; simp), by simp only [h0]; rfl⟩, fun k hk h1 => ⟨hne k (h1 q), fun o' ho' => ?_⟩, fun k hk => ?_⟩
    · simp only [Option.map_eq_some_iff] at ho'
      obtain ⟨⟨k', p⟩, hk', hg⟩ := ho'
      have := mvl_nil hg
      subst this
      exact h1 k' hk'
    · by_cases hkq : k = q
      · subst hkq
        exact .inr ⟨rfl, ob, ob', hq, updL_new hmi, hlike⟩
      · by_cases hm : ∃ m ∈ mv, m.1 = k
        · exact .inl (updL_old hm)
        · rw [hupd k (fun m hm' e => hm ⟨m, hm', e⟩) hkq]
          cases hh : s.H k with
          | none => exact .inl rfl
          | some y => exact .inr ⟨rfl, y, y, rfl, rfl, Ob.like.refl y⟩
  constructor
  · exact ⟨rfl, rfl, rfl, by simp [World.setRow], fun k hk hn => hne k (fun e => hn (by rw [e]; simp))⟩
  · exact fun k hk h0 => (kp.t0 k hk h0).2
  · exact kp.t1
  · intro r hr
    have hrq : r ≠ q := fun e => hr (q, some ob') (List.mem_cons_self ..) e.symm
    refine ⟨rfl, fun b' p hb hp => ⟨hne b' (by rw [hp]; simp [hrq]), ?_⟩⟩
    simp only [hp, Option.map_some]
    rw [mvl_out (fun m hm e => hr (m.1, none) (List.mem_cons_of_mem _ (List.mem_map.2 ⟨m, hm, rfl⟩)) e)]
  · intro x hx
    rcases List.mem_cons.1 hx with rfl | hx
    · exact .inr ⟨ob, hq, .inr ⟨ob', updL_new hmi, hlike, rfl⟩⟩
    · obtain ⟨m, hm, rfl⟩ := mem_gone hx
      obtain ⟨_, y, hy⟩ := hmv m hm
      exact .inr ⟨y, hy, .inl (updL_old ⟨m, hm, rfl⟩)⟩
  · intro x hx ob2 hob
    rcases List.mem_cons.1 hx with rfl | hx
    · rw [updL_new hmi] at hob
      cases hob
      exact ⟨hl kp, hmn.mono fun _ h => .inl h⟩
    · obtain ⟨m, hm, rfl⟩ := mem_gone hx
      rw [updL_old ⟨m, hm, rfl⟩] at hob
      cases hob
  · intro b' ℓ hb
    simp only [Option.map_eq_some_iff] at hb
    obtain ⟨ℓ0, h0, _⟩ := hb
    have := hR.locLt b' ℓ0 h0
    exact ⟨by simpa [World.setRow] using this, .inr (by rw [h0]; simp)⟩
  · exact .any _
  · exact .any

theorem run_storeV {t : Nat} {i : TI} (hi : tiOf P t = some i) {b off ty : Nat} {arr : Array Value} (hb : w.heap[b]? = some (.cells arr ty (0, 0))) {u : Value} (hs : u.cells.size = i.size) (hf : off + i.size ≤ arr.size) (h1 : ∀ y ∈ u.cells, y.oneCell' = true) :
    (Instr.storeAt t (.pointer (some ⟨b, off, none⟩)) u).run P w = .ok () (w.setRow b (splice arr.toList off u.cells.toList).toArray) := by
  have hst := run_storeCells_at P b off ty u.cells.toList 0 arr w hb (by rw [Array.length_toList, hs]; omega) (fun y hy => h1 y (by simpa using hy))
  simp only [Nat.add_zero] at hst
  have hn : ¬ u.cells.size ≠ i.size := by simp [hs]
  simp only [Instr.storeAt, Instr.sureAddr, storeVar, Sem.run_bind, Sem.run_pure, Result.andThen_ok, run_size' hi, if_neg hn, Sem.run_ite]
  exact hst

theorem setRow_at {b ty : Nat} {arr arr' : Array Value} {fz : Nat × Nat} (hb : w.heap[b]? = some (.cells arr ty fz)) : (w.setRow b arr').heap[b]? = some (.cells arr' ty fz) := setRow_heap w b arr arr' ty fz hb

theorem good_store (hR : RelE nt I U s E a w) {t : Nat} {x y : Operand} (ho : o.op = .store t y x) {i : TI} (hi : tiOf P t = some i) (hH : ∀ o ob, H o = some ob → s.H o = some ob)
    (he : evStore H i (getA nt s.t x) (getA nt s.t y) = some (v, objs)) : Good P o a w E s.H U id v objs := by
  have hy := hR.get y
  generalize hgy : getA nt s.t y = gy at *
  generalize huy : a.eval y = uy at *
  unfold evStore at he
  split at he
  · rename_i q ii j
    split at he
    · rename_i hok
      obtain ⟨hok, hlen⟩ := hok
      obtain ⟨e1, e2, e3⟩ := okA_ok hH hok (hR.get x)
      split at he
      · rename_i ty cs hq
        have hq := hH _ _ hq
        split at he
        · rename_i hc
          obtain ⟨rfl, hfit⟩ := hc
          cases he
          obtain ⟨b, arr, us, h1, h2, h3, h4, h5, h6⟩ := hR.live q _ hq
          cases hy with
          | ptX _ _ _ _ h => rw [hq] at h; cases h
          | pt _ _ _ ob b' cap h hr =>
            rw [hq] at h
            cases h
            rw [h1] at hr
            cases hr
            have hrun := run_storeV (P := P) hi h3 (off := j) (by rw [e1, hlen]) (by omega) e3
            refine ⟨undef, w.setRow b (splice arr.toList j (a.eval x).cells.toList).toArray, _, .inr ⟨?_, rfl⟩, Fx.write (mv := []) (ob' := .box ty (splice cs j (cellsA (getA nt s.t x)))) hR hq h1 h2 trivial (fun m hm => by simp at hm) (fun c hc => ?_) (fun kp => ?_)⟩
            · simp only [Nat.zero_mul, Nat.zero_add] at huy
              simp [execOp, ho, huy, hrun]
            · unfold splice at hc
              simp only [List.append_assoc, List.mem_append] at hc
              have hmn := (hR.mnH q _ hq).2
              rcases hc with hc | hc | hc
              · exact hmn c (List.mem_of_mem_take hc)
              · exact (hR.mnGet x).cells c hc
              · exact hmn c (List.mem_of_mem_drop hc)
            · have hl1 : j + (cellsA (getA nt s.t x)).length ≤ cs.length := by omega
              have hl2 : j + (a.eval x).cells.toList.length ≤ arr.toList.length := by rw [Array.length_toList, Array.length_toList, e1]; omega
              have hget : ∀ k, (splice arr.toList j (a.eval x).cells.toList).toArray[k]? = if j ≤ k ∧ k < j + (cellsA (getA nt s.t x)).length then (a.eval x).cells[k - j]? else arr[k]? := fun k => by
                rw [List.getElem?_toArray, splice_get hl2, Array.length_toList, e1, Array.getElem?_toList, Array.getElem?_toList]
              have hmn := (hR.mnH q _ hq).2
              refine ⟨b, (splice arr.toList j (a.eval x).cells.toList).toArray, fun k => (splice arr.toList j (a.eval x).cells.toList).toArray.getD k undef, h1, by simp only [h2, Option.map_some, mvl]; rfl, setRow_at h3, by
                rw [List.size_toArray, splice_length hl2, splice_length hl1, Array.length_toList, h4], fun k hk => ?_, fun k c hk => ?_⟩
              · rw [splice_length hl1] at hk
                have : k < (splice arr.toList j (a.eval x).cells.toList).toArray.size := by rw [List.size_toArray, splice_length hl2, Array.length_toList, h4]; exact hk
                rw [Array.getElem?_eq_getElem this]
                simp only [Array.getD, this, dite_true]
                rfl
              · have hkl := (List.getElem?_eq_some_iff.1 hk).1
                rw [splice_length hl1] at hkl
                have hks : k < (splice arr.toList j (a.eval x).cells.toList).toArray.size := by rw [List.size_toArray, splice_length hl2, Array.length_toList, h4]; exact hkl
                have hval : (splice arr.toList j (a.eval x).cells.toList).toArray[k]? = some ((splice arr.toList j (a.eval x).cells.toList).toArray.getD k undef) := by
                  rw [Array.getElem?_eq_getElem hks]
                  simp only [Array.getD, hks, dite_true]
                  rfl
                rw [hget k] at hval
                rw [splice_get hl1] at hk
                split at hk
                · rename_i hkk
                  rw [if_pos hkk] at hval
                  exact (e2 _ c _ hk hval).keeps kp ((hR.mnGet x).cells c (List.mem_of_getElem? hk))
                · rename_i hkk
                  rw [if_neg hkk] at hval
                  rw [h5 k hkl] at hval
                  show RdV _ _ _ c ((splice arr.toList j (a.eval x).cells.toList).toArray.getD k undef)
                  rw [← Option.some.inj hval]
                  exact (h6 k c hk).keeps kp (hmn c (List.mem_of_getElem? hk))
        · cases he
      · rename_i ty sz es hq
        have hq := hH _ _ hq
        rw [Option.bind_eq_some_iff] at he
        obtain ⟨e, hes, he⟩ := he
        split at he
        · rename_i hfit
          split at he
          · rename_i cs ks hcs
            split at he
            · rename_i hd
              cases he
              obtain ⟨d1, d2⟩ := distinct_spec hd
              obtain ⟨r1, r2, r3⟩ := toCs_spec hcs
              have hil := (List.getElem?_eq_some_iff.1 hes).1
              rcases hR.live q _ hq with ⟨_, rfl⟩ | ⟨b, cap, arr, us, h1, h2, h3, h4, h5, h6, h7, h8, h9⟩
              · simp at hes
              · cases hy with
                | ptX _ _ _ _ h => rw [hq] at h; cases h
                | pt _ _ _ ob b' cap' h hr =>
                  rw [hq] at h
                  cases h
                  rw [h1] at hr
                  cases hr
                  have hel : e.length = sz := h7 e (List.mem_of_getElem? hes)
                  have hrow : (ii + 1) * sz ≤ arr.size := by rw [h4]; exact Nat.mul_le_mul_right _ (by omega)
                  rw [Nat.add_mul, Nat.one_mul] at hrow
                  have hrun := run_storeV (P := P) hi h3 (off := ii * sz + j) (by rw [e1, hlen]) (by omega) e3
                  have hcl : cs.length = i.size := by rw [r1, hlen]
                  have hl1 : j + cs.length ≤ e.length := by omega
                  have hl2 : (ii * sz + j) + (a.eval x).cells.toList.length ≤ arr.toList.length := by rw [Array.length_toList, Array.length_toList, e1]; omega
                  have hne : es = [] ↔ es.set ii (splice e j cs) = [] := by
                    constructor
                    · intro h0; rw [h0] at hil; simp at hil
                    · intro h0
                      have := congrArg List.length h0
                      simp at this
                      exact this
                  refine ⟨undef, w.setRow b (splice arr.toList (ii * sz + j) (a.eval x).cells.toList).toArray, _, .inr ⟨?_, rfl⟩, Fx.write (mv := ks) (ob' := .rw ty sz (es.set ii (splice e j cs))) hR hq h1 h2 ⟨rfl, hne⟩ (fun m hm => ⟨d2 m hm, ?_⟩) trivial (fun k => ?_)⟩
                  · simp only [Ob.sz] at huy
                    simp [execOp, ho, huy, hrun]
                  · obtain ⟨ty', sz', es', q1, _⟩ := r3 m hm
                    exact ⟨_, hH _ _ q1⟩
                  · have hget : ∀ k, (splice arr.toList (ii * sz + j) (a.eval x).cells.toList).toArray[k]? = if ii * sz + j ≤ k ∧ k < (ii * sz + j) + cs.length then (a.eval x).cells[k - (ii * sz + j)]? else arr[k]? := fun k => by
                      rw [List.getElem?_toArray, splice_get hl2, Array.length_toList, e1, ← r1, Array.getElem?_toList, Array.getElem?_toList]
                    have hsize : (splice arr.toList (ii * sz + j) (a.eval x).cells.toList).toArray.size = arr.size := by rw [List.size_toArray, splice_length hl2, Array.length_toList]
                    have hlocq : (Option.map (mvl q ks) (E.loc b)) = some (q, []) := by rw [h2, Option.map_some, mvl_out d2]
                    refine .inr ⟨b, cap, (splice arr.toList (ii * sz + j) (a.eval x).cells.toList).toArray, fun i1 j1 => (splice arr.toList (ii * sz + j) (a.eval x).cells.toList).toArray.getD (i1 * sz + j1) undef, h1, hlocq, setRow_at h3, by rw [hsize, h4], by simpa using h5, h6, fun e' he' => ?_, fun i1 j1 hi1 hj1 => ?_, fun i1 j1 e' c he' hc => ?_⟩
                    · rcases List.mem_or_eq_of_mem_set he' with he' | rfl
                      · exact h7 e' he'
                      · rw [splice_length hl1, hel]
                    · rw [List.length_set] at hi1
                      have : i1 * sz + j1 < arr.size := by
                        rw [h4]
                        calc i1 * sz + j1 < i1 * sz + sz := by omega
                          _ = (i1 + 1) * sz := by rw [Nat.add_mul]; omega
                          _ ≤ cap * sz := Nat.mul_le_mul_right _ (by omega)
                      rw [← hsize] at this
                      rw [Array.getElem?_eq_getElem this]
                      simp only [Array.getD, this, dite_true]
                      rfl
                    · have hi1 := (List.getElem?_eq_some_iff.1 he').1
                      rw [List.length_set] at hi1
                      have hj1 := (List.getElem?_eq_some_iff.1 hc).1
                      have hj1' : j1 < sz := by
                        rcases List.mem_or_eq_of_mem_set (List.mem_of_getElem? he') with h | rfl
                        · rw [← h7 e' h]; exact hj1
                        · rw [splice_length hl1, hel] at hj1; exact hj1
                      have hlt : i1 * sz + j1 < arr.size := by
                        rw [h4]
                        calc i1 * sz + j1 < i1 * sz + sz := by omega
                          _ = (i1 + 1) * sz := by rw [Nat.add_mul]; omega
                          _ ≤ cap * sz := Nat.mul_le_mul_right _ (by omega)
                      have hval : (splice arr.toList (ii * sz + j) (a.eval x).cells.toList).toArray[i1 * sz + j1]? = some ((splice arr.toList (ii * sz + j) (a.eval x).cells.toList).toArray.getD (i1 * sz + j1) undef) := by
                        rw [← hsize] at hlt
                        rw [Array.getElem?_eq_getElem hlt]
                        simp only [Array.getD, hlt, dite_true]
                        rfl
                      rw [hget] at hval
                      have old : ∀ e0, es[i1]? = some e0 → e0[j1]? = some c → arr[i1 * sz + j1]? = some ((splice arr.toList (ii * sz + j) (a.eval x).cells.toList).toArray.getD (i1 * sz + j1) undef) →
                          RdC (w.setRow b (splice arr.toList (ii * sz + j) (a.eval x).cells.toList).toArray) (fun k => (E.loc k).map (mvl q ks)) (q, [(i1, j1)]) c ((splice arr.toList (ii * sz + j) (a.eval x).cells.toList).toArray.getD (i1 * sz + j1) undef) := fun e0 he0 hc0 hv0 => by
                        rw [h8 i1 j1 hi1 hj1'] at hv0
                        rw [← Option.some.inj hv0]
                        refine (h9 i1 j1 e0 c he0 hc0).relabel (q, [(i1, j1)]) k.t0 (fun b' p hb' hp => ⟨heap_setRow_ne _ _ _ _ (fun e0 => ?_), ?_⟩)
                        · rw [e0, h2] at hp
                          simp at hp
                        · simp only [hp, Option.map_some]
                          rw [mvl_out d2]
                      by_cases hii : i1 = ii
                      · subst hii
                        rw [List.getElem?_set_self hil] at he'
                        cases he'
                        rw [splice_get hl1] at hc
                        split at hc
                        · rename_i hjj
                          rw [if_pos (by omega)] at hval
                          have hidx : i1 * sz + j1 - (i1 * sz + j) = j1 - j := by omega
                          rw [hidx] at hval
                          have hxl : j1 - j < (cellsA (getA nt s.t x)).length := by rw [← r1]; omega
                          have hx' := List.getElem?_eq_getElem hxl
                          obtain ⟨qq, t1, t2⟩ := r2 (j1 - j) _ c hx' hc
                          refine toC_ok hR hH t1 (e2 (j1 - j) _ _ hx' hval) k.t0 (fun k' hk' b' p hb' hp => ?_)
                          have hmem := t2 k' hk'
                          rw [show j + (j1 - j) = j1 by omega] at hmem
                          refine ⟨heap_setRow_ne _ _ _ _ (fun e0 => ?_), ?_⟩
                          · rw [e0, h2] at hp
                            cases hp
                            exact d2 _ hmem rfl
                          · simp only [hp, Option.map_some]
                            rw [mvl_in d1 hmem]
                            simp
                        · rename_i hjj
                          rw [if_neg (by omega)] at hval
                          exact old e hes hc hval
                      · rw [List.getElem?_set_ne (Ne.symm hii)] at he'
                        have hcond : ¬ (ii * sz + j ≤ i1 * sz + j1 ∧ i1 * sz + j1 < ii * sz + j + cs.length) := by
                          intro hcc
                          rcases Nat.lt_or_gt_of_ne hii with hlt' | hgt'
                          · have : (i1 + 1) * sz ≤ ii * sz := Nat.mul_le_mul_right _ hlt'
                            rw [Nat.add_mul] at this
                            omega
                          · have : (ii + 1) * sz ≤ i1 * sz := Nat.mul_le_mul_right _ hgt'
                            rw [Nat.add_mul] at this
                            omega
                        rw [if_neg hcond] at hval
                        exact old e' he' hc hval
            · cases he
          · cases he
        · cases he
      · cases he
    · cases he
  · cases he
end

end Go.Proofs.Ytnnmpdanfeejbaa.Abs
