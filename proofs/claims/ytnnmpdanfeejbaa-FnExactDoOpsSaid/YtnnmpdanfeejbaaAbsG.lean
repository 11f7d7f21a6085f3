/- The abstract machine's operations hold of the model: those that make an object. -/
import Derived.Test.YtnnmpdanfeejbaaAbsF
namespace Go.Proofs.Ytnnmpdanfeejbaa.Abs
open Go Go.RowKit
set_option linter.unusedVariables false
set_option linter.unusedSimpArgs false

def mvl (d : Nat) (mv : List (Nat × Nat × Nat)) (ℓ : Loc) : Loc := match mv.find? (fun m => m.1 == ℓ.1) with
  | some m => (d, (m.2.1, m.2.2) :: ℓ.2)
  | none => ℓ
theorem mvl_out {d : Nat} {mv : List (Nat × Nat × Nat)} {k : Nat} {p : List (Nat × Nat)} (h : ∀ m ∈ mv, m.1 ≠ k) : mvl d mv (k, p) = (k, p) := by
  unfold mvl
  rw [List.find?_eq_none.2 (fun m hm => by simpa using h m hm)]
theorem mvl_nil {d : Nat} {mv : List (Nat × Nat × Nat)} {k o : Nat} {p : List (Nat × Nat)} (h : mvl d mv (k, p) = (o, [])) : p = [] := by
  unfold mvl at h
  split at h
  · simp at h
  · simpa using congrArg Prod.snd h
theorem mvl_in {d : Nat} {mv : List (Nat × Nat × Nat)} (hd : (mv.map (·.1)).Nodup) {k i j : Nat} (h : (k, i, j) ∈ mv) (p : List (Nat × Nat)) : mvl d mv (k, p) = (d, (i, j) :: p) := by
  have : mv.find? (fun m => m.1 == k) = some (k, i, j) := by
    induction mv with
    | nil => simp at h
    | cons m r ih =>
      rw [List.map_cons, List.nodup_cons] at hd
      rcases List.mem_cons.1 h with rfl | h
      · simp
      · have hne : m.1 ≠ k := fun e => hd.1 (e ▸ List.mem_map_of_mem (f := (·.1)) h)
        rw [List.find?_cons_of_neg (by simpa using hne)]
        exact ih hd.2 h
  unfold mvl
  rw [this]

def Env.fresh (E : Env) (w : World) (id cap : Nat) (g : Loc → Loc) : Env := ⟨upd E.rho id (some (w.heap.size, cap)), fun b => if b = w.heap.size then some (id, []) else (E.loc b).map g⟩

theorem mem_gone {x : Nat × Option Ob} {mv : List (Nat × Nat × Nat)} (h : x ∈ gone mv) : ∃ m ∈ mv, x = (m.1, none) := by
  unfold gone at h
  rw [List.mem_map] at h
  obtain ⟨m, hm, rfl⟩ := h
  exact ⟨m, hm, rfl⟩
theorem updL_gone {H : Hp} {mv : List (Nat × Nat × Nat)} {k : Nat} (h : ∃ m ∈ mv, m.1 = k) : updL H (gone mv) k = none := by
  induction mv generalizing H with
  | nil => simp at h
  | cons m r ih =>
    show updL (upd H m.1 none) (gone r) k = none
    by_cases hr : ∃ m ∈ r, m.1 = k
    · exact ih hr
    · have : m.1 = k := by
        obtain ⟨m', hm', hk⟩ := h
        rcases List.mem_cons.1 hm' with rfl | hm'
        · exact hk
        · exact absurd ⟨m', hm', hk⟩ hr
      subst this
      rw [updL_out (fun x hx => by obtain ⟨m', hm', rfl⟩ := mem_gone hx; exact fun e => hr ⟨m', hm', e⟩), upd_same]
theorem updL_new {H : Hp} {mv : List (Nat × Nat × Nat)} {id : Nat} {x : Option Ob} (h : ∀ m ∈ mv, m.1 ≠ id) : updL H ((id, x) :: gone mv) id = x := by
  show updL (upd H id x) (gone mv) id = x
  rw [updL_out (fun x hx => by obtain ⟨m', hm', rfl⟩ := mem_gone hx; exact h m' hm'), upd_same]
theorem updL_old {H : Hp} {mv : List (Nat × Nat × Nat)} {id k : Nat} {x : Option Ob} (h : ∃ m ∈ mv, m.1 = k) : updL H ((id, x) :: gone mv) k = none := updL_gone (H := upd H id x) h

section
variable {P : Program} {nt : Nat} {I : Ini} {U : Nat → Prop} {s : ASt} {E : Env} {a : Act} {w : World} {o : Oper} {id : Nat} {v : AV} {objs : List (Nat × Option Ob)} {H : Hp}

theorem keeps_new (hR : RelE nt I U s E a w) (hid : ¬ U id) {w' : World} (hw : Evo (fun _ => False) w w') {cap : Nat} {g : Loc → Loc} {mv : List (Nat × Nat × Nat)} {x : Option Ob}
    (hg2 : ∀ k p o, g (k, p) = (o, []) → p = []) : Keeps U w w' E (E.fresh w id cap g) s.H (updL s.H ((id, x) :: gone mv)) := by
  have hne : ∀ b, b < w.heap.size → (E.fresh w id cap g).loc b = (E.loc b).map g := fun b hb => if_neg (by omega)
  refine ⟨fun b hb h0 => ⟨hw.old hb id_false, by rw [hne b hb, h0]; rfl⟩, fun b hb h1 => ⟨hw.old hb id_false, fun o' ho' => ?_⟩, fun k hk => ?_⟩
  · rw [hne b hb, Option.map_eq_some_iff] at ho'
    obtain ⟨⟨k, p⟩, hk, hg⟩ := ho'
    have := hg2 k p o' hg
    subst this
    exact h1 k hk
  · have hki : k ≠ id := fun e => hid (e ▸ hk)
    by_cases hm : ∃ m ∈ mv, m.1 = k
    · exact .inl (updL_old hm)
    · have : updL s.H ((id, x) :: gone mv) k = s.H k := by
        show updL (upd s.H id x) (gone mv) k = _
        rw [updL_out (fun y hy => by obtain ⟨m', hm', rfl⟩ := mem_gone hy; exact fun e => hm ⟨m', hm', e⟩), upd_ne _ _ hki]
      rw [this]
      cases hh : s.H k with
      | none => exact .inl rfl
      | some ob => exact .inr ⟨upd_ne _ _ hki, ob, ob, rfl, rfl, Ob.like.refl ob⟩
where id_false : ¬ False := fun h => h

theorem Fx.new (hR : RelE nt I U s E a w) (hid : ¬ U id) {w' : World} (hw : Evo (fun _ => False) w w') (hsz : w.heap.size < w'.heap.size) {cap : Nat} {g : Loc → Loc} {mv : List (Nat × Nat × Nat)} {ob : Ob}
    (hg1 : ∀ k p, (∀ m ∈ mv, m.1 ≠ k) → g (k, p) = (k, p)) (hg2 : ∀ k p o, g (k, p) = (o, []) → p = []) (hmv : ∀ m ∈ mv, ∃ x, s.H m.1 = some x)
    (hl : LiveOb w' (E.fresh w id cap g) (updL s.H ((id, some ob) :: gone mv)) id ob) (hmn : MnOb (fun o => U o ∨ o = id) ob)
    {u : Value} (hv : RdV w' (E.fresh w id cap g) (updL s.H ((id, some ob) :: gone mv)) v u) (hm : Mn (fun o => U o ∨ o = id) v) :
    Fx w E s.H U id v ((id, some ob) :: gone mv) u w' (E.fresh w id cap g) := by
  have k := keeps_new (x := some ob) (mv := mv) (cap := cap) (g := g) hR hid hw hg2
  have hmi : ∀ m ∈ mv, m.1 ≠ id := fun m hm e => by
    obtain ⟨x, hx⟩ := hmv m hm
    exact hid (e ▸ (hR.mnH _ _ hx).1)
  have hne : ∀ b, b < w.heap.size → (E.fresh w id cap g).loc b = (E.loc b).map g := fun b hb => if_neg (by omega)
  constructor
  · exact ⟨hw.os, hw.tape, hw.output, hw.size, fun i hi _ => hw.block i hi (fun h => h)⟩
  · exact fun b hb h0 => (k.t0 b hb h0).2
  · exact k.t1
  · intro q hq
    have hqi : q ≠ id := fun e => hq (id, some ob) (List.mem_cons_self ..) e.symm
    refine ⟨upd_ne _ _ hqi, fun b p hb hp => ⟨hw.block b hb (fun h => h), ?_⟩⟩
    rw [hne b hb, hp, Option.map_some, hg1 q p (fun m hm e => hq (m.1, none) (List.mem_cons_of_mem _ (List.mem_map.2 ⟨m, hm, rfl⟩)) e)]
  · intro x hx
    rcases List.mem_cons.1 hx with rfl | hx
    · exact .inl rfl
    · obtain ⟨m, hm, rfl⟩ := mem_gone hx
      obtain ⟨y, hy⟩ := hmv m hm
      exact .inr ⟨y, hy, .inl (updL_old ⟨m, hm, rfl⟩)⟩
  · intro x hx ob' hob
    rcases List.mem_cons.1 hx with rfl | hx
    · rw [updL_new hmi] at hob
      cases hob
      exact ⟨hl, hmn⟩
    · obtain ⟨m, hm, rfl⟩ := mem_gone hx
      rw [updL_old ⟨m, hm, rfl⟩] at hob
      cases hob
  · intro b ℓ hb
    by_cases hbs : b = w.heap.size
    · subst hbs
      exact ⟨hsz, .inl (Nat.le_refl _)⟩
    · have : (E.loc b).map g = some ℓ := by
        have : (E.fresh w id cap g).loc b = (E.loc b).map g := if_neg hbs
        rw [← this]
        exact hb
      rw [Option.map_eq_some_iff] at this
      obtain ⟨ℓ0, h0, _⟩ := this
      have := hR.locLt b ℓ0 h0
      exact ⟨by omega, .inr (by simp [h0])⟩
  · exact hv
  · exact hm

theorem Evo.alloc (w : World) (x : Obj) : Evo (fun _ => False) w (w.alloc x) := ⟨rfl, rfl, rfl, by simp, fun k hk _ => heap_alloc_old w x k hk⟩

theorem oneA_ok {E : Env} (hH : ∀ o ob, H o = some ob → s.H o = some ob) {x : AV} (h1 : oneA H x = true) {u : Value} (h : RdV w E s.H x u) : u.oneCell' = true := by
  have hs : ∀ q, (H q).isSome = true → s.H q ≠ none := fun q hq hn => by
    cases hh : H q with
    | none => simp [hh] at hq
    | some ob => rw [hH _ _ hh] at hn; cases hn
  cases h with
  | c x u h => exact h.one
  | bw x u h => exact h.one
  | nul => rfl
  | any => cases h1
  | slX o n u h => exact absurd h (hs o h1)
  | sl => rfl
  | slN => rfl
  | ptX o i j u h => exact absurd h (hs o h1)
  | pt => rfl
  | ag => cases h1
  | tu => cases h1

theorem cells_one {u : Value} (h : u.oneCell' = true) : u.cells = #[u] := by cases u <;> first | rfl | cases h

/-- The cells of a value. -/
theorem okA_ok {E : Env} (hH : ∀ o ob, H o = some ob → s.H o = some ob) {x : AV} (h1 : okA H x = true) {u : Value} (h : RdV w E s.H x u) :
    u.cells.size = (cellsA x).length ∧ (∀ (k : Nat) c y, (cellsA x)[k]? = some c → u.cells[k]? = some y → RdV w E s.H c y) ∧ ∀ y ∈ u.cells, y.oneCell' = true := by
  by_cases hag : ∃ cs, x = .ag cs
  · obtain ⟨cs, rfl⟩ := hag
    cases h with
    | ag _ us hs hi =>
      refine ⟨hs, hi, fun y hy => ?_⟩
      obtain ⟨k, hk, rfl⟩ := Array.mem_iff_getElem.1 hy
      have hk' : k < us.size := hk
      have hc : k < cs.length := hs ▸ hk'
      exact oneA_ok hH (List.all_eq_true.1 h1 _ (List.getElem_mem hc)) (hi k cs[k] us[k] (List.getElem?_eq_getElem hc) (Array.getElem?_eq_getElem hk'))
  · have hc : cellsA x = [x] := by cases x <;> first | rfl | exact absurd ⟨_, rfl⟩ hag
    have h1' : oneA H x = true := by cases x <;> first | exact h1 | exact absurd ⟨_, rfl⟩ hag
    have := oneA_ok hH h1' h
    rw [hc, cells_one this]
    refine ⟨rfl, fun k c y hk hy => ?_, fun y hy => ?_⟩
    · cases k with
      | zero => simp at hk hy; subst hk hy; exact h
      | succ k => simp at hk
    · simp at hy
      subst hy
      exact this
theorem Mn.cells {x : AV} (h : Mn U x) : ∀ c ∈ cellsA x, Mn U c := by
  intro c hc
  by_cases hag : ∃ cs, x = .ag cs
  · obtain ⟨cs, rfl⟩ := hag
    cases h with | ag _ h => exact h c hc
  · have h0 : cellsA x = [x] := by cases x <;> first | rfl | exact absurd ⟨_, rfl⟩ hag
    rw [h0] at hc
    simp at hc
    subst hc
    exact h

/-- A box is made. -/
theorem good_newBox (hR : RelE nt I U s E a w) (hid : ¬ U id) {ty : Nat} {arr : Array Value} {cs : List AV} (hr : (execOp a.eval o).run P w = .ok (.value (.pointer (some ⟨w.heap.size, 0, none⟩))) (w.alloc (.cells arr ty)))
    (hs : arr.size = cs.length) (hc : ∀ (k : Nat) c y, cs[k]? = some c → arr[k]? = some y → RdV w E s.H c y) (hm : ∀ c ∈ cs, Mn U c) :
    Good P o a w E s.H U id (.pt id 0 0) [(id, some (.box ty cs))] := by
  have hw := Evo.alloc w (.cells arr ty)
  have k := keeps_new (x := some (.box ty cs)) (mv := []) (cap := 1) (g := fun ℓ => ℓ) (id := id) hR hid hw (fun k p o h => by simpa using congrArg Prod.snd h)
  refine ⟨_, _, E.fresh w id 1 (fun ℓ => ℓ), .inl hr, ?_⟩
  refine Fx.new (mv := []) hR hid hw (by simp) (fun _ _ _ => rfl) (fun k p o h => by simpa using congrArg Prod.snd h) (fun m hm => by simp at hm) ?_ ?_ ?_ ?_
  · refine ⟨w.heap.size, arr, fun j => arr.getD j undef, upd_same .., if_pos rfl, heap_alloc_new w _, hs, fun j hj => ?_, fun j c hj => ?_⟩
    · rw [Array.getElem?_eq_getElem (hs ▸ hj)]
      simp [Array.getD, hs, hj]
    · have hjl := (List.getElem?_eq_some_iff.1 hj).1
      have : arr[j]? = some (arr.getD j undef) := by
        rw [Array.getElem?_eq_getElem (hs ▸ hjl)]
        simp [Array.getD, hs, hjl]
      exact (hc j c _ hj this).keeps k (hm c (List.mem_of_getElem? hj))
  · exact fun c hc => (hm c hc).mono fun _ h => .inl h
  · have := RdV.pt (w := w.alloc (.cells arr ty)) (E := E.fresh w id 1 (fun ℓ => ℓ)) (H := updL s.H ((id, some (.box ty cs)) :: gone [])) id 0 0 (.box ty cs) w.heap.size 1 (updL_new (by simp)) (upd_same ..)
    simpa [Ob.sz] using this
  · exact .pt _ _ _ (.inr rfl)

theorem good_box (hR : RelE nt I U s E a w) (hid : ¬ U id) (hH : ∀ o ob, H o = some ob → s.H o = some ob) {e : Nat} {x : Operand} (ho : o.op = .box e x) (hx : okA H (getA nt s.t x) = true) :
    Good P o a w E s.H U id (.pt id 0 0) [(id, some (.box e (cellsA (getA nt s.t x))))] := by
  obtain ⟨h1, h2, h3⟩ := okA_ok hH hx (hR.get x)
  refine good_newBox (arr := (a.eval x).cells) hR hid ?_ h1 h2 (hR.mnGet x).cells
  simp [execOp, ho, Instr.box, newVar, newRow]

theorem good_alloc (hR : RelE nt I U s E a w) (hid : ¬ U id) {e : Nat} (ho : o.op = .alloc e) {i : TI} (hi : tiOf P e = some i) (hz : i.zero ≠ []) :
    Good P o a w E s.H U id (.pt id 0 0) [(id, some (.box e (i.zero.map constA)))] := by
  obtain ⟨info, d, h1, h2, -, -, -, -, h3, -⟩ := tiOf_spec hi
  cases hzz : info.zero with
  | none => rw [hzz] at h3; exact absurd h3 hz
  | some z =>
    simp only [hzz] at h3
    have hzr : (zeroValue e).run P w = .ok z w := by simp [zeroValue, run_typeInfo w h1, hzz]
    refine good_newBox (arr := z.cells) hR hid ?_ (by rw [h3]; simp) (fun k c y hk hy => ?_) (fun c hc => ?_)
    · simp [execOp, ho, Instr.alloc, hzr, newVar, newRow]
    · rw [h3, List.getElem?_map, Option.map_eq_some_iff] at hk
      obtain ⟨y', hy', rfl⟩ := hk
      have : y' = y := by
        rw [Array.getElem?_toList] at hy'
        rw [hy] at hy'
        exact (Option.some.inj hy').symm
      subst this
      exact RdV.const ..
    · rw [List.mem_map] at hc
      obtain ⟨z, _, rfl⟩ := hc
      exact Mn.const ..
end

end Go.Proofs.Ytnnmpdanfeejbaa.Abs
