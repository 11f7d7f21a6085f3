/- The abstract machine: states told by lists, and how a state is told less exactly. -/
import Derived.Test.YtnnmpdanfeejbaaAbsS
namespace Go.Proofs.Ytnnmpdanfeejbaa.Abs
open Go Go.RowKit
set_option linter.unusedVariables false
set_option linter.unusedSimpArgs false

/-- Slots by a list. -/
def tS : List (Nat × AV) → Nat → AV
  | [] => fun _ => .any
  | (k, v) :: r => upd (tS r) k v
def hS : List (Nat × Ob) → Hp
  | [] => fun _ => none
  | (k, v) :: r => upd (hS r) k (some v)
/-- An old number of each new one. -/
def gS : List (Nat × Nat) → Nat → Nat
  | [] => fun o => o
  | (k, v) :: r => upd (gS r) k v
def sS (t : List (Nat × AV)) (h : List (Nat × Ob)) (c : Nat) : ASt := ⟨tS t, hS h, c⟩

mutual
def wkA (g : Nat → Nat) : AV → AV → Prop
  | x, .any => True
  | x, .c y => (match x with | .c x => x = y ∨ Sim x y | .nul => ∃ k, y = .row k [] | _ => False)
  | x, .bw y => x = .bw y
  | x, .nul => x = .nul
  | x, .sl o n => (match x with | .sl o' n' => g o = o' ∧ o' ≠ 0 ∧ n' = n | .nul => g o = 0 ∧ n = 0 | _ => False)
  | x, .pt o i j => (match x with | .pt o' i' j' => g o = o' ∧ o' ≠ 0 ∧ i' = i ∧ j' = j | _ => False)
  | x, .ag cs => (match x with | .ag cs' => wkL g cs' cs | _ => False)
  | x, .tu cs => (match x with | .tu cs' => wkL g cs' cs | _ => False)
def wkL (g : Nat → Nat) : List AV → List AV → Prop
  | [], [] => True
  | x :: r, y :: q => wkA g x y ∧ wkL g r q
  | _, _ => False
end
mutual
theorem wkA_ok {g : Nat → Nat} : (x y : AV) → wkA g x y → Wk g x y
  | x, .any, _ => .any x
  | x, .c y, h => by
    unfold wkA at h
    split at h
    · rcases h with h | h
      · rw [h]; exact .same y
      · exact .c _ _ h
    · obtain ⟨k, rfl⟩ := h; exact .nulR k
    · exact h.elim
  | x, .bw y, h => by unfold wkA at h; rw [h]; exact .bw y
  | x, .nul, h => by unfold wkA at h; rw [h]; exact .nul
  | x, .sl o n, h => by
    unfold wkA at h
    split at h
    · obtain ⟨rfl, h0, rfl⟩ := h; exact .sl _ _ h0
    · obtain ⟨h0, rfl⟩ := h; exact .ph _ h0
    · exact h.elim
  | x, .pt o i j, h => by
    unfold wkA at h
    split at h
    · obtain ⟨rfl, h0, rfl, rfl⟩ := h; exact .pt _ _ _ h0
    · exact h.elim
  | x, .ag cs, h => by
    unfold wkA at h
    split at h
    · rename_i cs'; exact .ag cs' cs (wkL_ok cs' cs h).1 (wkL_ok cs' cs h).2
    · exact h.elim
  | x, .tu cs, h => by
    unfold wkA at h
    split at h
    · rename_i cs'; exact .tu cs' cs (wkL_ok cs' cs h).1 (wkL_ok cs' cs h).2
    · exact h.elim
termination_by structural x y => y
theorem wkL_ok {g : Nat → Nat} : (l m : List AV) → wkL g l m → l.length = m.length ∧ ∀ (i : Nat) c c', l[i]? = some c → m[i]? = some c' → Wk g c c'
  | [], [], _ => ⟨rfl, fun i c c' h => by simp at h⟩
  | [], y :: q, h => by unfold wkL at h; exact h.elim
  | x :: r, [], h => by unfold wkL at h; exact h.elim
  | x :: r, y :: q, h => by
    unfold wkL at h
    have h1 := wkA_ok x y h.1
    have h2 := wkL_ok r q h.2
    refine ⟨by simp [h2.1], fun i c c' hc hc' => ?_⟩
    cases i with
    | zero => cases hc; cases hc'; exact h1
    | succ i => exact h2.2 i c c' (by simpa using hc) (by simpa using hc')
termination_by structural l m => m
end

def wkO (g : Nat → Nat) : Option Ob → Ob → Prop
  | some (.box ty cs), .box ty' cs' => ty = ty' ∧ wkL g cs cs'
  | some (.rw ty sz es), .rw ty' sz' es' => ty = ty' ∧ sz = sz' ∧ es = es'
  | _, _ => False
theorem wkO_ok {g : Nat → Nat} {x : Option Ob} {y : Ob} (h : wkO g x y) : ∃ x', x = some x' ∧ WkO g x' y := by
  unfold wkO at h
  split at h
  · obtain ⟨rfl, h⟩ := h; exact ⟨_, rfl, rfl, wkL_ok _ _ h⟩
  · obtain ⟨rfl, rfl, rfl⟩ := h; exact ⟨_, rfl, rfl, rfl, rfl⟩
  · exact h.elim

def phO : Ob → Prop
  | .rw _ _ es => es = []
  | .box _ _ => False
def wkP (g : Nat → Nat) (H : Hp) (k : Nat) (v : Ob) : Prop := if g k = 0 then phO v else wkO g (H (g k)) v
theorem wkP_ok {g : Nat → Nat} {H : Hp} {k : Nat} {v : Ob} (h : wkP g H k v) : (g k ≠ 0 ∧ ∃ x, H (g k) = some x ∧ WkO g x v) ∨ (g k = 0 ∧ ∃ ty sz, v = .rw ty sz []) := by
  unfold wkP at h
  split at h
  · rename_i h0
    cases v with
    | box => exact h.elim
    | rw ty sz es => exact .inr ⟨h0, ty, sz, by rw [show es = [] from h]⟩
  · rename_i h0
    exact .inl ⟨h0, wkO_ok h⟩
def slotsP (g : Nat → Nat) (t : Nat → AV) : List (Nat × AV) → Prop
  | [] => True
  | (k, v) :: r => wkA g (t k) v ∧ slotsP g t r
def objsP (g : Nat → Nat) (H : Hp) : List (Nat × Ob) → Prop
  | [] => True
  | (k, v) :: r => wkP g H k v ∧ objsP g H r
/-- The numbers are all below c, each object's once, none is 0. -/
def smallB (np c : Nat) (g : List (Nat × Nat)) (t : List (Nat × AV)) (h : List (Nat × Ob)) : Bool :=
  Nat.blt np c && (t.all fun x => mnA (c - 1) x.2) && (h.all fun x => Nat.blt 0 x.1 && Nat.blt x.1 c && mnO (c - 1) x.2) && decide (((h.map fun x => gS g x.1).filter (0 < ·)).Nodup) && (h.all fun x => np < x.1 || gS g x.1 == x.1)

theorem tS_cases : ∀ {l : List (Nat × AV)} {k : Nat}, tS l k = .any ∨ ∃ v, (k, v) ∈ l ∧ tS l k = v
  | [], k => .inl rfl
  | (j, v) :: r, k => by
    unfold tS
    by_cases h : k = j
    · subst h; exact .inr ⟨v, List.mem_cons_self .., upd_same _ _ _⟩
    · rw [upd_ne _ _ h]
      rcases tS_cases (l := r) (k := k) with h1 | ⟨u, h1, h2⟩
      · exact .inl h1
      · exact .inr ⟨u, List.mem_cons_of_mem _ h1, h2⟩
theorem hS_cases : ∀ {l : List (Nat × Ob)} {k : Nat} {ob : Ob}, hS l k = some ob → (k, ob) ∈ l
  | [], k, ob, h => by cases h
  | (j, v) :: r, k, ob, h => by
    unfold hS at h
    by_cases hk : k = j
    · subst hk; rw [upd_same] at h; cases h; exact List.mem_cons_self ..
    · rw [upd_ne _ _ hk] at h; exact List.mem_cons_of_mem _ (hS_cases h)
theorem slotsP_mem {g : Nat → Nat} {t : Nat → AV} : ∀ {l : List (Nat × AV)}, slotsP g t l → ∀ {k v}, (k, v) ∈ l → wkA g (t k) v
  | (j, u) :: r, h, k, v, hm => by
    unfold slotsP at h
    rcases List.mem_cons.1 hm with h1 | h1
    · cases h1; exact h.1
    · exact slotsP_mem h.2 h1
theorem objsP_mem {g : Nat → Nat} {H : Hp} : ∀ {l : List (Nat × Ob)}, objsP g H l → ∀ {k v}, (k, v) ∈ l → wkP g H k v
  | (j, u) :: r, h, k, v, hm => by
    unfold objsP at h
    rcases List.mem_cons.1 hm with h1 | h1
    · cases h1; exact h.1
    · exact objsP_mem h.2 h1
theorem nodup_map_inj {α β : Type} {f : α → β} : ∀ {l : List α}, (l.map f).Nodup → ∀ {a b}, a ∈ l → b ∈ l → f a = f b → a = b
  | x :: r, h, a, b, ha, hb, e => by
    rw [List.map_cons, List.nodup_cons] at h
    rcases List.mem_cons.1 ha with ha | ha <;> rcases List.mem_cons.1 hb with hb | hb
    · rw [ha, hb]
    · exact absurd (List.mem_map.2 ⟨b, hb, by rw [← ha, e]⟩) h.1
    · exact absurd (List.mem_map.2 ⟨a, ha, by rw [← hb, e]⟩) h.1
    · exact nodup_map_inj h.2 ha hb e

theorem nodup_filter_inj {α : Type} {f : α → Nat} : ∀ {l : List α}, ((l.map f).filter (0 < ·)).Nodup → ∀ {a b}, a ∈ l → b ∈ l → 0 < f a → f a = f b → a = b
  | x :: r, h, a, b, ha, hb, h0, e => by
    rw [List.map_cons, List.filter_cons] at h
    have hin : ∀ {y}, y ∈ r → 0 < f y → f y ∈ (r.map f).filter (0 < ·) := fun hy h => List.mem_filter.2 ⟨List.mem_map.2 ⟨_, hy, rfl⟩, by simpa using h⟩
    have hr : ((r.map f).filter (0 < ·)).Nodup := by
      split at h
      · exact (List.nodup_cons.1 h).2
      · exact h
    have hx : ∀ {y}, y ∈ r → 0 < f x → f y ≠ f x := fun hy h0 e => by
      rw [if_pos (by simpa using h0)] at h
      exact (List.nodup_cons.1 h).1 (e ▸ hin hy (by omega))
    rcases List.mem_cons.1 ha with ha | ha <;> rcases List.mem_cons.1 hb with hb | hb
    · rw [ha, hb]
    · exact absurd (by rw [← ha, e]) (hx hb (by rw [← ha]; exact h0))
    · exact absurd (by rw [← hb, ← e]) (hx ha (by rw [← hb, ← e]; exact h0))
    · exact nodup_filter_inj hr ha hb h0 e

theorem weak_of {np : Nat} {s : ASt} (g : List (Nat × Nat)) {t : List (Nat × AV)} {h : List (Nat × Ob)} {c : Nat} (hb : smallB np c g t h = true) (ht : slotsP (gS g) s.t t) (hh : objsP (gS g) s.H h) : Weak np s (sS t h c) := by
  unfold smallB at hb
  simp only [Bool.and_eq_true, List.all_eq_true, Bool.or_eq_true, decide_eq_true_eq, beq_iff_eq] at hb
  obtain ⟨⟨⟨⟨h1, h2⟩, h3⟩, h4⟩, h5⟩ := hb
  have hc : np < c := by simpa using h1
  refine ⟨⟨gS g, fun k => ?_, ⟨fun o x' ho => ?_, fun o o' ho ho' hz e => ?_⟩, fun o ho1 ho2 => ?_⟩, hc, ?_, fun k => ?_, fun o ob ho => ?_⟩
  · show Wk _ _ (tS t k)
    rcases tS_cases (l := t) (k := k) with h | ⟨v, h, e⟩
    · rw [h]; exact .any _
    · rw [e]; exact wkA_ok _ _ (slotsP_mem ht h)
  · exact wkP_ok (objsP_mem hh (hS_cases ho))
  · show o = o'
    cases hx : (sS t h c).H o with
    | none => exact absurd hx ho
    | some x =>
      cases hx' : (sS t h c).H o' with
      | none => exact absurd hx' ho'
      | some x' =>
        have := nodup_filter_inj h4 (hS_cases hx) (hS_cases hx') (Nat.pos_of_ne_zero hz) e
        exact (Prod.mk.inj this).1
  · cases hx : (sS t h c).H o with
    | none => exact .inl rfl
    | some x =>
      right
      rcases h5 _ (hS_cases hx) with h | h
      · omega
      · exact h
  · cases hx : (sS t h c).H 0 with
    | none => rfl
    | some x =>
      have := (h3 _ (hS_cases hx)).1.1
      simp at this
  · show Mn _ (tS t k)
    rcases tS_cases (l := t) (k := k) with h | ⟨v, h, e⟩
    · rw [h]; exact .any
    · rw [e]
      exact (mnA_ok v (h2 _ h)).mono (fun o ho => by show o < c; omega)
  · have := h3 _ (hS_cases ho)
    have h6 : o < c := by simpa using this.1.2
    exact ⟨h6, (mnO_ok this.2).mono (fun o ho => by show o < c; omega)⟩

/-- How a round ends, or the ways ahead of a meeting. -/
def lopC (N : ASt → Prop) (K : Exit → ASt → Prop) : Exit → ASt → Prop := fun e s' => match e with
  | .normal => N s'
  | e => K e s'
/-- A loop, by a family of states. -/
theorem loopQ_of {ι : Type} {np : Nat} {body : ASt → (Exit → ASt → Prop) → Prop} {s : ASt} {K : Exit → ASt → Prop} (t : ι → List (Nat × AV)) (h : ι → List (Nat × Ob)) (c : Nat) (m : ι → Nat) (J : ι → Prop) (x0 : ι) (h0 : J x0) (g0 : List (Nat × Nat))
    (hb0 : smallB np c g0 (t x0) (h x0) = true) (ht0 : slotsP (gS g0) s.t (t x0)) (hh0 : objsP (gS g0) s.H (h x0))
    (hb : ∀ x, J x → ∀ N : ASt → Prop, (∀ s' y g, J y → m y < m x → smallB np c g (t y) (h y) = true → slotsP (gS g) s'.t (t y) → objsP (gS g) s'.H (h y) → N s') → body (sS (t x) (h x) c) (lopC N K)) : LoopQ np body s K := by
  refine ⟨fun s n => ∃ x, J x ∧ s = sS (t x) (h x) c ∧ n = m x, ⟨_, _, weak_of g0 hb0 ht0 hh0, x0, h0, rfl, rfl⟩, ?_⟩
  rintro s n ⟨x, hJ, rfl, rfl⟩
  exact hb x hJ _ (fun s' y g h1 h2 h3 h4 h5 => ⟨_, _, weak_of g h3 h4 h5, ⟨y, h1, rfl, rfl⟩, h2⟩)
/-- Where ways meet, by a family of states. -/
theorem joinQ_of {ι : Type} {np : Nat} {x y : ASt → (Exit → ASt → Prop) → Prop} {s : ASt} {K : Exit → ASt → Prop} (t : ι → List (Nat × AV)) (h : ι → List (Nat × Ob)) (c : Nat) (J : ι → Prop)
    (hx : ∀ N : ASt → Prop, (∀ s' i g, J i → smallB np c g (t i) (h i) = true → slotsP (gS g) s'.t (t i) → objsP (gS g) s'.H (h i) → N s') → x s (lopC N K)) (hy : ∀ i, J i → y (sS (t i) (h i) c) K) : JoinQ np x y s K :=
  ⟨fun s => ∃ i, J i ∧ s = sS (t i) (h i) c, hx _ (fun s' i g h1 h2 h3 h4 => ⟨_, weak_of g h2 h3 h4, i, h1, rfl⟩), fun s' ⟨i, hi, e⟩ => e ▸ hy i hi⟩

mutual
def rsB (m : Nat) : AV → Bool
  | .sl o _ => Nat.ble 1 o && Nat.ble o m
  | .pt o _ _ => Nat.ble 1 o && Nat.ble o m
  | .ag cs => rsBL m cs
  | .tu cs => rsBL m cs
  | .bw _ => false
  | .c _ => true
  | .nul => true
  | .any => true
def rsBL (m : Nat) : List AV → Bool
  | [] => true
  | x :: r => rsB m x && rsBL m r
end
mutual
theorem rsB_ok {m : Nat} : (x : AV) → rsB m x = true → Rs false m x
  | .sl o n, h => by
    simp only [rsB, Bool.and_eq_true] at h
    exact .sl o n (Nat.le_of_ble_eq_true h.1) (Nat.le_of_ble_eq_true h.2)
  | .pt o i j, h => by
    simp only [rsB, Bool.and_eq_true] at h
    exact .pt o i j (Nat.le_of_ble_eq_true h.1) (Nat.le_of_ble_eq_true h.2)
  | .ag cs, h => .ag cs (rsBL_ok cs h)
  | .tu cs, h => .tu cs (rsBL_ok cs h)
  | .bw _, h => by simp [rsB] at h
  | .c x, _ => .c x rfl
  | .nul, _ => .nul
  | .any, _ => .any
termination_by structural x => x
theorem rsBL_ok {m : Nat} : (l : List AV) → rsBL m l = true → ∀ x ∈ l, Rs false m x
  | [], _, x, hx => by simp at hx
  | y :: r, h, x, hx => by
    simp only [rsBL, Bool.and_eq_true] at h
    have h1 := rsB_ok y h.1
    have h2 := rsBL_ok r h.2
    rcases List.mem_cons.1 hx with h3 | h3
    · rw [h3]; exact h1
    · exact h2 x h3
termination_by structural l => l
end
def rsBO (m : Nat) : Option Ob → Bool
  | some (.box _ cs) => rsBL m cs
  | _ => true
def outP (g : Nat → Nat) (H : Hp) : Nat → List (Option Ob) → Prop
  | _, [] => True
  | k, none :: r => outP g H (k + 1) r
  | k, some v :: r => wkP g H k v ∧ outP g H (k + 1) r
def liveIds : Nat → List (Option Ob) → List Nat
  | _, [] => []
  | k, none :: r => liveIds (k + 1) r
  | k, some _ :: r => k :: liveIds (k + 1) r
def endB (np : Nat) (g : List (Nat × Nat)) (r : AV) (out : List (Option Ob)) : Bool :=
  rsB out.length r && out.all (rsBO out.length) && decide ((((liveIds 1 out).map (gS g)).filter (0 < ·)).Nodup) && (liveIds 1 out).all fun o => np < o || gS g o == o
theorem outP_get {g : Nat → Nat} {H : Hp} : ∀ {out : List (Option Ob)} {k j : Nat} {v : Ob}, outP g H k out → out[j]? = some (some v) → wkP g H (k + j) v ∧ k + j ∈ liveIds k out
  | [], _, _, _, _, h => by simp at h
  | x :: r, k, j, v, h, hj => by
    cases x with
    | none =>
      cases j with
      | zero => simp at hj
      | succ j =>
        have := outP_get (k := k + 1) h (by simpa using hj)
        rw [show k + 1 + j = k + (j + 1) by omega] at this
        exact this
    | some y =>
      cases j with
      | zero =>
        simp at hj
        subst hj
        exact ⟨h.1, List.mem_cons_self ..⟩
      | succ j =>
        have := outP_get (k := k + 1) h.2 (by simpa using hj)
        rw [show k + 1 + j = k + (j + 1) by omega] at this
        exact ⟨this.1, List.mem_cons_of_mem _ this.2⟩
/-- What a function hands back. -/
theorem endQ_of {np : Nat} {H : Hp} {x : AV} {Post : AV → List (Option Ob) → Prop} (g : List (Nat × Nat)) (r : AV) (out : List (Option Ob)) (hb : endB np g r out = true) (hr : wkA (gS g) x r) (hh : outP (gS g) H 1 out) (hP : Post r out) : EndQ np H x Post := by
  unfold endB at hb
  simp only [Bool.and_eq_true, List.all_eq_true, Bool.or_eq_true, decide_eq_true_eq, beq_iff_eq] at hb
  obtain ⟨⟨⟨h1, h2⟩, h3⟩, h4⟩ := hb
  have hget : ∀ o x', HpL out o = some x' → wkP (gS g) H o x' ∧ o ∈ liveIds 1 out := fun o x' ho => by
    unfold HpL at ho
    split at ho
    · cases ho
    · rename_i ho0
      have hj : out[o - 1]? = some (some x') := by
        cases hh : out[o - 1]? with
        | none => rw [hh] at ho; cases ho
        | some y => rw [hh] at ho; simp at ho; rw [ho]
      have := outP_get hh hj
      rwa [show 1 + (o - 1) = o by omega] at this
  refine ⟨gS g, r, out, wkA_ok _ _ hr, ⟨fun o x' ho => wkP_ok (hget o x' ho).1, fun o o' ho ho' hz e => ?_⟩, fun o ho1 ho2 => ?_, rsB_ok r h1, fun ob hob => ?_, hP⟩
  · cases hx : HpL out o with
    | none => exact absurd hx ho
    | some y =>
      cases hx' : HpL out o' with
      | none => exact absurd hx' ho'
      | some y' => exact nodup_filter_inj h3 (hget o y hx).2 (hget o' y' hx').2 (Nat.pos_of_ne_zero hz) e
  · cases hx : HpL out o with
    | none => exact .inl rfl
    | some y =>
      rcases h4 o (hget o y hx).2 with h | h
      · omega
      · exact .inr h
  · have := h2 _ hob
    cases ob with
    | box ty cs => exact rsBL_ok cs this
    | rw => exact .inl rfl

theorem fill_get {α : Type} (f : α → List CV) (z : List CV) (l : List α) (i : Nat) (h : i < l.length) : ((l.take i).map f ++ List.replicate (l.length - i) z)[i]? = some z := by
  rw [List.getElem?_append_right (by simp; omega), List.getElem?_replicate, if_pos (by simp; omega)]
theorem w64 (n : Int) (h : -9223372036854775808 ≤ n ∧ n ≤ 9223372036854775807) : IntKind.i64.wrap n = n := by rw [IntKind.wrap_i64]; omega
theorem w8 (n : Int) : IntKind.u8.wrap n = n % 256 := IntKind.wrap_u8 n
theorem nat0 : ((0 : Nat) : Int) = 0 := by rfl
theorem sim_v (a b : Value) : (CV.v a = CV.v b ∨ Sim (CV.v a) (CV.v b)) = (a = b) := by
  refine propext ⟨fun h => ?_, fun h => .inl (by rw [h])⟩
  rcases h with h | h
  · exact CV.v.inj h
  · cases h; rfl
theorem fill_set {α : Type} (f : α → List CV) (z : List CV) (l : List α) (i : Nat) (x : α) (h : l[i]? = some x) : ((l.take i).map f ++ List.replicate (l.length - i) z).set i (f x) = (l.take (i + 1)).map f ++ List.replicate (l.length - (i + 1)) z := by
  obtain ⟨hi, rfl⟩ := List.getElem?_eq_some_iff.1 h
  rw [show l.length - i = (l.length - (i + 1)) + 1 by omega, List.replicate_succ, List.set_append, if_neg (by simp; omega)]
  rw [show i - ((l.take i).map f).length = 0 by simp; omega, List.set_cons_zero, List.take_add_one, h, List.map_append]
  simp only [Option.toList_some, List.map_cons, List.map_nil, List.append_assoc, List.cons_append, List.nil_append]
/-! What comes later, each under a name: so a rewriting looks only at what comes now. -/
section
variable (P : Program) (nt np : Nat) (g : Cfg)
def seqC (y : Code) (K : Exit → ASt → Prop) : Exit → ASt → Prop := fun e s' => match e with
  | .normal => wpC P nt np g y s' K
  | e => K e s'
def blkC (id : Nat) (K : Exit → ASt → Prop) : Exit → ASt → Prop := fun e s' => match e with
  | .exit j => if j = id then K .normal s' else K (.exit j) s'
  | e => K e s'
def endC (rs : List ResultVar) (Post : AV → List (Option Ob) → Prop) : Exit → ASt → Prop := fun e s' => isEnd e ∧ EndA P nt np rs Post (frz g.en s')
def endR (n : Nat) (K : Exit → ASt → Prop) : ASt → Prop := fun s' => K .normal { s' with c := s'.c + 8 * n }
def seqK (d : Nat → Option Nat) (p : Nat) (r : List Oper) (K : ASt → Prop) : ASt → Prop := fun s' => seqR P nt d p r s' K
def stK (nt : Nat) (d : Option Nat) (s : ASt) (K : ASt → Prop) : AV → List (Nat × Option Ob) → Prop := fun v objs => K { t := putT nt s.t d v, H := updL s.H objs, c := s.c }
def cndK (d : Nat) (x y : Code) (s : ASt) (K : Exit → ASt → Prop) : Bool → Prop := fun b => brB b (wpC P nt np g x { s with t := upd s.t d (.c (.v (.bool true))) } K) (wpC P nt np g y { s with t := upd s.t d (.c (.v (.bool false))) } K)
def grdK (p d : Nat) (o : Oper) (s : ASt) (K : ASt → Prop) (want : Bool) : Bool → Prop := fun b => match want with
  | true => brB b (stp P nt p o { s with t := upd s.t d (.c (.v (.bool true))) } K) (K { s with t := putT nt (upd s.t d (.c (.v (.bool false)))) o.dst .any })
  | false => brB b (K { s with t := putT nt (upd s.t d (.c (.v (.bool true)))) o.dst .any }) (stp P nt p o { s with t := upd s.t d (.c (.v (.bool false))) } K)
def grdQ (p : Nat) (o : Oper) (s : ASt) (K : ASt → Prop) (want : Bool) : Option Nat → Prop
  | none => False
  | some d => d < nt ∧ boolK (s.t d) (grdK P nt p d o s K want)
variable {P nt np g}
theorem seqC_normal {y : Code} {K : Exit → ASt → Prop} {s : ASt} : seqC P nt np g y K .normal s = wpC P nt np g y s K := (rfl)
theorem seqC_exit {y : Code} {K : Exit → ASt → Prop} {s : ASt} {j : Nat} : seqC P nt np g y K (.exit j) s = K (.exit j) s := (rfl)
theorem seqC_ret {y : Code} {K : Exit → ASt → Prop} {s : ASt} : seqC P nt np g y K .ret s = K .ret s := (rfl)
theorem blkC_normal {id : Nat} {K : Exit → ASt → Prop} {s : ASt} : blkC id K .normal s = K .normal s := (rfl)
theorem blkC_exit {id : Nat} {K : Exit → ASt → Prop} {s : ASt} {j : Nat} : blkC id K (.exit j) s = if j = id then K .normal s else K (.exit j) s := (rfl)
theorem blkC_ret {id : Nat} {K : Exit → ASt → Prop} {s : ASt} : blkC id K .ret s = K .ret s := (rfl)
theorem lopC_normal {N : ASt → Prop} {K : Exit → ASt → Prop} {s : ASt} : lopC N K .normal s = N s := (rfl)
theorem lopC_exit {N : ASt → Prop} {K : Exit → ASt → Prop} {s : ASt} {j : Nat} : lopC N K (.exit j) s = K (.exit j) s := (rfl)
theorem lopC_ret {N : ASt → Prop} {K : Exit → ASt → Prop} {s : ASt} : lopC N K .ret s = K .ret s := (rfl)
theorem endC_normal {rs : List ResultVar} {Post : AV → List (Option Ob) → Prop} {s : ASt} : endC P nt np g rs Post .normal s = EndA P nt np rs Post (frz g.en s) := by simp [endC, isEnd]
theorem endC_ret {rs : List ResultVar} {Post : AV → List (Option Ob) → Prop} {s : ASt} : endC P nt np g rs Post .ret s = EndA P nt np rs Post (frz g.en s) := by simp [endC, isEnd]
theorem endR_app {n : Nat} {K : Exit → ASt → Prop} {t : Nat → AV} {H : Hp} {c : Nat} : endR n K ⟨t, H, c⟩ = K .normal ⟨t, H, c + 8 * n⟩ := (rfl)
theorem seqK_app {d : Nat → Option Nat} {p : Nat} {r : List Oper} {K : ASt → Prop} {s : ASt} : seqK P nt d p r K s = seqR P nt d p r s K := (rfl)
theorem stK_app {d : Option Nat} {t : Nat → AV} {H : Hp} {c : Nat} {K : ASt → Prop} {v : AV} {o : List (Nat × Option Ob)} : stK nt d ⟨t, H, c⟩ K v o = K ⟨putT nt t d v, updL H o, c⟩ := (rfl)
theorem cndK_app {d : Nat} {x y : Code} {t : Nat → AV} {H : Hp} {c : Nat} {K : Exit → ASt → Prop} {b : Bool} : cndK P nt np g d x y ⟨t, H, c⟩ K b = brB b (wpC P nt np g x ⟨upd t d (.c (.v (.bool true))), H, c⟩ K) (wpC P nt np g y ⟨upd t d (.c (.v (.bool false))), H, c⟩ K) := (rfl)
theorem wpC_seq {x y : Code} {s : ASt} {K : Exit → ASt → Prop} : wpC P nt np g (.seq x y) s K = if g.joins y then JoinQ np (wpC P nt np g x) (wpC P nt np g y) s K else wpC P nt np g x s (seqC P nt np g y K) := (rfl)
theorem wpC_skip {s : ASt} {K : Exit → ASt → Prop} : wpC P nt np g .skip s K = K .normal s := (rfl)
theorem wpC_region {id : Nat} {l : List Oper} {s : ASt} {K : Exit → ASt → Prop} : wpC P nt np g (.region id l.toArray false) s K = optK (g.fs.lookup id) (fun q => q ≤ l.toArray.size ∧ FuseQ P nt q l.toArray (frzC (g.fz.lookup id) s) (endR l.toArray.size K)) (seqR P nt (dstOf l.toArray) 0 l (frzC (g.fz.lookup id) s) (endR l.length K)) := by
  unfold wpC
  rfl
theorem wpC_draw {id : Nat} {l : List Oper} {s : ASt} {K : Exit → ASt → Prop} : wpC P nt np g (.region id l.toArray true) s K = DrawQ P nt l.toArray (frzC (g.fz.lookup id) s) (endR l.length K) := by
  unfold wpC
  rfl
theorem wpC_cond {d : Nat} {x y : Code} {s : ASt} {K : Exit → ASt → Prop} : wpC P nt np g (.cond (.tmp d) x y) s K = (d < nt ∧ boolK (s.t d) (cndK P nt np g d x y s K)) := (rfl)
theorem wpC_block {id : Nat} {c : Code} {s : ASt} {K : Exit → ASt → Prop} : wpC P nt np g (.block id c) s K = wpC P nt np g c s (blkC id K) := (rfl)
theorem wpC_loop {c : Code} {s : ASt} {K : Exit → ASt → Prop} : wpC P nt np g (.loop c) s K = LoopQ np (wpC P nt np g c) s K := (rfl)
theorem wpC_exit {j : Nat} {s : ASt} {K : Exit → ASt → Prop} : wpC P nt np g (.exit j) s K = K (.exit j) s := (rfl)
theorem wpC_ret {s : ASt} {K : Exit → ASt → Prop} : wpC P nt np g .ret s K = K .ret s := (rfl)
variable {d : Nat → Option Nat} {p : Nat} {s : ASt} {K : ASt → Prop} {dst : Option Nat} {ty : Nat} {pos : String} {af : Array Edge} {t : Nat → AV} {H : Hp} {c : Nat}
theorem seqR_nil : seqR P nt d p [] s K = K s := (rfl)
theorem seqR_cons {o : Oper} {r : List Oper} : seqR P nt d p (o :: r) s K = gstp P nt d p o s (seqK P nt d (p + 1) r K) := (rfl)
theorem gstp_none {op : Op} : gstp P nt d p ⟨dst, op, ty, pos, af, none⟩ s K = stp P nt p ⟨dst, op, ty, pos, af, none⟩ s K := (rfl)
theorem gstp_some {op : Op} {j : Nat} {want : Bool} : gstp P nt d p ⟨dst, op, ty, pos, af, some (j, want)⟩ s K = grdQ P nt p ⟨dst, op, ty, pos, af, none⟩ s K want (d j) := by
  unfold gstp grdQ
  simp only
  cases d j with
  | none => rfl
  | some q => rfl
theorem grdQ_some {o : Oper} {want : Bool} {q : Nat} : grdQ P nt p o s K want (some q) = (q < nt ∧ boolK (s.t q) (grdK P nt p q o s K want)) := (rfl)
theorem grdK_true {op : Op} {q : Nat} {b : Bool} : grdK P nt p q ⟨dst, op, ty, pos, af, none⟩ ⟨t, H, c⟩ K true b = brB b (stp P nt p ⟨dst, op, ty, pos, af, none⟩ ⟨upd t q (.c (.v (.bool true))), H, c⟩ K) (K ⟨putT nt (upd t q (.c (.v (.bool false)))) dst .any, H, c⟩) := (rfl)
theorem grdK_false {op : Op} {q : Nat} {b : Bool} : grdK P nt p q ⟨dst, op, ty, pos, af, none⟩ ⟨t, H, c⟩ K false b = brB b (K ⟨putT nt (upd t q (.c (.v (.bool true)))) dst .any, H, c⟩) (stp P nt p ⟨dst, op, ty, pos, af, none⟩ ⟨upd t q (.c (.v (.bool false))), H, c⟩ K) := (rfl)
theorem stp_call {f : Nat} {args : Array Operand} {ts : Array Nat} : stp P nt p ⟨dst, .call ⟨.value (.func f), args, ts⟩, ty, pos, af, none⟩ ⟨t, H, c⟩ K = Callq P nt f (args.toList.map (getA nt t)) dst (c + 8 * p) ⟨t, H, c⟩ K := (rfl)
theorem stp_builtin {b : Builtin} {args : Array Operand} {ts : Array Nat} : stp P nt p ⟨dst, .call ⟨.builtin b, args, ts⟩, ty, pos, af, none⟩ ⟨t, H, c⟩ K = bindK (evOp P (c + 8 * p) H (getA nt t) (.call ⟨.builtin b, args, ts⟩)) (stK nt dst ⟨t, H, c⟩ K) := (rfl)
theorem stp_move {x : Operand} : stp P nt p ⟨dst, .move x, ty, pos, af, none⟩ ⟨t, H, c⟩ K = K ⟨putT nt t dst (getA nt t x), H, c⟩ := (rfl)
theorem stp_assign {x : Operand} : stp P nt p ⟨dst, .assign x, ty, pos, af, none⟩ ⟨t, H, c⟩ K = K ⟨putT nt t dst (getA nt t x), H, c⟩ := (rfl)
theorem stp_pick {x y z : Operand} : stp P nt p ⟨dst, .pick x y z, ty, pos, af, none⟩ ⟨t, H, c⟩ K = bindK (evOp P (c + 8 * p) H (getA nt t) (.pick x y z)) (stK nt dst ⟨t, H, c⟩ K) := (rfl)
theorem stp_alloc {e : Nat} : stp P nt p ⟨dst, .alloc e, ty, pos, af, none⟩ ⟨t, H, c⟩ K = bindK (evOp P (c + 8 * p) H (getA nt t) (.alloc e)) (stK nt dst ⟨t, H, c⟩ K) := (rfl)
theorem stp_box {e : Nat} {x : Operand} : stp P nt p ⟨dst, .box e x, ty, pos, af, none⟩ ⟨t, H, c⟩ K = bindK (evOp P (c + 8 * p) H (getA nt t) (.box e x)) (stK nt dst ⟨t, H, c⟩ K) := (rfl)
theorem stp_load {e : Nat} {x : Operand} : stp P nt p ⟨dst, .load e x, ty, pos, af, none⟩ ⟨t, H, c⟩ K = bindK (evOp P (c + 8 * p) H (getA nt t) (.load e x)) (stK nt dst ⟨t, H, c⟩ K) := (rfl)
theorem stp_store {e : Nat} {x y : Operand} : stp P nt p ⟨dst, .store e x y, ty, pos, af, none⟩ ⟨t, H, c⟩ K = bindK (evOp P (c + 8 * p) H (getA nt t) (.store e x y)) (stK nt dst ⟨t, H, c⟩ K) := (rfl)
theorem stp_fieldAddr {e f : Nat} {x : Operand} : stp P nt p ⟨dst, .fieldAddr e x f, ty, pos, af, none⟩ ⟨t, H, c⟩ K = bindK (evOp P (c + 8 * p) H (getA nt t) (.fieldAddr e x f)) (stK nt dst ⟨t, H, c⟩ K) := (rfl)
theorem stp_indexAddr {e : Nat} {x y : Operand} : stp P nt p ⟨dst, .indexAddr e x y, ty, pos, af, none⟩ ⟨t, H, c⟩ K = bindK (evOp P (c + 8 * p) H (getA nt t) (.indexAddr e x y)) (stK nt dst ⟨t, H, c⟩ K) := (rfl)
theorem stp_nilCheck {x : Operand} : stp P nt p ⟨dst, .nilCheck x, ty, pos, af, none⟩ ⟨t, H, c⟩ K = bindK (evOp P (c + 8 * p) H (getA nt t) (.nilCheck x)) (stK nt dst ⟨t, H, c⟩ K) := (rfl)
theorem stp_binOp {b : BinOp} {e e2 : Nat} {x y : Operand} : stp P nt p ⟨dst, .binOp b e x y e2, ty, pos, af, none⟩ ⟨t, H, c⟩ K = bindK (evOp P (c + 8 * p) H (getA nt t) (.binOp b e x y e2)) (stK nt dst ⟨t, H, c⟩ K) := (rfl)
theorem stp_unOp {b : UnOp} {e : Nat} {x : Operand} : stp P nt p ⟨dst, .unOp b e x, ty, pos, af, none⟩ ⟨t, H, c⟩ K = bindK (evOp P (c + 8 * p) H (getA nt t) (.unOp b e x)) (stK nt dst ⟨t, H, c⟩ K) := (rfl)
theorem stp_convert {e e2 : Nat} {x : Operand} : stp P nt p ⟨dst, .convert e e2 x, ty, pos, af, none⟩ ⟨t, H, c⟩ K = bindK (evOp P (c + 8 * p) H (getA nt t) (.convert e e2 x)) (stK nt dst ⟨t, H, c⟩ K) := (rfl)
theorem stp_index {e : Nat} {x y : Operand} : stp P nt p ⟨dst, .index e x y, ty, pos, af, none⟩ ⟨t, H, c⟩ K = bindK (evOp P (c + 8 * p) H (getA nt t) (.index e x y)) (stK nt dst ⟨t, H, c⟩ K) := (rfl)
theorem stp_slice {e : Nat} {x : Operand} {lo hi mx : Option Operand} : stp P nt p ⟨dst, .slice e x lo hi mx, ty, pos, af, none⟩ ⟨t, H, c⟩ K = bindK (evOp P (c + 8 * p) H (getA nt t) (.slice e x lo hi mx)) (stK nt dst ⟨t, H, c⟩ K) := (rfl)
theorem stp_makeSlice {e : Nat} {x y : Operand} : stp P nt p ⟨dst, .makeSlice e x y, ty, pos, af, none⟩ ⟨t, H, c⟩ K = bindK (evOp P (c + 8 * p) H (getA nt t) (.makeSlice e x y)) (stK nt dst ⟨t, H, c⟩ K) := (rfl)
theorem stp_build {e : Nat} {ps : Array (Nat × Operand)} : stp P nt p ⟨dst, .build e ps, ty, pos, af, none⟩ ⟨t, H, c⟩ K = bindK (evOp P (c + 8 * p) H (getA nt t) (.build e ps)) (stK nt dst ⟨t, H, c⟩ K) := (rfl)
theorem stp_buildSlice {e n : Nat} {ps : Array (Nat × Operand)} : stp P nt p ⟨dst, .buildSlice e n ps, ty, pos, af, none⟩ ⟨t, H, c⟩ K = bindK (evOp P (c + 8 * p) H (getA nt t) (.buildSlice e n ps)) (stK nt dst ⟨t, H, c⟩ K) := (rfl)
theorem stp_extract {k : Nat} {x : Operand} : stp P nt p ⟨dst, .extract x k, ty, pos, af, none⟩ ⟨t, H, c⟩ K = bindK (evOp P (c + 8 * p) H (getA nt t) (.extract x k)) (stK nt dst ⟨t, H, c⟩ K) := (rfl)

/-! Regions that draw. -/
def drwK (P : Program) (nt : Nat) (pc : Bool) (ops : Array Oper) (r : List (Nat × Oper)) (acc : List Fp) (K : ASt → Prop) : Fp → ASt → Prop := fun fp s' => drawR P nt pc ops r (fp :: acc) s' K
def stDK (nt p : Nat) (pc : Bool) (ops : Array Oper) (dst : Option Nat) (vs : List AV) (acc : List Fp) (s : ASt) (K : Fp → ASt → Prop) : AV → List (Nat × Option Ob) → Prop := fun v objs =>
  Ck pc ops acc (detFp p vs v objs) ∧ K (detFp p vs v objs) { t := putT nt s.t dst v, H := updL s.H objs, c := s.c }
def stepX (P : Program) (nt p : Nat) (pc : Bool) (ops : Array Oper) (dst : Option Nat) (acc : List Fp) (s : ASt) (K : Fp → ASt → Prop) (op : Op) : Prop :=
  bindK (evOp P (s.c + 8 * p) (res (refsL (op.operands.toList.map (getA nt s.t))) s.H) (getA nt s.t) op) (stDK nt p pc ops dst (op.operands.toList.map (getA nt s.t)) acc s K)
def grDK (P : Program) (nt p : Nat) (pc : Bool) (ops : Array Oper) (d : Nat) (o : Oper) (acc : List Fp) (s : ASt) (K : Fp → ASt → Prop) (want : Bool) : Bool → Prop := fun b => match want with
  | true => brB b (stepD P nt p pc ops o acc { s with t := upd s.t d (.c (.v (.bool true))) } K) (K (skipFp p) { s with t := putT nt (upd s.t d (.c (.v (.bool false)))) o.dst .any })
  | false => brB b (K (skipFp p) { s with t := putT nt (upd s.t d (.c (.v (.bool true)))) o.dst .any }) (stepD P nt p pc ops o acc { s with t := upd s.t d (.c (.v (.bool false))) } K)
def grDQ (P : Program) (nt p : Nat) (pc : Bool) (ops : Array Oper) (o : Oper) (acc : List Fp) (s : ASt) (K : Fp → ASt → Prop) (want : Bool) : Option Nat → Prop
  | none => False
  | some d => d < nt ∧ boolK (s.t d) (grDK P nt p pc ops d o acc s K want)
variable {pc : Bool} {ops : Array Oper} {acc : List Fp} {KD : Fp → ASt → Prop} {gd : Option (Nat × Bool)}
theorem numbered_nil {k : Nat} : numbered k [] = [] := (rfl)
theorem numbered_cons {k : Nat} {o : Oper} {r : List Oper} : numbered k (o :: r) = (k, o) :: numbered (k + 1) r := (rfl)
theorem drawR_nil : drawR P nt pc ops [] acc s K = K s := (rfl)
theorem drawR_cons {o : Oper} {r : List (Nat × Oper)} : drawR P nt pc ops ((p, o) :: r) acc s K = gstepD P nt p pc ops o acc s (drwK P nt pc ops r acc K) := (rfl)
theorem drwK_app {r : List (Nat × Oper)} {fp : Fp} : drwK P nt pc ops r acc K fp s = drawR P nt pc ops r (fp :: acc) s K := (rfl)
theorem stDK_app {vs : List AV} {v : AV} {o : List (Nat × Option Ob)} : stDK nt p pc ops dst vs acc ⟨t, H, c⟩ KD v o = (Ck pc ops acc (detFp p vs v o) ∧ KD (detFp p vs v o) ⟨putT nt t dst v, updL H o, c⟩) := (rfl)
theorem gstepD_none {op : Op} : gstepD P nt p pc ops ⟨dst, op, ty, pos, af, none⟩ acc s KD = stepD P nt p pc ops ⟨dst, op, ty, pos, af, none⟩ acc s KD := (rfl)
theorem gstepD_some {op : Op} {j : Nat} {want : Bool} : gstepD P nt p pc ops ⟨dst, op, ty, pos, af, some (j, want)⟩ acc s KD = grDQ P nt p pc ops ⟨dst, op, ty, pos, af, some (j, want)⟩ acc s KD want (dstOf ops j) := by
  unfold gstepD grDQ
  simp only
  cases dstOf ops j with
  | none => rfl
  | some q => rfl
theorem grDQ_some {o : Oper} {want : Bool} {q : Nat} : grDQ P nt p pc ops o acc s KD want (some q) = (q < nt ∧ boolK (s.t q) (grDK P nt p pc ops q o acc s KD want)) := (rfl)
theorem grDK_true {op : Op} {q : Nat} {b : Bool} : grDK P nt p pc ops q ⟨dst, op, ty, pos, af, gd⟩ acc ⟨t, H, c⟩ KD true b = brB b (stepD P nt p pc ops ⟨dst, op, ty, pos, af, gd⟩ acc ⟨upd t q (.c (.v (.bool true))), H, c⟩ KD) (KD (skipFp p) ⟨putT nt (upd t q (.c (.v (.bool false)))) dst .any, H, c⟩) := (rfl)
theorem grDK_false {op : Op} {q : Nat} {b : Bool} : grDK P nt p pc ops q ⟨dst, op, ty, pos, af, gd⟩ acc ⟨t, H, c⟩ KD false b = brB b (KD (skipFp p) ⟨putT nt (upd t q (.c (.v (.bool true)))) dst .any, H, c⟩) (stepD P nt p pc ops ⟨dst, op, ty, pos, af, gd⟩ acc ⟨upd t q (.c (.v (.bool false))), H, c⟩ KD) := (rfl)
theorem stepD_pick {x y z : Operand} : stepD P nt p pc ops ⟨dst, .pick x y z, ty, pos, af, gd⟩ acc ⟨t, H, c⟩ KD = stepX P nt p pc ops dst acc ⟨t, H, c⟩ KD (.pick x y z) := (rfl)
theorem stepD_alloc {e : Nat} : stepD P nt p pc ops ⟨dst, .alloc e, ty, pos, af, gd⟩ acc ⟨t, H, c⟩ KD = stepX P nt p pc ops dst acc ⟨t, H, c⟩ KD (.alloc e) := (rfl)
theorem stepD_box {e : Nat} {x : Operand} : stepD P nt p pc ops ⟨dst, .box e x, ty, pos, af, gd⟩ acc ⟨t, H, c⟩ KD = stepX P nt p pc ops dst acc ⟨t, H, c⟩ KD (.box e x) := (rfl)
theorem stepD_load {e : Nat} {x : Operand} : stepD P nt p pc ops ⟨dst, .load e x, ty, pos, af, gd⟩ acc ⟨t, H, c⟩ KD = stepX P nt p pc ops dst acc ⟨t, H, c⟩ KD (.load e x) := (rfl)
theorem stepD_store {e : Nat} {x y : Operand} : stepD P nt p pc ops ⟨dst, .store e x y, ty, pos, af, gd⟩ acc ⟨t, H, c⟩ KD = stepX P nt p pc ops dst acc ⟨t, H, c⟩ KD (.store e x y) := (rfl)
theorem stepD_fieldAddr {e f : Nat} {x : Operand} : stepD P nt p pc ops ⟨dst, .fieldAddr e x f, ty, pos, af, gd⟩ acc ⟨t, H, c⟩ KD = stepX P nt p pc ops dst acc ⟨t, H, c⟩ KD (.fieldAddr e x f) := (rfl)
theorem stepD_indexAddr {e : Nat} {x y : Operand} : stepD P nt p pc ops ⟨dst, .indexAddr e x y, ty, pos, af, gd⟩ acc ⟨t, H, c⟩ KD = stepX P nt p pc ops dst acc ⟨t, H, c⟩ KD (.indexAddr e x y) := (rfl)
theorem stepD_nilCheck {x : Operand} : stepD P nt p pc ops ⟨dst, .nilCheck x, ty, pos, af, gd⟩ acc ⟨t, H, c⟩ KD = stepX P nt p pc ops dst acc ⟨t, H, c⟩ KD (.nilCheck x) := (rfl)
theorem stepD_binOp {b : BinOp} {e e2 : Nat} {x y : Operand} : stepD P nt p pc ops ⟨dst, .binOp b e x y e2, ty, pos, af, gd⟩ acc ⟨t, H, c⟩ KD = stepX P nt p pc ops dst acc ⟨t, H, c⟩ KD (.binOp b e x y e2) := (rfl)
theorem stepD_unOp {b : UnOp} {e : Nat} {x : Operand} : stepD P nt p pc ops ⟨dst, .unOp b e x, ty, pos, af, gd⟩ acc ⟨t, H, c⟩ KD = stepX P nt p pc ops dst acc ⟨t, H, c⟩ KD (.unOp b e x) := (rfl)
theorem stepD_convert {e e2 : Nat} {x : Operand} : stepD P nt p pc ops ⟨dst, .convert e e2 x, ty, pos, af, gd⟩ acc ⟨t, H, c⟩ KD = stepX P nt p pc ops dst acc ⟨t, H, c⟩ KD (.convert e e2 x) := (rfl)
theorem stepD_index {e : Nat} {x y : Operand} : stepD P nt p pc ops ⟨dst, .index e x y, ty, pos, af, gd⟩ acc ⟨t, H, c⟩ KD = stepX P nt p pc ops dst acc ⟨t, H, c⟩ KD (.index e x y) := (rfl)
theorem stepD_slice {e : Nat} {x : Operand} {lo hi mx : Option Operand} : stepD P nt p pc ops ⟨dst, .slice e x lo hi mx, ty, pos, af, gd⟩ acc ⟨t, H, c⟩ KD = stepX P nt p pc ops dst acc ⟨t, H, c⟩ KD (.slice e x lo hi mx) := (rfl)
theorem stepD_makeSlice {e : Nat} {x y : Operand} : stepD P nt p pc ops ⟨dst, .makeSlice e x y, ty, pos, af, gd⟩ acc ⟨t, H, c⟩ KD = stepX P nt p pc ops dst acc ⟨t, H, c⟩ KD (.makeSlice e x y) := (rfl)
theorem stepD_build {e : Nat} {ps : Array (Nat × Operand)} : stepD P nt p pc ops ⟨dst, .build e ps, ty, pos, af, gd⟩ acc ⟨t, H, c⟩ KD = stepX P nt p pc ops dst acc ⟨t, H, c⟩ KD (.build e ps) := (rfl)
theorem stepD_buildSlice {e n : Nat} {ps : Array (Nat × Operand)} : stepD P nt p pc ops ⟨dst, .buildSlice e n ps, ty, pos, af, gd⟩ acc ⟨t, H, c⟩ KD = stepX P nt p pc ops dst acc ⟨t, H, c⟩ KD (.buildSlice e n ps) := (rfl)
theorem stepD_extract {k : Nat} {x : Operand} : stepD P nt p pc ops ⟨dst, .extract x k, ty, pos, af, gd⟩ acc ⟨t, H, c⟩ KD = stepX P nt p pc ops dst acc ⟨t, H, c⟩ KD (.extract x k) := (rfl)
theorem stepD_builtin {b : Builtin} {args : Array Operand} {ts : Array Nat} : stepD P nt p pc ops ⟨dst, .call ⟨.builtin b, args, ts⟩, ty, pos, af, gd⟩ acc ⟨t, H, c⟩ KD = stepX P nt p pc ops dst acc ⟨t, H, c⟩ KD (.call ⟨.builtin b, args, ts⟩) := (rfl)
theorem stepD_move {x : Operand} : stepD P nt p pc ops ⟨dst, .move x, ty, pos, af, gd⟩ acc ⟨t, H, c⟩ KD = stepX P nt p pc ops dst acc ⟨t, H, c⟩ KD (.move x) := (rfl)
theorem stepD_assign {x : Operand} : stepD P nt p pc ops ⟨dst, .assign x, ty, pos, af, gd⟩ acc ⟨t, H, c⟩ KD = stepX P nt p pc ops dst acc ⟨t, H, c⟩ KD (.assign x) := (rfl)
theorem stepD_call {f : Nat} {args : Array Operand} {ts : Array Nat} : stepD P nt p pc ops ⟨dst, .call ⟨.value (.func f), args, ts⟩, ty, pos, af, gd⟩ acc ⟨t, H, c⟩ KD = CallD P nt f (args.toList.map (getA nt t)) p (c + 8 * p) ⟨t, H, c⟩ (fun fp => Ck pc ops acc fp) (fun fp s' => KD fp (s' dst)) := (rfl)
theorem stepX_eq {op : Op} : stepX P nt p pc ops dst acc ⟨t, H, c⟩ KD op = bindK (evOp P (c + 8 * p) (res (refsL (op.operands.toList.map (getA nt t))) H) (getA nt t) op) (stDK nt p pc ops dst (op.operands.toList.map (getA nt t)) acc ⟨t, H, c⟩ KD) := (rfl)
theorem res_at {refs : List Nat} {o : Nat} : res refs H o = if refs.contains o then H o else none := (rfl)
theorem Ck_eq {fp : Fp} : Ck pc ops acc fp = (((!pc || fp.nb) && (!fp.pas || pc) && chkB ops acc fp) = true) := (rfl)
theorem chkB_nil {fp : Fp} : chkB ops [] fp = true := (rfl)
theorem chkB_cons {fp x : Fp} : chkB ops (x :: acc) fp = ((okPair fp x || ordered ops fp.p x.p) && chkB ops acc fp) := by
  unfold chkB
  rw [List.all_cons, Bool.or_comm]
theorem disj_nil {b : List Nat} : disj [] b = true := (rfl)
theorem disj_nil_r {a : List Nat} : disj a [] = true := by simp [disj]
theorem drawQ_of (pc : Bool) {s : ASt} (hf : fastB ops = true) (hn : pc = true → NoB s) (h : drawR P nt pc ops (numbered 0 ops.toList) [] s K) : DrawQ P nt ops s K := ⟨hf, pc, hn, h⟩
theorem callOk_z (g : Cfg) (hm : P.follows .mixedOrders = true) {f : Nat} {fn : Func} {c : Code} {Hin : List Ob} {args : List AV} {Post : AV → List (Option Ob) → Prop} {rs : List ResultVar} (hf : P.funcs[f]? = some fn) (hb : fn.body = some c) (hnt : fn.ntmps = nt) (hrs : fn.results = rs.toArray) (hname : (fn.name == "runtime.NumGoroutine") = false) (hal : args.length ≤ nt) (hnp : Hin.length = np)
    (hin' : Hin.all (mnO np) = true) (hargs' : args.all (mnA np) = true) (h : wpC P nt np g c ⟨initT 0 args, HpS Hin, np + 1⟩ (endC P nt np g rs Post)) : CallOk P f Hin args Post :=
  callOk_of g hm hf hb hnt hrs hname hal hnp hin' hargs' h
end

/-! Bytes. -/
def eB (l : List UInt8) : List (List CV) := l.map fun b => [.v (.int .u8 b.toNat)]
theorem eB_length (l : List UInt8) : (eB l).length = l.length := by simp [eB]
theorem eB_get (l : List UInt8) (i : Nat) : (eB l)[i]? = (l[i]?).map fun b => [.v (.int .u8 b.toNat)] := by simp [eB]
theorem eB_some {l : List UInt8} {i : Nat} {b : UInt8} (h : l[i]? = some b) : (eB l)[i]? = some [.v (.int .u8 b.toNat)] := by rw [eB_get, h]; rfl
end Go.Proofs.Ytnnmpdanfeejbaa.Abs
