import Derived.Test.YtnnmpdanfeejbaaGreatAbsG2
import Derived.Test.YtnnmpdanfeejbaaGreatProg
import Derived.KernelRfl
/- The abstract machine: states told by lists, and how a state is told less exactly. -/
namespace Go.Proofs.YtnnmpdanfeejbaaGreat.Abs
open Go Go.RowKit
set_option linter.unusedVariables false
set_option linter.unusedSimpArgs false

/-- Slots by a list. -/
def tS : List (Nat × AV) → Nat → AV
  | [] => fun _ => .any
  | (k, v) :: r => upd (tS r) k v
def hS : List (Nat × Ob) → Hp
  | [] => fun _ => none
  | (k, v) :: r => upd (hS r) k (some v)
/-- An old number of each new one. -/
def gS : List (Nat × Nat) → Nat → Nat
  | [] => fun o => o
  | (k, v) :: r => upd (gS r) k v
def sS (t : List (Nat × AV)) (h : List (Nat × Ob)) (c : Nat) : ASt := ⟨tS t, hS h, c⟩

mutual
def wkA (g : Nat → Nat) : AV → AV → Prop
  | x, .any => True
  | x, .c y => (match x with | .c x => x = y ∨ Sim x y | .nul => ∃ k, y = .row k [] | _ => False)
  | x, .bw y => x = .bw y
  | x, .nul => x = .nul
  | x, .sl o n => (match x with | .sl o' n' => g o = o' ∧ o' ≠ 0 ∧ n' = n | .nul => g o = 0 ∧ n = 0 | _ => False)
  | x, .pt o i j => (match x with | .pt o' i' j' => g o = o' ∧ o' ≠ 0 ∧ i' = i ∧ j' = j | _ => False)
  | x, .ag cs => (match x with | .ag cs' => wkL g cs' cs | _ => False)
  | x, .tu cs => (match x with | .tu cs' => wkL g cs' cs | _ => False)
def wkL (g : Nat → Nat) : List AV → List AV → Prop
  | [], [] => True
  | x :: r, y :: q => wkA g x y ∧ wkL g r q
  | _, _ => False
end
mutual
theorem wkA_ok {g : Nat → Nat} : (x y : AV) → wkA g x y → Wk g x y
  | x, .any, _ => .any x
  | x, .c y, h => by
    unfold wkA at h
    split at h
    · rcases h with h | h
      · rw [h]; exact .same y
      · exact .c _ _ h
    · obtain ⟨k, rfl⟩ := h; exact .nulR k
    · exact h.elim
  | x, .bw y, h => by unfold wkA at h; rw [h]; exact .bw y
  | x, .nul, h => by unfold wkA at h; rw [h]; exact .nul
  | x, .sl o n, h => by
    unfold wkA at h
    split at h
    · obtain ⟨rfl, h0, rfl⟩ := h; exact .sl _ _ h0
    · obtain ⟨h0, rfl⟩ := h; exact .ph _ h0
    · exact h.elim
  | x, .pt o i j, h => by
    unfold wkA at h
    split at h
    · obtain ⟨rfl, h0, rfl, rfl⟩ := h; exact .pt _ _ _ h0
    · exact h.elim
  | x, .ag cs, h => by
    unfold wkA at h
    split at h
    · rename_i cs'; exact .ag cs' cs (wkL_ok cs' cs h).1 (wkL_ok cs' cs h).2
    · exact h.elim
  | x, .tu cs, h => by
    unfold wkA at h
    split at h
    · rename_i cs'; exact .tu cs' cs (wkL_ok cs' cs h).1 (wkL_ok cs' cs h).2
    · exact h.elim
termination_by structural x y => y
theorem wkL_ok {g : Nat → Nat} : (l m : List AV) → wkL g l m → l.length = m.length ∧ ∀ (i : Nat) c c', l[i]? = some c → m[i]? = some c' → Wk g c c'
  | [], [], _ => ⟨rfl, fun i c c' h => by simp at h⟩
  | [], y :: q, h => by unfold wkL at h; exact h.elim
  | x :: r, [], h => by unfold wkL at h; exact h.elim
  | x :: r, y :: q, h => by
    unfold wkL at h
    have h1 := wkA_ok x y h.1
    have h2 := wkL_ok r q h.2
    refine ⟨by simp [h2.1], fun i c c' hc hc' => ?_⟩
    cases i with
    | zero => cases hc; cases hc'; exact h1
    | succ i => exact h2.2 i c c' (by simpa using hc) (by simpa using hc')
termination_by structural l m => m
end

def wkO (g : Nat → Nat) : Option Ob → Ob → Prop
  | some (.box ty cs), .box ty' cs' => ty = ty' ∧ wkL g cs cs'
  | some (.rw ty sz es), .rw ty' sz' es' => ty = ty' ∧ sz = sz' ∧ es = es'
  | _, _ => False
theorem wkO_ok {g : Nat → Nat} {x : Option Ob} {y : Ob} (h : wkO g x y) : ∃ x', x = some x' ∧ WkO g x' y := by
  unfold wkO at h
  split at h
  · obtain ⟨rfl, h⟩ := h; exact ⟨_, rfl, rfl, wkL_ok _ _ h⟩
  · obtain ⟨rfl, rfl, rfl⟩ := h; exact ⟨_, rfl, rfl, rfl, rfl⟩
  · exact h.elim

def phO : Ob → Prop
  | .rw _ _ es => es = []
  | .box _ _ => False
def wkP (g : Nat → Nat) (H : Hp) (k : Nat) (v : Ob) : Prop := if g k = 0 then phO v else wkO g (H (g k)) v
theorem wkP_ok {g : Nat → Nat} {H : Hp} {k : Nat} {v : Ob} (h : wkP g H k v) : (g k ≠ 0 ∧ ∃ x, H (g k) = some x ∧ WkO g x v) ∨ (g k = 0 ∧ ∃ ty sz, v = .rw ty sz []) := by
  unfold wkP at h
  split at h
  · rename_i h0
    cases v with
    | box => exact h.elim
    | rw ty sz es => exact .inr ⟨h0, ty, sz, by rw [show es = [] from h]⟩
  · rename_i h0
    exact .inl ⟨h0, wkO_ok h⟩
def slotsP (g : Nat → Nat) (t : Nat → AV) : List (Nat × AV) → Prop
  | [] => True
  | (k, v) :: r => wkA g (t k) v ∧ slotsP g t r
def objsP (g : Nat → Nat) (H : Hp) : List (Nat × Ob) → Prop
  | [] => True
  | (k, v) :: r => wkP g H k v ∧ objsP g H r
/-- The numbers are all below c, each object's once, none is 0. -/
def smallB (np c : Nat) (g : List (Nat × Nat)) (t : List (Nat × AV)) (h : List (Nat × Ob)) : Bool :=
  Nat.blt np c && (t.all fun x => mnA (c - 1) x.2) && (h.all fun x => Nat.blt 0 x.1 && Nat.blt x.1 c && mnO (c - 1) x.2) && decide (((h.map fun x => gS g x.1).filter (0 < ·)).Nodup) && (h.all fun x => np < x.1 || gS g x.1 == x.1)

theorem tS_cases : ∀ {l : List (Nat × AV)} {k : Nat}, tS l k = .any ∨ ∃ v, (k, v) ∈ l ∧ tS l k = v
  | [], k => .inl rfl
  | (j, v) :: r, k => by
    unfold tS
    by_cases h : k = j
    · subst h; exact .inr ⟨v, List.mem_cons_self .., upd_same _ _ _⟩
    · rw [upd_ne _ _ h]
      rcases tS_cases (l := r) (k := k) with h1 | ⟨u, h1, h2⟩
      · exact .inl h1
      · exact .inr ⟨u, List.mem_cons_of_mem _ h1, h2⟩
theorem hS_cases : ∀ {l : List (Nat × Ob)} {k : Nat} {ob : Ob}, hS l k = some ob → (k, ob) ∈ l
  | [], k, ob, h => by cases h
  | (j, v) :: r, k, ob, h => by
    unfold hS at h
    by_cases hk : k = j
    · subst hk; rw [upd_same] at h; cases h; exact List.mem_cons_self ..
    · rw [upd_ne _ _ hk] at h; exact List.mem_cons_of_mem _ (hS_cases h)
theorem slotsP_mem {g : Nat → Nat} {t : Nat → AV} : ∀ {l : List (Nat × AV)}, slotsP g t l → ∀ {k v}, (k, v) ∈ l → wkA g (t k) v
  | (j, u) :: r, h, k, v, hm => by
    unfold slotsP at h
    rcases List.mem_cons.1 hm with h1 | h1
    · cases h1; exact h.1
    · exact slotsP_mem h.2 h1
theorem objsP_mem {g : Nat → Nat} {H : Hp} : ∀ {l : List (Nat × Ob)}, objsP g H l → ∀ {k v}, (k, v) ∈ l → wkP g H k v
  | (j, u) :: r, h, k, v, hm => by
    unfold objsP at h
    rcases List.mem_cons.1 hm with h1 | h1
    · cases h1; exact h.1
    · exact objsP_mem h.2 h1
theorem nodup_map_inj {α β : Type} {f : α → β} : ∀ {l : List α}, (l.map f).Nodup → ∀ {a b}, a ∈ l → b ∈ l → f a = f b → a = b
  | x :: r, h, a, b, ha, hb, e => by
    rw [List.map_cons, List.nodup_cons] at h
    rcases List.mem_cons.1 ha with ha | ha <;> rcases List.mem_cons.1 hb with hb | hb
    · rw [ha, hb]
    · exact absurd (List.mem_map.2 ⟨b, hb, by rw [← ha, e]⟩) h.1
    · exact absurd (List.mem_map.2 ⟨a, ha, by rw [← hb, e]⟩) h.1
    · exact nodup_map_inj h.2 ha hb e

theorem nodup_filter_inj {α : Type} {f : α → Nat} : ∀ {l : List α}, ((l.map f).filter (0 < ·)).Nodup → ∀ {a b}, a ∈ l → b ∈ l → 0 < f a → f a = f b → a = b
  | x :: r, h, a, b, ha, hb, h0, e => by
    rw [List.map_cons, List.filter_cons] at h
    have hin : ∀ {y}, y ∈ r → 0 < f y → f y ∈ (r.map f).filter (0 < ·) := fun hy h => List.mem_filter.2 ⟨List.mem_map.2 ⟨_, hy, rfl⟩, by simpa using h⟩
    have hr : ((r.map f).filter (0 < ·)).Nodup := by
      split at h
      · exact (List.nodup_cons.1 h).2
      · exact h
    have hx : ∀ {y}, y ∈ r → 0 < f x → f y ≠ f x := fun hy h0 e => by
      rw [if_pos (by simpa using h0)] at h
      exact (List.nodup_cons.1 h).1 (e ▸ hin hy (by omega))
    rcases List.mem_cons.1 ha with ha | ha <;> rcases List.mem_cons.1 hb with hb | hb
    · rw [ha, hb]
    · exact absurd (by rw [← ha, e]) (hx hb (by rw [← ha]; exact h0))
    · exact absurd (by rw [← hb, ← e]) (hx ha (by rw [← hb, ← e]; exact h0))
    · exact nodup_filter_inj hr ha hb h0 e

theorem weak_of {np : Nat} {s : ASt} (g : List (Nat × Nat)) {t : List (Nat × AV)} {h : List (Nat × Ob)} {c : Nat} (hb : smallB np c g t h = true) (ht : slotsP (gS g) s.t t) (hh : objsP (gS g) s.H h) : Weak np s (sS t h c) := by
  unfold smallB at hb
  simp only [Bool.and_eq_true, List.all_eq_true, Bool.or_eq_true, decide_eq_true_eq, beq_iff_eq] at hb
  obtain ⟨⟨⟨⟨h1, h2⟩, h3⟩, h4⟩, h5⟩ := hb
  have hc : np < c := by simpa using h1
  refine ⟨⟨gS g, fun k => ?_, ⟨fun o x' ho => ?_, fun o o' ho ho' hz e => ?_⟩, fun o ho1 ho2 => ?_⟩, hc, ?_, fun k => ?_, fun o ob ho => ?_⟩
  · show Wk _ _ (tS t k)
    rcases tS_cases (l := t) (k := k) with h | ⟨v, h, e⟩
    · rw [h]; exact .any _
    · rw [e]; exact wkA_ok _ _ (slotsP_mem ht h)
  · exact wkP_ok (objsP_mem hh (hS_cases ho))
  · show o = o'
    cases hx : (sS t h c).H o with
    | none => exact absurd hx ho
    | some x =>
      cases hx' : (sS t h c).H o' with
      | none => exact absurd hx' ho'
      | some x' =>
        have := nodup_filter_inj h4 (hS_cases hx) (hS_cases hx') (Nat.pos_of_ne_zero hz) e
        exact (Prod.mk.inj this).1
  · cases hx : (sS t h c).H o with
    | none => exact .inl rfl
    | some x =>
      right
      rcases h5 _ (hS_cases hx) with h | h
      · omega
      · exact h
  · cases hx : (sS t h c).H 0 with
    | none => rfl
    | some x =>
      have := (h3 _ (hS_cases hx)).1.1
      simp at this
  · show Mn _ (tS t k)
    rcases tS_cases (l := t) (k := k) with h | ⟨v, h, e⟩
    · rw [h]; exact .any
    · rw [e]
      exact (mnA_ok v (h2 _ h)).mono (fun o ho => by show o < c; omega)
  · have := h3 _ (hS_cases ho)
    have h6 : o < c := by simpa using this.1.2
    exact ⟨h6, (mnO_ok this.2).mono (fun o ho => by show o < c; omega)⟩

/-- How a round ends, or the ways ahead of a meeting. -/
def lopC (N : ASt → Prop) (K : Exit → ASt → Prop) : Exit → ASt → Prop := fun e s' => match e with
  | .normal => N s'
  | e => K e s'
/-- A loop, by a family of states. -/
theorem loopQ_of {ι : Type} {np : Nat} {body : ASt → (Exit → ASt → Prop) → Prop} {s : ASt} {K : Exit → ASt → Prop} (t : ι → List (Nat × AV)) (h : ι → List (Nat × Ob)) (c : Nat) (m : ι → Nat) (J : ι → Prop) (x0 : ι) (h0 : J x0) (g0 : List (Nat × Nat))
    (hb0 : smallB np c g0 (t x0) (h x0) = true) (ht0 : slotsP (gS g0) s.t (t x0)) (hh0 : objsP (gS g0) s.H (h x0))
    (hb : ∀ x, J x → ∀ N : ASt → Prop, (∀ s' y g, J y → m y < m x → smallB np c g (t y) (h y) = true → slotsP (gS g) s'.t (t y) → objsP (gS g) s'.H (h y) → N s') → body (sS (t x) (h x) c) (lopC N K)) : LoopQ np body s K := by
  refine ⟨fun s n => ∃ x, J x ∧ s = sS (t x) (h x) c ∧ n = m x, ⟨_, _, weak_of g0 hb0 ht0 hh0, x0, h0, rfl, rfl⟩, ?_⟩
  rintro s n ⟨x, hJ, rfl, rfl⟩
  exact hb x hJ _ (fun s' y g h1 h2 h3 h4 h5 => ⟨_, _, weak_of g h3 h4 h5, ⟨y, h1, rfl, rfl⟩, h2⟩)
/-- Where ways meet, by a family of states. -/
theorem joinQ_of {ι : Type} {np : Nat} {x y : ASt → (Exit → ASt → Prop) → Prop} {s : ASt} {K : Exit → ASt → Prop} (t : ι → List (Nat × AV)) (h : ι → List (Nat × Ob)) (c : Nat) (J : ι → Prop)
    (hx : ∀ N : ASt → Prop, (∀ s' i g, J i → smallB np c g (t i) (h i) = true → slotsP (gS g) s'.t (t i) → objsP (gS g) s'.H (h i) → N s') → x s (lopC N K)) (hy : ∀ i, J i → y (sS (t i) (h i) c) K) : JoinQ np x y s K :=
  ⟨fun s => ∃ i, J i ∧ s = sS (t i) (h i) c, hx _ (fun s' i g h1 h2 h3 h4 => ⟨_, weak_of g h2 h3 h4, i, h1, rfl⟩), fun s' ⟨i, hi, e⟩ => e ▸ hy i hi⟩

mutual
def rsB (m : Nat) : AV → Bool
  | .sl o _ => Nat.ble 1 o && Nat.ble o m
  | .pt o _ _ => Nat.ble 1 o && Nat.ble o m
  | .ag cs => rsBL m cs
  | .tu cs => rsBL m cs
  | .bw _ => false
  | .c _ => true
  | .nul => true
  | .any => true
def rsBL (m : Nat) : List AV → Bool
  | [] => true
  | x :: r => rsB m x && rsBL m r
end
mutual
theorem rsB_ok {m : Nat} : (x : AV) → rsB m x = true → Rs false m x
  | .sl o n, h => by
    simp only [rsB, Bool.and_eq_true] at h
    exact .sl o n (Nat.le_of_ble_eq_true h.1) (Nat.le_of_ble_eq_true h.2)
  | .pt o i j, h => by
    simp only [rsB, Bool.and_eq_true] at h
    exact .pt o i j (Nat.le_of_ble_eq_true h.1) (Nat.le_of_ble_eq_true h.2)
  | .ag cs, h => .ag cs (rsBL_ok cs h)
  | .tu cs, h => .tu cs (rsBL_ok cs h)
  | .bw _, h => by simp [rsB] at h
  | .c x, _ => .c x rfl
  | .nul, _ => .nul
  | .any, _ => .any
termination_by structural x => x
theorem rsBL_ok {m : Nat} : (l : List AV) → rsBL m l = true → ∀ x ∈ l, Rs false m x
  | [], _, x, hx => by simp at hx
  | y :: r, h, x, hx => by
    simp only [rsBL, Bool.and_eq_true] at h
    have h1 := rsB_ok y h.1
    have h2 := rsBL_ok r h.2
    rcases List.mem_cons.1 hx with h3 | h3
    · rw [h3]; exact h1
    · exact h2 x h3
termination_by structural l => l
end
def rsBO (m : Nat) : Option Ob → Bool
  | some (.box _ cs) => rsBL m cs
  | _ => true
def outP (g : Nat → Nat) (H : Hp) : Nat → List (Option Ob) → Prop
  | _, [] => True
  | k, none :: r => outP g H (k + 1) r
  | k, some v :: r => wkP g H k v ∧ outP g H (k + 1) r
def liveIds : Nat → List (Option Ob) → List Nat
  | _, [] => []
  | k, none :: r => liveIds (k + 1) r
  | k, some _ :: r => k :: liveIds (k + 1) r
def endB (np : Nat) (g : List (Nat × Nat)) (r : AV) (out : List (Option Ob)) : Bool :=
  rsB out.length r && out.all (rsBO out.length) && decide ((((liveIds 1 out).map (gS g)).filter (0 < ·)).Nodup) && (liveIds 1 out).all fun o => np < o || gS g o == o
theorem outP_get {g : Nat → Nat} {H : Hp} : ∀ {out : List (Option Ob)} {k j : Nat} {v : Ob}, outP g H k out → out[j]? = some (some v) → wkP g H (k + j) v ∧ k + j ∈ liveIds k out
  | [], _, _, _, _, h => by simp at h
  | x :: r, k, j, v, h, hj => by
    cases x with
    | none =>
      cases j with
      | zero => simp at hj
      | succ j =>
        have := outP_get (k := k + 1) h (by simpa using hj)
        rw [show k + 1 + j = k + (j + 1) by omega] at this
        exact this
    | some y =>
      cases j with
      | zero =>
        simp at hj
        subst hj
        exact ⟨h.1, List.mem_cons_self ..⟩
      | succ j =>
        have := outP_get (k := k + 1) h.2 (by simpa using hj)
        rw [show k + 1 + j = k + (j + 1) by omega] at this
        exact ⟨this.1, List.mem_cons_of_mem _ this.2⟩
/-- What a function hands back. -/
theorem endQ_of {np : Nat} {H : Hp} {x : AV} {Post : AV → List (Option Ob) → Prop} (g : List (Nat × Nat)) (r : AV) (out : List (Option Ob)) (hb : endB np g r out = true) (hr : wkA (gS g) x r) (hh : outP (gS g) H 1 out) (hP : Post r out) : EndQ np H x Post := by
  unfold endB at hb
  simp only [Bool.and_eq_true, List.all_eq_true, Bool.or_eq_true, decide_eq_true_eq, beq_iff_eq] at hb
  obtain ⟨⟨⟨h1, h2⟩, h3⟩, h4⟩ := hb
  have hget : ∀ o x', HpL out o = some x' → wkP (gS g) H o x' ∧ o ∈ liveIds 1 out := fun o x' ho => by
    unfold HpL at ho
    split at ho
    · cases ho
    · rename_i ho0
      have hj : out[o - 1]? = some (some x') := by
        cases hh : out[o - 1]? with
        | none => rw [hh] at ho; cases ho
        | some y => rw [hh] at ho; simp at ho; rw [ho]
      have := outP_get hh hj
      rwa [show 1 + (o - 1) = o by omega] at this
  refine ⟨gS g, r, out, wkA_ok _ _ hr, ⟨fun o x' ho => wkP_ok (hget o x' ho).1, fun o o' ho ho' hz e => ?_⟩, fun o ho1 ho2 => ?_, rsB_ok r h1, fun ob hob => ?_, hP⟩
  · cases hx : HpL out o with
    | none => exact absurd hx ho
    | some y =>
      cases hx' : HpL out o' with
      | none => exact absurd hx' ho'
      | some y' => exact nodup_filter_inj h3 (hget o y hx).2 (hget o' y' hx').2 (Nat.pos_of_ne_zero hz) e
  · cases hx : HpL out o with
    | none => exact .inl rfl
    | some y =>
      rcases h4 o (hget o y hx).2 with h | h
      · omega
      · exact .inr h
  · have := h2 _ hob
    cases ob with
    | box ty cs => exact rsBL_ok cs this
    | rw => exact .inl rfl

theorem fill_get {α : Type} (f : α → List CV) (z : List CV) (l : List α) (i : Nat) (h : i < l.length) : ((l.take i).map f ++ List.replicate (l.length - i) z)[i]? = some z := by
  rw [List.getElem?_append_right (by simp; omega), List.getElem?_replicate, if_pos (by simp; omega)]
theorem w64 (n : Int) (h : -9223372036854775808 ≤ n ∧ n ≤ 9223372036854775807) : IntKind.i64.wrap n = n := by rw [IntKind.wrap_i64]; omega
theorem w8 (n : Int) : IntKind.u8.wrap n = n % 256 := IntKind.wrap_u8 n
theorem nat0 : ((0 : Nat) : Int) = 0 := by rfl
theorem sim_v (a b : Value) : (CV.v a = CV.v b ∨ Sim (CV.v a) (CV.v b)) = (a = b) := by
  refine propext ⟨fun h => ?_, fun h => .inl (by rw [h])⟩
  rcases h with h | h
  · exact CV.v.inj h
  · cases h; rfl
theorem fill_set {α : Type} (f : α → List CV) (z : List CV) (l : List α) (i : Nat) (x : α) (h : l[i]? = some x) : ((l.take i).map f ++ List.replicate (l.length - i) z).set i (f x) = (l.take (i + 1)).map f ++ List.replicate (l.length - (i + 1)) z := by
  obtain ⟨hi, rfl⟩ := List.getElem?_eq_some_iff.1 h
  rw [show l.length - i = (l.length - (i + 1)) + 1 by omega, List.replicate_succ, List.set_append, if_neg (by simp; omega)]
  rw [show i - ((l.take i).map f).length = 0 by simp; omega, List.set_cons_zero, List.take_add_one, h, List.map_append]
  simp only [Option.toList_some, List.map_cons, List.map_nil, List.append_assoc, List.cons_append, List.nil_append]
/-! What comes later, each under a name: so a rewriting looks only at what comes now. -/
section
variable (P : Program) (nt np : Nat) (g : Cfg)
def seqC (y : Code) (K : Exit → ASt → Prop) : Exit → ASt → Prop := fun e s' => match e with
  | .normal => wpC P nt np g y s' K
  | e => K e s'
def blkC (id : Nat) (K : Exit → ASt → Prop) : Exit → ASt → Prop := fun e s' => match e with
  | .exit j => if j = id then K .normal s' else K (.exit j) s'
  | e => K e s'
def endC (rs : List ResultVar) (Post : AV → List (Option Ob) → Prop) : Exit → ASt → Prop := fun e s' => isEnd e ∧ EndA P nt np rs Post (frz g.en s')
def endR (n : Nat) (K : Exit → ASt → Prop) : ASt → Prop := fun s' => K .normal { s' with c := s'.c + 8 * n }
def seqK (d : Nat → Option Nat) (p : Nat) (r : List Oper) (K : ASt → Prop) : ASt → Prop := fun s' => seqR P nt d p r s' K
def stK (nt : Nat) (d : Option Nat) (s : ASt) (K : ASt → Prop) : AV → List (Nat × Option Ob) → Prop := fun v objs => K { t := putT nt s.t d v, H := updL s.H objs, c := s.c }
def cndK (d : Nat) (x y : Code) (s : ASt) (K : Exit → ASt → Prop) : Bool → Prop := fun b => brB b (wpC P nt np g x { s with t := upd s.t d (.c (.v (.bool true))) } K) (wpC P nt np g y { s with t := upd s.t d (.c (.v (.bool false))) } K)
def skpK (nt : Nat) (dst : Option Nat) (s : ASt) (K : ASt → Prop) : Unit → Prop := fun _ => K { s with t := putT nt s.t dst (.tu []) }
theorem skpK_app {nt : Nat} {dst : Option Nat} {t : Nat → AV} {H : Hp} {c : Nat} {K : ASt → Prop} : skpK nt dst ⟨t, H, c⟩ K () = K ⟨putT nt t dst (.tu []), H, c⟩ := (rfl)
def grdK (p d : Nat) (o : Oper) (s : ASt) (K : ASt → Prop) (want : Bool) : Bool → Prop := fun b => match want with
  | true => brB b (stp P nt p o { s with t := upd s.t d (.c (.v (.bool true))) } K) (K { s with t := putT nt (upd s.t d (.c (.v (.bool false)))) o.dst (.tu []) })
  | false => brB b (K { s with t := putT nt (upd s.t d (.c (.v (.bool true)))) o.dst (.tu []) }) (stp P nt p o { s with t := upd s.t d (.c (.v (.bool false))) } K)
def grdQ (p : Nat) (o : Oper) (s : ASt) (K : ASt → Prop) (want : Bool) : Option Nat → Prop
  | none => False
  | some d => d < nt ∧ guardK (s.t d) (grdK P nt p d o s K want) (skpK nt o.dst s K)
variable {P nt np g}
theorem seqC_normal {y : Code} {K : Exit → ASt → Prop} {s : ASt} : seqC P nt np g y K .normal s = wpC P nt np g y s K := (rfl)
theorem seqC_exit {y : Code} {K : Exit → ASt → Prop} {s : ASt} {j : Nat} : seqC P nt np g y K (.exit j) s = K (.exit j) s := (rfl)
theorem seqC_ret {y : Code} {K : Exit → ASt → Prop} {s : ASt} : seqC P nt np g y K .ret s = K .ret s := (rfl)
theorem blkC_normal {id : Nat} {K : Exit → ASt → Prop} {s : ASt} : blkC id K .normal s = K .normal s := (rfl)
theorem blkC_exit {id : Nat} {K : Exit → ASt → Prop} {s : ASt} {j : Nat} : blkC id K (.exit j) s = if j = id then K .normal s else K (.exit j) s := (rfl)
theorem blkC_ret {id : Nat} {K : Exit → ASt → Prop} {s : ASt} : blkC id K .ret s = K .ret s := (rfl)
theorem lopC_normal {N : ASt → Prop} {K : Exit → ASt → Prop} {s : ASt} : lopC N K .normal s = N s := (rfl)
theorem lopC_exit {N : ASt → Prop} {K : Exit → ASt → Prop} {s : ASt} {j : Nat} : lopC N K (.exit j) s = K (.exit j) s := (rfl)
theorem lopC_ret {N : ASt → Prop} {K : Exit → ASt → Prop} {s : ASt} : lopC N K .ret s = K .ret s := (rfl)
theorem endC_normal {rs : List ResultVar} {Post : AV → List (Option Ob) → Prop} {s : ASt} : endC P nt np g rs Post .normal s = EndA P nt np rs Post (frz g.en s) := by simp [endC, isEnd]
theorem endC_ret {rs : List ResultVar} {Post : AV → List (Option Ob) → Prop} {s : ASt} : endC P nt np g rs Post .ret s = EndA P nt np rs Post (frz g.en s) := by simp [endC, isEnd]
theorem endR_app {n : Nat} {K : Exit → ASt → Prop} {t : Nat → AV} {H : Hp} {c : Nat} : endR n K ⟨t, H, c⟩ = K .normal ⟨t, H, c + 8 * n⟩ := (rfl)
theorem seqK_app {d : Nat → Option Nat} {p : Nat} {r : List Oper} {K : ASt → Prop} {s : ASt} : seqK P nt d p r K s = seqR P nt d p r s K := (rfl)
theorem stK_app {d : Option Nat} {t : Nat → AV} {H : Hp} {c : Nat} {K : ASt → Prop} {v : AV} {o : List (Nat × Option Ob)} : stK nt d ⟨t, H, c⟩ K v o = K ⟨putT nt t d v, updL H o, c⟩ := (rfl)
theorem cndK_app {d : Nat} {x y : Code} {t : Nat → AV} {H : Hp} {c : Nat} {K : Exit → ASt → Prop} {b : Bool} : cndK P nt np g d x y ⟨t, H, c⟩ K b = brB b (wpC P nt np g x ⟨upd t d (.c (.v (.bool true))), H, c⟩ K) (wpC P nt np g y ⟨upd t d (.c (.v (.bool false))), H, c⟩ K) := (rfl)
theorem wpC_seq {x y : Code} {s : ASt} {K : Exit → ASt → Prop} : wpC P nt np g (.seq x y) s K = if g.joins y then JoinQ np (wpC P nt np g x) (wpC P nt np g y) s K else wpC P nt np g x s (seqC P nt np g y K) := (rfl)
theorem wpC_skip {s : ASt} {K : Exit → ASt → Prop} : wpC P nt np g .skip s K = K .normal s := (rfl)
theorem wpC_region {id : Nat} {l : List Oper} {s : ASt} {K : Exit → ASt → Prop} : wpC P nt np g (.region id l.toArray false) s K = optK (g.fs.lookup id) (fun q => q ≤ l.toArray.size ∧ FuseQ P nt q l.toArray (frzC (g.fz.lookup id) s) (endR l.toArray.size K)) (seqR P nt (dstOf l.toArray) 0 l (frzC (g.fz.lookup id) s) (endR l.length K)) := by
  unfold wpC
  rfl
theorem wpC_draw {id : Nat} {l : List Oper} {s : ASt} {K : Exit → ASt → Prop} : wpC P nt np g (.region id l.toArray true) s K = DrawQ P nt l.toArray (frzC (g.fz.lookup id) s) (endR l.length K) := by
  unfold wpC
  rfl
theorem wpC_cond {d : Nat} {x y : Code} {s : ASt} {K : Exit → ASt → Prop} : wpC P nt np g (.cond (.tmp d) x y) s K = (d < nt ∧ boolK (s.t d) (cndK P nt np g d x y s K)) := (rfl)
theorem wpC_block {id : Nat} {c : Code} {s : ASt} {K : Exit → ASt → Prop} : wpC P nt np g (.block id c) s K = wpC P nt np g c s (blkC id K) := (rfl)
theorem wpC_loop {c : Code} {s : ASt} {K : Exit → ASt → Prop} : wpC P nt np g (.loop c) s K = LoopQ np (wpC P nt np g c) s K := (rfl)
theorem wpC_exit {j : Nat} {s : ASt} {K : Exit → ASt → Prop} : wpC P nt np g (.exit j) s K = K (.exit j) s := (rfl)
theorem wpC_ret {s : ASt} {K : Exit → ASt → Prop} : wpC P nt np g .ret s K = K .ret s := (rfl)
variable {d : Nat → Option Nat} {p : Nat} {s : ASt} {K : ASt → Prop} {dst : Option Nat} {ty : Nat} {pos : String} {af : Array Edge} {t : Nat → AV} {H : Hp} {c : Nat}
theorem seqR_nil : seqR P nt d p [] s K = K s := (rfl)
theorem seqR_cons {o : Oper} {r : List Oper} : seqR P nt d p (o :: r) s K = gstp P nt d p o s (seqK P nt d (p + 1) r K) := (rfl)
theorem gstp_none {op : Op} : gstp P nt d p ⟨dst, op, ty, pos, af, none⟩ s K = stp P nt p ⟨dst, op, ty, pos, af, none⟩ s K := (rfl)
theorem gstp_some {op : Op} {j : Nat} {want : Bool} : gstp P nt d p ⟨dst, op, ty, pos, af, some (j, want)⟩ s K = grdQ P nt p ⟨dst, op, ty, pos, af, none⟩ s K want (d j) := by
  unfold gstp grdQ
  simp only
  cases d j with
  | none => rfl
  | some q => rfl
theorem grdQ_some {o : Oper} {want : Bool} {q : Nat} : grdQ P nt p o s K want (some q) = (q < nt ∧ guardK (s.t q) (grdK P nt p q o s K want) (skpK nt o.dst s K)) := (rfl)
theorem grdK_true {op : Op} {q : Nat} {b : Bool} : grdK P nt p q ⟨dst, op, ty, pos, af, none⟩ ⟨t, H, c⟩ K true b = brB b (stp P nt p ⟨dst, op, ty, pos, af, none⟩ ⟨upd t q (.c (.v (.bool true))), H, c⟩ K) (K ⟨putT nt (upd t q (.c (.v (.bool false)))) dst (.tu []), H, c⟩) := (rfl)
theorem grdK_false {op : Op} {q : Nat} {b : Bool} : grdK P nt p q ⟨dst, op, ty, pos, af, none⟩ ⟨t, H, c⟩ K false b = brB b (K ⟨putT nt (upd t q (.c (.v (.bool true)))) dst (.tu []), H, c⟩) (stp P nt p ⟨dst, op, ty, pos, af, none⟩ ⟨upd t q (.c (.v (.bool false))), H, c⟩ K) := (rfl)
theorem stp_call {f : Nat} {args : Array Operand} {ts : Array Nat} : stp P nt p ⟨dst, .call ⟨.value (.func f), args, ts⟩, ty, pos, af, none⟩ ⟨t, H, c⟩ K = Callq P nt f (args.toList.map (getA nt t)) dst (c + 8 * p) ⟨t, H, c⟩ K := (rfl)
theorem stp_builtin {b : Builtin} {args : Array Operand} {ts : Array Nat} : stp P nt p ⟨dst, .call ⟨.builtin b, args, ts⟩, ty, pos, af, none⟩ ⟨t, H, c⟩ K = bindK (evOp P (c + 8 * p) H (getA nt t) (.call ⟨.builtin b, args, ts⟩)) (stK nt dst ⟨t, H, c⟩ K) := (rfl)
theorem stp_move {x : Operand} : stp P nt p ⟨dst, .move x, ty, pos, af, none⟩ ⟨t, H, c⟩ K = K ⟨putT nt t dst (getA nt t x), H, c⟩ := (rfl)
theorem stp_assign {x : Operand} : stp P nt p ⟨dst, .assign x, ty, pos, af, none⟩ ⟨t, H, c⟩ K = K ⟨putT nt t dst (getA nt t x), H, c⟩ := (rfl)
theorem stp_pick {x y z : Operand} : stp P nt p ⟨dst, .pick x y z, ty, pos, af, none⟩ ⟨t, H, c⟩ K = bindK (evOp P (c + 8 * p) H (getA nt t) (.pick x y z)) (stK nt dst ⟨t, H, c⟩ K) := (rfl)
theorem stp_alloc {e : Nat} : stp P nt p ⟨dst, .alloc e, ty, pos, af, none⟩ ⟨t, H, c⟩ K = bindK (evOp P (c + 8 * p) H (getA nt t) (.alloc e)) (stK nt dst ⟨t, H, c⟩ K) := (rfl)
theorem stp_box {e : Nat} {x : Operand} : stp P nt p ⟨dst, .box e x, ty, pos, af, none⟩ ⟨t, H, c⟩ K = bindK (evOp P (c + 8 * p) H (getA nt t) (.box e x)) (stK nt dst ⟨t, H, c⟩ K) := (rfl)
theorem stp_load {e : Nat} {x : Operand} : stp P nt p ⟨dst, .load e x, ty, pos, af, none⟩ ⟨t, H, c⟩ K = bindK (evOp P (c + 8 * p) H (getA nt t) (.load e x)) (stK nt dst ⟨t, H, c⟩ K) := (rfl)
theorem stp_store {e : Nat} {x y : Operand} : stp P nt p ⟨dst, .store e x y, ty, pos, af, none⟩ ⟨t, H, c⟩ K = bindK (evOp P (c + 8 * p) H (getA nt t) (.store e x y)) (stK nt dst ⟨t, H, c⟩ K) := (rfl)
theorem stp_fieldAddr {e f : Nat} {x : Operand} : stp P nt p ⟨dst, .fieldAddr e x f, ty, pos, af, none⟩ ⟨t, H, c⟩ K = bindK (evOp P (c + 8 * p) H (getA nt t) (.fieldAddr e x f)) (stK nt dst ⟨t, H, c⟩ K) := (rfl)
theorem stp_indexAddr {e : Nat} {x y : Operand} : stp P nt p ⟨dst, .indexAddr e x y, ty, pos, af, none⟩ ⟨t, H, c⟩ K = bindK (evOp P (c + 8 * p) H (getA nt t) (.indexAddr e x y)) (stK nt dst ⟨t, H, c⟩ K) := (rfl)
theorem stp_nilCheck {x : Operand} : stp P nt p ⟨dst, .nilCheck x, ty, pos, af, none⟩ ⟨t, H, c⟩ K = bindK (evOp P (c + 8 * p) H (getA nt t) (.nilCheck x)) (stK nt dst ⟨t, H, c⟩ K) := (rfl)
theorem stp_binOp {b : BinOp} {e e2 : Nat} {x y : Operand} : stp P nt p ⟨dst, .binOp b e x y e2, ty, pos, af, none⟩ ⟨t, H, c⟩ K = bindK (evOp P (c + 8 * p) H (getA nt t) (.binOp b e x y e2)) (stK nt dst ⟨t, H, c⟩ K) := (rfl)
theorem stp_unOp {b : UnOp} {e : Nat} {x : Operand} : stp P nt p ⟨dst, .unOp b e x, ty, pos, af, none⟩ ⟨t, H, c⟩ K = bindK (evOp P (c + 8 * p) H (getA nt t) (.unOp b e x)) (stK nt dst ⟨t, H, c⟩ K) := (rfl)
theorem stp_convert {e e2 : Nat} {x : Operand} : stp P nt p ⟨dst, .convert e e2 x, ty, pos, af, none⟩ ⟨t, H, c⟩ K = bindK (evOp P (c + 8 * p) H (getA nt t) (.convert e e2 x)) (stK nt dst ⟨t, H, c⟩ K) := (rfl)
theorem stp_index {e : Nat} {x y : Operand} : stp P nt p ⟨dst, .index e x y, ty, pos, af, none⟩ ⟨t, H, c⟩ K = bindK (evOp P (c + 8 * p) H (getA nt t) (.index e x y)) (stK nt dst ⟨t, H, c⟩ K) := (rfl)
theorem stp_slice {e : Nat} {x : Operand} {lo hi mx : Option Operand} : stp P nt p ⟨dst, .slice e x lo hi mx, ty, pos, af, none⟩ ⟨t, H, c⟩ K = bindK (evOp P (c + 8 * p) H (getA nt t) (.slice e x lo hi mx)) (stK nt dst ⟨t, H, c⟩ K) := (rfl)
theorem stp_makeSlice {e : Nat} {x y : Operand} : stp P nt p ⟨dst, .makeSlice e x y, ty, pos, af, none⟩ ⟨t, H, c⟩ K = bindK (evOp P (c + 8 * p) H (getA nt t) (.makeSlice e x y)) (stK nt dst ⟨t, H, c⟩ K) := (rfl)
theorem stp_build {e : Nat} {ps : Array (Nat × Operand)} : stp P nt p ⟨dst, .build e ps, ty, pos, af, none⟩ ⟨t, H, c⟩ K = bindK (evOp P (c + 8 * p) H (getA nt t) (.build e ps)) (stK nt dst ⟨t, H, c⟩ K) := (rfl)
theorem stp_buildSlice {e n : Nat} {ps : Array (Nat × Operand)} : stp P nt p ⟨dst, .buildSlice e n ps, ty, pos, af, none⟩ ⟨t, H, c⟩ K = bindK (evOp P (c + 8 * p) H (getA nt t) (.buildSlice e n ps)) (stK nt dst ⟨t, H, c⟩ K) := (rfl)
theorem stp_extract {k : Nat} {x : Operand} : stp P nt p ⟨dst, .extract x k, ty, pos, af, none⟩ ⟨t, H, c⟩ K = bindK (evOp P (c + 8 * p) H (getA nt t) (.extract x k)) (stK nt dst ⟨t, H, c⟩ K) := (rfl)

/-! Regions that draw. -/
def drwK (P : Program) (nt : Nat) (pc : Bool) (ops : Array Oper) (r : List (Nat × Oper)) (acc : List Fp) (K : ASt → Prop) : Fp → ASt → Prop := fun fp s' => drawR P nt pc ops r (fp :: acc) s' K
def stDK (nt p : Nat) (pc : Bool) (ops : Array Oper) (dst : Option Nat) (vs : List AV) (acc : List Fp) (s : ASt) (K : Fp → ASt → Prop) : AV → List (Nat × Option Ob) → Prop := fun v objs =>
  Ck pc ops acc (detFp p vs v objs) ∧ K (detFp p vs v objs) { t := putT nt s.t dst v, H := updL s.H objs, c := s.c }
def stepX (P : Program) (nt p : Nat) (pc : Bool) (ops : Array Oper) (dst : Option Nat) (acc : List Fp) (s : ASt) (K : Fp → ASt → Prop) (op : Op) : Prop :=
  bindK (evOp P (s.c + 8 * p) (res (refsL (op.operands.toList.map (getA nt s.t))) s.H) (getA nt s.t) op) (stDK nt p pc ops dst (op.operands.toList.map (getA nt s.t)) acc s K)
def skDK (nt p : Nat) (dst : Option Nat) (s : ASt) (K : Fp → ASt → Prop) : Unit → Prop := fun _ => K (skipFp p) { s with t := putT nt s.t dst (.tu []) }
theorem skDK_app {nt p : Nat} {dst : Option Nat} {t : Nat → AV} {H : Hp} {c : Nat} {K : Fp → ASt → Prop} : skDK nt p dst ⟨t, H, c⟩ K () = K (skipFp p) ⟨putT nt t dst (.tu []), H, c⟩ := (rfl)
def grDK (P : Program) (nt p : Nat) (pc : Bool) (ops : Array Oper) (d : Nat) (o : Oper) (acc : List Fp) (s : ASt) (K : Fp → ASt → Prop) (want : Bool) : Bool → Prop := fun b => match want with
  | true => brB b (stepD P nt p pc ops o acc { s with t := upd s.t d (.c (.v (.bool true))) } K) (K (skipFp p) { s with t := putT nt (upd s.t d (.c (.v (.bool false)))) o.dst (.tu []) })
  | false => brB b (K (skipFp p) { s with t := putT nt (upd s.t d (.c (.v (.bool true)))) o.dst (.tu []) }) (stepD P nt p pc ops o acc { s with t := upd s.t d (.c (.v (.bool false))) } K)
def grDQ (P : Program) (nt p : Nat) (pc : Bool) (ops : Array Oper) (o : Oper) (acc : List Fp) (s : ASt) (K : Fp → ASt → Prop) (want : Bool) : Option Nat → Prop
  | none => False
  | some d => d < nt ∧ guardK (s.t d) (grDK P nt p pc ops d o acc s K want) (skDK nt p o.dst s K)
variable {pc : Bool} {ops : Array Oper} {acc : List Fp} {KD : Fp → ASt → Prop} {gd : Option (Nat × Bool)}
theorem numbered_nil {k : Nat} : numbered k [] = [] := (rfl)
theorem numbered_cons {k : Nat} {o : Oper} {r : List Oper} : numbered k (o :: r) = (k, o) :: numbered (k + 1) r := (rfl)
theorem drawR_nil : drawR P nt pc ops [] acc s K = K s := (rfl)
theorem drawR_cons {o : Oper} {r : List (Nat × Oper)} : drawR P nt pc ops ((p, o) :: r) acc s K = gstepD P nt p pc ops o acc s (drwK P nt pc ops r acc K) := (rfl)
theorem drwK_app {r : List (Nat × Oper)} {fp : Fp} : drwK P nt pc ops r acc K fp s = drawR P nt pc ops r (fp :: acc) s K := (rfl)
theorem stDK_app {vs : List AV} {v : AV} {o : List (Nat × Option Ob)} : stDK nt p pc ops dst vs acc ⟨t, H, c⟩ KD v o = (Ck pc ops acc (detFp p vs v o) ∧ KD (detFp p vs v o) ⟨putT nt t dst v, updL H o, c⟩) := (rfl)
theorem gstepD_none {op : Op} : gstepD P nt p pc ops ⟨dst, op, ty, pos, af, none⟩ acc s KD = stepD P nt p pc ops ⟨dst, op, ty, pos, af, none⟩ acc s KD := (rfl)
theorem gstepD_some {op : Op} {j : Nat} {want : Bool} : gstepD P nt p pc ops ⟨dst, op, ty, pos, af, some (j, want)⟩ acc s KD = grDQ P nt p pc ops ⟨dst, op, ty, pos, af, some (j, want)⟩ acc s KD want (dstOf ops j) := by
  unfold gstepD grDQ
  simp only
  cases dstOf ops j with
  | none => rfl
  | some q => rfl
theorem grDQ_some {o : Oper} {want : Bool} {q : Nat} : grDQ P nt p pc ops o acc s KD want (some q) = (q < nt ∧ guardK (s.t q) (grDK P nt p pc ops q o acc s KD want) (skDK nt p o.dst s KD)) := (rfl)
theorem grDK_true {op : Op} {q : Nat} {b : Bool} : grDK P nt p pc ops q ⟨dst, op, ty, pos, af, gd⟩ acc ⟨t, H, c⟩ KD true b = brB b (stepD P nt p pc ops ⟨dst, op, ty, pos, af, gd⟩ acc ⟨upd t q (.c (.v (.bool true))), H, c⟩ KD) (KD (skipFp p) ⟨putT nt (upd t q (.c (.v (.bool false)))) dst (.tu []), H, c⟩) := (rfl)
theorem grDK_false {op : Op} {q : Nat} {b : Bool} : grDK P nt p pc ops q ⟨dst, op, ty, pos, af, gd⟩ acc ⟨t, H, c⟩ KD false b = brB b (KD (skipFp p) ⟨putT nt (upd t q (.c (.v (.bool true)))) dst (.tu []), H, c⟩) (stepD P nt p pc ops ⟨dst, op, ty, pos, af, gd⟩ acc ⟨upd t q (.c (.v (.bool false))), H, c⟩ KD) := (rfl)
theorem stepD_pick {x y z : Operand} : stepD P nt p pc ops ⟨dst, .pick x y z, ty, pos, af, gd⟩ acc ⟨t, H, c⟩ KD = stepX P nt p pc ops dst acc ⟨t, H, c⟩ KD (.pick x y z) := (rfl)
theorem stepD_alloc {e : Nat} : stepD P nt p pc ops ⟨dst, .alloc e, ty, pos, af, gd⟩ acc ⟨t, H, c⟩ KD = stepX P nt p pc ops dst acc ⟨t, H, c⟩ KD (.alloc e) := (rfl)
theorem stepD_box {e : Nat} {x : Operand} : stepD P nt p pc ops ⟨dst, .box e x, ty, pos, af, gd⟩ acc ⟨t, H, c⟩ KD = stepX P nt p pc ops dst acc ⟨t, H, c⟩ KD (.box e x) := (rfl)
theorem stepD_load {e : Nat} {x : Operand} : stepD P nt p pc ops ⟨dst, .load e x, ty, pos, af, gd⟩ acc ⟨t, H, c⟩ KD = stepX P nt p pc ops dst acc ⟨t, H, c⟩ KD (.load e x) := (rfl)
theorem stepD_store {e : Nat} {x y : Operand} : stepD P nt p pc ops ⟨dst, .store e x y, ty, pos, af, gd⟩ acc ⟨t, H, c⟩ KD = stepX P nt p pc ops dst acc ⟨t, H, c⟩ KD (.store e x y) := (rfl)
theorem stepD_fieldAddr {e f : Nat} {x : Operand} : stepD P nt p pc ops ⟨dst, .fieldAddr e x f, ty, pos, af, gd⟩ acc ⟨t, H, c⟩ KD = stepX P nt p pc ops dst acc ⟨t, H, c⟩ KD (.fieldAddr e x f) := (rfl)
theorem stepD_indexAddr {e : Nat} {x y : Operand} : stepD P nt p pc ops ⟨dst, .indexAddr e x y, ty, pos, af, gd⟩ acc ⟨t, H, c⟩ KD = stepX P nt p pc ops dst acc ⟨t, H, c⟩ KD (.indexAddr e x y) := (rfl)
theorem stepD_nilCheck {x : Operand} : stepD P nt p pc ops ⟨dst, .nilCheck x, ty, pos, af, gd⟩ acc ⟨t, H, c⟩ KD = stepX P nt p pc ops dst acc ⟨t, H, c⟩ KD (.nilCheck x) := (rfl)
theorem stepD_binOp {b : BinOp} {e e2 : Nat} {x y : Operand} : stepD P nt p pc ops ⟨dst, .binOp b e x y e2, ty, pos, af, gd⟩ acc ⟨t, H, c⟩ KD = stepX P nt p pc ops dst acc ⟨t, H, c⟩ KD (.binOp b e x y e2) := (rfl)
theorem stepD_unOp {b : UnOp} {e : Nat} {x : Operand} : stepD P nt p pc ops ⟨dst, .unOp b e x, ty, pos, af, gd⟩ acc ⟨t, H, c⟩ KD = stepX P nt p pc ops dst acc ⟨t, H, c⟩ KD (.unOp b e x) := (rfl)
theorem stepD_convert {e e2 : Nat} {x : Operand} : stepD P nt p pc ops ⟨dst, .convert e e2 x, ty, pos, af, gd⟩ acc ⟨t, H, c⟩ KD = stepX P nt p pc ops dst acc ⟨t, H, c⟩ KD (.convert e e2 x) := (rfl)
theorem stepD_index {e : Nat} {x y : Operand} : stepD P nt p pc ops ⟨dst, .index e x y, ty, pos, af, gd⟩ acc ⟨t, H, c⟩ KD = stepX P nt p pc ops dst acc ⟨t, H, c⟩ KD (.index e x y) := (rfl)
theorem stepD_slice {e : Nat} {x : Operand} {lo hi mx : Option Operand} : stepD P nt p pc ops ⟨dst, .slice e x lo hi mx, ty, pos, af, gd⟩ acc ⟨t, H, c⟩ KD = stepX P nt p pc ops dst acc ⟨t, H, c⟩ KD (.slice e x lo hi mx) := (rfl)
theorem stepD_makeSlice {e : Nat} {x y : Operand} : stepD P nt p pc ops ⟨dst, .makeSlice e x y, ty, pos, af, gd⟩ acc ⟨t, H, c⟩ KD = stepX P nt p pc ops dst acc ⟨t, H, c⟩ KD (.makeSlice e x y) := (rfl)
theorem stepD_build {e : Nat} {ps : Array (Nat × Operand)} : stepD P nt p pc ops ⟨dst, .build e ps, ty, pos, af, gd⟩ acc ⟨t, H, c⟩ KD = stepX P nt p pc ops dst acc ⟨t, H, c⟩ KD (.build e ps) := (rfl)
theorem stepD_buildSlice {e n : Nat} {ps : Array (Nat × Operand)} : stepD P nt p pc ops ⟨dst, .buildSlice e n ps, ty, pos, af, gd⟩ acc ⟨t, H, c⟩ KD = stepX P nt p pc ops dst acc ⟨t, H, c⟩ KD (.buildSlice e n ps) := (rfl)
theorem stepD_extract {k : Nat} {x : Operand} : stepD P nt p pc ops ⟨dst, .extract x k, ty, pos, af, gd⟩ acc ⟨t, H, c⟩ KD = stepX P nt p pc ops dst acc ⟨t, H, c⟩ KD (.extract x k) := (rfl)
theorem stepD_builtin {b : Builtin} {args : Array Operand} {ts : Array Nat} : stepD P nt p pc ops ⟨dst, .call ⟨.builtin b, args, ts⟩, ty, pos, af, gd⟩ acc ⟨t, H, c⟩ KD = stepX P nt p pc ops dst acc ⟨t, H, c⟩ KD (.call ⟨.builtin b, args, ts⟩) := (rfl)
theorem stepD_moveF {x : Operand} : stepD P nt p false ops ⟨dst, .move x, ty, pos, af, gd⟩ acc ⟨t, H, c⟩ KD = stepX P nt p false ops dst acc ⟨t, H, c⟩ KD (.move x) := (rfl)
theorem stepD_moveT {x : Operand} : stepD P nt p true ops ⟨dst, .move x, ty, pos, af, gd⟩ acc ⟨t, H, c⟩ KD = bindK (evOp P (c + 8 * p) (res [] H) (getA nt t) (.move x)) (stDK nt p true ops dst [] acc ⟨t, H, c⟩ KD) := (rfl)
theorem stepD_assign {x : Operand} : stepD P nt p pc ops ⟨dst, .assign x, ty, pos, af, gd⟩ acc ⟨t, H, c⟩ KD = stepX P nt p pc ops dst acc ⟨t, H, c⟩ KD (.assign x) := (rfl)
theorem stepD_call {f : Nat} {args : Array Operand} {ts : Array Nat} : stepD P nt p pc ops ⟨dst, .call ⟨.value (.func f), args, ts⟩, ty, pos, af, gd⟩ acc ⟨t, H, c⟩ KD = CallD P nt f (args.toList.map (getA nt t)) p (c + 8 * p) ⟨t, H, c⟩ (fun fp => Ck pc ops acc fp) (fun fp s' => KD fp (s' dst)) := (rfl)
theorem stepX_eq {op : Op} : stepX P nt p pc ops dst acc ⟨t, H, c⟩ KD op = bindK (evOp P (c + 8 * p) (res (refsL (op.operands.toList.map (getA nt t))) H) (getA nt t) op) (stDK nt p pc ops dst (op.operands.toList.map (getA nt t)) acc ⟨t, H, c⟩ KD) := (rfl)
theorem res_at {refs : List Nat} {o : Nat} : res refs H o = if refs.contains o then H o else none := (rfl)
theorem Ck_eq {fp : Fp} : Ck pc ops acc fp = (((!pc || fp.nb) && (!fp.pas || pc) && chkB ops acc fp) = true) := (rfl)
theorem chkB_nil {fp : Fp} : chkB ops [] fp = true := (rfl)
theorem chkB_cons {fp x : Fp} : chkB ops (x :: acc) fp = ((okPair fp x || ordered ops fp.p x.p) && chkB ops acc fp) := by
  unfold chkB
  rw [List.all_cons, Bool.or_comm]
theorem disj_nil {b : List Nat} : disj [] b = true := (rfl)
theorem disj_nil_r {a : List Nat} : disj a [] = true := by simp [disj]
theorem drawQ_of (pc : Bool) {s : ASt} (hf : fastB ops = true) (hn : pc = true → NoB s) (h : drawR P nt pc ops (numbered 0 ops.toList) [] s K) : DrawQ P nt ops s K := ⟨hf, pc, hn, h⟩
theorem callOk_z (g : Cfg) (hm : P.follows .mixedOrders = true) {f : Nat} {fn : Func} {c : Code} {Hin : List Ob} {args : List AV} {Post : AV → List (Option Ob) → Prop} {rs : List ResultVar} (hf : P.funcs[f]? = some fn) (hb : fn.body = some c) (hnt : fn.ntmps = nt) (hrs : fn.results = rs.toArray) (hname : (fn.name == "runtime.NumGoroutine") = false) (hal : args.length ≤ nt) (hnp : Hin.length = np)
    (hin' : Hin.all (mnO np) = true) (hargs' : args.all (mnA np) = true) (h : wpC P nt np g c ⟨initT 0 args, HpS Hin, np + 1⟩ (endC P nt np g rs Post)) : CallOk P f Hin args Post :=
  callOk_of g hm hf hb hnt hrs hname hal hnp hin' hargs' h
end

/-! Bytes. -/
def eB (l : List UInt8) : List (List CV) := l.map fun b => [.v (.int .u8 b.toNat)]
theorem eB_length (l : List UInt8) : (eB l).length = l.length := by simp [eB]
theorem eB_get (l : List UInt8) (i : Nat) : (eB l)[i]? = (l[i]?).map fun b => [.v (.int .u8 b.toNat)] := by simp [eB]
theorem eB_some {l : List UInt8} {i : Nat} {b : UInt8} (h : l[i]? = some b) : (eB l)[i]? = some [.v (.int .u8 b.toNat)] := by rw [eB_get, h]; rfl
end Go.Proofs.YtnnmpdanfeejbaaGreat.Abs

/- The abstract machine: calls, by contracts. -/
namespace Go.Proofs.YtnnmpdanfeejbaaGreat.Abs
open Go Go.RowKit
set_option linter.unusedVariables false
set_option linter.unusedSimpArgs false

mutual
/-- How an argument is seen, told by a computation. -/
def viA (bor : Bool) (H : Hp) (ps : List Nat) : AV → AV → Prop
  | _, .any => True
  | x, .c y => (match x with
    | .c x => x = y ∨ Sim x y
    | .bw x => bor = true ∧ ps = [] ∧ Sim x y
    | .nul => ∃ k, y = .row k []
    | .sl o n => bor = true ∧ o ∉ ps ∧ (match H o with | some (.rw _ _ es) => n = es.length ∧ Sim (.row true es) y | _ => False)
    | .pt o i j => (∃ ty sz es e e', bor = true ∧ o ∉ ps ∧ H o = some (.rw ty sz es) ∧ es[i]? = some e ∧ Sim (.ptr e j) (.ptr e' j) ∧ y = .ptr e' j) ∨ ∃ ty cs cs', i = 0 ∧ bor = true ∧ o ∉ ps ∧ H o = some (.box ty cs) ∧ y = .ptr cs' j ∧ cs.length = cs'.length ∧ ∀ (i : Nat) c c', cs[i]? = some c → cs'[i]? = some c' → View bor H ps c (.c c')
    | _ => False)
  | x, .nul => x = .nul
  | x, .sl k n => (match x with | .sl o m => 1 ≤ k ∧ ps[k - 1]? = some o ∧ m = n | _ => False)
  | x, .pt k i j => (match x with | .pt o i' j' => 1 ≤ k ∧ ps[k - 1]? = some o ∧ i' = i ∧ j' = j | _ => False)
  | x, .ag cs => (match x with | .ag cs' => viL bor H ps cs' cs | _ => False)
  | _, .bw _ => False
  | _, .tu _ => False
def viL (bor : Bool) (H : Hp) (ps : List Nat) : List AV → List AV → Prop
  | [], [] => True
  | x :: r, y :: q => viA bor H ps x y ∧ viL bor H ps r q
  | _, _ => False
end
mutual
theorem viA_ok {bor : Bool} {H : Hp} {ps : List Nat} : (x y : AV) → viA bor H ps x y → View bor H ps x y
  | x, .any, _ => .any x
  | x, .c y, h => by
    unfold viA at h
    split at h
    · rcases h with h | h
      · rw [h]; exact .same y
      · exact .c _ _ h
    · exact .bw _ _ h.1 h.2.1 h.2.2
    · obtain ⟨k, rfl⟩ := h; exact .nulR k
    · obtain ⟨h1, h2, h3⟩ := h
      split at h3
      · rename_i hH; exact .slB _ _ _ _ _ _ h1 h2 hH h3.1 h3.2
      · exact h3.elim
    · rcases h with ⟨ty, sz, es, e, e', h1, h2, h3, h4, h5, rfl⟩ | ⟨ty, cs, cs', rfl, h1, h2, h3, rfl, h4, h5⟩
      · exact .ptE _ _ _ ty sz es e e' h1 h2 h3 h4 h5
      · exact .ptB _ _ ty cs cs' h1 h2 h3 h4 h5
    · exact h.elim
  | x, .nul, h => by unfold viA at h; rw [h]; exact .nul
  | x, .sl k n, h => by
    unfold viA at h
    split at h
    · obtain ⟨h1, h2, rfl⟩ := h
      obtain ⟨k, rfl⟩ : ∃ m, k = m + 1 := ⟨k - 1, by omega⟩
      exact .slP _ _ k h2
    · exact h.elim
  | x, .pt k i j, h => by
    unfold viA at h
    split at h
    · obtain ⟨h1, h2, rfl, rfl⟩ := h
      obtain ⟨k, rfl⟩ : ∃ m, k = m + 1 := ⟨k - 1, by omega⟩
      exact .ptP _ _ _ k h2
    · exact h.elim
  | x, .ag cs, h => by
    unfold viA at h
    split at h
    · rename_i cs'; exact .ag cs' cs (viL_ok cs' cs h).1 (viL_ok cs' cs h).2
    · exact h.elim
  | x, .bw _, h => by unfold viA at h; exact h.elim
  | x, .tu _, h => by unfold viA at h; exact h.elim
termination_by structural x y => y
theorem viL_ok {bor : Bool} {H : Hp} {ps : List Nat} : (l m : List AV) → viL bor H ps l m → l.length = m.length ∧ ∀ (i : Nat) c c', l[i]? = some c → m[i]? = some c' → View bor H ps c c'
  | [], [], _ => ⟨rfl, fun i c c' h => by simp at h⟩
  | [], y :: q, h => by unfold viL at h; exact h.elim
  | x :: r, [], h => by unfold viL at h; exact h.elim
  | x :: r, y :: q, h => by
    unfold viL at h
    have h1 := viA_ok x y h.1
    have h2 := viL_ok r q h.2
    refine ⟨by simp [h2.1], fun i c c' hc hc' => ?_⟩
    cases i with
    | zero => cases hc; cases hc'; exact h1
    | succ i => exact h2.2 i c c' (by simpa using hc) (by simpa using hc')
termination_by structural l m => m
end
def viO (bor : Bool) (H : Hp) (ps : List Nat) : Option Ob → Ob → Prop
  | some (.box ty cs), .box ty' cs' => ty = ty' ∧ viL bor H ps cs cs'
  | some (.rw ty sz es), .rw ty' sz' es' => ty = ty' ∧ sz = sz' ∧ es = es'
  | _, _ => False
def viH (bor : Bool) (H : Hp) (ps : List Nat) : List Nat → List Ob → Prop
  | [], [] => True
  | o :: r, x :: q => viO bor H ps (H o) x ∧ viH bor H ps r q
  | _, _ => False
theorem viH_ok {bor : Bool} {H : Hp} {ps : List Nat} : ∀ {l : List Nat} {m : List Ob}, viH bor H ps l m → m.length = l.length ∧ ∀ (k o : Nat), l[k]? = some o → ∃ ob ob', H o = some ob ∧ m[k]? = some ob' ∧ ViewO bor H ps ob ob'
  | [], [], _ => ⟨rfl, fun k o h => by simp at h⟩
  | [], _ :: _, h => h.elim
  | _ :: _, [], h => h.elim
  | o :: r, x :: q, h => by
    have h2 := viH_ok h.2
    refine ⟨by simp [h2.1], fun k o' hk => ?_⟩
    cases k with
    | zero =>
      cases hk
      have h1 := h.1
      unfold viO at h1
      split at h1
      · rename_i hh
        obtain ⟨rfl, h1⟩ := h1
        exact ⟨_, _, hh, rfl, rfl, (viL_ok _ _ h1).1, (viL_ok _ _ h1).2⟩
      · rename_i hh
        obtain ⟨rfl, rfl, rfl⟩ := h1
        exact ⟨_, _, hh, rfl, rfl, rfl, rfl⟩
      · exact h1.elim
    | succ k => exact h2.2 k o' (by simpa using hk)
/-- A call by a contract. -/
theorem callq_of {P : Program} {nt f : Nat} {args : List AV} {d : Option Nat} {id : Nat} {s : ASt} {K : ASt → Prop} (bor : Bool) (ps : List Nat) {Hin : List Ob} {args' : List AV} {Post : AV → List (Option Ob) → Prop} (h : CallOk P f Hin args' Post) (hn : decide ps.Nodup = true)
    (ho : viH bor s.H ps ps Hin) (hv : viL bor s.H ps args args') (hK : ∀ r out, Post r out → ps.length ≤ out.length ∧ out.length ≤ ps.length + 8 ∧ (bor = true → Rs true out.length r ∧ ∀ ob, some ob ∈ out → RsOb true out.length ob) ∧ K (after nt s ps id d r out)) : Callq P nt f args d id s K :=
  ⟨bor, ps, Hin, args', Post, h, by simpa using hn, (viH_ok ho).1, (viH_ok ho).2, (viL_ok _ _ hv).1, (viL_ok _ _ hv).2, hK⟩
/-- A call by a contract in a region that draws. -/
theorem calld_of {P : Program} {nt f : Nat} {args : List AV} {p id : Nat} {s : ASt} {C : Fp → Prop} {K : Fp → (Option Nat → ASt) → Prop} (used : List Nat) (bor : Bool) (ps : List Nat) {Hin : List Ob} {args' : List AV} {Post : AV → List (Option Ob) → Prop} (h : CallOk P f Hin args' Post) (hn : decide ps.Nodup = true)
    (ho : viH bor (res used s.H) ps ps Hin) (hv : viL bor (res used s.H) ps args args') (hC : C ⟨p, used ++ ps, ps ++ (List.range 8).map (id + ·), true, !ps.isEmpty, true⟩) (hx : ∃ r out, Post r out)
    (hK : ∀ r out, Post r out → ps.length ≤ out.length ∧ out.length ≤ ps.length + 8 ∧ (bor = true → Rs true out.length r ∧ ∀ ob, some ob ∈ out → RsOb true out.length ob) ∧ K ⟨p, used ++ ps, ps ++ (List.range 8).map (id + ·), true, !ps.isEmpty, true⟩ (fun d => after0 nt s ps id d r out)) : CallD P nt f args p id s C K :=
  ⟨used, bor, ps, Hin, args', Post, h, by simpa using hn, (viH_ok ho).1, (viH_ok ho).2, (viL_ok _ _ hv).1, (viL_ok _ _ hv).2, hC, hx, hK⟩
theorem after0_eq {nt : Nat} {t : Nat → AV} {H : Hp} {c : Nat} {ps : List Nat} {id : Nat} {d : Option Nat} {r : AV} {out : List (Option Ob)} : after0 nt ⟨t, H, c⟩ ps id d r out = ⟨putT nt t d (renA (rn ps id) r), updL H (callObjs ps id 0 out), c⟩ := (rfl)
/-- The parts of a struct's literal, field by field. -/
def pickF (fs : List (Nat × Nat)) : List (Nat × AV) → Option (List (Nat × Nat × AV))
  | [] => some []
  | (k, x) :: r => (fs[k]?).bind fun f => (pickF fs r).bind fun l => some ((f.1, f.2, x) :: l)
theorem pickF_eq (fs : List (Nat × Nat)) : ∀ ps : List (Nat × AV), (ps.mapM fun p => (fs[p.1]?).map fun f => (f.1, f.2, p.2)) = pickF fs ps
  | [] => rfl
  | (k, x) :: r => by
    rw [List.mapM_cons, pickF_eq fs r, pickF]
    cases fs[k]? <;> simp
theorem pickF_nil {fs : List (Nat × Nat)} : pickF fs [] = some [] := (rfl)
theorem pickF_cons {fs : List (Nat × Nat)} {k : Nat} {x : AV} {r : List (Nat × AV)} : pickF fs ((k, x) :: r) = (fs[k]?).bind fun f => (pickF fs r).bind fun l => some ((f.1, f.2, x) :: l) := (rfl)
theorem evBuild_eq {H : Hp} {i : TI} {ps : List (Nat × AV)} : evBuild H i ps = (pickF i.fields ps).bind fun l =>
    if ps.all (fun p => okA H p.2) ∧ i.agg = true ∧ i.fields ≠ [] ∧ i.zero ≠ [] ∧ (∀ f ∈ i.fields, f.2 ≠ 0) then (fillA (i.zero.map constA) l).bind fun cs => some (.ag cs, []) else none := by
  rw [evBuild, pickF_eq]
theorem all_nil' {α : Type} {p : α → Prop} : (∀ f ∈ ([] : List α), p f) = True := by simp
theorem all_cons' {α : Type} {p : α → Prop} {x : α} {r : List α} : (∀ f ∈ x :: r, p f) = (p x ∧ ∀ f ∈ r, p f) := by simp
theorem range0 : List.range 0 = [] := by decide
theorem range1 : List.range 1 = [0] := by decide
theorem range2 : List.range 2 = [0, 1] := by decide
theorem range3 : List.range 3 = [0, 1, 2] := by decide
theorem range4 : List.range 4 = [0, 1, 2, 3] := by decide
theorem range5 : List.range 5 = [0, 1, 2, 3, 4] := by decide
theorem range6 : List.range 6 = [0, 1, 2, 3, 4, 5] := by decide
theorem range7 : List.range 7 = [0, 1, 2, 3, 4, 5, 6] := by decide
theorem range8 : List.range 8 = [0, 1, 2, 3, 4, 5, 6, 7] := by decide
theorem range9 : List.range 9 = [0, 1, 2, 3, 4, 5, 6, 7, 8] := by decide
theorem repl0 {α : Type} {x : α} : List.replicate 0 x = [] := rfl
theorem repl1 {α : Type} {x : α} : List.replicate 1 x = [x] := rfl
theorem repl2 {α : Type} {x : α} : List.replicate 2 x = [x, x] := rfl
theorem repl3 {α : Type} {x : α} : List.replicate 3 x = [x, x, x] := rfl
theorem repl4 {α : Type} {x : α} : List.replicate 4 x = [x, x, x, x] := rfl
theorem repl5 {α : Type} {x : α} : List.replicate 5 x = [x, x, x, x, x] := rfl
theorem repl6 {α : Type} {x : α} : List.replicate 6 x = [x, x, x, x, x, x] := rfl
theorem repl7 {α : Type} {x : α} : List.replicate 7 x = [x, x, x, x, x, x, x] := rfl
theorem repl8 {α : Type} {x : α} : List.replicate 8 x = [x, x, x, x, x, x, x, x] := rfl
theorem repl9 {α : Type} {x : α} : List.replicate 9 x = [x, x, x, x, x, x, x, x, x] := rfl
theorem nat512 : ((512 : Nat) : Int) = 512 := (rfl)
theorem optArr_some {α : Type} {x : α} : (some x).toArray = #[x] := (rfl)
theorem optArr_none {α : Type} : (none : Option α).toArray = #[] := (rfl)
theorem memN {a b : Nat} {l : List Nat} : (a ∈ b :: l) = (a = b ∨ a ∈ l) := by simp
theorem evElems_nil {H : Hp} {esz : Nat} {flat : List AV} : evElems H esz flat [] = some ([], []) := (rfl)
theorem evElems_cons {H : Hp} {esz : Nat} {flat : List AV} {i : Nat} {r : List Nat} : evElems H esz flat (i :: r) = match toCs H i 0 ((flat.drop (i * esz)).take esz), evElems H esz flat r with
    | some (e, ks), some (es, ks') => some (e :: es, ks ++ ks')
    | _, _ => none := (rfl)
theorem disj_cons {x : Nat} {r b : List Nat} : disj (x :: r) b = (!b.contains x && disj r b) := (rfl)
theorem HpS_at {l : List Ob} {k : Nat} : HpS l k = if k = 0 then none else l[k - 1]? := (rfl)
theorem kl_nil {t : Nat → AV} : kl [] t = t := (rfl)
theorem klH_nil {H : Hp} : klH [] H = H := (rfl)
theorem kl_cons {o : Nat} {r : List Nat} {t : Nat → AV} : kl (o :: r) t = fun k => killA (t k) := (rfl)
theorem klH_cons {o : Nat} {r : List Nat} {H : Hp} : klH (o :: r) H = fun k => (H k).map killO := (rfl)
theorem after_eq {nt : Nat} {t : Nat → AV} {H : Hp} {c : Nat} {ps : List Nat} {id : Nat} {d : Option Nat} {r : AV} {out : List (Option Ob)} : after nt ⟨t, H, c⟩ ps id d r out = ⟨putT nt (kl ps t) d (renA (rn ps id) r), updL (klH ps H) (callObjs ps id 0 out), c⟩ := (rfl)
theorem inlS_eq {nt : Nat} {t : Nat → AV} {H : Hp} {c : Nat} {o i j ty sz : Nat} {es : List (List CV)} {e : List CV} {es2 : List (List CV)} {d : Option Nat} {r : AV} : inlS nt ⟨t, H, c⟩ o i j ty sz es e es2 d r = ⟨putT nt (fun k => killA (t k)) d r, upd (fun k => (H k).map killO) o (some (.rw ty sz (es.set i (e.set j (.row true es2))))), c⟩ := (rfl)
/-- A region with three operations that may be taken as one: what stands ahead of them is run; then either way is gone. -/
def fsK (P : Program) (nt q : Nat) (l : List Oper) (K : ASt → Prop) : ASt → Prop := fun s1 =>
  seqR P nt (dstOf l.toArray) q (l.drop q) s1 K ∨ ∃ o1 o2 o3 r, l.drop q = o1 :: o2 :: o3 :: r ∧ TriQ P nt o1 o2 o3 s1 fun s2 => seqR P nt (dstOf l.toArray) (q + 3) r s2 K
theorem fuseQ_of {P : Program} {nt q : Nat} {l : List Oper} {s : ASt} {K : ASt → Prop} (h : seqR P nt (dstOf l.toArray) 0 (l.take q) s (fsK P nt q l K)) : FuseQ P nt q l.toArray s K := h
theorem fsK_seq {P : Program} {nt q : Nat} {l : List Oper} {s : ASt} {K : ASt → Prop} (h : seqR P nt (dstOf l.toArray) q (l.drop q) s K) : fsK P nt q l K s := .inl h
theorem fsK_tri {P : Program} {nt q : Nat} {l : List Oper} {K : ASt → Prop} {tt : Nat → AV} {H : Hp} {c : Nat} {o1 o2 o3 : Oper} {r : List Oper} (hl : l.drop q = o1 :: o2 :: o3 :: r)
    {t x d1 m d2 f : Nat} {ts : Array Nat} (hops : o1.op = .load t (.tmp x) ∧ o1.dst = some d1 ∧ o1.guard = none ∧ o2.op = .move (.tmp m) ∧ o2.dst = some d2 ∧ o2.guard = none ∧ o3.op = .call { callee := .value (.func f), args := #[.tmp d1, .tmp d2], argTypes := ts } ∧ o3.guard = none)
    (hd : decide (d1 ≠ d2 ∧ d1 < nt ∧ d2 < nt ∧ m ≠ d1 ∧ m < nt ∧ x < nt) = true) {ti : TI} (hti : tiOf P t = some ti) (hag : ti.agg = false)
    {o i j ty sz : Nat} {es : List (List CV)} {e : List CV} {es' : List (List CV)} {v : Value} (hx : tt x = .pt o i j) (hH : H o = some (.rw ty sz es)) (he : es[i]? = some e) (hc : e[j]? = some (.row true es')) (hne : es' ≠ []) (hm : tt m = .c (.v v))
    (sz0 : Nat) (hsz : ∀ e ∈ es', e.length = sz0) {y : Value} {es2 : List (List CV)} (n : Nat) (hn : n = es'.length) (hcall : ∀ ty', CallOk P f [.rw ty' sz0 es'] [.sl 1 n, .c (.v v)] (fun r out => r = .c (.v y) ∧ out = [some (.rw ty' sz0 es2)])) (hy : y.oneCell' = true) (hlen : es2.length = es'.length) (hown : ∀ e ∈ es2, ∀ c ∈ e, Own c)
    (hK : seqR P nt (dstOf l.toArray) (q + 3) r (inlS nt ⟨upd (upd tt d1 .any) d2 (.c (.v v)), H, c⟩ o i j ty sz es e es2 o3.dst (.c (.v y))) K) : fsK P nt q l K ⟨tt, H, c⟩ := by
  refine .inr ⟨o1, o2, o3, r, hl, t, x, d1, m, d2, f, ts, o, i, j, ty, sz, es, e, es', v, ti, hops, ?_⟩
  obtain ⟨h1, h2, h3, h4, h5, h6⟩ : d1 ≠ d2 ∧ d1 < nt ∧ d2 < nt ∧ m ≠ d1 ∧ m < nt ∧ x < nt := by simpa using hd
  refine ⟨h1, h2, h3, h4, h5, h6, hti, hag, hx, hH, he, hc, hne, hm, fun ty' sz' hs => ?_⟩
  obtain ⟨e0, r0, rfl⟩ := List.exists_cons_of_ne_nil hne
  subst hn
  have : sz' = sz0 := by rw [← hs e0 (List.mem_cons_self ..), hsz e0 (List.mem_cons_self ..)]
  subst this
  refine (hcall ty').mono fun r out h => ?_
  obtain ⟨rfl, rfl⟩ := h
  exact ⟨y, es2, rfl, hy, rfl, hlen, hown, hK⟩
end Go.Proofs.YtnnmpdanfeejbaaGreat.Abs

/- How the program's data stand in cells. -/
namespace Go.Proofs.YtnnmpdanfeejbaaGreat.Abs
open Go Go.Proofs
set_option linter.unusedVariables false
set_option linter.unusedSimpArgs false
/-! k: are the rows within the object's own? -/
def stC (s : ByteArray) : List CV := [.v (.string s)]
def inC (n : Int) : List CV := [.v (.int .i64 n)]
structure Pr where
  k : ByteArray
  v : ByteArray
  deriving DecidableEq, Inhabited
def prC (p : Pr) : List CV := [.v (.string p.k), .v (.string p.v)]
structure Nd where
  ps : List Pr
  ks : List ByteArray
  cs : List Int
  deriving DecidableEq, Inhabited
def ndC (k : Bool) (n : Nd) : List CV := [.row k (n.ps.map prC), .row k (n.ks.map stC), .row k (n.cs.map inC)]
/-- A sheet's cells. -/
def shC (k : Bool) (b : List UInt8) : List CV := [.row k (eB b)]
/-- A write's cells. -/
def wrC (k : Bool) (x : Int × List UInt8) : List CV := [.v (.int .i64 x.1), .row k (eB x.2)]
/-- An operation's cells. -/
def opC (k : Bool) (x : Bool × Int × List UInt8) : List CV := [.v (.bool x.1), .v (.int .i64 x.2.1), .row k (eB x.2.2)]
/-- A tree within (the reference's). -/
inductive Sub where
  | mk (leaf : Bool) (ps : List Pr) (ks : List Sub)
  deriving Inhabited
def Sub.leaf : Sub → Bool | .mk l _ _ => l
def Sub.ps : Sub → List Pr | .mk _ p _ => p
def Sub.ks : Sub → List Sub | .mk _ _ k => k
mutual
def suC (k : Bool) : Sub → List CV
  | .mk l ps ks => [.v (.bool l), .row k (ps.map prC), .row k (suL k ks)]
def suL (k : Bool) : List Sub → List (List CV)
  | [] => []
  | x :: r => suC k x :: suL k r
end
theorem suL_map (k : Bool) : ∀ l : List Sub, suL k l = l.map (suC k)
  | [] => rfl
  | x :: r => by rw [suL, suL_map k r]; rfl
theorem suC_eq (k : Bool) (s : Sub) : suC k s = [.v (.bool s.leaf), .row k (s.ps.map prC), .row k (s.ks.map (suC k))] := by
  cases s; rw [suC, suL_map]; rfl

theorem stC_length (x : ByteArray) : (stC x).length = 1 := (rfl)
theorem inC_length (x : Int) : (inC x).length = 1 := (rfl)
theorem prC_length (x : Pr) : (prC x).length = 2 := (rfl)
theorem ndC_length (k : Bool) (x : Nd) : (ndC k x).length = 3 := (rfl)
theorem shC_length (k : Bool) (x : List UInt8) : (shC k x).length = 1 := (rfl)
theorem wrC_length (k : Bool) (x : Int × List UInt8) : (wrC k x).length = 2 := (rfl)
theorem opC_length (k : Bool) (x : Bool × Int × List UInt8) : (opC k x).length = 3 := (rfl)
theorem suC_length (k : Bool) (x : Sub) : (suC k x).length = 3 := by rw [suC_eq]; rfl
theorem all_len {α : Type} {f : α → List CV} {n : Nat} (h : ∀ x, (f x).length = n) (xs : List α) : (∀ c ∈ xs.map f, c.length = n) = True := by
  simp only [eq_iff_iff, iff_true]
  intro c hc
  obtain ⟨x, _, rfl⟩ := List.mem_map.1 hc
  exact h x
theorem al_eB (l : List UInt8) : (∀ c ∈ eB l, c.length = 1) = True := all_len (f := fun b : UInt8 => [CV.v (.int .u8 b.toNat)]) (fun _ => rfl) l
theorem al_z (n : Nat) (v : Value) : (∀ c ∈ List.replicate n [CV.v v], c.length = 1) = True := eq_true (fun c hc => by rw [List.eq_of_mem_replicate hc]; rfl)
theorem eB_fold (l : List UInt8) : (l.map fun b : UInt8 => [CV.v (.int .u8 b.toNat)]) = eB l := (rfl)
theorem al_st (xs : List ByteArray) : (∀ c ∈ xs.map stC, c.length = 1) = True := all_len stC_length xs
theorem al_in (xs : List Int) : (∀ c ∈ xs.map inC, c.length = 1) = True := all_len inC_length xs
theorem al_pr (xs : List Pr) : (∀ c ∈ xs.map prC, c.length = 2) = True := all_len prC_length xs
theorem al_nd (k : Bool) (xs : List Nd) : (∀ c ∈ xs.map (ndC k), c.length = 3) = True := all_len (ndC_length k) xs
theorem al_sh (k : Bool) (xs : List (List UInt8)) : (∀ c ∈ xs.map (shC k), c.length = 1) = True := all_len (shC_length k) xs
theorem al_wr (k : Bool) (xs : List (Int × List UInt8)) : (∀ c ∈ xs.map (wrC k), c.length = 2) = True := all_len (wrC_length k) xs
theorem al_op (k : Bool) (xs : List (Bool × Int × List UInt8)) : (∀ c ∈ xs.map (opC k), c.length = 3) = True := all_len (opC_length k) xs
theorem al_su (k : Bool) (xs : List Sub) : (∀ c ∈ xs.map (suC k), c.length = 3) = True := all_len (suC_length k) xs
theorem allV_of {α : Type} {f : α → List CV} (h : ∀ x, (f x).all CV.isV = true) (xs : List α) : allV (xs.map f) = true := by
  rw [allV, List.all_eq_true]
  intro c hc
  obtain ⟨x, _, rfl⟩ := List.mem_map.1 hc
  exact h x
theorem allV_eB (l : List UInt8) : allV (eB l) = true := allV_of (f := fun b : UInt8 => [CV.v (.int .u8 b.toNat)]) (fun _ => rfl) l
theorem allV_st (xs : List ByteArray) : allV (xs.map stC) = true := allV_of (fun _ => rfl) xs
theorem allV_in (xs : List Int) : allV (xs.map inC) = true := allV_of (fun _ => rfl) xs
theorem allV_pr (xs : List Pr) : allV (xs.map prC) = true := allV_of (fun _ => rfl) xs
theorem allV_nil : allV [] = true := (rfl)
theorem allV_cons (e : List CV) (r : List (List CV)) : allV (e :: r) = (e.all CV.isV && allV r) := (rfl)
theorem isV_v (x : Value) : CV.isV (.v x) = true := (rfl)
theorem isV_row (k : Bool) (es : List (List CV)) : CV.isV (.row k es) = false := (rfl)
theorem isV_ptr (cs : List CV) (j : Nat) : CV.isV (.ptr cs j) = false := (rfl)
theorem im_eB (l : List UInt8) : (eB l).map (fun x => x.map CV.im) = eB l := by rw [eB, List.map_map]; rfl
theorem im_st (xs : List ByteArray) : (xs.map stC).map (fun x => x.map CV.im) = xs.map stC := by rw [List.map_map]; rfl
theorem im_in (xs : List Int) : (xs.map inC).map (fun x => x.map CV.im) = xs.map inC := by rw [List.map_map]; rfl
theorem im_pr (xs : List Pr) : (xs.map prC).map (fun x => x.map CV.im) = xs.map prC := by rw [List.map_map]; rfl
theorem im_nd (k : Bool) (xs : List Nd) : (xs.map (ndC k)).map (fun x => x.map CV.im) = xs.map (ndC false) := by rw [List.map_map]; rfl
theorem im_sh (k : Bool) (xs : List (List UInt8)) : (xs.map (shC k)).map (fun x => x.map CV.im) = xs.map (shC false) := by rw [List.map_map]; rfl
theorem im_wr (k : Bool) (xs : List (Int × List UInt8)) : (xs.map (wrC k)).map (fun x => x.map CV.im) = xs.map (wrC false) := by rw [List.map_map]; rfl

/-- Cells that are the same but for the marks of ownership. -/
def SimC (l m : List CV) : Prop := l.length = m.length ∧ ∀ (j : Nat) c c', l[j]? = some c → m[j]? = some c' → Sim c c'
theorem SimC.nil : SimC [] [] := ⟨rfl, fun j c c' h => by simp at h⟩
theorem SimC.cons {a b : CV} {l m : List CV} (h : Sim a b) (hl : SimC l m) : SimC (a :: l) (b :: m) := by
  refine ⟨by simp [hl.1], fun j c c' hc hc' => ?_⟩
  cases j with
  | zero => simp at hc hc'; subst hc hc'; exact h
  | succ j => exact hl.2 j c c' (by simpa using hc) (by simpa using hc')
theorem SimC.v {a : Value} {l m : List CV} (hl : SimC l m) : SimC (.v a :: l) (.v a :: m) := .cons (.v a) hl
theorem Sim.rows {α : Type} {f g : α → List CV} {xs : List α} {k k' : Bool} (h : ∀ x ∈ xs, SimC (f x) (g x)) : Sim (.row k (xs.map f)) (.row k' (xs.map g)) := by
  refine .row k k' _ _ (by simp) (fun i e e' he he' => ?_) (fun i j e e' c c' he he' hc hc' => ?_)
  · rw [List.getElem?_map, Option.map_eq_some_iff] at he he'
    obtain ⟨x, hx, rfl⟩ := he
    obtain ⟨y, hy, rfl⟩ := he'
    rw [hx] at hy; cases hy
    exact (h x (List.mem_of_getElem? hx)).1
  · rw [List.getElem?_map, Option.map_eq_some_iff] at he he'
    obtain ⟨x, hx, rfl⟩ := he
    obtain ⟨y, hy, rfl⟩ := he'
    rw [hx] at hy; cases hy
    exact (h x (List.mem_of_getElem? hx)).2 j c c' hc hc'
theorem bytesOf_eB : ∀ l : List UInt8, bytesOf (eB l) = some l
  | [] => rfl
  | b :: r => by
    show (bytesOf (eB r)).map (UInt8.ofNat (Int.toNat b.toNat) :: ·) = _
    rw [bytesOf_eB r]
    simp
theorem eB_takeAll (l : List UInt8) : (eB l).take l.length = eB l := List.take_of_length_le (by rw [eB_length]; omega)
theorem eB_nil : eB [] = [] := (rfl)
theorem sim_nil (k k' : Bool) : Sim (.row k []) (.row k' []) := .row _ _ _ _ rfl (fun i e e' h => by simp at h) (fun i j e e' c c' h => by simp at h)
theorem sim_eB (l : List UInt8) (k k' : Bool) : Sim (.row k (eB l)) (.row k' (eB l)) := Sim.rows (fun x _ => SimC.v SimC.nil)
theorem sim_st (l : List ByteArray) (k k' : Bool) : Sim (.row k (l.map stC)) (.row k' (l.map stC)) := Sim.rows (fun x _ => SimC.v SimC.nil)
theorem sim_in (l : List Int) (k k' : Bool) : Sim (.row k (l.map inC)) (.row k' (l.map inC)) := Sim.rows (fun x _ => SimC.v SimC.nil)
theorem sim_pr (l : List Pr) (k k' : Bool) : Sim (.row k (l.map prC)) (.row k' (l.map prC)) := Sim.rows (fun x _ => SimC.v (SimC.v SimC.nil))
theorem sim_ndC (x : Nd) (k k' : Bool) : SimC (ndC k x) (ndC k' x) := .cons (sim_pr _ _ _) (.cons (sim_st _ _ _) (.cons (sim_in _ _ _) .nil))
theorem sim_shC (b : List UInt8) (k k' : Bool) : SimC (shC k b) (shC k' b) := .cons (sim_eB _ _ _) .nil
theorem sim_wrC (x : Int × List UInt8) (k k' : Bool) : SimC (wrC k x) (wrC k' x) := .v (.cons (sim_eB _ _ _) .nil)
theorem sim_opC (x : Bool × Int × List UInt8) (k k' : Bool) : SimC (opC k x) (opC k' x) := .v (.v (.cons (sim_eB _ _ _) .nil))
theorem sim_nd (l : List Nd) (j k k' m : Bool) : Sim (.row j (l.map (ndC k))) (.row m (l.map (ndC k'))) := Sim.rows (fun x _ => sim_ndC x k k')
theorem sim_sh (l : List (List UInt8)) (j k k' m : Bool) : Sim (.row j (l.map (shC k))) (.row m (l.map (shC k'))) := Sim.rows (fun x _ => sim_shC x k k')
theorem sim_wr (l : List (Int × List UInt8)) (j k k' m : Bool) : Sim (.row j (l.map (wrC k))) (.row m (l.map (wrC k'))) := Sim.rows (fun x _ => sim_wrC x k k')
theorem sim_op (l : List (Bool × Int × List UInt8)) (j k k' m : Bool) : Sim (.row j (l.map (opC k))) (.row m (l.map (opC k'))) := Sim.rows (fun x _ => sim_opC x k k')
mutual
theorem sim_suC (k k' : Bool) : (x : Sub) → SimC (suC k x) (suC k' x)
  | .mk l ps ks => by
    rw [suC, suC]
    exact .v (.cons (sim_pr _ _ _) (.cons (sim_suL k k' ks k k') .nil))
theorem sim_suL (k k' : Bool) : (l : List Sub) → ∀ j m : Bool, Sim (.row j (suL k l)) (.row m (suL k' l))
  | [], j, m => .row _ _ _ _ rfl (fun i e e' h => by simp [suL] at h) (fun i j e e' c c' h => by simp [suL] at h)
  | x :: r, j, m => by
    have h1 := sim_suC k k' x
    have h2 := sim_suL k k' r j m
    rw [suL, suL]
    cases h2 with
    | row _ _ _ _ a b c =>
      refine .row _ _ _ _ (by simp [a]) (fun i e e' he he' => ?_) (fun i j e e' c1 c2 he he' hc hc' => ?_)
      · cases i with
        | zero => simp at he he'; subst he he'; exact h1.1
        | succ i => exact b i e e' (by simpa using he) (by simpa using he')
      · cases i with
        | zero => simp at he he'; subst he he'; exact h1.2 j _ _ hc hc'
        | succ i => exact c i j e e' c1 c2 (by simpa using he) (by simpa using he') hc hc'
end
theorem sim_su (l : List Sub) (j k k' m : Bool) : Sim (.row j (l.map (suC k))) (.row m (l.map (suC k'))) := by
  have := sim_suL k k' l j m
  rwa [suL_map, suL_map] at this
theorem own_of {α : Type} {f : α → List CV} (h : ∀ x, ∀ c ∈ f x, Own c) (xs : List α) : ∀ e ∈ xs.map f, ∀ c ∈ e, Own c := by
  intro e he
  obtain ⟨x, _, rfl⟩ := List.mem_map.1 he
  exact h x
theorem own_eB (l : List UInt8) : ∀ e ∈ eB l, ∀ c ∈ e, Own c := own_of (fun x c hc => by simp at hc; subst hc; exact .v _) l
theorem own_st (l : List ByteArray) : ∀ e ∈ l.map stC, ∀ c ∈ e, Own c := own_of (fun x c hc => by simp [stC] at hc; subst hc; exact .v _) l
theorem own_in (l : List Int) : ∀ e ∈ l.map inC, ∀ c ∈ e, Own c := own_of (fun x c hc => by simp [inC] at hc; subst hc; exact .v _) l
theorem own_pr (l : List Pr) : ∀ e ∈ l.map prC, ∀ c ∈ e, Own c := own_of (fun x c hc => by simp [prC] at hc; rcases hc with rfl | rfl <;> exact .v _) l
theorem own_nd (l : List Nd) : ∀ e ∈ l.map (ndC true), ∀ c ∈ e, Own c := own_of (fun x c hc => by simp [ndC] at hc; rcases hc with rfl | rfl | rfl; exact .row _ (own_pr _); exact .row _ (own_st _); exact .row _ (own_in _)) l
theorem own_sh (l : List (List UInt8)) : ∀ e ∈ l.map (shC true), ∀ c ∈ e, Own c := own_of (fun x c hc => by simp [shC] at hc; subst hc; exact .row _ (own_eB _)) l
theorem own_wr (l : List (Int × List UInt8)) : ∀ e ∈ l.map (wrC true), ∀ c ∈ e, Own c := own_of (fun x c hc => by simp [wrC] at hc; rcases hc with rfl | rfl; exact .v _; exact .row _ (own_eB _)) l
theorem own_op (l : List (Bool × Int × List UInt8)) : ∀ e ∈ l.map (opC true), ∀ c ∈ e, Own c := own_of (fun x c hc => by simp [opC] at hc; rcases hc with rfl | rfl | rfl; exact .v _; exact .v _; exact .row _ (own_eB _)) l
theorem eB_one (l : List UInt8) : ∀ e ∈ eB l, e.length = 1 := by simpa using al_eB l
theorem st_one (l : List ByteArray) : ∀ e ∈ l.map stC, e.length = 1 := by simpa using al_st l
theorem in_one (l : List Int) : ∀ e ∈ l.map inC, e.length = 1 := by simpa using al_in l
theorem pr_two (l : List Pr) : ∀ e ∈ l.map prC, e.length = 2 := by simpa using al_pr l
end Go.Proofs.YtnnmpdanfeejbaaGreat.Abs

/- What the machine asks of each type of the program. -/
namespace Go.Proofs.YtnnmpdanfeejbaaGreat.Abs
open Go Go.Proofs
theorem mixed : Tryz.prog.follows .mixedOrders = true := by kernel_rfl
theorem ti2 : tiOf Tryz.prog 2 = some ⟨1, false, [], none, [Value.int IntKind.i64 0], some IntKind.i64, false, false, false, false⟩ := by kernel_rfl
theorem ti3 : tiOf Tryz.prog 3 = some ⟨1, false, [], none, [Value.int IntKind.i64 0], some IntKind.i64, false, false, false, false⟩ := by kernel_rfl
theorem ti4 : tiOf Tryz.prog 4 = some ⟨1, false, [], none, [Value.bool false], none, false, false, true, false⟩ := by kernel_rfl
theorem ti5 : tiOf Tryz.prog 5 = some ⟨1, false, [], none, [Value.int IntKind.u8 0], some IntKind.u8, false, false, false, false⟩ := by kernel_rfl
theorem ti6 : tiOf Tryz.prog 6 = some ⟨1, false, [], none, [Value.int IntKind.u8 0], some IntKind.u8, false, false, false, false⟩ := by kernel_rfl
theorem ti7 : tiOf Tryz.prog 7 = some ⟨4, true, [(0, 1), (1, 1), (2, 1), (3, 1)], none, [Value.int IntKind.i64 0, Value.int IntKind.i64 0, Value.bool false, Value.int IntKind.u8 0], none, false, false, false, false⟩ := by kernel_rfl
theorem ti8 : tiOf Tryz.prog 8 = some ⟨4, true, [(0, 1), (1, 1), (2, 1), (3, 1)], none, [Value.int IntKind.i64 0, Value.int IntKind.i64 0, Value.bool false, Value.int IntKind.u8 0], none, false, false, false, false⟩ := by kernel_rfl
theorem ti9 : tiOf Tryz.prog 9 = some ⟨1, false, [], none, [Value.string ⟨#[]⟩], none, true, false, false, false⟩ := by kernel_rfl
theorem ti10 : tiOf Tryz.prog 10 = some ⟨1, false, [], none, [Value.string ⟨#[]⟩], none, true, false, false, false⟩ := by kernel_rfl
theorem ti11 : tiOf Tryz.prog 11 = some ⟨1, false, [], none, [Value.string ⟨#[]⟩], none, true, false, false, false⟩ := by kernel_rfl
theorem ti12 : tiOf Tryz.prog 12 = some ⟨1, false, [], none, [Value.int IntKind.u64 0], some IntKind.u64, false, false, false, false⟩ := by kernel_rfl
theorem ti13 : tiOf Tryz.prog 13 = some ⟨2, true, [(0, 1), (1, 1)], none, [Value.string ⟨#[]⟩, Value.int IntKind.u64 0], none, false, false, false, false⟩ := by kernel_rfl
theorem ti14 : tiOf Tryz.prog 14 = some ⟨2, true, [(0, 1), (1, 1)], none, [Value.string ⟨#[]⟩, Value.int IntKind.u64 0], none, false, false, false, false⟩ := by kernel_rfl
theorem ti15 : tiOf Tryz.prog 15 = some ⟨1, false, [], none, [Value.pointer none], none, false, true, false, false⟩ := by kernel_rfl
theorem ti16 : tiOf Tryz.prog 16 = some ⟨1, false, [], none, [Value.pointer none], none, false, true, false, false⟩ := by kernel_rfl
theorem ti17 : tiOf Tryz.prog 17 = some ⟨1, false, [], none, [Value.pointer none], none, false, true, false, false⟩ := by kernel_rfl
theorem ti18 : tiOf Tryz.prog 18 = some ⟨1, true, [(0, 1)], none, [Value.pointer none], none, false, false, false, false⟩ := by kernel_rfl
theorem ti19 : tiOf Tryz.prog 19 = some ⟨1, true, [(0, 1)], none, [Value.pointer none], none, false, false, false, false⟩ := by kernel_rfl
theorem ti21 : tiOf Tryz.prog 21 = some ⟨1, false, [], none, [Value.int IntKind.i32 0], some IntKind.i32, false, false, false, false⟩ := by kernel_rfl
theorem ti22 : tiOf Tryz.prog 22 = some ⟨1, false, [], some (132, 1, 24), [Value.slice none 0 0], none, false, false, false, false⟩ := by kernel_rfl
theorem ti23 : tiOf Tryz.prog 23 = some ⟨1, false, [], some (134, 2, 32), [Value.slice none 0 0], none, false, false, false, false⟩ := by kernel_rfl
theorem ti24 : tiOf Tryz.prog 24 = some ⟨2, true, [(0, 1), (1, 1)], none, [Value.slice none 0 0, Value.slice none 0 0], none, false, false, false, false⟩ := by kernel_rfl
theorem ti25 : tiOf Tryz.prog 25 = some ⟨2, true, [(0, 1), (1, 1)], none, [Value.slice none 0 0, Value.slice none 0 0], none, false, false, false, false⟩ := by kernel_rfl
theorem ti27 : tiOf Tryz.prog 27 = some ⟨1, false, [], some (135, 1, 24), [Value.slice none 0 0], none, false, false, false, false⟩ := by kernel_rfl
theorem ti28 : tiOf Tryz.prog 28 = some ⟨1, false, [], some (113, 2, 32), [Value.slice none 0 0], none, false, false, false, false⟩ := by kernel_rfl
theorem ti29 : tiOf Tryz.prog 29 = some ⟨2, true, [(0, 1), (1, 1)], none, [Value.slice none 0 0, Value.slice none 0 0], none, false, false, false, false⟩ := by kernel_rfl
theorem ti30 : tiOf Tryz.prog 30 = some ⟨2, true, [(0, 1), (1, 1)], none, [Value.slice none 0 0, Value.slice none 0 0], none, false, false, false, false⟩ := by kernel_rfl
theorem ti31 : tiOf Tryz.prog 31 = some ⟨1, false, [], some (111, 3, 72), [Value.slice none 0 0], none, false, false, false, false⟩ := by kernel_rfl
theorem ti32 : tiOf Tryz.prog 32 = some ⟨1, true, [(0, 1)], none, [Value.slice none 0 0], none, false, false, false, false⟩ := by kernel_rfl
theorem ti33 : tiOf Tryz.prog 33 = some ⟨1, true, [(0, 1)], none, [Value.slice none 0 0], none, false, false, false, false⟩ := by kernel_rfl
theorem ti34 : tiOf Tryz.prog 34 = some ⟨1, false, [], some (3, 1, 8), [Value.slice none 0 0], none, false, false, false, false⟩ := by kernel_rfl
theorem ti35 : tiOf Tryz.prog 35 = some ⟨5, true, [(0, 2), (2, 1), (3, 1), (4, 1)], none, [Value.slice none 0 0, Value.slice none 0 0, Value.int IntKind.i64 0, Value.slice none 0 0, Value.slice none 0 0], none, false, false, false, false⟩ := by kernel_rfl
theorem ti36 : tiOf Tryz.prog 36 = some ⟨5, true, [(0, 2), (2, 1), (3, 1), (4, 1)], none, [Value.slice none 0 0, Value.slice none 0 0, Value.int IntKind.i64 0, Value.slice none 0 0, Value.slice none 0 0], none, false, false, false, false⟩ := by kernel_rfl
theorem ti45 : tiOf Tryz.prog 45 = some ⟨1, false, [], some (173, 3, 72), [Value.slice none 0 0], none, false, false, false, false⟩ := by kernel_rfl
theorem ti46 : tiOf Tryz.prog 46 = some ⟨1, true, [(0, 1)], none, [Value.slice none 0 0], none, false, false, false, false⟩ := by kernel_rfl
theorem ti47 : tiOf Tryz.prog 47 = some ⟨1, true, [(0, 1)], none, [Value.slice none 0 0], none, false, false, false, false⟩ := by kernel_rfl
theorem ti48 : tiOf Tryz.prog 48 = some ⟨5, true, [(0, 2), (2, 1), (3, 1), (4, 1)], none, [Value.slice none 0 0, Value.slice none 0 0, Value.int IntKind.i64 0, Value.slice none 0 0, Value.slice none 0 0], none, false, false, false, false⟩ := by kernel_rfl
theorem ti49 : tiOf Tryz.prog 49 = some ⟨5, true, [(0, 2), (2, 1), (3, 1), (4, 1)], none, [Value.slice none 0 0, Value.slice none 0 0, Value.int IntKind.i64 0, Value.slice none 0 0, Value.slice none 0 0], none, false, false, false, false⟩ := by kernel_rfl
theorem ti58 : tiOf Tryz.prog 58 = some ⟨1, false, [], some (115, 3, 40), [Value.slice none 0 0], none, false, false, false, false⟩ := by kernel_rfl
theorem ti69 : tiOf Tryz.prog 69 = some ⟨1, false, [], some (5, 1, 1), [Value.slice none 0 0], none, false, false, false, true⟩ := by kernel_rfl
theorem ti77 : tiOf Tryz.prog 77 = some ⟨2, true, [(0, 1), (1, 1)], none, [Value.int IntKind.i64 0, Value.int IntKind.i64 0], none, false, false, false, false⟩ := by kernel_rfl
theorem ti78 : tiOf Tryz.prog 78 = some ⟨2, true, [(0, 1), (1, 1)], none, [Value.int IntKind.i64 0, Value.int IntKind.i64 0], none, false, false, false, false⟩ := by kernel_rfl
theorem ti87 : tiOf Tryz.prog 87 = some ⟨1, false, [], none, [Value.pointer none], none, false, true, false, false⟩ := by kernel_rfl
theorem ti88 : tiOf Tryz.prog 88 = some ⟨1, false, [], none, [Value.pointer none], none, false, true, false, false⟩ := by kernel_rfl
theorem ti89 : tiOf Tryz.prog 89 = some ⟨4, true, [(0, 1), (1, 1), (2, 1), (3, 1)], none, [Value.pointer none, Value.slice none 0 0, Value.slice none 0 0, Value.bool false], none, false, false, false, false⟩ := by kernel_rfl
theorem ti90 : tiOf Tryz.prog 90 = some ⟨4, true, [(0, 1), (1, 1), (2, 1), (3, 1)], none, [Value.pointer none, Value.slice none 0 0, Value.slice none 0 0, Value.bool false], none, false, false, false, false⟩ := by kernel_rfl
theorem ti105 : tiOf Tryz.prog 105 = some ⟨1, false, [], some (9, 1, 16), [Value.slice none 0 0], none, false, false, false, false⟩ := by kernel_rfl
theorem ti106 : tiOf Tryz.prog 106 = some ⟨3, true, [(0, 1), (1, 1), (2, 1)], none, [Value.slice none 0 0, Value.slice none 0 0, Value.slice none 0 0], none, false, false, false, false⟩ := by kernel_rfl
theorem ti107 : tiOf Tryz.prog 107 = some ⟨3, true, [(0, 1), (1, 1), (2, 1)], none, [Value.slice none 0 0, Value.slice none 0 0, Value.slice none 0 0], none, false, false, false, false⟩ := by kernel_rfl
theorem ti109 : tiOf Tryz.prog 109 = some ⟨1, false, [], some (141, 2, 32), [Value.slice none 0 0], none, false, false, false, false⟩ := by kernel_rfl
theorem ti110 : tiOf Tryz.prog 110 = some ⟨3, true, [(0, 1), (1, 1), (2, 1)], none, [Value.slice none 0 0, Value.slice none 0 0, Value.slice none 0 0], none, false, false, false, false⟩ := by kernel_rfl
theorem ti111 : tiOf Tryz.prog 111 = some ⟨3, true, [(0, 1), (1, 1), (2, 1)], none, [Value.slice none 0 0, Value.slice none 0 0, Value.slice none 0 0], none, false, false, false, false⟩ := by kernel_rfl
theorem ti112 : tiOf Tryz.prog 112 = some ⟨2, true, [(0, 1), (1, 1)], none, [Value.int IntKind.i64 0, Value.slice none 0 0], none, false, false, false, false⟩ := by kernel_rfl
theorem ti113 : tiOf Tryz.prog 113 = some ⟨2, true, [(0, 1), (1, 1)], none, [Value.int IntKind.i64 0, Value.slice none 0 0], none, false, false, false, false⟩ := by kernel_rfl
theorem ti114 : tiOf Tryz.prog 114 = some ⟨3, true, [(0, 1), (1, 2)], none, [Value.bool false, Value.int IntKind.i64 0, Value.slice none 0 0], none, false, false, false, false⟩ := by kernel_rfl
theorem ti115 : tiOf Tryz.prog 115 = some ⟨3, true, [(0, 1), (1, 2)], none, [Value.bool false, Value.int IntKind.i64 0, Value.slice none 0 0], none, false, false, false, false⟩ := by kernel_rfl
theorem ti121 : tiOf Tryz.prog 121 = some ⟨1, false, [], none, [Value.pointer none], none, false, true, false, false⟩ := by kernel_rfl
theorem ti126 : tiOf Tryz.prog 126 = some ⟨1, false, [], some (189, 3, 40), [Value.slice none 0 0], none, false, false, false, false⟩ := by kernel_rfl
theorem ti131 : tiOf Tryz.prog 131 = some ⟨1, true, [(0, 1)], none, [Value.slice none 0 0], none, false, false, false, false⟩ := by kernel_rfl
theorem ti132 : tiOf Tryz.prog 132 = some ⟨1, true, [(0, 1)], none, [Value.slice none 0 0], none, false, false, false, false⟩ := by kernel_rfl
theorem ti134 : tiOf Tryz.prog 134 = some ⟨2, true, [(0, 1), (1, 1)], none, [Value.int IntKind.i64 0, Value.slice none 0 0], none, false, false, false, false⟩ := by kernel_rfl
theorem ti135 : tiOf Tryz.prog 135 = some ⟨1, true, [(0, 1)], none, [Value.slice none 0 0], none, false, false, false, false⟩ := by kernel_rfl
theorem ti140 : tiOf Tryz.prog 140 = some ⟨2, true, [(0, 1), (1, 1)], none, [Value.string ⟨#[]⟩, Value.string ⟨#[]⟩], none, false, false, false, false⟩ := by kernel_rfl
theorem ti141 : tiOf Tryz.prog 141 = some ⟨2, true, [(0, 1), (1, 1)], none, [Value.string ⟨#[]⟩, Value.string ⟨#[]⟩], none, false, false, false, false⟩ := by kernel_rfl
theorem ti142 : tiOf Tryz.prog 142 = some ⟨1, false, [], some (144, 3, 56), [Value.slice none 0 0], none, false, false, false, false⟩ := by kernel_rfl
theorem ti143 : tiOf Tryz.prog 143 = some ⟨3, true, [(0, 1), (1, 1), (2, 1)], none, [Value.bool false, Value.slice none 0 0, Value.slice none 0 0], none, false, false, false, false⟩ := by kernel_rfl
theorem ti144 : tiOf Tryz.prog 144 = some ⟨3, true, [(0, 1), (1, 1), (2, 1)], none, [Value.bool false, Value.slice none 0 0, Value.slice none 0 0], none, false, false, false, false⟩ := by kernel_rfl
theorem ti157 : tiOf Tryz.prog 157 = some ⟨1, false, [], none, [Value.pointer none], none, false, true, false, false⟩ := by kernel_rfl
theorem ti171 : tiOf Tryz.prog 171 = some ⟨1, false, [], some (237, 2, 32), [Value.slice none 0 0], none, false, false, false, false⟩ := by kernel_rfl
theorem ti172 : tiOf Tryz.prog 172 = some ⟨3, true, [(0, 1), (1, 1), (2, 1)], none, [Value.slice none 0 0, Value.slice none 0 0, Value.slice none 0 0], none, false, false, false, false⟩ := by kernel_rfl
theorem ti173 : tiOf Tryz.prog 173 = some ⟨3, true, [(0, 1), (1, 1), (2, 1)], none, [Value.slice none 0 0, Value.slice none 0 0, Value.slice none 0 0], none, false, false, false, false⟩ := by kernel_rfl
theorem ti177 : tiOf Tryz.prog 177 = some ⟨1, false, [], some (4, 1, 1), [Value.slice none 0 0], none, false, false, false, false⟩ := by kernel_rfl
theorem ti182 : tiOf Tryz.prog 182 = some ⟨3, true, [(0, 1), (1, 1), (2, 1)], none, [Value.slice none 0 0, Value.int IntKind.i64 0, Value.int IntKind.i64 0], none, false, false, false, false⟩ := by kernel_rfl
theorem ti183 : tiOf Tryz.prog 183 = some ⟨3, true, [(0, 1), (1, 1), (2, 1)], none, [Value.slice none 0 0, Value.int IntKind.i64 0, Value.int IntKind.i64 0], none, false, false, false, false⟩ := by kernel_rfl
theorem ti188 : tiOf Tryz.prog 188 = some ⟨3, true, [(0, 1), (1, 1), (2, 1)], none, [Value.string ⟨#[]⟩, Value.string ⟨#[]⟩, Value.bool false], none, false, false, false, false⟩ := by kernel_rfl
theorem ti189 : tiOf Tryz.prog 189 = some ⟨3, true, [(0, 1), (1, 1), (2, 1)], none, [Value.string ⟨#[]⟩, Value.string ⟨#[]⟩, Value.bool false], none, false, false, false, false⟩ := by kernel_rfl
theorem ti205 : tiOf Tryz.prog 205 = some ⟨1, false, [], none, [Value.int IntKind.u64 0], some IntKind.u64, false, false, false, false⟩ := by kernel_rfl
theorem ti206 : tiOf Tryz.prog 206 = some ⟨1, false, [], none, [Value.pointer none], none, false, true, false, false⟩ := by kernel_rfl
theorem ti207 : tiOf Tryz.prog 207 = some ⟨3, true, [(0, 1), (1, 1), (2, 1)], none, [Value.slice none 0 0, Value.int IntKind.i64 0, Value.bool false], none, false, false, false, false⟩ := by kernel_rfl
theorem ti208 : tiOf Tryz.prog 208 = some ⟨3, true, [(0, 1), (1, 1), (2, 1)], none, [Value.slice none 0 0, Value.int IntKind.i64 0, Value.bool false], none, false, false, false, false⟩ := by kernel_rfl
theorem ti212 : tiOf Tryz.prog 212 = some ⟨1, false, [], none, [Value.pointer none], none, false, true, false, false⟩ := by kernel_rfl
theorem ti217 : tiOf Tryz.prog 217 = some ⟨1, false, [], none, [Value.pointer none], none, false, true, false, false⟩ := by kernel_rfl
theorem ti221 : tiOf Tryz.prog 221 = some ⟨1, false, [], none, [Value.map none], none, false, false, false, false⟩ := by kernel_rfl
theorem ti233 : tiOf Tryz.prog 233 = some ⟨1, false, [], some (157, 1, 8), [Value.slice none 0 0], none, false, false, false, false⟩ := by kernel_rfl
theorem ti234 : tiOf Tryz.prog 234 = some ⟨2, true, [(0, 1), (1, 1)], none, [Value.slice none 0 0, Value.slice none 0 0], none, false, false, false, false⟩ := by kernel_rfl
theorem ti235 : tiOf Tryz.prog 235 = some ⟨2, true, [(0, 1), (1, 1)], none, [Value.slice none 0 0, Value.slice none 0 0], none, false, false, false, false⟩ := by kernel_rfl
theorem ti237 : tiOf Tryz.prog 237 = some ⟨2, true, [(0, 1), (1, 1)], none, [Value.string ⟨#[]⟩, Value.string ⟨#[]⟩], none, false, false, false, false⟩ := by kernel_rfl
theorem ti251 : tiOf Tryz.prog 251 = some ⟨4, true, [(0, 1), (1, 1), (2, 1), (3, 1)], none, [Value.pointer none, Value.pointer none, Value.pointer none, Value.string ⟨#[]⟩], none, false, false, false, false⟩ := by kernel_rfl
theorem ti252 : tiOf Tryz.prog 252 = some ⟨4, true, [(0, 1), (1, 1), (2, 1), (3, 1)], none, [Value.pointer none, Value.pointer none, Value.pointer none, Value.string ⟨#[]⟩], none, false, false, false, false⟩ := by kernel_rfl
theorem ti253 : tiOf Tryz.prog 253 = some ⟨0, true, [], none, [], none, false, false, false, false⟩ := by kernel_rfl
theorem ti254 : tiOf Tryz.prog 254 = some ⟨0, true, [(0, 0)], none, [], none, false, false, false, false⟩ := by kernel_rfl
theorem ti255 : tiOf Tryz.prog 255 = some ⟨0, true, [(0, 0)], none, [], none, false, false, false, false⟩ := by kernel_rfl
theorem ti256 : tiOf Tryz.prog 256 = some ⟨1, false, [], none, [Value.int IntKind.u32 0], some IntKind.u32, false, false, false, false⟩ := by kernel_rfl
theorem ti257 : tiOf Tryz.prog 257 = some ⟨1, false, [], none, [Value.int IntKind.u8 0], some IntKind.u8, false, false, false, false⟩ := by kernel_rfl
theorem ti258 : tiOf Tryz.prog 258 = some ⟨1, false, [], none, [Value.int IntKind.u8 0], some IntKind.u8, false, false, false, false⟩ := by kernel_rfl
theorem ti260 : tiOf Tryz.prog 260 = some ⟨1, false, [], none, [Value.pointer none], none, false, true, false, false⟩ := by kernel_rfl
theorem ti261 : tiOf Tryz.prog 261 = some ⟨1, false, [], none, [Value.int IntKind.i32 0], some IntKind.i32, false, false, false, false⟩ := by kernel_rfl
theorem ti262 : tiOf Tryz.prog 262 = some ⟨1, false, [], none, [Value.int IntKind.i32 0], some IntKind.i32, false, false, false, false⟩ := by kernel_rfl
theorem flPair : flatB Tryz.prog 141 [0, 0] = true := by kernel_rfl
abbrev In (i : Int) : AV := .c (.v (.int .i64 i))
abbrev Bo (b : Bool) : AV := .c (.v (.bool b))
abbrev Rw (es : List (List CV)) : AV := .c (.row false es)
set_option maxRecDepth 10000
theorem vc {P Q : Prop} (h : Q) (e : P = Q := by
  (simp (config := {maxSteps := 1000000, implicitDefEqProofs := false}) only [↓brB_true, ↓brB_false, upd_at, ↓reduceIte, Cfg.joins, firstReg, ne_eq, not_true_eq_false, not_false_eq_true, or_false, false_or, or_self, false_and, and_false, Int.toNat_natCast, Int.mul_one, Int.natCast_one, List.length_replicate, eB_length, Nat.reduceBneDiff, List.length_map, List.nodup_nil, List.nodup_cons, List.not_mem_nil, decide_true, decide_false, CV.im, Int.natCast_nonneg, Int.ofNat_lt, Int.ofNat_le, nat0, sim_v, Value.int.injEq, Value.bool.injEq, Value.string.injEq, outP, wkP, phO, numbered_nil, numbered_cons, drawR_nil, drawR_cons, drwK_app, stDK_app, gstepD_none, gstepD_some, grDQ_some, grDK_true, grDK_false, stepD_pick, stepD_alloc, stepD_box, stepD_load, stepD_store, stepD_fieldAddr, stepD_indexAddr, stepD_nilCheck, stepD_binOp, stepD_unOp, stepD_convert, stepD_index, stepD_slice, stepD_makeSlice, stepD_build, stepD_buildSlice, stepD_extract, stepD_builtin, stepD_moveF, stepD_moveT, stepD_assign, stepD_call, stepX_eq, res_at, Ck_eq, chkB_nil, chkB_cons, disj_nil, disj_cons, Array.toList_append, Bool.or_false, Bool.false_or, Bool.or_self, disj_nil_r, okPair, detFp, skipFp, refsL, refsA, nbA, nbL, nbO, Op.operands, Call.operands, Bool.or_true, Bool.true_or, Bool.false_and, Bool.and_false, kl_nil, klH_nil, kl_cons, klH_cons, after_eq, HpS_at, Nat.reduceSub, after0_eq, inlS_eq, killA, killL, killO, renA, renL, renO, rn, callObjs, viL, viA, viH, viO, List.getElem?_nil, Option.getD_some, Option.getD_none, boolK_c, guardK_c, guardK_tu, skpK_app, skDK_app, optK_some, optK_none, List.contains_nil, List.contains_cons, List.lookup_nil, List.lookup_cons, dstOf, bindK_some, bindK_none, evOp, getA, putT, updL, initT, sS, tS, hS, In, Bo, Rw, constA, zeroC, Value.oneCell', binV, binI, unV, evLen, isStrA, nilA, evLoad, evStore, evField, evIndexAddr, evConv, evSlice, boundA, loA, hiA, stC_length, inC_length, prC_length, ndC_length, shC_length, wrC_length, opC_length, suC_length, al_eB, al_z, eB_fold, al_st, al_in, al_pr, al_nd, al_sh, al_wr, al_op, al_su, allV_eB, allV_st, allV_in, allV_pr, allV_nil, allV_cons, isV_v, isV_row, isV_ptr, im_eB, im_st, im_in, im_pr, im_nd, im_sh, im_wr, eB_nil, sim_nil, sim_eB, sim_st, sim_in, sim_pr, sim_nd, sim_sh, sim_wr, sim_op, sim_su, Int.reduceEq, Int.reduceNe, Int.reduceLT, Int.reduceLE, Int.reduceGT, Int.reduceGE, Int.reduceNeg, Int.reduceToNat, List.length_set, List.set_set, beq_self_eq_true, bne_self_eq_false, frzC_none, frzC_some, frz_nil, frz_cons, frS_eq, frA, frL, frO, frN, frP, toFs, toF, flPair, binS, kOf, celEq, valEq, evCopy, nat512, optArr_some, optArr_none, memN, bytesOf_eB, eB_takeAll, rowOf, bytesOf, Nat.le_refl, evBuild_eq, evBuildSlice, evElems_nil, evElems_cons, range0, range1, range2, range3, range4, range5, range6, range7, range8, range9, repl0, repl1, repl2, repl3, repl4, repl5, repl6, repl7, repl8, repl9, List.flatten_cons, List.flatten_nil, Nat.zero_mul, Nat.one_mul, Nat.mul_one, pickF_nil, pickF_cons, all_nil', all_cons', false_implies, implies_true, cellsA, oneA, okA, lift, liftB, liftC, toC, toCs, splice, fillA, gone, goneO, Go.Proofs.YtnnmpdanfeejbaaGreat.Abs.distinct, evSrc, evAppend, srcP, List.getElem?_toArray, List.getElem?_cons_succ, List.getElem?_cons_zero, List.take_zero, List.drop_zero, List.take_succ_cons, List.drop_succ_cons, List.take_nil, List.drop_nil, List.cons_append, List.nil_append, List.append_nil, List.map_cons, List.map_nil, List.all_cons, List.all_nil, Option.isSome_some, Option.isSome_none, Option.map_some, Option.map_none, List.isEmpty_cons, List.isEmpty_nil, Bool.false_eq_true, Bool.and_true, Bool.true_and, Bool.and_self, Nat.reduceEqDiff, Nat.reduceLT, Nat.reduceLeDiff, Nat.reduceBEq, Nat.reduceSub, Nat.add_zero, Nat.zero_add, reduceIte, reduceCtorEq, Option.bind_some, Option.bind_none, Nat.reduceAdd, Nat.reduceMul, Bool.not_true, Bool.not_false, List.size_toArray, List.length_cons, List.length_nil, true_and, and_true, and_self, EndA, resV, isEnd, tupA, slotsP, objsP, wkA, wkL, wkO, gS, true_or, or_true, ti2, ti3, ti4, ti5, ti6, ti7, ti8, ti9, ti10, ti11, ti12, ti13, ti14, ti15, ti16, ti17, ti18, ti19, ti21, ti22, ti23, ti24, ti25, ti27, ti28, ti29, ti30, ti31, ti32, ti33, ti34, ti35, ti36, ti45, ti46, ti47, ti48, ti49, ti58, ti69, ti77, ti78, ti87, ti88, ti89, ti90, ti105, ti106, ti107, ti109, ti110, ti111, ti112, ti113, ti114, ti115, ti121, ti126, ti131, ti132, ti134, ti135, ti140, ti141, ti142, ti143, ti144, ti157, ti171, ti172, ti173, ti177, ti182, ti183, ti188, ti189, ti205, ti206, ti207, ti208, ti212, ti217, ti221, ti233, ti234, ti235, ti237, ti251, ti252, ti253, ti254, ti255, ti256, ti257, ti258, ti260, ti261, ti262, bindK_ite, seqC_normal, seqC_exit, seqC_ret, blkC_normal, blkC_exit, blkC_ret, lopC_normal, lopC_exit, lopC_ret, endC_normal, endC_ret, endR_app, seqK_app, stK_app, cndK_app, wpC_seq, wpC_skip, wpC_region, wpC_draw, wpC_cond, wpC_block, wpC_loop, wpC_exit, wpC_ret, seqR_nil, seqR_cons, gstp_none, gstp_some, grdQ_some, grdK_true, grdK_false, stp_call, stp_builtin, stp_move, stp_assign, stp_pick, stp_alloc, stp_box, stp_load, stp_store, stp_fieldAddr, stp_indexAddr, stp_nilCheck, stp_binOp, stp_unOp, stp_convert, stp_index, stp_slice, stp_makeSlice, stp_build, stp_buildSlice, stp_extract, List.toList_toArray]) <;> exact rfl) : P := e.mpr h
/-- The same, behind a call: so that nothing looks into the code that is still to come. -/
theorem vc4 {A B C P Q : Prop} (ha : A) (hb : B) (hc : C) (h : Q) (e : P = Q := by
  (simp (config := {maxSteps := 1000000, implicitDefEqProofs := false}) only [↓brB_true, ↓brB_false, upd_at, ↓reduceIte, Cfg.joins, firstReg, ne_eq, not_true_eq_false, not_false_eq_true, or_false, false_or, or_self, false_and, and_false, Int.toNat_natCast, Int.mul_one, Int.natCast_one, List.length_replicate, eB_length, Nat.reduceBneDiff, List.length_map, List.nodup_nil, List.nodup_cons, List.not_mem_nil, decide_true, decide_false, CV.im, Int.natCast_nonneg, Int.ofNat_lt, Int.ofNat_le, nat0, sim_v, Value.int.injEq, Value.bool.injEq, Value.string.injEq, outP, wkP, phO, numbered_nil, numbered_cons, drawR_nil, drawR_cons, drwK_app, stDK_app, gstepD_none, gstepD_some, grDQ_some, grDK_true, grDK_false, stepD_pick, stepD_alloc, stepD_box, stepD_load, stepD_store, stepD_fieldAddr, stepD_indexAddr, stepD_nilCheck, stepD_binOp, stepD_unOp, stepD_convert, stepD_index, stepD_slice, stepD_makeSlice, stepD_build, stepD_buildSlice, stepD_extract, stepD_builtin, stepD_moveF, stepD_moveT, stepD_assign, stepD_call, stepX_eq, res_at, Ck_eq, chkB_nil, chkB_cons, disj_nil, disj_cons, Array.toList_append, Bool.or_false, Bool.false_or, Bool.or_self, disj_nil_r, okPair, detFp, skipFp, refsL, refsA, nbA, nbL, nbO, Op.operands, Call.operands, Bool.or_true, Bool.true_or, Bool.false_and, Bool.and_false, kl_nil, klH_nil, kl_cons, klH_cons, after_eq, HpS_at, Nat.reduceSub, after0_eq, inlS_eq, killA, killL, killO, renA, renL, renO, rn, callObjs, viL, viA, viH, viO, List.getElem?_nil, Option.getD_some, Option.getD_none, boolK_c, guardK_c, guardK_tu, skpK_app, skDK_app, optK_some, optK_none, List.contains_nil, List.contains_cons, List.lookup_nil, List.lookup_cons, dstOf, bindK_some, bindK_none, evOp, getA, putT, updL, initT, sS, tS, hS, In, Bo, Rw, constA, zeroC, Value.oneCell', binV, binI, unV, evLen, isStrA, nilA, evLoad, evStore, evField, evIndexAddr, evConv, evSlice, boundA, loA, hiA, stC_length, inC_length, prC_length, ndC_length, shC_length, wrC_length, opC_length, suC_length, al_eB, al_z, eB_fold, al_st, al_in, al_pr, al_nd, al_sh, al_wr, al_op, al_su, allV_eB, allV_st, allV_in, allV_pr, allV_nil, allV_cons, isV_v, isV_row, isV_ptr, im_eB, im_st, im_in, im_pr, im_nd, im_sh, im_wr, eB_nil, sim_nil, sim_eB, sim_st, sim_in, sim_pr, sim_nd, sim_sh, sim_wr, sim_op, sim_su, Int.reduceEq, Int.reduceNe, Int.reduceLT, Int.reduceLE, Int.reduceGT, Int.reduceGE, Int.reduceNeg, Int.reduceToNat, List.length_set, List.set_set, beq_self_eq_true, bne_self_eq_false, frzC_none, frzC_some, frz_nil, frz_cons, frS_eq, frA, frL, frO, frN, frP, toFs, toF, flPair, binS, kOf, celEq, valEq, evCopy, nat512, optArr_some, optArr_none, memN, bytesOf_eB, eB_takeAll, rowOf, bytesOf, Nat.le_refl, evBuild_eq, evBuildSlice, evElems_nil, evElems_cons, range0, range1, range2, range3, range4, range5, range6, range7, range8, range9, repl0, repl1, repl2, repl3, repl4, repl5, repl6, repl7, repl8, repl9, List.flatten_cons, List.flatten_nil, Nat.zero_mul, Nat.one_mul, Nat.mul_one, pickF_nil, pickF_cons, all_nil', all_cons', false_implies, implies_true, cellsA, oneA, okA, lift, liftB, liftC, toC, toCs, splice, fillA, gone, goneO, Go.Proofs.YtnnmpdanfeejbaaGreat.Abs.distinct, evSrc, evAppend, srcP, List.getElem?_toArray, List.getElem?_cons_succ, List.getElem?_cons_zero, List.take_zero, List.drop_zero, List.take_succ_cons, List.drop_succ_cons, List.take_nil, List.drop_nil, List.cons_append, List.nil_append, List.append_nil, List.map_cons, List.map_nil, List.all_cons, List.all_nil, Option.isSome_some, Option.isSome_none, Option.map_some, Option.map_none, List.isEmpty_cons, List.isEmpty_nil, Bool.false_eq_true, Bool.and_true, Bool.true_and, Bool.and_self, Nat.reduceEqDiff, Nat.reduceLT, Nat.reduceLeDiff, Nat.reduceBEq, Nat.reduceSub, Nat.add_zero, Nat.zero_add, reduceIte, reduceCtorEq, Option.bind_some, Option.bind_none, Nat.reduceAdd, Nat.reduceMul, Bool.not_true, Bool.not_false, List.size_toArray, List.length_cons, List.length_nil, true_and, and_true, and_self, EndA, resV, isEnd, tupA, slotsP, objsP, wkA, wkL, wkO, gS, true_or, or_true, ti2, ti3, ti4, ti5, ti6, ti7, ti8, ti9, ti10, ti11, ti12, ti13, ti14, ti15, ti16, ti17, ti18, ti19, ti21, ti22, ti23, ti24, ti25, ti27, ti28, ti29, ti30, ti31, ti32, ti33, ti34, ti35, ti36, ti45, ti46, ti47, ti48, ti49, ti58, ti69, ti77, ti78, ti87, ti88, ti89, ti90, ti105, ti106, ti107, ti109, ti110, ti111, ti112, ti113, ti114, ti115, ti121, ti126, ti131, ti132, ti134, ti135, ti140, ti141, ti142, ti143, ti144, ti157, ti171, ti172, ti173, ti177, ti182, ti183, ti188, ti189, ti205, ti206, ti207, ti208, ti212, ti217, ti221, ti233, ti234, ti235, ti237, ti251, ti252, ti253, ti254, ti255, ti256, ti257, ti258, ti260, ti261, ti262, bindK_ite, seqC_normal, seqC_exit, seqC_ret, blkC_normal, blkC_exit, blkC_ret, lopC_normal, lopC_exit, lopC_ret, endC_normal, endC_ret, endR_app, seqK_app, stK_app, cndK_app, wpC_seq, wpC_skip, wpC_region, wpC_draw, wpC_cond, wpC_block, wpC_loop, wpC_exit, wpC_ret, seqR_nil, seqR_cons, gstp_none, gstp_some, grdQ_some, grdK_true, grdK_false, stp_call, stp_builtin, stp_move, stp_assign, stp_pick, stp_alloc, stp_box, stp_load, stp_store, stp_fieldAddr, stp_indexAddr, stp_nilCheck, stp_binOp, stp_unOp, stp_convert, stp_index, stp_slice, stp_makeSlice, stp_build, stp_buildSlice, stp_extract, List.toList_toArray]) <;> exact rfl) : A ∧ B ∧ C ∧ P := ⟨ha, hb, hc, e.mpr h⟩
/-- As the code is asked, once it has been cut to what it comes to. -/
theorem bindK_bind {α : Type} (o : Option α) (f : α → EvR) (K : AV → List (Nat × Option Ob) → Prop) : bindK (o.bind f) K = ∃ x, o = some x ∧ bindK (f x) K := by
  cases o <;> simp [bindK]

end Go.Proofs.YtnnmpdanfeejbaaGreat.Abs

/- The laws' helpers on bytes: their contracts. -/
namespace Go.Proofs.YtnnmpdanfeejbaaGreat.Abs
open Go Go.Proofs
set_option maxRecDepth 10000
set_option linter.unusedVariables false
set_option linter.unusedSimpArgs false
theorem map_take_next {α β : Type} (f : α → β) {xs : List α} {i : Nat} {x : α} (hx : xs[i]? = some x) : (xs.take i).map f ++ [f x] = (xs.take (i + 1)).map f := by
  rw [List.take_add_one, hx, List.map_append]; rfl
theorem toByteS_ok (l : List UInt8) (hl : l.length ≤ 2^40) : CallOk Tryz.prog 161 [] [Rw (eB l)] (fun r out => r = .sl 1 l.length ∧ out = [some (.rw 5 1 (eB l))]) := by
  refine callOk_z (np := 0) {} mixed Tryz.func161 (by rfl) Tryz.ntmps161 Tryz.results161 (by rfl) (Nat.le_of_ble_eq_true rfl) rfl rfl rfl (vc ?_)
  refine ⟨by omega, ?_⟩
  refine loopQ_of (fun i => [(0, Rw (eB l)), (3, .sl 1 l.length), (4, In (i : Nat))]) (fun i => [(1, .rw 5 1 (eB (l.take i) ++ List.replicate (l.length - i) [.v (.int .u8 0)]))]) 2 (fun i => l.length - i) (fun i => i ≤ l.length) 0 (Nat.zero_le _) [(1, 25)] (by rfl) (vc trivial) (vc ?_) (fun i hi N hN => vc (brB_intro (fun h => ?_) (fun h => ?_)))
  · rfl
  · have h : i < l.length := by simpa using h
    have hx := List.getElem?_eq_getElem h
    rw [eB_some hx]
    refine vc ?_
    refine ⟨⟨h, by simp [eB]; omega⟩, ?_⟩
    rw [eB, fill_get _ _ _ _ h]
    refine vc ?_
    refine hN _ (i + 1) [] (by omega) (by omega) (by rfl) (vc ?_) (vc ?_)
    · rw [w64 _ (by omega)]; simp
    · exact fill_set (fun b : UInt8 => [.v (.int .u8 b.toNat)]) _ l i _ hx
  · have h : i = l.length := by simp at h; omega
    refine endQ_of [] (.sl 1 l.length) [some (.rw 5 1 (eB l))] (by rfl) (vc trivial) (vc ?_) ⟨rfl, rfl⟩
    simp [h]
theorem u8_ne (a b : UInt8) : ((((a.toNat : Nat) : Int) != ((b.toNat : Nat) : Int)) = false) ↔ a = b := by
  constructor
  · intro h
    have h1 : ((a.toNat : Nat) : Int) = ((b.toNat : Nat) : Int) := by simpa using h
    exact UInt8.toNat_inj.1 (by omega)
  · rintro rfl; simp
theorem take_next {α : Type} {l m : List α} {i : Nat} {x y : α} (h : l.take i = m.take i) (hx : l[i]? = some x) (hy : m[i]? = some y) (e : x = y) : l.take (i + 1) = m.take (i + 1) := by
  rw [List.take_add_one, List.take_add_one, h, hx, hy, e]
theorem eqByteS_ok (l m : List UInt8) (hl : l.length ≤ 2^40) : CallOk Tryz.prog 169 [] [Rw (eB l), Rw (eB m)] (fun r out => r = Bo (decide (l = m)) ∧ out = []) := by
  refine callOk_z (np := 0) {} mixed Tryz.func169 (by rfl) Tryz.ntmps169 Tryz.results169 (by rfl) (Nat.le_of_ble_eq_true rfl) rfl rfl rfl (vc ?_)
  refine brB_intro (fun h => EndQ.closed (.v _) ⟨?_, rfl⟩) (fun h => ?_)
  · have : l ≠ m := fun e => by simp [e] at h
    simp [this]
  have h0 : l.length = m.length := by have : ((l.length : Nat) : Int) = m.length := by simpa using h
                                      omega
  refine loopQ_of (fun i => [(0, Rw (eB l)), (1, Rw (eB m)), (5, In (i : Nat))]) (fun i => []) 1 (fun i => l.length - i) (fun i => i ≤ l.length ∧ l.take i = m.take i) 0 ⟨Nat.zero_le _, rfl⟩ [] (by rfl) (vc trivial) (vc trivial) (fun i hi N hN => vc (brB_intro (fun h => ?_) (fun h => ?_)))
  · have h : i < l.length := by simpa using h
    have hx := List.getElem?_eq_getElem h
    have hy := List.getElem?_eq_getElem (h0 ▸ h)
    refine drawQ_of false (by rfl) (by simp) (vc ?_)
    rw [eB_some hx]
    refine vc ?_
    rw [eB_some hy]
    refine vc ?_
    refine brB_intro (fun hb => EndQ.closed (.v _) ⟨?_, rfl⟩) (fun hb => ?_)
    · have : l ≠ m := fun e => by subst e; simp at hb
      simp [this]
    · refine hN _ (i + 1) [] ⟨h, take_next hi.2 hx hy ((u8_ne _ _).1 hb)⟩ (by omega) (by rfl) (vc ?_) (vc trivial)
      rw [w64 _ (by omega)]; simp
  · have h : i = l.length := by simp at h; omega
    refine EndQ.closed (.v _) ⟨?_, rfl⟩
    have : l = m := by have := hi.2; rw [h, List.take_length, h0, List.take_length] at this; exact this
    simp [this]

/-- The sizes' sum. -/
def sumL {α : Type} (f : α → Nat) (xs : List α) : Nat := (xs.map f).sum
theorem sumL_nil {α : Type} (f : α → Nat) : sumL f [] = 0 := rfl
theorem sumL_cons {α : Type} (f : α → Nat) (x : α) (r : List α) : sumL f (x :: r) = f x + sumL f r := by simp [sumL]
theorem sumL_next {α : Type} (f : α → Nat) {xs : List α} {i : Nat} {x : α} (h : xs[i]? = some x) : sumL f (xs.take (i + 1)) = sumL f (xs.take i) + f x := by
  rw [List.take_add_one, h]; simp [sumL]
theorem sumL_le {α : Type} (f : α → Nat) (xs : List α) (i : Nat) : sumL f (xs.take i) ≤ sumL f xs := by
  conv => rhs; rw [← List.take_append_drop i xs]
  simp only [sumL, List.map_append, List.sum_append]
  omega
/-- What a mark writes into a row: element by element, with the numbers going on. -/
def mkL {α : Type} (f : α → Int → α) (c : α → Nat) : List α → Int → List α
  | [], _ => []
  | x :: r, k => f x k :: mkL f c r (k + c x)
theorem mkL_length {α : Type} (f : α → Int → α) (c : α → Nat) : ∀ (xs : List α) (k : Int), (mkL f c xs k).length = xs.length
  | [], _ => rfl
  | x :: r, k => by simp [mkL, mkL_length f c r]
theorem mkL_get {α : Type} (f : α → Int → α) (c : α → Nat) : ∀ {xs : List α} {k : Int} {i : Nat} {x : α}, xs[i]? = some x → (mkL f c xs k)[i]? = some (f x (k + sumL c (xs.take i)))
  | [], _, _, _, h => by simp at h
  | x :: r, k, 0, y, h => by
    simp at h; subst h
    simp [mkL, sumL_nil]
  | x :: r, k, i + 1, y, h => by
    have := mkL_get f c (xs := r) (k := k + c x) (i := i) (x := y) (by simpa using h)
    rw [mkL, List.getElem?_cons_succ, this, List.take_succ_cons, sumL_cons, Int.natCast_add, Int.add_assoc]
theorem mkL_idem {α : Type} {f : α → Int → α} {c : α → Nat} (h : ∀ x k, f (f x k) k = f x k ∧ c (f x k) = c x) : ∀ (xs : List α) (k : Int), mkL f c (mkL f c xs k) k = mkL f c xs k ∧ sumL c (mkL f c xs k) = sumL c xs
  | [], _ => ⟨rfl, rfl⟩
  | x :: r, k => by
    have ih := mkL_idem h r (k + c x)
    simp only [mkL, sumL_cons, (h x k).1, (h x k).2]
    exact ⟨by rw [ih.1], by rw [ih.2]⟩
theorem mix_get {α β : Type} (enc : α → β) {M xs : List α} {i : Nat} (hM : M.length = xs.length) {x : α} (hx : xs[i]? = some x) : ((M.take i ++ xs.drop i).map enc)[i]? = some (enc x) := by
  have h : i < xs.length := (List.getElem?_eq_some_iff.1 hx).1
  rw [List.getElem?_map, List.getElem?_append_right (by simp; omega), List.getElem?_drop, List.length_take, show i + (i - min i M.length) = i by omega, hx]; rfl
theorem mix_set {α β : Type} (enc : α → β) {M xs : List α} {i : Nat} (hM : M.length = xs.length) {y : α} (hy : M[i]? = some y) : ((M.take i ++ xs.drop i).map enc).set i (enc y) = (M.take (i + 1) ++ xs.drop (i + 1)).map enc := by
  have h : i < xs.length := hM ▸ (List.getElem?_eq_some_iff.1 hy).1
  rw [List.take_add_one, hy, List.drop_eq_getElem_cons h]
  simp only [List.map_append, List.map_cons, Option.toList_some, List.map_nil, List.append_assoc, List.cons_append, List.nil_append]
  rw [List.set_append_right _ _ (by simp; omega)]
  have : i - (List.map enc (List.take i M)).length = 0 := by simp; omega
  rw [this, List.set_cons_zero]
theorem set_self {α : Type} {A : List α} {i : Nat} {x : α} (h : A[i]? = some x) : A.set i x = A := by
  apply List.ext_getElem?
  intro j
  rw [List.getElem?_set]
  split
  · rename_i e
    subst e
    split
    · exact h.symm
    · rename_i hl
      rw [List.getElem?_eq_none (by omega)]
  · rfl
theorem mix_nil {α : Type} (M xs : List α) : M.take 0 ++ xs.drop 0 = xs := by simp
theorem mix_all {α : Type} {M xs : List α} {i : Nat} (hM : M.length = xs.length) (h : i = xs.length) : M.take i ++ xs.drop i = M := by
  subst h
  rw [List.drop_length, List.append_nil, List.take_of_length_le (by omega)]
/-- The bytes that a mark writes. -/
def bk (k : Int) : UInt8 := UInt8.ofNat (k % 256).toNat
theorem bk_wrap (k : Int) : (((bk k).toNat : Nat) : Int) = IntKind.u8.wrap k := by
  rw [w8, bk, UInt8.toNat_ofNat']
  have h1 : 0 ≤ k % 256 := Int.emod_nonneg _ (by omega)
  have h2 : k % 256 < 256 := Int.emod_lt_of_pos _ (by omega)
  omega
def mkB (n : Nat) (k : Int) : List UInt8 := (List.range n).map fun (i : Nat) => bk (k + (i : Int))
theorem mkB_length (n : Nat) (k : Int) : (mkB n k).length = n := by simp [mkB]
def szB (n : Nat) (left : Int) : Int := if left - n < 0 then -1 else left - n

theorem szByteS_ok (l : List UInt8) (k : Int) (hl : l.length ≤ 2^47) (hk : -1 ≤ k ∧ k ≤ 2^40) : CallOk Tryz.prog 152 [] [Rw (eB l), In k] (fun r out => r = In (szB l.length k) ∧ out = []) := by
  refine callOk_z (np := 0) {} mixed Tryz.func152 (by rfl) Tryz.ntmps152 Tryz.results152 (by rfl) (Nat.le_of_ble_eq_true rfl) rfl rfl rfl (vc ?_)
  rw [w64 _ (by omega)]
  refine brB_intro (fun h => EndQ.closed (.v _) ⟨?_, rfl⟩) (fun h => EndQ.closed (.v _) ⟨?_, rfl⟩)
  · have h : k - l.length < 0 := by simpa using h
    rw [szB, if_pos h]
  · have h : ¬ k - l.length < 0 := by simpa using h
    rw [szB, if_neg h]

theorem heldByteS_ok (l : List UInt8) (k : Int) (hk : 0 ≤ k ∧ k + l.length ≤ 2^60) : CallOk Tryz.prog 83 [] [Rw (eB l), In k] (fun r out => r = In (if l = mkB l.length k then k + l.length else -1) ∧ out = []) := by
  refine callOk_z (np := 0) {} mixed Tryz.func83 (by rfl) Tryz.ntmps83 Tryz.results83 (by rfl) (Nat.le_of_ble_eq_true rfl) rfl rfl rfl (vc ?_)
  have hm : ∀ i, i < l.length → (mkB l.length k)[i]? = some (bk (k + i)) := fun i hi => by simp [mkB, hi]
  refine loopQ_of (fun i => [(0, Rw (eB l)), (1, In (k + (i : Nat))), (5, In (i : Nat))]) (fun i => []) 1 (fun i => l.length - i) (fun i => i ≤ l.length ∧ l.take i = (mkB l.length k).take i) 0 ⟨Nat.zero_le _, rfl⟩ [] (by rfl) (vc ?_) (vc trivial) (fun i hi N hN => vc (brB_intro (fun h => ?_) (fun h => ?_)))
  · simp
  · have h : i < l.length := by simpa using h
    have hx := List.getElem?_eq_getElem h
    rw [eB_some hx]
    refine vc ?_
    rw [← bk_wrap]
    refine brB_intro (fun hb => EndQ.closed (.v _) ⟨?_, rfl⟩) (fun hb => ?_)
    · have : l ≠ mkB l.length k := fun e => by
        have h2 := hm i h
        rw [← e, hx] at h2
        rw [Option.some.inj h2] at hb
        simp at hb
      rw [if_neg this]
    · refine hN _ (i + 1) [] ⟨h, take_next hi.2 hx (hm i h) ((u8_ne _ _).1 hb)⟩ (by omega) (by rfl) (vc ?_) (vc trivial)
      rw [w64 _ (by omega), w64 _ (by omega)]
      simp; omega
  · have h : i = l.length := by simp at h; omega
    refine EndQ.closed (.v _) ⟨?_, rfl⟩
    have : l = mkB l.length k := by have := hi.2; rw [h, List.take_length, List.take_of_length_le (by rw [mkB_length]; omega)] at this; exact this
    rw [if_pos this, h]

theorem markByteS_ok (ty : Nat) (l : List UInt8) (k : Int) (hk : 0 ≤ k ∧ k + l.length ≤ 2^60) : CallOk Tryz.prog 82 [.rw ty 1 (eB l)] [.sl 1 l.length, In k] (fun r out => r = In (k + l.length) ∧ out = [some (.rw ty 1 (eB (mkB l.length k)))]) := by
  refine callOk_z (np := 1) {} mixed Tryz.func82 (by rfl) Tryz.ntmps82 Tryz.results82 (by rfl) (Nat.le_of_ble_eq_true rfl) rfl rfl rfl (vc ?_)
  have hm : ∀ i, i < l.length → (mkB l.length k)[i]? = some (bk (k + i)) := fun i hi => by simp [mkB, hi]
  refine loopQ_of (fun i => [(0, .sl 1 l.length), (1, In (k + (i : Nat))), (5, In (i : Nat))]) (fun i => [(1, .rw ty 1 (eB ((mkB l.length k).take i ++ l.drop i)))]) 2 (fun i => l.length - i) (fun i => i ≤ l.length) 0 (Nat.zero_le _) [] (by rfl) (vc ?_) (vc ?_) (fun i hi N hN => vc (brB_intro (fun h => ?_) (fun h => ?_)))
  · simp
  · simp [HpS, wkO]
  · have h : i < l.length := by simpa using h
    have hg : (eB ((mkB l.length k).take i ++ l.drop i))[i]? = some [.v (.int .u8 l[i].toNat)] := eB_some (by
      rw [List.getElem?_append_right (by simp [mkB]; omega), List.getElem?_drop, List.length_take, mkB_length, show i + (i - min i l.length) = i by omega, List.getElem?_eq_getElem h])
    refine ⟨⟨h, by simp [mkB]; omega⟩, ?_⟩
    rw [hg]
    refine vc ?_
    refine hN _ (i + 1) [] h (by omega) (by rfl) (vc ?_) (vc ?_)
    · rw [w64 _ (by omega), w64 _ (by omega)]
      simp; omega
    · rw [← bk_wrap]
      have hm' := hm i h
      rw [List.take_add_one, hm', List.drop_eq_getElem_cons h]
      simp only [eB, List.map_append, List.map_cons, Option.toList_some, List.map_nil, List.append_assoc, List.cons_append, List.nil_append]
      rw [List.set_append_right _ _ (by simp [mkB]; omega)]
      have : i - (List.map (fun b : UInt8 => [CV.v (Value.int IntKind.u8 ↑b.toNat)]) (List.take i (mkB l.length k))).length = 0 := by simp [mkB]; omega
      rw [this, List.set_cons_zero]
  · have h : i = l.length := by simp at h; omega
    refine endQ_of [] (In (k + l.length)) [some (.rw ty 1 (eB (mkB l.length k)))] (by rfl) (vc ?_) (vc ?_) ⟨rfl, rfl⟩
    · rw [h]
    · subst h
      rw [List.take_of_length_le (by rw [mkB_length]; omega), List.drop_length, List.append_nil]
theorem markByteS_nil (k : Int) (hk : 0 ≤ k ∧ k ≤ 2^60) (b : Bool) : CallOk Tryz.prog 82 [] [.c (.row b []), In k] (fun r out => r = In k ∧ out = []) := by
  refine callOk_z (np := 0) {} mixed Tryz.func82 (by rfl) Tryz.ntmps82 Tryz.results82 (by rfl) (Nat.le_of_ble_eq_true rfl) rfl rfl rfl (vc ?_)
  refine loopQ_of (ι := Unit) (fun i => [(0, .c (.row b [])), (1, In k), (5, In (0 : Nat))]) (fun i => []) 1 (fun i => 0) (fun i => True) () trivial [] (by rfl) (vc trivial) (vc trivial) (fun i hi N hN => vc ?_)
  exact EndQ.closed (.v _) ⟨rfl, rfl⟩
open Classical in
noncomputable def tf (p : Prop) : Bool := decide p
theorem tf_true {p : Prop} (h : p) : tf p = true := by simp [tf, h]
theorem tf_false {p : Prop} (h : ¬ p) : tf p = false := by simp [tf, h]
theorem tf_dec {p : Prop} [Decidable p] : decide p = tf p := by by_cases h : p <;> simp [tf, h]
theorem all_next {α : Type} {p : α → Prop} {xs : List α} {i : Nat} {x : α} (h : ∀ y ∈ xs.take i, p y) (hx : xs[i]? = some x) (hp : p x) : ∀ y ∈ xs.take (i + 1), p y := by
  intro y hy
  rw [List.take_add_one, hx, List.mem_append] at hy
  rcases hy with hy | hy
  · exact h y hy
  · simp at hy; subst hy; exact hp
theorem all_full {α : Type} {p : α → Prop} {xs : List α} {i : Nat} (h : ∀ y ∈ xs.take i, p y) (hi : i = xs.length) : ∀ y ∈ xs, p y := by
  rw [hi, List.take_length] at h; exact h
end Go.Proofs.YtnnmpdanfeejbaaGreat.Abs

/- The laws' helpers on sheets, writes, disks: their contracts. -/
namespace Go.Proofs.YtnnmpdanfeejbaaGreat.Abs
open Go Go.Proofs
set_option maxRecDepth 10000
set_option linter.unusedVariables false
set_option linter.unusedSimpArgs false
theorem toSheet_ok (l : List UInt8) (hl : l.length ≤ 2^40) : CallOk Tryz.prog 102 [] [.ag [Rw (eB l)]] (fun r out => r = .ag [.sl 1 l.length] ∧ out = [some (.rw 5 1 (eB l))]) := by
  refine callOk_z (np := 0) {} mixed Tryz.func102 (by rfl) Tryz.ntmps102 Tryz.results102 (by rfl) (Nat.le_of_ble_eq_true rfl) rfl rfl rfl (vc ?_)
  refine callq_of false [] (toByteS_ok l hl) rfl trivial (vc trivial) ?_
  rintro r out ⟨rfl, rfl⟩
  refine ⟨by simp, by simp, by simp, vc ?_⟩
  exact endQ_of [(1, 41)] (.ag [.sl 1 l.length]) [some (.rw 5 1 (eB l))] (by rfl) (vc trivial) (vc trivial) ⟨rfl, rfl⟩
theorem get_map {α β : Type} {f : α → β} {l : List α} {i : Nat} {x : α} (h : l[i]? = some x) : (l.map f)[i]? = some (f x) := by rw [List.getElem?_map, h]; rfl
theorem toSheetS_ok (xs : List (List UInt8)) (hl : xs.length ≤ 2^40) (hs : ∀ x ∈ xs, x.length ≤ 2^40) : CallOk Tryz.prog 45 [] [Rw (xs.map (shC false))] (fun r out => r = .sl 1 xs.length ∧ out = [some (.rw 135 1 (xs.map (shC true)))]) := by
  refine callOk_z (np := 0) {} mixed Tryz.func45 (by rfl) Tryz.ntmps45 Tryz.results45 (by rfl) (Nat.le_of_ble_eq_true rfl) rfl rfl rfl (vc ?_)
  refine ⟨⟨by omega, by omega⟩, ?_⟩
  refine loopQ_of (fun i => [(0, Rw (xs.map (shC false))), (3, .sl 1 xs.length), (4, In (i : Nat))]) (fun i => [(1, .rw 135 1 ((xs.take i).map (shC true) ++ List.replicate (xs.length - i) [.row true []]))]) 2 (fun i => xs.length - i) (fun i => i ≤ xs.length) 0 (Nat.zero_le _) [(1, 25)] (by rfl) (vc trivial) (vc ?_) (fun i hi N hN => vc (brB_intro (fun h => ?_) (fun h => ?_)))
  · rfl
  · have h : i < xs.length := by simpa using h
    have hx := List.getElem?_eq_getElem h
    rw [get_map hx, shC]
    refine vc ?_
    refine callq_of false [] (toSheet_ok _ (hs _ (List.getElem_mem h))) rfl trivial (vc trivial) ?_
    rintro r out ⟨rfl, rfl⟩
    refine ⟨by simp, by simp, by simp, vc ?_⟩
    refine ⟨⟨h, by simp; omega⟩, ?_⟩
    rw [fill_get _ _ _ _ h]
    refine vc ?_
    refine hN _ (i + 1) [] h (by omega) (by rfl) (vc ?_) (vc ?_)
    · rw [w64 _ (by omega)]; simp
    · exact fill_set (shC true) _ xs i _ hx
  · have h : i = xs.length := by simp at h; omega
    refine endQ_of [] (.sl 1 xs.length) [some (.rw 135 1 (xs.map (shC true)))] (by rfl) (vc trivial) (vc ?_) ⟨rfl, rfl⟩
    simp [h]

theorem toWrite_ok (a : Int) (l : List UInt8) (hl : l.length ≤ 2^40) : CallOk Tryz.prog 103 [] [.ag [In a, Rw (eB l)]] (fun r out => r = .ag [In a, .sl 1 l.length] ∧ out = [some (.rw 5 1 (eB l))]) := by
  refine callOk_z (np := 0) {} mixed Tryz.func103 (by rfl) Tryz.ntmps103 Tryz.results103 (by rfl) (Nat.le_of_ble_eq_true rfl) rfl rfl rfl (vc ?_)
  refine callq_of false [] (toByteS_ok l hl) rfl trivial (vc trivial) ?_
  rintro r out ⟨rfl, rfl⟩
  refine ⟨by simp, by simp, by simp, vc ?_⟩
  exact endQ_of [(1, 73)] (.ag [In a, .sl 1 l.length]) [some (.rw 5 1 (eB l))] (by rfl) (vc trivial) (vc trivial) ⟨rfl, rfl⟩
theorem toWriteS_ok (xs : List (Int × List UInt8)) (hl : xs.length ≤ 2^40) (hs : ∀ x ∈ xs, x.2.length ≤ 2^40) : CallOk Tryz.prog 46 [] [Rw (xs.map (wrC false))] (fun r out => r = .sl 1 xs.length ∧ out = [some (.rw 113 2 (xs.map (wrC true)))]) := by
  refine callOk_z (np := 0) {} mixed Tryz.func46 (by rfl) Tryz.ntmps46 Tryz.results46 (by rfl) (Nat.le_of_ble_eq_true rfl) rfl rfl rfl (vc ?_)
  refine ⟨⟨by omega, by omega⟩, ?_⟩
  refine loopQ_of (fun i => [(0, Rw (xs.map (wrC false))), (3, .sl 1 xs.length), (4, In (i : Nat))]) (fun i => [(1, .rw 113 2 ((xs.take i).map (wrC true) ++ List.replicate (xs.length - i) [.v (.int .i64 0), .row true []]))]) 2 (fun i => xs.length - i) (fun i => i ≤ xs.length) 0 (Nat.zero_le _) [(1, 25)] (by rfl) (vc trivial) (vc ?_) (fun i hi N hN => vc (brB_intro (fun h => ?_) (fun h => ?_)))
  · rfl
  · have h : i < xs.length := by simpa using h
    have hx := List.getElem?_eq_getElem h
    rw [get_map hx, wrC]
    refine vc ?_
    refine callq_of false [] (toWrite_ok xs[i].1 xs[i].2 (hs _ (List.getElem_mem h))) rfl trivial (vc trivial) ?_
    rintro r out ⟨rfl, rfl⟩
    refine ⟨by simp, by simp, by simp, vc ?_⟩
    refine ⟨⟨h, by simp; omega⟩, ?_⟩
    rw [fill_get _ _ _ _ h]
    refine vc ?_
    refine hN _ (i + 1) [] h (by omega) (by rfl) (vc ?_) (vc ?_)
    · rw [w64 _ (by omega)]; simp
    · exact fill_set (wrC true) _ xs i _ hx
  · have h : i = xs.length := by simp at h; omega
    refine endQ_of [] (.sl 1 xs.length) [some (.rw 113 2 (xs.map (wrC true)))] (by rfl) (vc trivial) (vc ?_) ⟨rfl, rfl⟩
    simp [h]

/-- A disk. -/
structure Dk where
  sh : List (List UInt8)
  wr : List (Int × List UInt8)
  deriving DecidableEq, Inhabited
/-- Its sizes are in bounds. -/
def Dk.fits (M : Nat) (d : Dk) : Prop := d.sh.length ≤ M ∧ (∀ x ∈ d.sh, x.length ≤ M) ∧ d.wr.length ≤ M ∧ ∀ x ∈ d.wr, x.2.length ≤ M
def Dk.rd (d : Dk) : AV := .ag [Rw (d.sh.map (shC false)), Rw (d.wr.map (wrC false))]
def Dk.ow (d : Dk) : AV := .ag [.sl 1 d.sh.length, .sl 2 d.wr.length]
def Dk.obs (d : Dk) : List Ob := [.rw 135 1 (d.sh.map (shC true)), .rw 113 2 (d.wr.map (wrC true))]
theorem toDisk_ok (d : Dk) (hd : d.fits (2^40)) : CallOk Tryz.prog 10 [] [d.rd] (fun r out => r = d.ow ∧ out = d.obs.map some) := by
  unfold Dk.rd
  refine callOk_z (np := 0) {} mixed Tryz.func10 (by rfl) Tryz.ntmps10 Tryz.results10 (by rfl) (Nat.le_of_ble_eq_true rfl) rfl rfl rfl (vc ?_)
  refine callq_of false [] (toSheetS_ok d.sh hd.1 hd.2.1) rfl trivial (vc trivial) ?_
  rintro r out ⟨rfl, rfl⟩
  refine ⟨by simp, by simp, by simp, vc ?_⟩
  refine callq_of false [] (toWriteS_ok d.wr hd.2.2.1 hd.2.2.2) rfl trivial (vc trivial) ?_
  rintro r out ⟨rfl, rfl⟩
  refine ⟨by simp, by simp, by simp, vc ?_⟩
  exact endQ_of [(1, 41), (2, 81)] d.ow (d.obs.map some) (by rfl) (by unfold Dk.ow; exact vc trivial) (by unfold Dk.obs; exact vc trivial) ⟨rfl, rfl⟩

theorem szB_cases (n : Nat) (k : Int) : (k < n ∧ szB n k = -1) ∨ (n ≤ k ∧ szB n k = k - n) := by
  unfold szB
  split
  · exact .inl ⟨by omega, rfl⟩
  · exact .inr ⟨by omega, rfl⟩
theorem szSheet_ok (l : List UInt8) (k : Int) (hl : l.length ≤ 2^47) (hk : -1 ≤ k ∧ k ≤ 2^40) : CallOk Tryz.prog 90 [] [.ag [Rw (eB l)], In k] (fun r out => r = In (szB l.length k) ∧ out = []) := by
  refine callOk_z (np := 0) {} mixed Tryz.func90 (by rfl) Tryz.ntmps90 Tryz.results90 (by rfl) (Nat.le_of_ble_eq_true rfl) rfl rfl rfl (vc ?_)
  refine callq_of false [] (szByteS_ok l k hl hk) rfl trivial (vc trivial) ?_
  rintro r out ⟨rfl, rfl⟩
  refine ⟨by simp, by simp, by simp, vc ?_⟩
  have hc := szB_cases l.length k
  refine brB_intro (fun h => EndQ.closed (.v _) ⟨?_, rfl⟩) (fun h => EndQ.closed (.v _) ⟨?_, rfl⟩)
  · have h : szB l.length k < 0 := by simpa using h
    rw [show szB l.length k = -1 by omega]
  · rfl
theorem szWrite_ok (a : Int) (l : List UInt8) (k : Int) (hl : l.length ≤ 2^47) (hk : -1 ≤ k ∧ k ≤ 2^40) : CallOk Tryz.prog 91 [] [.ag [In a, Rw (eB l)], In k] (fun r out => r = In (szB l.length k) ∧ out = []) := by
  refine callOk_z (np := 0) {} mixed Tryz.func91 (by rfl) Tryz.ntmps91 Tryz.results91 (by rfl) (Nat.le_of_ble_eq_true rfl) rfl rfl rfl (vc ?_)
  refine callq_of false [] (szByteS_ok l k hl hk) rfl trivial (vc trivial) ?_
  rintro r out ⟨rfl, rfl⟩
  refine ⟨by simp, by simp, by simp, vc ?_⟩
  have hc := szB_cases l.length k
  refine brB_intro (fun h => EndQ.closed (.v _) ⟨?_, rfl⟩) (fun h => EndQ.closed (.v _) ⟨?_, rfl⟩)
  · have h : szB l.length k < 0 := by simpa using h
    rw [show szB l.length k = -1 by omega]
  · rfl

theorem szSheetS_ok (xs : List (List UInt8)) (k : Int) (hl : xs.length ≤ 2^47) (hs : ∀ x ∈ xs, x.length ≤ 2^47) (hk : -1 ≤ k ∧ k ≤ 2^40) : CallOk Tryz.prog 38 [] [Rw (xs.map (shC false)), In k] (fun r out => r = In (szB (xs.length + sumL List.length xs) k) ∧ out = []) := by
  refine callOk_z (np := 0) {} mixed Tryz.func38 (by rfl) Tryz.ntmps38 Tryz.results38 (by rfl) (Nat.le_of_ble_eq_true rfl) rfl rfl rfl (vc ?_)
  rw [w64 _ (by omega)]
  refine brB_intro (fun h => EndQ.closed (.v _) ⟨?_, rfl⟩) (fun h => ?_)
  · have h : k - xs.length < 0 := by simpa using h
    rw [szB, if_pos (by omega)]
  have h : 0 ≤ k - xs.length := by simpa using h
  refine loopQ_of (fun i => [(0, Rw (xs.map (shC false))), (1, In (k - xs.length - sumL List.length (xs.take i))), (5, In (i : Nat))]) (fun i => []) 1 (fun i => xs.length - i) (fun i => i ≤ xs.length ∧ (sumL List.length (xs.take i) : Int) ≤ k - xs.length) 0 ⟨Nat.zero_le _, by simpa [sumL] using h⟩ [] (by rfl) (vc ?_) (vc trivial) (fun i hi N hN => vc (brB_intro (fun h => ?_) (fun h => ?_)))
  · simp [sumL]
  · have h : i < xs.length := by simpa using h
    have hx := List.getElem?_eq_getElem h
    rw [get_map hx, shC]
    refine vc ?_
    refine callq_of false [] (szSheet_ok xs[i] (k - xs.length - sumL List.length (xs.take i)) (hs _ (List.getElem_mem h)) (by omega)) rfl trivial (vc trivial) ?_
    rintro r out ⟨rfl, rfl⟩
    refine ⟨by simp, by simp, by simp, vc ?_⟩
    have hc := szB_cases xs[i].length (k - xs.length - sumL List.length (xs.take i))
    have hn := sumL_next List.length hx
    have hle := sumL_le List.length xs (i + 1)
    refine brB_intro (fun h => EndQ.closed (.v _) ⟨?_, rfl⟩) (fun h => ?_)
    · have h : szB xs[i].length (k - xs.length - sumL List.length (xs.take i)) < 0 := by simpa using h
      rw [szB, if_pos (by omega)]
    · have h : 0 ≤ szB xs[i].length (k - xs.length - sumL List.length (xs.take i)) := by simpa using h
      refine hN _ (i + 1) [] ⟨by omega, by omega⟩ (by omega) (by rfl) (vc ?_) (vc trivial)
      rw [w64 _ (by omega)]
      exact ⟨by omega, by simp⟩
  · have h : i = xs.length := by simp at h; omega
    refine EndQ.closed (.v _) ⟨?_, rfl⟩
    have hT : xs.take i = xs := by rw [h, List.take_length]
    have h2 := hi.2
    rw [hT] at h2 ⊢
    rw [szB, if_neg (by omega), show k - ((xs.length + sumL List.length xs : Nat) : Int) = k - xs.length - sumL List.length xs by omega]
theorem szWriteS_ok (xs : List (Int × List UInt8)) (k : Int) (hl : xs.length ≤ 2^47) (hs : ∀ x ∈ xs, x.2.length ≤ 2^47) (hk : -1 ≤ k ∧ k ≤ 2^40) : CallOk Tryz.prog 39 [] [Rw (xs.map (wrC false)), In k] (fun r out => r = In (szB (xs.length + sumL (fun x => x.2.length) xs) k) ∧ out = []) := by
  refine callOk_z (np := 0) {} mixed Tryz.func39 (by rfl) Tryz.ntmps39 Tryz.results39 (by rfl) (Nat.le_of_ble_eq_true rfl) rfl rfl rfl (vc ?_)
  rw [w64 _ (by omega)]
  refine brB_intro (fun h => EndQ.closed (.v _) ⟨?_, rfl⟩) (fun h => ?_)
  · have h : k - xs.length < 0 := by simpa using h
    rw [szB, if_pos (by omega)]
  have h : 0 ≤ k - xs.length := by simpa using h
  refine loopQ_of (fun i => [(0, Rw (xs.map (wrC false))), (1, In (k - xs.length - sumL (fun x => x.2.length) (xs.take i))), (5, In (i : Nat))]) (fun i => []) 1 (fun i => xs.length - i) (fun i => i ≤ xs.length ∧ (sumL (fun x => x.2.length) (xs.take i) : Int) ≤ k - xs.length) 0 ⟨Nat.zero_le _, by simpa [sumL] using h⟩ [] (by rfl) (vc ?_) (vc trivial) (fun i hi N hN => vc (brB_intro (fun h => ?_) (fun h => ?_)))
  · simp [sumL]
  · have h : i < xs.length := by simpa using h
    have hx := List.getElem?_eq_getElem h
    rw [get_map hx, wrC]
    refine vc ?_
    refine callq_of false [] (szWrite_ok xs[i].1 xs[i].2 (k - xs.length - sumL (fun x => x.2.length) (xs.take i)) (hs _ (List.getElem_mem h)) (by omega)) rfl trivial (vc trivial) ?_
    rintro r out ⟨rfl, rfl⟩
    refine ⟨by simp, by simp, by simp, vc ?_⟩
    have hc := szB_cases xs[i].2.length (k - xs.length - sumL (fun x => x.2.length) (xs.take i))
    have hn := sumL_next (fun x : Int × List UInt8 => x.2.length) hx
    have hle := sumL_le (fun x : Int × List UInt8 => x.2.length) xs (i + 1)
    refine brB_intro (fun h => EndQ.closed (.v _) ⟨?_, rfl⟩) (fun h => ?_)
    · have h : szB xs[i].2.length (k - xs.length - sumL (fun x => x.2.length) (xs.take i)) < 0 := by simpa using h
      rw [szB, if_pos (by omega)]
    · have h : 0 ≤ szB xs[i].2.length (k - xs.length - sumL (fun x => x.2.length) (xs.take i)) := by simpa using h
      refine hN _ (i + 1) [] ⟨by omega, by omega⟩ (by omega) (by rfl) (vc ?_) (vc trivial)
      rw [w64 _ (by omega)]
      exact ⟨by omega, by simp⟩
  · have h : i = xs.length := by simp at h; omega
    refine EndQ.closed (.v _) ⟨?_, rfl⟩
    have hT : xs.take i = xs := by rw [h, List.take_length]
    have h2 := hi.2
    rw [hT] at h2 ⊢
    rw [szB, if_neg (by omega), show k - ((xs.length + sumL (fun x => x.2.length) xs : Nat) : Int) = k - xs.length - sumL (fun x => x.2.length) xs by omega]

def Dk.size (d : Dk) : Nat := d.sh.length + sumL List.length d.sh + (d.wr.length + sumL (fun x => x.2.length) d.wr)
theorem szDisk_ok (d : Dk) (k : Int) (hd : d.fits (2^47)) (hk : -1 ≤ k ∧ k ≤ 2^40) : CallOk Tryz.prog 8 [] [d.rd, In k] (fun r out => r = In (szB d.size k) ∧ out = []) := by
  unfold Dk.rd
  refine callOk_z (np := 0) {} mixed Tryz.func8 (by rfl) Tryz.ntmps8 Tryz.results8 (by rfl) (Nat.le_of_ble_eq_true rfl) rfl rfl rfl (vc ?_)
  refine callq_of false [] (szSheetS_ok d.sh k hd.1 hd.2.1 hk) rfl trivial (vc trivial) ?_
  rintro r out ⟨rfl, rfl⟩
  refine ⟨by simp, by simp, by simp, vc ?_⟩
  have hc := szB_cases (d.sh.length + sumL List.length d.sh) k
  have hz : d.size = d.sh.length + sumL List.length d.sh + (d.wr.length + sumL (fun x => x.2.length) d.wr) := rfl
  refine brB_intro (fun h => EndQ.closed (.v _) ⟨?_, rfl⟩) (fun h => ?_)
  · have h : szB (d.sh.length + sumL List.length d.sh) k < 0 := by simpa using h
    rw [szB, if_pos (by omega)]
  have h : 0 ≤ szB (d.sh.length + sumL List.length d.sh) k := by simpa using h
  refine callq_of false [] (szWriteS_ok d.wr (szB (d.sh.length + sumL List.length d.sh) k) hd.2.2.1 hd.2.2.2 (by omega)) rfl trivial (vc trivial) ?_
  rintro r out ⟨rfl, rfl⟩
  refine ⟨by simp, by simp, by simp, vc ?_⟩
  have hc2 := szB_cases (d.wr.length + sumL (fun x => x.2.length) d.wr) (szB (d.sh.length + sumL List.length d.sh) k)
  have hc3 := szB_cases d.size k
  refine brB_intro (fun h => EndQ.closed (.v _) ⟨?_, rfl⟩) (fun h => EndQ.closed (.v _) ⟨?_, rfl⟩)
  · have h : szB (d.wr.length + sumL (fun x => x.2.length) d.wr) (szB (d.sh.length + sumL List.length d.sh) k) < 0 := by simpa using h
    rw [show szB d.size k = -1 by omega]
  · have h : 0 ≤ szB (d.wr.length + sumL (fun x => x.2.length) d.wr) (szB (d.sh.length + sumL List.length d.sh) k) := by simpa using h
    rw [show szB d.size k = szB (d.wr.length + sumL (fun x => x.2.length) d.wr) (szB (d.sh.length + sumL List.length d.sh) k) by omega]
theorem sumL_mem {α : Type} (f : α → Nat) {xs : List α} {x : α} (h : x ∈ xs) : f x ≤ sumL f xs := by
  induction xs with
  | nil => cases h
  | cons y r ih =>
    rw [sumL_cons]
    rcases List.mem_cons.1 h with rfl | h
    · omega
    · have := ih h; omega
theorem Dk.fits_of {d : Dk} {M : Nat} (h : d.size ≤ M) : d.fits M := by
  unfold Dk.size at h
  refine ⟨by omega, fun x hx => ?_, by omega, fun x hx => ?_⟩
  · have := sumL_mem List.length hx; omega
  · have := sumL_mem (fun x : Int × List UInt8 => x.2.length) hx; omega
end Go.Proofs.YtnnmpdanfeejbaaGreat.Abs

/- The laws' helpers on sheets, writes, disks: equality, marks. -/
namespace Go.Proofs.YtnnmpdanfeejbaaGreat.Abs
open Go Go.Proofs
set_option maxRecDepth 10000
set_option linter.unusedVariables false
set_option linter.unusedSimpArgs false
theorem eqSheet_ok (l m : List UInt8) (hl : l.length ≤ 2^40) : CallOk Tryz.prog 111 [] [.ag [Rw (eB l)], .ag [Rw (eB m)]] (fun r out => r = Bo (decide (l = m)) ∧ out = []) := by
  refine callOk_z (np := 0) {} mixed Tryz.func111 (by rfl) Tryz.ntmps111 Tryz.results111 (by rfl) (Nat.le_of_ble_eq_true rfl) rfl rfl rfl (vc ?_)
  refine callq_of false [] (eqByteS_ok l m hl) rfl trivial (vc trivial) ?_
  rintro r out ⟨rfl, rfl⟩
  refine ⟨by simp, by simp, by simp, vc ?_⟩
  refine brB_intro (fun h => EndQ.closed (.v _) ⟨?_, rfl⟩) (fun h => EndQ.closed (.v _) ⟨?_, rfl⟩)
  · have h : ¬ l = m := by simpa using h
    simp [h]
  · have h : l = m := by simpa using h
    simp [h]
theorem eqSheetS_ok (xs ys : List (List UInt8)) (hl : xs.length ≤ 2^40) (hs : ∀ x ∈ xs, x.length ≤ 2^40) : CallOk Tryz.prog 52 [] [Rw (xs.map (shC false)), Rw (ys.map (shC false))] (fun r out => r = Bo (decide (xs = ys)) ∧ out = []) := by
  refine callOk_z (np := 0) {} mixed Tryz.func52 (by rfl) Tryz.ntmps52 Tryz.results52 (by rfl) (Nat.le_of_ble_eq_true rfl) rfl rfl rfl (vc ?_)
  refine brB_intro (fun h => EndQ.closed (.v _) ⟨?_, rfl⟩) (fun h => ?_)
  · have : xs ≠ ys := fun e => by simp [e] at h
    simp [this]
  have h0 : xs.length = ys.length := by
    have : ((xs.length : Nat) : Int) = ys.length := by simpa using h
    omega
  refine loopQ_of (fun i => [(0, Rw (xs.map (shC false))), (1, Rw (ys.map (shC false))), (5, In (i : Nat))]) (fun i => []) 1 (fun i => xs.length - i) (fun i => i ≤ xs.length ∧ xs.take i = ys.take i) 0 ⟨Nat.zero_le _, rfl⟩ [] (by rfl) (vc trivial) (vc trivial) (fun i hi N hN => vc (brB_intro (fun h => ?_) (fun h => ?_)))
  · have h : i < xs.length := by simpa using h
    have hx := List.getElem?_eq_getElem h
    have hy := List.getElem?_eq_getElem (h0 ▸ h)
    refine drawQ_of false (by rfl) (by simp) (vc ?_)
    rw [get_map hx, shC]
    refine vc ?_
    rw [get_map hy, shC]
    refine vc ?_
    refine calld_of [] false [] (eqSheet_ok xs[i] ys[i] (hs _ (List.getElem_mem h))) rfl trivial (vc trivial) (by rfl) ⟨_, _, rfl, rfl⟩ ?_
    rintro r out ⟨rfl, rfl⟩
    refine ⟨by simp, by simp, by simp, vc ?_⟩
    refine brB_intro (fun hb => EndQ.closed (.v _) ⟨?_, rfl⟩) (fun hb => ?_)
    · have hb : ¬ xs[i] = ys[i] := by simpa using hb
      have : xs ≠ ys := fun e => by subst e; exact hb rfl
      simp [this]
    · have hb : xs[i] = ys[i] := by simpa using hb
      refine hN _ (i + 1) [] ⟨h, take_next hi.2 hx hy hb⟩ (by omega) (by rfl) (vc ?_) (vc trivial)
      rw [w64 _ (by omega)]; simp
  · have h : i = xs.length := by simp at h; omega
    refine EndQ.closed (.v _) ⟨?_, rfl⟩
    have : xs = ys := by have := hi.2; rw [h, List.take_length, h0, List.take_length] at this; exact this
    simp [this]
theorem markSheetS_ok (ty : Nat) (xs : List (List UInt8)) (k : Int) (hl : xs.length ≤ 2^60) (hk : 0 ≤ k ∧ k + sumL List.length xs ≤ 2^60) : CallOk Tryz.prog 54 [.rw ty 1 (xs.map (shC true))] [.sl 1 xs.length, In k]
    (fun r out => r = In (k + sumL List.length xs) ∧ out = [some (.rw ty 1 ((mkL (fun x k => mkB x.length k) List.length xs k).map (shC true)))]) := by
  refine callOk_z (np := 1) { fs := [(4, 4)] } mixed Tryz.func54 (by rfl) Tryz.ntmps54 Tryz.results54 (by rfl) (Nat.le_of_ble_eq_true rfl) rfl rfl rfl (vc ?_)
  generalize hM : mkL (fun (x : List UInt8) k => mkB x.length k) List.length xs k = M
  have hl' : M.length = xs.length := by rw [← hM, mkL_length]
  refine loopQ_of (fun i => [(0, .sl 1 xs.length), (1, In (k + (sumL List.length (xs.take i) : Nat))), (5, In (i : Nat))]) (fun i => [(1, .rw ty 1 ((M.take i ++ xs.drop i).map (shC true)))]) 2 (fun i => xs.length - i) (fun i => i ≤ xs.length) 0 (Nat.zero_le _) [] (by rfl) (vc ?_) (vc ?_) (fun i hi N hN => vc (brB_intro (fun h => ?_) (fun h => ?_)))
  · simp [sumL_nil]
  · simp [HpS, wkO]
  · have h : i < xs.length := by simpa using h
    have hx := List.getElem?_eq_getElem h
    have hm : M[i]? = some (mkB xs[i].length (k + sumL List.length (xs.take i))) := by rw [← hM, mkL_get _ _ hx]
    refine fuseQ_of (vc ?_)
    refine ⟨⟨h, by simp; omega⟩, ?_⟩
    by_cases h0 : xs[i] = []
    · refine fsK_seq (vc ?_)
      rw [mix_get (shC true) hl' hx, h0, shC]
      refine vc ?_
      refine callq_of true [] (markByteS_nil (k + sumL List.length (xs.take i)) ⟨by omega, by have := sumL_le List.length xs i; omega⟩ true) rfl trivial (vc trivial) ?_
      rintro r out ⟨rfl, rfl⟩
      refine ⟨by simp, by simp, fun _ => ⟨.v _, by simp⟩, vc ?_⟩
      refine hN _ (i + 1) [] h (by omega) (by rfl) (vc ?_) (vc ?_)
      · rw [w64 _ (by omega), sumL_next _ hx, h0]; simp
      · rw [h0] at hm
        rw [← mix_set (shC true) hl' hm]
        exact (set_self (by rw [mix_get (shC true) hl' hx, h0]; rfl)).symm
    · refine fsK_tri rfl ⟨rfl, rfl, rfl, rfl, rfl, rfl, rfl, rfl⟩ (by rfl) ti69 rfl rfl rfl (mix_get (shC true) hl' hx) rfl (by simpa [eB] using h0) rfl 1 (eB_one _) _ (eB_length _).symm (fun ty' => markByteS_ok ty' xs[i] (k + sumL List.length (xs.take i)) (by have := sumL_le List.length xs (i + 1); rw [sumL_next _ hx] at this; omega)) (by rfl) (by simp [eB, mkB]) (own_eB _) (vc ?_)
      refine hN _ (i + 1) [] h (by omega) (by rfl) (vc ?_) (vc ?_)
      · rw [w64 _ (by omega), sumL_next _ hx]; simp; omega
      · exact mix_set (shC true) hl' hm
  · have h : i = xs.length := by simp at h; omega
    refine endQ_of [] (In (k + sumL List.length xs)) [some (.rw ty 1 (M.map (shC true)))] (by rfl) (vc ?_) (vc ?_) ⟨rfl, rfl⟩
    · rw [h, List.take_length]
    · rw [mix_all hl' h]
theorem heldSheetS_ok (xs : List (List UInt8)) (k : Int) (hl : xs.length ≤ 2^60) (hk : 0 ≤ k ∧ k + sumL List.length xs ≤ 2^60) : CallOk Tryz.prog 113 [] [Rw (xs.map (shC false)), In k]
    (fun r out => r = In (if xs = mkL (fun x k => mkB x.length k) List.length xs k then k + sumL List.length xs else -1) ∧ out = []) := by
  refine callOk_z (np := 0) {} mixed Tryz.func113 (by rfl) Tryz.ntmps113 Tryz.results113 (by rfl) (Nat.le_of_ble_eq_true rfl) rfl rfl rfl (vc ?_)
  generalize hM : mkL (fun (x : List UInt8) k => mkB x.length k) List.length xs k = M
  have hl' : M.length = xs.length := by rw [← hM, mkL_length]
  refine loopQ_of (fun i => [(0, Rw (xs.map (shC false))), (1, In (k + (sumL List.length (xs.take i) : Nat))), (5, In (i : Nat))]) (fun i => []) 1 (fun i => xs.length - i) (fun i => i ≤ xs.length ∧ xs.take i = M.take i) 0 ⟨Nat.zero_le _, rfl⟩ [] (by rfl) (vc ?_) (vc trivial) (fun i hi N hN => vc (brB_intro (fun h => ?_) (fun h => ?_)))
  · simp [sumL_nil]
  · have h : i < xs.length := by simpa using h
    have hx := List.getElem?_eq_getElem h
    have hm : M[i]? = some (mkB xs[i].length (k + sumL List.length (xs.take i))) := by rw [← hM, mkL_get _ _ hx]
    have hle := sumL_le List.length xs (i + 1)
    rw [sumL_next _ hx] at hle
    rw [get_map hx, shC]
    refine vc ?_
    refine callq_of false [] (heldByteS_ok xs[i] (k + sumL List.length (xs.take i)) (by omega)) rfl trivial (vc trivial) ?_
    rintro r out ⟨rfl, rfl⟩
    refine ⟨by simp, by simp, by simp, vc ?_⟩
    by_cases he : xs[i] = mkB xs[i].length (k + sumL List.length (xs.take i))
    · rw [if_pos he]
      refine brB_intro (fun hb => ?_) (fun hb => ?_)
      · have hb : k + sumL List.length (xs.take i) + xs[i].length < 0 := by simpa using hb
        omega
      · refine hN _ (i + 1) [] ⟨h, take_next hi.2 hx hm he⟩ (by omega) (by rfl) (vc ?_) (vc trivial)
        rw [w64 _ (by omega), sumL_next _ hx]; simp; omega
    · rw [if_neg he]
      refine brB_intro (fun hb => EndQ.closed (.v _) ⟨?_, rfl⟩) (fun hb => absurd hb (by decide))
      rw [if_neg (fun e => he (by rw [← e, hx] at hm; exact Option.some.inj hm))]
  · have h : i = xs.length := by simp at h; omega
    refine EndQ.closed (.v _) ⟨?_, rfl⟩
    have : xs = M := by have := hi.2; rw [h, List.take_length, ← hl', List.take_length] at this; exact this
    rw [if_pos this, h, List.take_length]
theorem eqWrite_ok (a b : Int) (l m : List UInt8) (hl : l.length ≤ 2^40) : CallOk Tryz.prog 112 [] [.ag [In a, Rw (eB l)], .ag [In b, Rw (eB m)]] (fun r out => r = Bo (decide ((a, l) = (b, m))) ∧ out = []) := by
  refine callOk_z (np := 0) {} mixed Tryz.func112 (by rfl) Tryz.ntmps112 Tryz.results112 (by rfl) (Nat.le_of_ble_eq_true rfl) rfl rfl rfl (vc ?_)
  refine brB_intro (fun h => EndQ.closed (.v _) ⟨?_, rfl⟩) (fun h => ?_)
  · have h : ¬ a = b := by simpa using h
    simp [h]
  have h : a = b := by simpa using h
  refine callq_of false [] (eqByteS_ok l m hl) rfl trivial (vc trivial) ?_
  rintro r out ⟨rfl, rfl⟩
  refine ⟨by simp, by simp, by simp, vc ?_⟩
  refine brB_intro (fun h => EndQ.closed (.v _) ⟨?_, rfl⟩) (fun h => EndQ.closed (.v _) ⟨?_, rfl⟩)
  · have h : ¬ l = m := by simpa using h
    simp [h]
  · have h : l = m := by simpa using h
    simp [*]
theorem eqWriteS_ok (xs ys : List (Int × List UInt8)) (hl : xs.length ≤ 2^40) (hs : ∀ x ∈ xs, x.2.length ≤ 2^40) : CallOk Tryz.prog 53 [] [Rw (xs.map (wrC false)), Rw (ys.map (wrC false))] (fun r out => r = Bo (decide (xs = ys)) ∧ out = []) := by
  refine callOk_z (np := 0) {} mixed Tryz.func53 (by rfl) Tryz.ntmps53 Tryz.results53 (by rfl) (Nat.le_of_ble_eq_true rfl) rfl rfl rfl (vc ?_)
  refine brB_intro (fun h => EndQ.closed (.v _) ⟨?_, rfl⟩) (fun h => ?_)
  · have : xs ≠ ys := fun e => by simp [e] at h
    simp [this]
  have h0 : xs.length = ys.length := by
    have : ((xs.length : Nat) : Int) = ys.length := by simpa using h
    omega
  refine loopQ_of (fun i => [(0, Rw (xs.map (wrC false))), (1, Rw (ys.map (wrC false))), (5, In (i : Nat))]) (fun i => []) 1 (fun i => xs.length - i) (fun i => i ≤ xs.length ∧ xs.take i = ys.take i) 0 ⟨Nat.zero_le _, rfl⟩ [] (by rfl) (vc trivial) (vc trivial) (fun i hi N hN => vc (brB_intro (fun h => ?_) (fun h => ?_)))
  · have h : i < xs.length := by simpa using h
    have hx := List.getElem?_eq_getElem h
    have hy := List.getElem?_eq_getElem (h0 ▸ h)
    refine drawQ_of false (by rfl) (by simp) (vc ?_)
    rw [get_map hx, wrC]
    refine vc ?_
    rw [get_map hy, wrC]
    refine vc ?_
    refine calld_of [] false [] (eqWrite_ok xs[i].1 ys[i].1 xs[i].2 ys[i].2 (hs _ (List.getElem_mem h))) rfl trivial (vc trivial) (by rfl) ⟨_, _, rfl, rfl⟩ ?_
    rintro r out ⟨rfl, rfl⟩
    refine ⟨by simp, by simp, by simp, vc ?_⟩
    refine brB_intro (fun hb => EndQ.closed (.v _) ⟨?_, rfl⟩) (fun hb => ?_)
    · have hb : ¬ xs[i] = ys[i] := fun e => by rw [e] at hb; simp at hb
      have : xs ≠ ys := fun e => by subst e; exact hb rfl
      simp [this]
    · have hb : xs[i] = ys[i] := by simpa [Prod.ext_iff] using hb
      refine hN _ (i + 1) [] ⟨h, take_next hi.2 hx hy hb⟩ (by omega) (by rfl) (vc ?_) (vc trivial)
      rw [w64 _ (by omega)]; simp
  · have h : i = xs.length := by simp at h; omega
    refine EndQ.closed (.v _) ⟨?_, rfl⟩
    have : xs = ys := by have := hi.2; rw [h, List.take_length, h0, List.take_length] at this; exact this
    simp [this]

theorem eqDisk_ok (d e : Dk) (hd : d.fits (2^40)) : CallOk Tryz.prog 13 [] [d.rd, e.rd] (fun r out => r = Bo (decide (d = e)) ∧ out = []) := by
  unfold Dk.rd
  refine callOk_z (np := 0) {} mixed Tryz.func13 (by rfl) Tryz.ntmps13 Tryz.results13 (by rfl) (Nat.le_of_ble_eq_true rfl) rfl rfl rfl (vc ?_)
  refine callq_of false [] (eqSheetS_ok d.sh e.sh hd.1 hd.2.1) rfl trivial (vc trivial) ?_
  rintro r out ⟨rfl, rfl⟩
  refine ⟨by simp, by simp, by simp, vc ?_⟩
  refine brB_intro (fun h => EndQ.closed (.v _) ⟨?_, rfl⟩) (fun h => ?_)
  · have h : ¬ d.sh = e.sh := by simpa using h
    have : d ≠ e := fun x => h (by rw [x])
    simp [this]
  have h : d.sh = e.sh := by simpa using h
  refine callq_of false [] (eqWriteS_ok d.wr e.wr hd.2.2.1 hd.2.2.2) rfl trivial (vc trivial) ?_
  rintro r out ⟨rfl, rfl⟩
  refine ⟨by simp, by simp, by simp, vc ?_⟩
  refine brB_intro (fun h => EndQ.closed (.v _) ⟨?_, rfl⟩) (fun h => EndQ.closed (.v _) ⟨?_, rfl⟩)
  · have h : ¬ d.wr = e.wr := by simpa using h
    have : d ≠ e := fun x => h (by rw [x])
    simp [this]
  · have h : d.wr = e.wr := by simpa using h
    have : d = e := by cases d; cases e; simp_all
    simp [this]
def mkW (x : Int × List UInt8) (k : Int) : Int × List UInt8 := (k, mkB x.2.length (k + 1))
def cntW (x : Int × List UInt8) : Nat := x.2.length + 1
theorem markWriteS_ok (ty : Nat) (xs : List (Int × List UInt8)) (k : Int) (hl : xs.length ≤ 2^60) (hk : 0 ≤ k ∧ k + sumL cntW xs ≤ 2^60) : CallOk Tryz.prog 55 [.rw ty 2 (xs.map (wrC true))] [.sl 1 xs.length, In k]
    (fun r out => r = In (k + sumL cntW xs) ∧ out = [some (.rw ty 2 ((mkL mkW cntW xs k).map (wrC true)))]) := by
  refine callOk_z (np := 1) { fs := [(6, 4)] } mixed Tryz.func55 (by rfl) Tryz.ntmps55 Tryz.results55 (by rfl) (Nat.le_of_ble_eq_true rfl) rfl rfl rfl (vc ?_)
  generalize hM : mkL mkW cntW xs k = M
  have hl' : M.length = xs.length := by rw [← hM, mkL_length]
  refine loopQ_of (fun i => [(0, .sl 1 xs.length), (1, In (k + (sumL cntW (xs.take i) : Nat))), (5, In (i : Nat))]) (fun i => [(1, .rw ty 2 ((M.take i ++ xs.drop i).map (wrC true)))]) 2 (fun i => xs.length - i) (fun i => i ≤ xs.length) 0 (Nat.zero_le _) [] (by rfl) (vc ?_) (vc ?_) (fun i hi N hN => vc (brB_intro (fun h => ?_) (fun h => ?_)))
  · simp [sumL_nil]
  · simp [HpS, wkO]
  · have h : i < xs.length := by simpa using h
    have hx := List.getElem?_eq_getElem h
    have hm : M[i]? = some (mkW xs[i] (k + sumL cntW (xs.take i))) := by rw [← hM, mkL_get _ _ hx]
    have hle := sumL_le cntW xs (i + 1)
    rw [sumL_next _ hx, cntW] at hle
    refine ⟨⟨h, by simp; omega⟩, ?_⟩
    rw [mix_get (wrC true) hl' hx, wrC]
    refine vc ?_
    generalize hA : (M.take i ++ xs.drop i).map (wrC true) = A
    have hAl : A.length = xs.length := by rw [← hA]; simp; omega
    have hset : (A.set i [CV.v (.int .i64 (k + ↑(sumL cntW (xs.take i)))), CV.row true (eB xs[i].2)])[i]? = some _ := List.getElem?_set_self (by omega)
    rw [w64 (k + _ + 1) (by omega)]
    refine fuseQ_of (vc ?_)
    refine ⟨⟨h, by omega⟩, ?_⟩
    by_cases h0 : xs[i].2 = []
    · refine fsK_seq (vc ?_)
      rw [hset, h0]
      refine vc ?_
      refine callq_of true [] (markByteS_nil (k + sumL cntW (xs.take i) + 1) (by omega) true) rfl trivial (vc trivial) ?_
      rintro r out ⟨rfl, rfl⟩
      refine ⟨by simp, by simp, fun _ => ⟨.v _, by simp⟩, vc ?_⟩
      refine hN _ (i + 1) [] h (by omega) (by rfl) (vc ?_) (vc ?_)
      · rw [w64 _ (by omega), sumL_next _ hx, cntW, h0]; simp; omega
      · rw [mkW, h0] at hm
        rw [← mix_set (wrC true) hl' hm, hA]; rfl
    · refine fsK_tri rfl ⟨rfl, rfl, rfl, rfl, rfl, rfl, rfl, rfl⟩ (by rfl) ti69 rfl rfl rfl hset rfl (by simpa [eB] using h0) rfl 1 (eB_one _) _ (eB_length _).symm (fun ty' => markByteS_ok ty' xs[i].2 (k + sumL cntW (xs.take i) + 1) (by omega)) (by rfl) (by simp [eB, mkB]) (own_eB _) (vc ?_)
      refine hN _ (i + 1) [] h (by omega) (by rfl) (vc ?_) (vc ?_)
      · rw [w64 _ (by omega), sumL_next _ hx, cntW]; simp; omega
      · rw [← mix_set (wrC true) hl' hm, hA]; rfl
  · have h : i = xs.length := by simp at h; omega
    refine endQ_of [] (In (k + sumL cntW xs)) [some (.rw ty 2 (M.map (wrC true)))] (by rfl) (vc ?_) (vc ?_) ⟨rfl, rfl⟩
    · rw [h, List.take_length]
    · rw [mix_all hl' h]
theorem heldWriteS_ok (xs : List (Int × List UInt8)) (k : Int) (hl : xs.length ≤ 2^60) (hk : 0 ≤ k ∧ k + sumL cntW xs ≤ 2^60) : CallOk Tryz.prog 114 [] [Rw (xs.map (wrC false)), In k]
    (fun r out => r = In (if xs = mkL mkW cntW xs k then k + sumL cntW xs else -1) ∧ out = []) := by
  refine callOk_z (np := 0) {} mixed Tryz.func114 (by rfl) Tryz.ntmps114 Tryz.results114 (by rfl) (Nat.le_of_ble_eq_true rfl) rfl rfl rfl (vc ?_)
  generalize hM : mkL mkW cntW xs k = M
  have hl' : M.length = xs.length := by rw [← hM, mkL_length]
  refine loopQ_of (fun i => [(0, Rw (xs.map (wrC false))), (1, In (k + (sumL cntW (xs.take i) : Nat))), (5, In (i : Nat))]) (fun i => []) 1 (fun i => xs.length - i) (fun i => i ≤ xs.length ∧ xs.take i = M.take i) 0 ⟨Nat.zero_le _, rfl⟩ [] (by rfl) (vc ?_) (vc trivial) (fun i hi N hN => vc (brB_intro (fun h => ?_) (fun h => ?_)))
  · simp [sumL_nil]
  · have h : i < xs.length := by simpa using h
    have hx := List.getElem?_eq_getElem h
    have hm : M[i]? = some (mkW xs[i] (k + sumL cntW (xs.take i))) := by rw [← hM, mkL_get _ _ hx]
    have hle := sumL_le cntW xs (i + 1)
    rw [sumL_next _ hx, cntW] at hle
    have hne : xs[i] ≠ mkW xs[i] (k + sumL cntW (xs.take i)) → ¬ xs = M := fun he e => he (by rw [← e, hx] at hm; exact Option.some.inj hm)
    rw [get_map hx, wrC]
    refine vc ?_
    refine brB_intro (fun hb => EndQ.closed (.v _) ⟨?_, rfl⟩) (fun hb => ?_)
    · have hb : ¬ xs[i].1 = k + sumL cntW (xs.take i) := by simpa using hb
      rw [if_neg (hne (fun e => hb (congrArg Prod.fst e)))]
    have hb : xs[i].1 = k + sumL cntW (xs.take i) := by simpa using hb
    rw [w64 (k + _ + 1) (by omega), get_map hx, wrC]
    refine vc ?_
    refine callq_of false [] (heldByteS_ok xs[i].2 (k + sumL cntW (xs.take i) + 1) (by omega)) rfl trivial (vc trivial) ?_
    rintro r out ⟨rfl, rfl⟩
    refine ⟨by simp, by simp, by simp, vc ?_⟩
    by_cases he : xs[i].2 = mkB xs[i].2.length (k + sumL cntW (xs.take i) + 1)
    · rw [if_pos he]
      refine brB_intro (fun hb => ?_) (fun hb => ?_)
      · have hb : k + sumL cntW (xs.take i) + 1 + xs[i].2.length < 0 := by simpa using hb
        omega
      · refine hN _ (i + 1) [] ⟨h, take_next hi.2 hx hm (Prod.ext (by assumption) he)⟩ (by omega) (by rfl) (vc ?_) (vc trivial)
        rw [w64 _ (by omega), sumL_next _ hx, cntW]; simp; omega
    · rw [if_neg he]
      refine brB_intro (fun hb => EndQ.closed (.v _) ⟨?_, rfl⟩) (fun hb => absurd hb (by decide))
      rw [if_neg (hne (fun e => he (congrArg Prod.snd e)))]
  · have h : i = xs.length := by simp at h; omega
    refine EndQ.closed (.v _) ⟨?_, rfl⟩
    have : xs = M := by have := hi.2; rw [h, List.take_length, ← hl', List.take_length] at this; exact this
    rw [if_pos this, h, List.take_length]
/-- What a mark writes into a disk. -/
def Dk.cnt (d : Dk) : Nat := sumL List.length d.sh + sumL cntW d.wr
def mkD (d : Dk) (k : Int) : Dk := ⟨mkL (fun x k => mkB x.length k) List.length d.sh k, mkL mkW cntW d.wr (k + sumL List.length d.sh)⟩
theorem mkB_idem (x : List UInt8) (k : Int) : mkB (mkB x.length k).length k = mkB x.length k ∧ (mkB x.length k).length = x.length := by
  rw [mkB_length]; exact ⟨rfl, rfl⟩
theorem mkW_idem (x : Int × List UInt8) (k : Int) : mkW (mkW x k) k = mkW x k ∧ cntW (mkW x k) = cntW x := by
  simp [mkW, cntW, mkB_length]
theorem mkD_idem (d : Dk) (k : Int) : mkD (mkD d k) k = mkD d k ∧ (mkD d k).cnt = d.cnt := by
  have h1 := mkL_idem (f := fun x k => mkB x.length k) (c := List.length) mkB_idem d.sh k
  have h2 := mkL_idem (c := cntW) mkW_idem d.wr (k + sumL List.length d.sh)
  simp only [mkD, Dk.cnt]
  rw [h1.1, h1.2, h2.1, h2.2]
  exact ⟨rfl, rfl⟩
theorem markDisk_ok (ty ty' : Nat) (d : Dk) (k : Int) (hl : d.sh.length ≤ 2^60 ∧ d.wr.length ≤ 2^60) (hk : 0 ≤ k ∧ k + d.cnt ≤ 2^60) : CallOk Tryz.prog 14 [.rw ty 1 (d.sh.map (shC true)), .rw ty' 2 (d.wr.map (wrC true))] [d.ow, In k]
    (fun r out => r = In (k + d.cnt) ∧ out = [some (.rw ty 1 ((mkD d k).sh.map (shC true))), some (.rw ty' 2 ((mkD d k).wr.map (wrC true)))]) := by
  unfold Dk.ow
  unfold Dk.cnt at hk ⊢
  refine callOk_z (np := 2) {} mixed Tryz.func14 (by rfl) Tryz.ntmps14 Tryz.results14 (by rfl) (Nat.le_of_ble_eq_true rfl) rfl rfl rfl (vc ?_)
  refine callq_of false [1] (markSheetS_ok ty d.sh k hl.1 (by omega)) rfl (vc trivial) (vc trivial) ?_
  rintro r out ⟨rfl, rfl⟩
  refine ⟨by simp, by simp, by simp, vc ?_⟩
  refine callq_of false [2] (markWriteS_ok ty' d.wr (k + sumL List.length d.sh) hl.2 (by omega)) rfl (vc trivial) (vc trivial) ?_
  rintro r out ⟨rfl, rfl⟩
  refine ⟨by simp, by simp, by simp, vc ?_⟩
  refine endQ_of [] (In (k + (sumL List.length d.sh + sumL cntW d.wr : Nat))) [some (.rw ty 1 ((mkD d k).sh.map (shC true))), some (.rw ty' 2 ((mkD d k).wr.map (wrC true)))] (by rfl) (vc ?_) (vc ?_) ⟨rfl, rfl⟩
  all_goals trace_state
  · omega
  · exact ⟨rfl, rfl⟩
theorem heldDisk_ok (d : Dk) (k : Int) (hl : d.sh.length ≤ 2^60 ∧ d.wr.length ≤ 2^60) (hk : 0 ≤ k ∧ k + d.cnt ≤ 2^60) : CallOk Tryz.prog 56 [] [d.rd, In k]
    (fun r out => r = In (if d = mkD d k then k + d.cnt else -1) ∧ out = []) := by
  unfold Dk.rd
  unfold Dk.cnt at hk ⊢
  refine callOk_z (np := 0) {} mixed Tryz.func56 (by rfl) Tryz.ntmps56 Tryz.results56 (by rfl) (Nat.le_of_ble_eq_true rfl) rfl rfl rfl (vc ?_)
  refine callq_of false [] (heldSheetS_ok d.sh k hl.1 (by omega)) rfl trivial (vc trivial) ?_
  rintro r out ⟨rfl, rfl⟩
  refine ⟨by simp, by simp, by simp, vc ?_⟩
  by_cases h1 : d.sh = mkL (fun x k => mkB x.length k) List.length d.sh k
  · rw [if_pos h1]
    refine brB_intro (fun h => ?_) (fun h => ?_)
    · have h : k + sumL List.length d.sh < 0 := by simpa using h
      omega
    refine callq_of false [] (heldWriteS_ok d.wr (k + sumL List.length d.sh) hl.2 (by omega)) rfl trivial (vc trivial) ?_
    rintro r out ⟨rfl, rfl⟩
    refine ⟨by simp, by simp, by simp, vc ?_⟩
    by_cases h2 : d.wr = mkL mkW cntW d.wr (k + sumL List.length d.sh)
    · rw [if_pos h2]
      have he : d = mkD d k := by rw [mkD, ← h1, ← h2]
      refine brB_intro (fun h => ?_) (fun h => EndQ.closed (.v _) ⟨?_, rfl⟩)
      · have h : k + sumL List.length d.sh + sumL cntW d.wr < 0 := by simpa using h
        omega
      · rw [if_pos he, Int.natCast_add, Int.add_assoc]
    · rw [if_neg h2]
      refine brB_intro (fun hb => EndQ.closed (.v _) ⟨?_, rfl⟩) (fun hb => absurd hb (by decide))
      rw [if_neg (fun e => h2 (congrArg Dk.wr e))]
  · rw [if_neg h1]
    refine brB_intro (fun hb => EndQ.closed (.v _) ⟨?_, rfl⟩) (fun hb => absurd hb (by decide))
    rw [if_neg (fun e => h1 (congrArg Dk.sh e))]
theorem mkD_lens (d : Dk) (k : Int) : (mkD d k).sh.length = d.sh.length ∧ (mkD d k).wr.length = d.wr.length := ⟨mkL_length .., mkL_length ..⟩
theorem heldMarked_ok (d : Dk) (k : Int) (hl : d.sh.length ≤ 2^60 ∧ d.wr.length ≤ 2^60) (hk : 0 ≤ k ∧ k + d.cnt ≤ 2^60) : CallOk Tryz.prog 56 [] [(mkD d k).rd, In k] (fun r out => r = In (k + d.cnt) ∧ out = []) := by
  have h := heldDisk_ok (mkD d k) k (by rw [(mkD_lens d k).1, (mkD_lens d k).2]; exact hl) (by rw [(mkD_idem d k).2]; exact hk)
  rwa [(mkD_idem d k).1, (mkD_idem d k).2, if_pos rfl] at h
end Go.Proofs.YtnnmpdanfeejbaaGreat.Abs

/- The laws' helpers on strings, numbers, pairs, nodes, trees: their contracts. -/
namespace Go.Proofs.YtnnmpdanfeejbaaGreat.Abs
open Go Go.Proofs
set_option maxRecDepth 10000
set_option linter.unusedVariables false
set_option linter.unusedSimpArgs false
theorem toStringS_ok (xs : List (ByteArray)) (hl : xs.length ≤ 2^40) (hs : ∀ x ∈ xs, True) : CallOk Tryz.prog 178 [] [Rw (xs.map stC)] (fun r out => r = .sl 1 xs.length ∧ out = [some (.rw 9 1 (xs.map stC))]) := by
  refine callOk_z (np := 0) {} mixed Tryz.func178 (by rfl) Tryz.ntmps178 Tryz.results178 (by rfl) (Nat.le_of_ble_eq_true rfl) rfl rfl rfl (vc ?_)
  refine ⟨⟨by omega, by omega⟩, ?_⟩
  refine loopQ_of (fun i => [(0, Rw (xs.map stC)), (3, .sl 1 xs.length), (4, In (i : Nat))]) (fun i => [(1, .rw 9 1 ((xs.take i).map stC ++ List.replicate (xs.length - i) [.v (.string ⟨#[]⟩)]))]) 2 (fun i => xs.length - i) (fun i => i ≤ xs.length) 0 (Nat.zero_le _) [(1, 25)] (by rfl) (vc trivial) (vc ?_) (fun i hi N hN => vc (brB_intro (fun h => ?_) (fun h => ?_)))
  · rfl
  · have h : i < xs.length := by simpa using h
    have hx := List.getElem?_eq_getElem h
    rw [get_map hx, stC]
    refine vc ?_
    refine ⟨⟨h, by simp; omega⟩, ?_⟩
    rw [fill_get _ _ _ _ h]
    refine vc ?_
    refine hN _ (i + 1) [] h (by omega) (by rfl) (vc ?_) (vc ?_)
    · rw [w64 _ (by omega)]; simp
    · exact fill_set stC _ xs i _ hx
  · have h : i = xs.length := by simp at h; omega
    refine endQ_of [] (.sl 1 xs.length) [some (.rw 9 1 (xs.map stC))] (by rfl) (vc trivial) (vc ?_) ⟨rfl, rfl⟩
    simp [h]
theorem toIntS_ok (xs : List (Int)) (hl : xs.length ≤ 2^40) (hs : ∀ x ∈ xs, True) : CallOk Tryz.prog 61 [] [Rw (xs.map inC)] (fun r out => r = .sl 1 xs.length ∧ out = [some (.rw 3 1 (xs.map inC))]) := by
  refine callOk_z (np := 0) {} mixed Tryz.func61 (by rfl) Tryz.ntmps61 Tryz.results61 (by rfl) (Nat.le_of_ble_eq_true rfl) rfl rfl rfl (vc ?_)
  refine ⟨⟨by omega, by omega⟩, ?_⟩
  refine loopQ_of (fun i => [(0, Rw (xs.map inC)), (3, .sl 1 xs.length), (4, In (i : Nat))]) (fun i => [(1, .rw 3 1 ((xs.take i).map inC ++ List.replicate (xs.length - i) [.v (.int .i64 0)]))]) 2 (fun i => xs.length - i) (fun i => i ≤ xs.length) 0 (Nat.zero_le _) [(1, 25)] (by rfl) (vc trivial) (vc ?_) (fun i hi N hN => vc (brB_intro (fun h => ?_) (fun h => ?_)))
  · rfl
  · have h : i < xs.length := by simpa using h
    have hx := List.getElem?_eq_getElem h
    rw [get_map hx, inC]
    refine vc ?_
    refine ⟨⟨h, by simp; omega⟩, ?_⟩
    rw [fill_get _ _ _ _ h]
    refine vc ?_
    refine hN _ (i + 1) [] h (by omega) (by rfl) (vc ?_) (vc ?_)
    · rw [w64 _ (by omega)]; simp
    · exact fill_set inC _ xs i _ hx
  · have h : i = xs.length := by simp at h; omega
    refine endQ_of [] (.sl 1 xs.length) [some (.rw 3 1 (xs.map inC))] (by rfl) (vc trivial) (vc ?_) ⟨rfl, rfl⟩
    simp [h]
theorem toPair_ok (x : Pr) : CallOk Tryz.prog 200 [] [.ag [.c (.v (.string x.k)), .c (.v (.string x.v))]] (fun r out => r = .ag [.c (.v (.string x.k)), .c (.v (.string x.v))] ∧ out = []) := by
  refine callOk_z (np := 0) {} mixed Tryz.func200 (by rfl) Tryz.ntmps200 Tryz.results200 (by rfl) (Nat.le_of_ble_eq_true rfl) rfl rfl rfl (vc ?_)
  exact endQ_of [] (.ag [.c (.v (.string x.k)), .c (.v (.string x.v))]) [] (by rfl) (vc trivial) (vc trivial) ⟨rfl, rfl⟩
theorem toPairS_ok (xs : List (Pr)) (hl : xs.length ≤ 2^40) (hs : ∀ x ∈ xs, True) : CallOk Tryz.prog 177 [] [Rw (xs.map prC)] (fun r out => r = .sl 1 xs.length ∧ out = [some (.rw 141 2 (xs.map prC))]) := by
  refine callOk_z (np := 0) {} mixed Tryz.func177 (by rfl) Tryz.ntmps177 Tryz.results177 (by rfl) (Nat.le_of_ble_eq_true rfl) rfl rfl rfl (vc ?_)
  refine ⟨⟨by omega, by omega⟩, ?_⟩
  refine loopQ_of (fun i => [(0, Rw (xs.map prC)), (3, .sl 1 xs.length), (4, In (i : Nat))]) (fun i => [(1, .rw 141 2 ((xs.take i).map prC ++ List.replicate (xs.length - i) [.v (.string ⟨#[]⟩), .v (.string ⟨#[]⟩)]))]) 2 (fun i => xs.length - i) (fun i => i ≤ xs.length) 0 (Nat.zero_le _) [(1, 25)] (by rfl) (vc trivial) (vc ?_) (fun i hi N hN => vc (brB_intro (fun h => ?_) (fun h => ?_)))
  · rfl
  · have h : i < xs.length := by simpa using h
    have hx := List.getElem?_eq_getElem h
    rw [get_map hx, prC]
    refine vc ?_
    refine callq_of false [] (toPair_ok xs[i]) rfl trivial (vc trivial) ?_
    rintro r out ⟨rfl, rfl⟩
    refine ⟨by simp, by simp, by simp, vc ?_⟩
    refine ⟨⟨h, by simp; omega⟩, ?_⟩
    rw [fill_get _ _ _ _ h]
    refine vc ?_
    refine hN _ (i + 1) [] h (by omega) (by rfl) (vc ?_) (vc ?_)
    · rw [w64 _ (by omega)]; simp
    · exact fill_set prC _ xs i _ hx
  · have h : i = xs.length := by simp at h; omega
    refine endQ_of [] (.sl 1 xs.length) [some (.rw 141 2 (xs.map prC))] (by rfl) (vc trivial) (vc ?_) ⟨rfl, rfl⟩
    simp [h]
def Nd.fits (M : Nat) (n : Nd) : Prop := n.ps.length ≤ M ∧ n.ks.length ≤ M ∧ n.cs.length ≤ M ∧ (∀ p ∈ n.ps, p.k.size ≤ M ∧ p.v.size ≤ M) ∧ ∀ k ∈ n.ks, k.size ≤ M
theorem toNode_ok (x : Nd) (hx : x.fits (2^40)) : CallOk Tryz.prog 133 [] [.ag [Rw (x.ps.map prC), Rw (x.ks.map stC), Rw (x.cs.map inC)]]
    (fun r out => r = .ag [.sl 1 x.ps.length, .sl 2 x.ks.length, .sl 3 x.cs.length] ∧ out = [some (.rw 141 2 (x.ps.map prC)), some (.rw 9 1 (x.ks.map stC)), some (.rw 3 1 (x.cs.map inC))]) := by
  refine callOk_z (np := 0) {} mixed Tryz.func133 (by rfl) Tryz.ntmps133 Tryz.results133 (by rfl) (Nat.le_of_ble_eq_true rfl) rfl rfl rfl (vc ?_)
  refine callq_of false [] (toPairS_ok x.ps hx.1 (fun _ _ => trivial)) rfl trivial (vc trivial) ?_
  rintro r out ⟨rfl, rfl⟩
  refine ⟨by simp, by simp, by simp, vc ?_⟩
  refine callq_of false [] (toStringS_ok x.ks hx.2.1 (fun _ _ => trivial)) rfl trivial (vc trivial) ?_
  rintro r out ⟨rfl, rfl⟩
  refine ⟨by simp, by simp, by simp, vc ?_⟩
  refine callq_of false [] (toIntS_ok x.cs hx.2.2.1 (fun _ _ => trivial)) rfl trivial (vc trivial) ?_
  rintro r out ⟨rfl, rfl⟩
  refine ⟨by simp, by simp, by simp, vc ?_⟩
  exact endQ_of [(1, 41), (2, 81), (3, 121)] (.ag [.sl 1 x.ps.length, .sl 2 x.ks.length, .sl 3 x.cs.length]) [some (.rw 141 2 (x.ps.map prC)), some (.rw 9 1 (x.ks.map stC)), some (.rw 3 1 (x.cs.map inC))] (by rfl) (vc trivial) (vc trivial) ⟨rfl, rfl⟩
theorem toNodeS_ok (xs : List (Nd)) (hl : xs.length ≤ 2^40) (hs : ∀ x ∈ xs, x.fits (2^40)) : CallOk Tryz.prog 77 [] [Rw (xs.map (ndC false))] (fun r out => r = .sl 1 xs.length ∧ out = [some (.rw 111 3 (xs.map (ndC true)))]) := by
  refine callOk_z (np := 0) {} mixed Tryz.func77 (by rfl) Tryz.ntmps77 Tryz.results77 (by rfl) (Nat.le_of_ble_eq_true rfl) rfl rfl rfl (vc ?_)
  refine ⟨⟨by omega, by omega⟩, ?_⟩
  refine loopQ_of (fun i => [(0, Rw (xs.map (ndC false))), (3, .sl 1 xs.length), (4, In (i : Nat))]) (fun i => [(1, .rw 111 3 ((xs.take i).map (ndC true) ++ List.replicate (xs.length - i) [.row true [], .row true [], .row true []]))]) 2 (fun i => xs.length - i) (fun i => i ≤ xs.length) 0 (Nat.zero_le _) [(1, 25)] (by rfl) (vc trivial) (vc ?_) (fun i hi N hN => vc (brB_intro (fun h => ?_) (fun h => ?_)))
  · rfl
  · have h : i < xs.length := by simpa using h
    have hx := List.getElem?_eq_getElem h
    rw [get_map hx, ndC]
    refine vc ?_
    refine callq_of false [] (toNode_ok xs[i] (hs _ (List.getElem_mem h))) rfl trivial (vc trivial) ?_
    rintro r out ⟨rfl, rfl⟩
    refine ⟨by simp, by simp, by simp, vc ?_⟩
    refine ⟨⟨h, by simp; omega⟩, ?_⟩
    rw [fill_get _ _ _ _ h]
    refine vc ?_
    refine hN _ (i + 1) [] h (by omega) (by rfl) (vc ?_) (vc ?_)
    · rw [w64 _ (by omega)]; simp
    · exact fill_set (ndC true) _ xs i _ hx
  · have h : i = xs.length := by simp at h; omega
    refine endQ_of [] (.sl 1 xs.length) [some (.rw 111 3 (xs.map (ndC true)))] (by rfl) (vc trivial) (vc ?_) ⟨rfl, rfl⟩
    simp [h]
theorem toTree_ok (t : List Nd) (hl : t.length ≤ 2^40) (hs : ∀ x ∈ t, x.fits (2^40)) : CallOk Tryz.prog 25 [] [.ag [Rw (t.map (ndC false))]] (fun r out => r = .ag [.sl 1 t.length] ∧ out = [some (.rw 111 3 (t.map (ndC true)))]) := by
  refine callOk_z (np := 0) {} mixed Tryz.func25 (by rfl) Tryz.ntmps25 Tryz.results25 (by rfl) (Nat.le_of_ble_eq_true rfl) rfl rfl rfl (vc ?_)
  refine callq_of false [] (toNodeS_ok t hl hs) rfl trivial (vc trivial) ?_
  rintro r out ⟨rfl, rfl⟩
  refine ⟨by simp, by simp, by simp, vc ?_⟩
  exact endQ_of [(1, 41)] (.ag [.sl 1 t.length]) [some (.rw 111 3 (t.map (ndC true)))] (by rfl) (vc trivial) (vc trivial) ⟨rfl, rfl⟩
def szSt (s : ByteArray) : Nat := s.size
theorem szStringS_ok (xs : List (ByteArray)) (k : Int) (hl : xs.length ≤ 2^47) (hs : ∀ x ∈ xs, x.size ≤ 2^47) (hk : -1 ≤ k ∧ k ≤ 2^40) : CallOk Tryz.prog 176 [] [Rw (xs.map stC), In k] (fun r out => r = In (szB (xs.length + sumL szSt xs) k) ∧ out = []) := by
  refine callOk_z (np := 0) {} mixed Tryz.func176 (by rfl) Tryz.ntmps176 Tryz.results176 (by rfl) (Nat.le_of_ble_eq_true rfl) rfl rfl rfl (vc ?_)
  rw [w64 _ (by omega)]
  refine brB_intro (fun h => EndQ.closed (.v _) ⟨?_, rfl⟩) (fun h => ?_)
  · have h : k - xs.length < 0 := by simpa using h
    rw [szB, if_pos (by omega)]
  have h : 0 ≤ k - xs.length := by simpa using h
  refine loopQ_of (fun i => [(0, Rw (xs.map stC)), (1, In (k - xs.length - sumL szSt (xs.take i))), (5, In (i : Nat))]) (fun i => []) 1 (fun i => xs.length - i) (fun i => i ≤ xs.length ∧ (sumL szSt (xs.take i) : Int) ≤ k - xs.length) 0 ⟨Nat.zero_le _, by simpa [sumL] using h⟩ [] (by rfl) (vc ?_) (vc trivial) (fun i hi N hN => vc (brB_intro (fun h => ?_) (fun h => ?_)))
  · simp [sumL]
  · have h : i < xs.length := by simpa using h
    have hx := List.getElem?_eq_getElem h
    rw [get_map hx, stC]
    refine vc ?_
    have hn := sumL_next szSt hx
    have hle := sumL_le szSt xs (i + 1)
    have hfx := hs _ (List.getElem_mem h)
    have hz : szSt xs[i] = xs[i].size := rfl
    rw [w64 (_ - _) (by omega)]
    refine brB_intro (fun h => EndQ.closed (.v _) ⟨?_, rfl⟩) (fun h => ?_)
    · have h : k - xs.length - sumL szSt (xs.take i) - (xs[i].size : Nat) < 0 := by simpa using h
      rw [szB, if_pos (by omega)]
    · have h : ¬ k - xs.length - sumL szSt (xs.take i) - (xs[i].size : Nat) < 0 := by simpa using h
      refine hN _ (i + 1) [] ⟨by omega, by omega⟩ (by omega) (by rfl) (vc ?_) (vc trivial)
      rw [w64 _ (by omega)]
      exact ⟨by omega, by simp⟩
  · have h : i = xs.length := by simp at h; omega
    refine EndQ.closed (.v _) ⟨?_, rfl⟩
    have hT : xs.take i = xs := by rw [h, List.take_length]
    have h2 := hi.2
    rw [hT] at h2 ⊢
    rw [szB, if_neg (by omega), show k - ((xs.length + sumL szSt xs : Nat) : Int) = k - xs.length - sumL szSt xs by omega]
theorem szIntS_ok (xs : List Int) (k : Int) (hl : xs.length ≤ 2^47) (hk : -1 ≤ k ∧ k ≤ 2^40) : CallOk Tryz.prog 58 [] [Rw (xs.map inC), In k] (fun r out => r = In (szB xs.length k) ∧ out = []) := by
  refine callOk_z (np := 0) {} mixed Tryz.func58 (by rfl) Tryz.ntmps58 Tryz.results58 (by rfl) (Nat.le_of_ble_eq_true rfl) rfl rfl rfl (vc ?_)
  rw [w64 _ (by omega)]
  refine brB_intro (fun h => EndQ.closed (.v _) ⟨?_, rfl⟩) (fun h => EndQ.closed (.v _) ⟨?_, rfl⟩)
  · have h : k - xs.length < 0 := by simpa using h
    rw [szB, if_pos h]
  · have h : ¬ k - xs.length < 0 := by simpa using h
    rw [szB, if_neg h]
def szP (p : Pr) : Nat := p.k.size + p.v.size
theorem szPair_ok (x : Pr) (k : Int) (hx : x.k.size ≤ 2^47 ∧ x.v.size ≤ 2^47) (hk : -1 ≤ k ∧ k ≤ 2^40) : CallOk Tryz.prog 199 [] [.ag [.c (.v (.string x.k)), .c (.v (.string x.v))], In k] (fun r out => r = In (szB (szP x) k) ∧ out = []) := by
  refine callOk_z (np := 0) {} mixed Tryz.func199 (by rfl) Tryz.ntmps199 Tryz.results199 (by rfl) (Nat.le_of_ble_eq_true rfl) rfl rfl rfl (vc ?_)
  rw [w64 (k - _) (by omega)]
  have hz : szP x = x.k.size + x.v.size := rfl
  refine brB_intro (fun h => EndQ.closed (.v _) ⟨?_, rfl⟩) (fun h => ?_)
  · have h : k - x.k.size < 0 := by simpa using h
    rw [szB, if_pos (by omega)]
  rw [w64 (k - _ - _) (by omega)]
  refine brB_intro (fun h => EndQ.closed (.v _) ⟨?_, rfl⟩) (fun h => EndQ.closed (.v _) ⟨?_, rfl⟩)
  · have h : k - x.k.size - x.v.size < 0 := by simpa using h
    rw [szB, if_pos (by omega)]
  · have h : ¬ k - x.k.size - x.v.size < 0 := by simpa using h
    rw [szB, if_neg (by omega), hz]
    simp; omega
theorem szPairS_ok (xs : List (Pr)) (k : Int) (hl : xs.length ≤ 2^47) (hs : ∀ x ∈ xs, x.k.size ≤ 2^47 ∧ x.v.size ≤ 2^47) (hk : -1 ≤ k ∧ k ≤ 2^40) : CallOk Tryz.prog 175 [] [Rw (xs.map prC), In k] (fun r out => r = In (szB (xs.length + sumL szP xs) k) ∧ out = []) := by
  refine callOk_z (np := 0) {} mixed Tryz.func175 (by rfl) Tryz.ntmps175 Tryz.results175 (by rfl) (Nat.le_of_ble_eq_true rfl) rfl rfl rfl (vc ?_)
  rw [w64 _ (by omega)]
  refine brB_intro (fun h => EndQ.closed (.v _) ⟨?_, rfl⟩) (fun h => ?_)
  · have h : k - xs.length < 0 := by simpa using h
    rw [szB, if_pos (by omega)]
  have h : 0 ≤ k - xs.length := by simpa using h
  refine loopQ_of (fun i => [(0, Rw (xs.map prC)), (1, In (k - xs.length - sumL szP (xs.take i))), (5, In (i : Nat))]) (fun i => []) 1 (fun i => xs.length - i) (fun i => i ≤ xs.length ∧ (sumL szP (xs.take i) : Int) ≤ k - xs.length) 0 ⟨Nat.zero_le _, by simpa [sumL] using h⟩ [] (by rfl) (vc ?_) (vc trivial) (fun i hi N hN => vc (brB_intro (fun h => ?_) (fun h => ?_)))
  · simp [sumL]
  · have h : i < xs.length := by simpa using h
    have hx := List.getElem?_eq_getElem h
    rw [get_map hx, prC]
    refine vc ?_
    refine callq_of false [] (szPair_ok xs[i] (k - xs.length - sumL szP (xs.take i)) (hs _ (List.getElem_mem h)) (by omega)) rfl trivial (vc trivial) ?_
    rintro r out ⟨rfl, rfl⟩
    refine ⟨by simp, by simp, by simp, vc ?_⟩
    have hc := szB_cases (szP xs[i]) (k - xs.length - sumL szP (xs.take i))
    have hn := sumL_next szP hx
    have hle := sumL_le szP xs (i + 1)
    refine brB_intro (fun h => EndQ.closed (.v _) ⟨?_, rfl⟩) (fun h => ?_)
    · have h : szB (szP xs[i]) (k - xs.length - sumL szP (xs.take i)) < 0 := by simpa using h
      rw [szB, if_pos (by omega)]
    · have h : 0 ≤ szB (szP xs[i]) (k - xs.length - sumL szP (xs.take i)) := by simpa using h
      refine hN _ (i + 1) [] ⟨by omega, by omega⟩ (by omega) (by rfl) (vc ?_) (vc trivial)
      rw [w64 _ (by omega)]
      exact ⟨by omega, by simp⟩
  · have h : i = xs.length := by simp at h; omega
    refine EndQ.closed (.v _) ⟨?_, rfl⟩
    have hT : xs.take i = xs := by rw [h, List.take_length]
    have h2 := hi.2
    rw [hT] at h2 ⊢
    rw [szB, if_neg (by omega), show k - ((xs.length + sumL szP xs : Nat) : Int) = k - xs.length - sumL szP xs by omega]
def szN (n : Nd) : Nat := n.ps.length + sumL szP n.ps + (n.ks.length + sumL szSt n.ks) + n.cs.length
theorem szNode_ok (x : Nd) (k : Int) (hx : x.fits (2^47)) (hk : -1 ≤ k ∧ k ≤ 2^40) : CallOk Tryz.prog 128 [] [.ag [Rw (x.ps.map prC), Rw (x.ks.map stC), Rw (x.cs.map inC)], In k] (fun r out => r = In (szB (szN x) k) ∧ out = []) := by
  refine callOk_z (np := 0) {} mixed Tryz.func128 (by rfl) Tryz.ntmps128 Tryz.results128 (by rfl) (Nat.le_of_ble_eq_true rfl) rfl rfl rfl (vc ?_)
  have hz : szN x = x.ps.length + sumL szP x.ps + (x.ks.length + sumL szSt x.ks) + x.cs.length := rfl
  have h0 := szB_cases (szN x) k
  have h1 := szB_cases (x.ps.length + sumL szP x.ps) k
  refine callq_of false [] (szPairS_ok x.ps k hx.1 hx.2.2.2.1 hk) rfl trivial (vc trivial) ?_
  rintro r out ⟨rfl, rfl⟩
  refine ⟨by simp, by simp, by simp, vc ?_⟩
  refine brB_intro (fun h => EndQ.closed (.v _) ⟨?_, rfl⟩) (fun h => ?_)
  · have h : szB (x.ps.length + sumL szP x.ps) k < 0 := by simpa using h
    rw [show szB (szN x) k = -1 by omega]
  have g1 : ¬ szB (x.ps.length + sumL szP x.ps) k < 0 := by simpa using h
  generalize hK : szB (x.ps.length + sumL szP x.ps) k = K at h1 g1
  have h2 := szB_cases (x.ks.length + sumL szSt x.ks) K
  refine callq_of false [] (szStringS_ok x.ks K hx.2.1 hx.2.2.2.2 (by omega)) rfl trivial (vc trivial) ?_
  rintro r out ⟨rfl, rfl⟩
  refine ⟨by simp, by simp, by simp, vc ?_⟩
  refine brB_intro (fun h => EndQ.closed (.v _) ⟨?_, rfl⟩) (fun h => ?_)
  · have h : szB (x.ks.length + sumL szSt x.ks) K < 0 := by simpa using h
    rw [show szB (szN x) k = -1 by omega]
  have g2 : ¬ szB (x.ks.length + sumL szSt x.ks) K < 0 := by simpa using h
  generalize hK2 : szB (x.ks.length + sumL szSt x.ks) K = K2 at h2 g2
  have h3 := szB_cases x.cs.length K2
  refine callq_of false [] (szIntS_ok x.cs K2 hx.2.2.1 (by omega)) rfl trivial (vc trivial) ?_
  rintro r out ⟨rfl, rfl⟩
  refine ⟨by simp, by simp, by simp, vc ?_⟩
  refine brB_intro (fun h => EndQ.closed (.v _) ⟨?_, rfl⟩) (fun h => EndQ.closed (.v _) ⟨?_, rfl⟩)
  · have h : szB x.cs.length K2 < 0 := by simpa using h
    rw [show szB (szN x) k = -1 by omega]
  · have h : ¬ szB x.cs.length K2 < 0 := by simpa using h
    rw [show szB (szN x) k = szB x.cs.length K2 by omega]
theorem szNodeS_ok (xs : List (Nd)) (k : Int) (hl : xs.length ≤ 2^47) (hs : ∀ x ∈ xs, x.fits (2^47)) (hk : -1 ≤ k ∧ k ≤ 2^40) : CallOk Tryz.prog 72 [] [Rw (xs.map (ndC false)), In k] (fun r out => r = In (szB (xs.length + sumL szN xs) k) ∧ out = []) := by
  refine callOk_z (np := 0) {} mixed Tryz.func72 (by rfl) Tryz.ntmps72 Tryz.results72 (by rfl) (Nat.le_of_ble_eq_true rfl) rfl rfl rfl (vc ?_)
  rw [w64 _ (by omega)]
  refine brB_intro (fun h => EndQ.closed (.v _) ⟨?_, rfl⟩) (fun h => ?_)
  · have h : k - xs.length < 0 := by simpa using h
    rw [szB, if_pos (by omega)]
  have h : 0 ≤ k - xs.length := by simpa using h
  refine loopQ_of (fun i => [(0, Rw (xs.map (ndC false))), (1, In (k - xs.length - sumL szN (xs.take i))), (5, In (i : Nat))]) (fun i => []) 1 (fun i => xs.length - i) (fun i => i ≤ xs.length ∧ (sumL szN (xs.take i) : Int) ≤ k - xs.length) 0 ⟨Nat.zero_le _, by simpa [sumL] using h⟩ [] (by rfl) (vc ?_) (vc trivial) (fun i hi N hN => vc (brB_intro (fun h => ?_) (fun h => ?_)))
  · simp [sumL]
  · have h : i < xs.length := by simpa using h
    have hx := List.getElem?_eq_getElem h
    rw [get_map hx, ndC]
    refine vc ?_
    refine callq_of false [] (szNode_ok xs[i] (k - xs.length - sumL szN (xs.take i)) (hs _ (List.getElem_mem h)) (by omega)) rfl trivial (vc trivial) ?_
    rintro r out ⟨rfl, rfl⟩
    refine ⟨by simp, by simp, by simp, vc ?_⟩
    have hc := szB_cases (szN xs[i]) (k - xs.length - sumL szN (xs.take i))
    have hn := sumL_next szN hx
    have hle := sumL_le szN xs (i + 1)
    refine brB_intro (fun h => EndQ.closed (.v _) ⟨?_, rfl⟩) (fun h => ?_)
    · have h : szB (szN xs[i]) (k - xs.length - sumL szN (xs.take i)) < 0 := by simpa using h
      rw [szB, if_pos (by omega)]
    · have h : 0 ≤ szB (szN xs[i]) (k - xs.length - sumL szN (xs.take i)) := by simpa using h
      refine hN _ (i + 1) [] ⟨by omega, by omega⟩ (by omega) (by rfl) (vc ?_) (vc trivial)
      rw [w64 _ (by omega)]
      exact ⟨by omega, by simp⟩
  · have h : i = xs.length := by simp at h; omega
    refine EndQ.closed (.v _) ⟨?_, rfl⟩
    have hT : xs.take i = xs := by rw [h, List.take_length]
    have h2 := hi.2
    rw [hT] at h2 ⊢
    rw [szB, if_neg (by omega), show k - ((xs.length + sumL szN xs : Nat) : Int) = k - xs.length - sumL szN xs by omega]
def szT (t : List Nd) : Nat := t.length + sumL szN t
theorem szTree_ok (t : List Nd) (k : Int) (hl : t.length ≤ 2^47) (hs : ∀ x ∈ t, x.fits (2^47)) (hk : -1 ≤ k ∧ k ≤ 2^40) : CallOk Tryz.prog 23 [] [.ag [Rw (t.map (ndC false))], In k] (fun r out => r = In (szB (szT t) k) ∧ out = []) := by
  refine callOk_z (np := 0) {} mixed Tryz.func23 (by rfl) Tryz.ntmps23 Tryz.results23 (by rfl) (Nat.le_of_ble_eq_true rfl) rfl rfl rfl (vc ?_)
  refine callq_of false [] (szNodeS_ok t k hl hs hk) rfl trivial (vc trivial) ?_
  rintro r out ⟨rfl, rfl⟩
  refine ⟨by simp, by simp, by simp, vc ?_⟩
  have hc := szB_cases (t.length + sumL szN t) k
  refine brB_intro (fun h => EndQ.closed (.v _) ⟨?_, rfl⟩) (fun h => EndQ.closed (.v _) ⟨?_, rfl⟩)
  · have h : szB (t.length + sumL szN t) k < 0 := by simpa using h
    rw [szT, show szB (t.length + sumL szN t) k = -1 by omega]
  · rfl
theorem Nd.fits_of {n : Nd} {M : Nat} (h : szN n ≤ M) : n.fits M := by
  unfold szN at h
  refine ⟨by omega, by omega, by omega, fun p hp => ?_, fun k hk => ?_⟩
  · have h1 : szP p ≤ sumL szP n.ps := sumL_mem szP hp
    have h2 : szP p = p.k.size + p.v.size := rfl
    omega
  · have h1 : szSt k ≤ sumL szSt n.ks := sumL_mem szSt hk
    have h2 : szSt k = k.size := rfl
    omega
theorem treeFits {t : List Nd} {M : Nat} (h : szT t ≤ M) : t.length ≤ M ∧ ∀ x ∈ t, x.fits M := by
  unfold szT at h
  refine ⟨by omega, fun x hx => Nd.fits_of ?_⟩
  have := sumL_mem szN hx
  omega
theorem ba_ne (a b : ByteArray) : ((!(a.toList == b.toList)) = false) ↔ a = b := by
  constructor
  · intro h
    have h : a.toList = b.toList := by simpa using h
    rw [ByteArray.toList_eq, ByteArray.toList_eq] at h
    obtain ⟨⟨x⟩⟩ := a
    obtain ⟨⟨y⟩⟩ := b
    simp at h
    rw [h]
  · rintro rfl; simp
theorem eqStringS_ok (xs ys : List (ByteArray)) (hl : xs.length ≤ 2^40) (hs : ∀ x ∈ xs, True) : CallOk Tryz.prog 184 [] [Rw (xs.map stC), Rw (ys.map stC)] (fun r out => r = Bo (decide (xs = ys)) ∧ out = []) := by
  refine callOk_z (np := 0) {} mixed Tryz.func184 (by rfl) Tryz.ntmps184 Tryz.results184 (by rfl) (Nat.le_of_ble_eq_true rfl) rfl rfl rfl (vc ?_)
  refine brB_intro (fun h => EndQ.closed (.v _) ⟨?_, rfl⟩) (fun h => ?_)
  · have : xs ≠ ys := fun e => by simp [e] at h
    simp [this]
  have h0 : xs.length = ys.length := by
    have : ((xs.length : Nat) : Int) = ys.length := by simpa using h
    omega
  refine loopQ_of (fun i => [(0, Rw (xs.map stC)), (1, Rw (ys.map stC)), (5, In (i : Nat))]) (fun i => []) 1 (fun i => xs.length - i) (fun i => i ≤ xs.length ∧ xs.take i = ys.take i) 0 ⟨Nat.zero_le _, rfl⟩ [] (by rfl) (vc trivial) (vc trivial) (fun i hi N hN => vc (brB_intro (fun h => ?_) (fun h => ?_)))
  · have h : i < xs.length := by simpa using h
    have hx := List.getElem?_eq_getElem h
    have hy := List.getElem?_eq_getElem (h0 ▸ h)
    refine drawQ_of false (by rfl) (by simp) (vc ?_)
    rw [get_map hx, stC]
    refine vc ?_
    rw [get_map hy, stC]
    refine vc ?_
    refine brB_intro (fun hb => EndQ.closed (.v _) ⟨?_, rfl⟩) (fun hb => ?_)
    · have hb : ¬ xs[i] = ys[i] := fun e => by rw [e] at hb; simp at hb
      have : xs ≠ ys := fun e => by subst e; exact hb rfl
      simp [this]
    · have hb : xs[i] = ys[i] := (ba_ne _ _).1 hb
      refine hN _ (i + 1) [] ⟨h, take_next hi.2 hx hy hb⟩ (by omega) (by rfl) (vc ?_) (vc trivial)
      rw [w64 _ (by omega)]; simp
  · have h : i = xs.length := by simp at h; omega
    refine EndQ.closed (.v _) ⟨?_, rfl⟩
    have : xs = ys := by have := hi.2; rw [h, List.take_length, h0, List.take_length] at this; exact this
    simp [this]
theorem eqIntS_ok (xs ys : List (Int)) (hl : xs.length ≤ 2^40) (hs : ∀ x ∈ xs, True) : CallOk Tryz.prog 27 [] [Rw (xs.map inC), Rw (ys.map inC)] (fun r out => r = Bo (decide (xs = ys)) ∧ out = []) := by
  refine callOk_z (np := 0) {} mixed Tryz.func27 (by rfl) Tryz.ntmps27 Tryz.results27 (by rfl) (Nat.le_of_ble_eq_true rfl) rfl rfl rfl (vc ?_)
  refine brB_intro (fun h => EndQ.closed (.v _) ⟨?_, rfl⟩) (fun h => ?_)
  · have : xs ≠ ys := fun e => by simp [e] at h
    simp [this]
  have h0 : xs.length = ys.length := by
    have : ((xs.length : Nat) : Int) = ys.length := by simpa using h
    omega
  refine loopQ_of (fun i => [(0, Rw (xs.map inC)), (1, Rw (ys.map inC)), (5, In (i : Nat))]) (fun i => []) 1 (fun i => xs.length - i) (fun i => i ≤ xs.length ∧ xs.take i = ys.take i) 0 ⟨Nat.zero_le _, rfl⟩ [] (by rfl) (vc trivial) (vc trivial) (fun i hi N hN => vc (brB_intro (fun h => ?_) (fun h => ?_)))
  · have h : i < xs.length := by simpa using h
    have hx := List.getElem?_eq_getElem h
    have hy := List.getElem?_eq_getElem (h0 ▸ h)
    refine drawQ_of false (by rfl) (by simp) (vc ?_)
    rw [get_map hx, inC]
    refine vc ?_
    rw [get_map hy, inC]
    refine vc ?_
    refine brB_intro (fun hb => EndQ.closed (.v _) ⟨?_, rfl⟩) (fun hb => ?_)
    · have hb : ¬ xs[i] = ys[i] := fun e => by rw [e] at hb; simp at hb
      have : xs ≠ ys := fun e => by subst e; exact hb rfl
      simp [this]
    · have hb : xs[i] = ys[i] := by simpa using hb
      refine hN _ (i + 1) [] ⟨h, take_next hi.2 hx hy hb⟩ (by omega) (by rfl) (vc ?_) (vc trivial)
      rw [w64 _ (by omega)]; simp
  · have h : i = xs.length := by simp at h; omega
    refine EndQ.closed (.v _) ⟨?_, rfl⟩
    have : xs = ys := by have := hi.2; rw [h, List.take_length, h0, List.take_length] at this; exact this
    simp [this]
theorem eqPair_ok (x y : Pr) : CallOk Tryz.prog 204 [] [.ag [.c (.v (.string x.k)), .c (.v (.string x.v))], .ag [.c (.v (.string y.k)), .c (.v (.string y.v))]] (fun r out => r = Bo (decide (x = y)) ∧ out = []) := by
  refine callOk_z (np := 0) {} mixed Tryz.func204 (by rfl) Tryz.ntmps204 Tryz.results204 (by rfl) (Nat.le_of_ble_eq_true rfl) rfl rfl rfl (vc ?_)
  refine brB_intro (fun h => EndQ.closed (.v _) ⟨?_, rfl⟩) (fun h => ?_)
  · have : ¬ x = y := fun e => by rw [e] at h; simp at h
    simp [this]
  have h1 := (ba_ne _ _).1 h
  refine brB_intro (fun h => EndQ.closed (.v _) ⟨?_, rfl⟩) (fun h => EndQ.closed (.v _) ⟨?_, rfl⟩)
  · have : ¬ x = y := fun e => by rw [e] at h; simp at h
    simp [this]
  · have h2 := (ba_ne _ _).1 h
    have : x = y := by cases x; cases y; simp_all
    simp [this]
theorem eqPairS_ok (xs ys : List (Pr)) (hl : xs.length ≤ 2^40) (hs : ∀ x ∈ xs, True) : CallOk Tryz.prog 183 [] [Rw (xs.map prC), Rw (ys.map prC)] (fun r out => r = Bo (decide (xs = ys)) ∧ out = []) := by
  refine callOk_z (np := 0) {} mixed Tryz.func183 (by rfl) Tryz.ntmps183 Tryz.results183 (by rfl) (Nat.le_of_ble_eq_true rfl) rfl rfl rfl (vc ?_)
  refine brB_intro (fun h => EndQ.closed (.v _) ⟨?_, rfl⟩) (fun h => ?_)
  · have : xs ≠ ys := fun e => by simp [e] at h
    simp [this]
  have h0 : xs.length = ys.length := by
    have : ((xs.length : Nat) : Int) = ys.length := by simpa using h
    omega
  refine loopQ_of (fun i => [(0, Rw (xs.map prC)), (1, Rw (ys.map prC)), (5, In (i : Nat))]) (fun i => []) 1 (fun i => xs.length - i) (fun i => i ≤ xs.length ∧ xs.take i = ys.take i) 0 ⟨Nat.zero_le _, rfl⟩ [] (by rfl) (vc trivial) (vc trivial) (fun i hi N hN => vc (brB_intro (fun h => ?_) (fun h => ?_)))
  · have h : i < xs.length := by simpa using h
    have hx := List.getElem?_eq_getElem h
    have hy := List.getElem?_eq_getElem (h0 ▸ h)
    refine drawQ_of false (by rfl) (by simp) (vc ?_)
    rw [get_map hx, prC]
    refine vc ?_
    rw [get_map hy, prC]
    refine vc ?_
    refine calld_of [] false [] (eqPair_ok xs[i] ys[i]) rfl trivial (vc trivial) (by rfl) ⟨_, _, rfl, rfl⟩ ?_
    rintro r out ⟨rfl, rfl⟩
    refine ⟨by simp, by simp, by simp, vc ?_⟩
    refine brB_intro (fun hb => EndQ.closed (.v _) ⟨?_, rfl⟩) (fun hb => ?_)
    · have hb : ¬ xs[i] = ys[i] := fun e => by rw [e] at hb; simp at hb
      have : xs ≠ ys := fun e => by subst e; exact hb rfl
      simp [this]
    · have hb : xs[i] = ys[i] := by simpa using hb
      refine hN _ (i + 1) [] ⟨h, take_next hi.2 hx hy hb⟩ (by omega) (by rfl) (vc ?_) (vc trivial)
      rw [w64 _ (by omega)]; simp
  · have h : i = xs.length := by simp at h; omega
    refine EndQ.closed (.v _) ⟨?_, rfl⟩
    have : xs = ys := by have := hi.2; rw [h, List.take_length, h0, List.take_length] at this; exact this
    simp [this]
theorem eqNode_ok (x y : Nd) (hx : x.fits (2^40)) : CallOk Tryz.prog 137 [] [.ag [Rw (x.ps.map prC), Rw (x.ks.map stC), Rw (x.cs.map inC)], .ag [Rw (y.ps.map prC), Rw (y.ks.map stC), Rw (y.cs.map inC)]] (fun r out => r = Bo (decide (x = y)) ∧ out = []) := by
  refine callOk_z (np := 0) {} mixed Tryz.func137 (by rfl) Tryz.ntmps137 Tryz.results137 (by rfl) (Nat.le_of_ble_eq_true rfl) rfl rfl rfl (vc ?_)
  refine callq_of false [] (eqPairS_ok x.ps y.ps hx.1 (fun _ _ => trivial)) rfl trivial (vc trivial) ?_
  rintro r out ⟨rfl, rfl⟩
  refine ⟨by simp, by simp, by simp, vc ?_⟩
  refine brB_intro (fun h => EndQ.closed (.v _) ⟨?_, rfl⟩) (fun h => ?_)
  · have : ¬ x = y := fun e => by rw [e] at h; simp at h
    simp [this]
  have h1 : x.ps = y.ps := by simpa using h
  refine callq_of false [] (eqStringS_ok x.ks y.ks hx.2.1 (fun _ _ => trivial)) rfl trivial (vc trivial) ?_
  rintro r out ⟨rfl, rfl⟩
  refine ⟨by simp, by simp, by simp, vc ?_⟩
  refine brB_intro (fun h => EndQ.closed (.v _) ⟨?_, rfl⟩) (fun h => ?_)
  · have : ¬ x = y := fun e => by rw [e] at h; simp at h
    simp [this]
  have h2 : x.ks = y.ks := by simpa using h
  refine callq_of false [] (eqIntS_ok x.cs y.cs hx.2.2.1 (fun _ _ => trivial)) rfl trivial (vc trivial) ?_
  rintro r out ⟨rfl, rfl⟩
  refine ⟨by simp, by simp, by simp, vc ?_⟩
  refine brB_intro (fun h => EndQ.closed (.v _) ⟨?_, rfl⟩) (fun h => EndQ.closed (.v _) ⟨?_, rfl⟩)
  · have : ¬ x = y := fun e => by rw [e] at h; simp at h
    simp [this]
  · have h3 : x.cs = y.cs := by simpa using h
    have : x = y := by cases x; cases y; simp_all
    simp [this]
theorem eqNodeS_ok (xs ys : List (Nd)) (hl : xs.length ≤ 2^40) (hs : ∀ x ∈ xs, x.fits (2^40)) : CallOk Tryz.prog 80 [] [Rw (xs.map (ndC false)), Rw (ys.map (ndC false))] (fun r out => r = Bo (decide (xs = ys)) ∧ out = []) := by
  refine callOk_z (np := 0) {} mixed Tryz.func80 (by rfl) Tryz.ntmps80 Tryz.results80 (by rfl) (Nat.le_of_ble_eq_true rfl) rfl rfl rfl (vc ?_)
  refine brB_intro (fun h => EndQ.closed (.v _) ⟨?_, rfl⟩) (fun h => ?_)
  · have : xs ≠ ys := fun e => by simp [e] at h
    simp [this]
  have h0 : xs.length = ys.length := by
    have : ((xs.length : Nat) : Int) = ys.length := by simpa using h
    omega
  refine loopQ_of (fun i => [(0, Rw (xs.map (ndC false))), (1, Rw (ys.map (ndC false))), (5, In (i : Nat))]) (fun i => []) 1 (fun i => xs.length - i) (fun i => i ≤ xs.length ∧ xs.take i = ys.take i) 0 ⟨Nat.zero_le _, rfl⟩ [] (by rfl) (vc trivial) (vc trivial) (fun i hi N hN => vc (brB_intro (fun h => ?_) (fun h => ?_)))
  · have h : i < xs.length := by simpa using h
    have hx := List.getElem?_eq_getElem h
    have hy := List.getElem?_eq_getElem (h0 ▸ h)
    refine drawQ_of false (by rfl) (by simp) (vc ?_)
    rw [get_map hx, ndC]
    refine vc ?_
    rw [get_map hy, ndC]
    refine vc ?_
    refine calld_of [] false [] (eqNode_ok xs[i] ys[i] (hs _ (List.getElem_mem h))) rfl trivial (vc trivial) (by rfl) ⟨_, _, rfl, rfl⟩ ?_
    rintro r out ⟨rfl, rfl⟩
    refine ⟨by simp, by simp, by simp, vc ?_⟩
    refine brB_intro (fun hb => EndQ.closed (.v _) ⟨?_, rfl⟩) (fun hb => ?_)
    · have hb : ¬ xs[i] = ys[i] := fun e => by rw [e] at hb; simp at hb
      have : xs ≠ ys := fun e => by subst e; exact hb rfl
      simp [this]
    · have hb : xs[i] = ys[i] := by simpa using hb
      refine hN _ (i + 1) [] ⟨h, take_next hi.2 hx hy hb⟩ (by omega) (by rfl) (vc ?_) (vc trivial)
      rw [w64 _ (by omega)]; simp
  · have h : i = xs.length := by simp at h; omega
    refine EndQ.closed (.v _) ⟨?_, rfl⟩
    have : xs = ys := by have := hi.2; rw [h, List.take_length, h0, List.take_length] at this; exact this
    simp [this]
theorem eqTree_ok (x y : List Nd) (hl : x.length ≤ 2^40) (hs : ∀ n ∈ x, n.fits (2^40)) : CallOk Tryz.prog 29 [] [.ag [Rw (x.map (ndC false))], .ag [Rw (y.map (ndC false))]] (fun r out => r = Bo (decide (x = y)) ∧ out = []) := by
  refine callOk_z (np := 0) {} mixed Tryz.func29 (by rfl) Tryz.ntmps29 Tryz.results29 (by rfl) (Nat.le_of_ble_eq_true rfl) rfl rfl rfl (vc ?_)
  refine callq_of false [] (eqNodeS_ok x y hl hs) rfl trivial (vc trivial) ?_
  rintro r out ⟨rfl, rfl⟩
  refine ⟨by simp, by simp, by simp, vc ?_⟩
  refine brB_intro (fun h => EndQ.closed (.v _) ⟨?_, rfl⟩) (fun h => EndQ.closed (.v _) ⟨?_, rfl⟩)
  · have h : ¬ x = y := by simpa using h
    simp [h]
  · have h : x = y := by simpa using h
    simp [h]
end Go.Proofs.YtnnmpdanfeejbaaGreat.Abs

/- The laws' marks on strings, numbers, pairs, nodes, trees: their contracts. -/
namespace Go.Proofs.YtnnmpdanfeejbaaGreat.Abs
open Go Go.Proofs
set_option maxRecDepth 10000
set_option linter.unusedVariables false
set_option linter.unusedSimpArgs false
def digB (n : Nat) : ByteArray := ⟨[UInt8.ofNat (48 + n % 10)].toArray⟩
def txA (n : Nat) (out : ByteArray) : ByteArray := if h : n = 0 then out else txA (n / 10) (digB n ++ out)
decreasing_by omega
def mkTx (k : Int) : ByteArray := if k ≤ 0 then ⟨#[109, 48]⟩ else ⟨#[109]⟩ ++ txA k.toNat ⟨#[]⟩
theorem markText_ok (k : Int) (hk : 0 ≤ k ∧ k ≤ 2^61) : CallOk Tryz.prog 185 [] [In k] (fun r out => r = .c (.v (.string (mkTx k))) ∧ out = []) := by
  refine callOk_z (np := 0) {} mixed Tryz.func185 (by rfl) Tryz.ntmps185 Tryz.results185 (by rfl) (Nat.le_of_ble_eq_true rfl) rfl rfl rfl (vc ?_)
  refine brB_intro (fun h => EndQ.closed (.v _) ⟨?_, rfl⟩) (fun h => ?_)
  · have h : k ≤ 0 := by simpa using h
    rw [mkTx, if_pos h]
  have h0 : ¬ k ≤ 0 := by simpa using h
  clear h
  refine loopQ_of (ι := Nat × Nat × ByteArray) (fun i => [(0, In (i.1 : Nat)), (3, .c (.v (.string i.2.2)))]) (fun i => []) 1 (fun i => i.1) (fun i => (i.1 < 10^i.2.1 ∧ i.1 ≤ 2^61) ∧ i.2.1 + i.2.2.size ≤ 100 ∧ txA i.1 i.2.2 = txA k.toNat ⟨#[]⟩) (k.toNat, 61, ⟨#[]⟩) ⟨by simp only; omega, by simp only; decide, rfl⟩ [] (by rfl) (vc ?_) (vc trivial) (fun i hi N hN => ?_)
  · omega
  obtain ⟨n, m, o⟩ := i
  obtain ⟨⟨h1, h5⟩, h2, h3⟩ := hi
  simp only at h1 h2 h3 h5 hN
  refine vc (brB_intro (fun h => ?_) (fun h => ?_))
  · have h : 0 < n := by simp at h; omega
    have hm : (n : Int).tmod 10 = ((n % 10 : Nat) : Int) := rfl
    have hq : (n : Int).tdiv 10 = ((n / 10 : Nat) : Int) := rfl
    have hd : (⟨#[UInt8.ofNat (IntKind.u8.wrap (IntKind.i64.wrap (48 + (n : Int).tmod 10))).toNat]⟩ : ByteArray) = digB n := by
      rw [hm, w64 _ (by omega), w8, digB]
      have : ((48 + ((n % 10 : Nat) : Int)) % 256).toNat = 48 + n % 10 := by omega
      rw [this]
    rw [hd]
    have hsz : (digB n).size = 1 := rfl
    rw [if_pos (by omega)]
    refine vc ?_
    have hm1 : 1 ≤ m := by
      rcases m with _ | m
      · simp at h1; omega
      · omega
    obtain ⟨m, rfl⟩ : ∃ q, m = q + 1 := ⟨m - 1, by omega⟩
    refine hN _ (n / 10, m, digB n ++ o) [] ⟨?_, ?_, ?_⟩ ?_ (by rfl) (vc ?_) (vc trivial)
    · show n / 10 < 10 ^ m ∧ n / 10 ≤ 2^61
      rw [Nat.pow_succ] at h1; omega
    · show m + (digB n ++ o).size ≤ 100
      rw [ByteArray.size_append, hsz]; omega
    · show txA (n / 10) (digB n ++ o) = _
      rw [← h3]
      conv => rhs; rw [txA, dif_neg (by omega)]
    · show n / 10 < n
      omega
    · rw [hq, w64 _ (by omega)]
  · have h : n = 0 := by simp at h; omega
    subst h
    have h4 : o = txA k.toNat ⟨#[]⟩ := by rw [← h3, txA, dif_pos rfl]
    have hsz : (⟨#[109]⟩ : ByteArray).size = 1 := rfl
    rw [if_pos (by omega)]
    refine vc ?_
    refine EndQ.closed (.v _) ⟨?_, rfl⟩
    rw [mkTx, if_neg h0, h4]
def c1 {α : Type} (_ : α) : Nat := 1
def c2 {α : Type} (_ : α) : Nat := 2
def mkSt (_ : ByteArray) (k : Int) : ByteArray := mkTx k
def mkIn (_ : Int) (k : Int) : Int := k
def mkPr (_ : Pr) (k : Int) : Pr := ⟨mkTx k, mkTx (k + 1)⟩
theorem sumL_c1 {α : Type} : ∀ l : List α, sumL c1 l = l.length
  | [] => rfl
  | x :: r => by rw [sumL_cons, sumL_c1 r, c1, List.length_cons]; omega
theorem sumL_c2 {α : Type} : ∀ l : List α, sumL c2 l = 2 * l.length
  | [] => rfl
  | x :: r => by rw [sumL_cons, sumL_c2 r, c2, List.length_cons]; omega
theorem markStringS_ok (ty : Nat) (xs : List (ByteArray)) (k : Int) (hl : xs.length ≤ 2^60) (hk : 0 ≤ k ∧ k + sumL c1 xs ≤ 2^60) : CallOk Tryz.prog 139 [.rw ty 1 (xs.map stC)] [.sl 1 xs.length, In k]
    (fun r out => r = In (k + sumL c1 xs) ∧ out = [some (.rw ty 1 ((mkL mkSt c1 xs k).map stC))]) := by
  refine callOk_z (np := 1) {} mixed Tryz.func139 (by rfl) Tryz.ntmps139 Tryz.results139 (by rfl) (Nat.le_of_ble_eq_true rfl) rfl rfl rfl (vc ?_)
  generalize hM : mkL mkSt c1 xs k = M
  have hl' : M.length = xs.length := by rw [← hM, mkL_length]
  refine loopQ_of (fun i => [(0, .sl 1 xs.length), (1, In (k + (sumL c1 (xs.take i) : Nat))), (5, In (i : Nat))]) (fun i => [(1, .rw ty 1 ((M.take i ++ xs.drop i).map stC))]) 2 (fun i => xs.length - i) (fun i => i ≤ xs.length) 0 (Nat.zero_le _) [] (by rfl) (vc ?_) (vc ?_) (fun i hi N hN => vc (brB_intro (fun h => ?_) (fun h => ?_)))
  · simp [sumL_nil]
  · simp [HpS, wkO]
  · have h : i < xs.length := by simpa using h
    have hx := List.getElem?_eq_getElem h
    have hm : M[i]? = some (mkSt xs[i] (k + sumL c1 (xs.take i))) := by rw [← hM, mkL_get _ _ hx]
    have hle := sumL_le c1 xs (i + 1)
    have hnx := sumL_next c1 hx
    rw [hnx, c1] at hle
    rw [c1] at hnx
    have hget := mix_get stC hl' hx
    have hAl : ((M.take i ++ xs.drop i).map stC).length = xs.length := by simp; omega
    generalize hA : (M.take i ++ xs.drop i).map stC = A at hget hAl ⊢
    generalize hK : k + sumL c1 (xs.take i) = K at hm hle hnx ⊢
    refine callq_of false [] (markText_ok K (by omega)) rfl trivial (vc trivial) ?_
    rintro r out ⟨rfl, rfl⟩
    refine ⟨by simp, by simp, by simp, vc ?_⟩
    refine ⟨⟨h, by first | omega | (simp; omega)⟩, ?_⟩
    rw [hget, stC]
    refine vc ?_
    refine hN _ (i + 1) [] h (by omega) (by rfl) (vc ?_) (vc ?_)
    · rw [w64 _ (by omega), w64 _ (by omega), hnx]; simp; omega
    · rw [← mix_set stC hl' hm, hA]; rfl
  · have h : i = xs.length := by simp at h; omega
    refine endQ_of [] (In (k + sumL c1 xs)) [some (.rw ty 1 (M.map stC))] (by rfl) (vc ?_) (vc ?_) ⟨rfl, rfl⟩
    · rw [h, List.take_length]
    · rw [mix_all hl' h]
theorem markIntS_ok (ty : Nat) (xs : List (Int)) (k : Int) (hl : xs.length ≤ 2^60) (hk : 0 ≤ k ∧ k + sumL c1 xs ≤ 2^60) : CallOk Tryz.prog 31 [.rw ty 1 (xs.map inC)] [.sl 1 xs.length, In k]
    (fun r out => r = In (k + sumL c1 xs) ∧ out = [some (.rw ty 1 ((mkL mkIn c1 xs k).map inC))]) := by
  refine callOk_z (np := 1) {} mixed Tryz.func31 (by rfl) Tryz.ntmps31 Tryz.results31 (by rfl) (Nat.le_of_ble_eq_true rfl) rfl rfl rfl (vc ?_)
  generalize hM : mkL mkIn c1 xs k = M
  have hl' : M.length = xs.length := by rw [← hM, mkL_length]
  refine loopQ_of (fun i => [(0, .sl 1 xs.length), (1, In (k + (sumL c1 (xs.take i) : Nat))), (5, In (i : Nat))]) (fun i => [(1, .rw ty 1 ((M.take i ++ xs.drop i).map inC))]) 2 (fun i => xs.length - i) (fun i => i ≤ xs.length) 0 (Nat.zero_le _) [] (by rfl) (vc ?_) (vc ?_) (fun i hi N hN => vc (brB_intro (fun h => ?_) (fun h => ?_)))
  · simp [sumL_nil]
  · simp [HpS, wkO]
  · have h : i < xs.length := by simpa using h
    have hx := List.getElem?_eq_getElem h
    have hm : M[i]? = some (mkIn xs[i] (k + sumL c1 (xs.take i))) := by rw [← hM, mkL_get _ _ hx]
    have hle := sumL_le c1 xs (i + 1)
    have hnx := sumL_next c1 hx
    rw [hnx, c1] at hle
    rw [c1] at hnx
    have hget := mix_get inC hl' hx
    have hAl : ((M.take i ++ xs.drop i).map inC).length = xs.length := by simp; omega
    generalize hA : (M.take i ++ xs.drop i).map inC = A at hget hAl ⊢
    generalize hK : k + sumL c1 (xs.take i) = K at hm hle hnx ⊢
    refine ⟨⟨h, by first | omega | (simp; omega)⟩, ?_⟩
    rw [hget, inC]
    refine vc ?_
    refine hN _ (i + 1) [] h (by omega) (by rfl) (vc ?_) (vc ?_)
    · rw [w64 _ (by omega), w64 _ (by omega), hnx]; simp; omega
    · rw [← mix_set inC hl' hm, hA]; rfl
  · have h : i = xs.length := by simp at h; omega
    refine endQ_of [] (In (k + sumL c1 xs)) [some (.rw ty 1 (M.map inC))] (by rfl) (vc ?_) (vc ?_) ⟨rfl, rfl⟩
    · rw [h, List.take_length]
    · rw [mix_all hl' h]
theorem markPairS_ok (ty : Nat) (xs : List (Pr)) (k : Int) (hl : xs.length ≤ 2^60) (hk : 0 ≤ k ∧ k + sumL c2 xs ≤ 2^60) : CallOk Tryz.prog 138 [.rw ty 2 (xs.map prC)] [.sl 1 xs.length, In k]
    (fun r out => r = In (k + sumL c2 xs) ∧ out = [some (.rw ty 2 ((mkL mkPr c2 xs k).map prC))]) := by
  refine callOk_z (np := 1) {} mixed Tryz.func138 (by rfl) Tryz.ntmps138 Tryz.results138 (by rfl) (Nat.le_of_ble_eq_true rfl) rfl rfl rfl (vc ?_)
  generalize hM : mkL mkPr c2 xs k = M
  have hl' : M.length = xs.length := by rw [← hM, mkL_length]
  refine loopQ_of (fun i => [(0, .sl 1 xs.length), (1, In (k + (sumL c2 (xs.take i) : Nat))), (5, In (i : Nat))]) (fun i => [(1, .rw ty 2 ((M.take i ++ xs.drop i).map prC))]) 2 (fun i => xs.length - i) (fun i => i ≤ xs.length) 0 (Nat.zero_le _) [] (by rfl) (vc ?_) (vc ?_) (fun i hi N hN => vc (brB_intro (fun h => ?_) (fun h => ?_)))
  · simp [sumL_nil]
  · simp [HpS, wkO]
  · have h : i < xs.length := by simpa using h
    have hx := List.getElem?_eq_getElem h
    have hm : M[i]? = some (mkPr xs[i] (k + sumL c2 (xs.take i))) := by rw [← hM, mkL_get _ _ hx]
    have hle := sumL_le c2 xs (i + 1)
    have hnx := sumL_next c2 hx
    rw [hnx, c2] at hle
    rw [c2] at hnx
    have hget := mix_get prC hl' hx
    have hAl : ((M.take i ++ xs.drop i).map prC).length = xs.length := by simp; omega
    generalize hA : (M.take i ++ xs.drop i).map prC = A at hget hAl ⊢
    generalize hK : k + sumL c2 (xs.take i) = K at hm hle hnx ⊢
    refine callq_of false [] (markText_ok K (by omega)) rfl trivial (vc trivial) ?_
    rintro r out ⟨rfl, rfl⟩
    refine ⟨by simp, by simp, by simp, vc ?_⟩
    refine ⟨⟨h, by first | omega | (simp; omega)⟩, ?_⟩
    rw [hget, prC]
    refine vc ?_
    rw [w64 (K + 1) (by omega)]
    refine callq_of false [] (markText_ok (K + 1) (by omega)) rfl trivial (vc trivial) ?_
    rintro r out ⟨rfl, rfl⟩
    refine ⟨by simp, by simp, by simp, vc ?_⟩
    refine ⟨⟨h, by omega⟩, ?_⟩
    rw [List.getElem?_set_self (by omega)]
    refine vc ?_
    refine hN _ (i + 1) [] h (by omega) (by rfl) (vc ?_) (vc ?_)
    · rw [w64 _ (by omega), w64 _ (by omega), hnx]; simp; omega
    · rw [← mix_set prC hl' hm, hA]; rfl
  · have h : i = xs.length := by simp at h; omega
    refine endQ_of [] (In (k + sumL c2 xs)) [some (.rw ty 2 (M.map prC))] (by rfl) (vc ?_) (vc ?_) ⟨rfl, rfl⟩
    · rw [h, List.take_length]
    · rw [mix_all hl' h]
theorem heldStringS_ok (xs : List (ByteArray)) (k : Int) (hl : xs.length ≤ 2^60) (hk : 0 ≤ k ∧ k + sumL c1 xs ≤ 2^60) : CallOk Tryz.prog 171 [] [Rw (xs.map stC), In k]
    (fun r out => r = In (if xs = mkL mkSt c1 xs k then k + sumL c1 xs else -1) ∧ out = []) := by
  refine callOk_z (np := 0) {} mixed Tryz.func171 (by rfl) Tryz.ntmps171 Tryz.results171 (by rfl) (Nat.le_of_ble_eq_true rfl) rfl rfl rfl (vc ?_)
  generalize hM : mkL mkSt c1 xs k = M
  have hl' : M.length = xs.length := by rw [← hM, mkL_length]
  refine loopQ_of (fun i => [(0, Rw (xs.map stC)), (1, In (k + (sumL c1 (xs.take i) : Nat))), (5, In (i : Nat))]) (fun i => []) 1 (fun i => xs.length - i) (fun i => i ≤ xs.length ∧ xs.take i = M.take i) 0 ⟨Nat.zero_le _, rfl⟩ [] (by rfl) (vc ?_) (vc trivial) (fun i hi N hN => vc (brB_intro (fun h => ?_) (fun h => ?_)))
  · simp [sumL_nil]
  · have h : i < xs.length := by simpa using h
    have hx := List.getElem?_eq_getElem h
    have hm : M[i]? = some (mkSt xs[i] (k + sumL c1 (xs.take i))) := by rw [← hM, mkL_get _ _ hx]
    have hle := sumL_le c1 xs (i + 1)
    have hnx := sumL_next c1 hx
    rw [hnx, c1] at hle
    rw [c1] at hnx
    have hne : xs[i] ≠ mkSt xs[i] (k + sumL c1 (xs.take i)) → ¬ xs = M := fun he e => he (by rw [← e, hx] at hm; exact Option.some.inj hm)
    generalize hK : k + sumL c1 (xs.take i) = K at hm hle hnx hne ⊢
    refine drawQ_of false (by rfl) (by simp) (vc ?_)
    rw [get_map hx, stC]
    refine vc ?_
    refine calld_of [] false [] (markText_ok K (by omega)) rfl trivial (vc trivial) (by rfl) ⟨_, _, rfl, rfl⟩ ?_
    rintro r out ⟨rfl, rfl⟩
    refine ⟨by simp, by simp, by simp, vc ?_⟩
    refine brB_intro (fun hb => EndQ.closed (.v _) ⟨?_, rfl⟩) (fun hb => ?_)
    · rw [if_neg (hne (fun e => by rw [mkSt] at e; rw [e] at hb; simp at hb))]
    · have he : xs[i] = mkTx K := (ba_ne _ _).1 hb
      refine hN _ (i + 1) [] ⟨h, take_next hi.2 hx hm he⟩ (by omega) (by rfl) (vc ?_) (vc trivial)
      rw [w64 _ (by omega), w64 _ (by omega), hnx]; simp; omega
  · have h : i = xs.length := by simp at h; omega
    refine EndQ.closed (.v _) ⟨?_, rfl⟩
    have : xs = M := by have := hi.2; rw [h, List.take_length, ← hl', List.take_length] at this; exact this
    rw [if_pos this, h, List.take_length]
theorem heldIntS_ok (xs : List (Int)) (k : Int) (hl : xs.length ≤ 2^60) (hk : 0 ≤ k ∧ k + sumL c1 xs ≤ 2^60) : CallOk Tryz.prog 33 [] [Rw (xs.map inC), In k]
    (fun r out => r = In (if xs = mkL mkIn c1 xs k then k + sumL c1 xs else -1) ∧ out = []) := by
  refine callOk_z (np := 0) {} mixed Tryz.func33 (by rfl) Tryz.ntmps33 Tryz.results33 (by rfl) (Nat.le_of_ble_eq_true rfl) rfl rfl rfl (vc ?_)
  generalize hM : mkL mkIn c1 xs k = M
  have hl' : M.length = xs.length := by rw [← hM, mkL_length]
  refine loopQ_of (fun i => [(0, Rw (xs.map inC)), (1, In (k + (sumL c1 (xs.take i) : Nat))), (5, In (i : Nat))]) (fun i => []) 1 (fun i => xs.length - i) (fun i => i ≤ xs.length ∧ xs.take i = M.take i) 0 ⟨Nat.zero_le _, rfl⟩ [] (by rfl) (vc ?_) (vc trivial) (fun i hi N hN => vc (brB_intro (fun h => ?_) (fun h => ?_)))
  · simp [sumL_nil]
  · have h : i < xs.length := by simpa using h
    have hx := List.getElem?_eq_getElem h
    have hm : M[i]? = some (mkIn xs[i] (k + sumL c1 (xs.take i))) := by rw [← hM, mkL_get _ _ hx]
    have hle := sumL_le c1 xs (i + 1)
    have hnx := sumL_next c1 hx
    rw [hnx, c1] at hle
    rw [c1] at hnx
    have hne : xs[i] ≠ mkIn xs[i] (k + sumL c1 (xs.take i)) → ¬ xs = M := fun he e => he (by rw [← e, hx] at hm; exact Option.some.inj hm)
    generalize hK : k + sumL c1 (xs.take i) = K at hm hle hnx hne ⊢
    rw [get_map hx, inC]
    refine vc ?_
    refine brB_intro (fun hb => EndQ.closed (.v _) ⟨?_, rfl⟩) (fun hb => ?_)
    · rw [if_neg (hne (fun e => by rw [mkIn] at e; rw [e] at hb; simp at hb))]
    · have he : xs[i] = K := by simpa using hb
      refine hN _ (i + 1) [] ⟨h, take_next hi.2 hx hm he⟩ (by omega) (by rfl) (vc ?_) (vc trivial)
      rw [w64 _ (by omega), w64 _ (by omega), hnx]; simp; omega
  · have h : i = xs.length := by simp at h; omega
    refine EndQ.closed (.v _) ⟨?_, rfl⟩
    have : xs = M := by have := hi.2; rw [h, List.take_length, ← hl', List.take_length] at this; exact this
    rw [if_pos this, h, List.take_length]
theorem heldPairS_ok (xs : List (Pr)) (k : Int) (hl : xs.length ≤ 2^60) (hk : 0 ≤ k ∧ k + sumL c2 xs ≤ 2^60) : CallOk Tryz.prog 170 [] [Rw (xs.map prC), In k]
    (fun r out => r = In (if xs = mkL mkPr c2 xs k then k + sumL c2 xs else -1) ∧ out = []) := by
  refine callOk_z (np := 0) {} mixed Tryz.func170 (by rfl) Tryz.ntmps170 Tryz.results170 (by rfl) (Nat.le_of_ble_eq_true rfl) rfl rfl rfl (vc ?_)
  generalize hM : mkL mkPr c2 xs k = M
  have hl' : M.length = xs.length := by rw [← hM, mkL_length]
  refine loopQ_of (fun i => [(0, Rw (xs.map prC)), (1, In (k + (sumL c2 (xs.take i) : Nat))), (5, In (i : Nat))]) (fun i => []) 1 (fun i => xs.length - i) (fun i => i ≤ xs.length ∧ xs.take i = M.take i) 0 ⟨Nat.zero_le _, rfl⟩ [] (by rfl) (vc ?_) (vc trivial) (fun i hi N hN => vc (brB_intro (fun h => ?_) (fun h => ?_)))
  · simp [sumL_nil]
  · have h : i < xs.length := by simpa using h
    have hx := List.getElem?_eq_getElem h
    have hm : M[i]? = some (mkPr xs[i] (k + sumL c2 (xs.take i))) := by rw [← hM, mkL_get _ _ hx]
    have hle := sumL_le c2 xs (i + 1)
    have hnx := sumL_next c2 hx
    rw [hnx, c2] at hle
    rw [c2] at hnx
    have hne : xs[i] ≠ mkPr xs[i] (k + sumL c2 (xs.take i)) → ¬ xs = M := fun he e => he (by rw [← e, hx] at hm; exact Option.some.inj hm)
    generalize hK : k + sumL c2 (xs.take i) = K at hm hle hnx hne ⊢
    refine drawQ_of false (by rfl) (by simp) (vc ?_)
    rw [get_map hx, prC]
    refine vc ?_
    refine calld_of [] false [] (markText_ok K (by omega)) rfl trivial (vc trivial) (by rfl) ⟨_, _, rfl, rfl⟩ ?_
    rintro r out ⟨rfl, rfl⟩
    refine ⟨by simp, by simp, by simp, vc ?_⟩
    refine brB_intro (fun hb => EndQ.closed (.v _) ⟨?_, rfl⟩) (fun hb => ?_)
    · rw [if_neg (hne (fun e => by have e := congrArg Pr.k e; simp only [mkPr] at e; rw [e] at hb; simp at hb))]
    have he1 : xs[i].k = mkTx K := (ba_ne _ _).1 hb
    rw [w64 (K + 1) (by omega)]
    refine drawQ_of false (by rfl) (by simp) (vc ?_)
    rw [get_map hx, prC]
    refine vc ?_
    refine calld_of [] false [] (markText_ok (K + 1) (by omega)) rfl trivial (vc trivial) (by rfl) ⟨_, _, rfl, rfl⟩ ?_
    rintro r out ⟨rfl, rfl⟩
    refine ⟨by simp, by simp, by simp, vc ?_⟩
    refine brB_intro (fun hb => EndQ.closed (.v _) ⟨?_, rfl⟩) (fun hb => ?_)
    · rw [if_neg (hne (fun e => by have e := congrArg Pr.v e; simp only [mkPr] at e; rw [e] at hb; simp at hb))]
    · have he2 : xs[i].v = mkTx (K + 1) := (ba_ne _ _).1 hb
      have he : xs[i] = mkPr xs[i] K := by
        rw [mkPr, ← he1, ← he2]
      refine hN _ (i + 1) [] ⟨h, take_next hi.2 hx hm he⟩ (by omega) (by rfl) (vc ?_) (vc trivial)
      rw [w64 _ (by omega), w64 _ (by omega), hnx]; simp; omega
  · have h : i = xs.length := by simp at h; omega
    refine EndQ.closed (.v _) ⟨?_, rfl⟩
    have : xs = M := by have := hi.2; rw [h, List.take_length, ← hl', List.take_length] at this; exact this
    rw [if_pos this, h, List.take_length]
theorem mkPr_idem (x : Pr) (k : Int) : mkPr (mkPr x k) k = mkPr x k ∧ (c2 (mkPr x k) : Nat) = c2 x := ⟨rfl, rfl⟩
theorem mkSt_idem (x : ByteArray) (k : Int) : mkSt (mkSt x k) k = mkSt x k ∧ (c1 (mkSt x k) : Nat) = c1 x := ⟨rfl, rfl⟩
theorem mkIn_idem (x : Int) (k : Int) : mkIn (mkIn x k) k = mkIn x k ∧ (c1 (mkIn x k) : Nat) = c1 x := ⟨rfl, rfl⟩
theorem heldMarkedPairS_ok (xs : List Pr) (k : Int) (hl : xs.length ≤ 2^60) (hk : 0 ≤ k ∧ k + sumL c2 xs ≤ 2^60) : CallOk Tryz.prog 170 [] [Rw ((mkL mkPr c2 xs k).map prC), In k] (fun r out => r = In (k + sumL c2 xs) ∧ out = []) := by
  have hi := mkL_idem (c := c2) mkPr_idem xs k
  have h := heldPairS_ok (mkL mkPr c2 xs k) k (by rw [mkL_length]; exact hl) (by rw [hi.2]; exact hk)
  rwa [hi.1, hi.2, if_pos rfl] at h
end Go.Proofs.YtnnmpdanfeejbaaGreat.Abs

/- The laws' marks on nodes and trees: their contracts. -/
namespace Go.Proofs.YtnnmpdanfeejbaaGreat.Abs
open Go Go.Proofs
set_option maxRecDepth 10000
set_option linter.unusedVariables false
set_option linter.unusedSimpArgs false
theorem markPairS_nil (k : Int) (hk : 0 ≤ k ∧ k ≤ 2^60) (b : Bool) : CallOk Tryz.prog 138 [] [.c (.row b []), In k] (fun r out => r = In k ∧ out = []) := by
  refine callOk_z (np := 0) {} mixed Tryz.func138 (by rfl) Tryz.ntmps138 Tryz.results138 (by rfl) (Nat.le_of_ble_eq_true rfl) rfl rfl rfl (vc ?_)
  refine loopQ_of (ι := Unit) (fun i => [(0, .c (.row b [])), (1, In k), (5, In (0 : Nat))]) (fun i => []) 1 (fun i => 0) (fun i => True) () trivial [] (by rfl) (vc trivial) (vc trivial) (fun i hi N hN => vc ?_)
  exact EndQ.closed (.v _) ⟨rfl, rfl⟩
theorem markStringS_nil (k : Int) (hk : 0 ≤ k ∧ k ≤ 2^60) (b : Bool) : CallOk Tryz.prog 139 [] [.c (.row b []), In k] (fun r out => r = In k ∧ out = []) := by
  refine callOk_z (np := 0) {} mixed Tryz.func139 (by rfl) Tryz.ntmps139 Tryz.results139 (by rfl) (Nat.le_of_ble_eq_true rfl) rfl rfl rfl (vc ?_)
  refine loopQ_of (ι := Unit) (fun i => [(0, .c (.row b [])), (1, In k), (5, In (0 : Nat))]) (fun i => []) 1 (fun i => 0) (fun i => True) () trivial [] (by rfl) (vc trivial) (vc trivial) (fun i hi N hN => vc ?_)
  exact EndQ.closed (.v _) ⟨rfl, rfl⟩
theorem markIntS_nil (k : Int) (hk : 0 ≤ k ∧ k ≤ 2^60) (b : Bool) : CallOk Tryz.prog 31 [] [.c (.row b []), In k] (fun r out => r = In k ∧ out = []) := by
  refine callOk_z (np := 0) {} mixed Tryz.func31 (by rfl) Tryz.ntmps31 Tryz.results31 (by rfl) (Nat.le_of_ble_eq_true rfl) rfl rfl rfl (vc ?_)
  refine loopQ_of (ι := Unit) (fun i => [(0, .c (.row b [])), (1, In k), (5, In (0 : Nat))]) (fun i => []) 1 (fun i => 0) (fun i => True) () trivial [] (by rfl) (vc trivial) (vc trivial) (fun i hi N hN => vc ?_)
  exact EndQ.closed (.v _) ⟨rfl, rfl⟩
def mkNd (n : Nd) (k : Int) : Nd := ⟨mkL mkPr c2 n.ps k, mkL mkSt c1 n.ks (k + sumL c2 n.ps), mkL mkIn c1 n.cs (k + sumL c2 n.ps + sumL c1 n.ks)⟩
def cntN (n : Nd) : Nat := sumL c2 n.ps + sumL c1 n.ks + sumL c1 n.cs
theorem mkNd_idem (n : Nd) (k : Int) : mkNd (mkNd n k) k = mkNd n k ∧ cntN (mkNd n k) = cntN n := by
  have h1 := mkL_idem (c := c2) mkPr_idem n.ps k
  have h2 := mkL_idem (c := c1) mkSt_idem n.ks (k + sumL c2 n.ps)
  have h3 := mkL_idem (c := c1) mkIn_idem n.cs (k + sumL c2 n.ps + sumL c1 n.ks)
  simp only [mkNd, cntN]
  rw [h1.1, h1.2, h2.1, h2.2, h3.1, h3.2]
  exact ⟨rfl, rfl⟩
theorem markNodeS_ok (ty : Nat) (xs : List Nd) (k : Int) (hl : xs.length ≤ 2^60) (hk : 0 ≤ k ∧ k + sumL cntN xs ≤ 2^60) : CallOk Tryz.prog 81 [.rw ty 3 (xs.map (ndC true))] [.sl 1 xs.length, In k]
    (fun r out => r = In (k + sumL cntN xs) ∧ out = [some (.rw ty 3 ((mkL mkNd cntN xs k).map (ndC true)))]) := by
  refine callOk_z (np := 1) { js := [5, 6], fs := [(4, 4), (5, 4), (6, 4)] } mixed Tryz.func81 (by rfl) Tryz.ntmps81 Tryz.results81 (by rfl) (Nat.le_of_ble_eq_true rfl) rfl rfl rfl (vc ?_)
  generalize hM : mkL mkNd cntN xs k = M
  have hl' : M.length = xs.length := by rw [← hM, mkL_length]
  refine loopQ_of (fun i => [(0, .sl 1 xs.length), (1, In (k + (sumL cntN (xs.take i) : Nat))), (5, In (i : Nat))]) (fun i => [(1, .rw ty 3 ((M.take i ++ xs.drop i).map (ndC true)))]) 2 (fun i => xs.length - i) (fun i => i ≤ xs.length) 0 (Nat.zero_le _) [] (by rfl) (vc ?_) (vc ?_) (fun i hi N hN => vc (brB_intro (fun h => ?_) (fun h => ?_)))
  · simp [sumL_nil]
  · simp [HpS, wkO]
  · have h : i < xs.length := by simpa using h
    have hx := List.getElem?_eq_getElem h
    have hm : M[i]? = some (mkNd xs[i] (k + sumL cntN (xs.take i))) := by rw [← hM, mkL_get _ _ hx]
    have hle := sumL_le cntN xs (i + 1)
    have hnx := sumL_next cntN hx
    rw [hnx, cntN] at hle
    rw [cntN] at hnx
    have hget := mix_get (ndC true) hl' hx
    have hAl : ((M.take i ++ xs.drop i).map (ndC true)).length = xs.length := by simp; omega
    have hset : ∀ x : List CV, (((M.take i ++ xs.drop i).map (ndC true)).set i x)[i]? = some x := fun x => List.getElem?_set_self (by omega)
    generalize hA : (M.take i ++ xs.drop i).map (ndC true) = A at hget hAl hset ⊢
    generalize hK : k + sumL cntN (xs.take i) = K at hm hle hnx ⊢
    generalize hX : xs[i] = x at hm hle hnx hx hget ⊢
    obtain ⟨P, S, C⟩ := x
    simp only [mkNd] at hm
    simp only at hle hnx
    generalize hP1 : mkL mkPr c2 P K = P1 at hm
    generalize hS1 : mkL mkSt c1 S (K + sumL c2 P) = S1 at hm
    generalize hC1 : mkL mkIn c1 C (K + sumL c2 P + sumL c1 S) = C1 at hm
    have nP : P = [] → P1 = P := fun e => by rw [← hP1, e]; rfl
    have nS : S = [] → S1 = S := fun e => by rw [← hS1, e]; rfl
    have nC : C = [] → C1 = C := fun e => by rw [← hC1, e]; rfl
    have hlP := sumL_c2 P
    have hlS := sumL_c1 S
    have hlC := sumL_c1 C
    simp only [ndC] at hget
    refine joinQ_of (ι := Unit) (fun _ => [(0, .sl 1 xs.length), (1, In (K + sumL c2 P)), (5, In (i : Nat))]) (fun _ => [(1, .rw ty 3 (A.set i [.row true (P1.map prC), .row true (S.map stC), .row true (C.map inC)]))]) 2 (fun _ => True) (fun M1 hM1 => vc ?_) (fun _ _ => vc ?_)
    · refine fuseQ_of (vc ?_)
      refine ⟨⟨h, by omega⟩, ?_⟩
      by_cases h0 : P = []
      · refine fsK_seq (vc ?_)
        rw [hget]
        refine vc ?_
        rw [h0]
        refine callq_of true [] (markPairS_nil K (by omega) true) rfl trivial (vc trivial) ?_
        rintro r out ⟨rfl, rfl⟩
        refine ⟨by simp, by simp, fun _ => ⟨.v _, by simp⟩, vc ?_⟩
        refine hM1 _ () [] trivial (by rfl) (vc ?_) (vc ?_)
        · rw [h0, sumL_nil]; simp
        · rw [nP h0]
          exact (set_self hget).symm
      · refine fsK_tri rfl ⟨rfl, rfl, rfl, rfl, rfl, rfl, rfl, rfl⟩ (by rfl) ti109 rfl rfl rfl hget rfl (by simpa using h0) rfl 2 (pr_two _) _ (List.length_map _).symm (fun ty' => markPairS_ok ty' P K (by omega) (by omega)) (by rfl) (by simp [mkL_length]) (own_pr _) (vc ?_)
        rw [hP1]
        refine hM1 _ () [] trivial (by rfl) (vc trivial) (vc ?_)
        rfl
    refine joinQ_of (ι := Unit) (fun _ => [(0, .sl 1 xs.length), (1, In (K + sumL c2 P + sumL c1 S)), (5, In (i : Nat))]) (fun _ => [(1, .rw ty 3 (A.set i [.row true (P1.map prC), .row true (S1.map stC), .row true (C.map inC)]))]) 2 (fun _ => True) (fun M1 hM1 => vc ?_) (fun _ _ => vc ?_)
    · refine fuseQ_of (vc ?_)
      refine ⟨⟨h, by omega⟩, ?_⟩
      by_cases h0 : S = []
      · refine fsK_seq (vc ?_)
        rw [hset]
        refine vc ?_
        rw [h0]
        refine callq_of true [] (markStringS_nil (K + sumL c2 P) (by omega) true) rfl trivial (vc trivial) ?_
        rintro r out ⟨rfl, rfl⟩
        refine ⟨by simp, by simp, fun _ => ⟨.v _, by simp⟩, vc ?_⟩
        refine hM1 _ () [] trivial (by rfl) (vc ?_) (vc ?_)
        · rw [h0, sumL_nil]; simp
        · rw [nS h0, h0]; rfl
      · refine fsK_tri rfl ⟨rfl, rfl, rfl, rfl, rfl, rfl, rfl, rfl⟩ (by rfl) ti105 rfl rfl rfl (hset _) rfl (by simpa using h0) rfl 1 (st_one _) _ (List.length_map _).symm (fun ty' => markStringS_ok ty' S (K + sumL c2 P) (by omega) (by omega)) (by rfl) (by simp [mkL_length]) (own_st _) (vc ?_)
        rw [hS1]
        refine hM1 _ () [] trivial (by rfl) (vc trivial) (vc ?_)
        rfl
    refine fuseQ_of (vc ?_)
    refine ⟨⟨h, by omega⟩, ?_⟩
    by_cases h0 : C = []
    · refine fsK_seq (vc ?_)
      rw [hset]
      refine vc ?_
      rw [h0]
      refine callq_of true [] (markIntS_nil (K + sumL c2 P + sumL c1 S) (by omega) true) rfl trivial (vc trivial) ?_
      rintro r out ⟨rfl, rfl⟩
      refine ⟨by simp, by simp, fun _ => ⟨.v _, by simp⟩, vc ?_⟩
      refine hN _ (i + 1) [] h (by omega) (by rfl) (vc ?_) (vc ?_)
      · rw [w64 _ (by omega), hnx, h0, sumL_nil]; simp; omega
      · rw [← mix_set (ndC true) hl' hm, hA, nC h0, h0]; rfl
    · refine fsK_tri rfl ⟨rfl, rfl, rfl, rfl, rfl, rfl, rfl, rfl⟩ (by rfl) ti34 rfl rfl rfl (hset _) rfl (by simpa using h0) rfl 1 (in_one _) _ (List.length_map _).symm (fun ty' => markIntS_ok ty' C (K + sumL c2 P + sumL c1 S) (by omega) (by omega)) (by rfl) (by simp [mkL_length]) (own_in _) (vc ?_)
      rw [hC1]
      refine hN _ (i + 1) [] h (by omega) (by rfl) (vc ?_) (vc ?_)
      · rw [w64 _ (by omega), hnx]; simp; omega
      · rw [← mix_set (ndC true) hl' hm, hA]; rfl
  · have h : i = xs.length := by simp at h; omega
    refine endQ_of [] (In (k + sumL cntN xs)) [some (.rw ty 3 (M.map (ndC true)))] (by rfl) (vc ?_) (vc ?_) ⟨rfl, rfl⟩
    · rw [h, List.take_length]
    · rw [mix_all hl' h]
theorem markTree_ok (ty : Nat) (t : List Nd) (k : Int) (hl : t.length ≤ 2^60) (hk : 0 ≤ k ∧ k + sumL cntN t ≤ 2^60) : CallOk Tryz.prog 30 [.rw ty 3 (t.map (ndC true))] [.ag [.sl 1 t.length], In k]
    (fun r out => r = In (k + sumL cntN t) ∧ out = [some (.rw ty 3 ((mkL mkNd cntN t k).map (ndC true)))]) := by
  refine callOk_z (np := 1) {} mixed Tryz.func30 (by rfl) Tryz.ntmps30 Tryz.results30 (by rfl) (Nat.le_of_ble_eq_true rfl) rfl rfl rfl (vc ?_)
  refine callq_of false [1] (markNodeS_ok ty t k hl hk) rfl (vc trivial) (vc trivial) ?_
  rintro r out ⟨rfl, rfl⟩
  refine ⟨by simp, by simp, by simp, vc ?_⟩
  exact endQ_of [] (In (k + sumL cntN t)) [some (.rw ty 3 ((mkL mkNd cntN t k).map (ndC true)))] (by rfl) (vc trivial) (vc trivial) ⟨rfl, rfl⟩
theorem cntN_le : ∀ t : List Nd, sumL cntN t ≤ 2 * szT t
  | [] => by simp [sumL_nil]
  | x :: r => by
    have ih := cntN_le r
    have h1 := sumL_c2 x.ps
    have h2 := sumL_c1 x.ks
    have h3 := sumL_c1 x.cs
    simp only [szT, sumL_cons, List.length_cons, cntN, szN] at ih ⊢
    omega
end Go.Proofs.YtnnmpdanfeejbaaGreat.Abs
