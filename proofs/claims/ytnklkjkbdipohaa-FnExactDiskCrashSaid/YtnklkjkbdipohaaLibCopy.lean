/- 'copy(dst, src)' of bytes: dst a row of the call's own that is long enough, src a row that is read. -/
import Derived.Test.YtnklkjkbdipohaaLibMax
namespace Go.Proofs.Ytnklkjkbdipohaa.Ord
open Go Go.RowKit Go.Proofs.YtnklkjkbdipohaaW.PrintWords Go.Proofs.YtnklkjkbdipohaaW.PrintLast Go.Proofs.YtnklkjkbdipohaaW.PrintMore
set_option linter.unusedVariables false
set_option linter.unusedSimpArgs false
theorem set_list {α : Type} : ∀ (ys xs : List α) (i : Nat) (y : α), i + (y :: ys).length ≤ xs.length →
    (xs.set i y).take (i + 1) ++ ys ++ (xs.set i y).drop (i + 1 + ys.length) = xs.take i ++ (y :: ys) ++ xs.drop (i + (y :: ys).length) := by
  intro ys xs i y h
  simp at h
  have h1 : (xs.set i y).take (i + 1) = xs.take i ++ [y] := by
    rw [List.take_succ_eq_append_getElem (by rw [List.length_set]; omega), List.getElem_set_self, List.take_set_of_le (Nat.le_refl _)]
  have h2 : (xs.set i y).drop (i + 1 + ys.length) = xs.drop (i + 1 + ys.length) := by
    rw [List.drop_set_of_lt (by omega)]
  rw [h1, h2]
  simp [Nat.add_assoc, Nat.add_comm 1]
theorem copy_set {e base g n cap : Nat} {ok : Nat → Prop} {k : IntKind} {B : Nat} {w0 : World} (hB : B ≤ w0.heap.size ∨ True) : ∀ (ys xs : List Int) (i : Nat) (W : World), i + ys.length ≤ xs.length → (Kd.int k).R e W base ok (.slice (some ⟨g, 0, none⟩) n cap) xs →
    (Kd.int k).R e (W.setCells g i (ys.map fun y => .int k y)) base ok (.slice (some ⟨g, 0, none⟩) n cap) (xs.take i ++ ys ++ xs.drop (i + ys.length))
  | [], xs, i, W, _, h => by simpa [World.setCells] using h
  | y :: ys, xs, i, W, hl, h => by
    have h1 := Kd.R_putn (h1 := fun _ => rfl) (enc := Value.int k) h (i : Int) y
    rw [Int.toNat_natCast] at h1
    have h2 := copy_set hB ys (xs.set i y) (i + 1) _ (by simp at hl ⊢; omega) h1
    rw [set_list ys xs i y hl] at h2
    exact h2
theorem copy_below {w0 : World} {base g : Nat} (hg : base ≤ g) : ∀ (vs : List Value) (i : Nat) (W : World), Below base w0 W → Below base w0 (W.setCells g i vs)
  | [], _, _, h => h
  | v :: vs, i, W, h => copy_below hg vs (i + 1) _ (h.setCell hg _)
theorem copy_row {P : Program} {Q : Exit → Act → World → Prop} {ops : Array Oper} {rest : List Oper} {o : Oper} {a : Act} {w0 W : World} {base : Nat} {ok : Nat → Prop} (hgd : o.guard = none) (s x : Operand) (t e : TypeId) {z : Value} {bytes : Nat}
    (ho : o.op = .call { callee := .builtin .copy, args := #[s, x], argTypes := #[t, t] }) (ht : P.underlying t = some (.slice e)) (hinfo : (P.info? e).map (fun i => (i.zero, i.size, i.bytes)) = some (some z, 1, bytes))
    (v : Value) (xs ys : List Int) (A : Option Addr) (m c : Nat) (hs : a.eval s = v) (hx : a.eval x = .slice A m c) (HO : (Kd.int .u8).R e W base ok v xs) (HR : (Kd.int .u8).C W A m ys) (hle : (ys.length : Int) ≤ (xs.length : Int)) (HB : Below base w0 W)
    (h : ∀ w1, (Kd.int .u8).R e w1 base ok v (ys ++ xs.drop ys.length) → Below base w0 w1 → wpList P ops Q rest (a.put o.dst (.int .i64 (ys.length : Int))) w1) : wpList P ops Q (o :: rest) a W := by
  obtain ⟨i0, hi, hzz⟩ := Option.map_eq_some_iff.1 hinfo
  simp only [Prod.mk.injEq] at hzz
  have hsz : (P.info? e).map (·.size) = some 1 := by rw [hi]; simp [hzz.2.1]
  have hm : ys.length = m := HR.1
  obtain ⟨Ad, cap, rfl⟩ := Kd.R_slice HO
  have hn : xs.length = xs.length := rfl
  cases ys with
  | nil =>
    have hr := run_copy_none (P := P) W t t o.type e Ad A xs.length cap m c ht hsz (by simp at hm; subst hm; simp)
    refine Kd.event_run hgd (w1 := W) (v := goInt 0) ?_ (h W (by simpa using HO) HB)
    simp [execOp, ho, hs, hx, hr, resolve, invoke, builtin]
  | cons y0 ys0 =>
    have hpos : 0 < xs.length := by simp at hle; omega
    obtain ⟨as_, rfl, hcells⟩ := (Kd.reads_of_C (d := 0) HR).2.2 (by simp at hm; omega)
    have hbl : ∃ g, Ad = some (⟨g, 0, none⟩ : Addr) ∧ base ≤ g := by
      obtain ⟨inner, hown⟩ := Kd.R_own HO
      rcases hown.2 with ⟨he, h0⟩ | ⟨g, cap', cur, he, hb, _⟩
      · omega
      · injection he with he _ _
        exact ⟨g, he, hb⟩
    obtain ⟨g, rfl, hg⟩ := hbl
    have hr := run_copy_cells (P := P) W t t o.type e g 0 xs.length cap as_ m c ((y0 :: ys0).map (Value.int .u8)) ht hsz (by
        rw [List.length_map]
        have h1 : m ≤ xs.length := by omega
        show _ = min m xs.length
        omega) (fun j v hj => by
        rw [List.getElem?_map] at hj
        obtain ⟨y, hy, rfl⟩ := Option.map_eq_some_iff.1 hj
        obtain ⟨hl, hy2⟩ := List.getElem?_eq_some_iff.1 hy
        have := hcells j (by omega)
        rw [List.getD_eq_getElem?_getD, hy] at this
        exact this) (fun j hj => by
        rw [List.length_map] at hj
        have := (Kd.R_celln (h1 := fun _ => rfl) (0 : Int) HO (j : Int) (by omega) (by omega)).1
        rw [Int.toNat_natCast] at this
        simp [this]) (fun j hj => by
        rw [List.length_map] at hj
        have := (Kd.R_celln (h1 := fun _ => rfl) (0 : Int) HO (j : Int) (by omega) (by omega)).2
        rw [Int.toNat_natCast] at this
        simpa using this) (fun v hv => by
        obtain ⟨y, _, rfl⟩ := List.mem_map.1 hv
        rfl)
    have h2 := copy_set (w0 := W) (.inr trivial) (B := 0) (y0 :: ys0) xs 0 W (by simp at hle ⊢; omega) HO
    rw [List.take_zero, List.nil_append, Nat.zero_add] at h2
    refine Kd.event_run hgd (w1 := W.setCells g 0 ((y0 :: ys0).map (Value.int .u8))) (v := goInt ((y0 :: ys0).map (Value.int .u8)).length) ?_ ?_
    · simp only [List.length_map] at hr
      simp [execOp, ho, hs, hx, hr, resolve, invoke, builtin]
    · rw [List.length_map]
      exact h _ h2 (copy_below hg _ _ _ HB)
end Go.Proofs.Ytnklkjkbdipohaa.Ord
