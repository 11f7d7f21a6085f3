-- A program of this claim's session wrote this text.
import Derived.Test.YtnklkjkbdipohaaPFnExactDiskCrashx0
import Derived.Test.YtnklkjkbdipohaaPFnExactDiskCrashx3
namespace Go.Proofs.Ytnklkjkbdipohaa.PFnExactDiskCrash
open Go.RowKit Go.Proofs.YtnklkjkbdipohaaW.PrintWords Go.Proofs.YtnklkjkbdipohaaW.PrintLast Go.Proofs.YtnklkjkbdipohaaW.PrintMore
attribute [local go_sem] max2_int min2_int max_two min_two max_three min_three max_four min_four   -- for this text's walks alone
set_option linter.unusedVariables false
set_option linter.unusedSimpArgs false

/-! ### laws_markDisk: function 18 -/
/-- Marks in a row of bytes, told by its block alone. -/
theorem laws_markByteS.callsW (P : Nat → Prop) (v : Value) (n : Nat) (a : Int) (w : World) (hv : Heap.RB w P 5 v n) (h0 : 0 ≤ a) (h1 : a + n ≤ 4611686018427387904) :
    Calls Try.prog 30 #[v, .int .i64 a] w fun e w' => e = .returned (.int .i64 (a + n)) ∧ Heap.EffB P 5 w w' := by
  obtain ⟨A, c, rfl, hv⟩ := hv
  have HV := Aside0.mk hv
  clear hv
  have HE := Aside0.mk (Heap.EffB.refl P 5 w)
  go_enter Try.func30, Try.ntmps30
  go_wp2
  go_loopg [1, 5] (n + 1) (fun kq v1 v5 w' => ∃ (x1 x5 : Int), v1 = .int .i64 x1 ∧ v5 = .int .i64 x5 ∧ Aside0 (x1 = a + x5 ∧ 0 ≤ x5 ∧ x5 ≤ n ∧ x5 + kq = n + 1) ∧ Aside0 (Heap.EffB P 5 w w'))
  case atStart => exact ⟨a, 0, (by first | rfl | (simp; done)), (by first | rfl | (simp; done)), ⟨by omega⟩, HE⟩
  case round =>
    clear HE
    obtain ⟨x1, x5, rfl, rfl, HN, HE⟩ := hrel
    cases gk with
    | zero => exact absurd HN.out (by omega)
    | succ k1 =>
      by_cases c3 : x5 < (n : Int)
      · have c3b0 : decide (x5 < (n : Int)) = true := decide_eq_true c3
        have hn := HN.out
        have hs := HV.out.resolve_left (by omega)
        obtain ⟨g, rfl, hP, hT⟩ := hs
        obtain ⟨cs, hb, hm⟩ := HE.out.tb _ _ hT
        obtain ⟨old, hx⟩ : ∃ old, wr.cell? ⟨g, x5.toNat, none⟩ = some old := ⟨cs[x5.toNat]'(by omega), (blk_cell hb x5.toNat).trans (Array.getElem?_eq_getElem (by omega))⟩
        have hf := blk_frozen hb x5.toNat
        have HS := Aside0.mk (HE.out.trans (Heap.EffB.set hb hP x5.toNat (.int .u8 (x1 % 256))))
        have e1 : wrap64 (x1 + 1) = x1 + 1 := by unfold wrap64; omega
        have e5 : wrap64 (x5 + 1) = x5 + 1 := by unfold wrap64; omega
        have E1 := Aside0.mk e1
        have E5 := Aside0.mk e5
        have p5 : (0 ≤ x5) = True := eq_true hn.2.1
        have q5 : (x5 < (n : Int)) = True := eq_true c3
        have LT := Aside0.mk c3
        clear hn hP hT hb hm e1 e5 c3
        clear HE
        go_wp2_with (first | ((with_reducible refine gate_store (t := 5) (p := 16) rfl ?_); refine store_event (t := 5) (p := 16) (v := ?vo_w8) (w1 := (wr.setCell ⟨g, x5.toNat, none⟩ (.int .u8 (x1 % 256)))) ?hg ?ho ?hn ?hr ?_; (case ho => rfl); (case hg => rfl); (case hn => rfl); (case hr => first | (go_simp; done) | (go_simp; rfl)); intro w8 hw; rw [← hw] at HS; clear hw))
        go_roundg k1
        case measure => have := HN.out; omega
        case rel => exact ⟨wrap64 (x1 + 1), wrap64 (x5 + 1), (by first | rfl | (simp; done) | (simp [*]; done)), (by first | rfl | (simp; done) | (simp [*]; done)), ⟨by rw [E1.out, E5.out]; have := HN.out; have := LT.out; omega⟩, HS⟩
      · have c3b0 : decide (x5 < (n : Int)) = false := decide_eq_false c3
        have e : x1 = a + n := by have := HN.out; omega
        clear c3
        subst e
        go_wp2
        go_ret
        exact ⟨rfl, HE.out⟩
/-- Sheets, by their blocks: the outer row's cells are rows of bytes of so many. -/
def shapeS (w : World) (P : Nat → Prop) (v : Value) (ns : List Nat) : Prop := ∃ A c, v = .slice A ns.length c ∧ (ns.length = 0 ∨ ∃ (g : Nat) (cs : Array Value), A = some ⟨g, 0, none⟩ ∧ w.heap[g]? = some (.cells cs 101 (0, 0)) ∧ ∀ (i : Nat) (n : Nat), ns[i]? = some n → ∃ u, cs[i]? = some u ∧ Heap.RB w P 5 u n)
theorem shapeS.eff {P : Nat → Prop} {w w' : World} {v : Value} {ns : List Nat} (h : shapeS w P v ns) (k : Heap.EffB P 5 w w') : shapeS w' P v ns := by
  obtain ⟨A, c, e, h⟩ := h
  refine ⟨A, c, e, h.imp id ?_⟩
  rintro ⟨g, cs, hA, hb, hi⟩
  refine ⟨g, cs, hA, k.other g cs _ _ hb (by decide), fun i n hn => ?_⟩
  obtain ⟨u, hu, hr⟩ := hi i n hn
  exact ⟨u, hu, hr.eff k⟩
def tot (ns : List Nat) : Nat := ns.foldr (· + ·) 0
theorem tot_split (ns : List Nat) (i n : Nat) (h : ns[i]? = some n) : tot (ns.take (i + 1)) = tot (ns.take i) + n ∧ tot (ns.take i) + n ≤ tot ns := by
  induction ns generalizing i with
  | nil => simp at h
  | cons m ns ih =>
    cases i with
    | zero =>
      simp at h
      subst h
      simp [tot]
    | succ i =>
      have := ih i (by simpa using h)
      simp [tot] at this ⊢
      omega
theorem laws_markSheetS.callsW (P : Nat → Prop) (v : Value) (ns : List Nat) (a : Int) (w : World) (hv : shapeS w P v ns) (h0 : 0 ≤ a) (h1 : a + tot ns ≤ 4611686018427387904) (h2 : ns.length ≤ 4611686018427387904) :
    Calls Try.prog 68 #[v, .int .i64 a] w fun e w' => e = .returned (.int .i64 (a + tot ns)) ∧ Heap.EffB P 5 w w' := by
  obtain ⟨A, c, rfl, hv⟩ := hv
  have HV := Aside0.mk (show shapeS w P (.slice A ns.length c) ns from ⟨A, c, rfl, hv⟩)
  clear hv
  have HE := Aside0.mk (Heap.EffB.refl P 5 w)
  have hu1 := Try.underlying101
  go_enter Try.func68, Try.ntmps68
  go_wp2
  go_loopg [1, 5] (ns.length + 1) (fun kq v1 v5 w' => ∃ (x1 : Int) (i : Nat) (x5 : Int), v1 = .int .i64 x1 ∧ v5 = .int .i64 x5 ∧ Aside0 (x5 = (i : Int) ∧ x1 = a + tot (ns.take i) ∧ i ≤ ns.length ∧ i + kq = ns.length + 1) ∧ Aside0 (Heap.EffB P 5 w w'))
  case atStart => exact ⟨a, 0, 0, (by first | rfl | (simp; done)), (by first | rfl | (simp; done)), ⟨by simp [tot]⟩, HE⟩
  case round =>
    clear HE
    obtain ⟨x1, i, x5, rfl, rfl, HN, HE⟩ := hrel
    cases gk with
    | zero => exact absurd HN.out (by omega)
    | succ k1 =>
      by_cases c3 : x5 < (ns.length : Int)
      · have c3b0 : decide (x5 < (ns.length : Int)) = true := decide_eq_true c3
        have hn := HN.out
        obtain ⟨A', c', e', hs⟩ := HV.out.eff HE.out
        injection e' with e1' e2' e3'
        subst e1'
        obtain ⟨g, cs, rfl, hb, hi⟩ := hs.resolve_left (by omega)
        have hil : i < ns.length := by omega
        obtain ⟨u, hu, hr⟩ := hi i _ (List.getElem?_eq_getElem hil)
        obtain ⟨m, hm⟩ : ∃ m, m = ns[i] := ⟨_, rfl⟩
        rw [← hm] at hr
        have hsp := tot_split ns i m (by rw [List.getElem?_eq_getElem hil, hm])
        have hx : wr.cell? ⟨g, x5.toNat, none⟩ = some u := by rw [hn.1, Int.toNat_natCast]; exact (blk_cell hb i).trans hu
        obtain ⟨Au, cu, rfl, hr'⟩ := hr
        have HR := Aside0.mk (show Heap.RB wr P 5 (.slice Au m cu) m from ⟨Au, cu, rfl, hr'⟩)
        have SP := Aside0.mk hsp
        have e5 : wrap64 (x5 + 1) = x5 + 1 := by unfold wrap64; omega
        have E5 := Aside0.mk e5
        have p5 : (0 ≤ x5) = True := eq_true (by omega)
        have q5 : (x5 < (ns.length : Int)) = True := eq_true c3
        have B0 := Aside0.mk (show 0 ≤ x1 by omega)
        have B1 := Aside0.mk (show x1 + m ≤ 4611686018427387904 by omega)
        have LT := Aside0.mk hil
        clear hn hb hi hu hsp hr' e5 c3 e2' e3' hm hil hs
        go_wp2_with (first | ((with_reducible refine gate_callee (f := 30) rfl ?_); refine goesL_ (some 18) rfl rfl Try.func30 (by kernel_rfl) rfl #[.slice Au m cu, .int .i64 x1] rfl (by (try simp only [List.map_toArray, List.map_cons, List.map_nil]); first | done | rfl) ?_; (with_reducible refine (laws_markByteS.callsW P (.slice Au m cu) m x1 _ ?side1 ?side2 ?side3).mono ?_); (case side1 => exact HR.out); (case side2 => exact B0.out); (case side3 => exact B1.out); rintro e w8 ⟨rfl, he⟩; refine ⟨_, rfl, ?_⟩; have HE2 := Aside0.mk (HE.out.trans he); clear HE; clear he))
        go_roundg k1
        case measure => have := HN.out; omega
        case rel => exact ⟨x1 + m, i + 1, wrap64 (x5 + 1), (by first | rfl | (simp; done) | (simp [*]; done)), (by first | rfl | (simp; done) | (simp [*]; done)), ⟨by rw [E5.out]; have := HN.out; have := LT.out; have := SP.out; omega⟩, HE2⟩
      · have c3b0 : decide (x5 < (ns.length : Int)) = false := decide_eq_false c3
        have e : x1 = a + tot ns := by
          have := HN.out
          rw [List.take_of_length_le (by omega)] at this
          exact this.2.1
        clear c3
        subst e
        go_wp2
        go_ret
        exact ⟨rfl, HE.out⟩
/-- Writes, by their blocks. -/
def shapeW (w : World) (P : Nat → Prop) (v : Value) (ns : List Nat) : Prop := ∃ A c, v = .slice A ns.length c ∧ (ns.length = 0 ∨ ∃ (g : Nat) (cs : Array Value), A = some ⟨g, 0, none⟩ ∧ P g ∧ w.heap[g]? = some (.cells cs 98 (0, 0)) ∧ ∀ (i : Nat) (n : Nat), ns[i]? = some n → (∃ x, cs[i * 2]? = some x) ∧ ∃ u, cs[i * 2 + 1]? = some u ∧ Heap.RB w P 5 u n)
theorem shapeW.eff {P : Nat → Prop} {w w' : World} {v : Value} {ns : List Nat} (h : shapeW w P v ns) (k : Heap.EffB P 5 w w') : shapeW w' P v ns := by
  obtain ⟨A, c, e, h⟩ := h
  refine ⟨A, c, e, h.imp id ?_⟩
  rintro ⟨g, cs, hA, hP, hb, hi⟩
  refine ⟨g, cs, hA, hP, k.other g cs _ _ hb (by decide), fun i n hn => ?_⟩
  obtain ⟨hx, u, hu, hr⟩ := hi i n hn
  exact ⟨hx, u, hu, hr.eff k⟩
theorem shapeW.set {P : Nat → Prop} {w : World} {g n c : Nat} {ns : List Nat} (hn : n = ns.length) {cs : Array Value} (hP : P g) (hb : w.heap[g]? = some (.cells cs 98 (0, 0))) (hi : ∀ (i : Nat) (n : Nat), ns[i]? = some n → (∃ x, cs[i * 2]? = some x) ∧ ∃ u, cs[i * 2 + 1]? = some u ∧ Heap.RB w P 5 u n) (j : Nat) (x : Value) :
    shapeW (w.setCell ⟨g, j * 2, none⟩ x) P (.slice (some ⟨g, 0, none⟩) n c) ns := by
  subst hn
  refine ⟨_, c, rfl, .inr ⟨g, _, rfl, hP, blk_set hb (j * 2) x, fun i n hn => ?_⟩⟩
  obtain ⟨⟨y, hy⟩, u, hu, hr⟩ := hi i n hn
  have hl := (Array.getElem?_eq_some_iff.1 hy).1
  refine ⟨⟨(cs.setIfInBounds (j * 2) x)[i * 2]'(by simpa using hl), Array.getElem?_eq_getElem _⟩, u, ?_, ?_⟩
  · rw [Array.getElem?_setIfInBounds_ne (by omega)]
    exact hu
  · exact hr.eff (Q := P) (t' := 98) (Heap.EffB.set hb hP (j * 2) x)
theorem laws_markWriteS.callsW (P : Nat → Prop) (v : Value) (ns : List Nat) (a : Int) (w : World) (hv : shapeW w P v ns) (h0 : 0 ≤ a) (h1 : a + tot ns + ns.length ≤ 4611686018427387904) :
    Calls Try.prog 69 #[v, .int .i64 a] w fun e w' => e = .returned (.int .i64 (a + tot ns + ns.length)) ∧ Below 0 w w' ∧ Kept w w' P := by
  obtain ⟨A, c, rfl, hv⟩ := hv
  have HV := Aside0.mk (show shapeW w P (.slice A ns.length c) ns from ⟨A, c, rfl, hv⟩)
  clear hv
  have HE := Aside0.mk (show Below 0 w w ∧ Kept w w P from ⟨Below.refl _ _, Kept.refl _ _⟩)
  have hu1 := Try.underlying98
  go_enter Try.func69, Try.ntmps69
  go_wp2
  go_loopg [1, 5] (ns.length + 1) (fun kq v1 v5 w' => ∃ (x1 : Int) (i : Nat) (x5 : Int), v1 = .int .i64 x1 ∧ v5 = .int .i64 x5 ∧ Aside0 (x5 = (i : Int) ∧ x1 = a + tot (ns.take i) + i ∧ i ≤ ns.length ∧ i + kq = ns.length + 1) ∧ Aside0 (shapeW w' P (.slice A ns.length c) ns) ∧ Aside0 (Below 0 w w' ∧ Kept w w' P))
  case atStart => exact ⟨a, 0, 0, (by first | rfl | (simp; done)), (by first | rfl | (simp; done)), ⟨by simp [tot]⟩, HV, HE⟩
  case round =>
    clear HE HV
    obtain ⟨x1, i, x5, rfl, rfl, HN, HV, HE⟩ := hrel
    cases gk with
    | zero => exact absurd HN.out (by omega)
    | succ k1 =>
      by_cases c3 : x5 < (ns.length : Int)
      · have c3b0 : decide (x5 < (ns.length : Int)) = true := decide_eq_true c3
        have hn := HN.out
        obtain ⟨A', c', e', hs⟩ := HV.out
        injection e' with e1' e2' e3'
        subst e1'
        obtain ⟨g, cs, rfl, hP, hb, hi⟩ := hs.resolve_left (by omega)
        have hil : i < ns.length := by omega
        obtain ⟨⟨y, hy⟩, u, hu, hr⟩ := hi i _ (List.getElem?_eq_getElem hil)
        obtain ⟨m, hm⟩ : ∃ m, m = ns[i] := ⟨_, rfl⟩
        rw [← hm] at hr
        have hsp := tot_split ns i m (by rw [List.getElem?_eq_getElem hil, hm])
        have ex : x5.toNat = i := by rw [hn.1, Int.toNat_natCast]
        have hx : wr.cell? ⟨g, x5.toNat * 2, none⟩ = some y := by rw [ex]; exact (blk_cell hb (i * 2)).trans hy
        have hf := blk_frozen hb (x5.toNat * 2)
        have HS8 := Aside0.mk (shapeW.set (c := c) rfl hP hb hi x5.toNat (.int .i64 x1))
        have he8 := Heap.EffB.set hb hP (x5.toNat * 2) (.int .i64 x1)
        have HE8 := Aside0.mk (show Below 0 w (wr.setCell ⟨g, x5.toNat * 2, none⟩ (.int .i64 x1)) ∧ Kept w (wr.setCell ⟨g, x5.toNat * 2, none⟩ (.int .i64 x1)) P from ⟨HE.out.1.setCell (Nat.zero_le _) _, HE.out.2.then_ he8.kept (fun _ hk => .inl hk)⟩)
        have HR8 := Aside0.mk (hr.eff he8)
        have HX8 := Aside0.mk (show (wr.setCell ⟨g, x5.toNat * 2, none⟩ (.int .i64 x1)).cell? ⟨g, x5.toNat * 2 + 1, none⟩ = some u from by
          refine (blk_cell (blk_set hb (x5.toNat * 2) (.int .i64 x1)) (x5.toNat * 2 + 1)).trans ?_
          rw [Array.getElem?_setIfInBounds_ne (by omega), ex]
          exact hu)
        obtain ⟨Au, cu, rfl, hr'⟩ := hr
        have SP := Aside0.mk hsp
        have e5 : wrap64 (x5 + 1) = x5 + 1 := by unfold wrap64; omega
        have e1 : wrap64 (x1 + 1) = x1 + 1 := by unfold wrap64; omega
        have E5 := Aside0.mk e5
        have E1 := Aside0.mk e1
        have p5 : (0 ≤ x5) = True := eq_true (by omega)
        have q5 : (x5 < (ns.length : Int)) = True := eq_true c3
        have B0 := Aside0.mk (show 0 ≤ wrap64 (x1 + 1) by rw [e1]; omega)
        have B1 := Aside0.mk (show wrap64 (x1 + 1) + m ≤ 4611686018427387904 by rw [e1]; omega)
        have LT := Aside0.mk hil
        clear hn hb hi hy hu hsp hr' e5 e1 c3 e2' e3' hm hil hs hP he8 ex HV HE
        go_wp2_with (first | ((with_reducible refine gate_store (t := 3) (p := 16) rfl ?_); refine store_event (t := 3) (p := 16) (v := ?vo_w8) (w1 := (wr.setCell ⟨g, x5.toNat * 2, none⟩ (.int .i64 x1))) ?hg ?ho ?hn ?hr ?_; (case ho => rfl); (case hg => rfl); (case hn => rfl); (case hr => first | (go_simp; done) | (go_simp; rfl)); intro w8 hw; rw [← hw] at HS8 HE8 HR8 HX8; clear hw; have hx8 := HX8.out; clear hx hf) | ((with_reducible refine gate_callee (f := 30) rfl ?_); refine goesL_ (some 25) rfl rfl Try.func30 (by kernel_rfl) rfl #[.slice Au m cu, .int .i64 (wrap64 (x1 + 1))] rfl (by (try simp only [List.map_toArray, List.map_cons, List.map_nil]); first | done | rfl) ?_; (with_reducible refine (laws_markByteS.callsW P (.slice Au m cu) m (wrap64 (x1 + 1)) _ ?side1 ?side2 ?side3).mono ?_); (case side1 => exact HR8.out); (case side2 => exact B0.out); (case side3 => exact B1.out); rintro e w9 ⟨rfl, he⟩; refine ⟨_, rfl, ?_⟩; have HS9 := Aside0.mk (HS8.out.eff he); have HE9 := Aside0.mk (show Below 0 w w9 ∧ Kept w w9 P from ⟨HE8.out.1.trans he.below, HE8.out.2.then_ he.kept (fun _ hk => .inl hk)⟩); clear he))
        go_roundg k1
        case measure => have := HN.out; omega
        case rel => exact ⟨wrap64 (x1 + 1) + m, i + 1, wrap64 (x5 + 1), (by first | rfl | (simp; done) | (simp [*]; done)), (by first | rfl | (simp; done) | (simp [*]; done)), ⟨by rw [E5.out, E1.out]; have := HN.out; have := LT.out; have := SP.out; omega⟩, HS9, HE9⟩
      · have c3b0 : decide (x5 < (ns.length : Int)) = false := decide_eq_false c3
        have e : x1 = a + tot ns + ns.length := by
          have := HN.out
          rw [List.take_of_length_le (by omega)] at this
          omega
        clear c3
        subst e
        go_wp2
        go_ret
        exact ⟨rfl, HE.out⟩
theorem cell_one {inner : List Value} {j sz m : Nat} {v : Value} {c : List Value} (h : (inner.drop (j * sz)).take sz = c) (hm : m < sz) (hv : c[m]? = some v) : inner[j * sz + m]? = some v := by
  rw [← h, List.getElem?_take, if_pos hm, List.getElem?_drop] at hv
  exact hv
theorem shapeS.of {w : World} {base : Nat} {ok : Nat → Prop} {v : Value} {l : List S101} (h : Kd.R k101 101 w base ok v l) : shapeS w (fun k => ok k ∧ base ≤ k) v (l.map fun x => x.f0.length) := by
  obtain ⟨h0, inner, ho, hr⟩ := Kd.R_bound h
  obtain ⟨A, c, e, h2⟩ := Heap.RB_own (size := 1) (by omega) ho hr.1
  refine ⟨A, c, by rw [List.length_map]; exact e, h2.imp (fun z => by rw [List.length_map]; exact z) ?_⟩
  rintro ⟨g, cs, hA, ho', hb, hm, hin⟩
  refine ⟨g, cs, hA, hb, fun i n hn => ?_⟩
  rw [List.getElem?_map] at hn
  obtain ⟨x, hx, rfl⟩ := Option.map_eq_some_iff.1 hn
  obtain ⟨v0, hv0, g0⟩ := k101_openM (hr.2 i x hx)
  have := cell_one (sz := 1) (m := 0) hv0 (by omega) rfl
  exact ⟨v0, by have := hin _ _ this; rwa [Nat.mul_one, Nat.add_zero] at this, (Heap.RB_of rfl g0).mono (fun k hk => ⟨hk.1.1, hk.1.2.1⟩)⟩
theorem shapeW.of {w : World} {base : Nat} {ok : Nat → Prop} {v : Value} {l : List S98} (h : Kd.R k98 98 w base ok v l) : shapeW w (fun k => ok k ∧ base ≤ k) v (l.map fun x => x.f1.length) := by
  obtain ⟨h0, inner, ho, hr⟩ := Kd.R_bound h
  obtain ⟨A, c, e, h2⟩ := Heap.RB_own (size := 2) (by omega) ho hr.1
  refine ⟨A, c, by rw [List.length_map]; exact e, h2.imp (fun z => by rw [List.length_map]; exact z) ?_⟩
  rintro ⟨g, cs, hA, ho', hb, hm, hin⟩
  refine ⟨g, cs, hA, ⟨(h0 g ho').1, (h0 g ho').2.1⟩, hb, fun i n hn => ?_⟩
  rw [List.getElem?_map] at hn
  obtain ⟨x, hx, rfl⟩ := Option.map_eq_some_iff.1 hn
  obtain ⟨v0, hv0, g0⟩ := k98_openM (hr.2 i x hx)
  have e0 := hin _ _ (cell_one (sz := 2) (m := 0) hv0 (by omega) rfl)
  have e1 := hin _ _ (cell_one (sz := 2) (m := 1) hv0 (by omega) rfl)
  exact ⟨⟨_, e0⟩, v0, e1, (Heap.RB_of rfl g0).mono (fun k hk => ⟨hk.1.1, hk.1.2.1⟩)⟩
theorem shapeS.mono {P Q : Nat → Prop} {w : World} {v : Value} {ns : List Nat} (h : shapeS w P v ns) (hQ : ∀ k, P k → Q k) : shapeS w Q v ns := by
  obtain ⟨A, c, e, h⟩ := h
  refine ⟨A, c, e, h.imp id ?_⟩
  rintro ⟨g, cs, hA, hb, hi⟩
  refine ⟨g, cs, hA, hb, fun i n hn => ?_⟩
  obtain ⟨u, hu, hr⟩ := hi i n hn
  exact ⟨u, hu, hr.mono hQ⟩
theorem shapeW.mono {P Q : Nat → Prop} {w : World} {v : Value} {ns : List Nat} (h : shapeW w P v ns) (hQ : ∀ k, P k → Q k) : shapeW w Q v ns := by
  obtain ⟨A, c, e, h⟩ := h
  refine ⟨A, c, e, h.imp id ?_⟩
  rintro ⟨g, cs, hA, hP, hb, hi⟩
  refine ⟨g, cs, hA, hQ g hP, hb, fun i n hn => ?_⟩
  obtain ⟨hx, u, hu, hr⟩ := hi i n hn
  exact ⟨hx, u, hu, hr.mono hQ⟩
def laws_markDisk.f (l0 : List S101) (l1 : List S98) (a : Int) : Option Int := if 0 ≤ a ∧ a + tot (l0.map fun x => x.f0.length) + tot (l1.map fun x => x.f1.length) + l1.length ≤ 4611686018427387904 ∧ l0.length ≤ 4611686018427387904 then some (a + tot (l0.map fun x => x.f0.length) + tot (l1.map fun x => x.f1.length) + l1.length) else none
theorem laws_markDisk.calls (P0_0_ : Nat → Prop) (u0 : Value) (l0_0 : List S101) (P0_1_ : Nat → Prop) (u1 : Value) (l0_1 : List S98) (a1 : Int) (r : Int) (w0 w : World) (hB : Below w0.heap.size w0 w) (ho0_0 : Kd.R k101 101 w w0.heap.size P0_0_ u0 l0_0) (ho0_1 : Kd.R k98 98 w w0.heap.size P0_1_ u1 l0_1) (h : laws_markDisk.f l0_0 l0_1 a1 = some r) :
    Calls Try.prog 18 #[.agg #[u0, u1], .int .i64 a1] w fun e w' => e = .returned (.int .i64 r) ∧ Below w0.heap.size w0 w' ∧ Kept w w' (fun k_ => P0_0_ k_ ∨ P0_1_ k_) := by
  unfold laws_markDisk.f at h
  by_cases hc : 0 ≤ a1 ∧ a1 + tot (l0_0.map fun x => x.f0.length) + tot (l0_1.map fun x => x.f1.length) + l0_1.length ≤ 4611686018427387904 ∧ l0_0.length ≤ 4611686018427387904
  · rw [if_pos hc] at h
    obtain rfl := Option.some.inj h
    have hu1 := Try.underlying30
    obtain ⟨P, hPdef⟩ : ∃ P : Nat → Prop, P = fun k => (P0_0_ k ∨ P0_1_ k) ∧ w0.heap.size ≤ k := ⟨_, rfl⟩
    have s0 : shapeS w P u0 (l0_0.map fun x => x.f0.length) := (shapeS.of ho0_0).mono (fun k hk => by rw [hPdef]; exact ⟨.inl hk.1, hk.2⟩)
    have s1 : shapeW w P u1 (l0_1.map fun x => x.f1.length) := (shapeW.of ho0_1).mono (fun k hk => by rw [hPdef]; exact ⟨.inr hk.1, hk.2⟩)
    have hl0 : (l0_0.map fun x => x.f0.length).length = l0_0.length := List.length_map _
    have hl1 : (l0_1.map fun x => x.f1.length).length = l0_1.length := List.length_map _
    revert s0 s1 hl0 hl1 hc
    generalize (l0_0.map fun x => x.f0.length) = n0
    generalize (l0_1.map fun x => x.f1.length) = n1
    intro hc s0 s1 hl0 hl1
    rw [← hl0, ← hl1] at hc
    rw [← hl1]
    have S0 := Aside0.mk s0
    have S1 := Aside0.mk s1
    have HC := Aside0.mk hc
    obtain ⟨A0, c0, rfl, _⟩ := s0
    obtain ⟨A1, c1, rfl, _⟩ := s1
    have HB := Aside0.mk (Below.refl w.heap.size w)
    clear hc h ho0_0 ho0_1 hl0 hl1
    go_enter Try.func18, Try.ntmps18
    go_wp2_with (first | ((with_reducible refine gate_dst (N := 2) rfl ?_); refine box_event ?hg (N := 2) ?hd (cs := #[.slice A0 n0.length c0, .slice A1 n1.length c1]) (t := 30) ?hr ?_; (case hd => rfl); (case hg => rfl); (case hr => first | (go_simp; done) | (go_simp; rfl)); intro gb2 hg w2 hbox hb; have HB2 := Aside0.mk hb; have BK2 := Aside0.mk hbox; clear HB hb hbox hg; have hcz2_0 : w2.cell? ⟨gb2, 0, none⟩ = some (.slice A0 n0.length c0) := (blk_cell BK2.out 0).trans rfl) | ((with_reducible refine gate_callee (f := 68) rfl ?_); refine goesL_ (some 8) rfl rfl Try.func68 (by kernel_rfl) rfl #[.slice A0 n0.length c0, .int .i64 a1] rfl (by (try simp only [List.map_toArray, List.map_cons, List.map_nil]); first | done | rfl) ?_; (with_reducible refine (laws_markSheetS.callsW P (.slice A0 n0.length c0) n0 a1 _ ?side1 ?side2 ?side3 ?side4).mono ?_); (case side1 => exact S0.out.eff (Heap.EffB.of_below HB2.out)); (case side2 => exact HC.out.1); (case side3 => have := HC.out; omega); (case side4 => have := HC.out; omega); rintro e w3 ⟨rfl, he⟩; refine ⟨_, rfl, ?_⟩; have HE3 := Aside0.mk he; have BK3 := Aside0.mk (he.other _ _ _ _ BK2.out (by decide)); clear hcz2_0 he; have hcz3_1 : w3.cell? ⟨gb2, 1, none⟩ = some (.slice A1 n1.length c1) := (blk_cell BK3.out 1).trans rfl) | ((with_reducible refine gate_callee (f := 69) rfl ?_); refine goesL_ (some 12) rfl rfl Try.func69 (by kernel_rfl) rfl #[.slice A1 n1.length c1, .int .i64 (a1 + tot n0)] rfl (by (try simp only [List.map_toArray, List.map_cons, List.map_nil]); first | done | rfl) ?_; (with_reducible refine (laws_markWriteS.callsW P (.slice A1 n1.length c1) n1 (a1 + tot n0) _ ?side1 ?side2 ?side3).mono ?_); (case side1 => exact (S1.out.eff (Heap.EffB.of_below HB2.out)).eff HE3.out); (case side2 => have := HC.out; omega); (case side3 => have := HC.out; omega); rintro e w4 ⟨rfl, hb4, hk4⟩; refine ⟨_, rfl, ?_⟩; have HB4 := Aside0.mk hb4; have HK4 := Aside0.mk hk4; clear hb4 hk4))
    go_ret
    have k2 : Kept w w2 P := Kept.of_below HB2.out P
    have k4 : Kept w w4 P := (k2.then_ HE3.out.kept (fun _ hk => .inl hk)).then_ HK4.out (fun _ hk => .inl hk)
    have b4 : Below 0 w w4 := ((Heap.EffB.of_below (P := P) (t := 0) HB2.out).below.trans HE3.out.below).trans HB4.out
    refine ⟨rfl, Heap.below_kept hB b4 k4 (fun i hi => by rw [hPdef] at hi; exact hi.2), k4.mono (fun i hi => by rw [hPdef] at hi; exact hi.1)⟩
  · rw [if_neg hc] at h
    cases h
/-! The same where no two sheets share a row, and nothing waits. -/
def mpat (a : Int) (n : Nat) : List Int := (List.range n).map fun j : Nat => (a + (j : Int)) % 256
theorem mpat_len (a : Int) (n : Nat) : (mpat a n).length = n := by simp [mpat]
theorem mark_l0 (l : List Int) (a : Int) (h : l.length ≤ 4611686018427387904) (h0 : 0 ≤ a) (h1 : a + l.length ≤ 4611686018427387904) (d : Nat) : ∀ (i k : Nat), i + d = l.length → d < k →
    laws_markByteS.l0 k (mpat a i ++ l.drop i) (a + (i : Int)) (i : Int) = some (a + (l.length : Int), mpat a l.length) := by
  induction d with
  | zero =>
    intro i k hi hk
    obtain ⟨k, rfl⟩ : ∃ m, k = m + 1 := ⟨k - 1, by omega⟩
    have e : i = l.length := by omega
    subst e
    simp only [laws_markByteS.l0]
    rw [if_neg (by rw [List.length_append, mpat_len, List.length_drop]; omega), List.drop_length, List.append_nil]
  | succ d ih =>
    intro i k hi hk
    obtain ⟨k, rfl⟩ : ∃ m, k = m + 1 := ⟨k - 1, by omega⟩
    have hl : i < l.length := by omega
    simp only [laws_markByteS.l0]
    have e1 : wrap64 (a + (i : Int) + 1) = a + ((i + 1 : Nat) : Int) := by unfold wrap64; omega
    have e2 : wrap64 ((i : Int) + 1) = ((i + 1 : Nat) : Int) := by unfold wrap64; omega
    rw [if_pos (by rw [List.length_append, mpat_len, List.length_drop]; omega), if_pos (by omega), Int.toNat_natCast, List.set_append_right _ _ (by rw [mpat_len]; omega), mpat_len, Nat.sub_self, List.drop_eq_getElem_cons hl, List.set_cons_zero, e1, e2]
    have e3 : mpat a i ++ ((a + (i : Int)) % 256) :: l.drop (i + 1) = mpat a (i + 1) ++ l.drop (i + 1) := by
      simp [mpat, List.range_succ]
    rw [e3]
    exact ih (i + 1) k (by omega) (by omega)
theorem mark_f (l : List Int) (a : Int) (h0 : 0 ≤ a) (h1 : a + l.length ≤ 4611686018427387904) : laws_markByteS.f (l.length + 1) l a = some (a + (l.length : Int), mpat a l.length) := by
  unfold laws_markByteS.f
  have := mark_l0 l a (by omega) h0 h1 l.length 0 (l.length + 1) (by omega) (by omega)
  simpa [mpat] using this
def markS : List S101 → Int → List S101
  | [], _ => []
  | x :: l, a => ⟨mpat a x.f0.length⟩ :: markS l (a + x.f0.length)
def lens (l : List S101) : List Nat := l.map fun x => x.f0.length
theorem markS_len : ∀ (l : List S101) (a : Int), (markS l a).length = l.length
  | [], _ => rfl
  | x :: l, a => by simp only [markS, List.length_cons, markS_len l]
/-- The first i sheets are marked. -/
def markI (l : List S101) (a : Int) (i : Nat) : List S101 := markS (l.take i) a ++ l.drop i
theorem markI_len (l : List S101) (a : Int) (i : Nat) (h : i ≤ l.length) : (markI l a i).length = l.length := by
  unfold markI
  rw [List.length_append, markS_len, List.length_take, List.length_drop]
  omega
theorem markS_snoc : ∀ (l : List S101) (a : Int) (x : S101), markS (l ++ [x]) a = markS l a ++ [⟨mpat (a + tot (lens l)) x.f0.length⟩]
  | [], a, x => by simp [markS, lens, tot]
  | y :: l, a, x => by
    simp only [List.cons_append, markS, markS_snoc l]
    simp [lens, tot, Int.add_assoc]
theorem markI_next (l : List S101) (a : Int) (i : Nat) (h : i < l.length) : (markI l a i).set i ⟨mpat (a + tot (lens (l.take i))) (l[i]).f0.length⟩ = markI l a (i + 1) := by
  unfold markI
  have e : (markS (l.take i) a).length = i := by rw [markS_len, List.length_take]; omega
  rw [List.set_append_right _ _ (by omega), e, Nat.sub_self, List.drop_eq_getElem_cons h, List.set_cons_zero, List.take_succ_eq_append_getElem h, markS_snoc, List.append_assoc]
  rfl
theorem markI_at (l : List S101) (a : Int) (i : Nat) (h : i < l.length) (z : S101) : (markI l a i).getD i z = l[i] := by
  unfold markI
  have e : (markS (l.take i) a).length = i := by rw [markS_len, List.length_take]; omega
  rw [List.getD_eq_getElem?_getD, List.getElem?_append_right (by omega), e, Nat.sub_self, List.getElem?_drop, Nat.add_zero, List.getElem?_eq_getElem h]
  rfl
set_option maxRecDepth 100000 in
set_option maxHeartbeats 4000000 in
theorem laws_markSheetS.callsS (P : Nat → Prop) (v : Value) (l : List S101) (a : Int) (w0 w : World) (hB : Below w0.heap.size w0 w) (hv : Kd.S k101 101 w w0.heap.size P v l) (h0 : 0 ≤ a) (h1 : a + tot (lens l) ≤ 4611686018427387904) (h2 : l.length ≤ 4611686018427387904) :
    Calls Try.prog 68 #[v, .int .i64 a] w fun e w' => e = .returned (.int .i64 (a + tot (lens l))) ∧ Kd.S k101 101 w' w0.heap.size P v (markS l a) ∧ Below w0.heap.size w0 w' ∧ Kept w w' P := by
  have HV := Aside0.mk (show Kd.S k101 101 w w0.heap.size P v (markI l a 0) from (by simpa [markI, markS] using hv))
  obtain ⟨A, c, rfl⟩ := Kd.S_slice hv
  have HE := Aside0.mk (show Below w0.heap.size w0 w ∧ Kept w w P from ⟨hB, Kept.refl _ _⟩)
  have hu1 := Try.underlying101
  clear hv
  go_enter Try.func68, Try.ntmps68
  go_wp2
  go_loopg [1, 5] (l.length + 1) (fun kq v1 v5 w' => ∃ (x1 : Int) (i : Nat) (x5 : Int), v1 = .int .i64 x1 ∧ v5 = .int .i64 x5 ∧ Aside0 (x5 = (i : Int) ∧ x1 = a + tot (lens (l.take i)) ∧ i ≤ l.length ∧ i + kq = l.length + 1) ∧ Aside0 (Kd.S k101 101 w' w0.heap.size P (.slice A l.length c) (markI l a i)) ∧ Aside0 (Below w0.heap.size w0 w' ∧ Kept w w' P))
  case atStart => exact ⟨a, 0, 0, (by first | rfl | (simp; done)), (by first | rfl | (simp; done)), ⟨by simp [tot, lens]⟩, HV, HE⟩
  case round =>
    clear HE HV
    obtain ⟨x1, i, x5, rfl, rfl, HN, HV, HE⟩ := hrel
    cases gk with
    | zero => exact absurd HN.out (by omega)
    | succ k1 =>
      by_cases c3 : x5 < (l.length : Int)
      · have c3b0 : decide (x5 < (l.length : Int)) = true := decide_eq_true c3
        have hn := HN.out
        have hil : i < l.length := by omega
        have hml := markI_len l a i (by omega)
        obtain ⟨g, cap, hsl, _, _, _⟩ := Kd.S_form HV.out (by omega)
        rw [hml] at hsl
        injection hsl with e1 e2 e3
        subst e1
        obtain ⟨oki, cc, hcl, hM, hcc, hoki, hH⟩ := Kd.S_lend HV.out z101 x5 (by omega) (by omega)
        have ex : x5.toNat = i := by rw [hn.1, Int.toNat_natCast]
        rw [ex, markI_at l a i hil] at hM
        obtain ⟨v0, rfl, hR0⟩ := k101_openM hM
        obtain ⟨m, hm⟩ : ∃ m, m = l[i].f0.length := ⟨_, rfl⟩
        obtain ⟨Au, cu, rfl⟩ := Kd.R_slice hR0
        have hx : wr.cell? ⟨g, x5.toNat, none⟩ = some (.slice Au m cu) := by have := hcc 0 _ rfl; rw [show (k101).sz = 1 from rfl, Nat.mul_one, Nat.add_zero] at this; rw [hm]; exact this
        have hsp := tot_split (lens l) i m (by unfold lens; rw [List.getElem?_map, List.getElem?_eq_getElem hil, hm]; rfl)
        have htk : (lens l).take i = lens (l.take i) := by unfold lens; rw [List.map_take]
        have htk1 : (lens l).take (i + 1) = lens (l.take (i + 1)) := by unfold lens; rw [List.map_take]
        rw [htk, htk1] at hsp
        have B0 := Aside0.mk (show 0 ≤ x1 by omega)
        have B1 := Aside0.mk (show x1 + m ≤ 4611686018427387904 by omega)
        have hf := mark_f l[i].f0 x1 (by omega) (by rw [← hm]; omega)
        rw [← hm] at hf
        have HF := Aside0.mk hf
        have HR := Aside0.mk (show Kd.R (Kd.int .u8) 5 wr w0.heap.size oki (.slice Au m cu) l[i].f0 by rw [hm]; exact hR0)
        have HH := Aside0.mk hH
        have SP := Aside0.mk hsp
        have e5 : wrap64 (x5 + 1) = x5 + 1 := by unfold wrap64; omega
        have E5 := Aside0.mk e5
        have p5 : (0 ≤ x5) = True := eq_true (by omega)
        have q5 : (x5 < (l.length : Int)) = True := eq_true c3
        have LT := Aside0.mk hil
        have HO := Aside0.mk hoki
        have HXE := Aside0.mk ex
        have HM := Aside0.mk hm
        have HT1 := Aside0.mk htk1
        have HNX := Aside0.mk (markI_next l a i hil)
        rw [← hm, ← hn.2.1] at HNX
        clear hn hR0 hM hcc hoki hH hsp hf hml htk htk1 e5 c3 e2 e3 hcl ex hm
        go_wp2_with (first | ((with_reducible refine gate_callee (f := 30) rfl ?_); refine goesL_ (some 18) rfl rfl Try.func30 (by kernel_rfl) rfl #[.slice Au m cu, .int .i64 x1] rfl (by (try simp only [List.map_toArray, List.map_cons, List.map_nil]); first | done | rfl) ?_; (with_reducible refine (laws_markByteS.calls (m + 1) oki (.slice Au m cu) l[i].f0 x1 (x1 + m) (mpat x1 m) w0 _ ?side1 ?side2 ?side3).mono ?_); (case side1 => exact HE.out.1); (case side2 => exact HR.out); (case side3 => exact HF.out); rintro e w8 ⟨rfl, hr8, hb8, hk8⟩; refine ⟨_, rfl, ?_⟩; have HR8 := Aside0.mk hr8; have HE8 := Aside0.mk (show Below w0.heap.size w0 w8 ∧ Kept wr w8 oki from ⟨hb8, hk8⟩); clear hr8 hb8 hk8))
        have hS8 : Kd.S k101 101 w8 w0.heap.size P (.slice (some ⟨g, 0, none⟩) l.length c) (markI l a (i + 1)) := by
          have hH8 := Kd.H_kept HH.out HE8.out.2 (fun k _ hn => hn)
          have hM8 : k101.M w8 w0.heap.size oki ⟨mpat x1 m⟩ [.slice Au m cu] := k101_mkM _ _ _ ⟨mpat x1 m⟩ (Kd.R_reok rfl HR8.out (fun k hk => HR.out.1 k hk))
          rw [HM.out] at hM8
          have := Kd.H_back hH8 hM8 (fun _ hk => hk)
          rw [HXE.out, ← HM.out, HNX.out] at this
          exact this
        have HS8 := Aside0.mk hS8
        have HK8 := Aside0.mk (show Kept w w8 P from HE.out.2.then_ HE8.out.2 (fun k hk => .inl (HO.out k hk).1))
        clear hS8
        go_roundg k1
        case measure => have := HN.out; omega
        case rel => exact ⟨x1 + m, i + 1, wrap64 (x5 + 1), (by first | rfl | (simp; done) | (simp [*]; done)), (by first | rfl | (simp; done) | (simp [*]; done)), ⟨by rw [E5.out]; have := HN.out; have := LT.out; have := SP.out; omega⟩, HS8, ⟨HE8.out.1, HK8.out⟩⟩
      · have c3b0 : decide (x5 < (l.length : Int)) = false := decide_eq_false c3
        have hn := HN.out
        have ei : i = l.length := by omega
        have e : x1 = a + tot (lens l) := by
          rw [List.take_of_length_le (by omega)] at hn
          exact hn.2.1
        have HS := Aside0.mk (show Kd.S k101 101 wr w0.heap.size P (.slice A l.length c) (markS l a) by
          have := HV.out
          rw [ei] at this
          simpa [markI] using this)
        clear c3 hn ei
        subst e
        go_wp2
        go_ret
        exact ⟨rfl, HS.out, HE.out.1, HE.out.2⟩
def laws_markDiskS.f (l0 : List S101) (l1 : List S98) (a : Int) : Option (Int × List S101 × List S98) := if 0 ≤ a ∧ a + tot (lens l0) ≤ 4611686018427387904 ∧ l0.length ≤ 4611686018427387904 ∧ l1.length = 0 then some (a + tot (lens l0), markS l0 a, l1) else none
theorem laws_markDiskS.calls (P0_0_ : Nat → Prop) (u0 : Value) (l0_0 : List S101) (P0_1_ : Nat → Prop) (u1 : Value) (l0_1 : List S98) (a1 : Int) (r1 : Int) (r2 : List S101) (r3 : List S98) (w0 w : World) (hB : Below w0.heap.size w0 w) (ho0_0 : Kd.S k101 101 w w0.heap.size P0_0_ u0 l0_0) (ho0_1 : Kd.S k98 98 w w0.heap.size P0_1_ u1 l0_1) (h : laws_markDiskS.f l0_0 l0_1 a1 = some (r1, r2, r3)) :
    Calls Try.prog 18 #[.agg #[u0, u1], .int .i64 a1] w fun e w' => e = .returned (.int .i64 r1) ∧ Kd.S k101 101 w' w0.heap.size P0_0_ u0 r2 ∧ Kd.S k98 98 w' w0.heap.size P0_1_ u1 r3 ∧ Below w0.heap.size w0 w' ∧ Kept w w' (fun k_ => P0_0_ k_ ∨ P0_1_ k_) := by
  unfold laws_markDiskS.f at h
  by_cases hc : 0 ≤ a1 ∧ a1 + tot (lens l0_0) ≤ 4611686018427387904 ∧ l0_0.length ≤ 4611686018427387904 ∧ l0_1.length = 0
  · rw [if_pos hc] at h
    simp only [Option.some.injEq, Prod.mk.injEq] at h
    obtain ⟨rfl, rfl, rfl⟩ := h
    have hu1 := Try.underlying30
    have HC := Aside0.mk hc
    have hn : l0_1 = [] := List.eq_nil_of_length_eq_zero hc.2.2.2
    subst hn
    obtain ⟨A0, c0, rfl⟩ := Kd.S_slice ho0_0
    obtain ⟨A1, c1, rfl⟩ := Kd.S_slice ho0_1
    have S0 := Aside0.mk ho0_0
    -- what waits: nothing; its own block is of another type
    have hq : Kd.S k98 98 w w0.heap.size (fun k => some k = (Value.slice A1 0 c1).ownBlock) (.slice A1 0 c1) [] := by
      obtain ⟨f, h0, inner, ho, hr⟩ := ho0_1
      exact ⟨f, fun k hk => hk.symm, inner, ho, hr.1, fun j p hj => by simp at hj⟩
    have S1 := Aside0.mk hq
    have HO1 := Aside0.mk (show ∀ k, (Value.slice A1 0 c1).ownBlock = some k → P0_1_ k from (Kd.S_R ho0_1).1)
    have HB := Aside0.mk hB
    clear hc ho0_0 ho0_1 hq hB
    simp only [List.length_nil]
    obtain ⟨wA, hwA⟩ : ∃ wA : World, wA = w := ⟨_, rfl⟩
    go_enter Try.func18, Try.ntmps18
    go_wp2_with (first | ((with_reducible refine gate_dst (N := 2) rfl ?_); refine box_event ?hg (N := 2) ?hd (cs := #[.slice A0 l0_0.length c0, .slice A1 0 c1]) (t := 30) ?hr ?_; (case hd => rfl); (case hg => rfl); (case hr => first | (go_simp; done) | (go_simp; rfl)); intro gb2 hg w2 hbox hb; have S02 := Aside0.mk (Kd.S_types (Kd.S_apart' (Kd.S_below S0.out hb) (Kd.S_typed (Kd.S_below S1.out hb)) (by decide)) hbox (by decide)); have S12 := Aside0.mk (Kd.S_below S1.out hb); have HB2 := Aside0.mk (Heap.below_kept HB.out (Heap.EffB.of_below (P := fun _ => False) (t := 0) hb).below (Kept.of_below hb (fun _ => False)) (fun _ hq => hq.elim)); have HK2 := Aside0.mk (show Kept w w2 (fun _ => False) from Kept.of_below hb _); have BK2 := Aside0.mk hbox; clear hb hbox hg; have hcz2_0 : w2.cell? ⟨gb2, 0, none⟩ = some (.slice A0 l0_0.length c0) := (blk_cell BK2.out 0).trans rfl) | ((with_reducible refine gate_callee (f := 68) rfl ?_); refine goesL_ (some 8) rfl rfl Try.func68 (by kernel_rfl) rfl #[.slice A0 l0_0.length c0, .int .i64 a1] rfl (by (try simp only [List.map_toArray, List.map_cons, List.map_nil]); first | done | rfl) ?_; (with_reducible refine (laws_markSheetS.callsS (fun k => (P0_0_ k ∧ some k ≠ (Value.slice A1 0 c1).ownBlock) ∧ k ≠ gb2) (.slice A0 l0_0.length c0) l0_0 a1 w0 _ ?side1 ?side2 ?side3 ?side4 ?side5).mono ?_); (case side1 => exact HB2.out); (case side2 => exact S02.out); (case side3 => exact HC.out.1); (case side4 => have := HC.out; omega); (case side5 => have := HC.out; omega); rintro e w3 ⟨rfl, hs3, hb3, hk3⟩; refine ⟨_, rfl, ?_⟩; have S03 := Aside0.mk hs3; have HB3 := Aside0.mk hb3; have HK3 := Aside0.mk hk3; have BK3 := Aside0.mk (blk_kept BK2.out hk3 (fun hq => hq.2 rfl)); have S13 := Aside0.mk (Kd.S_kept S12.out hk3 (fun k hk hq => hq.1.2 hk)); clear hcz2_0 hs3 hb3 hk3; have hcz3_1 : w3.cell? ⟨gb2, 1, none⟩ = some (.slice A1 0 c1) := (blk_cell BK3.out 1).trans rfl) | ((with_reducible refine gate_callee (f := 69) rfl ?_); refine goesL_ (some 12) rfl rfl Try.func69 (by kernel_rfl) rfl #[.slice A1 0 c1, .int .i64 (a1 + tot (lens l0_0))] rfl (by (try simp only [List.map_toArray, List.map_cons, List.map_nil]); first | done | rfl) ?_; (with_reducible refine (laws_markWriteS.callsW (fun _ => False) (.slice A1 0 c1) [] (a1 + tot (lens l0_0)) _ ?side1 ?side2 ?side3).mono ?_); (case side1 => exact ⟨A1, c1, rfl, .inl rfl⟩); (case side2 => have := HC.out; omega); (case side3 => have := HC.out; have e0 : tot [] = 0 := rfl; rw [e0, List.length_nil]; omega); rintro e w4 ⟨rfl, hb4, hk4⟩; refine ⟨_, rfl, ?_⟩; have HB4 := Aside0.mk hb4; have HK4 := Aside0.mk hk4; clear hb4 hk4))
    go_ret
    have k2 : Kept w w2 (fun k_ => P0_0_ k_ ∨ P0_1_ k_) := HK2.out.mono (fun _ hk => hk.elim)
    have k3 : Kept w w3 (fun k_ => P0_0_ k_ ∨ P0_1_ k_) := k2.then_ HK3.out (fun k hk => .inl (.inl hk.1.1))
    have k4 : Kept w w4 (fun k_ => P0_0_ k_ ∨ P0_1_ k_) := k3.then_ HK4.out (fun k hk => hk.elim)
    refine ⟨by simp [tot], Kd.S_mono (Kd.S_kept S03.out HK4.out (fun _ _ hq => hq)) (fun k hk => hk.1.1), Kd.S_mono (Kd.S_kept S13.out HK4.out (fun _ _ hq => hq)) (fun k hk => HO1.out k hk.symm), Heap.below_kept HB3.out HB4.out HK4.out (fun _ hq => hq.elim), k4⟩
  · rw [if_neg hc] at h
    cases h

/-! ### laws_heldByteS: function 126 -/
def laws_heldByteS.l0 : Nat → List Int → Int → Int → Option (Int)
  | 0, _, _, _ => none
  | k + 1, x0, x1, x5 => if x5 < (x0.length : Int) then (if 0 ≤ x5 then (if (rd x0 x5) = ((x1) % 256) then (laws_heldByteS.l0 k x0 (wrap64 (x1 + 1)) (wrap64 (x5 + 1))) else (some (-1))) else (none)) else (some x1)
def laws_heldByteS.f (k : Nat) (l0 : List Int) (a1 : Int) : Option (Int) := laws_heldByteS.l0 k l0 a1 0
theorem laws_heldByteS.mono_l : ∀ k, (∀ y0 y1 y2, LeO (laws_heldByteS.l0 k y0 y1 y2) (laws_heldByteS.l0 (k + 1) y0 y1 y2))
  | 0 => fun _ _ _ r h => by simp [laws_heldByteS.l0] at h
  | k + 1 => by
    have ih0 := laws_heldByteS.mono_l k
    · intro y0 y1 y2
      unfold laws_heldByteS.l0
      repeat' first
      | (with_reducible exact ih0 _ _ _)
      | (with_reducible exact LeO.refl _)
      | (with_reducible exact LeO.none _)
      | (with_reducible refine LeO.ite ?_ ?_)
      | (with_reducible refine LeO.bind ?_ (fun _ => ?_))
      | exact ih0 _ _ _
      | exact LeO.none _
      | refine LeO.ite ?_ ?_
      | refine LeO.bind ?_ (fun _ => ?_)
theorem laws_heldByteS.mono : ∀ a0 a1 k, LeO (laws_heldByteS.f k a0 a1) (laws_heldByteS.f (k + 1) a0 a1) := by
  intro a0 a1 k
  have ih0 := laws_heldByteS.mono_l k
  unfold laws_heldByteS.f
  repeat' first
      | (with_reducible exact ih0 _ _ _)
      | (with_reducible exact LeO.refl _)
      | (with_reducible exact LeO.none _)
      | (with_reducible refine LeO.ite ?_ ?_)
      | (with_reducible refine LeO.bind ?_ (fun _ => ?_))
      | exact ih0 _ _ _
      | exact LeO.none _
      | refine LeO.ite ?_ ?_
      | refine LeO.bind ?_ (fun _ => ?_)
set_option maxHeartbeats 8000000 in
set_option maxRecDepth 100000 in
theorem laws_heldByteS.calls (k : Nat) (A0 : Option Addr) (c0 : Nat) (l0 : List Int) (a1 : Int) (r : Int) (w : World) (hr0 : Kd.C (Kd.int .u8) w A0 l0.length l0) (hc0 : l0.length ≤ c0) (h : laws_heldByteS.f k l0 a1 = some r) :
    Calls Try.prog 126 #[.slice A0 l0.length c0, .int .i64 a1] w fun e w' => e = .returned (.int .i64 r) ∧ Drawn0 w w' := by
  have HR0 := Aside0.mk hr0
  have HC0 := Aside0.mk hc0
  clear hr0 hc0
  have H : (laws_heldByteS.l0 k l0 a1 0) = some r := h
  clear h
  have H' := Aside0.mk H
  clear H
  go_enter Try.func126, Try.ntmps126
  go_wp2
  go_loopg [1, 5] k (fun kq v1 v5 w' => ∃ (x1_1 : Int) (x5_1 : Int), v1 = .int .i64 x1_1 ∧ v5 = .int .i64 x5_1 ∧ Aside0 (laws_heldByteS.l0 kq l0 x1_1 x5_1 = some r) ∧ Aside0 (kq ≤ k) ∧ Drawn0 w w')
  case atStart => exact ⟨(a1), (0), (by first | rfl | (simp; done) | (simp [*]; done)), (by first | rfl | (simp; done) | (simp [*]; done)), H', ⟨Nat.le_refl _⟩, by repeat (first | exact Drawn0.refl _ | apply Drawn0.step)⟩
  case round =>
    clear H'
    try clear c1
    try clear p2
    obtain ⟨x1_1, x5_1, rfl, rfl, HA, HK1, ⟨m1, rfl⟩⟩ := hrel
    cases gk with
    | zero => exact absurd HA.out (by simp [laws_heldByteS.l0])
    | succ k1 =>
      have H := HA.out
      clear HA
      simp only [laws_heldByteS.l0] at H
      by_cases c3 : x5_1 < (l0.length : Int)
      · rw [if_pos c3] at H
        have c3b0 : decide (x5_1 < (l0.length : Int)) = true := decide_eq_true c3
        clear c3
        by_cases c4 : 0 ≤ x5_1
        · rw [if_pos c4] at H
          have c4b0 : decide (0 ≤ x5_1) = true := decide_eq_true c4
          clear c4
          by_cases c5 : (rd l0 x5_1) = ((x1_1) % 256)
          · rw [if_pos c5] at H
            have c5b0 : ((rd l0 x5_1) == ((x1_1) % 256)) = true := beq_iff_eq.mpr c5
            have c5b1 : ((rd l0 x5_1) != ((x1_1) % 256)) = false := bne_eq_false_iff_eq.mpr c5
            clear c5
            have H' := Aside0.mk H
            clear H
            have p175 : 0 ≤ (x5_1 : Int) := of_decide_eq_true (by first | (with_reducible assumption) | assumption)
            have q175 : x5_1 < (l0.length : Int) := of_decide_eq_true (by first | (with_reducible assumption) | assumption)
            obtain ⟨ad175, e175, hx175_0⟩ := Kd.at_int HR0.out x5_1 p175 q175
            cases e175
            replace p175 := eq_true p175
            replace q175 := eq_true q175
            go_wp2
            go_roundg k1
            case measure => have := HK1.out; omega
            case rel => exact ⟨(wrap64 (x1_1 + 1)), (wrap64 (x5_1 + 1)), (by first | rfl | (simp; done) | (simp [*]; done)), (by first | rfl | (simp; done) | (simp [*]; done)), H', ⟨by have := HK1.out; omega⟩, by repeat (first | exact Drawn0.refl _ | apply Drawn0.step)⟩
          · rw [if_neg c5] at H
            have c5b0 : ((rd l0 x5_1) == ((x1_1) % 256)) = false := beq_eq_false_iff_ne.mpr c5
            have c5b1 : ((rd l0 x5_1) != ((x1_1) % 256)) = true := bne_iff_ne.mpr c5
            obtain rfl := Option.some.inj H
            have p175 : 0 ≤ (x5_1 : Int) := of_decide_eq_true (by first | (with_reducible assumption) | assumption)
            have q175 : x5_1 < (l0.length : Int) := of_decide_eq_true (by first | (with_reducible assumption) | assumption)
            obtain ⟨ad175, e175, hx175_0⟩ := Kd.at_int HR0.out x5_1 p175 q175
            cases e175
            replace p175 := eq_true p175
            replace q175 := eq_true q175
            go_wp2
            go_ret
            exact ⟨by first | rfl | (simp; done) | (simp [*]; done), by repeat (first | exact Drawn0.refl _ | apply Drawn0.step)⟩
        · rw [if_neg c4] at H
          exact absurd H (by simp)
      · rw [if_neg c3] at H
        have c3b0 : decide (x5_1 < (l0.length : Int)) = false := decide_eq_false c3
        clear c3
        obtain rfl := Option.some.inj H
        go_wp2
        go_ret
        exact ⟨by first | rfl | (simp; done) | (simp [*]; done), by repeat (first | exact Drawn0.refl _ | apply Drawn0.step)⟩

/-! ### laws_heldSheetS: function 70 -/
def laws_heldSheetS.l0 : Nat → List (S101) → Int → Int → Option (Int)
  | 0, _, _, _ => none
  | k + 1, x0, x1, x5 => if x5 < (x0.length : Int) then (if 0 ≤ x5 then ((laws_heldByteS.f k ((rd_T101 x0 x5).f0) x1).bind fun t177 => (if t177 < 0 then (some (-1)) else (laws_heldSheetS.l0 k x0 t177 (wrap64 (x5 + 1))))) else (none)) else (some x1)
def laws_heldSheetS.f (k : Nat) (l0 : List (S101)) (a1 : Int) : Option (Int) := laws_heldSheetS.l0 k l0 a1 0
theorem laws_heldSheetS.mono_l : ∀ k, (∀ y0 y1 y2, LeO (laws_heldSheetS.l0 k y0 y1 y2) (laws_heldSheetS.l0 (k + 1) y0 y1 y2))
  | 0 => fun _ _ _ r h => by simp [laws_heldSheetS.l0] at h
  | k + 1 => by
    have ih0 := laws_heldSheetS.mono_l k
    · intro y0 y1 y2
      unfold laws_heldSheetS.l0
      repeat' first
      | (with_reducible exact ih0 _ _ _)
      | (with_reducible exact laws_heldByteS.mono _ _ _)
      | (with_reducible exact LeO.refl _)
      | (with_reducible exact LeO.none _)
      | (with_reducible refine LeO.ite ?_ ?_)
      | (with_reducible refine LeO.bind ?_ (fun _ => ?_))
      | exact ih0 _ _ _
      | exact laws_heldByteS.mono _ _ _
      | exact LeO.none _
      | refine LeO.ite ?_ ?_
      | refine LeO.bind ?_ (fun _ => ?_)
theorem laws_heldSheetS.mono : ∀ a0 a1 k, LeO (laws_heldSheetS.f k a0 a1) (laws_heldSheetS.f (k + 1) a0 a1) := by
  intro a0 a1 k
  have ih0 := laws_heldSheetS.mono_l k
  unfold laws_heldSheetS.f
  repeat' first
      | (with_reducible exact ih0 _ _ _)
      | (with_reducible exact laws_heldByteS.mono _ _ _)
      | (with_reducible exact LeO.refl _)
      | (with_reducible exact LeO.none _)
      | (with_reducible refine LeO.ite ?_ ?_)
      | (with_reducible refine LeO.bind ?_ (fun _ => ?_))
      | exact ih0 _ _ _
      | exact laws_heldByteS.mono _ _ _
      | exact LeO.none _
      | refine LeO.ite ?_ ?_
      | refine LeO.bind ?_ (fun _ => ?_)
set_option maxHeartbeats 8000000 in
set_option maxRecDepth 100000 in
theorem laws_heldSheetS.calls (k : Nat) (A0 : Option Addr) (c0 : Nat) (l0 : List (S101)) (a1 : Int) (r : Int) (w : World) (hr0 : Kd.C k101 w A0 l0.length l0) (hc0 : l0.length ≤ c0) (h : laws_heldSheetS.f k l0 a1 = some r) :
    Calls Try.prog 70 #[.slice A0 l0.length c0, .int .i64 a1] w fun e w' => e = .returned (.int .i64 r) ∧ Drawn0 w w' := by
  have HR0 := Aside0.mk hr0
  have HC0 := Aside0.mk hc0
  clear hr0 hc0
  have H : (laws_heldSheetS.l0 k l0 a1 0) = some r := h
  clear h
  have H' := Aside0.mk H
  clear H
  go_enter Try.func70, Try.ntmps70
  go_wp2
  go_loopg [1, 5] k (fun kq v1 v5 w' => ∃ (x1_1 : Int) (x5_1 : Int), v1 = .int .i64 x1_1 ∧ v5 = .int .i64 x5_1 ∧ Aside0 (laws_heldSheetS.l0 kq l0 x1_1 x5_1 = some r) ∧ Aside0 (kq ≤ k) ∧ Drawn0 w w')
  case atStart => exact ⟨(a1), (0), (by first | rfl | (simp; done) | (simp [*]; done)), (by first | rfl | (simp; done) | (simp [*]; done)), H', ⟨Nat.le_refl _⟩, by repeat (first | exact Drawn0.refl _ | apply Drawn0.step)⟩
  case round =>
    clear H'
    try clear p2
    obtain ⟨x1_1, x5_1, rfl, rfl, HA, HK1, ⟨m1, rfl⟩⟩ := hrel
    cases gk with
    | zero => exact absurd HA.out (by simp [laws_heldSheetS.l0])
    | succ k1 =>
      have H := HA.out
      clear HA
      simp only [laws_heldSheetS.l0] at H
      by_cases c3 : x5_1 < (l0.length : Int)
      · rw [if_pos c3] at H
        have c3b0 : decide (x5_1 < (l0.length : Int)) = true := decide_eq_true c3
        clear c3
        by_cases c4 : 0 ≤ x5_1
        · rw [if_pos c4] at H
          have c4b0 : decide (0 ≤ x5_1) = true := decide_eq_true c4
          clear c4
          replace H := Option.bind_eq_some_iff.mp H
          obtain ⟨t177, A50, H⟩ := H
          replace H : (if t177 < 0 then (some (-1)) else (laws_heldSheetS.l0 k1 l0 t177 (wrap64 (x5_1 + 1)))) = some r := H
          have A5 := Aside0.mk A50
          clear A50
          by_cases c6 : t177 < 0
          · rw [if_pos c6] at H
            have c6b0 : decide (t177 < 0) = true := decide_eq_true c6
            clear c6
            obtain rfl := Option.some.inj H
            have p176 : 0 ≤ (x5_1 : Int) := of_decide_eq_true (by first | (with_reducible assumption) | assumption)
            have q176 : x5_1 < (l0.length : Int) := of_decide_eq_true (by first | (with_reducible assumption) | assumption)
            obtain ⟨ad176, A176_0, c176_0, e176, hx176_0, hl176_0, hi176_0⟩ := at_T101 HR0.out x5_1 p176 q176
            cases e176
            have HR176_0 := Aside0.mk hi176_0
            have HC176_0 := Aside0.mk hl176_0
            clear hi176_0 hl176_0
            replace p176 := eq_true p176
            replace q176 := eq_true q176
            go_wp2_with (first | ((with_reducible refine gate_callee (f := 126) rfl ?_); refine goesL_ (some 18) rfl rfl Try.func126 (by kernel_rfl) rfl #[.slice A176_0 ((rd_T101 l0 x5_1).f0).length c176_0, .int .i64 x1_1] rfl (by (try simp only [List.map_toArray, List.map_cons, List.map_nil]); first | done | rfl | (simp only [List.length_drop, List.length_take]; rfl)) ?_; (with_reducible refine (laws_heldByteS.calls k1 _ _ ((rd_T101 l0 x5_1).f0) x1_1 t177 _ ?side1 ?side2 A5.out).mono ?_); (case side1 => repeat (first | exact HR176_0.out | (with_reducible refine Kd.C_alloc ?_ _) | (with_reducible refine Kd.C_drewN ?_ _) | (with_reducible refine Kd.C_drew ?_))); (case side2 => exact HC176_0.out); rintro e w' ⟨rfl, ⟨nd, rfl⟩⟩; refine ⟨_, rfl, ?_⟩))
            go_ret
            exact ⟨by first | rfl | (simp; done) | (simp [*]; done), by repeat (first | exact Drawn0.refl _ | apply Drawn0.step)⟩
          · rw [if_neg c6] at H
            have c6b0 : decide (t177 < 0) = false := decide_eq_false c6
            clear c6
            have H' := Aside0.mk H
            clear H
            have p176 : 0 ≤ (x5_1 : Int) := of_decide_eq_true (by first | (with_reducible assumption) | assumption)
            have q176 : x5_1 < (l0.length : Int) := of_decide_eq_true (by first | (with_reducible assumption) | assumption)
            obtain ⟨ad176, A176_0, c176_0, e176, hx176_0, hl176_0, hi176_0⟩ := at_T101 HR0.out x5_1 p176 q176
            cases e176
            have HR176_0 := Aside0.mk hi176_0
            have HC176_0 := Aside0.mk hl176_0
            clear hi176_0 hl176_0
            replace p176 := eq_true p176
            replace q176 := eq_true q176
            go_wp2_with (first | ((with_reducible refine gate_callee (f := 126) rfl ?_); refine goesL_ (some 18) rfl rfl Try.func126 (by kernel_rfl) rfl #[.slice A176_0 ((rd_T101 l0 x5_1).f0).length c176_0, .int .i64 x1_1] rfl (by (try simp only [List.map_toArray, List.map_cons, List.map_nil]); first | done | rfl | (simp only [List.length_drop, List.length_take]; rfl)) ?_; (with_reducible refine (laws_heldByteS.calls k1 _ _ ((rd_T101 l0 x5_1).f0) x1_1 t177 _ ?side1 ?side2 A5.out).mono ?_); (case side1 => repeat (first | exact HR176_0.out | (with_reducible refine Kd.C_alloc ?_ _) | (with_reducible refine Kd.C_drewN ?_ _) | (with_reducible refine Kd.C_drew ?_))); (case side2 => exact HC176_0.out); rintro e w' ⟨rfl, ⟨nd, rfl⟩⟩; refine ⟨_, rfl, ?_⟩))
            go_roundg k1
            case measure => have := HK1.out; omega
            case rel => exact ⟨(t177), (wrap64 (x5_1 + 1)), (by first | rfl | (simp; done) | (simp [*]; done)), (by first | rfl | (simp; done) | (simp [*]; done)), H', ⟨by have := HK1.out; omega⟩, by repeat (first | exact Drawn0.refl _ | apply Drawn0.step)⟩
        · rw [if_neg c4] at H
          exact absurd H (by simp)
      · rw [if_neg c3] at H
        have c3b0 : decide (x5_1 < (l0.length : Int)) = false := decide_eq_false c3
        clear c3
        obtain rfl := Option.some.inj H
        go_wp2
        go_ret
        exact ⟨by first | rfl | (simp; done) | (simp [*]; done), by repeat (first | exact Drawn0.refl _ | apply Drawn0.step)⟩

/-! ### laws_heldWriteS: function 71 -/
def laws_heldWriteS.l0 : Nat → List (S98) → Int → Int → Option (Int)
  | 0, _, _, _ => none
  | k + 1, x0, x1, x5 => if x5 < (x0.length : Int) then (if 0 ≤ x5 then (if ((rd_T98 x0 x5).f0) = x1 then ((laws_heldByteS.f k ((rd_T98 x0 x5).f1) (wrap64 (x1 + 1))).bind fun t180 => (if t180 < 0 then (some (-1)) else (laws_heldWriteS.l0 k x0 t180 (wrap64 (x5 + 1))))) else (some (-1))) else (none)) else (some x1)
def laws_heldWriteS.f (k : Nat) (l0 : List (S98)) (a1 : Int) : Option (Int) := laws_heldWriteS.l0 k l0 a1 0
theorem laws_heldWriteS.mono_l : ∀ k, (∀ y0 y1 y2, LeO (laws_heldWriteS.l0 k y0 y1 y2) (laws_heldWriteS.l0 (k + 1) y0 y1 y2))
  | 0 => fun _ _ _ r h => by simp [laws_heldWriteS.l0] at h
  | k + 1 => by
    have ih0 := laws_heldWriteS.mono_l k
    · intro y0 y1 y2
      unfold laws_heldWriteS.l0
      repeat' first
      | (with_reducible exact ih0 _ _ _)
      | (with_reducible exact laws_heldByteS.mono _ _ _)
      | (with_reducible exact LeO.refl _)
      | (with_reducible exact LeO.none _)
      | (with_reducible refine LeO.ite ?_ ?_)
      | (with_reducible refine LeO.bind ?_ (fun _ => ?_))
      | exact ih0 _ _ _
      | exact laws_heldByteS.mono _ _ _
      | exact LeO.none _
      | refine LeO.ite ?_ ?_
      | refine LeO.bind ?_ (fun _ => ?_)
theorem laws_heldWriteS.mono : ∀ a0 a1 k, LeO (laws_heldWriteS.f k a0 a1) (laws_heldWriteS.f (k + 1) a0 a1) := by
  intro a0 a1 k
  have ih0 := laws_heldWriteS.mono_l k
  unfold laws_heldWriteS.f
  repeat' first
      | (with_reducible exact ih0 _ _ _)
      | (with_reducible exact laws_heldByteS.mono _ _ _)
      | (with_reducible exact LeO.refl _)
      | (with_reducible exact LeO.none _)
      | (with_reducible refine LeO.ite ?_ ?_)
      | (with_reducible refine LeO.bind ?_ (fun _ => ?_))
      | exact ih0 _ _ _
      | exact laws_heldByteS.mono _ _ _
      | exact LeO.none _
      | refine LeO.ite ?_ ?_
      | refine LeO.bind ?_ (fun _ => ?_)
set_option maxHeartbeats 8000000 in
set_option maxRecDepth 100000 in
theorem laws_heldWriteS.calls (k : Nat) (A0 : Option Addr) (c0 : Nat) (l0 : List (S98)) (a1 : Int) (r : Int) (w : World) (hr0 : Kd.C k98 w A0 l0.length l0) (hc0 : l0.length ≤ c0) (h : laws_heldWriteS.f k l0 a1 = some r) :
    Calls Try.prog 71 #[.slice A0 l0.length c0, .int .i64 a1] w fun e w' => e = .returned (.int .i64 r) ∧ Drawn0 w w' := by
  have HR0 := Aside0.mk hr0
  have HC0 := Aside0.mk hc0
  clear hr0 hc0
  have H : (laws_heldWriteS.l0 k l0 a1 0) = some r := h
  clear h
  have H' := Aside0.mk H
  clear H
  go_enter Try.func71, Try.ntmps71
  go_wp2
  go_loopg [1, 5] k (fun kq v1 v5 w' => ∃ (x1_1 : Int) (x5_1 : Int), v1 = .int .i64 x1_1 ∧ v5 = .int .i64 x5_1 ∧ Aside0 (laws_heldWriteS.l0 kq l0 x1_1 x5_1 = some r) ∧ Aside0 (kq ≤ k) ∧ Drawn0 w w')
  case atStart => exact ⟨(a1), (0), (by first | rfl | (simp; done) | (simp [*]; done)), (by first | rfl | (simp; done) | (simp [*]; done)), H', ⟨Nat.le_refl _⟩, by repeat (first | exact Drawn0.refl _ | apply Drawn0.step)⟩
  case round =>
    clear H'
    try clear p2
    obtain ⟨x1_1, x5_1, rfl, rfl, HA, HK1, ⟨m1, rfl⟩⟩ := hrel
    cases gk with
    | zero => exact absurd HA.out (by simp [laws_heldWriteS.l0])
    | succ k1 =>
      have H := HA.out
      clear HA
      simp only [laws_heldWriteS.l0] at H
      by_cases c3 : x5_1 < (l0.length : Int)
      · rw [if_pos c3] at H
        have c3b0 : decide (x5_1 < (l0.length : Int)) = true := decide_eq_true c3
        clear c3
        by_cases c4 : 0 ≤ x5_1
        · rw [if_pos c4] at H
          have c4b0 : decide (0 ≤ x5_1) = true := decide_eq_true c4
          clear c4
          by_cases c5 : ((rd_T98 l0 x5_1).f0) = x1_1
          · rw [if_pos c5] at H
            have c5b0 : (((rd_T98 l0 x5_1).f0) == x1_1) = true := beq_iff_eq.mpr c5
            have c5b1 : (((rd_T98 l0 x5_1).f0) != x1_1) = false := bne_eq_false_iff_eq.mpr c5
            clear c5
            replace H := Option.bind_eq_some_iff.mp H
            obtain ⟨t180, A60, H⟩ := H
            replace H : (if t180 < 0 then (some (-1)) else (laws_heldWriteS.l0 k1 l0 t180 (wrap64 (x5_1 + 1)))) = some r := H
            have A6 := Aside0.mk A60
            clear A60
            by_cases c7 : t180 < 0
            · rw [if_pos c7] at H
              have c7b0 : decide (t180 < 0) = true := decide_eq_true c7
              clear c7
              obtain rfl := Option.some.inj H
              have p178 : 0 ≤ (x5_1 : Int) := of_decide_eq_true (by first | (with_reducible assumption) | assumption)
              have q178 : x5_1 < (l0.length : Int) := of_decide_eq_true (by first | (with_reducible assumption) | assumption)
              obtain ⟨ad178, A178_1, c178_1, e178, hx178_0, hx178_1, hl178_1, hi178_1⟩ := at_T98 HR0.out x5_1 p178 q178
              cases e178
              have HR178_1 := Aside0.mk hi178_1
              have HC178_1 := Aside0.mk hl178_1
              clear hi178_1 hl178_1
              replace p178 := eq_true p178
              replace q178 := eq_true q178
              have p179 : 0 ≤ (x5_1 : Int) := of_decide_eq_true (by first | (with_reducible assumption) | assumption)
              have q179 : x5_1 < (l0.length : Int) := of_decide_eq_true (by first | (with_reducible assumption) | assumption)
              obtain ⟨ad179, A179_1, c179_1, e179, hx179_0, hx179_1, hl179_1, hi179_1⟩ := at_T98 HR0.out x5_1 p179 q179
              obtain rfl : ad178 = ad179 := (by injection e179)
              have HR179_1 := Aside0.mk hi179_1
              have HC179_1 := Aside0.mk hl179_1
              clear hi179_1 hl179_1
              replace p179 := eq_true p179
              replace q179 := eq_true q179
              have ea_ := Option.some.inj (hx178_1.symm.trans hx179_1)
              injection ea_ with ea_ en_ ec_
              subst ea_
              subst ec_
              clear en_
              go_wp2_with (first | ((with_reducible refine gate_callee (f := 126) rfl ?_); refine goesL_ (some 27) rfl rfl Try.func126 (by kernel_rfl) rfl #[.slice A178_1 ((rd_T98 l0 x5_1).f1).length c178_1, .int .i64 (wrap64 (x1_1 + 1))] rfl (by (try simp only [List.map_toArray, List.map_cons, List.map_nil]); first | done | rfl | (simp only [List.length_drop, List.length_take]; rfl)) ?_; (with_reducible refine (laws_heldByteS.calls k1 _ _ ((rd_T98 l0 x5_1).f1) (wrap64 (x1_1 + 1)) t180 _ ?side1 ?side2 A6.out).mono ?_); (case side1 => repeat (first | exact HR179_1.out | (with_reducible refine Kd.C_alloc ?_ _) | (with_reducible refine Kd.C_drewN ?_ _) | (with_reducible refine Kd.C_drew ?_))); (case side2 => exact HC179_1.out); rintro e w' ⟨rfl, ⟨nd, rfl⟩⟩; refine ⟨_, rfl, ?_⟩))
              go_ret
              exact ⟨by first | rfl | (simp; done) | (simp [*]; done), by repeat (first | exact Drawn0.refl _ | apply Drawn0.step)⟩
            · rw [if_neg c7] at H
              have c7b0 : decide (t180 < 0) = false := decide_eq_false c7
              clear c7
              have H' := Aside0.mk H
              clear H
              have p178 : 0 ≤ (x5_1 : Int) := of_decide_eq_true (by first | (with_reducible assumption) | assumption)
              have q178 : x5_1 < (l0.length : Int) := of_decide_eq_true (by first | (with_reducible assumption) | assumption)
              obtain ⟨ad178, A178_1, c178_1, e178, hx178_0, hx178_1, hl178_1, hi178_1⟩ := at_T98 HR0.out x5_1 p178 q178
              cases e178
              have HR178_1 := Aside0.mk hi178_1
              have HC178_1 := Aside0.mk hl178_1
              clear hi178_1 hl178_1
              replace p178 := eq_true p178
              replace q178 := eq_true q178
              have p179 : 0 ≤ (x5_1 : Int) := of_decide_eq_true (by first | (with_reducible assumption) | assumption)
              have q179 : x5_1 < (l0.length : Int) := of_decide_eq_true (by first | (with_reducible assumption) | assumption)
              obtain ⟨ad179, A179_1, c179_1, e179, hx179_0, hx179_1, hl179_1, hi179_1⟩ := at_T98 HR0.out x5_1 p179 q179
              obtain rfl : ad178 = ad179 := (by injection e179)
              have HR179_1 := Aside0.mk hi179_1
              have HC179_1 := Aside0.mk hl179_1
              clear hi179_1 hl179_1
              replace p179 := eq_true p179
              replace q179 := eq_true q179
              have ea_ := Option.some.inj (hx178_1.symm.trans hx179_1)
              injection ea_ with ea_ en_ ec_
              subst ea_
              subst ec_
              clear en_
              go_wp2_with (first | ((with_reducible refine gate_callee (f := 126) rfl ?_); refine goesL_ (some 27) rfl rfl Try.func126 (by kernel_rfl) rfl #[.slice A178_1 ((rd_T98 l0 x5_1).f1).length c178_1, .int .i64 (wrap64 (x1_1 + 1))] rfl (by (try simp only [List.map_toArray, List.map_cons, List.map_nil]); first | done | rfl | (simp only [List.length_drop, List.length_take]; rfl)) ?_; (with_reducible refine (laws_heldByteS.calls k1 _ _ ((rd_T98 l0 x5_1).f1) (wrap64 (x1_1 + 1)) t180 _ ?side1 ?side2 A6.out).mono ?_); (case side1 => repeat (first | exact HR179_1.out | (with_reducible refine Kd.C_alloc ?_ _) | (with_reducible refine Kd.C_drewN ?_ _) | (with_reducible refine Kd.C_drew ?_))); (case side2 => exact HC179_1.out); rintro e w' ⟨rfl, ⟨nd, rfl⟩⟩; refine ⟨_, rfl, ?_⟩))
              go_roundg k1
              case measure => have := HK1.out; omega
              case rel => exact ⟨(t180), (wrap64 (x5_1 + 1)), (by first | rfl | (simp; done) | (simp [*]; done)), (by first | rfl | (simp; done) | (simp [*]; done)), H', ⟨by have := HK1.out; omega⟩, by repeat (first | exact Drawn0.refl _ | apply Drawn0.step)⟩
          · rw [if_neg c5] at H
            have c5b0 : (((rd_T98 l0 x5_1).f0) == x1_1) = false := beq_eq_false_iff_ne.mpr c5
            have c5b1 : (((rd_T98 l0 x5_1).f0) != x1_1) = true := bne_iff_ne.mpr c5
            obtain rfl := Option.some.inj H
            have p178 : 0 ≤ (x5_1 : Int) := of_decide_eq_true (by first | (with_reducible assumption) | assumption)
            have q178 : x5_1 < (l0.length : Int) := of_decide_eq_true (by first | (with_reducible assumption) | assumption)
            obtain ⟨ad178, A178_1, c178_1, e178, hx178_0, hx178_1, hl178_1, hi178_1⟩ := at_T98 HR0.out x5_1 p178 q178
            cases e178
            have HR178_1 := Aside0.mk hi178_1
            have HC178_1 := Aside0.mk hl178_1
            clear hi178_1 hl178_1
            replace p178 := eq_true p178
            replace q178 := eq_true q178
            go_wp2
            go_ret
            exact ⟨by first | rfl | (simp; done) | (simp [*]; done), by repeat (first | exact Drawn0.refl _ | apply Drawn0.step)⟩
        · rw [if_neg c4] at H
          exact absurd H (by simp)
      · rw [if_neg c3] at H
        have c3b0 : decide (x5_1 < (l0.length : Int)) = false := decide_eq_false c3
        clear c3
        obtain rfl := Option.some.inj H
        go_wp2
        go_ret
        exact ⟨by first | rfl | (simp; done) | (simp [*]; done), by repeat (first | exact Drawn0.refl _ | apply Drawn0.step)⟩

end Go.Proofs.Ytnklkjkbdipohaa.PFnExactDiskCrash
