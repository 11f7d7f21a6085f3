import Derived.Test.YtnnmpdanfeejbaaAbsG4
import Derived.Deep.Slices
import Derived.SizedLaws
import Derived.Lib.SmallJoins
/- What a statement reads as data is what the contracts take. -/
namespace Go.Proofs.Ytnnmpdanfeejbaa.Abs
open Go Go.RowKit Go.ChangeShapes Go.WideShapes
set_option linter.unusedVariables false
set_option linter.unusedSimpArgs false
def CellsR (w : World) (l : List CV) (cs : List Value) : Prop := cs.length = l.length ∧ ∀ (j : Nat) c u, l[j]? = some c → cs[j]? = some u → RdR w (fun _ => True) c u
/-- What of type t can be read as data stands in these cells; G: its bounds. -/
def OpA (P : Program) (t : TypeId) {α : Type} (enc : α → List CV) (G : α → Prop) : Prop :=
  (∀ a, (enc a).length = P.cellsOf t) ∧ ∀ (H : Type) (en : TypeId × Value → H) (w : World) (fuel : Nat) (cs : List Value) (x : DataW H × List MemPlace),
    DataW.trod en P w 0 (fun _ => true) true fuel t cs = some x → (∀ n ∈ x.1.weights P t, n ≤ reachBytes) → ∃ a, CellsR w (enc a) cs ∧ G a
theorem cellsR_one {w : World} {c : CV} {u : Value} (h : RdR w (fun _ => True) c u) : CellsR w [c] [u] :=
  ⟨rfl, fun j c' u' hc hu => by cases j with | zero => simp at hc hu; subst hc hu; exact h | succ j => simp at hc⟩
theorem list_choose' {α : Type} (n : Nat) {p : Nat → α → Prop} (h : ∀ i, i < n → ∃ x, p i x) : ∃ xs : List α, xs.length = n ∧ ∀ i x, xs[i]? = some x → p i x := by
  induction n with
  | zero => exact ⟨[], rfl, fun i x hx => by simp at hx⟩
  | succ n ih =>
    obtain ⟨xs, hl, hx⟩ := ih (fun i hi => h i (by omega))
    obtain ⟨y, hy⟩ := h n (by omega)
    refine ⟨xs ++ [y], by simp [hl], fun i x hi => ?_⟩
    rcases Nat.lt_or_ge i xs.length with hlt | hge
    · rw [List.getElem?_append_left hlt] at hi
      exact hx i x hi
    · have : i = n := by
        have := (List.getElem?_eq_some_iff.1 hi).1
        simp at this; omega
      subst this
      rw [List.getElem?_append_right hge, ← hl, Nat.sub_self] at hi
      injection hi with hi
      rw [← hi]; exact hy
theorem weightsAll_mem' {H : Type} {P : Program} {e : TypeId} {D : DataW H} : ∀ {l : List (DataW H)}, D ∈ l → ∀ n ∈ D.weights P e, n ∈ DataW.weightsAll P e l
  | a :: l, h, n, hn => by
    rw [DataW.weightsAll, List.mem_append]
    rcases List.mem_cons.1 h with rfl | h
    · exact .inl hn
    · exact .inr (weightsAll_mem' h n hn)
section
variable {P : Program} {t e : TypeId}
theorem opA_int (h : P.underlying t = some (.int .i64)) (hc : P.cellsOf t = 1) : OpA P t (fun n : Int => [CV.v (.int .i64 n)]) (fun n => -9223372036854775808 ≤ n ∧ n ≤ 9223372036854775807) := by
  refine ⟨fun a => hc.symm, fun H en w fuel cs x hx _ => ?_⟩
  obtain ⟨n, rfl, _, hw⟩ := DataW.trod_int h hx
  refine ⟨n, cellsR_one (.v _ rfl), ?_⟩
  simp [Lit.wf, IntKind.min, IntKind.max, IntKind.bits, IntKind.signed] at hw
  omega
theorem opA_byte (h : P.underlying t = some (.int .u8)) (hc : P.cellsOf t = 1) : OpA P t (fun n : UInt8 => [CV.v (.int .u8 n.toNat)]) (fun _ => True) := by
  refine ⟨fun a => hc.symm, fun H en w fuel cs x hx _ => ?_⟩
  obtain ⟨n, rfl, _, hw⟩ := DataW.trod_int h hx
  simp [Lit.wf, IntKind.min, IntKind.max, IntKind.bits, IntKind.signed] at hw
  have he : n = (((UInt8.ofNat n.toNat).toNat : Nat) : Int) := by
    rw [UInt8.toNat_ofNat', Nat.mod_eq_of_lt (by omega)]; omega
  refine ⟨UInt8.ofNat n.toNat, ?_, trivial⟩
  show CellsR w [CV.v (.int .u8 (((UInt8.ofNat n.toNat).toNat : Nat) : Int))] _
  rw [← he]
  exact cellsR_one (.v _ rfl)
theorem opA_bool (h : P.underlying t = some .bool) (hc : P.cellsOf t = 1) : OpA P t (fun b : Bool => [CV.v (.bool b)]) (fun _ => True) := by
  refine ⟨fun a => hc.symm, fun H en w fuel cs x hx _ => ?_⟩
  obtain ⟨n, rfl, _⟩ := DataW.trod_bool h hx
  exact ⟨n, cellsR_one (.v _ rfl), trivial⟩
theorem opA_string (h : P.underlying t = some .string) (hc : P.cellsOf t = 1) : OpA P t stC (fun s => s.size ≤ 2^47) := by
  refine ⟨fun a => hc.symm, fun H en w fuel cs x hx hn => ?_⟩
  obtain ⟨s, rfl, rfl, _⟩ := DataW.trod_string h hx
  refine ⟨s, cellsR_one (.v _ rfl), ?_⟩
  have := hn s.data.toList.length (by simp [DataW.weights])
  rw [Array.length_toList] at this
  have h2 : reachBytes ≤ 2^47 := by decide
  have h3 : s.size = s.data.size := rfl
  omega
theorem opA_slice {α : Type} {enc : α → List CV} {G : α → Prop} (h : P.underlying t = some (.slice e)) (hc : P.cellsOf t = 1) {m0 : Nat} (he1 : P.cellsOf e = m0) (he2 : 0 < m0) {B : Nat} (hB : P.bytesOf e = B) (hB0 : 0 < B) (he : OpA P e enc G) :
    OpA P t (fun xs : List α => [CV.row false (xs.map enc)]) (fun xs => xs.length ≤ 2^47 ∧ ∀ x ∈ xs, G x) := by
  have he0 : 0 < P.cellsOf e := by omega
  refine ⟨fun a => hc.symm, fun H en w fuel cs x hx hn => ?_⟩
  rcases Go.Deep.open_slice h hx with ⟨rfl, rfl⟩ | ⟨a, len, cap, m, n, D, Pl, rfl, hb, hl, hm, hmm, rfl, hel⟩
  · exact ⟨[], cellsR_one (.nil _ _ _), by simp, by simp⟩
  · have hm' : m = cap := by simpa using hmm
    subst hm'
    have hlen : len ≤ 2^47 := by
      have h1 := hn ((len + (m - len)) * B) (by simp [DataW.weights, h, hB])
      have h2 : reachBytes ≤ 2^47 := by decide
      have h3 : (len + (m - len)) * 1 ≤ (len + (m - len)) * B := Nat.mul_le_mul_left _ hB0
      omega
    have key : ∀ i, i < len → ∃ p : α, (∃ cs', w.cells? 0 (a.add (i * P.cellsOf e)) (P.cellsOf e) = some cs' ∧ CellsR w (enc p) cs') ∧ G p := by
      intro i hi
      obtain ⟨cs', h1, h2⟩ := hel i (by omega)
      obtain ⟨p, h3, h4⟩ := he.2 H en w n cs' _ h2 (fun q hq => hn q (by
        have h5 : q ∈ DataW.weightsAll P e ((List.range len).map D) := weightsAll_mem' (List.mem_map.2 ⟨i, List.mem_range.2 hi, rfl⟩) q hq
        simp only [DataW.weights, h]
        exact List.mem_cons_of_mem _ (List.mem_append_left _ h5)))
      exact ⟨p, ⟨cs', h1, h3⟩, h4⟩
    obtain ⟨xs, hxl, hxs⟩ := list_choose' len key
    refine ⟨xs, cellsR_one ?_, by rw [hxl]; exact hlen, fun x hx => ?_⟩
    · subst hxl
      by_cases h0 : xs = []
      · subst h0; exact .nil _ _ _
      obtain ⟨x0, r0, hxr⟩ := List.exists_cons_of_ne_nil h0
      have hpos : 0 < xs.length := by rw [hxr]; simp
      have hcell : ∀ i j, i < xs.length → j < P.cellsOf e → ∃ u, w.cell? (a.add (i * P.cellsOf e + j)) = some u ∧ True := by
        intro i j hi hj
        obtain ⟨⟨cs', h1, h2⟩, _⟩ := hxs i _ (List.getElem?_eq_getElem hi)
        obtain ⟨_, h4, h5⟩ := World.cells?_some h1
        have := h5 j hj
        rw [Go.Deep.add_add, List.getElem?_eq_getElem (by omega)] at this
        exact ⟨_, this, trivial⟩
      have hnone : a.spot = none ∧ ∃ arr ty fz, w.heap[a.block]? = some (.cells arr ty fz) := by
        obtain ⟨u, hu, _⟩ := hcell 0 0 hpos he0
        rw [Nat.zero_mul, Nat.add_zero] at hu
        unfold Addr.add World.cell? at hu
        simp only [↓reduceIte] at hu
        split at hu
        · rename_i arr ty fz hh
          split at hu
          · cases hu
          · rename_i hs
            exact ⟨by simpa using hs, arr, ty, fz, hh⟩
        · cases hu
      obtain ⟨hs, arr, ty, fz, hh⟩ := hnone
      obtain ⟨bl, off, sp⟩ := a
      have hs : sp = none := hs
      subst hs
      have hadd : ∀ k, (⟨bl, off, none⟩ : Addr).add k = ⟨bl, off + k, none⟩ := fun k => by unfold Addr.add; split
                                                                                           · rename_i e; rw [e]; rfl
                                                                                           · rfl
      have hcell' : ∀ i j, i < xs.length → j < P.cellsOf e → arr[off + (i * P.cellsOf e + j)]? = some (arr.getD (off + (i * P.cellsOf e + j)) undef) := by
        intro i j hi hj
        obtain ⟨u, hu, _⟩ := hcell i j hi hj
        rw [hadd, cell_at hh] at hu
        have := (Array.getElem?_eq_some_iff.1 hu).1
        rw [Array.getElem?_eq_getElem this]
        simp [Array.getD, this]
      have := RdR.row (w := w) (T := fun _ => True) false bl off (P.cellsOf e) m (xs.map enc) arr ty fz (fun i j => arr.getD (off + (i * P.cellsOf e + j)) undef) trivial hh
        (fun c hc => by obtain ⟨x, _, rfl⟩ := List.mem_map.1 hc; exact he.1 x) (by rw [List.length_map]; unfold maxLen at hm ⊢; omega) (by rw [List.length_map]; omega) (fun i j hi hj => hcell' i j (by simpa using hi) hj) (fun i j c1 c2 h1 h2 => by
          rw [List.getElem?_map, Option.map_eq_some_iff] at h1
          obtain ⟨x, hx, rfl⟩ := h1
          have hi : i < xs.length := (List.getElem?_eq_some_iff.1 hx).1
          obtain ⟨⟨cs', h3, h4⟩, _⟩ := hxs i x hx
          obtain ⟨_, h5, h6⟩ := World.cells?_some h3
          have hj : j < P.cellsOf e := by
            have := (List.getElem?_eq_some_iff.1 h2).1
            rw [he.1] at this; exact this
          have h7 := h6 j hj
          rw [Go.Deep.add_add, hadd, cell_at hh, hcell' i j hi hj] at h7
          exact h4.2 j _ _ h2 h7.symm)
      rw [List.length_map] at this
      exact this
    · obtain ⟨j, hj, rfl⟩ := List.mem_iff_getElem.1 hx
      exact (hxs j _ (List.getElem?_eq_getElem hj)).2
/-- Fields in line, from offset o on. -/
def OpFs (P : Program) (fs : List Field) (o : Nat) {α : Type} (enc : α → List CV) (n : Nat) (G : α → Prop) : Prop :=
  (∀ a, (enc a).length = n) ∧ ∀ (H : Type) (en : TypeId × Value → H) (w : World) (k : Nat) (cs : List Value) (xs : List (DataW H × List MemPlace)), xs.length = fs.length →
    (∀ (i : Nat) (f : Field), fs[i]? = some f → DataW.trod en P w 0 (fun _ => true) true k f.type ((cs.drop f.offset).take (P.cellsOf f.type)) = xs[i]?) →
    (∀ q ∈ DataW.weightsEach P (fs.map (·.type)) (xs.map (·.1)), q ≤ reachBytes) → ∃ a, CellsR w (enc a) ((cs.drop o).take n) ∧ G a
theorem cellsR_app {w : World} {l l' : List CV} {cs cs' : List Value} (h : CellsR w l cs) (h' : CellsR w l' cs') : CellsR w (l ++ l') (cs ++ cs') := by
  refine ⟨by simp [h.1, h'.1], fun j c u hc hu => ?_⟩
  rcases Nat.lt_or_ge j l.length with hj | hj
  · rw [List.getElem?_append_left hj] at hc
    rw [List.getElem?_append_left (by rw [h.1]; exact hj)] at hu
    exact h.2 j c u hc hu
  · rw [List.getElem?_append_right hj] at hc
    rw [List.getElem?_append_right (by rw [h.1]; exact hj), h.1] at hu
    exact h'.2 _ c u hc hu
theorem fsA_one {α : Type} {enc : α → List CV} {G : α → Prop} {f : Field} {o n : Nat} (h : OpA P e enc G) (ht : f.type = e) (ho : f.offset = o) (hn : P.cellsOf e = n) : OpFs P [f] o enc n G := by
  subst ht; subst ho; subst hn
  refine ⟨h.1, fun H en w k cs xs hl hx hq => ?_⟩
  obtain ⟨x, rfl⟩ : ∃ x, xs = [x] := by
    match xs, hl with
    | [x], _ => exact ⟨x, rfl⟩
  exact h.2 H en w k _ x (hx 0 f rfl) (fun q hm => hq q (by simpa [DataW.weightsEach] using hm))
theorem fsA_cons {α β : Type} {enc : α → List CV} {enc' : β → List CV} {G : α → Prop} {G' : β → Prop} {f : Field} {fs : List Field} {o o' n n' : Nat} (h : OpA P e enc G) (h' : OpFs P fs o' enc' n' G') (ht : f.type = e) (ho : f.offset = o) (hn : P.cellsOf e = n) (hs : o + n = o') :
    OpFs P (f :: fs) o (fun x : α × β => enc x.1 ++ enc' x.2) (n + n') (fun x => G x.1 ∧ G' x.2) := by
  subst ht; subst ho; subst hn; subst hs
  refine ⟨fun a => by rw [List.length_append, h.1, h'.1], fun H en w k cs xs hl hx hq => ?_⟩
  obtain ⟨x, ys, rfl⟩ : ∃ x ys, xs = x :: ys := by
    match xs, hl with
    | x :: ys, _ => exact ⟨x, ys, rfl⟩
  obtain ⟨a, ha, ga⟩ := h.2 H en w k _ x (hx 0 f rfl) (fun q hm => hq q (by simp only [List.map_cons, DataW.weightsEach]; exact List.mem_append_left _ hm))
  obtain ⟨b, hb, gb⟩ := h'.2 H en w k cs ys (by simpa using hl) (fun i g hg => by have := hx (i + 1) g (by simpa using hg); simpa using this)
    (fun q hm => hq q (by simp only [List.map_cons, DataW.weightsEach]; exact List.mem_append_right _ hm))
  refine ⟨(a, b), ?_, ga, gb⟩
  rw [List.take_add, List.drop_drop]
  exact cellsR_app ha hb
theorem opA_struct {α : Type} {enc : α → List CV} {n : Nat} {G : α → Prop} {fs : Array Field} (h : P.underlying t = some (.struct fs)) (hc : P.cellsOf t = n) (hf : OpFs P fs.toList 0 enc n G) : OpA P t enc G := by
  subst hc
  refine ⟨hf.1, fun H en w fuel cs x hx hn => ?_⟩
  obtain ⟨xs, k, _, rfl, hl, hxl, hel⟩ := DataW.trod_struct h hx
  obtain ⟨a, ha, ga⟩ := hf.2 H en w k cs xs (by rw [hxl]; simp) (fun i f hi => hel i f (by simpa using hi)) (fun q hq => hn q (by simpa [DataW.weights, h] using hq))
  rw [List.drop_zero, List.take_of_length_le (by omega)] at ha
  exact ⟨a, ha, ga⟩
theorem OpA.iso {α β : Type} {enc : α → List CV} {enc' : β → List CV} {G : α → Prop} {G' : β → Prop} (h : OpA P t enc G) (g : α → β) (he : ∀ a, enc' (g a) = enc a) (hl : ∀ b, (enc' b).length = P.cellsOf t) (hG : ∀ a, G a → G' (g a)) : OpA P t enc' G' :=
  ⟨hl, fun H en w fuel cs x hx hn => by obtain ⟨a, ha, ga⟩ := h.2 H en w fuel cs x hx hn; exact ⟨g a, by rw [he]; exact ha, hG a ga⟩⟩
variable {H : Type} {en : TypeId × Value → H} {W : World} {v : Value} {D : DataW H} {p : List MemPlace}
/-- A parameter. -/
theorem OpA.param {α : Type} {enc : α → List CV} {G : α → Prop} (ho : OpA P t enc G) (h : DataW.Trod en P W 0 (fun _ => true) true t v D p) {ts : List TypeId} {ds : List (DataW H)} {j : Nat}
    (hsz : (DataW.weightsEach P ts ds).all (· ≤ reachBytes) = true) (ht : ts[j]? = some t) (hd : ds[j]? = some D) : ∃ a, CellsR W (enc a) v.cells.toList ∧ G a := by
  obtain ⟨fuel, hf⟩ := h
  exact ho.2 H en W fuel _ _ hf (fun n hn => by simpa using List.all_eq_true.1 hsz _ (DataW.weights_mem_each ht hd n hn))
end
/-- Nothing is owned. -/
def E0 : Env := ⟨fun _ => none, fun _ => none⟩
theorem rd_agg {w : World} {l : List CV} {us : Array Value} {H : Hp} (h : CellsR w l us.toList) : RdV w E0 H (.ag (l.map .c)) (.agg us) := by
  refine .ag _ _ (by have := h.1; simpa using this) (fun i c u hc hu => ?_)
  rw [List.getElem?_map, Option.map_eq_some_iff] at hc
  obtain ⟨c', hc', rfl⟩ := hc
  exact .c _ _ ((h.2 i c' u hc' (by simpa using hu)).mono (fun b _ _ => ⟨rfl, rfl⟩))
theorem rd_one {w : World} {c : CV} {u : Value} {H : Hp} (h : CellsR w [c] u.cells.toList) (hu : u.cells = #[u]) : RdV w E0 H (.c c) u := by
  rw [hu] at h
  exact .c _ _ ((h.2 0 c u rfl rfl).mono (fun b _ _ => ⟨rfl, rfl⟩))
/-- A law's call, by its contract. -/
theorem law_calls {P : Program} {f : Nat} {args : List AV} (h : CallOk P f [] args (fun r out => r = Bo true ∧ out = [])) (W : World) (vals : Array Value) (hs : vals.size = args.length)
    (hv : ∀ (i : Nat) x u, args[i]? = some x → vals[i]? = some u → RdV W E0 (HpS []) x u) : Calls P f vals W (fun e W' => e = .returned (.bool true) ∧ Below W.heap.size W W') := by
  refine (h.2 W E0 vals (fun k ob hk => by unfold HpS at hk; split at hk <;> simp at hk) (fun b ℓ hb => by cases hb) hs hv).mono fun e W' hh => ?_
  obtain ⟨u, r, out, E', rfl, ⟨rfl, rfl⟩, hr, _, _, _, _, hevo, _, _⟩ := hh
  refine ⟨?_, hevo.os, hevo.tape, hevo.output, hevo.size, fun k hk => hevo.block k hk (by rintro ⟨k', p, hp, _⟩; cases hp)⟩
  cases hr with
  | c _ _ h => cases h; rfl
end Go.Proofs.Ytnnmpdanfeejbaa.Abs

/- The laws' parameters, as they are read. -/
namespace Go.Proofs.Ytnnmpdanfeejbaa.Abs
open Go Go.Proofs
set_option linter.unusedVariables false
theorem oInt : OpA Try.prog 3 (fun n : Int => [CV.v (.int .i64 n)]) (fun n => -9223372036854775808 ≤ n ∧ n ≤ 9223372036854775807) := opA_int Try.underlying3 (by kernel_rfl)
theorem oByte : OpA Try.prog 5 (fun n : UInt8 => [CV.v (.int .u8 n.toNat)]) (fun _ => True) := opA_byte Try.underlying5 (by kernel_rfl)
theorem oByteS : OpA Try.prog 26 (fun l : List UInt8 => [CV.row false (eB l)]) (fun l => l.length ≤ 2^47) :=
  (opA_slice Try.underlying26 (by kernel_rfl) (m0 := 1) (by kernel_rfl) (by decide) (B := 1) (by kernel_rfl) (by decide) oByte).iso id (fun _ => rfl) (fun _ => by kernel_rfl) (fun _ h => h.1)
theorem oSheet : OpA Try.prog 160 (shC false) (fun l => l.length ≤ 2^47) :=
  (opA_struct Try.underlying160 (by kernel_rfl) (fsA_one (n := 1) oByteS (by rfl) (by rfl) (by kernel_rfl))).iso id (fun _ => rfl) (fun _ => by kernel_rfl) (fun _ h => h)
theorem oSheetS : OpA Try.prog 22 (fun xs : List (List UInt8) => [CV.row false (xs.map (shC false))]) (fun xs => xs.length ≤ 2^47 ∧ ∀ x ∈ xs, x.length ≤ 2^47) :=
  opA_slice Try.underlying22 (by kernel_rfl) (m0 := 1) (by kernel_rfl) (by decide) (B := 24) (by kernel_rfl) (by decide) oSheet
theorem oWrite : OpA Try.prog 135 (wrC false) (fun x => x.2.length ≤ 2^47) :=
  (opA_struct Try.underlying135 (by kernel_rfl) (fsA_cons (n := 1) oInt (fsA_one (n := 1) oByteS (by rfl) (by rfl) (by kernel_rfl)) (by rfl) (by rfl) (by kernel_rfl) (by rfl))).iso id (fun _ => rfl) (fun _ => by kernel_rfl) (fun _ h => h.2)
theorem oWriteS : OpA Try.prog 23 (fun xs : List (Int × List UInt8) => [CV.row false (xs.map (wrC false))]) (fun xs => xs.length ≤ 2^47 ∧ ∀ x ∈ xs, x.2.length ≤ 2^47) :=
  opA_slice Try.underlying23 (by kernel_rfl) (m0 := 2) (by kernel_rfl) (by decide) (B := 32) (by kernel_rfl) (by decide) oWrite
theorem oDisk : OpA Try.prog 25 (fun d : Dk => [CV.row false (d.sh.map (shC false)), CV.row false (d.wr.map (wrC false))]) (Dk.fits (2^47)) :=
  (opA_struct Try.underlying25 (by kernel_rfl) (fsA_cons (n := 1) oSheetS (fsA_one (n := 1) oWriteS (by rfl) (by rfl) (by kernel_rfl)) (by rfl) (by rfl) (by kernel_rfl) (by rfl))).iso (fun x => ⟨x.1, x.2⟩) (fun _ => rfl) (fun _ => by kernel_rfl) (fun _ h => ⟨h.1.1, h.1.2, h.2.1, h.2.2⟩)
theorem rd_nil {W : World} {H : Hp} : ∀ (i : Nat) x u, ([] : List AV)[i]? = some x → (#[] : Array Value)[i]? = some u → RdV W E0 H x u := fun i x u h => by simp at h
theorem rd_cons {W : World} {H : Hp} {a : AV} {v : Value} {l : List AV} {vs : List Value} (h : RdV W E0 H a v) (hl : ∀ (i : Nat) x u, l[i]? = some x → (vs.toArray)[i]? = some u → RdV W E0 H x u) :
    ∀ (i : Nat) x u, (a :: l)[i]? = some x → ((v :: vs).toArray)[i]? = some u → RdV W E0 H x u := by
  intro i x u hx hu
  cases i with
  | zero => simp at hx hu; subst hx hu; exact h
  | succ i => exact hl i x u (by simpa using hx) (by simpa using hu)
end Go.Proofs.Ytnnmpdanfeejbaa.Abs
