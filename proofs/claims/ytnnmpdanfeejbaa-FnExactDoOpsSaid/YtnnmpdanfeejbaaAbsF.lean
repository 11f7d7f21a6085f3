/- The abstract machine's operations hold of the model: strings, cuts, conversions. -/
import Derived.Test.YtnnmpdanfeejbaaAbsE
namespace Go.Proofs.Ytnnmpdanfeejbaa.Abs
open Go Go.RowKit
set_option linter.unusedVariables false
set_option linter.unusedSimpArgs false

section
variable {P : Program} {nt : Nat} {I : Ini} {U : Nat → Prop} {s : ASt} {E : Env} {a : Act} {w : World} {o : Oper} {id : Nat} {v : AV} {objs : List (Nat × Option Ob)} {H : Hp}

theorem str_desc {t : Nat} {i : TI} (hi : tiOf P t = some i) (hs : i.isStr = true) : P.underlying t = some .string := by
  obtain ⟨info, d, h1, h2, -, -, -, -, -, -, h3, -, -, -⟩ := tiOf_spec hi
  rw [h3] at hs
  cases d <;> simp_all
theorem slice_desc {t : Nat} {i : TI} (hi : tiOf P t = some i) (hs : i.elem.isSome = true) : ∃ e j, P.underlying t = some (.slice e) ∧ P.info? e = some j := by
  cases he : i.elem with
  | none => simp [he] at hs
  | some x =>
    obtain ⟨e, sz, eb⟩ := x
    obtain ⟨h1, j, h2, -⟩ := elem_spec hi he
    exact ⟨e, j, h1, h2⟩

theorem good_index (hR : RelE nt I U s E a w) {t : Nat} {x ix : Operand} (ho : o.op = .index t x ix) {k : IntKind} {n : Int} (hix : getA nt s.t ix = .c (.v (.int k n))) {b : ByteArray} (hx : getA nt s.t x = .c (.v (.string b)))
    {i : TI} (hi : tiOf P t = some i) (hs : i.isStr = true) {c : UInt8} (hc : b.data.toList[n.toNat]? = some c) (h0 : 0 ≤ n) : Good P o a w E s.H U id (.c (.v (.int .u8 c.toNat))) [] := by
  have ei := hR.eval hix
  have ex := hR.eval hx
  have hg : b[n.toNat]? = some c := by
    obtain ⟨hl, hv⟩ := List.getElem?_eq_some_iff.1 hc
    have hl' : n.toNat < b.size := by simpa using hl
    rw [getElem?_pos b n.toNat hl']
    congr 1
  refine Good.plain hR (u := .int .u8 c.toNat) ?_ rfl rfl
  simp [execOp, ho, ex, ei, Instr.index, asIntOf, run_underlying (str_desc hi hs), h0, hg]

theorem boundA_spec {m n : Nat} {x : AV} (h : boundA m x = some n) : ∃ k, x = .c (.v (.int k (n : Int))) ∧ n ≤ m := by
  unfold boundA at h
  split at h
  · rename_i k q
    split at h
    · rename_i hq
      cases h
      exact ⟨k, by rw [Int.toNat_of_nonneg hq.1], by omega⟩
    · cases h
  · cases h

theorem run_bounds (hR : RelE nt I U s E a w) {isS : Bool} {len cap h l : Nat} (hlc : len ≤ cap) {lo hi : Option Operand} (hh : hiA (hi.map (getA nt s.t)) len = some h) (hl : loA (lo.map (getA nt s.t)) h = some l) (w' : World) :
    (Instr.sliceBounds isS len cap (lo.map a.eval) (hi.map a.eval) none).run P w' = .ok (l, h, cap) w' ∧ h ≤ len ∧ l ≤ h := by
  have h1 : h ≤ len ∧ (hi = none ∧ h = len ∨ ∃ x k, hi = some x ∧ a.eval x = .int k (h : Int)) := by
    cases hi with
    | none => simp [hiA] at hh; exact ⟨by omega, .inl ⟨rfl, hh.symm⟩⟩
    | some x =>
      simp only [hiA, Option.map_some] at hh
      obtain ⟨k, hk, hle⟩ := boundA_spec hh
      exact ⟨hle, .inr ⟨x, k, rfl, hR.eval hk⟩⟩
  have h2 : l ≤ h ∧ (lo = none ∧ l = 0 ∨ ∃ x k, lo = some x ∧ a.eval x = .int k (l : Int)) := by
    cases lo with
    | none => simp [loA] at hl; exact ⟨by omega, .inl ⟨rfl, hl.symm⟩⟩
    | some x =>
      simp only [loA, Option.map_some] at hl
      obtain ⟨k, hk, hle⟩ := boundA_spec hl
      exact ⟨hle, .inr ⟨x, k, rfl, hR.eval hk⟩⟩
  have c1 : (h : Int) ≤ (cap : Int) := by omega
  have c2 : (l : Int) ≤ (h : Int) := by omega
  have z1 : (0 : Int) ≤ (h : Int) := by omega
  have z2 : (0 : Int) ≤ (l : Int) := by omega
  refine ⟨?_, h1.1, h2.1⟩
  have t1 : ∀ k, (Instr.sliceBound (.int k (h : Int)) cap (if isS then .sliceAcap else .sliceAlen)).run P w' = .ok h w' := fun k => by
    simp only [Instr.sliceBound, asIntOf, Sem.run_bind, Sem.run_pure, Result.andThen_ok, z1, c1, and_self, if_true, Int.toNat_natCast]
  have t2 : ∀ k, (Instr.sliceBound (.int k (l : Int)) h .sliceB).run P w' = .ok l w' := fun k => by
    simp only [Instr.sliceBound, asIntOf, Sem.run_bind, Sem.run_pure, Result.andThen_ok, z2, c2, and_self, if_true, Int.toNat_natCast]
  rcases h1.2 with ⟨rfl, h1e⟩ | ⟨x, k, rfl, e1⟩ <;> rcases h2.2 with ⟨rfl, h2e⟩ | ⟨y, k', rfl, e2⟩
  · subst h1e h2e
    simp only [Instr.sliceBounds, Option.map_none, Sem.run_bind, Sem.run_pure, Result.andThen_ok]
  · subst h1e
    simp only [Instr.sliceBounds, Option.map_none, Option.map_some, e2, Option.isSome_none, Bool.false_eq_true, if_false, Sem.run_bind, Sem.run_pure, Result.andThen_ok, t2]
  · subst h2e
    simp only [Instr.sliceBounds, Option.map_none, Option.map_some, e1, Sem.run_bind, Sem.run_pure, Result.andThen_ok, t1]
  · simp only [Instr.sliceBounds, Option.map_none, Option.map_some, e1, e2, Option.isSome_none, Bool.false_eq_true, if_false, Sem.run_bind, Sem.run_pure, Result.andThen_ok, t1, t2]

theorem cut_row {T : Nat → Prop} {k : Bool} {es : List (List CV)} {b off sz h l m : Nat} {arr : Array Value} {ty : Nat} {fz : Nat × Nat} {us : Nat → Nat → Value} (hT : T b) (hb : w.heap[b]? = some (.cells arr ty fz)) (hs : ∀ e ∈ es, e.length = sz)
    (hm : es.length ≤ maxLen) (hu : ∀ i j, i < es.length → j < sz → arr[off + (i * sz + j)]? = some (us i j)) (hr : ∀ (i j : Nat) e c, es[i]? = some e → e[j]? = some c → RdR w T c (us i j)) (hh : h ≤ es.length) (hl : l < h) (hc : h - l ≤ m) :
    RdR w T (.row k ((es.take h).drop l)) (.slice (some ⟨b, off + l * sz, none⟩) (h - l) m) := by
  have hlen : ((es.take h).drop l).length = h - l := by simp; omega
  have key := RdR.row (w := w) (T := T) k b (off + l * sz) sz m ((es.take h).drop l) arr ty fz (fun i j => us (l + i) j) hT hb (fun e he => hs e (List.mem_of_mem_take (List.mem_of_mem_drop he))) (by omega) (by omega)
    (fun i j hi hj => by
      have := hu (l + i) j (by omega) hj
      rw [show off + l * sz + (i * sz + j) = off + ((l + i) * sz + j) by rw [Nat.add_mul]; omega]
      exact this)
    (fun i j e c he hc => by
      rw [List.getElem?_drop] at he
      have : es[l + i]? = some e := by
        rw [List.getElem?_take] at he
        split at he
        · exact he
        · cases he
      exact hr (l + i) j e c this hc)
  rwa [hlen] at key

theorem slice_row {T : Nat → Prop} {k : Bool} {es : List (List CV)} {u : Value} (h : RdR w T (.row k es) u) {hh l : Nat} (hhl : hh ≤ es.length) (hl : l ≤ hh) {t e : Nat} {j : TypeInfo} (hu : P.underlying t = some (.slice e)) (hj : P.info? e = some j)
    (hsz : ∀ c ∈ es, c.length = j.size) {lo hi : Option Value} (hrun : ∀ cap, es.length ≤ cap → (Instr.sliceBounds true es.length cap lo hi none).run P w = .ok (l, hh, cap) w) :
    ∃ r, (Instr.slice t u lo hi none).run P w = .ok r w ∧ RdR w T (.row k ((es.take hh).drop l)) r := by
  have hsz' : (sizeOf e).run P w = .ok j.size w := by simp [sizeOf, run_typeInfo w hj]
  cases h with
  | nil _ ad c =>
    have h1 := hrun c (Nat.zero_le _)
    simp only [List.length_nil] at h1 hhl
    refine ⟨.slice (if c = l then ad else ad.map (·.add (l * j.size))) (hh - l) (c - l), ?_, ?_⟩
    · simp only [Instr.slice, Sem.run_bind, run_underlying hu, Result.andThen_ok, h1, hsz', Sem.run_pure]
    · have : hh - l = 0 := by omega
      rw [this]
      simp only [List.take_nil, List.drop_nil]
      exact .nil ..
  | row _ b off sz cap _ arr ty fz us hT hb hs hm hc hus hr =>
    have h1 := hrun cap hc
    refine ⟨.slice (if cap = l then some ⟨b, off, none⟩ else (some (⟨b, off, none⟩ : Addr)).map (·.add (l * j.size))) (hh - l) (cap - l), ?_, ?_⟩
    · simp only [Instr.slice, Sem.run_bind, run_underlying hu, Result.andThen_ok, h1, hsz', Sem.run_pure]
    · by_cases hlt : l < hh
      · rw [if_neg (by omega)]
        simp only [Option.map_some, Addr.add_lit]
        have hsz2 : j.size = sz := by
          have h0 : 0 < es.length := by omega
          have := hs es[0] (List.getElem_mem h0)
          rw [← this, hsz es[0] (List.getElem_mem h0)]
        rw [hsz2]
        exact cut_row hT hb hs hm hus hr hhl hlt (by omega)
      · have h2 : hh - l = 0 := by omega
        have h3 : (es.take hh).drop l = [] := List.drop_eq_nil_of_le (by simp; omega)
        rw [h2, h3]
        exact .nil ..

theorem good_sliceStr (hR : RelE nt I U s E a w) {t : Nat} {x : Operand} {lo hi : Option Operand} (ho : o.op = .slice t x lo hi none) {i : TI} (hi' : tiOf P t = some i) (hs : i.isStr = true) {b : ByteArray} (hx : getA nt s.t x = .c (.v (.string b)))
    {h l : Nat} (hh : hiA (hi.map (getA nt s.t)) b.size = some h) (hl : loA (lo.map (getA nt s.t)) h = some l) : Good P o a w E s.H U id (.c (.v (.string (b.extract l h)))) [] := by
  have ex := hR.eval hx
  have h1 := (run_bounds (P := P) hR (isS := false) (Nat.le_refl b.size) hh hl w).1
  refine Good.plain hR (u := .string (b.extract l h)) ?_ rfl rfl
  simp [execOp, ho, ex, Instr.sliceAt, Instr.slice, run_underlying (str_desc hi' hs), h1]

theorem good_sliceRow (hR : RelE nt I U s E a w) {t : Nat} {x : Operand} {lo hi : Option Operand} (ho : o.op = .slice t x lo hi none) {i : TI} (hi' : tiOf P t = some i) {e : Nat × Nat × Nat} (he' : i.elem = some e)
    (hns : ∀ b, getA nt s.t x ≠ .c (.v (.string b))) (he : evSlice H e.2.1 (lo.map (getA nt s.t)) (hi.map (getA nt s.t)) (getA nt s.t x) = some (v, objs)) : Good P o a w E s.H U id v objs := by
  obtain ⟨e, sz, eb⟩ := e
  obtain ⟨hu, j, hj, rfl, rfl⟩ := elem_spec hi' he'
  have hx := hR.get x
  unfold evSlice at he
  split at he
  · exact absurd (by assumption) (hns _)
  · rename_i k es hgx
    rw [hgx] at hx
    simp only [Option.bind_eq_some_iff] at he
    obtain ⟨h, hh, l, hl, he⟩ := he
    split at he
    · rename_i hsz
      cases he
      cases hx with
      | c _ _ hx =>
        have h1 := run_bounds (P := P) hR (isS := true) (Nat.le_refl es.length) hh hl w
        obtain ⟨r, hr, hrd⟩ := slice_row (P := P) hx h1.2.1 h1.2.2 hu hj hsz (lo := lo.map a.eval) (hi := hi.map a.eval) (fun cap hcap => (run_bounds (P := P) hR hcap hh hl w).1)
        refine Good.pure hR (u := r) ?_ (.c _ _ hrd) (.c _) rfl
        simp [execOp, ho, Instr.sliceAt, run_underlying hu, hr]
    · cases he
  · rename_i k es hgx
    rw [hgx] at hx
    simp only [Option.bind_eq_some_iff] at he
    obtain ⟨h, hh, l, hl, he⟩ := he
    split at he
    · rename_i hsz
      cases he
      cases hx with
      | bw _ _ hx =>
        have h1 := run_bounds (P := P) hR (isS := true) (Nat.le_refl es.length) hh hl w
        obtain ⟨r, hr, hrd⟩ := slice_row (P := P) hx h1.2.1 h1.2.2 hu hj hsz (lo := lo.map a.eval) (hi := hi.map a.eval) (fun cap hcap => (run_bounds (P := P) hR hcap hh hl w).1)
        refine Good.pure hR (u := r) ?_ (.bw _ _ hrd) (.bw _) rfl
        simp [execOp, ho, Instr.sliceAt, run_underlying hu, hr]
    · cases he
  · cases he

/-- What is read of a row, plain cells. -/
theorem RdR.rowCells {T : Nat → Prop} {k : Bool} {es : List (List CV)} {u : Value} (h : RdR w T (.row k es) u) : ∃ ad cap, u = .slice ad es.length cap ∧ (es = [] ∨ ∃ b off, ad = some ⟨b, off, none⟩ ∧ b < w.heap.size ∧
    ∀ (i j : Nat) e x, es[i]? = some e → e[j]? = some (.v x) → w.cell? ⟨b, off + (i * e.length + j), none⟩ = some x) := by
  cases h with
  | nil _ ad c => exact ⟨ad, c, rfl, .inl rfl⟩
  | row _ b off sz cap _ arr ty fz us hT hb hs hm hc hus hr =>
    refine ⟨_, cap, rfl, .inr ⟨b, off, rfl, RdR.lt hb, fun i j e x he hx => ?_⟩⟩
    have hil := (List.getElem?_eq_some_iff.1 he).1
    have hjl := (List.getElem?_eq_some_iff.1 hx).1
    have hel := hs e (List.mem_of_getElem? he)
    rw [hel, cell_at hb, hus i j hil (hel ▸ hjl)]
    have := hr i j e _ he hx
    generalize us i j = y at *
    cases this
    rfl
theorem RdC.plain {loc : Nat → Option Loc} {ℓ : Loc} {x u : Value} (h : RdC w loc ℓ (.v x) u) : u = x := by
  cases h with
  | im _ _ _ h => cases h; rfl

theorem rowOf_spec (hR : RelE nt I U s E a w) (hH : ∀ o ob, H o = some ob → s.H o = some ob) {x : AV} {es : List (List CV)} (hx : rowOf H x = some es) {u : Value} (h : RdV w E s.H x u) :
    ∃ ad cap, u = .slice ad es.length cap ∧ (es = [] ∨ ∃ b off, ad = some ⟨b, off, none⟩ ∧ b < w.heap.size ∧
    ∀ (i j : Nat) e x, es[i]? = some e → e[j]? = some (.v x) → w.cell? ⟨b, off + (i * e.length + j), none⟩ = some x) := by
  unfold rowOf at hx
  split at hx
  · cases hx; cases h with | c _ _ h => exact h.rowCells
  · cases hx; cases h with | bw _ _ h => exact h.rowCells
  · cases hx; cases h with | nul => exact ⟨none, 0, rfl, .inl rfl⟩
  · rename_i q n
    split at hx
    · rename_i ty sz es' hq
      split at hx
      · rename_i hn
        cases hx
        have hq := hH _ _ hq
        have hlen : (es'.take n).length = n := by simp; omega
        cases h with
        | slX _ _ _ h => rw [hq] at h; cases h
        | sl _ _ ty' sz' es2 b cap h hr =>
          rw [hq] at h
          cases h
          rw [hlen]
          refine ⟨_, cap, rfl, .inr ⟨b, 0, rfl, ?_⟩⟩
          rcases hR.live q _ hq with ⟨h1, _⟩ | ⟨b', cap', arr, us, h1, h2, h3, h4, h5, h6, h7, h8, h9⟩
          · rw [h1] at hr; cases hr
          · rw [h1] at hr
            cases hr
            refine ⟨RdR.lt h3, fun i j e x he hx => ?_⟩
            rw [List.getElem?_take] at he
            split at he
            · have hil := (List.getElem?_eq_some_iff.1 he).1
              have hjl := (List.getElem?_eq_some_iff.1 hx).1
              have hel := h7 e (List.mem_of_getElem? he)
              rw [hel, cell_at h3, Nat.zero_add, h8 i j hil (hel ▸ hjl), (h9 i j e _ he hx).plain]
            · cases he
        | slN _ ty' sz' h hr =>
          rw [hq] at h
          cases h
          exact ⟨none, 0, by simp, .inl (by simp)⟩
      · cases hx
    · cases hx
  · cases hx

theorem bytesOf_spec : ∀ {es : List (List CV)} {l : List UInt8}, bytesOf es = some l → ∃ ns : List Int, es = ns.map (fun n => [CV.v (.int .u8 n)]) ∧ l = ns.map (fun n => UInt8.ofNat n.toNat)
  | [], l, h => by simp [bytesOf] at h; exact ⟨[], rfl, by simp [h]⟩
  | e :: r, l, h => by
    unfold bytesOf at h
    split at h
    · rename_i h0; cases h0
    · rename_i n r' h0
      cases h0
      rw [Option.map_eq_some_iff] at h
      obtain ⟨l', hl', rfl⟩ := h
      obtain ⟨ns, h1, h2⟩ := bytesOf_spec hl'
      exact ⟨n :: ns, by rw [h1]; rfl, by rw [h2]; rfl⟩
    · cases h
theorem foldl_push (ns : List Int) (b : ByteArray) : ns.foldl (fun r n => r.push (UInt8.ofNat n.toNat)) b = ⟨b.data ++ (ns.map fun n => UInt8.ofNat n.toNat).toArray⟩ := by
  induction ns generalizing b with
  | nil => simp
  | cons n ns ih =>
    rw [List.foldl_cons, ih]
    congr 1
    simp [ByteArray.push]

theorem good_convInt (hR : RelE nt I U s E a w) {t d : Nat} {x : Operand} (ho : o.op = .convert t d x) {i j : TI} (hi : tiOf P t = some i) (hj : tiOf P d = some j) {k k' : IntKind} {n : Int} (hk : j.prim = some k) (hx : getA nt s.t x = .c (.v (.int k' n))) :
    Good P o a w E s.H U id (.c (.v (.int k (k.wrap n)))) [] := by
  have ex := hR.eval hx
  obtain ⟨info, d1, h1, h2, -⟩ := tiOf_spec hi
  obtain ⟨info', d2, h3, h4, -, -, -, -, -, h5, -⟩ := tiOf_spec hj
  rw [h5] at hk
  have hd : d2 = .int k := by cases d2 <;> simp_all
  subst hd
  refine Good.plain hR (u := .int k (k.wrap n)) ?_ rfl rfl
  cases d1 <;> simp [execOp, ho, ex, convert, run_underlying h2, run_underlying h4, Conv.intToInt]

theorem bytes_desc {t : Nat} {i : TI} (hi : tiOf P t = some i) (hs : i.isBytes = true) : ∃ e, P.underlying t = some (.slice e) ∧ P.underlying e = some (.int .u8) := by
  obtain ⟨info, d, h1, h2, -, -, -, -, -, -, -, -, -, h3⟩ := tiOf_spec hi
  rw [h3] at hs
  cases d <;> simp at hs
  rename_i e
  refine ⟨e, h2, ?_⟩
  split at hs
  · assumption
  · cases hs

theorem good_convStr (hR : RelE nt I U s E a w) (hH : ∀ o ob, H o = some ob → s.H o = some ob) {t d : Nat} {x : Operand} (ho : o.op = .convert t d x) {i j : TI} (hi : tiOf P t = some i) (hj : tiOf P d = some j) (hs : j.isStr = true) (hb : i.isBytes = true)
    {es : List (List CV)} (hx : rowOf H (getA nt s.t x) = some es) {l : List UInt8} (hl : bytesOf es = some l) : Good P o a w E s.H U id (.c (.v (.string ⟨l.toArray⟩))) [] := by
  obtain ⟨e, he1, he2⟩ := bytes_desc hi hb
  obtain ⟨ns, rfl, rfl⟩ := bytesOf_spec hl
  obtain ⟨ad, cap, hu, hc⟩ := rowOf_spec hR hH hx (hR.get x)
  refine Good.plain hR (u := .string ⟨(ns.map fun n => UInt8.ofNat n.toNat).toArray⟩) ?_ rfl rfl
  have key : (Conv.bytesToString (.slice ad ns.length cap)).run P w = .ok (.string ⟨(ns.map fun n => UInt8.ofNat n.toNat).toArray⟩) w := by
    cases ad with
    | none =>
      rcases hc with hc | ⟨b, off, hc, _⟩
      · have : ns = [] := by simpa using hc
        subst this
        rfl
      · cases hc
    | some ad =>
      have hload : (loadCells ad ns.length).run P w = .ok (ns.map (Value.int .u8)).toArray w := by
        rcases hc with hc | ⟨b, off, hc, _, hcell⟩
        · have : ns = [] := by simpa using hc
          subst this
          rfl
        · cases hc
          have := run_loadCells_list (P := P) w ⟨b, off, none⟩ (ns.map (Value.int .u8)) (fun q v hq => by
            rw [List.getElem?_map, Option.map_eq_some_iff] at hq
            obtain ⟨n, hn, rfl⟩ := hq
            have h1 := hcell q 0 [CV.v (.int .u8 n)] (.int .u8 n) (by rw [List.getElem?_map, hn]; rfl) rfl
            rw [Addr.add_lit]
            simpa using h1)
          simpa using this
      rw [run_bytesToString w ad ns.length cap ns hload, foldl_push]
      simp
  simp only [List.length_map] at hu
  simp [execOp, ho, hu, run_convert_bytes_string w t d e ad ns.length cap he1 he2 (str_desc hj hs), key]
end

end Go.Proofs.Ytnnmpdanfeejbaa.Abs
