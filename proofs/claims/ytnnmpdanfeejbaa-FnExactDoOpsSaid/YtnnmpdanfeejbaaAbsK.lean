/- The abstract machine's operations hold of the model: append. -/
import Derived.Test.YtnnmpdanfeejbaaAbsJ
namespace Go.Proofs.Ytnnmpdanfeejbaa.Abs
open Go Go.RowKit
set_option linter.unusedVariables false
set_option linter.unusedSimpArgs false

/-- What is appended: so many elements, these cells. -/
structure Src (P : Program) (w : World) (size : Nat) (y : Value) (m : Nat) (news : List Value) : Prop where
  len : ∀ w', (Builtin.lenOf y).run P w' = .ok m w'
  first : ∀ w', w'.heap = w.heap → (Builtin.firstCells size m y).run P w' = .ok news.toArray w'

theorem notInt (du : TypeDesc) : (∀ k, du ≠ .int k) → (match du with | .int k => true | x => false) = false := by
  intro h
  cases du <;> first | rfl | exact absurd rfl (h _)

section
variable {P : Program} {w : World}

theorem run_append_genN {t u ty e : Nat} {i : TypeInfo} {z : Value} {du : TypeDesc} (ht : P.underlying t = some (.slice e)) (hu : P.underlying u = some du) (hd : ∀ k, du ≠ .int k) (hi : P.info? e = some i) (hz : i.zero = some z)
    {y : Value} {m : Nat} {news : List Value} (hy : Src P w i.size y m news) (hl : news.length = m * i.size) (h63 : m ≤ 9223372036854775807) (h48 : m * i.bytes ≤ 281474976710656) :
    (Builtin.append_ #[t, u] ty #[.slice none 0 0, y]).run P w = if m = 0 then .ok (.slice none 0 0) w else
      .ok (.slice (some ⟨w.heap.size, 0, none⟩) m (grownCap w m 0 e)) (w.drew.alloc (.cells (news.toArray ++ Builtin.zeroCells z.cells (grownCap w m 0 e - m)) e)) := by
  have hdu := notInt du hd
  by_cases h0 : m = 0
  · subst h0
    have hn : news = [] := List.eq_nil_of_length_eq_zero (by simpa using hl)
    subst hn
    rw [if_pos rfl]
    have h1 := hy.len w
    have h2 := hy.first w rfl
    simp [Builtin.append_, run_underlying ht, run_underlying hu, hdu, sizeOf, typeInfo, hi, h1, h2]
  · rw [if_neg h0]
    have h1 := hy.len w
    have h2 := hy.first w.drew rfl
    have h63' : ¬ (9223372036854775807 < (m : Int)) := by omega
    have h48' : ¬ (281474976710656 < Builtin.nextslicecap m 0 * i.bytes) := by rw [nextslicecap_zero (by omega)]; omega
    simp [Builtin.append_, run_underlying ht, run_underlying hu, hdu, sizeOf, typeInfo, zeroValue, hi, hz, h0, h63', h48', Question.forced, run_firstCells_none, h1, h2, newRow, grownCap]

theorem run_append_genR {t u ty e : Nat} {i : TypeInfo} {du : TypeDesc} (ht : P.underlying t = some (.slice e)) (hu : P.underlying u = some du) (hd : ∀ k, du ≠ .int k) (hi : P.info? e = some i)
    {y : Value} {m : Nat} {news : List Value} (hy : Src P w i.size y m news) (hl : news.length = m * i.size) (h1 : ∀ u ∈ news, u.oneCell' = true) {g n cap : Nat} {cur : Array Value} (hg : w.heap[g]? = some (.cells cur e (0, 0)))
    (hroom : n + m ≤ cap) (hfit : n * i.size + news.length ≤ cur.size) :
    (Builtin.append_ #[t, u] ty #[.slice (some ⟨g, 0, none⟩) n cap, y]).run P w =
      .ok (.slice (some ⟨g, 0, none⟩) (n + m) cap) (w.setRow g (cur.toList.take (n * i.size) ++ news ++ cur.toList.drop (n * i.size + news.length)).toArray) := by
  have hdu := notInt du hd
  have hst := run_storeCells_at P g (n * i.size) e news 0 cur w hg (by simpa using hfit) h1
  simp only [Nat.add_zero] at hst
  have h2 := hy.first w rfl
  simp [Builtin.append_, run_underlying ht, run_underlying hu, hdu, sizeOf, typeInfo, hi, hy.len w, hroom, h2, Addr.add_lit, hst]

theorem run_append_genG {t u ty e : Nat} {i : TypeInfo} {z : Value} {du : TypeDesc} (ht : P.underlying t = some (.slice e)) (hu : P.underlying u = some du) (hd : ∀ k, du ≠ .int k) (hi : P.info? e = some i) (hz : i.zero = some z)
    {y : Value} {m : Nat} {news : List Value} (hy : Src P w i.size y m news) {b : Addr} {n cap : Nat} {olds : List Value} (hlo : olds.length = n * i.size) (holds : ∀ (j : Nat) v, olds[j]? = some v → w.cell? (b.add j) = some v)
    (hg : cap < n + m) (h63 : n + m ≤ 9223372036854775807) (hfit : Builtin.nextslicecap (n + m) cap * i.bytes ≤ 281474976710656) :
    (Builtin.append_ #[t, u] ty #[.slice (some b) n cap, y]).run P w =
      .ok (.slice (some ⟨w.heap.size, 0, none⟩) (n + m) (grownCap w (n + m) cap e))
        (w.drew.alloc (.cells (olds.toArray ++ news.toArray ++ Builtin.zeroCells z.cells (grownCap w (n + m) cap e - (n + m))) e)) := by
  have hdu := notInt du hd
  have hn : ¬ (n + m ≤ cap) := by omega
  have h63' : ¬ (9223372036854775807 < ((n : Int) + (m : Int))) := by omega
  have h48' : ¬ (281474976710656 < Builtin.nextslicecap (n + m) cap * i.bytes) := by omega
  have h2 := hy.first w.drew rfl
  have hfo := run_firstCells_some (P := P) w.drew i.size n b n cap olds hlo (by simpa using holds)
  simp [Builtin.append_, run_underlying ht, run_underlying hu, hdu, sizeOf, typeInfo, zeroValue, hi, hz, hy.len w, hn, h63', h48', Question.forced, h2, hfo, newRow, grownCap]
  congr 2
  apply Array.ext'
  simp [List.append_assoc]
end

section
variable {P : Program} {nt : Nat} {I : Ini} {U : Nat → Prop} {s : ASt} {E : Env} {a : Act} {w : World} {o : Oper} {id : Nat} {v : AV} {objs : List (Nat × Option Ob)} {H : Hp}

/-- A new object, made of memory that is new or that used-up objects held. -/
theorem Fx.move (hR : RelE nt I U s E a w) (hid : ¬ U id) {w' : World} {E' : Env} {g : Loc → Loc} {mv : List (Nat × Nat × Nat)} {ob : Ob} (hrho : ∀ k, k ≠ id → E'.rho k = E.rho k)
    (hloc : ∀ k, k < w.heap.size → E'.loc k = (E.loc k).map g) (hlocN : ∀ k ℓ, w.heap.size ≤ k → E'.loc k = some ℓ → k < w'.heap.size)
    (hw : Evo (fun k => ∃ m ∈ mv, E.loc k = some (m.1, [])) w w')
    (hg1 : ∀ k p, (∀ m ∈ mv, m.1 ≠ k) → g (k, p) = (k, p)) (hg2 : ∀ k p o, g (k, p) = (o, []) → p = []) (hmv : ∀ m ∈ mv, ∃ x, s.H m.1 = some x)
    (hl : Keeps U w w' E E' s.H (updL s.H ((id, some ob) :: gone mv)) → LiveOb w' E' (updL s.H ((id, some ob) :: gone mv)) id ob) (hmn : MnOb (fun o => U o ∨ o = id) ob)
    {u : Value} (hv : RdV w' E' (updL s.H ((id, some ob) :: gone mv)) v u) (hm : Mn (fun o => U o ∨ o = id) v) :
    Fx w E s.H U id v ((id, some ob) :: gone mv) u w' E' := by
  have hmi : ∀ m ∈ mv, m.1 ≠ id := fun m hm e => by
    obtain ⟨x, hx⟩ := hmv m hm
    exact hid (e ▸ (hR.mnH _ _ hx).1)
  have kp : Keeps U w w' E E' s.H (updL s.H ((id, some ob) :: gone mv)) := by
    refine ⟨fun b hb h0 => ⟨hw.old hb (by rintro ⟨m, _, h⟩; rw [h0] at h; cases h), by rw [hloc b hb, h0]; rfl⟩, fun b hb h1 => ⟨hw.old hb (by rintro ⟨m, _, h⟩; exact h1 _ h), fun o' ho' => ?_⟩, fun k hk => ?_⟩
    · rw [hloc b hb, Option.map_eq_some_iff] at ho'
      obtain ⟨⟨k, p⟩, hk, hg⟩ := ho'
      have := hg2 k p o' hg
      subst this
      exact h1 k hk
    · have hki : k ≠ id := fun e => hid (e ▸ hk)
      by_cases hm : ∃ m ∈ mv, m.1 = k
      · exact .inl (updL_old hm)
      · have : updL s.H ((id, some ob) :: gone mv) k = s.H k := by
          show updL (upd s.H id (some ob)) (gone mv) k = _
          rw [updL_out (fun y hy => by obtain ⟨m', hm', rfl⟩ := mem_gone hy; exact fun e => hm ⟨m', hm', e⟩), upd_ne _ _ hki]
        rw [this]
        cases hh : s.H k with
        | none => exact .inl rfl
        | some ob => exact .inr ⟨hrho k hki, ob, ob, rfl, rfl, Ob.like.refl ob⟩
  constructor
  · exact ⟨hw.os, hw.tape, hw.output, hw.size, fun i hi hn => hw.block i hi (by rintro ⟨m, _, h⟩; exact hn (by rw [h]; simp))⟩
  · exact fun b hb h0 => (kp.t0 b hb h0).2
  · exact kp.t1
  · intro q hq
    have hqi : q ≠ id := fun e => hq (id, some ob) (List.mem_cons_self ..) e.symm
    have hqm : ∀ m ∈ mv, m.1 ≠ q := fun m hm e => hq (m.1, none) (List.mem_cons_of_mem _ (List.mem_map.2 ⟨m, hm, rfl⟩)) e
    refine ⟨hrho q hqi, fun b p hb hp => ⟨hw.old hb (by rintro ⟨m, hm, h⟩; rw [hp] at h; cases h; exact hqm m hm rfl), ?_⟩⟩
    rw [hloc b hb, hp, Option.map_some, hg1 q p hqm]
  · intro x hx
    rcases List.mem_cons.1 hx with rfl | hx
    · exact .inl rfl
    · obtain ⟨m, hm, rfl⟩ := mem_gone hx
      obtain ⟨y, hy⟩ := hmv m hm
      exact .inr ⟨y, hy, .inl (updL_old ⟨m, hm, rfl⟩)⟩
  · intro x hx ob' hob
    rcases List.mem_cons.1 hx with rfl | hx
    · rw [updL_new hmi] at hob
      cases hob
      exact ⟨hl kp, hmn⟩
    · obtain ⟨m, hm, rfl⟩ := mem_gone hx
      rw [updL_old ⟨m, hm, rfl⟩] at hob
      cases hob
  · intro b ℓ hb
    by_cases hbs : b < w.heap.size
    · rw [hloc b hbs, Option.map_eq_some_iff] at hb
      obtain ⟨ℓ0, h0, _⟩ := hb
      exact ⟨Nat.lt_of_lt_of_le hbs hw.size, .inr (by rw [h0]; simp)⟩
    · exact ⟨hlocN b ℓ (by omega) hb, .inl (by omega)⟩
  · exact hv
  · exact hm

/-- The cells of what is appended, and how they stand once they lie in the new row. -/
def SrcOk (P : Program) (w : World) (E : Env) (esz : Nat) (new : List (List CV)) (q : Option Nat) (u : Value) : Prop :=
  ∃ news : List Value, Src P w esz u new.length news ∧ news.length = new.length * esz ∧ (∀ y ∈ news, y.oneCell' = true) ∧
    ∀ (i j : Nat) e c y, new[i]? = some e → e[j]? = some c → news[i * esz + j]? = some y → ∀ (w' : World) (loc' : Nat → Option Loc) (ℓ : Loc),
      (∀ b, b < w.heap.size → E.loc b = none → w'.heap[b]? = w.heap[b]? ∧ loc' b = none) →
      (∀ k, q = some k → ∀ b p, b < w.heap.size → E.loc b = some (k, (i, j) :: p) → w'.heap[b]? = w.heap[b]? ∧ loc' b = some (ℓ.1, ℓ.2 ++ p)) → RdC w' loc' ℓ c y

theorem Src.nil (P : Program) (w : World) (size : Nat) (ad : Option Addr) (cap : Nat) : Src P w size (.slice ad 0 cap) 0 [] := by
  refine ⟨fun w' => rfl, fun w' _ => ?_⟩
  cases ad <;> simp [Builtin.firstCells, loadCells, loadCellsFrom]

/-- A row of memory is appended. -/
theorem Src.row {size : Nat} (hsz : 0 < size) {b off n cap : Nat} {us : Nat → Nat → Value} (hc : ∀ i j, i < n → j < size → w.cell? ⟨b, off + (i * size + j), none⟩ = some (us i j)) :
    Src P w size (.slice (some ⟨b, off, none⟩) n cap) n ((List.range (n * size)).map fun k => us (k / size) (k % size)) := by
  refine ⟨fun w' => rfl, fun w' hw' => ?_⟩
  refine run_firstCells_some (P := P) w' size n ⟨b, off, none⟩ n cap _ (by simp) (fun k v hk => ?_)
  rw [List.getElem?_map, Option.map_eq_some_iff] at hk
  obtain ⟨k', hk', rfl⟩ := hk
  obtain ⟨h1, h2⟩ := List.getElem?_eq_some_iff.1 hk'
  rw [List.getElem_range] at h2
  subst h2
  have h3 : k < n * size := by simpa using h1
  have h4 := hc (k / size) (k % size) ((Nat.div_lt_iff_lt_mul hsz).2 h3) (Nat.mod_lt _ hsz)
  rw [Nat.mul_comm (k / size) size, Nat.div_add_mod] at h4
  rw [Addr.add_lit]
  unfold World.cell? at h4 ⊢
  rw [hw']
  exact h4
theorem rowNews_at {n size : Nat} {us : Nat → Nat → Value} (hsz : 0 < size) {i j : Nat} (hi : i < n) (hj : j < size) : ((List.range (n * size)).map fun k => us (k / size) (k % size))[i * size + j]? = some (us i j) := by
  have h : i * size + j < n * size := by
    calc i * size + j < i * size + size := by omega
      _ = (i + 1) * size := by rw [Nat.add_mul]; omega
      _ ≤ n * size := Nat.mul_le_mul_right _ hi
  rw [List.getElem?_map, List.getElem?_range h, Option.map_some]
  congr 1
  have h1 : (i * size + j) / size = i := by
    rw [Nat.add_comm, Nat.add_mul_div_right _ _ hsz, Nat.div_eq_of_lt hj, Nat.zero_add]
  have h2 : (i * size + j) % size = j := by
    rw [Nat.add_comm, Nat.add_mul_mod_self_right, Nat.mod_eq_of_lt hj]
  rw [h1, h2]

theorem srcOk_row {esz : Nat} (hsz : 0 < esz) {T : Nat → Prop} {k : Bool} {es new : List (List CV)} {u : Value} (h : RdR w T (.row k es) u) (hlen : new.length = es.length) (hes : ∀ e ∈ es, e.length = esz) {q : Option Nat}
    (hrd : ∀ (i j : Nat) e c c' y, es[i]? = some e → e[j]? = some c → (∃ e', new[i]? = some e' ∧ e'[j]? = some c') → RdR w T c y → ∀ (w' : World) (loc' : Nat → Option Loc) (ℓ : Loc),
      (∀ b, b < w.heap.size → E.loc b = none → w'.heap[b]? = w.heap[b]? ∧ loc' b = none) → RdC w' loc' ℓ c' y) (hnew : ∀ (i : Nat) e e', es[i]? = some e → new[i]? = some e' → e'.length = e.length) : SrcOk P w E esz new q u := by
  cases h with
  | nil _ ad cap =>
    have : new = [] := List.eq_nil_of_length_eq_zero (by simpa using hlen)
    subst this
    exact ⟨[], Src.nil P w esz ad cap, by simp, fun y hy => by simp at hy, fun i j e c y he => by simp at he⟩
  | row _ b off sz cap _ arr ty fz us hT hb hs hm hc hu hr =>
    by_cases h0 : es = []
    · subst h0
      have : new = [] := List.eq_nil_of_length_eq_zero (by simpa using hlen)
      subst this
      exact ⟨[], Src.nil P w esz _ cap, by simp, fun y hy => by simp at hy, fun i j e c y he => by simp at he⟩
    · have hszz : sz = esz := by
        obtain ⟨e, r, rfl⟩ := List.exists_cons_of_ne_nil h0
        rw [← hs e (List.mem_cons_self ..), hes e (List.mem_cons_self ..)]
      subst hszz
      have hcell : ∀ i j, i < es.length → j < sz → w.cell? ⟨b, off + (i * sz + j), none⟩ = some (us i j) := fun i j hi hj => by rw [cell_at hb]; exact hu i j hi hj
      refine ⟨(List.range (es.length * sz)).map fun k => us (k / sz) (k % sz), by rw [hlen]; exact Src.row hsz hcell, by simp [hlen], fun y hy => ?_, fun i j e c y he hc' hy w' loc' ℓ h0 _ => ?_⟩
      · rw [List.mem_map] at hy
        obtain ⟨k, hk, rfl⟩ := hy
        have hk' := List.mem_range.1 hk
        have hi : k / sz < es.length := (Nat.div_lt_iff_lt_mul hsz).2 hk'
        have hj : k % sz < (es[k / sz]).length := by rw [hs _ (List.getElem_mem hi)]; exact Nat.mod_lt _ hsz
        exact (hr (k / sz) (k % sz) _ _ (List.getElem?_eq_getElem hi) (List.getElem?_eq_getElem hj)).one
      · have hi : i < es.length := hlen ▸ (List.getElem?_eq_some_iff.1 he).1
        have he0 := List.getElem?_eq_getElem hi
        have hel := hnew i _ e he0 he
        have hj : j < sz := by
          have := (List.getElem?_eq_some_iff.1 hc').1
          rw [hel, hs _ (List.getElem_mem hi)] at this
          exact this
        have hjl : j < (es[i]).length := by rw [hs _ (List.getElem_mem hi)]; exact hj
        rw [rowNews_at hsz hi hj] at hy
        cases hy
        exact hrd i j _ _ c _ he0 (List.getElem?_eq_getElem hjl) ⟨e, he, hc'⟩ (hr i j _ _ he0 (List.getElem?_eq_getElem hjl)) w' loc' ℓ h0

theorem evSrc_ok (hR : RelE nt I U s E a w) (hH : ∀ o ob, H o = some ob → s.H o = some ob) {esz : Nat} (hsz : 0 < esz) {y : AV} {new : List (List CV)} {q : Option Nat} (he : evSrc H y = some (new, q)) (hlen : ∀ c ∈ new, c.length = esz) {u : Value} (h : RdV w E s.H y u) :
    SrcOk P w E esz new q u ∧ ∀ k, q = some k → ∃ ty sz es, H k = some (.rw ty sz es) := by
  unfold evSrc at he
  split at he
  · rename_i k es
    cases he
    refine ⟨?_, fun k hk => by cases hk⟩
    cases h with
    | c _ _ h =>
      refine srcOk_row hsz h (by simp) (fun e he => ?_) (fun i j e c c' y he hc hcc hy w' loc' ℓ h0 => ?_) (fun i e e' he he' => ?_)
      · have := hlen (e.map CV.im) (List.mem_map.2 ⟨e, he, rfl⟩)
        simpa using this
      · obtain ⟨e', he', hc'⟩ := hcc
        rw [List.getElem?_map, he] at he'
        cases he'
        rw [List.getElem?_map, hc] at hc'
        cases hc'
        exact .im _ _ _ (hy.im.mono h0) (CV.im_im _)
      · rw [List.getElem?_map, he] at he'
        cases he'
        simp
  · rename_i k es
    split at he
    · rename_i hv
      cases he
      refine ⟨?_, fun k hk => by cases hk⟩
      cases h with
      | bw _ _ h =>
        refine srcOk_row hsz h rfl hlen (fun i j e c c' y he hc hcc hy w' loc' ℓ h0 => ?_) (fun i e e' he he' => by rw [he] at he'; cases he'; rfl)
        obtain ⟨e', he', hc'⟩ := hcc
        rw [he] at he'
        cases he'
        rw [hc] at hc'
        cases hc'
        have h1 := List.all_eq_true.1 (List.all_eq_true.1 hv e (List.mem_of_getElem? he)) c (List.mem_of_getElem? hc)
        cases c <;> simp [CV.isV] at h1
        cases hy with
        | v _ hy => exact .im _ _ _ (.v _ hy) rfl
    · cases he
  · cases he
    refine ⟨?_, fun k hk => by cases hk⟩
    cases h
    exact ⟨[], Src.nil P w esz none 0, by simp, fun y hy => by simp at hy, fun i j e c y he => by simp at he⟩
  · rename_i b
    cases he
    refine ⟨?_, fun k hk => by cases hk⟩
    cases h with
    | c _ _ h =>
      cases h
      have h1 : b.data.toList = [] ∨ esz = 1 := by
        cases hb : b.data.toList with
        | nil => exact .inl rfl
        | cons x r => exact .inr (by have := hlen [.v (.int .u8 x.toNat)] (by rw [hb]; exact List.mem_cons_self ..); simpa using this.symm)
      have hl : (b.data.toList.map fun u => [CV.v (.int .u8 u.toNat)]).length = b.size := by simp
      refine ⟨(b.data.map fun u => Value.int .u8 u.toNat).toList, ⟨fun w' => by rw [hl]; rfl, fun w' _ => ?_⟩, ?_, fun y hy => ?_, fun i j e c y he hc hy w' loc' ℓ h0 _ => ?_⟩
      · rw [hl]
        have : b.extract 0 b.size = b := ByteArray.extract_zero_size
        simp [Builtin.firstCells, this]
        rw [← Array.toList_map, Array.toArray_toList]
      · rcases h1 with h1 | rfl
        · have : b.size = 0 := by
            have := congrArg List.length h1
            simpa using this
          simp [this]
        · simp
      · simp at hy
        obtain ⟨u, _, rfl⟩ := hy
        rfl
      · rw [List.getElem?_map, Option.map_eq_some_iff] at he
        obtain ⟨u, hu, rfl⟩ := he
        cases j with
        | succ j => simp at hc
        | zero =>
          cases hc
          have hesz : esz = 1 := h1.resolve_left (by intro h; rw [h] at hu; simp at hu)
          subst hesz
          have : y = .int .u8 u.toNat := by
            rw [Nat.mul_one, Nat.add_zero] at hy
            rw [Array.toList_map, List.getElem?_map, hu] at hy
            exact (Option.some.inj hy).symm
          subst this
          exact .im _ _ _ (.v _ rfl) rfl
  · rename_i k n
    split at he
    · rename_i ty sz es hk
      split at he
      · rename_i hn
        have hk' := hH _ _ hk
        have key : ∀ q', (allV es = true ∨ q' = some k) → (∀ c ∈ es, c.length = esz) → SrcOk P w E esz es q' u := by
          intro q' hq' hlen
          cases h with
          | slX _ _ _ h => rw [hk'] at h; cases h
          | sl _ _ ty' sz' es' b cap h hr =>
            rw [hk'] at h
            cases h
            subst hn
            rcases hR.live k _ hk' with ⟨h1, _⟩ | ⟨b', cap', arr, us, h1, h2, h3, h4, h5, h6, h7, h8, h9⟩
            · rw [h1] at hr; cases hr
            · rw [h1] at hr
              cases hr
              by_cases h0 : es = []
              · subst h0
                exact ⟨[], Src.nil P w esz _ cap, by simp, fun y hy => by simp at hy, fun i j e c y he => by simp at he⟩
              · have hszz : sz = esz := by
                  obtain ⟨e, r, rfl⟩ := List.exists_cons_of_ne_nil h0
                  rw [← h7 e (List.mem_cons_self ..), hlen e (List.mem_cons_self ..)]
                subst hszz
                have hcell : ∀ i j, i < es.length → j < sz → w.cell? ⟨b, 0 + (i * sz + j), none⟩ = some (us i j) := fun i j hi hj => by rw [cell_at h3, Nat.zero_add]; exact h8 i j hi hj
                refine ⟨_, Src.row hsz hcell, by simp, fun y hy => ?_, fun i j e c y he hc hy w' loc' ℓ h0 hq => ?_⟩
                · rw [List.mem_map] at hy
                  obtain ⟨k', hk1, rfl⟩ := hy
                  have hk2 := List.mem_range.1 hk1
                  have hi : k' / sz < es.length := (Nat.div_lt_iff_lt_mul hsz).2 hk2
                  have hj : k' % sz < (es[k' / sz]).length := by rw [h7 _ (List.getElem_mem hi)]; exact Nat.mod_lt _ hsz
                  exact (h9 (k' / sz) (k' % sz) _ _ (List.getElem?_eq_getElem hi) (List.getElem?_eq_getElem hj)).one
                · have hi := (List.getElem?_eq_some_iff.1 he).1
                  have hj : j < sz := by
                    have := (List.getElem?_eq_some_iff.1 hc).1
                    rw [h7 e (List.mem_of_getElem? he)] at this
                    exact this
                  rw [rowNews_at hsz hi hj] at hy
                  cases hy
                  have hcc := h9 i j e c he hc
                  rcases hq' with hv | hq'
                  · have h1 := List.all_eq_true.1 (List.all_eq_true.1 hv e (List.mem_of_getElem? he)) c (List.mem_of_getElem? hc)
                    cases c <;> simp [CV.isV] at h1
                    have hone := hcc.one
                    rw [hcc.plain] at hone ⊢
                    exact .im _ _ _ (.v _ hone) rfl
                  · exact hcc.relabel ℓ h0 (fun b' p hb' hp => hq k hq' b' p hb' hp)
          | slN _ ty' sz' h hr =>
            rw [hk'] at h
            cases h
            exact ⟨[], Src.nil P w esz none 0, by simp, fun y hy => by simp at hy, fun i j e c y he => by simp at he⟩
        split at he
        · rename_i hv
          cases he
          exact ⟨key none (.inl hv) hlen, fun k hk => by cases hk⟩
        · cases he
          exact ⟨key (some k) (.inr rfl) hlen, fun k' hk' => by cases hk'; exact ⟨ty, sz, _, hk⟩⟩
      · cases he
    · cases he
  · cases he
end

end Go.Proofs.Ytnnmpdanfeejbaa.Abs
