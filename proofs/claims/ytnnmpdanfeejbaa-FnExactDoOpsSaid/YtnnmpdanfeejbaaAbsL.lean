/- The abstract machine's operations hold of the model: append, told. -/
import Derived.Test.YtnnmpdanfeejbaaAbsK
namespace Go.Proofs.Ytnnmpdanfeejbaa.Abs
open Go Go.RowKit
set_option linter.unusedVariables false
set_option linter.unusedSimpArgs false

def gA (id n : Nat) (o q : Option Nat) (ℓ : Loc) : Loc :=
  if o = some ℓ.1 then (id, ℓ.2) else if q = some ℓ.1 then (match ℓ.2 with | [] => ℓ | x :: r => (id, (n + x.1, x.2) :: r)) else ℓ
def opts (o : Option Nat) : List (Nat × Nat × Nat) := match o with
  | some k => [(k, 0, 0)]
  | none => []

theorem gA_out {id n : Nat} {o q : Option Nat} {k : Nat} {p : List (Nat × Nat)} (h : ∀ m ∈ opts o ++ opts q, m.1 ≠ k) : gA id n o q (k, p) = (k, p) := by
  have h1 : o ≠ some k := by rintro rfl; exact h (k, 0, 0) (List.mem_append_left _ (List.mem_cons_self ..)) rfl
  have h2 : q ≠ some k := by rintro rfl; exact h (k, 0, 0) (List.mem_append_right _ (List.mem_cons_self ..)) rfl
  unfold gA
  rw [if_neg h1, if_neg h2]
theorem gA_nil {id n : Nat} {o q : Option Nat} {k r : Nat} {p : List (Nat × Nat)} (h : gA id n o q (k, p) = (r, [])) : p = [] := by
  unfold gA at h
  split at h
  · simpa using congrArg Prod.snd h
  · split at h
    · cases p with
      | nil => rfl
      | cons x r => simp at h
    · simpa using congrArg Prod.snd h
theorem gA_dst {id n k : Nat} {q : Option Nat} (p : List (Nat × Nat)) : gA id n (some k) q (k, p) = (id, p) := if_pos rfl
theorem gA_src {id n k : Nat} {o : Option Nat} (ho : o ≠ some k) (x : Nat × Nat) (r : List (Nat × Nat)) : gA id n o (some k) (k, x :: r) = (id, (n + x.1, x.2) :: r) := by
  unfold gA
  rw [if_neg ho, if_pos rfl]

section
variable {P : Program} {nt : Nat} {I : Ini} {U : Nat → Prop} {s : ASt} {E : Env} {a : Act} {w : World} {o : Oper} {id : Nat} {v : AV} {objs : List (Nat × Option Ob)} {H : Hp}

theorem live_cat {w' : World} {E' : Env} {H' : Hp} {b cap e esz : Nat} {arr : Array Value} {es new : List (List CV)} (h1 : E'.rho id = some (b, cap)) (h2 : E'.loc b = some (id, [])) (h3 : w'.heap[b]? = some (.cells arr e (0, 0))) (h4 : arr.size = cap * esz)
    (h5 : es.length + new.length ≤ cap) (h6 : cap ≤ maxLen) (h7 : ∀ c ∈ es, c.length = esz) (h7' : ∀ c ∈ new, c.length = esz)
    (ho : ∀ (i j : Nat) e c, es[i]? = some e → e[j]? = some c → ∃ y, arr[i * esz + j]? = some y ∧ RdC w' E'.loc (id, [(i, j)]) c y)
    (hn : ∀ (i j : Nat) e c, new[i]? = some e → e[j]? = some c → ∃ y, arr[(es.length + i) * esz + j]? = some y ∧ RdC w' E'.loc (id, [(es.length + i, j)]) c y) : LiveOb w' E' H' id (.rw e esz (es ++ new)) := by
  refine .inr ⟨b, cap, arr, fun i j => arr.getD (i * esz + j) undef, h1, h2, h3, h4, by simpa using h5, h6, fun c hc => ?_, fun i j hi hj => ?_, fun i j e c he hc => ?_⟩
  · rcases List.mem_append.1 hc with h | h
    · exact h7 c h
    · exact h7' c h
  · have : i * esz + j < arr.size := by
      rw [h4]
      calc i * esz + j < i * esz + esz := by omega
        _ = (i + 1) * esz := by rw [Nat.add_mul]; omega
        _ ≤ cap * esz := Nat.mul_le_mul_right _ (by simp at hi; omega)
    rw [Array.getElem?_eq_getElem this]
    simp [Array.getD, this]
  · have key : ∀ y, arr[i * esz + j]? = some y → arr.getD (i * esz + j) undef = y := fun y hy => by
      obtain ⟨h, rfl⟩ := Array.getElem?_eq_some_iff.1 hy
      simp [Array.getD, h]
    rw [List.getElem?_append] at he
    split at he
    · obtain ⟨y, hy, hr⟩ := ho i j e c he hc
      simp only [key y hy]
      exact hr
    · rename_i hi
      obtain ⟨y, hy, hr⟩ := hn (i - es.length) j e c he hc
      rw [show es.length + (i - es.length) = i by omega] at hy hr
      simp only [key y hy]
      exact hr

/-- The new block of an append. -/
theorem append_grown (hR : RelE nt I U s E a w) (hid : ¬ U id) {n m need old e esz : Nat} {z : Value} (hzs : z.cells.size = esz) {od q : Option Nat} {es new : List (List CV)} {olds news : List Value} (hes : es.length = n) (hnm : new.length = m)
    (hlo : olds.length = n * esz) (hln : news.length = m * esz) (hmax : n + m ≤ maxLen) (h7 : ∀ c ∈ es, c.length = esz) (h7' : ∀ c ∈ new, c.length = esz) (hmv : ∀ k ∈ opts od ++ opts q, ∃ x, s.H k.1 = some x)
    {cap : Nat} (hcap : n + m ≤ cap) (hcapm : cap ≤ maxLen)
    (hrun : (execOp a.eval o).run P w = .ok (.value (.slice (some ⟨w.heap.size, 0, none⟩) (n + m) cap)) (w.drew.alloc (.cells (olds.toArray ++ news.toArray ++ Builtin.zeroCells z.cells (cap - (n + m))) e)))
    (ho : ∀ (i j : Nat) e c, es[i]? = some e → e[j]? = some c → ∃ y, olds[i * esz + j]? = some y ∧ ∃ k, od = some k ∧ RdC w E.loc (k, [(i, j)]) c y)
    (hn : ∀ (i j : Nat) e c y, new[i]? = some e → e[j]? = some c → news[i * esz + j]? = some y → ∀ (w' : World) (loc' : Nat → Option Loc) (ℓ : Loc),
      (∀ b, b < w.heap.size → E.loc b = none → w'.heap[b]? = w.heap[b]? ∧ loc' b = none) →
      (∀ k, q = some k → ∀ b p, b < w.heap.size → E.loc b = some (k, (i, j) :: p) → w'.heap[b]? = w.heap[b]? ∧ loc' b = some (ℓ.1, ℓ.2 ++ p)) → RdC w' loc' ℓ c y) (hoq : ∀ k, od = some k → q ≠ some k) :
    Good P o a w E s.H U id (.sl id (n + m)) ((id, some (.rw e esz (es ++ new))) :: gone (opts od ++ opts q)) := by
  subst hes hnm
  have hold : ∀ k, k < w.heap.size → (w.drew.alloc (.cells (olds.toArray ++ news.toArray ++ Builtin.zeroCells z.cells (cap - (es.length + new.length))) e)).heap[k]? = w.heap[k]? := fun k hk => heap_alloc_old w.drew _ k hk
  have hnew : (w.drew.alloc (.cells (olds.toArray ++ news.toArray ++ Builtin.zeroCells z.cells (cap - (es.length + new.length))) e)).heap[w.heap.size]? = some (.cells (olds.toArray ++ news.toArray ++ Builtin.zeroCells z.cells (cap - (es.length + new.length))) e) := heap_alloc_new w.drew _
  generalize harr : (olds.toArray ++ news.toArray ++ Builtin.zeroCells z.cells (cap - (es.length + new.length))) = arr at *
  have hsz : arr.size = cap * esz := by
    rw [← harr]
    simp only [Array.size_append, List.size_toArray, size_zeroCells, hzs, hlo, hln, ← Nat.add_mul]
    congr 1
    omega
  have hat : ∀ k, k < olds.length → arr[k]? = olds[k]? := fun k hk => by
    rw [← harr, Array.getElem?_append_left (by simp; omega), Array.getElem?_append_left (by simpa using hk), List.getElem?_toArray]
  have hat2 : ∀ k, k < news.length → arr[olds.length + k]? = news[k]? := fun k hk => by
    rw [← harr, Array.getElem?_append_left (by simp; omega), Array.getElem?_append_right (by simp), List.getElem?_toArray]
    simp
  have hmi : ∀ m ∈ opts od ++ opts q, m.1 ≠ id := fun m hm e => by
    obtain ⟨x, hx⟩ := hmv m hm
    exact hid (e ▸ (hR.mnH _ _ hx).1)
  have hev : Evo (fun k => ∃ m ∈ opts od ++ opts q, E.loc k = some (m.1, [])) w (w.drew.alloc (.cells arr e)) := ⟨rfl, rfl, rfl, by simp, fun k hk _ => hold k hk⟩
  refine ⟨_, _, E.fresh w id cap (gA id es.length od q), .inl hrun, Fx.move (ob := .rw e esz (es ++ new)) hR hid (fun k hk => upd_ne _ _ hk) (fun k hk => if_neg (by omega)) (fun k ℓ hk h => ?_) hev (fun k p h => gA_out h) (fun k p r h => gA_nil h) hmv (fun kp => ?_) trivial ?_ (.sl _ _ (.inr rfl))⟩
  · by_cases hks : k = w.heap.size
    · subst hks; simp
    · have : (E.fresh w id cap (gA id es.length od q)).loc k = (E.loc k).map (gA id es.length od q) := if_neg hks
      rw [this, Option.map_eq_some_iff] at h
      obtain ⟨ℓ0, h0, _⟩ := h
      have := hR.locLt k ℓ0 h0
      omega
  · refine live_cat (b := w.heap.size) (cap := cap) (arr := arr) (upd_same ..) (if_pos rfl) hnew hsz hcap hcapm h7 h7' (fun i j e' c he hc => ?_) (fun i j e' c he hc => ?_)
    · obtain ⟨y, hy, k, hk, hrd⟩ := ho i j e' c he hc
      refine ⟨y, by rw [hat _ (List.getElem?_eq_some_iff.1 hy).1]; exact hy, hrd.relabel (id, [(i, j)]) kp.t0 (fun b p hb hp => ⟨hold b hb, ?_⟩)⟩
      have : (E.fresh w id cap (gA id es.length od q)).loc b = (E.loc b).map (gA id es.length od q) := if_neg (by omega)
      rw [this, hp, Option.map_some, hk, gA_dst]
    · have hi := (List.getElem?_eq_some_iff.1 he).1
      have hj : j < esz := by rw [← h7' e' (List.mem_of_getElem? he)]; exact (List.getElem?_eq_some_iff.1 hc).1
      have hlt : i * esz + j < news.length := by
        rw [hln]
        calc i * esz + j < i * esz + esz := by omega
          _ = (i + 1) * esz := by rw [Nat.add_mul]; omega
          _ ≤ new.length * esz := Nat.mul_le_mul_right _ hi
      have hy := List.getElem?_eq_getElem hlt
      refine ⟨news[i * esz + j], ?_, hn i j e' c _ he hc hy _ _ (id, [(es.length + i, j)]) kp.t0 (fun k hk b p hb hp => ⟨hold b hb, ?_⟩)⟩
      · rw [show (es.length + i) * esz + j = olds.length + (i * esz + j) by rw [hlo, Nat.add_mul]; omega, hat2 _ hlt, hy]
      · have : (E.fresh w id cap (gA id es.length od q)).loc b = (E.loc b).map (gA id es.length od q) := if_neg (by omega)
        rw [this, hp, Option.map_some]
        subst hk
        rw [gA_src (fun h => hoq _ h rfl)]
        rfl
  · have := RdV.sl (w := w.drew.alloc (.cells arr e)) (E := E.fresh w id cap (gA id es.length od q)) (H := updL s.H ((id, some (.rw e esz (es ++ new))) :: gone (opts od ++ opts q))) id (es.length + new.length) e esz (es ++ new) w.heap.size cap (updL_new hmi) (upd_same ..)
    exact this

/-- An append that brings nothing to a row that has no block. -/
theorem append_null (hR : RelE nt I U s E a w) (hid : ¬ U id) {e esz : Nat} {od q : Option Nat} (hmv : ∀ k ∈ opts od ++ opts q, ∃ x, s.H k.1 = some x) (hrun : (execOp a.eval o).run P w = .ok (.value (.slice none 0 0)) w) :
    Good P o a w E s.H U id (.sl id 0) ((id, some (.rw e esz [])) :: gone (opts od ++ opts q)) := by
  have hmi : ∀ m ∈ opts od ++ opts q, m.1 ≠ id := fun m hm e => by
    obtain ⟨x, hx⟩ := hmv m hm
    exact hid (e ▸ (hR.mnH _ _ hx).1)
  refine ⟨_, _, ⟨upd E.rho id none, fun k => (E.loc k).map (gA id 0 od q)⟩, .inl hrun, Fx.move (ob := .rw e esz []) hR hid (fun k hk => upd_ne _ _ hk) (fun k hk => rfl) (fun k ℓ hk h => ?_) (Evo.refl _ _) (fun k p h => gA_out h) (fun k p r h => gA_nil h) hmv (fun kp => .inl ⟨upd_same .., rfl⟩) trivial ?_ (.sl _ _ (.inr rfl))⟩
  · simp only [Option.map_eq_some_iff] at h
    obtain ⟨ℓ0, h0, _⟩ := h
    have := hR.locLt k ℓ0 h0
    omega
  · exact .slN id e esz (updL_new hmi) (upd_same ..)

/-- An append within the room that is there. -/
theorem append_room (hR : RelE nt I U s E a w) (hid : ¬ U id) {k b cap e esz : Nat} {q : Option Nat} {es new : List (List CV)} {arr : Array Value} {us : Nat → Nat → Value} {news : List Value} (hk : s.H k = some (.rw e esz es)) (hkq : q ≠ some k)
    (h2 : E.loc b = some (k, [])) (h3 : w.heap[b]? = some (.cells arr e (0, 0))) (h4 : arr.size = cap * esz) (hroom : es.length + new.length ≤ cap) (h6 : cap ≤ maxLen) (h7 : ∀ c ∈ es, c.length = esz) (h7' : ∀ c ∈ new, c.length = esz)
    (h8 : ∀ i j, i < es.length → j < esz → arr[i * esz + j]? = some (us i j)) (h9 : ∀ (i j : Nat) e c, es[i]? = some e → e[j]? = some c → RdC w E.loc (k, [(i, j)]) c (us i j)) (hln : news.length = new.length * esz)
    (hmv : ∀ x ∈ opts (some k) ++ opts q, ∃ y, s.H x.1 = some y)
    (hrun : (execOp a.eval o).run P w = .ok (.value (.slice (some ⟨b, 0, none⟩) (es.length + new.length) cap)) (w.setRow b (arr.toList.take (es.length * esz) ++ news ++ arr.toList.drop (es.length * esz + news.length)).toArray))
    (hn : ∀ (i j : Nat) e c y, new[i]? = some e → e[j]? = some c → news[i * esz + j]? = some y → ∀ (w' : World) (loc' : Nat → Option Loc) (ℓ : Loc),
      (∀ b, b < w.heap.size → E.loc b = none → w'.heap[b]? = w.heap[b]? ∧ loc' b = none) →
      (∀ k, q = some k → ∀ b p, b < w.heap.size → E.loc b = some (k, (i, j) :: p) → w'.heap[b]? = w.heap[b]? ∧ loc' b = some (ℓ.1, ℓ.2 ++ p)) → RdC w' loc' ℓ c y) :
    Good P o a w E s.H U id (.sl id (es.length + new.length)) ((id, some (.rw e esz (es ++ new))) :: gone (opts (some k) ++ opts q)) := by
  have hmi : ∀ m ∈ opts (some k) ++ opts q, m.1 ≠ id := fun m hm e => by
    obtain ⟨x, hx⟩ := hmv m hm
    exact hid (e ▸ (hR.mnH _ _ hx).1)
  have hfit : es.length * esz + news.length ≤ arr.toList.length := by
    have h0 : (es.length + new.length) * esz ≤ cap * esz := Nat.mul_le_mul_right _ hroom
    have h1 : arr.toList.length = arr.size := Array.length_toList
    rw [Nat.add_mul] at h0
    omega
  have hsp : (arr.toList.take (es.length * esz) ++ news ++ arr.toList.drop (es.length * esz + news.length)) = splice arr.toList (es.length * esz) news := rfl
  rw [hsp] at hrun
  have hget : ∀ j, (splice arr.toList (es.length * esz) news).toArray[j]? = if es.length * esz ≤ j ∧ j < es.length * esz + news.length then news[j - es.length * esz]? else arr[j]? := fun j => by
    rw [List.getElem?_toArray, splice_get hfit, ← Array.getElem?_toList]
  have hne : ∀ x, E.loc x ≠ some (k, []) → (w.setRow b (splice arr.toList (es.length * esz) news).toArray).heap[x]? = w.heap[x]? := fun x hx => heap_setRow_ne w b _ x (fun e => hx (e ▸ h2))
  have hev : Evo (fun x => ∃ m ∈ opts (some k) ++ opts q, E.loc x = some (m.1, [])) w (w.setRow b (splice arr.toList (es.length * esz) news).toArray) :=
    ⟨rfl, rfl, rfl, by simp [World.setRow], fun x hx hnn => hne x (fun e => hnn ⟨(k, 0, 0), List.mem_append_left _ (List.mem_cons_self ..), e⟩)⟩
  refine ⟨_, _, ⟨upd E.rho id (some (b, cap)), fun x => (E.loc x).map (gA id es.length (some k) q)⟩, .inl hrun, Fx.move (ob := .rw e esz (es ++ new)) hR hid (fun k hk => upd_ne _ _ hk) (fun k hk => rfl) (fun x ℓ hx h => ?_) hev (fun k p h => gA_out h) (fun k p r h => gA_nil h) hmv (fun kp => ?_) trivial ?_ (.sl _ _ (.inr rfl))⟩
  · simp only [Option.map_eq_some_iff] at h
    obtain ⟨ℓ0, h0, _⟩ := h
    have := hR.locLt x ℓ0 h0
    omega
  · refine live_cat (b := b) (cap := cap) (arr := (splice arr.toList (es.length * esz) news).toArray) (upd_same ..) (by simp only [h2, Option.map_some, gA_dst]) (setRow_at h3) (by rw [List.size_toArray, splice_length hfit, Array.length_toList, h4]) hroom h6 h7 h7' (fun i j e' c he hc => ?_) (fun i j e' c he hc => ?_)
    · have hi := (List.getElem?_eq_some_iff.1 he).1
      have hj : j < esz := by rw [← h7 e' (List.mem_of_getElem? he)]; exact (List.getElem?_eq_some_iff.1 hc).1
      have hlt : i * esz + j < es.length * esz := by
        calc i * esz + j < i * esz + esz := by omega
          _ = (i + 1) * esz := by rw [Nat.add_mul]; omega
          _ ≤ es.length * esz := Nat.mul_le_mul_right _ hi
      refine ⟨us i j, by rw [hget, if_neg (by omega)]; exact h8 i j hi hj, (h9 i j e' c he hc).relabel (id, [(i, j)]) kp.t0 (fun b' p hb' hp => ⟨hne b' (by rw [hp]; simp), ?_⟩)⟩
      simp only [hp, Option.map_some, gA_dst]
    · have hi := (List.getElem?_eq_some_iff.1 he).1
      have hj : j < esz := by rw [← h7' e' (List.mem_of_getElem? he)]; exact (List.getElem?_eq_some_iff.1 hc).1
      have hlt : i * esz + j < news.length := by
        rw [hln]
        calc i * esz + j < i * esz + esz := by omega
          _ = (i + 1) * esz := by rw [Nat.add_mul]; omega
          _ ≤ new.length * esz := Nat.mul_le_mul_right _ hi
      have hy := List.getElem?_eq_getElem hlt
      refine ⟨news[i * esz + j], ?_, hn i j e' c _ he hc hy _ _ (id, [(es.length + i, j)]) kp.t0 (fun k' hk' b' p hb' hp => ⟨hne b' (by rw [hp]; simp), ?_⟩)⟩
      · rw [hget, Nat.add_mul, if_pos (by omega), show es.length * esz + i * esz + j - es.length * esz = i * esz + j by omega, hy]
      · simp only [hp, Option.map_some]
        subst hk'
        rw [gA_src (fun h => hkq h.symm)]
        rfl
  · exact .sl id (es.length + new.length) e esz (es ++ new) b cap (updL_new hmi) (upd_same ..)

theorem opts_some (k : Nat) : opts (some k) = [(k, 0, 0)] := rfl

theorem good_append (hR : RelE nt I U s E a w) (hid : ¬ U id) (hH : ∀ o ob, H o = some ob → s.H o = some ob) {x y : Operand} {c : Call} (ho : o.op = .call c) (hc : c.callee = .builtin .append) (ha : c.args.toList = [x, y]) {t u : Nat} (ht : c.argTypes.toList = [t, u])
    {i j : TI} (hi : tiOf P t = some i) (hj : tiOf P u = some j) {e esz eb : Nat} (hel : i.elem = some (e, esz, eb)) {z : TI} (hz : tiOf P e = some z) (hpos : 0 < esz) (hzl : z.zero.length = esz) (hp : j.prim = none)
    (he : evAppend id H e esz eb (getA nt s.t x) (getA nt s.t y) = some (v, objs)) : Good P o a w E s.H U id v objs := by
  obtain ⟨hu, ie, hie, rfl, rfl⟩ := elem_spec hi hel
  obtain ⟨info, d, g1, g2, -, -, -, -, g3, -⟩ := tiOf_spec hz
  rw [hie] at g1
  cases g1
  obtain ⟨zv, hzv, hzs⟩ : ∃ zv, ie.zero = some zv ∧ zv.cells.size = ie.size := by
    cases hzz : ie.zero with
    | none => rw [hzz] at g3; rw [g3] at hzl; simp at hzl; omega
    | some zv => rw [hzz] at g3; simp only at g3; exact ⟨zv, rfl, by rw [g3] at hzl; simpa using hzl⟩
  obtain ⟨du, hdu, hdi⟩ : ∃ du, P.underlying u = some du ∧ ∀ k, du ≠ .int k := by
    obtain ⟨info', d', q1, q2, -, -, -, -, -, q3, -⟩ := tiOf_spec hj
    refine ⟨d', q2, fun k hk => ?_⟩
    subst hk
    rw [hp] at q3
    cases q3
  have ha' : c.args = #[x, y] := by rw [← ha]
  have ht' : c.argTypes = #[t, u] := by rw [← ht]
  have hrun : ∀ {ux r w'}, a.eval x = ux → (Builtin.append_ #[t, u] o.type #[ux, a.eval y]).run P w = .ok r w' → (execOp a.eval o).run P w = .ok (.value r) w' := fun hx hr => by
    simp [execOp, ho, resolve, hc, invoke, builtin, ha', ht', hx, hr]
  have hx := hR.get x
  generalize hgx : getA nt s.t x = gx at *
  unfold evAppend at he
  split at he
  · rename_i new q hsrc
    split at he
    · rename_i hlen
      obtain ⟨⟨news, n1, n2, n3, n4⟩, n5⟩ := evSrc_ok (P := P) hR hH hpos hsrc hlen (hR.get y)
      have hq : ∀ k ∈ opts q, ∃ x, s.H k.1 = some x := fun k hk => by
        cases q with
        | none => simp [opts] at hk
        | some q =>
          rw [opts_some] at hk
          simp at hk
          subst hk
          obtain ⟨ty, sz, es, h⟩ := n5 q rfl
          exact ⟨_, hH _ _ h⟩
      have hgone : ∀ (od : Option Nat), gone (opts od ++ opts q) = gone (opts od) ++ goneO q := fun od => by
        unfold gone
        rw [List.map_append]
        cases q <;> rfl
      -- a row without a block: nil, or one that is empty
      have nilcase : ∀ (od : Option Nat), (∀ k ∈ opts od, ∃ x, s.H k.1 = some x) → a.eval x = .slice none 0 0 → new.length ≤ maxLen → new.length * ie.bytes ≤ 140737488355328 → (∀ k, od = some k → q ≠ some k) →
          Good P o a w E s.H U id (.sl id new.length) ((id, some (.rw e ie.size new)) :: gone (opts od ++ opts q)) := fun od hod hxv hm hb hoq => by
        have hr := run_append_genN (ty := o.type) hu hdu hdi hie hzv n1 n2 (by simpa [maxLen] using hm) (by omega)
        have hmv : ∀ k ∈ opts od ++ opts q, ∃ x, s.H k.1 = some x := fun k hk => (List.mem_append.1 hk).elim (hod k) (hq k)
        by_cases h0 : new.length = 0
        · have hn0 : new = [] := List.eq_nil_of_length_eq_zero h0
          subst hn0
          rw [if_pos List.length_nil] at hr
          exact append_null hR hid hmv (hrun hxv hr)
        · rw [if_neg h0] at hr
          have := append_grown (es := []) (n := 0) (m := new.length) (olds := []) (need := 0) (old := 0) (new := new) hR hid hzs (od := od) (q := q) rfl rfl (by simp) n2 (by omega) (fun c hc => by simp at hc) hlen hmv (by have := grownCap_ge w new.length 0 e; omega)
            (grownCap_le_maxLen w new.length 0 e hm) (by simpa using hrun hxv hr) (fun i j e c he => by simp at he) n4 hoq
          simpa using this
      split at he
      · rename_i hgx'
        rw [Option.ite_none_right_eq_some] at he
        obtain ⟨hcond, he⟩ := he
        cases he
        have hxv : a.eval x = .slice none 0 0 := by generalize a.eval x = ux at *; cases hx; rfl
        have := nilcase none (fun k hk => by simp [opts] at hk) hxv hcond.1 hcond.2 (fun k hk => by cases hk)
        rw [hgone] at this
        exact this
      · rename_i k n
        cases hk : H k with
        | none => rw [hk] at he; cases he
        | some ob =>
        rw [hk] at he
        cases ob with
        | box => cases he
        | rw ty sz es =>
          simp only [Option.ite_none_right_eq_some] at he
          obtain ⟨hcond, he⟩ := he
          · obtain ⟨hn, rfl, rfl, hqk, hmax, hby⟩ := hcond
            cases he
            have hk' := hH _ _ hk
            have hod : ∀ m ∈ opts (some k), ∃ x, s.H m.1 = some x := fun m hm => by
              rw [opts_some] at hm
              simp at hm
              subst hm
              exact ⟨_, hk'⟩
            have hmv : ∀ m ∈ opts (some k) ++ opts q, ∃ x, s.H m.1 = some x := fun m hm => (List.mem_append.1 hm).elim (hod m) (hq m)
            have hoq : ∀ m, some k = some m → q ≠ some m := fun m hm => by cases hm; exact hqk
            have hfin : ∀ {nn}, Good P o a w E s.H U id (.sl id nn) ((id, some (.rw ty ie.size (es ++ new))) :: gone (opts (some k) ++ opts q)) → nn = es.length + new.length →
                Good P o a w E s.H U id (.sl id (es.length + new.length)) ((id, some (.rw ty ie.size (es ++ new))) :: (k, none) :: goneO q) := fun h e => by
              rw [hgone] at h
              subst e
              exact h
            generalize hux : a.eval x = ux at *
            cases hx with
            | slX _ _ _ h => rw [hk'] at h; cases h
            | sl _ _ ty' sz' es' b cap h hr =>
              rw [hk'] at h
              cases h
              subst hn
              rcases hR.live k _ hk' with ⟨h1, _⟩ | ⟨b', cap', arr, us, h1, h2, h3, h4, h5, h6, h7, h8, h9⟩
              · rw [h1] at hr; cases hr
              · rw [h1] at hr
                cases hr
                by_cases hroom : es.length + new.length ≤ cap
                · have hfit : es.length * ie.size + news.length ≤ arr.size := by
                    rw [n2, h4, ← Nat.add_mul]
                    exact Nat.mul_le_mul_right _ hroom
                  have hr := run_append_genR (ty := o.type) hu hdu hdi hie n1 n2 n3 h3 hroom hfit
                  exact hfin (append_room (es := es) (new := new) hR hid hk' hqk h2 h3 h4 hroom h6 h7 hlen h8 h9 n2 hmv (hrun rfl hr) n4) rfl
                · have hlo : (arr.toList.take (es.length * ie.size)).length = es.length * ie.size := by
                    have q0 : arr.toList.length = arr.size := Array.length_toList
                    have q1 : es.length * ie.size ≤ cap * ie.size := Nat.mul_le_mul_right _ h5
                    rw [List.length_take, q0]
                    omega
                  have hr := run_append_genG (ty := o.type) hu hdu hdi hie hzv n1 (b := ⟨b, 0, none⟩) (n := es.length) (cap := cap) (olds := arr.toList.take (es.length * ie.size)) hlo (fun j v hj => by
                    rw [List.getElem?_take] at hj
                    split at hj
                    · rw [Addr.add_lit, cell_at h3, Nat.zero_add]
                      simpa using hj
                    · cases hj) (by omega) (by simpa [maxLen] using hmax) (growslice_fits (by omega) hby)
                  refine hfin (append_grown (es := es) (n := es.length) (m := new.length) (need := 0) (old := 0) (new := new) hR hid hzs (od := some k) (q := q) rfl rfl hlo n2 (by simpa [maxLen] using hmax) h7 hlen hmv (grownCap_ge w _ cap ty) (grownCap_le_maxLen w _ cap ty hmax) (hrun rfl hr) (fun i j e c he hc => ?_) n4 hoq) rfl
                  have hi := (List.getElem?_eq_some_iff.1 he).1
                  have hj : j < ie.size := by rw [← h7 e (List.mem_of_getElem? he)]; exact (List.getElem?_eq_some_iff.1 hc).1
                  have hlt : i * ie.size + j < es.length * ie.size := by
                    calc i * ie.size + j < i * ie.size + ie.size := by omega
                      _ = (i + 1) * ie.size := by rw [Nat.add_mul]; omega
                      _ ≤ es.length * ie.size := Nat.mul_le_mul_right _ hi
                  refine ⟨us i j, ?_, k, rfl, h9 i j e c he hc⟩
                  rw [List.getElem?_take, if_pos hlt, Array.getElem?_toList]
                  exact h8 i j hi hj
            | slN _ ty' sz' h hr =>
              rw [hk'] at h
              cases h
              have := nilcase (some k) hod rfl (by simpa using hmax) (by simpa using hby) hoq
              exact hfin (nn := new.length) (by simpa using this) (by simp)
      · cases he
    · cases he
  · cases he
end

end Go.Proofs.Ytnnmpdanfeejbaa.Abs
