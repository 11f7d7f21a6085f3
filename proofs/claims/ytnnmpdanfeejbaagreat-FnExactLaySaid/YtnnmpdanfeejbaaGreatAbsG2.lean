import Derived.Test.YtnnmpdanfeejbaaGreatAbsG1
import Derived.MapKept
import Derived.Deep.LoopGhost
import Derived.Tactics
/- The abstract machine's operations hold of the model: append, told. -/
namespace Go.Proofs.YtnnmpdanfeejbaaGreat.Abs
open Go Go.RowKit
set_option linter.unusedVariables false
set_option linter.unusedSimpArgs false

def gA (id n : Nat) (o q : Option Nat) (ℓ : Loc) : Loc :=
  if o = some ℓ.1 then (id, ℓ.2) else if q = some ℓ.1 then (match ℓ.2 with | [] => ℓ | x :: r => (id, (n + x.1, x.2) :: r)) else ℓ
def opts (o : Option Nat) : List (Nat × Nat × Nat) := match o with
  | some k => [(k, 0, 0)]
  | none => []

theorem gA_out {id n : Nat} {o q : Option Nat} {k : Nat} {p : List (Nat × Nat)} (h : ∀ m ∈ opts o ++ opts q, m.1 ≠ k) : gA id n o q (k, p) = (k, p) := by
  have h1 : o ≠ some k := by rintro rfl; exact h (k, 0, 0) (List.mem_append_left _ (List.mem_cons_self ..)) rfl
  have h2 : q ≠ some k := by rintro rfl; exact h (k, 0, 0) (List.mem_append_right _ (List.mem_cons_self ..)) rfl
  unfold gA
  rw [if_neg h1, if_neg h2]
theorem gA_nil {id n : Nat} {o q : Option Nat} {k r : Nat} {p : List (Nat × Nat)} (h : gA id n o q (k, p) = (r, [])) : p = [] := by
  unfold gA at h
  split at h
  · simpa using congrArg Prod.snd h
  · split at h
    · cases p with
      | nil => rfl
      | cons x r => simp at h
    · simpa using congrArg Prod.snd h
theorem gA_dst {id n k : Nat} {q : Option Nat} (p : List (Nat × Nat)) : gA id n (some k) q (k, p) = (id, p) := if_pos rfl
theorem gA_src {id n k : Nat} {o : Option Nat} (ho : o ≠ some k) (x : Nat × Nat) (r : List (Nat × Nat)) : gA id n o (some k) (k, x :: r) = (id, (n + x.1, x.2) :: r) := by
  unfold gA
  rw [if_neg ho, if_pos rfl]

section
variable {P : Program} {nt : Nat} {I : Ini} {U : Nat → Prop} {s : ASt} {E : Env} {a : Act} {w : World} {o : Oper} {id : Nat} {v : AV} {objs : List (Nat × Option Ob)} {H : Hp}

theorem live_cat {w' : World} {E' : Env} {H' : Hp} {b cap e esz e3 : Nat} {arr : Array Value} {es new : List (List CV)} (h1 : E'.rho id = some (b, cap)) (h2 : E'.loc b = some (id, [])) (h3 : w'.heap[b]? = some (.cells arr e3 (0, 0))) (h4 : arr.size = cap * esz)
    (h5 : es.length + new.length ≤ cap) (h6 : cap ≤ maxLen ∧ (es ++ new = [] → cap = 0)) (h7 : ∀ c ∈ es, c.length = esz) (h7' : ∀ c ∈ new, c.length = esz)
    (ho : ∀ (i j : Nat) e c, es[i]? = some e → e[j]? = some c → ∃ y, arr[i * esz + j]? = some y ∧ RdC w' E'.loc (id, [(i, j)]) c y)
    (hn : ∀ (i j : Nat) e c, new[i]? = some e → e[j]? = some c → ∃ y, arr[(es.length + i) * esz + j]? = some y ∧ RdC w' E'.loc (id, [(es.length + i, j)]) c y) : LiveOb w' E' H' id (.rw e esz (es ++ new)) := by
  refine .inr ⟨b, cap, arr, fun i j => arr.getD (i * esz + j) undef, h1, h2, ⟨_, h3⟩, h4, by simpa using h5, h6, fun c hc => ?_, fun i j hi hj => ?_, fun i j e c he hc => ?_⟩
  · rcases List.mem_append.1 hc with h | h
    · exact h7 c h
    · exact h7' c h
  · have : i * esz + j < arr.size := by
      rw [h4]
      calc i * esz + j < i * esz + esz := by omega
        _ = (i + 1) * esz := by rw [Nat.add_mul]; omega
        _ ≤ cap * esz := Nat.mul_le_mul_right _ (by simp at hi; omega)
    rw [Array.getElem?_eq_getElem this]
    simp [Array.getD, this]
  · have key : ∀ y, arr[i * esz + j]? = some y → arr.getD (i * esz + j) undef = y := fun y hy => by
      obtain ⟨h, rfl⟩ := Array.getElem?_eq_some_iff.1 hy
      simp [Array.getD, h]
    rw [List.getElem?_append] at he
    split at he
    · obtain ⟨y, hy, hr⟩ := ho i j e c he hc
      simp only [key y hy]
      exact hr
    · rename_i hi
      obtain ⟨y, hy, hr⟩ := hn (i - es.length) j e c he hc
      rw [show es.length + (i - es.length) = i by omega] at hy hr
      simp only [key y hy]
      exact hr

/-- The new block of an append. -/
theorem append_grown (hR : RelE nt I U s E a w) (hid : ¬ U id) {n m need old e esz : Nat} {z : Value} (hzs : z.cells.size = esz) {od q : Option Nat} {es new : List (List CV)} {olds news : List Value} (hes : es.length = n) (hnm : new.length = m)
    (hlo : olds.length = n * esz) (hln : news.length = m * esz) (hmax : n + m ≤ maxLen) (h7 : ∀ c ∈ es, c.length = esz) (h7' : ∀ c ∈ new, c.length = esz) (hmv : ∀ k ∈ opts od ++ opts q, ∃ x, s.H k.1 = some x)
    {cap : Nat} (hcap : n + m ≤ cap) (hcapm : cap ≤ maxLen) (hpos : 0 < n + m)
    (hrun : (execOp a.eval o).run P w = .ok (.value (.slice (some ⟨w.heap.size, 0, none⟩) (n + m) cap)) (w.drew.alloc (.cells (olds.toArray ++ news.toArray ++ Builtin.zeroCells z.cells (cap - (n + m))) e)))
    (ho : ∀ (i j : Nat) e c, es[i]? = some e → e[j]? = some c → ∃ y, olds[i * esz + j]? = some y ∧ ∃ k, od = some k ∧ RdC w E.loc (k, [(i, j)]) c y)
    (hn : ∀ (i j : Nat) e c y, new[i]? = some e → e[j]? = some c → news[i * esz + j]? = some y → ∀ (w' : World) (loc' : Nat → Option Loc) (ℓ : Loc),
      (∀ b, b < w.heap.size → E.loc b = none → w'.heap[b]? = w.heap[b]? ∧ loc' b = none) →
      (∀ k, q = some k → ∀ b p, b < w.heap.size → E.loc b = some (k, (i, j) :: p) → w'.heap[b]? = w.heap[b]? ∧ loc' b = some (ℓ.1, ℓ.2 ++ p)) → RdC w' loc' ℓ c y) (hoq : ∀ k, od = some k → q ≠ some k) :
    Good P o a w E s.H U id (.sl id (n + m)) ((id, some (.rw e esz (es ++ new))) :: gone (opts od ++ opts q)) := by
  subst hes hnm
  have hold : ∀ k, k < w.heap.size → (w.drew.alloc (.cells (olds.toArray ++ news.toArray ++ Builtin.zeroCells z.cells (cap - (es.length + new.length))) e)).heap[k]? = w.heap[k]? := fun k hk => heap_alloc_old w.drew _ k hk
  have hnew : (w.drew.alloc (.cells (olds.toArray ++ news.toArray ++ Builtin.zeroCells z.cells (cap - (es.length + new.length))) e)).heap[w.heap.size]? = some (.cells (olds.toArray ++ news.toArray ++ Builtin.zeroCells z.cells (cap - (es.length + new.length))) e) := heap_alloc_new w.drew _
  generalize harr : (olds.toArray ++ news.toArray ++ Builtin.zeroCells z.cells (cap - (es.length + new.length))) = arr at *
  have hsz : arr.size = cap * esz := by
    rw [← harr]
    simp only [Array.size_append, List.size_toArray, size_zeroCells, hzs, hlo, hln, ← Nat.add_mul]
    congr 1
    omega
  have hat : ∀ k, k < olds.length → arr[k]? = olds[k]? := fun k hk => by
    rw [← harr, Array.getElem?_append_left (by simp; omega), Array.getElem?_append_left (by simpa using hk), List.getElem?_toArray]
  have hat2 : ∀ k, k < news.length → arr[olds.length + k]? = news[k]? := fun k hk => by
    rw [← harr, Array.getElem?_append_left (by simp; omega), Array.getElem?_append_right (by simp), List.getElem?_toArray]
    simp
  have hmi : ∀ m ∈ opts od ++ opts q, m.1 ≠ id := fun m hm e => by
    obtain ⟨x, hx⟩ := hmv m hm
    exact hid (e ▸ (hR.mnH _ _ hx).1)
  have hev : Evo (fun k => ∃ m ∈ opts od ++ opts q, E.loc k = some (m.1, [])) w (w.drew.alloc (.cells arr e)) := ⟨rfl, rfl, rfl, by simp, fun k hk _ => hold k hk⟩
  refine ⟨_, _, E.fresh w id cap (gA id es.length od q), .inl hrun, Fx.move (ob := .rw e esz (es ++ new)) hR hid (fun k hk => upd_ne _ _ hk) (fun k hk => if_neg (by omega)) (fun k ℓ hk h => ?_) hev (fun k p h => gA_out h) (fun k p r h => gA_nil h) hmv (fun kp => ?_) trivial ?_ (.sl _ _ (.inr rfl))⟩
  · by_cases hks : k = w.heap.size
    · subst hks; simp
    · have : (E.fresh w id cap (gA id es.length od q)).loc k = (E.loc k).map (gA id es.length od q) := if_neg hks
      rw [this, Option.map_eq_some_iff] at h
      obtain ⟨ℓ0, h0, _⟩ := h
      have := hR.locLt k ℓ0 h0
      omega
  · refine live_cat (b := w.heap.size) (cap := cap) (arr := arr) (upd_same ..) (if_pos rfl) hnew hsz hcap ⟨hcapm, fun e0 => by have := congrArg List.length e0; rw [List.length_append, List.length_nil] at this; omega⟩ h7 h7' (fun i j e' c he hc => ?_) (fun i j e' c he hc => ?_)
    · obtain ⟨y, hy, k, hk, hrd⟩ := ho i j e' c he hc
      refine ⟨y, by rw [hat _ (List.getElem?_eq_some_iff.1 hy).1]; exact hy, hrd.relabel (id, [(i, j)]) kp.t0 (fun b p hb hp => ⟨hold b hb, ?_⟩)⟩
      have : (E.fresh w id cap (gA id es.length od q)).loc b = (E.loc b).map (gA id es.length od q) := if_neg (by omega)
      rw [this, hp, Option.map_some, hk, gA_dst]
    · have hi := (List.getElem?_eq_some_iff.1 he).1
      have hj : j < esz := by rw [← h7' e' (List.mem_of_getElem? he)]; exact (List.getElem?_eq_some_iff.1 hc).1
      have hlt : i * esz + j < news.length := by
        rw [hln]
        calc i * esz + j < i * esz + esz := by omega
          _ = (i + 1) * esz := by rw [Nat.add_mul]; omega
          _ ≤ new.length * esz := Nat.mul_le_mul_right _ hi
      have hy := List.getElem?_eq_getElem hlt
      refine ⟨news[i * esz + j], ?_, hn i j e' c _ he hc hy _ _ (id, [(es.length + i, j)]) kp.t0 (fun k hk b p hb hp => ⟨hold b hb, ?_⟩)⟩
      · rw [show (es.length + i) * esz + j = olds.length + (i * esz + j) by rw [hlo, Nat.add_mul]; omega, hat2 _ hlt, hy]
      · have : (E.fresh w id cap (gA id es.length od q)).loc b = (E.loc b).map (gA id es.length od q) := if_neg (by omega)
        rw [this, hp, Option.map_some]
        subst hk
        rw [gA_src (fun h => hoq _ h rfl)]
        rfl
  · have := RdV.sl (w := w.drew.alloc (.cells arr e)) (E := E.fresh w id cap (gA id es.length od q)) (H := updL s.H ((id, some (.rw e esz (es ++ new))) :: gone (opts od ++ opts q))) id (es.length + new.length) e esz (es ++ new) w.heap.size cap (updL_new hmi) (upd_same ..)
    exact this

/-- An append that brings nothing to a row that has no block. -/
theorem append_null (hR : RelE nt I U s E a w) (hid : ¬ U id) {e esz : Nat} {od q : Option Nat} (hmv : ∀ k ∈ opts od ++ opts q, ∃ x, s.H k.1 = some x) (hrun : (execOp a.eval o).run P w = .ok (.value (.slice none 0 0)) w) :
    Good P o a w E s.H U id (.sl id 0) ((id, some (.rw e esz [])) :: gone (opts od ++ opts q)) := by
  have hmi : ∀ m ∈ opts od ++ opts q, m.1 ≠ id := fun m hm e => by
    obtain ⟨x, hx⟩ := hmv m hm
    exact hid (e ▸ (hR.mnH _ _ hx).1)
  refine ⟨_, _, ⟨upd E.rho id none, fun k => (E.loc k).map (gA id 0 od q)⟩, .inl hrun, Fx.move (ob := .rw e esz []) hR hid (fun k hk => upd_ne _ _ hk) (fun k hk => rfl) (fun k ℓ hk h => ?_) (Evo.refl _ _) (fun k p h => gA_out h) (fun k p r h => gA_nil h) hmv (fun kp => .inl ⟨upd_same .., rfl⟩) trivial ?_ (.sl _ _ (.inr rfl))⟩
  · simp only [Option.map_eq_some_iff] at h
    obtain ⟨ℓ0, h0, _⟩ := h
    have := hR.locLt k ℓ0 h0
    omega
  · exact .slN id e esz (updL_new hmi) (upd_same ..)

/-- An append within the room that is there. -/
theorem append_room (hR : RelE nt I U s E a w) (hid : ¬ U id) {k b cap e esz ty0 e3 : Nat} {q : Option Nat} {es new : List (List CV)} {arr : Array Value} {us : Nat → Nat → Value} {news : List Value} (hk : s.H k = some (.rw ty0 esz es)) (hkq : q ≠ some k)
    (h2 : E.loc b = some (k, [])) (h3 : w.heap[b]? = some (.cells arr e3 (0, 0))) (h4 : arr.size = cap * esz) (hroom : es.length + new.length ≤ cap) (h6 : cap ≤ maxLen ∧ (es = [] → cap = 0)) (h7 : ∀ c ∈ es, c.length = esz) (h7' : ∀ c ∈ new, c.length = esz)
    (h8 : ∀ i j, i < es.length → j < esz → arr[i * esz + j]? = some (us i j)) (h9 : ∀ (i j : Nat) e c, es[i]? = some e → e[j]? = some c → RdC w E.loc (k, [(i, j)]) c (us i j)) (hln : news.length = new.length * esz)
    (hmv : ∀ x ∈ opts (some k) ++ opts q, ∃ y, s.H x.1 = some y)
    (hrun : (execOp a.eval o).run P w = .ok (.value (.slice (some ⟨b, 0, none⟩) (es.length + new.length) cap)) (w.setRow b (arr.toList.take (es.length * esz) ++ news ++ arr.toList.drop (es.length * esz + news.length)).toArray))
    (hn : ∀ (i j : Nat) e c y, new[i]? = some e → e[j]? = some c → news[i * esz + j]? = some y → ∀ (w' : World) (loc' : Nat → Option Loc) (ℓ : Loc),
      (∀ b, b < w.heap.size → E.loc b = none → w'.heap[b]? = w.heap[b]? ∧ loc' b = none) →
      (∀ k, q = some k → ∀ b p, b < w.heap.size → E.loc b = some (k, (i, j) :: p) → w'.heap[b]? = w.heap[b]? ∧ loc' b = some (ℓ.1, ℓ.2 ++ p)) → RdC w' loc' ℓ c y) :
    Good P o a w E s.H U id (.sl id (es.length + new.length)) ((id, some (.rw e esz (es ++ new))) :: gone (opts (some k) ++ opts q)) := by
  have hmi : ∀ m ∈ opts (some k) ++ opts q, m.1 ≠ id := fun m hm e => by
    obtain ⟨x, hx⟩ := hmv m hm
    exact hid (e ▸ (hR.mnH _ _ hx).1)
  have hfit : es.length * esz + news.length ≤ arr.toList.length := by
    have h0 : (es.length + new.length) * esz ≤ cap * esz := Nat.mul_le_mul_right _ hroom
    have h1 : arr.toList.length = arr.size := Array.length_toList
    rw [Nat.add_mul] at h0
    omega
  have hsp : (arr.toList.take (es.length * esz) ++ news ++ arr.toList.drop (es.length * esz + news.length)) = splice arr.toList (es.length * esz) news := rfl
  rw [hsp] at hrun
  have hget : ∀ j, (splice arr.toList (es.length * esz) news).toArray[j]? = if es.length * esz ≤ j ∧ j < es.length * esz + news.length then news[j - es.length * esz]? else arr[j]? := fun j => by
    rw [List.getElem?_toArray, splice_get hfit, ← Array.getElem?_toList]
  have hne : ∀ x, E.loc x ≠ some (k, []) → (w.setRow b (splice arr.toList (es.length * esz) news).toArray).heap[x]? = w.heap[x]? := fun x hx => heap_setRow_ne w b _ x (fun e => hx (e ▸ h2))
  have hev : Evo (fun x => ∃ m ∈ opts (some k) ++ opts q, E.loc x = some (m.1, [])) w (w.setRow b (splice arr.toList (es.length * esz) news).toArray) :=
    ⟨rfl, rfl, rfl, by simp [World.setRow], fun x hx hnn => hne x (fun e => hnn ⟨(k, 0, 0), List.mem_append_left _ (List.mem_cons_self ..), e⟩)⟩
  refine ⟨_, _, ⟨upd E.rho id (some (b, cap)), fun x => (E.loc x).map (gA id es.length (some k) q)⟩, .inl hrun, Fx.move (ob := .rw e esz (es ++ new)) hR hid (fun k hk => upd_ne _ _ hk) (fun k hk => rfl) (fun x ℓ hx h => ?_) hev (fun k p h => gA_out h) (fun k p r h => gA_nil h) hmv (fun kp => ?_) trivial ?_ (.sl _ _ (.inr rfl))⟩
  · simp only [Option.map_eq_some_iff] at h
    obtain ⟨ℓ0, h0, _⟩ := h
    have := hR.locLt x ℓ0 h0
    omega
  · refine live_cat (b := b) (cap := cap) (arr := (splice arr.toList (es.length * esz) news).toArray) (upd_same ..) (by simp only [h2, Option.map_some, gA_dst]) (setRow_at h3) (by rw [List.size_toArray, splice_length hfit, Array.length_toList, h4]) hroom ⟨h6.1, fun e0 => h6.2 (List.append_eq_nil_iff.1 e0).1⟩ h7 h7' (fun i j e' c he hc => ?_) (fun i j e' c he hc => ?_)
    · have hi := (List.getElem?_eq_some_iff.1 he).1
      have hj : j < esz := by rw [← h7 e' (List.mem_of_getElem? he)]; exact (List.getElem?_eq_some_iff.1 hc).1
      have hlt : i * esz + j < es.length * esz := by
        calc i * esz + j < i * esz + esz := by omega
          _ = (i + 1) * esz := by rw [Nat.add_mul]; omega
          _ ≤ es.length * esz := Nat.mul_le_mul_right _ hi
      refine ⟨us i j, by rw [hget, if_neg (by omega)]; exact h8 i j hi hj, (h9 i j e' c he hc).relabel (id, [(i, j)]) kp.t0 (fun b' p hb' hp => ⟨hne b' (by rw [hp]; simp), ?_⟩)⟩
      simp only [hp, Option.map_some, gA_dst]
    · have hi := (List.getElem?_eq_some_iff.1 he).1
      have hj : j < esz := by rw [← h7' e' (List.mem_of_getElem? he)]; exact (List.getElem?_eq_some_iff.1 hc).1
      have hlt : i * esz + j < news.length := by
        rw [hln]
        calc i * esz + j < i * esz + esz := by omega
          _ = (i + 1) * esz := by rw [Nat.add_mul]; omega
          _ ≤ new.length * esz := Nat.mul_le_mul_right _ hi
      have hy := List.getElem?_eq_getElem hlt
      refine ⟨news[i * esz + j], ?_, hn i j e' c _ he hc hy _ _ (id, [(es.length + i, j)]) kp.t0 (fun k' hk' b' p hb' hp => ⟨hne b' (by rw [hp]; simp), ?_⟩)⟩
      · rw [hget, Nat.add_mul, if_pos (by omega), show es.length * esz + i * esz + j - es.length * esz = i * esz + j by omega, hy]
      · simp only [hp, Option.map_some]
        subst hk'
        rw [gA_src (fun h => hkq h.symm)]
        rfl
  · exact .sl id (es.length + new.length) e esz (es ++ new) b cap (updL_new hmi) (upd_same ..)

theorem opts_some (k : Nat) : opts (some k) = [(k, 0, 0)] := rfl

/-- The labels once an object is read only. -/
def Env.frz (E : Env) (o : Nat) : Env := ⟨E.rho, fun b => (E.loc b).bind fun ℓ => if ℓ.1 = o then none else some ℓ⟩
theorem frz_t0 {E : Env} {o b : Nat} (h : E.loc b = none) : (E.frz o).loc b = none := by simp [Env.frz, h]
theorem frz_own {E : Env} {o b : Nat} {p : List (Nat × Nat)} (h : E.loc b = some (o, p)) : (E.frz o).loc b = none := by simp [Env.frz, h]
theorem frz_other {E : Env} {o b k : Nat} {p : List (Nat × Nat)} (h : E.loc b = some (k, p)) (hk : k ≠ o) : (E.frz o).loc b = some (k, p) := by simp [Env.frz, h, hk]
theorem frz_some {E : Env} {o b : Nat} {ℓ : Loc} (h : (E.frz o).loc b = some ℓ) : E.loc b = some ℓ ∧ ℓ.1 ≠ o := by
  simp only [Env.frz, Option.bind_eq_some_iff] at h
  obtain ⟨ℓ', h1, h2⟩ := h
  split at h2
  · cases h2
  · cases h2; exact ⟨h1, by assumption⟩
theorem Fx.freeze (hR : RelE nt I U s E a w) {k : Nat} {ob : Ob} (hk : s.H k = some ob) {w' : World} {u : Value} (hev : Evo (fun x => E.loc x = some (k, [])) w w')
    (hv : RdV w' (E.frz k) (updL s.H [(k, none)]) v u) (hm : Mn (fun o => U o ∨ o = id) v) : Fx w E s.H U id v [(k, none)] u w' (E.frz k) := by
  have hH : updL s.H [(k, none)] k = none := upd_same _ _ _
  constructor
  · exact ⟨hev.os, hev.tape, hev.output, hev.size, fun i hi hn => hev.block i hi (fun h => hn (by rw [h]; simp))⟩
  · exact fun b hb h0 => frz_t0 h0
  · exact fun b hb h1 => ⟨hev.old hb (h1 _), fun o' h => h1 o' (frz_some h).1⟩
  · intro q hq
    have hqk : q ≠ k := fun e => hq (k, none) (List.mem_cons_self ..) e.symm
    exact ⟨rfl, fun b p hb hp => ⟨hev.old hb (fun h => by rw [hp] at h; cases h; exact hqk rfl), frz_other hp hqk⟩⟩
  · intro x hx
    simp at hx
    subst hx
    exact .inr ⟨ob, hk, .inl hH⟩
  · intro x hx ob' hob
    simp at hx
    subst hx
    rw [hH] at hob
    cases hob
  · exact fun b ℓ hb => ⟨Nat.lt_of_lt_of_le (hR.locLt b ℓ (frz_some hb).1) hev.size, .inr (by rw [(frz_some hb).1]; simp)⟩
  · exact hv
  · exact hm
theorem idx_sv0 {i n esz j : Nat} (h : n ≤ i) : i * esz + j = n * esz + ((i - n) * esz + j) := by
  have : i = n + (i - n) := by omega
  rw [← Nat.add_assoc, ← Nat.add_mul, ← this]
theorem idx_sv {i n c0 esz j : Nat} (hc : c0 ≤ n) (h : n - c0 ≤ i) : c0 * esz + (i * esz + j) = n * esz + ((i - (n - c0)) * esz + j) := by
  have : c0 + i = n + (i - (n - c0)) := by omega
  rw [← Nat.add_assoc, ← Nat.add_mul, this, Nat.add_mul, Nat.add_assoc]
/-- An append to a row of plain cells from an element on: what comes is read only. -/
theorem append_sv (hR : RelE nt I U s E a w) {k c0 b cap e esz ty0 ty3 : Nat} {es new : List (List CV)} {arr : Array Value} {us : Nat → Nat → Value} {news : List Value} {ie : TypeInfo} {z : Value} (hzs : z.cells.size = esz) (hie : ie.size = esz)
    (hk : s.H k = some (.rw ty0 esz es)) (h2 : E.loc b = some (k, [])) (h3 : w.heap[b]? = some (.cells arr ty3 (0, 0))) (h4 : arr.size = cap * esz) (h5 : es.length ≤ cap) (h6 : cap ≤ maxLen) (h7 : ∀ c ∈ es, c.length = esz) (h7' : ∀ c ∈ new, c.length = esz)
    (h8 : ∀ i j, i < es.length → j < esz → arr[i * esz + j]? = some (us i j)) (h9 : ∀ (i j : Nat) e c, es[i]? = some e → e[j]? = some c → RdC w E.loc (k, [(i, j)]) c (us i j)) (hln : news.length = new.length * esz)
    (hve : allV es = true) (hvn : allV new = true) (hc0 : c0 < es.length) (hmax : es.length - c0 + new.length ≤ maxLen)
    (hn : ∀ (i j : Nat) e c y, new[i]? = some e → e[j]? = some c → news[i * esz + j]? = some y → ∀ (w' : World) (loc' : Nat → Option Loc) (ℓ : Loc),
      (∀ b, b < w.heap.size → E.loc b = none → w'.heap[b]? = w.heap[b]? ∧ loc' b = none) →
      (∀ k, (none : Option Nat) = some k → ∀ b p, b < w.heap.size → E.loc b = some (k, (i, j) :: p) → w'.heap[b]? = w.heap[b]? ∧ loc' b = some (ℓ.1, ℓ.2 ++ p)) → RdC w' loc' ℓ c y)
    (hrunR : es.length + new.length ≤ cap → (execOp a.eval o).run P w = .ok (.value (.slice (some ⟨b, c0 * esz, none⟩) (es.length - c0 + new.length) (cap - c0))) (w.setRow b (splice arr.toList (es.length * esz) news).toArray))
    (hrunG : cap < es.length + new.length → ∃ cap', es.length - c0 + new.length ≤ cap' ∧ (execOp a.eval o).run P w = .ok (.value (.slice (some ⟨w.heap.size, 0, none⟩) (es.length - c0 + new.length) cap'))
      (w.drew.alloc (.cells (((arr.toList.drop (c0 * esz)).take ((es.length - c0) * esz)).toArray ++ news.toArray ++ Builtin.zeroCells z.cells (cap' - (es.length - c0 + new.length))) e))) :
    Good P o a w E s.H U id (.c (.row false (es.drop c0 ++ new))) [(k, none)] := by
  have hlen : (es.drop c0 ++ new).length = es.length - c0 + new.length := by simp
  have hall : ∀ c ∈ es.drop c0 ++ new, c.length = esz := fun c hc => (List.mem_append.1 hc).elim (fun h => h7 c (List.mem_of_mem_drop h)) (h7' c)
  have hlt : ∀ {i j m : Nat}, i < m → j < esz → i * esz + j < m * esz := fun {i j m} hi hj => by
    calc i * esz + j < i * esz + esz := by omega
      _ = (i + 1) * esz := by rw [Nat.add_mul]; omega
      _ ≤ m * esz := Nat.mul_le_mul_right _ hi
  have q0 : arr.toList.length = arr.size := Array.length_toList
  -- what the cells are
  have hval : ∀ (i j : Nat) e c, (es.drop c0 ++ new)[i]? = some e → e[j]? = some c → ∃ x, c = .v x ∧ x.oneCell' = true ∧ (i < es.length - c0 ∧ us (c0 + i) j = x ∨ es.length - c0 ≤ i ∧ i - (es.length - c0) < new.length ∧ news[(i - (es.length - c0)) * esz + j]? = some x) := by
    intro i j e c he hc
    have hj : j < esz := by rw [← hall e (List.mem_of_getElem? he)]; exact (List.getElem?_eq_some_iff.1 hc).1
    rw [List.getElem?_append, List.length_drop] at he
    split at he
    · rename_i hi
      rw [List.getElem?_drop] at he
      have h1 := List.all_eq_true.1 (List.all_eq_true.1 hve e (List.mem_of_getElem? he)) c (List.mem_of_getElem? hc)
      cases c <;> simp [CV.isV] at h1
      rename_i x
      have hr := h9 (c0 + i) j e _ he hc
      exact ⟨x, rfl, by have := hr.one; rw [hr.plain] at this; exact this, .inl ⟨hi, hr.plain⟩⟩
    · rename_i hi
      have h1 := List.all_eq_true.1 (List.all_eq_true.1 hvn e (List.mem_of_getElem? he)) c (List.mem_of_getElem? hc)
      cases c <;> simp [CV.isV] at h1
      rename_i x
      have hi2 := (List.getElem?_eq_some_iff.1 he).1
      have hy := List.getElem?_eq_getElem (l := news) (i := (i - (es.length - c0)) * esz + j) (by rw [hln]; exact hlt hi2 hj)
      have hr := hn _ j e _ _ he hc hy w E.loc (0, []) (fun b _ h => ⟨rfl, h⟩) (fun k hk => by cases hk)
      rw [hr.plain] at hy
      exact ⟨x, rfl, by have := hr.one; rw [hr.plain] at this; exact this, .inr ⟨by omega, hi2, hy⟩⟩
  by_cases hroom : es.length + new.length ≤ cap
  · have hfit : es.length * esz + news.length ≤ arr.toList.length := by
      rw [q0, h4, hln, ← Nat.add_mul]
      exact Nat.mul_le_mul_right _ hroom
    have hget : ∀ j, (splice arr.toList (es.length * esz) news).toArray[j]? = if es.length * esz ≤ j ∧ j < es.length * esz + news.length then news[j - es.length * esz]? else arr[j]? := fun j => by
      rw [List.getElem?_toArray, splice_get hfit, ← Array.getElem?_toList]
    refine ⟨_, _, E.frz k, .inl (hrunR hroom), Fx.freeze hR hk ⟨rfl, rfl, rfl, by simp [World.setRow], fun x _ hx => heap_setRow_ne w b _ x (fun e0 => hx (e0 ▸ h2))⟩ (.c _ _ ?_) (.c _)⟩
    have key := RdR.row (w := w.setRow b (splice arr.toList (es.length * esz) news).toArray) (T := (E.frz k).T0) false b (c0 * esz) esz (cap - c0) (es.drop c0 ++ new) (splice arr.toList (es.length * esz) news).toArray ty3 (0, 0)
      (fun i j => (splice arr.toList (es.length * esz) news).toArray.getD (c0 * esz + (i * esz + j)) undef) (frz_own h2) (setRow_at h3) hall (by rw [hlen]; exact hmax) (by rw [hlen]; omega) (fun h => by cases h)
      (fun i j hi hj => by
        rw [hlen] at hi
        have : c0 * esz + (i * esz + j) < (splice arr.toList (es.length * esz) news).toArray.size := by
          rw [List.size_toArray, splice_length hfit, q0, h4]
          have := hlt (i := c0 + i) (j := j) (m := cap) (by omega) hj
          rw [Nat.add_mul] at this
          omega
        rw [Array.getElem?_eq_getElem this]
        simp only [Array.getD, this, dite_true]
        rfl)
      (fun i j e' c he hc => by
        obtain ⟨x, rfl, hx1, hx⟩ := hval i j e' c he hc
        have hj : j < esz := by rw [← hall e' (List.mem_of_getElem? he)]; exact (List.getElem?_eq_some_iff.1 hc).1
        have : (splice arr.toList (es.length * esz) news).toArray[c0 * esz + (i * esz + j)]? = some x := by
          rw [hget]
          rcases hx with ⟨hi, hx⟩ | ⟨hi, hi2, hx⟩
          · have h0 := hlt (i := c0 + i) (j := j) (m := es.length) (by omega) hj
            rw [Nat.add_mul] at h0
            rw [if_neg (by omega), ← Nat.add_assoc, ← Nat.add_mul, h8 (c0 + i) j (by omega) hj, hx]
          · have e1 := idx_sv (esz := esz) (j := j) (Nat.le_of_lt hc0) hi
            have h0 := hlt hi2 hj
            rw [e1, if_pos ⟨by omega, by rw [hln]; omega⟩, Nat.add_sub_cancel_left, hx]
        have h1 : (splice arr.toList (es.length * esz) news).toArray.getD (c0 * esz + (i * esz + j)) undef = x := by
          obtain ⟨h, rfl⟩ := Array.getElem?_eq_some_iff.1 this
          simp only [Array.getD, h, dite_true]
          rfl
        simp only [h1]
        exact .v x hx1)
    rwa [hlen] at key
  · obtain ⟨cap', hcap', hrun⟩ := hrunG (by omega)
    have hal : ((arr.toList.drop (c0 * esz)).take ((es.length - c0) * esz)).length = (es.length - c0) * esz := by
      have := Nat.mul_le_mul_right esz h5
      rw [List.length_take, List.length_drop, q0, h4, Nat.sub_mul]
      omega
    generalize hA : (((arr.toList.drop (c0 * esz)).take ((es.length - c0) * esz)).toArray ++ news.toArray ++ Builtin.zeroCells z.cells (cap' - (es.length - c0 + new.length))) = A at hrun
    have hat : ∀ j, j < (es.length - c0) * esz → A[j]? = arr[c0 * esz + j]? := fun j hj => by
      rw [← hA, Array.getElem?_append_left (by simp [hal] ; omega), Array.getElem?_append_left (by simp [hal]; omega), List.getElem?_toArray, List.getElem?_take, if_pos hj, List.getElem?_drop, Array.getElem?_toList]
    have hat2 : ∀ j, j < news.length → A[(es.length - c0) * esz + j]? = news[j]? := fun j hj => by
      rw [← hA, Array.getElem?_append_left (by simp [hal]; omega), Array.getElem?_append_right (by simp [hal]), List.getElem?_toArray]
      simp only [List.size_toArray, hal, Nat.add_sub_cancel_left]
    have hnone : (E.frz k).loc w.heap.size = none := by
      cases hh : (E.frz k).loc w.heap.size with
      | none => rfl
      | some ℓ => have := hR.locLt _ ℓ (frz_some hh).1; omega
    refine ⟨_, _, E.frz k, .inl hrun, Fx.freeze hR hk ⟨rfl, rfl, rfl, by simp, fun x hx _ => heap_alloc_old w.drew _ x hx⟩ (.c _ _ ?_) (.c _)⟩
    have key := RdR.row (w := w.drew.alloc (.cells A e)) (T := (E.frz k).T0) false w.heap.size 0 esz cap' (es.drop c0 ++ new) A e (0, 0)
      (fun i j => A.getD (0 + (i * esz + j)) undef) hnone (heap_alloc_new w.drew _) hall (by rw [hlen]; exact hmax) (by rw [hlen]; exact hcap') (fun h => by cases h)
      (fun i j hi hj => by
        rw [hlen] at hi
        have : 0 + (i * esz + j) < A.size := by
          rw [← hA]
          simp only [Array.size_append, List.size_toArray, hal, hln, ← Nat.add_mul]
          have := hlt hi hj
          omega
        rw [Array.getElem?_eq_getElem this]
        simp only [Array.getD, this, dite_true]
        rfl)
      (fun i j e' c he hc => by
        obtain ⟨x, rfl, hx1, hx⟩ := hval i j e' c he hc
        have hj : j < esz := by rw [← hall e' (List.mem_of_getElem? he)]; exact (List.getElem?_eq_some_iff.1 hc).1
        have : A[0 + (i * esz + j)]? = some x := by
          rw [Nat.zero_add]
          rcases hx with ⟨hi, hx⟩ | ⟨hi, hi2, hx⟩
          · rw [hat _ (hlt hi hj), ← Nat.add_assoc, ← Nat.add_mul, h8 (c0 + i) j (by omega) hj, hx]
          · have e1 := idx_sv0 (esz := esz) (j := j) hi
            rw [e1, hat2 _ (by rw [hln]; exact hlt hi2 hj), hx]
        have h1 : A.getD (0 + (i * esz + j)) undef = x := by
          obtain ⟨h, rfl⟩ := Array.getElem?_eq_some_iff.1 this
          simp only [Array.getD, h, dite_true]
          rfl
        simp only [h1]
        exact .v x hx1)
    rwa [hlen] at key
theorem good_append (hR : RelE nt I U s E a w) (hid : ¬ U id) (hH : ∀ o ob, H o = some ob → s.H o = some ob) {x y : Operand} {c : Call} (ho : o.op = .call c) (hc : c.callee = .builtin .append) (ha : c.args.toList = [x, y]) {t u : Nat} (ht : c.argTypes.toList = [t, u])
    {i j : TI} (hi : tiOf P t = some i) (hj : tiOf P u = some j) {e esz eb : Nat} (hel : i.elem = some (e, esz, eb)) {z : TI} (hz : tiOf P e = some z) (hpos : 0 < esz) (hzl : z.zero.length = esz)
    (he : evAppend id H e esz eb (getA nt s.t x) (srcP H j z (getA nt s.t y)) = some (v, objs)) : Good P o a w E s.H U id v objs := by
  obtain ⟨hu, ie, hie, rfl, rfl⟩ := elem_spec hi hel
  obtain ⟨info, d, g1, g2, -, -, -, -, g3, -⟩ := tiOf_spec hz
  rw [hie] at g1
  cases g1
  obtain ⟨zv, hzv, hzs⟩ : ∃ zv, ie.zero = some zv ∧ zv.cells.size = ie.size := by
    cases hzz : ie.zero with
    | none => rw [hzz] at g3; rw [g3] at hzl; simp at hzl; omega
    | some zv => rw [hzz] at g3; simp only at g3; exact ⟨zv, rfl, by rw [g3] at hzl; simpa using hzl⟩
  have ha' : c.args = #[x, y] := by rw [← ha]
  have ht' : c.argTypes = #[t, u] := by rw [← ht]
  have hrun : ∀ {ux r w'}, a.eval x = ux → (Builtin.append_ #[t, u] o.type #[ux, a.eval y]).run P w = .ok r w' → (execOp a.eval o).run P w = .ok (.value r) w' := fun hx hr => by
    simp [execOp, ho, resolve, hc, invoke, builtin, ha', ht', hx, hr]
  have hx := hR.get x
  generalize hgx : getA nt s.t x = gx at *
  unfold evAppend at he
  split at he
  · rename_i new q hsrc
    split at he
    · rename_i hlen
      have hsb : new.length * ie.bytes ≤ 140737488355328 := by
        split at he
        · rw [Option.ite_none_right_eq_some] at he; exact he.1.2
        · split at he
          · rw [Option.ite_none_right_eq_some] at he
            exact Nat.le_trans (Nat.mul_le_mul_right _ (Nat.le_add_left _ _)) he.1.2.2.2.2.2
          · cases he
        · rw [Option.ite_none_right_eq_some] at he; exact he.1.2.2
        · split at he
          · rw [Option.ite_none_right_eq_some] at he
            exact Nat.le_trans (Nat.mul_le_mul_right _ (Nat.le_add_left _ _)) he.1.2.2.2.2.2.2
          · cases he
        · cases he
      obtain ⟨⟨news, n1, n2, n3, n4⟩, n5⟩ := srcP_ok (P := P) hR hH hj hz hie hzv hpos hzs hsrc hlen hsb (hR.get y)
      have hq : ∀ k ∈ opts q, ∃ x, s.H k.1 = some x := fun k hk => by
        cases q with
        | none => simp [opts] at hk
        | some q =>
          rw [opts_some] at hk
          simp at hk
          subst hk
          obtain ⟨ty, sz, es, h⟩ := n5 q rfl
          exact ⟨_, hH _ _ h⟩
      have hgone : ∀ (od : Option Nat), gone (opts od ++ opts q) = gone (opts od) ++ goneO q := fun od => by
        unfold gone
        rw [List.map_append]
        cases q <;> rfl
      -- a row without a block: nil, or one that is empty
      have nilcase : ∀ (od : Option Nat), (∀ k ∈ opts od, ∃ x, s.H k.1 = some x) → a.eval x = .slice none 0 0 → new.length ≤ maxLen → new.length * ie.bytes ≤ 140737488355328 → (∀ k, od = some k → q ≠ some k) →
          Good P o a w E s.H U id (.sl id new.length) ((id, some (.rw e ie.size new)) :: gone (opts od ++ opts q)) := fun od hod hxv hm hb hoq => by
        have hr := srcU_N (ty := o.type) hu hie hzv n1 n2 (by simpa [maxLen] using hm) (by omega)
        have hmv : ∀ k ∈ opts od ++ opts q, ∃ x, s.H k.1 = some x := fun k hk => (List.mem_append.1 hk).elim (hod k) (hq k)
        by_cases h0 : new.length = 0
        · have hn0 : new = [] := List.eq_nil_of_length_eq_zero h0
          subst hn0
          rw [if_pos List.length_nil] at hr
          exact append_null hR hid hmv (hrun hxv hr)
        · rw [if_neg h0] at hr
          have := append_grown (es := []) (n := 0) (m := new.length) (olds := []) (need := 0) (old := 0) (new := new) hR hid hzs (od := od) (q := q) rfl rfl (by simp) n2 (by omega) (fun c hc => by simp at hc) hlen hmv (by have := grownCap_ge w new.length 0 e; omega)
            (grownCap_le_maxLen w new.length 0 e hm) (by omega) (by simpa using hrun hxv hr) (fun i j e c he => by simp at he) n4 hoq
          simpa using this
      split at he
      · rename_i hgx'
        rw [Option.ite_none_right_eq_some] at he
        obtain ⟨hcond, he⟩ := he
        cases he
        have hxv : a.eval x = .slice none 0 0 := by generalize a.eval x = ux at *; cases hx; rfl
        have := nilcase none (fun k hk => by simp [opts] at hk) hxv hcond.1 hcond.2 (fun k hk => by cases hk)
        rw [hgone] at this
        exact this
      · rename_i k n
        cases hk : H k with
        | none => rw [hk] at he; cases he
        | some ob =>
        rw [hk] at he
        cases ob with
        | box => cases he
        | rx => cases he
        | mp => cases he
        | rw ty sz es =>
          simp only [Option.ite_none_right_eq_some] at he
          obtain ⟨hcond, he⟩ := he
          · obtain ⟨hn, rfl, rfl, hqk, hmax, hby⟩ := hcond
            cases he
            have hk' := hH _ _ hk
            have hod : ∀ m ∈ opts (some k), ∃ x, s.H m.1 = some x := fun m hm => by
              rw [opts_some] at hm
              simp at hm
              subst hm
              exact ⟨_, hk'⟩
            have hmv : ∀ m ∈ opts (some k) ++ opts q, ∃ x, s.H m.1 = some x := fun m hm => (List.mem_append.1 hm).elim (hod m) (hq m)
            have hoq : ∀ m, some k = some m → q ≠ some m := fun m hm => by cases hm; exact hqk
            have hfin : ∀ {nn}, Good P o a w E s.H U id (.sl id nn) ((id, some (.rw ty ie.size (es ++ new))) :: gone (opts (some k) ++ opts q)) → nn = es.length + new.length →
                Good P o a w E s.H U id (.sl id (es.length + new.length)) ((id, some (.rw ty ie.size (es ++ new))) :: (k, none) :: goneO q) := fun h e => by
              rw [hgone] at h
              subst e
              exact h
            generalize hux : a.eval x = ux at *
            cases hx with
            | slX _ _ _ h => rw [hk'] at h; cases h
            | slO _ _ _ _ _ _ _ _ _ _ h => rw [hk'] at h; cases h
            | sl _ _ ty' sz' es' b cap h hr =>
              rw [hk'] at h
              cases h
              subst hn
              rcases hR.live k _ hk' with ⟨h1, _⟩ | ⟨b', cap', arr, us, h1, h2, ⟨ty3, h3⟩, h4, h5, h6, h7, h8, h9⟩
              · rw [h1] at hr; cases hr
              · rw [h1] at hr
                cases hr
                by_cases hroom : es.length + new.length ≤ cap
                · have hfit : es.length * ie.size + news.length ≤ arr.size := by
                    rw [n2, h4, ← Nat.add_mul]
                    exact Nat.mul_le_mul_right _ hroom
                  have hr := srcU_R (ty := o.type) hu hie hzv n1 n2 n3 h3 hroom hfit
                  exact hfin (append_room (es := es) (new := new) hR hid hk' hqk h2 h3 h4 hroom h6 h7 hlen h8 h9 n2 hmv (hrun rfl hr) n4) rfl
                · have hlo : (arr.toList.take (es.length * ie.size)).length = es.length * ie.size := by
                    have q0 : arr.toList.length = arr.size := Array.length_toList
                    have q1 : es.length * ie.size ≤ cap * ie.size := Nat.mul_le_mul_right _ h5
                    rw [List.length_take, q0]
                    omega
                  have hr := srcU_G (ty := o.type) hu hie hzv n1 (b := ⟨b, 0, none⟩) (n := es.length) (cap := cap) (olds := arr.toList.take (es.length * ie.size)) hlo (fun j v hj => by
                    rw [List.getElem?_take] at hj
                    split at hj
                    · rw [Addr.add_lit, cell_at h3, Nat.zero_add]
                      simpa using hj
                    · cases hj) (by omega) (by simpa [maxLen] using hmax) (growslice_fits (by omega) hby)
                  refine hfin (append_grown (es := es) (n := es.length) (m := new.length) (need := 0) (old := 0) (new := new) hR hid hzs (od := some k) (q := q) rfl rfl hlo n2 (by simpa [maxLen] using hmax) h7 hlen hmv (grownCap_ge w _ cap ty) (grownCap_le_maxLen w _ cap ty hmax) (by omega) (hrun rfl hr) (fun i j e c he hc => ?_) n4 hoq) rfl
                  have hi := (List.getElem?_eq_some_iff.1 he).1
                  have hj : j < ie.size := by rw [← h7 e (List.mem_of_getElem? he)]; exact (List.getElem?_eq_some_iff.1 hc).1
                  have hlt : i * ie.size + j < es.length * ie.size := by
                    calc i * ie.size + j < i * ie.size + ie.size := by omega
                      _ = (i + 1) * ie.size := by rw [Nat.add_mul]; omega
                      _ ≤ es.length * ie.size := Nat.mul_le_mul_right _ hi
                  refine ⟨us i j, ?_, k, rfl, h9 i j e c he hc⟩
                  rw [List.getElem?_take, if_pos hlt, Array.getElem?_toList]
                  exact h8 i j hi hj
            | slN _ ty' sz' h hr =>
              rw [hk'] at h
              cases h
              have := nilcase (some k) hod rfl (by simpa using hmax) (by simpa using hby) hoq
              exact hfin (nn := new.length) (by simpa using this) (by simp)
      · rename_i hgx'
        rw [Option.ite_none_right_eq_some] at he
        obtain ⟨⟨hne, hm, hb⟩, he⟩ := he
        cases he
        have hpos' : 0 < new.length := List.length_pos_iff.2 hne
        have hxv : ∃ ad, a.eval x = .slice ad 0 0 := by
          generalize a.eval x = ux at *
          cases hx with
          | c _ _ hx =>
            cases hx with
            | nil _ ad c h0 => rw [h0 rfl]; exact ⟨ad, rfl⟩
            | row _ b off sz cap _ arr ty fz us hT hb hs hm hc h0 => rw [h0 rfl rfl]; exact ⟨_, rfl⟩
        obtain ⟨ad, hxv⟩ := hxv
        cases ad with
        | none =>
          have := nilcase none (fun k hk => by simp [opts] at hk) hxv hm hb (fun k hk => by cases hk)
          rw [hgone] at this
          exact this
        | some ad =>
          have hr := srcU_G (ty := o.type) hu hie hzv n1 (b := ad) (n := 0) (cap := 0) (olds := []) (by simp) (fun j v hj => by simp at hj) (by omega) (by unfold maxLen at hm; omega) (growslice_fits (by omega) (by simpa using hb))
          have := append_grown (es := []) (n := 0) (m := new.length) (olds := []) (need := 0) (old := 0) (new := new) hR hid hzs (od := none) (q := q) rfl rfl (by simp) n2 (by omega) (fun c hc => by simp at hc) hlen (fun k hk => by simpa [opts] using hq k (by simpa [opts] using hk)) (grownCap_ge w (0 + new.length) 0 e)
            (grownCap_le_maxLen w (0 + new.length) 0 e (by simpa using hm)) (by omega) (hrun hxv hr) (fun i j e c he => by simp at he) n4 (fun k hk => by cases hk)
          rw [hgone] at this
          simpa [gone, opts] using this
      · rename_i k c0 n
        split at he
        · rename_i ty0 sz es hk
          rw [Option.ite_none_right_eq_some] at he
          obtain ⟨⟨hn, hn0, rfl, hve, hvn, hmax, hby⟩, he⟩ := he
          cases he
          have hk' := hH _ _ hk
          generalize hux : a.eval x = ux at *
          cases hx with
          | svX _ _ _ _ h => rw [hk'] at h; cases h
          | sv _ _ _ ob b cap h hr =>
            rw [hk'] at h
            cases h
            rcases hR.live k _ hk' with ⟨h1, _⟩ | ⟨b', cap', arr, us, h1, h2, ⟨ty3, h3⟩, h4, h5, h6, h7, h8, h9⟩
            · rw [h1] at hr; cases hr
            · rw [h1] at hr
              cases hr
              have hnn : n = es.length - c0 := by omega
              subst hnn
              have harr : es.length * ie.size ≤ arr.size := by rw [h4]; exact Nat.mul_le_mul_right _ h5
              have hoff : c0 * ie.size + (es.length - c0) * ie.size = es.length * ie.size := by rw [← Nat.add_mul, show c0 + (es.length - c0) = es.length by omega]
              refine append_sv (ie := ie) (ty0 := ty0) (e := e) hR hzs rfl hk' h2 h3 h4 h5 h6.1 h7 hlen h8 h9 n2 hve hvn (by omega) (by omega) n4 (fun hroom => ?_) (fun hroom => ?_)
              · have hfit : c0 * ie.size + (es.length - c0) * ie.size + news.length ≤ arr.size := by
                  rw [hoff, n2, h4, ← Nat.add_mul]
                  exact Nat.mul_le_mul_right _ hroom
                have hr := srcU_RO (ty := o.type) (off := c0 * ie.size) (n := es.length - c0) (cap := cap - c0) hu hie hzv n1 n2 n3 h3 (by omega) hfit
                rw [hoff] at hr
                exact hrun rfl hr
              · have hlo : ((arr.toList.drop (c0 * ie.size)).take ((es.length - c0) * ie.size)).length = (es.length - c0) * ie.size := by
                  have q0 : arr.toList.length = arr.size := Array.length_toList
                  rw [List.length_take, List.length_drop, q0]
                  omega
                have hr := srcU_G (ty := o.type) hu hie hzv n1 (b := ⟨b, c0 * ie.size, none⟩) (n := es.length - c0) (cap := cap - c0) (olds := (arr.toList.drop (c0 * ie.size)).take ((es.length - c0) * ie.size)) hlo (fun j v hj => by
                  rw [List.getElem?_take] at hj
                  split at hj
                  · rw [List.getElem?_drop] at hj
                    rw [Addr.add_lit, cell_at h3]
                    simpa using hj
                  · cases hj) (by omega) (by unfold maxLen at hmax; omega) (growslice_fits (by omega) hby)
                exact ⟨_, grownCap_ge w _ (cap - c0) e, hrun rfl hr⟩
        · cases he
      · cases he
    · cases he
  · cases he
end

end Go.Proofs.YtnnmpdanfeejbaaGreat.Abs

/- The abstract machine's operations hold of the model: copy; structs compared. -/
namespace Go.Proofs.YtnnmpdanfeejbaaGreat.Abs
open Go Go.RowKit
set_option linter.unusedVariables false
set_option linter.unusedSimpArgs false
section
variable {P : Program} {nt : Nat} {I : Ini} {U : Nat → Prop} {s : ASt} {E : Env} {a : Act} {w : World} {o : Oper} {id : Nat} {v : AV} {objs : List (Nat × Option Ob)} {H : Hp}
theorem getD_some {arr : Array Value} {k : Nat} (h : k < arr.size) : arr[k]? = some (arr.getD k undef) := by
  rw [Array.getElem?_eq_getElem h]
  simp [Array.getD, h]
/-- An object is told again as it is. -/
theorem Fx.touch (hR : RelE nt I U s E a w) {q : Nat} {ob : Ob} (hq : s.H q = some ob) {u : Value} (h : RdV w E s.H v u) (hm : Mn U v) : Fx w E s.H U id v [(q, some ob)] u w E := by
  have e : updL s.H [(q, some ob)] = s.H := by
    funext k
    show upd s.H q (some ob) k = s.H k
    by_cases hk : k = q
    · subst hk; rw [upd_same, hq]
    · rw [upd_ne _ _ hk]
  refine ⟨Evo.refl _ _, fun b _ h => h, fun b _ h => ⟨rfl, h⟩, fun k _ => ⟨rfl, fun b p _ h => ⟨rfl, h⟩⟩, fun x hx => ?_, fun x hx ob' hob => ?_, fun b ℓ hb => ⟨hR.locLt b ℓ hb, .inr (by rw [hb]; simp)⟩, by rw [e]; exact h, hm.mono fun _ h => .inl h⟩
  · simp at hx; subst hx
    exact .inr ⟨ob, hq, .inr ⟨ob, by rw [e]; exact hq, Ob.like.refl ob, rfl⟩⟩
  · simp at hx; subst hx
    rw [e, hq] at hob
    cases hob
    rw [e]
    exact ⟨hR.live q _ hq, (hR.mnH q _ hq).2.mono fun _ h => .inl h⟩
theorem good_copy (hR : RelE nt I U s E a w) (hH : ∀ o ob, H o = some ob → s.H o = some ob) {x y : Operand} {c : Call} (ho : o.op = .call c) (hc : c.callee = .builtin .copy) (ha : c.args.toList = [x, y]) {t u : Nat} (ht : c.argTypes.toList = [t, u])
    {i : TI} (hi : tiOf P t = some i) {e esz eb : Nat} (hel : i.elem = some (e, esz, eb)) (he : evCopy H esz (getA nt s.t x) (getA nt s.t y) = some (v, objs)) : Good P o a w E s.H U id v objs := by
  obtain ⟨hu, ie, hie, rfl, rfl⟩ := elem_spec hi hel
  have ha' : c.args = #[x, y] := by rw [← ha]
  have ht' : c.argTypes = #[t, u] := by rw [← ht]
  have hrun : ∀ {ux r w'}, a.eval x = ux → (Builtin.copy_ #[t, u] o.type #[ux, a.eval y]).run P w = .ok r w' → (execOp a.eval o).run P w = .ok (.value r) w' := fun hx hr => by
    simp [execOp, ho, resolve, hc, invoke, builtin, ha', ht', hx, hr]
  have hx := hR.get x
  generalize hgx : getA nt s.t x = gx at *
  generalize hux : a.eval x = ux at *
  unfold evCopy at he
  split at he
  · rename_i q n new hsrc
    split at he
    · rename_i ty sz es hq
      have hq := hH _ _ hq
      split at he
      · rename_i hcond
        obtain ⟨hnn, rfl, hesz, hle, hmax, hlen⟩ := hcond
        cases he
        have hlen' : ∀ c ∈ new, c.length = ie.size := by rw [hesz]; exact hlen
        obtain ⟨⟨news, n1, n2, n3, n4⟩, n5⟩ := evSrc_ok (P := P) hR hH (by omega) hsrc hlen' (hR.get y)
        rw [hesz] at n1 n2
        have hsz : (sizeOf e).run P w = .ok 1 w := by simp [sizeOf, typeInfo, hie, hesz]
        have hmin : Nat.min new.length n = new.length := Nat.min_eq_left (by omega)
        have hold : ∀ (ad : Option Addr) (cap : Nat), ux = .slice ad n cap → (Builtin.copy_ #[t, u] o.type #[ux, a.eval y]).run P w = ((match ad with | some a => storeCells a news | none => Pure.pure ()) >>= fun _ => Pure.pure (goInt new.length)).run P w := by
          intro ad cap hh
          have h1 := n1.first w rfl
          subst hh
          simp only [Builtin.copy_, Sem.run_bind]
          simp [run_underlying hu, n1.len, hmin, hsz, h1]
          cases ad <;> simp
        by_cases h0 : new = []
        · subst h0
          have hn0 : news = [] := List.eq_nil_of_length_eq_zero (by simpa using n2)
          subst hn0
          refine ⟨.int .i64 0, w, E, .inl (hrun rfl ?_), by simpa using Fx.touch hR hq (.c _ _ (.v _ rfl)) (.c _)⟩
          cases hx with
          | slX _ _ _ h => rw [hq] at h; cases h
          | slO _ _ _ _ _ _ _ _ _ _ h => rw [hq] at h; cases h
          | sl _ _ _ _ _ b cap h hr => rw [hold _ _ rfl]; simp [storeCells, goInt]
          | slN _ _ _ h hr => rw [hold (ad := none) (cap := 0) rfl]; simp [goInt]
        · have hpos : 0 < new.length := List.length_pos_iff.2 h0
          rcases hR.live q _ hq with ⟨_, h1⟩ | ⟨b, cap, arr, us, h1, h2, ⟨ty3, h3⟩, h4, h5, h6, h7, h8, h9⟩
          · exact absurd (List.eq_nil_of_length_eq_zero (by rw [h1] at hle; simpa using hle)) h0
          · cases hx with
            | slX _ _ _ h => rw [hq] at h; cases h
            | slO _ _ _ _ _ _ _ _ _ _ h => rw [hq] at h; cases h
            | slN _ _ _ h hr => rw [h1] at hr; cases hr
            | sl _ _ _ _ _ b' cap' h hr =>
              rw [h1] at hr
              cases hr
              have hst := run_storeCells_at P b 0 ty3 news 0 arr w h3 (by rw [n2, h4]; omega) n3
              simp only [Nat.zero_add] at hst
              have harr : ∃ arr', (arr.toList.take 0 ++ news ++ arr.toList.drop (news.length)).toArray = arr' := ⟨_, rfl⟩
              obtain ⟨arr', harr⟩ := harr
              rw [harr] at hst
              have hr1 := hold (some ⟨b, 0, none⟩) cap rfl
              have hn : news.length = new.length := by omega
              have hget : ∀ k, k < arr.size → arr'[k]? = if k < news.length then news[k]? else arr[k]? := by
                intro k hk
                rw [← harr, List.getElem?_toArray, List.take_zero, List.nil_append]
                split
                · rename_i hlt; rw [List.getElem?_append_left hlt]
                · rename_i hge; rw [List.getElem?_append_right (by omega), List.getElem?_drop, show news.length + (k - news.length) = k by omega, Array.getElem?_toList]
              have hsize : arr'.size = arr.size := by rw [← harr]; simp; omega
              have hlike : Ob.like (.rw ty 1 es) (.rw ty 1 (new ++ es.drop new.length)) := ⟨rfl, by constructor <;> intro h <;> simp_all⟩
              have f := Fx.write (id := id) (mv := []) (arr := arr') (ob' := .rw ty 1 (new ++ es.drop new.length)) hR hq h1 h2 hlike (fun m hm => by simp at hm) trivial (fun kp => ?_)
              · refine ⟨goInt new.length, w.setRow b arr', _, .inl (hrun rfl ?_), { f with val := .c _ _ (.v _ rfl), mn := .c _ }⟩
                rw [hr1]
                simp [hst]
              · have hmv : ∀ ℓ : Loc, mvl q [] ℓ = ℓ := fun ℓ => rfl
                refine .inr ⟨b, cap, arr', fun i j => arr'.getD (i * 1 + j) undef, h1, by simp only [h2, Option.map_some, hmv], ⟨_, setRow_at h3⟩, by rw [hsize, h4], by simp; omega, ⟨h6.1, fun e0 => absurd (List.append_eq_nil_iff.1 e0).1 h0⟩, fun c hc => ?_, fun i j hi hj => ?_, fun i j ce c hce hcc => ?_⟩
                · rcases List.mem_append.1 hc with hc | hc
                  · exact hlen c hc
                  · exact h7 c (List.mem_of_mem_drop hc)
                · have hlt : i * 1 + j < arr'.size := by rw [hsize, h4]; simp at hi; omega
                  exact getD_some hlt
                · have hi : i < es.length := by have := (List.getElem?_eq_some_iff.1 hce).1; simp at this; omega
                  have hj : j < 1 := by
                    have h10 : ce.length = 1 := by
                      rcases List.mem_append.1 (List.mem_of_getElem? hce) with hc | hc
                      · exact hlen _ hc
                      · exact h7 _ (List.mem_of_mem_drop hc)
                    rw [← h10]; exact (List.getElem?_eq_some_iff.1 hcc).1
                  have hlt : i * 1 + j < arr'.size := by rw [hsize, h4]; omega
                  have hgd : arr'[i * 1 + j]? = some (arr'.getD (i * 1 + j) undef) := getD_some hlt
                  have hg := hget (i * 1 + j) (by rw [← hsize]; exact hlt)
                  rw [hgd] at hg
                  by_cases hin : i < new.length
                  · rw [if_pos (by omega)] at hg
                    rw [List.getElem?_append_left hin] at hce
                    refine n4 i j ce c _ hce hcc (by rw [hesz]; exact hg.symm) _ _ _ kp.t0 (fun k hk => by cases hk)
                  · rw [if_neg (by omega)] at hg
                    rw [List.getElem?_append_right (by omega), List.getElem?_drop, show new.length + (i - new.length) = i by omega] at hce
                    have h8' := h8 i j hi hj
                    rw [← hg] at h8'
                    injection h8' with h8'
                    show RdC _ _ _ c (arr'.getD (i * 1 + j) undef)
                    rw [h8']
                    exact (h9 i j ce c hce hcc).relabel _ kp.t0 (fun b' p hb' hp => ⟨heap_setRow_ne w b arr' b' (fun e => by subst e; rw [h2] at hp; cases hp), by simp only [hp, Option.map_some, hmv]⟩)
      · cases he
    · cases he
  · cases he
theorem kind_cases {t c : Nat} (h : kindB P t c = true) : (P.underlying t = some .string ∧ c = 0) ∨ (∃ k, P.underlying t = some (.int k) ∧ c = 1) ∨ (P.underlying t = some .bool ∧ c = 2) := by
  unfold kindB at h
  split at h
  · rename_i hu; exact .inl ⟨hu, by simpa using h⟩
  · rename_i k hu; exact .inr (.inl ⟨k, hu, by simpa using h⟩)
  · rename_i hu; exact .inr (.inr ⟨hu, by simpa using h⟩)
  · cases h
theorem run_part1 {t c : Nat} (hf : kindB P t c = true) {xs : Array Value} {k : Nat} {p : Value} (hx : xs[k]? = some p) : (part t xs k).run P w = .ok p w := by
  rcases kind_cases hf with ⟨hu, _⟩ | ⟨_, hu, _⟩ | ⟨hu, _⟩ <;> simp [part, isAgg, run_underlying hu, hx]
theorem run_valEq {t d : Nat} {p q : Value} {r : Bool} (hf : kindB P t (kOf (.c (.v p))) = true) (hv : valEq p q = some r) : (Op.equalIn (d + 1) t p q).run P w = .ok r w := by
  unfold valEq at hv
  split at hv
  · cases hv
    rcases kind_cases hf with ⟨hu, _⟩ | ⟨_, hu, h⟩ | ⟨hu, h⟩
    · exact run_equalIn_string w d t _ _ hu
    · cases h
    · cases h
  · split at hv
    · rename_i e
      subst e
      cases hv
      rcases kind_cases hf with ⟨hu, h⟩ | ⟨_, hu, h⟩ | ⟨hu, h⟩
      · cases h
      · exact run_equalIn_int w d t _ _ _ _ hu
      · cases h
    · cases hv
  · cases hv
    rcases kind_cases hf with ⟨hu, h⟩ | ⟨_, hu, h⟩ | ⟨hu, h⟩
    · cases h
    · cases h
    · exact run_equalIn_bool' w d t _ _ hu
  · cases hv
theorem run_celEq {d : Nat} {xs ys : Array Value} : ∀ {fs : List Field} {l m : List AV} {k : Nat} {r : Bool}, flatFs P k fs (l.map kOf) = true → celEq l m = some r → (∀ j (p : Value), l[j]? = some (.c (.v p)) → xs[k + j]? = some p) → (∀ j (p : Value), m[j]? = some (.c (.v p)) → ys[k + j]? = some p) →
    (Op.eqFields (d + 1) xs ys fs).run P w = .ok r w
  | [], [], [], k, r, _, hc, _, _ => by cases hc; simp [Op.eqFields]
  | [], [], y :: q, k, r, hf, hc, hx, hy => by simp [celEq] at hc
  | [], x :: l, m, k, r, hf, hc, hx, hy => by simp [flatFs] at hf
  | f :: fs, [], m, k, r, hf, hc, hx, hy => by simp [flatFs] at hf
  | f :: fs, x :: l, [], k, r, hf, hc, hx, hy => by unfold celEq at hc; split at hc <;> simp_all
  | f :: fs, x :: l, y :: m, k, r, hf, hc, hx, hy => by
    unfold celEq at hc
    split at hc
    · rename_i h1 h2; cases h1
    · rename_i a r1 b q1 h1 h2
      cases h1; cases h2
      simp only [Option.bind_eq_some_iff] at hc
      obtain ⟨u, hu, v, hv, hr⟩ := hc
      cases hr
      simp only [List.map_cons, flatFs, Bool.and_eq_true, beq_iff_eq, bne_iff_ne, ne_eq] at hf
      obtain ⟨⟨⟨h1, h2⟩, h3⟩, h4⟩ := hf
      have ih := run_celEq (d := d) (xs := xs) (ys := ys) h4 hv (fun j p hj => by have := hx (j + 1) p (by simpa using hj); rwa [show k + (j + 1) = k + 1 + j by omega] at this) (fun j p hj => by have := hy (j + 1) p (by simpa using hj); rwa [show k + (j + 1) = k + 1 + j by omega] at this)
      have hp1 : xs[f.offset]? = some a := by rw [h1]; exact hx 0 a rfl
      have hp2 : ys[f.offset]? = some b := by rw [h1]; exact hy 0 b rfl
      simp only [Op.eqFields, ne_eq, h2, not_false_eq_true, if_true, Sem.run_bind, run_part1 h3 hp1, Result.andThen_ok, run_part1 h3 hp2, run_valEq h3 hu, Sem.run_ite]
      cases u
      · simp
      · simpa using ih
    · cases hc
theorem good_structEq (hR : RelE nt I U s E a w) {op : BinOp} {t t' : Nat} {x y : Operand} (ho : o.op = .binOp op t x y t') {l m : List AV} (hx : getA nt s.t x = .ag l) (hy : getA nt s.t y = .ag m) (hf : flatB P t (l.map kOf) = true) {r : Bool} (hc : celEq l m = some r)
    {r' : Bool} (hr : (op = .eql ∧ r' = r) ∨ (op = .neq ∧ r' = !r)) : Good P o a w E s.H U id (.c (.v (.bool r'))) [] := by
  have h1 := hR.get x
  have h2 := hR.get y
  rw [hx] at h1
  rw [hy] at h2
  generalize hux : a.eval x = ux at *
  generalize huy : a.eval y = uy at *
  cases h1 with
  | ag _ us hs hi =>
    cases h2 with
    | ag _ vs hs' hi' =>
      unfold flatB at hf
      simp only [Bool.and_eq_true, Bool.not_eq_true'] at hf
      obtain ⟨⟨hf, hst⟩, hg⟩ := hf
      split at hf
      · rename_i fs hu
        have hfo : P.underlying t = some (.struct (P.fieldsOf t)) := by simp [Program.fieldsOf, hu]
        have hfe : (P.fieldsOf t).toList = fs.toList := by simp [Program.fieldsOf, hu]
        have key := run_celEq (P := P) (w := w) (d := 9998) (xs := us) (ys := vs) hf hc (fun j p hj => by
          have hjl := (List.getElem?_eq_some_iff.1 hj).1
          have : us[0 + j]? = some us[j] := by rw [Nat.zero_add]; exact Array.getElem?_eq_getElem (by omega)
          rw [this]
          have := hi j _ us[j] hj (Array.getElem?_eq_getElem (by omega))
          cases this with | c _ _ h => cases h; rfl) (fun j p hj => by
          have hjl := (List.getElem?_eq_some_iff.1 hj).1
          have : vs[0 + j]? = some vs[j] := by rw [Nat.zero_add]; exact Array.getElem?_eq_getElem (by omega)
          rw [this]
          have := hi' j _ vs[j] hj (Array.getElem?_eq_getElem (by omega))
          cases this with | c _ _ h => cases h; rfl)
        have hrun : (Op.equalIn 10000 t (.agg us) (.agg vs)).run P w = .ok r w := by
          have := run_equalIn_agg (P := P) w 9999 t us vs hfo hst
          rw [hfe] at this
          exact this.trans key
        refine Good.plain hR (u := .bool r') ?_ rfl rfl
        rcases hr with ⟨rfl, rfl⟩ | ⟨rfl, rfl⟩
        · simp [execOp, ho, hux, huy, run_eqGuard_agg (P := P) w .eql t x y us vs hg, run_eql_struct, hrun]
        · simp [execOp, ho, hux, huy, run_eqGuard_agg (P := P) w .neq t x y us vs hg, run_neq_struct, hrun]
      · cases hf
end
end Go.Proofs.YtnnmpdanfeejbaaGreat.Abs

/- The abstract machine's operations hold of the model: maps of strings to numbers. -/
namespace Go.Proofs.YtnnmpdanfeejbaaGreat.Abs
open Go Go.RowKit
set_option linter.unusedVariables false
set_option linter.unusedSimpArgs false

def findP : List (ByteArray × Int) → ByteArray → Nat → Option (Nat × Value)
  | [], _, _ => none
  | (b, n) :: r, a, i => if a == b then some (i, .int .i64 n) else findP r a (i + 1)
def kvE (e : MapEntry) : Value × Value := (e.key, e.val)
def kvM (x : ByteArray × Int) : Value × Value := (.string x.1, .int .i64 x.2)
theorem findNow_spec (a : ByteArray) : ∀ {l : List MapEntry} {m : List (ByteArray × Int)} {i : Nat}, l.map kvE = m.map kvM → Instr.findNow .string (.string a) l i = some (findP m a i)
  | [], [], i, _ => rfl
  | [], _ :: _, i, h => by simp at h
  | _ :: _, [], i, h => by simp at h
  | e :: l, (b, n) :: m, i, h => by
    simp only [List.map_cons, List.cons.injEq] at h
    obtain ⟨h1, h2⟩ := h
    obtain ⟨k1, k2⟩ := Prod.mk.inj h1
    unfold Instr.findNow findP
    rw [k1]
    simp only [kvM, Instr.sameNow]
    cases hb : a == b with
    | true => simp [k2, kvM]
    | false => simp [findNow_spec a h2]
theorem findP_get (a : ByteArray) : ∀ {m : List (ByteArray × Int)} {i : Nat}, (match findP m a i with | some (_, v) => v | none => .int .i64 0) = .int .i64 (mpGet m a)
  | [], i => rfl
  | (b, n) :: m, i => by
    unfold findP mpGet
    cases hb : a == b with
    | true => rfl
    | false => exact findP_get a
theorem findP_none {a : ByteArray} {n : Int} {e : MapEntry} (he : kvE e = kvM (a, n)) : ∀ {l : List MapEntry} {m : List (ByteArray × Int)} {i : Nat}, l.map kvE = m.map kvM → findP m a i = none → (l ++ [e]).map kvE = (mpPut m a n).map kvM
  | l, [], i, h, _ => by
    have : l = [] := by simpa using h
    subst this
    simp [mpPut, he]
  | [], _ :: _, i, h, _ => by simp at h
  | e' :: l, (b, k) :: m, i, h, hf => by
    simp only [List.map_cons, List.cons.injEq] at h
    unfold findP at hf
    cases hb : a == b with
    | true => rw [hb] at hf; cases hf
    | false =>
      rw [hb] at hf
      have := findP_none he h.2 hf
      simp only [mpPut, hb, List.cons_append, List.map_cons, h.1]
      rw [this]
      rfl
theorem findP_some {a : ByteArray} {n : Int} {f : MapEntry → MapEntry} (hf : ∀ e, kvE (f e) = kvM (a, n)) : ∀ {l : List MapEntry} {m : List (ByteArray × Int)} {i k : Nat} {v : Value}, l.map kvE = m.map kvM → findP m a i = some (k, v) →
    i ≤ k ∧ k - i < l.length ∧ (∀ e, l[k - i]? = some e → e.key = .string a) ∧ (l.modify (k - i) f).map kvE = (mpPut m a n).map kvM
  | l, [], i, k, v, h, hp => by cases hp
  | [], _ :: _, i, k, v, h, _ => by simp at h
  | e' :: l, (b, q) :: m, i, k, v, h, hp => by
    simp only [List.map_cons, List.cons.injEq] at h
    unfold findP at hp
    cases hb : a == b with
    | true =>
      rw [hb] at hp
      cases hp
      have hab : a = b := (MapKept.bytes_beq a b).1 hb
      subst hab
      refine ⟨Nat.le_refl _, by simp, fun e he => ?_, ?_⟩
      · rw [Nat.sub_self] at he
        cases he
        exact (Prod.mk.inj h.1).1
      · rw [Nat.sub_self]
        simp [mpPut, hf, h.2, hb]
    | false =>
      rw [hb] at hp
      obtain ⟨h1, h2, h3, h4⟩ := findP_some hf h.2 hp
      have e1 : k - i = (k - (i + 1)) + 1 := by omega
      refine ⟨by omega, by rw [e1]; simpa using h2, fun e he => ?_, ?_⟩
      · rw [e1] at he
        exact h3 e (by simpa using he)
      · rw [e1]
        simp only [List.modify_succ_cons, List.map_cons, h.1, mpPut, hb, h4]
        rfl

section
variable {P : Program} {nt : Nat} {I : Ini} {U : Nat → Prop} {s : ASt} {E : Env} {a : Act} {w : World} {o : Oper} {id : Nat} {v : AV} {objs : List (Nat × Option Ob)} {H : Hp}

/-- An object's block is turned. -/
theorem Fx.turn (hR : RelE nt I U s E a w) {q b cap : Nat} {ob ob' : Ob} (hq : s.H q = some ob) (hrho : E.rho q = some (b, cap)) (hloc : E.loc b = some (q, [])) (hlike : ob.like ob') (hmn : MnOb U ob') {w' : World} (hev : Evo (fun x => x = b) w w')
    (hl : LiveOb w' E (updL s.H [(q, some ob')]) q ob') : Fx w E s.H U id .any [(q, some ob')] undef w' E := by
  have hH : updL s.H [(q, some ob')] q = some ob' := upd_same _ _ _
  constructor
  · exact ⟨hev.os, hev.tape, hev.output, hev.size, fun i hi hn => hev.block i hi (fun h => hn (by rw [h, hloc]; simp))⟩
  · exact fun b hb h0 => h0
  · exact fun b' hb h1 => ⟨hev.old hb (fun h => h1 q (by rw [h, hloc])), h1⟩
  · intro q' hq'
    have hqk : q' ≠ q := fun e => hq' (q, some ob') (List.mem_cons_self ..) e.symm
    exact ⟨rfl, fun b' p hb hp => ⟨hev.old hb (fun h => by rw [h, hloc] at hp; cases hp; exact hqk rfl), hp⟩⟩
  · intro x hx
    simp at hx
    subst hx
    exact .inr ⟨ob, hq, .inr ⟨ob', hH, hlike, rfl⟩⟩
  · intro x hx ob2 hob
    simp at hx
    subst hx
    rw [hH] at hob
    cases hob
    exact ⟨hl, hmn.mono fun _ h => .inl h⟩
  · exact fun b' ℓ hb => ⟨Nat.lt_of_lt_of_le (hR.locLt b' ℓ hb) hev.size, .inr (by rw [hb]; simp)⟩
  · exact .any _
  · exact .any

theorem good_makeMap (hR : RelE nt I U s E a w) (hid : ¬ U id) {t : Nat} (ho : o.op = .makeMap t none) : Good P o a w E s.H U id (.mr id) [(id, some (.mp []))] := by
  have hrun : (execOp a.eval o).run P w = .ok (.value (.map (some w.heap.size))) (w.alloc (.map #[] 0)) := by
    simp [execOp, ho, Instr.makeMap]
  have hf := Fx.new (v := .mr id) (u := .map (some w.heap.size)) (ob := .mp []) (mv := []) (cap := 1) (g := fun ℓ => ℓ) hR hid (Evo.alloc w (.map #[] 0)) (by simp) (fun k p _ => rfl) (fun k p o h => by cases h; rfl) (fun m hm => by simp at hm)
    ⟨w.heap.size, #[], 0, upd_same .., if_pos rfl, heap_alloc_new w _, rfl⟩ trivial (.mr id [] w.heap.size 1 (upd_same ..) (upd_same ..)) (.mr _ (.inr rfl))
  exact ⟨_, _, _, .inl hrun, hf⟩

theorem map_desc {t : Nat} {i : TI} (hi : tiOf P t = some i) {q : Nat × Nat} (hq : i.mkv = some q) : P.underlying t = some (.map q.1 q.2) := by
  obtain ⟨info, d, h1, h2, -, -, -, -, -, -, -, -, -, -, h3, -⟩ := tiOf_spec hi
  rw [h3] at hq
  cases d <;> simp at hq
  subst hq
  exact h2
theorem zi_desc {t : Nat} {i : TI} (hi : tiOf P t = some i) (hz : i.zi = true) (w : World) : (zeroValue t).run P w = .ok (.int .i64 0) w := by
  obtain ⟨info, d, h1, h2, -, -, -, -, -, -, -, -, -, -, -, h3⟩ := tiOf_spec hi
  rw [h3] at hz
  split at hz
  · rename_i hh
    simp [zeroValue, run_typeInfo w h1, hh]
  · cases hz

theorem good_lookup (hR : RelE nt I U s E a w) (hH : ∀ o ob, H o = some ob → s.H o = some ob) {t : Nat} {m k : Operand} (ho : o.op = .lookup t m k false) {q : Nat} {key : ByteArray} {l : List (ByteArray × Int)} (hm : getA nt s.t m = .mr q) (hk : getA nt s.t k = .c (.v (.string key))) (hq : H q = some (.mp l))
    {i j z : TI} {p : Nat × Nat} (hi : tiOf P t = some i) (hp : i.mkv = some p) (hj : tiOf P p.1 = some j) (hz : tiOf P p.2 = some z) (hs : j.isStr = true) (hzz : z.zi = true) : Good P o a w E s.H U id (.c (.v (.int .i64 (mpGet l key)))) [] := by
  have hq := hH _ _ hq
  have hx := hR.get m
  rw [hm] at hx
  have hek := hR.eval hk
  generalize hux : a.eval m = um at hx
  have ht := map_desc hi hp
  have hks := str_desc hj hs
  cases hx with
  | mrX _ _ h => rw [hq] at h; cases h
  | mr _ m' b cap h hr =>
    rw [hq] at h
    cases h
    obtain ⟨b', ents, clock, h1, h2, h3, h4⟩ := hR.live q _ hq
    rw [h1] at hr
    cases hr
    have hf := findNow_spec key (i := 0) (l := ents.toList) (m := l) h4
    have hg := findP_get key (m := l) (i := 0)
    have hc : (Instr.checkKey ents.isEmpty 10000 p.1 (.string key)).run P w = .ok () w := MapKept.run_checkKey (k := .string key) hks (by simp [MapKept.IsKey]) _ 9999
    refine Good.plain hR (u := .int .i64 (mpGet l key)) ?_ rfl rfl
    have : (Instr.lookup t (.map (some b)) (.string key) false).run P w = .ok (.int .i64 (mpGet l key)) w := by
      rw [← hg]
      cases hfp : findP l key 0 with
      | none =>
        rw [hfp] at hf
        simp [Instr.lookup, run_underlying ht, MapKept.run_getObj_map h3, hc, MapKept.run_findKey hks hf, zi_desc hz hzz w]
      | some x =>
        rw [hfp] at hf
        simp [Instr.lookup, run_underlying ht, MapKept.run_getObj_map h3, hc, MapKept.run_findKey hks hf]
    simp [execOp, ho, hux, hek, this]

theorem good_mapUpdate (hR : RelE nt I U s E a w) (hH : ∀ o ob, H o = some ob → s.H o = some ob) {t : Nat} {m k x : Operand} (ho : o.op = .mapUpdate t m k x) {q : Nat} {key : ByteArray} {n : Int} {l : List (ByteArray × Int)} (hm : getA nt s.t m = .mr q) (hk : getA nt s.t k = .c (.v (.string key))) (hx : getA nt s.t x = .c (.v (.int .i64 n))) (hq : H q = some (.mp l))
    {i j : TI} {p : Nat × Nat} (hi : tiOf P t = some i) (hp : i.mkv = some p) (hj : tiOf P p.1 = some j) (hs : j.isStr = true) : Good P o a w E s.H U id .any [(q, some (.mp (mpPut l key n)))] := by
  have hq := hH _ _ hq
  have hx0 := hR.get m
  rw [hm] at hx0
  have hek := hR.eval hk
  have hex := hR.eval hx
  generalize hux : a.eval m = um at hx0
  have ht := map_desc hi hp
  have hks := str_desc hj hs
  cases hx0 with
  | mrX _ _ h => rw [hq] at h; cases h
  | mr _ m' b cap h hr =>
    rw [hq] at h
    cases h
    obtain ⟨b', ents, clock, h1, h2, h3, h4⟩ := hR.live q _ hq
    rw [h1] at hr
    cases hr
    have hf := findNow_spec key (i := 0) (l := ents.toList) (m := l) h4
    have hc : (Instr.checkKey false 10000 p.1 (.string key)).run P w = .ok () w := MapKept.run_checkKey (k := .string key) hks (by simp [MapKept.IsKey]) false 9999
    have hbl := RdR.lt h3
    have hset : ∀ o' : Obj, ({ w with heap := w.heap.setIfInBounds b o' } : World).heap[b]? = some o' := fun o' => by
      simp [Array.getElem?_setIfInBounds, hbl]
    have hev : ∀ o' : Obj, Evo (fun x => x = b) w { w with heap := w.heap.setIfInBounds b o' } := fun o' => ⟨rfl, rfl, rfl, by simp, fun k' hk' hne => by
      show (w.heap.setIfInBounds b o')[k']? = _
      rw [Array.getElem?_setIfInBounds_ne (Ne.symm hne)]⟩
    suffices ∃ ents' clock', (Instr.mapUpdate t (.map (some b)) (.string key) (.int .i64 n)).run P w = .ok () { w with heap := w.heap.setIfInBounds b (.map ents' clock') } ∧ ents'.toList.map kvE = (mpPut l key n).map kvM by
      obtain ⟨ents', clock', hrun, hl'⟩ := this
      refine ⟨undef, _, E, .inr ⟨?_, rfl⟩, Fx.turn (ob' := .mp (mpPut l key n)) hR hq h1 h2 trivial trivial (hev _) ⟨b, ents', clock', h1, h2, hset _, hl'⟩⟩
      simp [execOp, ho, hux, hek, hex, hrun]
    cases hfp : findP l key 0 with
    | none =>
      rw [hfp] at hf
      refine ⟨ents.push ⟨.string key, .int .i64 n, clock⟩, clock + 1, by simp [Instr.mapUpdate, run_underlying ht, MapKept.run_getObj_map h3, hc, MapKept.run_findKey hks hf, MapKept.run_setObj_map _ h3, Result.andThen], ?_⟩
      rw [Array.toList_push]
      exact findP_none (e := ⟨.string key, .int .i64 n, clock⟩) rfl h4 hfp
    | some y =>
      obtain ⟨ix, v0⟩ := y
      rw [hfp] at hf
      have hsp := findP_some (f := fun e => { e with key := .string key, val := .int .i64 n }) (fun e => rfl) (l := ents.toList) h4 hfp
      obtain ⟨g1, g2, g3, g4⟩ := hsp
      rw [Nat.sub_zero] at g2 g3 g4
      have hge := List.getElem?_eq_getElem g2
      have hke := g3 _ hge
      have hge' : ents[ix]? = some ents.toList[ix] := by rw [← hge]; simp
      have hkey : (Instr.keyThatStays (((ents[ix]?).map (·.key)).getD (.string key)) (.string key)).run P w = .ok (.string key) w := by
        rw [hge']
        simp only [Option.map_some, Option.getD_some, hke]
        simp [Instr.keyThatStays, Instr.sameBits, (MapKept.bytes_beq key key).2 rfl]
      refine ⟨ents.modify ix (fun e => { e with key := .string key, val := .int .i64 n }), clock, ?_, ?_⟩
      · simp [Instr.mapUpdate, run_underlying ht, MapKept.run_getObj_map h3, hc, MapKept.run_findKey hks hf, MapKept.run_setObj_map _ h3, hkey, Result.andThen]
      · rw [← g4]
        simp
end
end Go.Proofs.YtnnmpdanfeejbaaGreat.Abs

/- The abstract machine's operations hold of the model: all of them. -/
namespace Go.Proofs.YtnnmpdanfeejbaaGreat.Abs
open Go Go.RowKit
set_option linter.unusedVariables false
set_option linter.unusedSimpArgs false

section
variable {P : Program} {nt : Nat} {I : Ini} {U : Nat → Prop} {s : ASt} {E : Env} {a : Act} {w : World} {o : Oper} {id : Nat} {v : AV} {objs : List (Nat × Option Ob)} {H : Hp}

theorem nilA_mono (hH : ∀ o ob, H o = some ob → s.H o = some ob) {x : AV} {b : Bool} (h : nilA H x = some b) : nilA s.H x = some b := by
  unfold nilA at h ⊢
  split at h <;> simp_all
  rename_i q _ _
  cases hq : H q with
  | none => simp [hq] at h
  | some ob => simp [hH _ _ hq]
theorem evLen_mono (hH : ∀ o ob, H o = some ob → s.H o = some ob) {x : AV} {b : Int} (h : evLen H x = some b) : evLen s.H x = some b := by
  unfold evLen at h ⊢
  split at h <;> simp_all
  · rename_i q _
    cases hq : H q with
    | none => simp [hq] at h
    | some ob => simp [hH _ _ hq]
  · rename_i q _ _
    cases hq : H q with
    | none => simp [hq] at h
    | some ob => simp [hH _ _ hq]

theorem ev_bin (hR : RelE nt I U s E a w) (hH : ∀ o ob, H o = some ob → s.H o = some ob) {op : BinOp} {t t' : Nat} {x y : Operand} (ho : o.op = .binOp op t x y t') (he : evOp P id H (getA nt s.t) (.binOp op t x y t') = some (v, objs)) : Good P o a w E s.H U id v objs := by
  simp only [evOp] at he
  split at he
  · rename_i p q hx hy
    split at he
    · simp only [Option.bind_eq_some_iff, Option.ite_none_right_eq_some] at he
      obtain ⟨i, hi, hb, he⟩ := he
      split at he
      · cases he; exact good_boolEq hR ho hx hy hi hb (.inl ⟨rfl, rfl⟩)
      · cases he; exact good_boolEq hR ho hx hy hi hb (.inr ⟨rfl, rfl⟩)
      · cases he
    · simp only [Option.bind_eq_some_iff, Option.ite_none_right_eq_some] at he
      obtain ⟨i, hi, hb, he⟩ := he
      have h1 : nilA s.H (getA nt s.t x) = some true := by rw [hx]; rfl
      have h2 : nilA s.H (getA nt s.t y) = some true := by rw [hy]; rfl
      split at he
      · cases he; exact good_nilEq hR ho h1 h2 (.inl rfl) hi hb (.inl ⟨rfl, rfl⟩)
      · cases he; exact good_nilEq hR ho h1 h2 (.inl rfl) hi hb (.inr ⟨rfl, rfl⟩)
      · cases he
    · simp only [Option.bind_eq_some_iff] at he
      obtain ⟨r, hr, he⟩ := he
      cases he
      exact good_binV hR ho hx hy hr
  · rename_i l m hx hy
    simp only [Option.ite_none_right_eq_some, Option.bind_eq_some_iff] at he
    obtain ⟨hf, r, hr, he⟩ := he
    split at he
    · cases he; exact good_structEq hR ho hx hy hf hr (.inl ⟨rfl, rfl⟩)
    · cases he; exact good_structEq hR ho hx hy hf hr (.inr ⟨rfl, rfl⟩)
    · cases he
  · rename_i hno
    simp only [Option.bind_eq_some_iff, Option.ite_none_right_eq_some] at he
    obtain ⟨i, hi, hb, p, hp, q, hq, hpq, he⟩ := he
    have h1 := nilA_mono hH hp
    have h2 := nilA_mono hH hq
    have h3 : (p = true ∨ q = true) ∧ (p && q) = false := by cases p <;> cases q <;> simp_all
    split at he
    · cases he; exact good_nilEq hR ho h1 h2 h3.1 hi hb (.inl ⟨rfl, h3.2.symm⟩)
    · cases he; exact good_nilEq hR ho h1 h2 h3.1 hi hb (.inr ⟨rfl, by rw [h3.2]; rfl⟩)
    · cases he

theorem ev_conv (hR : RelE nt I U s E a w) (hH : ∀ o ob, H o = some ob → s.H o = some ob) {t d : Nat} {x : Operand} (ho : o.op = .convert t d x) {i j : TI} (hi : tiOf P t = some i) (hj : tiOf P d = some j) (he : evConv H id i j (getA nt s.t x) = some (v, objs)) :
    Good P o a w E s.H U id v objs := by
  unfold evConv at he
  split at he
  · rename_i k k' n hk hx
    cases he
    exact good_convInt hR ho hi hj hk hx
  · split at he
    · rename_i hc
      simp only [Option.bind_eq_some_iff] at he
      obtain ⟨l, ⟨es, hes, hl⟩, he⟩ := he
      cases he
      exact good_convStr hR hH ho hi hj hc.1 hc.2 hes hl
    · split at he
      · rename_i b hx
        simp only [Option.ite_none_right_eq_some] at he
        obtain ⟨hc, he⟩ := he
        cases he
        exact good_convBytes hR ho hi hj hc.1 hc.2.1 hx hc.2.2
      · cases he

theorem ev_call (hR : RelE nt I U s E a w) (hid : ¬ U id) (hH : ∀ o ob, H o = some ob → s.H o = some ob) {c : Call} (ho : o.op = .call c) (he : evOp P id H (getA nt s.t) (.call c) = some (v, objs)) : Good P o a w E s.H U id v objs := by
  obtain ⟨callee, args, ts⟩ := c
  cases callee with
  | value => simp [evOp] at he
  | invoke => simp [evOp] at he
  | builtin b =>
    simp only [evOp] at he
    split at he
    · rename_i x t ha ht
      simp only [Option.bind_eq_some_iff, Option.ite_none_right_eq_some] at he
      obtain ⟨i, hi, n, hn, ⟨h1, h2⟩, he⟩ := he
      cases he
      exact good_len hR ho rfl ha ht hi h2 (evLen_mono hH hn) h1
    · rename_i x y t u ha ht
      simp only [Option.bind_eq_some_iff, Option.ite_none_right_eq_some] at he
      obtain ⟨i, hi, j, hj, ⟨e, esz, eb⟩, hel, z, hz, ⟨h1, h2⟩, he⟩ := he
      exact good_append hR hid hH ho rfl ha ht hi hj hel hz h1 h2 he
    · rename_i x y t u ha ht
      simp only [Option.bind_eq_some_iff] at he
      obtain ⟨i, hi, ⟨e, esz, eb⟩, hel, he⟩ := he
      exact good_copy hR hH ho rfl ha ht hi hel he
    · rename_i x y ha
      split at he
      · rename_i p q hx hy
        cases he
        exact good_min hR ho rfl ha hx hy
      · cases he
    · rename_i x y ha
      split at he
      · rename_i p q hx hy
        cases he
        exact good_max hR ho rfl ha hx hy
      · cases he
    · cases he

theorem ev_sound (hR : RelE nt I U s E a w) (hid : ¬ U id) (hH : ∀ o ob, H o = some ob → s.H o = some ob) (he : evOp P id H (getA nt s.t) o.op = some (v, objs)) : Good P o a w E s.H U id v objs := by
  generalize hop : o.op = op at he
  cases op with
  | move x => simp only [evOp] at he; cases he; exact good_move hR (.inl hop)
  | assign x => simp only [evOp] at he; cases he; exact good_move hR (.inr hop)
  | pick c x y =>
    simp only [evOp] at he
    split at he
    · rename_i t hc
      cases he
      exact good_pick hR hop hc
    · cases he
  | alloc e =>
    simp only [evOp, Option.bind_eq_some_iff] at he
    obtain ⟨i, hi, he⟩ := he
    split at he
    · cases he
    · rename_i hz
      cases he
      exact good_alloc hR hid hop hi (by intro h; rw [h] at hz; exact hz rfl)
  | box e x =>
    simp only [evOp, Option.ite_none_right_eq_some] at he
    obtain ⟨hok, he⟩ := he
    cases he
    exact good_box hR hid hH hop hok
  | load t x =>
    simp only [evOp, Option.bind_eq_some_iff] at he
    obtain ⟨i, hi, he⟩ := he
    exact good_load hR hop hi hH he
  | store t x y =>
    simp only [evOp, Option.bind_eq_some_iff] at he
    obtain ⟨i, hi, he⟩ := he
    exact good_store hR hop hi hH he
  | fieldAddr t x f =>
    simp only [evOp, Option.bind_eq_some_iff, Option.ite_none_right_eq_some] at he
    obtain ⟨i, hi, ⟨off, sz⟩, hf, hz, he⟩ := he
    exact good_fieldAddr hR hop hi hH hf hz he
  | indexAddr t x ix =>
    simp only [evOp] at he
    split at he
    · rename_i k n hix
      simp only [Option.bind_eq_some_iff] at he
      obtain ⟨i, hi, ⟨e, esz, eb⟩, hel, he⟩ := he
      exact good_indexAddr hR hop hix hi hH hel he
    · cases he
  | nilCheck x =>
    simp only [evOp, Option.bind_eq_some_iff] at he
    obtain ⟨b, hb, he⟩ := he
    split at he
    · cases he
    · rename_i hf
      cases he
      have : b = false := by simpa using hf
      subst this
      exact good_nilCheck hR hop (nilA_mono hH hb)
  | binOp op t x y t' => exact ev_bin hR hH hop he
  | unOp op t x =>
    simp only [evOp] at he
    split at he
    · rename_i b hx
      simp only [Option.bind_eq_some_iff] at he
      obtain ⟨r, hr, he⟩ := he
      cases he
      exact good_unOp hR hop hx hr
    · cases he
  | convert t d x =>
    simp only [evOp, Option.bind_eq_some_iff] at he
    obtain ⟨i, hi, j, hj, he⟩ := he
    exact ev_conv hR hH hop hi hj he
  | index t x ix =>
    simp only [evOp] at he
    split at he
    · rename_i b k n hx hix
      simp only [Option.bind_eq_some_iff, Option.ite_none_right_eq_some] at he
      obtain ⟨i, hi, c, hc, ⟨h0, hs⟩, he⟩ := he
      cases he
      exact good_index hR hop hix hx hi hs hc h0
    · cases he
  | slice t x lo hi mx =>
    simp only [evOp] at he
    split at he
    · simp only [Option.bind_eq_some_iff] at he
      obtain ⟨i, hi', he⟩ := he
      split at he
      · rename_i hs
        split at he
        · rename_i b hx
          simp only [evSlice, hx, Option.bind_eq_some_iff] at he
          obtain ⟨h, hh, l, hl, he⟩ := he
          cases he
          exact good_sliceStr hR hop hi' hs hx hh hl
        · cases he
      · simp only [Option.bind_eq_some_iff] at he
        obtain ⟨e, hel, he⟩ := he
        split at he
        · cases he
        · rename_i hns
          exact good_sliceRow (H := H) hR hH hop hi' hel (fun b hb => hns b hb) he
    · cases he
  | makeSlice t l c =>
    simp only [evOp, Option.bind_eq_some_iff] at he
    obtain ⟨i, hi, ⟨e, esz, eb⟩, hel, he⟩ := he
    split at he
    · rename_i n m hx hy
      simp only [Option.ite_none_right_eq_some, Option.bind_eq_some_iff] at he
      obtain ⟨⟨rfl, h0, h1, h2, h3⟩, z, hz, he⟩ := he
      split at he
      · cases he
      · rename_i hzz
        cases he
        simp only [not_or, Decidable.not_not, Bool.not_eq_false] at hzz
        exact good_makeSlice hR hid hop hi hel hz hx hy h0 h1 h2 h3 hzz.1 hzz.2
    · cases he
  | build t ps =>
    simp only [evOp, Option.bind_eq_some_iff] at he
    obtain ⟨i, hi, he⟩ := he
    exact good_build hR hH hop hi he
  | buildSlice t n ps =>
    simp only [evOp, Option.bind_eq_some_iff] at he
    obtain ⟨i, hi, ⟨e, esz, eb⟩, hel, z, hz, he⟩ := he
    exact good_buildSlice hR hid hH hop hi hel hz he
  | extract x k =>
    simp only [evOp] at he
    split at he
    · rename_i vs hx
      simp only [Option.bind_eq_some_iff] at he
      obtain ⟨r, hr, he⟩ := he
      cases he
      exact good_extract hR hop hx hr
    · cases he
  | makeMap t r =>
    simp only [evOp] at he
    split at he
    · cases he
      exact good_makeMap hR hid hop
    · cases he
  | lookup t m k ok =>
    simp only [evOp] at he
    split at he
    · rename_i q key hm hk
      split at he
      · rename_i l hq
        simp only [Option.bind_eq_some_iff, Option.ite_none_right_eq_some] at he
        obtain ⟨i, hi, p, hp, j, hj, z, hz, ⟨hs, hzz⟩, he⟩ := he
        cases he
        exact good_lookup hR hH hop hm hk hq hi hp hj hz hs hzz
      · cases he
    · cases he
  | mapUpdate t m k x =>
    simp only [evOp] at he
    split at he
    · rename_i q key n hm hk hx
      split at he
      · rename_i l hq
        simp only [Option.bind_eq_some_iff, Option.ite_none_right_eq_some] at he
        obtain ⟨i, hi, p, hp, j, hj, hs, he⟩ := he
        cases he
        exact good_mapUpdate hR hH hop hm hk hx hq hi hp hj hs
      · cases he
    · cases he
  | call c => exact ev_call hR hid hH hop he
  | _ => simp [evOp] at he
end

end Go.Proofs.YtnnmpdanfeejbaaGreat.Abs

/- The abstract machine: contracts of functions, and a call by a contract. -/
namespace Go.Proofs.YtnnmpdanfeejbaaGreat.Abs
open Go Go.RowKit
set_option linter.unusedVariables false
set_option linter.unusedSimpArgs false

/-- The same but for the marks of ownership. -/
inductive Sim : CV → CV → Prop
  | v (x) : Sim (.v x) (.v x)
  | row (k k' es es') : (es = [] → k' = true → k = true) → es.length = es'.length → (∀ (i : Nat) e e', es[i]? = some e → es'[i]? = some e' → e.length = e'.length) → (∀ (i j : Nat) e e' c c', es[i]? = some e → es'[i]? = some e' → e[j]? = some c → e'[j]? = some c' → Sim c c') → Sim (.row k es) (.row k' es')
  | ptr (cs cs' j) : cs.length = cs'.length → (∀ (j : Nat) c c', cs[j]? = some c → cs'[j]? = some c' → Sim c c') → Sim (.ptr cs j) (.ptr cs' j)

theorem RdR.sim {w : World} {T : Nat → Prop} {c : CV} {u : Value} (h : RdR w T c u) : ∀ {c' : CV}, Sim c c' → RdR w T c' u := by
  induction h with
  | v x hx => intro c' hs; cases hs; exact .v x hx
  | hole => intro c' hs; cases hs
  | nil k a c h0 =>
    intro c' hs
    cases hs with
    | row _ k' _ es' hk hl =>
      have : es' = [] := List.eq_nil_of_length_eq_zero (by simpa using hl.symm)
      subst this
      exact .nil _ _ _ (fun h => h0 (hk rfl h))
  | row k b off sz cap es arr ty fz us hT hb hs hm hc hz hu _ ih =>
    intro c' hsim
    cases hsim with
    | row _ k' _ es' hk hl hle hcc =>
      have := RdR.row (w := w) (T := T) k' b off sz cap es' arr ty fz us hT hb (fun e' he' => by
        obtain ⟨i, hi⟩ := List.getElem?_of_mem he'
        have hil := (List.getElem?_eq_some_iff.1 hi).1
        have hie := List.getElem?_eq_getElem (hl ▸ hil)
        rw [← hle i _ e' hie hi]
        exact hs _ (List.getElem_mem _)) (hl ▸ hm) (hl ▸ hc) (fun h1 h2 => by
        have h3 : es = [] := List.eq_nil_of_length_eq_zero (by rw [hl, h2]; rfl)
        exact hz (hk h3 h1) h3) (fun i j hi hj => hu i j (hl ▸ hi) hj) (fun i j e' c' he' hc' => by
        have hil := (List.getElem?_eq_some_iff.1 he').1
        have hie := List.getElem?_eq_getElem (hl ▸ hil)
        have hjl := (List.getElem?_eq_some_iff.1 hc').1
        rw [← hle i _ e' hie he'] at hjl
        have hje := List.getElem?_eq_getElem hjl
        exact ih i j _ _ hie hje (hcc i j _ e' _ c' hie he' hje hc'))
      rwa [← hl] at this
  | ptr b off cs j arr ty fz us hT hb hu _ ih =>
    intro c' hs
    cases hs with
    | ptr _ cs' _ hl hcc =>
      exact .ptr b off cs' j arr ty fz us hT hb (fun j hj => hu j (hl ▸ hj)) (fun j c' hc' => by
        have hjl := (List.getElem?_eq_some_iff.1 hc').1
        have hje := List.getElem?_eq_getElem (hl ▸ hjl)
        exact ih j _ hje (hcc j _ c' hje hc'))

/-- Objects by number, from 1 on. -/
def HpL (l : List (Option Ob)) : Hp := fun k => if k = 0 then none else (l[k - 1]?).join
def HpS (l : List Ob) : Hp := fun k => if k = 0 then none else l[k - 1]?

mutual
def renA (f : Nat → Nat) : AV → AV
  | .sl o n => .sl (f o) n
  | .pt o i j => .pt (f o) i j
  | .sv o a n => .sv (f o) a n
  | .mr o => .mr (f o)
  | .ag cs => .ag (renL f cs)
  | .tu cs => .tu (renL f cs)
  | .c x => .c x
  | .bw x => .bw x
  | .nul => .nul
  | .any => .any
def renL (f : Nat → Nat) : List AV → List AV
  | [] => []
  | x :: r => renA f x :: renL f r
end
theorem renL_map (f : Nat → Nat) (l : List AV) : renL f l = l.map (renA f) := by
  induction l with
  | nil => rfl
  | cons x r ih => rw [renL, ih]; rfl
def renO (f : Nat → Nat) : Ob → Ob
  | .box ty cs => .box ty (renL f cs)
  | .rw ty sz es => .rw ty sz es
  | .rx ty sz es i j v => .rx ty sz es i j (renA f v)
  | .mp m => .mp m

/-- A cell without shared memory below it. -/
inductive Own : CV → Prop
  | v (x) : Own (.v x)
  | row (es) : (∀ e ∈ es, ∀ c ∈ e, Own c) → Own (.row true es)
/-- What a call may hand back: references to its m objects; no shared memory, if bor is true. -/
inductive Rs (bor : Bool) (m : Nat) : AV → Prop
  | v (x) : Rs bor m (.c (.v x))
  | c (x) : bor = false → Rs bor m (.c x)
  | nul : Rs bor m .nul
  | any : Rs bor m .any
  | sl (o n) : 1 ≤ o → o ≤ m → Rs bor m (.sl o n)
  | pt (o i j) : 1 ≤ o → o ≤ m → Rs bor m (.pt o i j)
  | sv (o a n) : 1 ≤ o → o ≤ m → Rs bor m (.sv o a n)
  | mr (o) : 1 ≤ o → o ≤ m → Rs bor m (.mr o)
  | ag (cs) : (∀ c ∈ cs, Rs bor m c) → Rs bor m (.ag cs)
  | tu (cs) : (∀ c ∈ cs, Rs bor m c) → Rs bor m (.tu cs)
def RsOb (bor : Bool) (m : Nat) : Ob → Prop
  | .box _ cs => ∀ c ∈ cs, Rs bor m c
  | .rw _ _ es => bor = false ∨ ∀ e ∈ es, ∀ c ∈ e, Own c
  | .rx _ _ _ _ _ _ => False
  | .mp _ => True

def callable (P : Program) (f : Nat) : Bool := match P.funcs[f]? with
  | some fn => fn.body.isSome && !(fn.name == "runtime.NumGoroutine")
  | none => false

/-- A contract: of objects that are handed over (and may be changed) and arguments, to what comes back. -/
def CallOk (P : Program) (f : Nat) (Hin : List Ob) (args : List AV) (Post : AV → List (Option Ob) → Prop) : Prop :=
  callable P f = true ∧ ∀ (w : World) (E : Env) (vals : Array Value), (∀ k ob, HpS Hin k = some ob → LiveOb w E (HpS Hin) k ob) → (∀ b ℓ, E.loc b = some ℓ → b < w.heap.size) →
    vals.size = args.length → (∀ (i : Nat) x u, args[i]? = some x → vals[i]? = some u → RdV w E (HpS Hin) x u) →
    Calls P f vals w fun e w' => ∃ u r out E', e = .returned u ∧ Post r out ∧ RdV w' E' (HpL out) r u ∧ (∀ k ob, HpL out k = some ob → LiveOb w' E' (HpL out) k ob) ∧ Rs false out.length r ∧ (∀ ob, some ob ∈ out → RsOb false out.length ob) ∧ (∀ k x, HpS Hin k = some x → HpL out k = none ∨ (E'.rho k = E.rho k ∧ ∃ y, HpL out k = some y ∧ x.like y)) ∧
      Evo (Mut E) w w' ∧ (∀ b, b < w.heap.size → ¬ Mut E b → E'.loc b = E.loc b) ∧ (∀ b ℓ, E'.loc b = some ℓ → b < w'.heap.size)

/-- How an argument is seen by the callee: what is handed over by its number, all else only read. -/
inductive View (bor : Bool) (H : Hp) (ps : List Nat) : AV → AV → Prop
  | c (x x') : Sim x x' → View bor H ps (.c x) (.c x')
  | same (x) : View bor H ps (.c x) (.c x)
  | bw (x x') : bor = true → ps = [] → Sim x x' → View bor H ps (.bw x) (.c x')
  | nul : View bor H ps .nul .nul
  | nulR (k) : View bor H ps .nul (.c (.row k []))
  | any (x) : View bor H ps x .any
  | slP (o n k) : ps[k]? = some o → View bor H ps (.sl o n) (.sl (k + 1) n)
  | slB (o n ty sz es x') : bor = true → o ∉ ps → H o = some (.rw ty sz es) → n = es.length → Sim (.row true es) x' → View bor H ps (.sl o n) (.c x')
  | svP (o a n k) : ps[k]? = some o → View bor H ps (.sv o a n) (.sv (k + 1) a n)
  | svB (o a n ty sz es x') : bor = true → o ∉ ps → H o = some (.rw ty sz es) → a + n ≤ es.length → 0 < n → Sim (.row false ((es.take (a + n)).drop a)) x' → View bor H ps (.sv o a n) (.c x')
  | ptP (o i j k) : ps[k]? = some o → View bor H ps (.pt o i j) (.pt (k + 1) i j)
  | ptB (o j ty cs cs') : bor = true → o ∉ ps → H o = some (.box ty cs) → cs.length = cs'.length → (∀ (i : Nat) c c', cs[i]? = some c → cs'[i]? = some c' → View bor H ps c (.c c')) → View bor H ps (.pt o 0 j) (.c (.ptr cs' j))
  | ptE (o i j ty sz es e e') : bor = true → o ∉ ps → H o = some (.rw ty sz es) → es[i]? = some e → Sim (.ptr e j) (.ptr e' j) → View bor H ps (.pt o i j) (.c (.ptr e' j))
  | ag (cs cs') : cs.length = cs'.length → (∀ (i : Nat) c c', cs[i]? = some c → cs'[i]? = some c' → View bor H ps c c') → View bor H ps (.ag cs) (.ag cs')
/-- How an object that is handed over is seen. -/
def ViewO (bor : Bool) (H : Hp) (ps : List Nat) : Ob → Ob → Prop
  | .box ty cs, .box ty' cs' => ty = ty' ∧ cs.length = cs'.length ∧ ∀ (i : Nat) c c', cs[i]? = some c → cs'[i]? = some c' → View bor H ps c c'
  | .rw ty sz es, .rw ty' sz' es' => ty = ty' ∧ sz = sz' ∧ es = es'
  | _, _ => False

def Env.call (E : Env) (bor : Bool) (ps : List Nat) : Env :=
  ⟨fun k => if k = 0 then none else (ps[k - 1]?).bind E.rho, fun b => (E.loc b).bind fun ℓ => match ps.idxOf? ℓ.1 with
    | some k => some (k + 1, ℓ.2)
    | none => if bor then none else some (0, (ℓ.1, 0) :: ℓ.2)⟩

theorem idxOf_of_get {ps : List Nat} (hn : ps.Nodup) {k o : Nat} (h : ps[k]? = some o) : ps.idxOf? o = some k := by
  obtain ⟨hk, rfl⟩ := List.getElem?_eq_some_iff.1 h
  rw [List.idxOf?_eq_some_iff]
  refine ⟨hk, rfl, fun j hj => ?_⟩
  have h1 := List.pairwise_iff_getElem.1 hn j k (by omega) hk hj
  simpa using h1
theorem idxOf_none {ps : List Nat} {o : Nat} (h : o ∉ ps) : ps.idxOf? o = none := List.idxOf?_eq_none_iff.2 h
section
variable {P : Program} {nt : Nat} {I : Ini} {U : Nat → Prop} {s : ASt} {E : Env} {a : Act} {w : World} {bor : Bool} {ps : List Nat}

theorem call_t0 {b : Nat} (h : E.loc b = none) : (E.call bor ps).loc b = none := by simp [Env.call, h]
theorem call_bor {b o : Nat} {p : List (Nat × Nat)} (hb : bor = true) (ho : o ∉ ps) (h : E.loc b = some (o, p)) : (E.call bor ps).loc b = none := by simp [Env.call, h, idxOf_none ho, hb]
theorem call_pass (hn : ps.Nodup) {b o k : Nat} {p : List (Nat × Nat)} (ho : ps[k]? = some o) (h : E.loc b = some (o, p)) : (E.call bor ps).loc b = some (k + 1, p) := by simp [Env.call, h, idxOf_of_get hn ho]
theorem call_rho {o k : Nat} (ho : ps[k]? = some o) : (E.call bor ps).rho (k + 1) = E.rho o := by simp [Env.call, ho]

theorem View.ok (hR : RelE nt I U s E a w) (hn : ps.Nodup) {Hin : List Ob} (hin : ∀ (k o : Nat), ps[k]? = some o → ∃ ob ob', s.H o = some ob ∧ Hin[k]? = some ob' ∧ ViewO bor s.H ps ob ob') {x x' : AV} (hv : View bor s.H ps x x') :
    ∀ {u : Value}, RdV w E s.H x u → RdV w (E.call bor ps) (HpS Hin) x' u := by
  have hT0 : ∀ {x : CV} {u : Value}, RdR w E.T0 x u → RdR w (E.call bor ps).T0 x u := fun h => h.mono (fun b _ hb => ⟨rfl, call_t0 hb⟩)
  induction hv with
  | c x x' hs => intro u h; cases h with | c _ _ h => exact .c _ _ ((hT0 h).sim hs)
  | same x => intro u h; cases h with | c _ _ h => exact .c _ _ (hT0 h)
  | bw x x' hb hp hs =>
    intro u h
    cases h with
    | bw _ _ h =>
      refine .c _ _ (RdR.sim (h.mono (fun b _ hT => ⟨rfl, ?_⟩)) hs)
      subst hp hb
      cases hl : E.loc b with
      | none => exact call_t0 hl
      | some ℓ => exact call_bor rfl (by simp) hl
  | nul => intro u h; cases h; exact .nul
  | nulR k => intro u h; cases h; exact .c _ _ (.nil _ _ _ (fun _ => rfl))
  | any x => intro u h; exact .any _
  | slP o n k hk =>
    intro u h
    obtain ⟨ob, ob', h1, h2, h3⟩ := hin k o hk
    cases h with
    | slX _ _ _ h => rw [h1] at h; cases h
    | sl _ _ ty sz es b cap h hr =>
      rw [h1] at h
      cases h
      cases ob' with
      | box => exact h3.elim
      | rx => exact h3.elim
      | mp => exact h3.elim
      | rw ty' sz' es' => exact .sl (k + 1) n ty' sz' es' b cap (by simp [HpS, h2]) ((call_rho hk).trans hr)
    | slO _ _ _ _ _ _ _ _ _ _ h =>
      rw [h1] at h
      cases h
      cases ob' <;> exact h3.elim
    | slN _ ty sz h hr =>
      rw [h1] at h
      cases h
      cases ob' with
      | box => exact h3.elim
      | rx => exact h3.elim
      | mp => exact h3.elim
      | rw ty' sz' es' =>
        obtain ⟨rfl, rfl, rfl⟩ := h3
        exact .slN (k + 1) ty sz (by simp [HpS, h2]) ((call_rho hk).trans hr)
  | slB o n ty sz es x' hb ho hH hn' hs =>
    intro u h
    cases h with
    | slX _ _ _ h => rw [hH] at h; cases h
    | sl _ _ ty' sz' es' b cap h hr =>
      rw [hH] at h
      cases h
      rcases hR.live o _ hH with ⟨h1, _⟩ | ⟨b', cap', arr, us, h1, h2, ⟨ty3, h3⟩, h4, h5, h6, h7, h8, h9⟩
      · rw [h1] at hr; cases hr
      · rw [h1] at hr
        cases hr
        subst hn'
        refine .c _ _ (RdR.sim (RdR.row true b 0 sz cap es arr ty3 (0, 0) us (call_bor hb ho h2) h3 h7 (Nat.le_trans h5 h6.1) h5 (fun _ => h6.2) (fun i j hi hj => by rw [Nat.zero_add]; exact h8 i j hi hj) (fun i j e c he hc => ?_)) hs)
        exact (h9 i j e c he hc).toR (fun b' hb' => call_t0 hb') (fun b' q hq => call_bor hb ho hq)
    | slO _ _ _ _ _ _ _ _ _ _ h => rw [hH] at h; cases h
    | slN _ ty' sz' h hr =>
      rw [hH] at h
      cases h
      exact .c _ _ (RdR.sim (.nil true none 0 (fun _ => rfl)) hs)
  | svP o a n k hk =>
    intro u h
    obtain ⟨ob, ob', h1, h2, h3⟩ := hin k o hk
    cases h with
    | svX _ _ _ _ h => rw [h1] at h; cases h
    | sv _ _ _ ob2 b cap h hr =>
      rw [h1] at h
      cases h
      have : ob.sz = ob'.sz := by
        cases ob <;> cases ob' <;> first | rfl | exact h3.elim | exact h3.2.1
      rw [this]
      exact .sv (k + 1) a n ob' b cap (by simp [HpS, h2]) ((call_rho hk).trans hr)
  | svB o a0 n ty sz es x' hb ho hH hn0 hn1 hs =>
    intro u h
    cases h with
    | svX _ _ _ _ h => rw [hH] at h; cases h
    | sv _ _ _ ob2 b cap h hr =>
      rw [hH] at h
      cases h
      rcases hR.live o _ hH with ⟨h1, _⟩ | ⟨b', cap', arr, us, h1, h2, ⟨ty3, h3⟩, h4, h5, h6, h7, h8, h9⟩
      · rw [h1] at hr; cases hr
      · rw [h1] at hr
        cases hr
        have key := cut_row (T := (E.call bor ps).T0) (off := 0) (h := a0 + n) (l := a0) (m := cap - a0) (us := us) (call_bor hb ho h2) h3 h7 (Nat.le_trans h5 h6.1) (fun i j hi hj => by rw [Nat.zero_add]; exact h8 i j hi hj) (fun i j e c he hc => (h9 i j e c he hc).toR (fun b' hb' => call_t0 hb') (fun b' q hq => call_bor hb ho hq)) hn0 (by omega) (by omega)
        rw [Nat.zero_add, Nat.add_sub_cancel_left] at key
        exact .c _ _ (RdR.sim key hs)
  | ptP o i j k hk =>
    intro u h
    obtain ⟨ob, ob', h1, h2, h3⟩ := hin k o hk
    cases h with
    | ptX _ _ _ _ h => rw [h1] at h; cases h
    | pt _ _ _ ob2 b cap h hr =>
      rw [h1] at h
      cases h
      have : ob.sz = ob'.sz := by
        cases ob <;> cases ob' <;> first | rfl | exact h3.elim | exact h3.2.1
      rw [this]
      exact .pt (k + 1) i j ob' b cap (by simp [HpS, h2]) ((call_rho hk).trans hr)
  | ptB o j ty cs cs' hb ho hH hl hcc ih =>
    intro u h
    obtain ⟨b, arr, us, h1, h2, h3, h4, h5, h6⟩ := hR.live o _ hH
    cases h with
    | ptX _ _ _ _ h => rw [hH] at h; cases h
    | pt _ _ _ ob2 b' cap h hr =>
      rw [hH] at h
      cases h
      rw [h1] at hr
      cases hr
      simp only [Ob.sz, Nat.zero_mul, Nat.zero_add]
      have key := RdR.ptr (w := w) (T := (E.call bor ps).T0) b 0 cs' j arr ty (0, 0) us (call_bor hb ho h2) h3 (fun i hi => by rw [Nat.zero_add]; exact h5 i (hl ▸ hi)) (fun i c' hc' => by
        have hil := (List.getElem?_eq_some_iff.1 hc').1
        have hie := List.getElem?_eq_getElem (hl ▸ hil)
        have := ih i _ c' hie hc' (h6 i _ hie)
        cases this with
        | c _ _ h => exact h)
      rw [Nat.zero_add] at key
      exact .c _ _ key
  | ptE o i j ty sz es e e' hb ho hH he hs =>
    intro u h
    cases h with
    | ptX _ _ _ _ h => rw [hH] at h; cases h
    | pt _ _ _ ob2 b cap h hr =>
      rw [hH] at h
      cases h
      rcases hR.live o _ hH with ⟨h1, _⟩ | ⟨b', cap', arr, us, h1, h2, ⟨ty3, h3⟩, h4, h5, h6, h7, h8, h9⟩
      · rw [h1] at hr; cases hr
      · rw [h1] at hr
        cases hr
        have hil := (List.getElem?_eq_some_iff.1 he).1
        have hel := h7 e (List.mem_of_getElem? he)
        exact .c _ _ (RdR.sim (RdR.ptr b (i * sz) e j arr ty3 (0, 0) (us i) (call_bor hb ho h2) h3 (fun j hj => h8 i j hil (hel ▸ hj)) (fun j c hc => (h9 i j e c he hc).toR (fun b' hb' => call_t0 hb') (fun b' q hq => call_bor hb ho hq))) hs)
  | ag cs cs' hl hcc ih =>
    intro u h
    cases h with
    | ag _ us hs hi =>
      refine .ag _ _ (hs.trans hl) (fun i c' y hc' hy => ?_)
      have hil := (List.getElem?_eq_some_iff.1 hc').1
      have hie := List.getElem?_eq_getElem (hl ▸ hil)
      exact ih i _ c' hie hc' (hi i _ y hie hy)

theorem ViewO.live (hR : RelE nt I U s E a w) (hn : ps.Nodup) {Hin : List Ob} (hin : ∀ (k o : Nat), ps[k]? = some o → ∃ ob ob', s.H o = some ob ∧ Hin[k]? = some ob' ∧ ViewO bor s.H ps ob ob') (hl : Hin.length = ps.length) :
    ∀ k ob, HpS Hin k = some ob → LiveOb w (E.call bor ps) (HpS Hin) k ob := by
  intro k ob hk
  unfold HpS at hk
  split at hk
  · cases hk
  · rename_i hk0
    obtain ⟨k, rfl⟩ : ∃ m, k = m + 1 := ⟨k - 1, by omega⟩
    simp only [Nat.add_sub_cancel] at hk
    have hkl := (List.getElem?_eq_some_iff.1 hk).1
    have hp := List.getElem?_eq_getElem (l := ps) (hl ▸ hkl)
    obtain ⟨ob1, ob', h1, h2, h3⟩ := hin k _ hp
    rw [hk] at h2
    cases h2
    have h4 := hR.live _ _ h1
    cases ob1 with
    | rx => exact h3.elim
    | mp => exact h3.elim
    | box ty cs =>
      cases ob with
      | rw => exact h3.elim
      | rx => exact h3.elim
      | mp => exact h3.elim
      | box ty' cs' =>
        obtain ⟨rfl, hlc, hv⟩ := h3
        obtain ⟨b, arr, us, g1, g2, g3, g4, g5, g6⟩ := h4
        refine ⟨b, arr, us, (call_rho hp).trans g1, call_pass hn hp g2, g3, g4.trans hlc, fun j hj => g5 j (hlc ▸ hj), fun j c' hc' => ?_⟩
        have hil := (List.getElem?_eq_some_iff.1 hc').1
        have hie := List.getElem?_eq_getElem (hlc ▸ hil)
        exact (hv j _ c' hie hc').ok hR hn hin (g6 j _ hie)
    | rw ty sz es =>
      cases ob with
      | box => exact h3.elim
      | rx => exact h3.elim
      | mp => exact h3.elim
      | rw ty' sz' es' =>
        obtain ⟨rfl, rfl, rfl⟩ := h3
        rcases h4 with ⟨g1, g2⟩ | ⟨b, cap, arr, us, g1, g2, g3, g4, g5, g6, g7, g8, g9⟩
        · exact .inl ⟨(call_rho hp).trans g1, g2⟩
        · exact .inr ⟨b, cap, arr, us, (call_rho hp).trans g1, call_pass hn hp g2, g3, g4, g5, g6, g7, g8, fun i j e c he hc => (g9 i j e c he hc).relabel (k + 1, [(i, j)]) (fun b' _ hb' => ⟨rfl, call_t0 hb'⟩) (fun b' q _ hq => ⟨rfl, call_pass hn hp hq⟩)⟩
end

end Go.Proofs.YtnnmpdanfeejbaaGreat.Abs

/- The abstract machine: what stands behind a call by a contract. -/
namespace Go.Proofs.YtnnmpdanfeejbaaGreat.Abs
open Go Go.RowKit
set_option linter.unusedVariables false
set_option linter.unusedSimpArgs false

mutual
def killA : AV → AV
  | .bw _ => .any
  | .ag cs => .ag (killL cs)
  | .tu cs => .tu (killL cs)
  | .c x => .c x
  | .nul => .nul
  | .any => .any
  | .sl o n => .sl o n
  | .pt o i j => .pt o i j
  | .sv o a n => .sv o a n
  | .mr o => .mr o
def killL : List AV → List AV
  | [] => []
  | x :: r => killA x :: killL r
end
theorem killL_map (l : List AV) : killL l = l.map killA := by
  induction l with
  | nil => rfl
  | cons x r ih => rw [killL, ih]; rfl
def killO : Ob → Ob
  | .box ty cs => .box ty (killL cs)
  | .rw ty sz es => .rw ty sz es
  | .rx ty sz es i j v => .rx ty sz es i j (killA v)
  | .mp m => .mp m
def klA (ps : List Nat) (x : AV) : AV := if ps.isEmpty then x else killA x
def kl (ps : List Nat) (t : Nat → AV) : Nat → AV := if ps.isEmpty then t else fun k => killA (t k)
def klH (ps : List Nat) (H : Hp) : Hp := if ps.isEmpty then H else fun k => (H k).map killO
theorem kl_at (ps : List Nat) (t : Nat → AV) (k : Nat) : kl ps t k = klA ps (t k) := by unfold kl klA; split <;> rfl

/-- The caller's number of an object of the contract's. -/
def rn (ps : List Nat) (id : Nat) (k : Nat) : Nat := if k = 0 then 0 else (ps[k - 1]?).getD (id + (k - 1 - ps.length))
def callObjs (ps : List Nat) (id : Nat) : Nat → List (Option Ob) → List (Nat × Option Ob)
  | _, [] => []
  | k, x :: r => (rn ps id (k + 1), x.map (renO (rn ps id))) :: callObjs ps id (k + 1) r

theorem rn_pass {ps : List Nat} {id k o : Nat} (h : ps[k]? = some o) : rn ps id (k + 1) = o := by simp [rn, h]
theorem rn_new {ps : List Nat} {id k : Nat} (h : ps.length ≤ k) : rn ps id (k + 1) = id + (k - ps.length) := by
  have : ps[k]? = none := List.getElem?_eq_none h
  simp [rn, this]

theorem callObjs_mem {ps : List Nat} {id : Nat} : ∀ {l : List (Option Ob)} {k : Nat} {x : Nat × Option Ob}, x ∈ callObjs ps id k l → ∃ j y, l[j]? = some y ∧ x = (rn ps id (k + j + 1), y.map (renO (rn ps id)))
  | [], k, x, h => by simp [callObjs] at h
  | y :: r, k, x, h => by
    unfold callObjs at h
    rcases List.mem_cons.1 h with rfl | h
    · exact ⟨0, y, rfl, rfl⟩
    · obtain ⟨j, z, hj, hx⟩ := callObjs_mem h
      exact ⟨j + 1, z, hj, by rw [hx]; congr 2; omega⟩
theorem callObjs_in {ps : List Nat} {id : Nat} : ∀ {l : List (Option Ob)} {k j : Nat} {y : Option Ob}, l[j]? = some y → (rn ps id (k + j + 1), y.map (renO (rn ps id))) ∈ callObjs ps id k l
  | [], k, j, y, h => by simp at h
  | z :: r, k, 0, y, h => by
    simp at h
    subst h
    exact List.mem_cons_self ..
  | z :: r, k, j + 1, y, h => by
    have := callObjs_in (ps := ps) (id := id) (k := k + 1) (l := r) (j := j) (y := y) (by simpa using h)
    rw [show k + 1 + j + 1 = k + (j + 1) + 1 by omega] at this
    exact List.mem_cons_of_mem _ this
theorem updL_uniq {H : Hp} : ∀ {l : List (Nat × Option Ob)} {x : Nat × Option Ob}, x ∈ l → (∀ y ∈ l, y.1 = x.1 → y = x) → updL H l x.1 = x.2
  | [], x, h, _ => by simp at h
  | z :: r, x, h, hu => by
    by_cases hr : x ∈ r
    · exact updL_uniq (H := upd H z.1 z.2) hr (fun y hy => hu y (List.mem_cons_of_mem _ hy))
    · have hz : x = z := (List.mem_cons.1 h).resolve_right hr
      subst hz
      show updL (upd H x.1 x.2) r x.1 = x.2
      rw [updL_out (fun y hy e => hr (hu y (List.mem_cons_of_mem _ hy) e ▸ hy)), upd_same]

theorem RdV.kill {U : Nat → Prop} {w w' : World} {E E' : Env} {H H' : Hp} (t0 : ∀ b, b < w.heap.size → E.loc b = none → w'.heap[b]? = w.heap[b]? ∧ E'.loc b = none)
    (ob : ∀ o, U o → H' o = none ∨ (E'.rho o = E.rho o ∧ ∃ x y, H o = some x ∧ H' o = some y ∧ x.like y)) {v : AV} {u : Value} (h : RdV w E H v u) (hm : Mn U v) : RdV w' E' H' (killA v) u := by
  induction h with
  | c x u h => exact .c x u (h.mono t0)
  | bw x u h => exact .any u
  | nul => exact .nul
  | any u => exact .any u
  | slX o n u h =>
    obtain _ | _ | _ | _ | ⟨_, _, hu⟩ := hm
    rcases ob o hu with h' | ⟨_, x, _, hx, _⟩
    · exact .slX o n u h'
    · rw [h] at hx; cases hx
  | sl o n ty sz es b cap h hr =>
    obtain _ | _ | _ | _ | ⟨_, _, hu⟩ := hm
    rcases ob o hu with h' | ⟨hr', x, y, hx, hy, hl⟩
    · exact .slX o n _ h'
    · rw [h] at hx
      cases hx
      cases y with
      | box => exact hl.elim
      | mp => exact hl.elim
      | rx ty' sz' es' i j v => exact .slO o n ty' sz' es' i j v b cap hy (hr'.trans hr)
      | rw ty' sz' es' => exact .sl o n ty' sz' es' b cap hy (hr'.trans hr)
  | slO o n ty sz es i j v b cap h hr =>
    obtain _ | _ | _ | _ | ⟨_, _, hu⟩ := hm
    rcases ob o hu with h' | ⟨hr', x, y, hx, hy, hl⟩
    · exact .slX o n _ h'
    · rw [h] at hx
      cases hx
      cases y with
      | box => exact hl.elim
      | mp => exact hl.elim
      | rx ty' sz' es' i j v => exact .slO o n ty' sz' es' i j v b cap hy (hr'.trans hr)
      | rw ty' sz' es' => exact .sl o n ty' sz' es' b cap hy (hr'.trans hr)
  | svX o a n u h =>
    obtain _ | _ | _ | _ | _ | _ | ⟨_, _, _, hu⟩ := hm
    rcases ob o hu with h' | ⟨_, x, _, hx, _⟩
    · exact .svX o a n u h'
    · rw [h] at hx; cases hx
  | sv o a n obb b cap h hr =>
    obtain _ | _ | _ | _ | _ | _ | ⟨_, _, _, hu⟩ := hm
    rcases ob o hu with h' | ⟨hr', x, y, hx, hy, hl⟩
    · exact .svX o a n _ h'
    · rw [h] at hx
      cases hx
      rw [hl.sz]
      exact .sv o a n y b cap hy (hr'.trans hr)
  | mrX o u h =>
    obtain _ | _ | _ | _ | _ | _ | _ | ⟨_, hu⟩ := hm
    rcases ob o hu with h' | ⟨_, x, _, hx, _⟩
    · exact .mrX o u h'
    · rw [h] at hx; cases hx
  | mr o m b cap h hr =>
    obtain _ | _ | _ | _ | _ | _ | _ | ⟨_, hu⟩ := hm
    rcases ob o hu with h' | ⟨hr', x, y, hx, hy, hl⟩
    · exact .mrX o _ h'
    · rw [h] at hx
      cases hx
      cases y with
      | box => exact hl.elim
      | rw => exact hl.elim
      | rx => exact hl.elim
      | mp m' => exact .mr o m' b cap hy (hr'.trans hr)
  | slN o ty sz h hr =>
    obtain _ | _ | _ | _ | ⟨_, _, hu⟩ := hm
    rcases ob o hu with h' | ⟨hr', x, y, hx, hy, hl⟩
    · exact .slX o 0 _ h'
    · rw [h] at hx
      cases hx
      cases y with
      | box => exact hl.elim
      | mp => exact hl.elim
      | rx => exact absurd rfl hl.2
      | rw ty' sz' es' =>
        have := hl.2.1 rfl
        subst this
        exact .slN o ty' sz' hy (hr'.trans hr)
  | ptX o i j u h =>
    obtain _ | _ | _ | _ | _ | ⟨_, _, _, hu⟩ := hm
    rcases ob o hu with h' | ⟨_, x, _, hx, _⟩
    · exact .ptX o i j u h'
    · rw [h] at hx; cases hx
  | pt o i j obb b cap h hr =>
    obtain _ | _ | _ | _ | _ | ⟨_, _, _, hu⟩ := hm
    rcases ob o hu with h' | ⟨hr', x, y, hx, hy, hl⟩
    · exact .ptX o i j _ h'
    · rw [h] at hx
      cases hx
      rw [hl.sz]
      exact .pt o i j y b cap hy (hr'.trans hr)
  | ag cs us hs _ ih =>
    cases hm with
    | ag _ hm =>
      show RdV _ _ _ (.ag (killL cs)) _
      rw [killL_map]
      refine .ag _ us (by simpa using hs) (fun i c u hc hu => ?_)
      rw [List.getElem?_map, Option.map_eq_some_iff] at hc
      obtain ⟨c', hc', rfl⟩ := hc
      exact ih i c' u hc' hu (hm c' (List.mem_of_getElem? hc'))
  | tu cs us hs _ ih =>
    cases hm with
    | tu _ hm =>
      show RdV _ _ _ (.tu (killL cs)) _
      rw [killL_map]
      refine .tu _ us (by simpa using hs) (fun i c u hc hu => ?_)
      rw [List.getElem?_map, Option.map_eq_some_iff] at hc
      obtain ⟨c', hc', rfl⟩ := hc
      exact ih i c' u hc' hu (hm c' (List.mem_of_getElem? hc'))

theorem Mn.kill {U : Nat → Prop} {v : AV} (h : Mn U v) : Mn U (killA v) := by
  induction h with
  | c x => exact .c x
  | bw x => exact .any
  | nul => exact .nul
  | any => exact .any
  | sl o n h => exact .sl o n h
  | pt o i j h => exact .pt o i j h
  | sv o a n h => exact .sv o a n h
  | mr o h => exact .mr o h
  | ag cs _ ih =>
    show Mn U (.ag (killL cs))
    rw [killL_map]
    refine .ag _ (fun c hc => ?_)
    obtain ⟨c', hc', rfl⟩ := List.mem_map.1 hc
    exact ih c' hc'
  | tu cs _ ih =>
    show Mn U (.tu (killL cs))
    rw [killL_map]
    refine .tu _ (fun c hc => ?_)
    obtain ⟨c', hc', rfl⟩ := List.mem_map.1 hc
    exact ih c' hc'

/-- The contract's values, by the caller's numbers. -/
theorem RdV.ren {w : World} {E E' : Env} {H H' : Hp} {bor : Bool} {m : Nat} {f : Nat → Nat} (t0 : bor = false → ∀ b, b < w.heap.size → E.loc b = none → E'.loc b = none)
    (ob : ∀ k, 1 ≤ k → k ≤ m → H k = none ∧ H' (f k) = none ∨ (E'.rho (f k) = E.rho k ∧ ∃ x y, H k = some x ∧ H' (f k) = some y ∧ x.like y)) {v : AV} {u : Value} (h : RdV w E H v u) (hm : Rs bor m v) : RdV w E' H' (renA f v) u := by
  induction h with
  | c x u h =>
    cases hm with
    | v x => cases h with | v _ h => exact .c _ _ (.v _ h)
    | c _ hb => exact .c _ _ (h.mono (fun b hb' h0 => ⟨rfl, t0 hb b hb' h0⟩))
  | bw x u h => cases hm
  | nul => exact .nul
  | any u => exact .any u
  | slX o n u h =>
    cases hm with
    | sl _ _ h1 h2 =>
      rcases ob o h1 h2 with h' | ⟨_, x, _, hx, _⟩
      · exact .slX _ n u h'.2
      · rw [h] at hx; cases hx
  | sl o n ty sz es b cap h hr =>
    cases hm with
    | sl _ _ h1 h2 =>
      rcases ob o h1 h2 with h' | ⟨hr', x, y, hx, hy, hl⟩
      · exact .slX _ n _ h'.2
      · rw [h] at hx
        cases hx
        cases y with
        | box => exact hl.elim
        | mp => exact hl.elim
        | rx ty' sz' es' i j v => exact .slO _ n ty' sz' es' i j v b cap hy (hr'.trans hr)
        | rw ty' sz' es' => exact .sl _ n ty' sz' es' b cap hy (hr'.trans hr)
  | slO o n ty sz es i j v b cap h hr =>
    cases hm with
    | sl _ _ h1 h2 =>
      rcases ob o h1 h2 with h' | ⟨hr', x, y, hx, hy, hl⟩
      · exact .slX _ n _ h'.2
      · rw [h] at hx
        cases hx
        cases y with
        | box => exact hl.elim
        | mp => exact hl.elim
        | rx ty' sz' es' i j v => exact .slO _ n ty' sz' es' i j v b cap hy (hr'.trans hr)
        | rw ty' sz' es' => exact .sl _ n ty' sz' es' b cap hy (hr'.trans hr)
  | svX o a n u h =>
    cases hm with
    | sv _ _ _ h1 h2 =>
      rcases ob o h1 h2 with h' | ⟨_, x, _, hx, _⟩
      · exact .svX _ a n u h'.2
      · rw [h] at hx; cases hx
  | sv o a n obb b cap h hr =>
    cases hm with
    | sv _ _ _ h1 h2 =>
      rcases ob o h1 h2 with h' | ⟨hr', x, y, hx, hy, hl⟩
      · exact .svX _ a n _ h'.2
      · rw [h] at hx
        cases hx
        rw [hl.sz]
        exact .sv _ a n y b cap hy (hr'.trans hr)
  | mrX o u h =>
    cases hm with
    | mr _ h1 h2 =>
      rcases ob o h1 h2 with h' | ⟨_, x, _, hx, _⟩
      · exact .mrX _ u h'.2
      · rw [h] at hx; cases hx
  | mr o m b cap h hr =>
    cases hm with
    | mr _ h1 h2 =>
      rcases ob o h1 h2 with h' | ⟨hr', x, y, hx, hy, hl⟩
      · exact .mrX _ _ h'.2
      · rw [h] at hx
        cases hx
        cases y with
        | box => exact hl.elim
        | rw => exact hl.elim
        | rx => exact hl.elim
        | mp m' => exact .mr _ m' b cap hy (hr'.trans hr)
  | slN o ty sz h hr =>
    cases hm with
    | sl _ _ h1 h2 =>
      rcases ob o h1 h2 with h' | ⟨hr', x, y, hx, hy, hl⟩
      · exact .slX _ 0 _ h'.2
      · rw [h] at hx
        cases hx
        cases y with
        | box => exact hl.elim
        | mp => exact hl.elim
        | rx => exact absurd rfl hl.2
        | rw ty' sz' es' =>
          have := hl.2.1 rfl
          subst this
          exact .slN _ ty' sz' hy (hr'.trans hr)
  | ptX o i j u h =>
    cases hm with
    | pt _ _ _ h1 h2 =>
      rcases ob o h1 h2 with h' | ⟨_, x, _, hx, _⟩
      · exact .ptX _ i j u h'.2
      · rw [h] at hx; cases hx
  | pt o i j obb b cap h hr =>
    cases hm with
    | pt _ _ _ h1 h2 =>
      rcases ob o h1 h2 with h' | ⟨hr', x, y, hx, hy, hl⟩
      · exact .ptX _ i j _ h'.2
      · rw [h] at hx
        cases hx
        rw [hl.sz]
        exact .pt _ i j y b cap hy (hr'.trans hr)
  | ag cs us hs _ ih =>
    cases hm with
    | ag _ hm =>
      show RdV _ _ _ (.ag (renL f cs)) _
      rw [renL_map]
      refine .ag _ us (by simpa using hs) (fun i c u hc hu => ?_)
      rw [List.getElem?_map, Option.map_eq_some_iff] at hc
      obtain ⟨c', hc', rfl⟩ := hc
      exact ih i c' u hc' hu (hm c' (List.mem_of_getElem? hc'))
  | tu cs us hs _ ih =>
    cases hm with
    | tu _ hm =>
      show RdV _ _ _ (.tu (renL f cs)) _
      rw [renL_map]
      refine .tu _ us (by simpa using hs) (fun i c u hc hu => ?_)
      rw [List.getElem?_map, Option.map_eq_some_iff] at hc
      obtain ⟨c', hc', rfl⟩ := hc
      exact ih i c' u hc' hu (hm c' (List.mem_of_getElem? hc'))
theorem Rs.mn {bor : Bool} {m : Nat} {U : Nat → Prop} {f : Nat → Nat} (hf : ∀ k, 1 ≤ k → k ≤ m → U (f k)) {v : AV} (h : Rs bor m v) : Mn U (renA f v) := by
  induction h with
  | v x => exact .c _
  | c x _ => exact .c x
  | nul => exact .nul
  | any => exact .any
  | sl o n h1 h2 => exact .sl _ n (hf o h1 h2)
  | pt o i j h1 h2 => exact .pt _ i j (hf o h1 h2)
  | sv o a n h1 h2 => exact .sv _ a n (hf o h1 h2)
  | mr o h1 h2 => exact .mr _ (hf o h1 h2)
  | ag cs _ ih =>
    show Mn U (.ag (renL f cs))
    rw [renL_map]
    refine .ag _ (fun c hc => ?_)
    obtain ⟨c', hc', rfl⟩ := List.mem_map.1 hc
    exact ih c' hc'
  | tu cs _ ih =>
    show Mn U (.tu (renL f cs))
    rw [renL_map]
    refine .tu _ (fun c hc => ?_)
    obtain ⟨c', hc', rfl⟩ := List.mem_map.1 hc
    exact ih c' hc'

/-- Owned cells move whatever becomes of the memory that is shared. -/
theorem RdC.own_relabel {w : World} {loc loc' : Nat → Option Loc} {ℓ : Loc} {c : CV} {u : Value} (h : RdC w loc ℓ c u) : Own c →
    ∀ ℓ' : Loc, (∀ b q, b < w.heap.size → loc b = some (ℓ.1, ℓ.2 ++ q) → loc' b = some (ℓ'.1, ℓ'.2 ++ q)) → RdC w loc' ℓ' c u := by
  induction h with
  | im ℓ c u h hi =>
    intro ho ℓ' h1
    cases ho with
    | v x => cases h with | v _ h => exact .im _ _ _ (.v _ h) rfl
    | row es _ => simp [CV.im] at hi
  | nil ℓ => exact fun _ ℓ' _ => .nil ℓ'
  | own ℓ b sz cap es arr ty us hl hb hz hc hm hs hu _ ih =>
    intro ho ℓ' h1
    cases ho with
    | row _ hown =>
      have hh := h1 b [] (RdR.lt hb) (by rw [hl]; simp)
      refine .own ℓ' b sz cap es arr ty us (by simpa using hh) hb hz hc hm hs hu (fun i j e c he hc' => ih i j e c he hc' (hown e (List.mem_of_getElem? he) c (List.mem_of_getElem? hc')) _ (fun b' q hb' hq => ?_))
      have := h1 b' ((i, j) :: q) hb' (by rw [hq]; simp)
      simpa using this
end Go.Proofs.YtnnmpdanfeejbaaGreat.Abs

/- The abstract machine: a call by a contract. -/
namespace Go.Proofs.YtnnmpdanfeejbaaGreat.Abs
open Go Go.RowKit
set_option linter.unusedVariables false
set_option linter.unusedSimpArgs false

def after (nt : Nat) (s : ASt) (ps : List Nat) (id : Nat) (d : Option Nat) (r : AV) (out : List (Option Ob)) : ASt :=
  { t := putT nt (kl ps s.t) d (renA (rn ps id) r), H := updL (klH ps s.H) (callObjs ps id 0 out), c := s.c }

open Classical in
noncomputable def Env.back (E : Env) (w : World) (bor : Bool) (ps : List Nat) (id m : Nat) (E' : Env) : Env :=
  ⟨fun o => match (List.range m).find? (fun k => rn ps id (k + 1) == o) with
    | some k => E'.rho (k + 1)
    | none => E.rho o, fun b => if b < w.heap.size ∧ ¬ Mut (E.call bor ps) b then E.loc b else (E'.loc b).map fun ℓ => (rn ps id ℓ.1, ℓ.2)⟩

section
variable {P : Program} {nt : Nat} {I : Ini} {U : Nat → Prop} {s : ASt} {E : Env} {a : Act} {w : World} {bor : Bool} {ps : List Nat}

theorem mut_call (hn : ps.Nodup) {b : Nat} : Mut (E.call bor ps) b ↔ ∃ o p, E.loc b = some (o, p) ∧ o ∈ ps := by
  constructor
  · rintro ⟨k, p, h, hk⟩
    simp only [Env.call, Option.bind_eq_some_iff] at h
    obtain ⟨⟨o, q⟩, h1, h2⟩ := h
    refine ⟨o, q, h1, ?_⟩
    by_cases ho : o ∈ ps
    · exact ho
    · simp only [idxOf_none ho] at h2
      split at h2
      · cases h2
      · cases h2
        exact absurd rfl hk
  · rintro ⟨o, p, h, ho⟩
    obtain ⟨k, hk⟩ := List.getElem?_of_mem ho
    exact ⟨k + 1, p, call_pass hn hk h, by omega⟩

theorem klH_some {H : Hp} {o : Nat} {ob : Ob} (h : klH ps H o = some ob) : ∃ x, H o = some x ∧ (ps.isEmpty = true ∧ ob = x ∨ ps.isEmpty = false ∧ ob = killO x) := by
  unfold klH at h
  split at h
  · rename_i he; exact ⟨ob, h, .inl ⟨he, rfl⟩⟩
  · rename_i he
    simp only [Option.map_eq_some_iff] at h
    obtain ⟨x, hx, rfl⟩ := h
    exact ⟨x, hx, .inr ⟨by simpa using he, rfl⟩⟩
theorem killO_like (x : Ob) : x.like (killO x) := by cases x <;> simp [killO, Ob.like]
theorem renO_like (f : Nat → Nat) (x : Ob) : x.like (renO f x) := by cases x <;> simp [renO, Ob.like]
theorem ViewO.like {H : Hp} {x y : Ob} (h : ViewO bor H ps x y) : x.like y := by
  cases x <;> cases y <;> first | exact h.elim | trivial | (obtain ⟨rfl, rfl, rfl⟩ := h; exact Ob.like.refl _)

theorem call_after (hR : RelE nt I U s E a w) (hn : ps.Nodup) {Hin : List Ob} (hin : ∀ (k o : Nat), ps[k]? = some o → ∃ ob ob', s.H o = some ob ∧ Hin[k]? = some ob' ∧ ViewO bor s.H ps ob ob') (hl : Hin.length = ps.length)
    {id : Nat} (hid : ∀ j, j < 8 → ¬ U (id + j)) {w' : World} {u : Value} {r : AV} {out : List (Option Ob)} {E' : Env} (hm1 : ps.length ≤ out.length) (hm2 : out.length ≤ ps.length + 8)
    (hr : RdV w' E' (HpL out) r u) (hlive : ∀ k ob, HpL out k = some ob → LiveOb w' E' (HpL out) k ob) (hrs : Rs bor out.length r) (hros : ∀ ob, some ob ∈ out → RsOb bor out.length ob)
    (hpas : ∀ k x, HpS Hin k = some x → HpL out k = none ∨ (E'.rho k = (E.call bor ps).rho k ∧ ∃ y, HpL out k = some y ∧ x.like y)) (hevo : Evo (Mut (E.call bor ps)) w w')
    (hold : ∀ b, b < w.heap.size → ¬ Mut (E.call bor ps) b → E'.loc b = (E.call bor ps).loc b) (hlt : ∀ b ℓ, E'.loc b = some ℓ → b < w'.heap.size) (d : Option Nat) :
    RelE nt I (fun o => U o ∨ ∃ j, j < 8 ∧ o = id + j) (after nt s ps id d r out) (E.back w bor ps id out.length E') (a.put d u) w' := by
  have hpl : ∀ k, k < ps.length → ∃ o, ps[k]? = some o ∧ U o ∧ o ≠ 0 ∧ rn ps id (k + 1) = o := fun k hk => by
    have hp := List.getElem?_eq_getElem hk
    obtain ⟨ob, ob', h1, h2, h3⟩ := hin k _ hp
    refine ⟨ps[k], hp, (hR.mnH _ _ h1).1, fun e => ?_, rn_pass hp⟩
    rw [e, hR.h0] at h1
    cases h1
  have hnew : ∀ k, ps.length ≤ k → k < out.length → rn ps id (k + 1) = id + (k - ps.length) ∧ ¬ U (rn ps id (k + 1)) ∧ k - ps.length < 8 := fun k h1 h2 => by
    have := rn_new (id := id) h1
    refine ⟨this, ?_, by omega⟩
    rw [this]
    exact hid _ (by omega)
  have hinj : ∀ k j, k < out.length → j < out.length → rn ps id (k + 1) = rn ps id (j + 1) → k = j := fun k j hk hj e => by
    by_cases h1 : k < ps.length <;> by_cases h2 : j < ps.length
    · obtain ⟨o, a1, a2, a3, a4⟩ := hpl k h1
      obtain ⟨o', b1, b2, b3, b4⟩ := hpl j h2
      have : o = o' := by rw [← a4, ← b4, e]
      subst this
      have e1 := idxOf_of_get hn a1
      have e2 := idxOf_of_get hn b1
      rw [e1] at e2
      exact Option.some.inj e2
    · obtain ⟨o, a1, a2, a3, a4⟩ := hpl k h1
      obtain ⟨b1, b2, b3⟩ := hnew j (by omega) hj
      exact absurd (by rw [← e, a4]; exact a2) b2
    · obtain ⟨o, a1, a2, a3, a4⟩ := hpl j h2
      obtain ⟨b1, b2, b3⟩ := hnew k (by omega) hk
      exact absurd (by rw [e, a4]; exact a2) b2
    · obtain ⟨b1, b2, b3⟩ := hnew k (by omega) hk
      obtain ⟨c1, c2, c3⟩ := hnew j (by omega) hj
      omega
  have hrho : ∀ k, k < out.length → (E.back w bor ps id out.length E').rho (rn ps id (k + 1)) = E'.rho (k + 1) := fun k hk => by
    have : (List.range out.length).find? (fun j => rn ps id (j + 1) == rn ps id (k + 1)) = some k := by
      rw [List.find?_range_eq_some]
      refine ⟨by simp, by simpa using hk, fun j hj => ?_⟩
      simp only [Bool.not_eq_true', beq_eq_false_iff_ne, ne_eq]
      intro e
      have := hinj j k (by omega) hk e
      omega
    simp only [Env.back, this]
  have hrho' : ∀ o, (∀ k, k < out.length → rn ps id (k + 1) ≠ o) → (E.back w bor ps id out.length E').rho o = E.rho o := fun o ho => by
    have : (List.range out.length).find? (fun j => rn ps id (j + 1) == o) = none := by
      rw [List.find?_eq_none]
      intro k hk
      simpa using ho k (List.mem_range.1 hk)
    simp only [Env.back, this]
  have hH : ∀ k y, out[k]? = some y → (after nt s ps id d r out).H (rn ps id (k + 1)) = y.map (renO (rn ps id)) := fun k y hk => by
    have h1 := callObjs_in (ps := ps) (id := id) (k := 0) hk
    rw [Nat.zero_add] at h1
    have := updL_uniq (H := klH ps s.H) h1 (fun z hz e => by
      obtain ⟨j, x, hj, rfl⟩ := callObjs_mem hz
      rw [Nat.zero_add] at e ⊢
      have hjk := hinj j k (List.getElem?_eq_some_iff.1 hj).1 (List.getElem?_eq_some_iff.1 hk).1 e
      subst hjk
      rw [hj] at hk
      cases hk
      rfl)
    exact this
  have hH' : ∀ o, (∀ k, k < out.length → rn ps id (k + 1) ≠ o) → (after nt s ps id d r out).H o = klH ps s.H o := fun o ho => by
    refine updL_out (fun z hz => ?_)
    obtain ⟨j, x, hj, rfl⟩ := callObjs_mem hz
    rw [Nat.zero_add]
    exact ho j (List.getElem?_eq_some_iff.1 hj).1
  have hlocO : ∀ b, b < w.heap.size → ¬ Mut (E.call bor ps) b → (E.back w bor ps id out.length E').loc b = E.loc b := fun b h1 h2 => if_pos ⟨h1, h2⟩
  have hlocN : ∀ b k p, E'.loc b = some (k + 1, p) → (E.back w bor ps id out.length E').loc b = some (rn ps id (k + 1), p) := fun b k p h => by
    have : ¬ (b < w.heap.size ∧ ¬ Mut (E.call bor ps) b) := by
      rintro ⟨h1, h2⟩
      refine h2 ⟨k + 1, p, ?_, by omega⟩
      rw [← hold b h1 h2, h]
    have h2 : (E.back w bor ps id out.length E').loc b = (E'.loc b).map (fun ℓ : Loc => (rn ps id ℓ.1, ℓ.2)) := if_neg this
    rw [h2, h]
    rfl
  have hloc0 : bor = false → ∀ b, b < w'.heap.size → E'.loc b = none → (E.back w bor ps id out.length E').loc b = none := fun hb b _ h => by
    by_cases hc : b < w.heap.size ∧ ¬ Mut (E.call bor ps) b
    · rw [hlocO b hc.1 hc.2]
      have := hold b hc.1 hc.2
      rw [h] at this
      cases hl : E.loc b with
      | none => rfl
      | some ℓ =>
        obtain ⟨o, p⟩ := ℓ
        exfalso
        simp only [Env.call, hl, Option.bind_some] at this
        split at this
        · cases this
        · rw [hb] at this; cases this
    · have h2 : (E.back w bor ps id out.length E').loc b = (E'.loc b).map (fun ℓ : Loc => (rn ps id ℓ.1, ℓ.2)) := if_neg hc
      rw [h2, h]
      rfl
  have hmz : ∀ {b}, E.loc b = none → ¬ Mut (E.call bor ps) b := fun h hm => by
    obtain ⟨o, p, h1, _⟩ := (mut_call hn).1 hm
    rw [h] at h1
    cases h1
  have t0 : ∀ b, b < w.heap.size → E.loc b = none → w'.heap[b]? = w.heap[b]? ∧ (E.back w bor ps id out.length E').loc b = none := fun b hb h => ⟨hevo.old hb (hmz h), by rw [hlocO b hb (hmz h)]; exact h⟩
  have town : ∀ o, o ∉ ps → ∀ b p, b < w.heap.size → E.loc b = some (o, p) → w'.heap[b]? = w.heap[b]? ∧ (E.back w bor ps id out.length E').loc b = some (o, p) := fun o ho b p hb h => by
    have : ¬ Mut (E.call bor ps) b := fun hm => by
      obtain ⟨o', p', h1, h2⟩ := (mut_call hn).1 hm
      rw [h] at h1
      cases h1
      exact ho h2
    exact ⟨hevo.old hb this, by rw [hlocO b hb this]; exact h⟩
  have hob : ∀ o, U o → (after nt s ps id d r out).H o = none ∨ ((E.back w bor ps id out.length E').rho o = E.rho o ∧ ∃ x y, s.H o = some x ∧ (after nt s ps id d r out).H o = some y ∧ x.like y) := fun o ho => by
    by_cases hx : ∃ k, k < out.length ∧ rn ps id (k + 1) = o
    · obtain ⟨k, hk, rfl⟩ := hx
      by_cases hkp : k < ps.length
      · obtain ⟨o', a1, a2, a3, a4⟩ := hpl k hkp
        obtain ⟨ob, ob', h1, h2, h3⟩ := hin k _ a1
        have hk' := List.getElem?_eq_getElem hk
        rw [hH k _ hk']
        have hq := hpas (k + 1) ob' (by simp [HpS, h2])
        have e1 : HpL out (k + 1) = out[k] := by simp [HpL, hk']
        rw [e1] at hq
        rcases hq with hq | ⟨hq1, y, hq2, hq3⟩
        · left; rw [hq]; rfl
        · right
          refine ⟨?_, ob, renO (rn ps id) y, by rw [a4]; exact h1, by rw [hq2]; rfl, (h3.like.trans hq3).trans (renO_like _ _)⟩
          rw [hrho k hk, hq1, call_rho a1, a4]
      · exact absurd ho (hnew k (by omega) hk).2.1
    · have hx' : ∀ k, k < out.length → rn ps id (k + 1) ≠ o := fun k hk e => hx ⟨k, hk, e⟩
      rw [hH' o hx', hrho' o hx']
      cases hh : klH ps s.H o with
      | none => exact .inl rfl
      | some ob =>
        obtain ⟨x, hx1, hx2⟩ := klH_some hh
        refine .inr ⟨rfl, x, ob, hx1, rfl, ?_⟩
        rcases hx2 with ⟨_, rfl⟩ | ⟨_, rfl⟩
        · exact Ob.like.refl _
        · exact killO_like _
  have hval : ∀ {x : AV} {u : Value}, RdV w E s.H x u → Mn U x → RdV w' (E.back w bor ps id out.length E') (after nt s ps id d r out).H (klA ps x) u := fun {x u} h hm => by
    unfold klA
    split
    · rename_i he
      have hps : ps = [] := List.isEmpty_iff.1 he
      refine h.keeps ⟨t0, fun b hb h1 => ?_, hob⟩ hm
      have : ¬ Mut (E.call bor ps) b := fun hm' => by
        obtain ⟨o, p, _, h2⟩ := (mut_call hn).1 hm'
        rw [hps] at h2
        simp at h2
      refine ⟨hevo.old hb this, fun o ho => ?_⟩
      rw [hlocO b hb this] at ho
      exact h1 o ho
    · exact h.kill t0 hob hm
  have hmk : ∀ {x : AV}, Mn U x → Mn (fun o => U o ∨ ∃ j, j < 8 ∧ o = id + j) (klA ps x) := fun hm => by
    unfold klA
    split
    · exact hm.mono fun _ h => .inl h
    · exact hm.kill.mono fun _ h => .inl h
  have hUrn : ∀ k, 1 ≤ k → k ≤ out.length → (fun o => U o ∨ ∃ j, j < 8 ∧ o = id + j) (rn ps id k) := fun k h1 h2 => by
    obtain ⟨k, rfl⟩ : ∃ m, k = m + 1 := ⟨k - 1, by omega⟩
    by_cases hkp : k < ps.length
    · obtain ⟨o, a1, a2, a3, a4⟩ := hpl k hkp
      rw [a4]
      exact .inl a2
    · obtain ⟨b1, b2, b3⟩ := hnew k (by omega) (by omega)
      exact .inr ⟨k - ps.length, b3, b1⟩
  have hobr : ∀ k, 1 ≤ k → k ≤ out.length → HpL out k = none ∧ (after nt s ps id d r out).H (rn ps id k) = none ∨ ((E.back w bor ps id out.length E').rho (rn ps id k) = E'.rho k ∧ ∃ x y, HpL out k = some x ∧ (after nt s ps id d r out).H (rn ps id k) = some y ∧ x.like y) := fun k h1 h2 => by
    obtain ⟨k, rfl⟩ : ∃ m, k = m + 1 := ⟨k - 1, by omega⟩
    have hk' := List.getElem?_eq_getElem (l := out) (i := k) (by omega)
    have e1 : HpL out (k + 1) = out[k] := by simp [HpL, hk']
    rw [e1, hH k _ hk', hrho k (by omega)]
    cases out[k] with
    | none => exact .inl ⟨rfl, rfl⟩
    | some y => exact .inr ⟨rfl, y, _, rfl, rfl, renO_like _ _⟩
  have hrr : RdV w' (E.back w bor ps id out.length E') (after nt s ps id d r out).H (renA (rn ps id) r) u := hr.ren hloc0 hobr hrs
  constructor
  · cases d <;> exact hR.defers
  · cases d <;> simp [Act.put, hR.size]
  · intro j x hx
    cases d with
    | none =>
      show RdV _ _ _ (kl ps s.t j) x
      rw [kl_at]
      exact hval (hR.slots j x hx) (hR.mnT j)
    | some d =>
      simp only [Act.put, Array.getElem?_setIfInBounds] at hx
      have hsz : a.tmps.size = nt := hR.size
      by_cases hd : d = j
      · subst hd
        by_cases hb : d < a.tmps.size
        · simp only [hb, if_true] at hx
          cases hx
          show RdV _ _ _ (putT nt (kl ps s.t) (some d) _ d) _
          simp only [putT, if_pos (hsz ▸ hb), upd_same]
          exact hrr
        · simp [hb] at hx
      · simp only [if_neg hd] at hx
        have hj : ∀ v, putT nt (kl ps s.t) (some d) v j = kl ps s.t j := fun v => by
          simp only [putT]
          split
          · exact upd_ne _ _ (Ne.symm hd)
          · rfl
        show RdV _ _ _ (putT nt (kl ps s.t) (some d) _ j) _
        rw [hj, kl_at]
        exact hval (hR.slots j x hx) (hR.mnT j)
  · intro o ob ho
    by_cases hx : ∃ k, k < out.length ∧ rn ps id (k + 1) = o
    · obtain ⟨k, hk, rfl⟩ := hx
      have hk' := List.getElem?_eq_getElem hk
      have e1 : HpL out (k + 1) = out[k] := by simp [HpL, hk']
      rw [hH k _ hk', Option.map_eq_some_iff] at ho
      obtain ⟨ob0, ho, rfl⟩ := ho
      have hl0 := hlive (k + 1) ob0 (by rw [e1, ho])
      have hros0 := hros ob0 (by rw [← ho]; exact List.getElem_mem hk)
      cases ob0 with
      | rx => exact hros0.elim
      | mp m =>
        obtain ⟨b, ents, clock, g1, g2, g3, g4⟩ := hl0
        exact ⟨b, ents, clock, (hrho k hk).trans g1, hlocN b k [] g2, g3, g4⟩
      | box ty cs =>
        obtain ⟨b, arr, us, g1, g2, g3, g4, g5, g6⟩ := hl0
        show LiveOb _ _ _ _ (.box ty (renL _ cs))
        rw [renL_map]
        refine ⟨b, arr, us, (hrho k hk).trans g1, hlocN b k [] g2, g3, by simpa using g4, fun j hj => g5 j (by simpa using hj), fun j c hj => ?_⟩
        rw [List.getElem?_map, Option.map_eq_some_iff] at hj
        obtain ⟨c', hc', rfl⟩ := hj
        exact (g6 j c' hc').ren hloc0 hobr (hros0 c' (List.mem_of_getElem? hc'))
      | rw ty sz es =>
        rcases hl0 with ⟨g1, g2⟩ | ⟨b, cap, arr, us, g1, g2, g3, g4, g5, g6, g7, g8, g9⟩
        · exact .inl ⟨(hrho k hk).trans g1, g2⟩
        · refine .inr ⟨b, cap, arr, us, (hrho k hk).trans g1, hlocN b k [] g2, g3, g4, g5, g6, g7, g8, fun i j e c he hc => ?_⟩
          rcases hros0 with hb | hown
          · exact (g9 i j e c he hc).relabel (rn ps id (k + 1), [(i, j)]) (fun b' hb' h0 => ⟨rfl, hloc0 hb b' hb' h0⟩) (fun b' q hb' hq => ⟨rfl, hlocN b' k _ hq⟩)
          · exact (g9 i j e c he hc).own_relabel (hown e (List.mem_of_getElem? he) c (List.mem_of_getElem? hc)) (rn ps id (k + 1), [(i, j)]) (fun b' q hb' hq => hlocN b' k _ hq)
    · have hx' : ∀ k, k < out.length → rn ps id (k + 1) ≠ o := fun k hk e => hx ⟨k, hk, e⟩
      have hops : o ∉ ps := fun hop => by
        obtain ⟨k, hk⟩ := List.getElem?_of_mem hop
        exact hx' k (Nat.lt_of_lt_of_le (List.getElem?_eq_some_iff.1 hk).1 hm1) (rn_pass hk)
      rw [hH' o hx'] at ho
      obtain ⟨x, hx1, hx2⟩ := klH_some ho
      have hlx := hR.live o x hx1
      have hmx := (hR.mnH o x hx1).2
      cases x with
      | rx ty sz es i0 j0 v =>
        have hcs : ob = .rx ty sz es i0 j0 (klA ps v) := by
          rcases hx2 with ⟨he, rfl⟩ | ⟨he, rfl⟩
          · unfold klA; rw [if_pos he]
          · unfold klA; rw [if_neg (by simp [he])]; rfl
        subst hcs
        obtain ⟨hi0, hj0, b, cap, arr, us, g1, g2, ⟨ty3, g3⟩, g4, g5, g6, g7, g8, g9, g10⟩ := hlx
        have hb := town o hops b [] (RdR.lt g3) g2
        exact ⟨hi0, hj0, b, cap, arr, us, (hrho' o hx').trans g1, hb.2, ⟨ty3, hb.1.trans g3⟩, g4, g5, g6, g7, g8, fun i j e c he hc => (g9 i j e c he hc).relabel (o, [(i, j)]) t0 (fun b' q hb' hq => town o hops b' _ hb' hq), hval g10 hmx⟩
      | mp m =>
        have hcs : ob = .mp m := by rcases hx2 with ⟨_, rfl⟩ | ⟨_, rfl⟩ <;> rfl
        subst hcs
        obtain ⟨b, ents, clock, g1, g2, g3, g4⟩ := hlx
        have hb := town o hops b [] (RdR.lt g3) g2
        exact ⟨b, ents, clock, (hrho' o hx').trans g1, hb.2, hb.1.trans g3, g4⟩
      | box ty cs =>
        obtain ⟨b, arr, us, g1, g2, g3, g4, g5, g6⟩ := hlx
        have hb := town o hops b [] (RdR.lt g3) g2
        have hcs : ob = .box ty (cs.map (klA ps)) := by
          rcases hx2 with ⟨he, rfl⟩ | ⟨he, rfl⟩
          · have : klA ps = fun y => y := by funext y; unfold klA; rw [if_pos he]
            rw [this, List.map_id']
          · have : klA ps = killA := by funext y; unfold klA; rw [if_neg (by simp [he])]
            rw [this, ← killL_map]
            rfl
        subst hcs
        refine ⟨b, arr, us, (hrho' o hx').trans g1, hb.2, hb.1.trans g3, by simpa using g4, fun j hj => g5 j (by simpa using hj), fun j c hj => ?_⟩
        rw [List.getElem?_map, Option.map_eq_some_iff] at hj
        obtain ⟨c', hc', rfl⟩ := hj
        exact hval (g6 j c' hc') (hmx c' (List.mem_of_getElem? hc'))
      | rw ty sz es =>
        have hcs : ob = .rw ty sz es := by rcases hx2 with ⟨_, rfl⟩ | ⟨_, rfl⟩ <;> rfl
        subst hcs
        rcases hlx with ⟨g1, g2⟩ | ⟨b, cap, arr, us, g1, g2, g3, g4, g5, g6, g7, g8, g9⟩
        · exact .inl ⟨(hrho' o hx').trans g1, g2⟩
        · obtain ⟨ty3, g3⟩ := g3
          have hb := town o hops b [] (RdR.lt g3) g2
          exact .inr ⟨b, cap, arr, us, (hrho' o hx').trans g1, hb.2, ⟨ty3, hb.1.trans g3⟩, g4, g5, g6, g7, g8, fun i j e c he hc => (g9 i j e c he hc).relabel (o, [(i, j)]) t0 (fun b' q hb' hq => town o hops b' _ hb' hq)⟩
  · intro b ℓ hb
    by_cases hc : b < w.heap.size ∧ ¬ Mut (E.call bor ps) b
    · exact Nat.lt_of_lt_of_le hc.1 hevo.size
    · have : (E'.loc b).map (fun ℓ : Loc => (rn ps id ℓ.1, ℓ.2)) = some ℓ := by
        have h1 : (E.back w bor ps id out.length E').loc b = (E'.loc b).map (fun ℓ : Loc => (rn ps id ℓ.1, ℓ.2)) := if_neg hc
        rw [← h1, hb]
      rw [Option.map_eq_some_iff] at this
      obtain ⟨ℓ0, h0, _⟩ := this
      exact hlt b ℓ0 h0
  · intro b hb hm
    have h1 := hR.old b hb hm
    have hbw := Nat.lt_of_lt_of_le hb hR.evo.size
    rw [← h1]
    refine hlocO b hbw (fun hmm => ?_)
    obtain ⟨o, p, h2, h3⟩ := (mut_call hn).1 hmm
    obtain ⟨k, hk⟩ := List.getElem?_of_mem h3
    obtain ⟨o', a1, a2, a3, a4⟩ := hpl k (List.getElem?_eq_some_iff.1 hk).1
    rw [hk] at a1
    cases a1
    exact hm ⟨o, p, by rw [← h1, h2], a3⟩
  · intro o x hx
    obtain ⟨hu, h⟩ := hR.pas o x hx
    refine ⟨.inl hu, ?_⟩
    rcases hob o hu with h1 | ⟨h1, y, z, h2, h3, h4⟩
    · exact .inl h1
    · rcases h with h | ⟨h5, y', h6, h7⟩
      · rw [h] at h2; cases h2
      · rw [h2] at h6
        cases h6
        exact .inr ⟨h1.trans h5, z, h3, h7.trans h4⟩
  · exact .inl hR.u0
  · have : ∀ k, k < out.length → rn ps id (k + 1) ≠ 0 := fun k hk e => by
      by_cases hkp : k < ps.length
      · obtain ⟨o, a1, a2, a3, a4⟩ := hpl k hkp
        exact a3 (by rw [← a4, e])
      · have := (hnew k (by omega) hk).2.1
        rw [e] at this
        exact this hR.u0
    rw [hH' 0 this]
    unfold klH
    split
    · exact hR.h0
    · simp only [hR.h0]; rfl
  · intro j
    cases d with
    | none =>
      show Mn _ (kl ps s.t j)
      rw [kl_at]
      exact hmk (hR.mnT j)
    | some d =>
      show Mn _ (putT nt (kl ps s.t) (some d) _ j)
      simp only [putT]
      split
      · by_cases hd : j = d
        · subst hd
          rw [upd_same]
          exact hrs.mn hUrn
        · rw [upd_ne _ _ hd, kl_at]
          exact hmk (hR.mnT j)
      · rw [kl_at]
        exact hmk (hR.mnT j)
  · intro o ob ho
    by_cases hx : ∃ k, k < out.length ∧ rn ps id (k + 1) = o
    · obtain ⟨k, hk, rfl⟩ := hx
      have hk' := List.getElem?_eq_getElem hk
      rw [hH k _ hk', Option.map_eq_some_iff] at ho
      obtain ⟨ob0, ho, rfl⟩ := ho
      have hros0 := hros ob0 (by rw [← ho]; exact List.getElem_mem hk)
      refine ⟨hUrn (k + 1) (by omega) (by omega), ?_⟩
      cases ob0 with
      | box ty cs =>
        show ∀ c ∈ renL _ cs, Mn _ c
        rw [renL_map]
        intro c hc
        obtain ⟨c', hc', rfl⟩ := List.mem_map.1 hc
        exact (hros0 c' hc').mn hUrn
      | rw => trivial
      | rx => exact hros0.elim
      | mp => trivial
    · have hx' : ∀ k, k < out.length → rn ps id (k + 1) ≠ o := fun k hk e => hx ⟨k, hk, e⟩
      rw [hH' o hx'] at ho
      obtain ⟨x, hx1, hx2⟩ := klH_some ho
      have hmx := hR.mnH o x hx1
      refine ⟨.inl hmx.1, ?_⟩
      rcases hx2 with ⟨_, rfl⟩ | ⟨_, rfl⟩
      · exact hmx.2.mono fun _ h => .inl h
      · cases x with
        | box ty cs =>
          show ∀ c ∈ killL cs, Mn _ c
          rw [killL_map]
          intro c hc
          obtain ⟨c', hc', rfl⟩ := List.mem_map.1 hc
          exact (hmx.2 c' hc').kill.mono fun _ h => .inl h
        | rw => trivial
        | rx => exact (Mn.kill hmx.2).mono fun _ h => .inl h
        | mp => trivial
  · refine hR.evo.step hevo (fun i hi hlt' => ?_)
    obtain ⟨o, p, h2, h3⟩ := (mut_call hn).1 hi
    obtain ⟨k, hk⟩ := List.getElem?_of_mem h3
    obtain ⟨o', a1, a2, a3, a4⟩ := hpl k (List.getElem?_eq_some_iff.1 hk).1
    rw [hk] at a1
    cases a1
    by_cases hb : i < I.w.heap.size
    · by_cases hm : Mut I.E i
      · exact .inr hm
      · exact absurd ⟨o, p, by rw [← hR.old i hb hm]; exact h2, a3⟩ hm
    · exact .inl (by omega)
end

end Go.Proofs.YtnnmpdanfeejbaaGreat.Abs

/- The abstract machine: code. -/
namespace Go.Proofs.YtnnmpdanfeejbaaGreat.Abs
open Go Go.RowKit
set_option linter.unusedVariables false
set_option linter.unusedSimpArgs false

/-- Two ways, by a bool. -/
def brB (b : Bool) (x y : Prop) : Prop := (b = true → x) ∧ (b = false → y)
theorem brB_true (x y : Prop) : brB true x y = x := by simp [brB]
theorem brB_false (x y : Prop) : brB false x y = y := by simp [brB]
theorem brB_intro {b : Bool} {x y : Prop} (h1 : b = true → x) (h2 : b = false → y) : brB b x y := ⟨h1, h2⟩

/-- A call, as its caller sees it. -/
def Callq (P : Program) (nt : Nat) (f : Nat) (args : List AV) (d : Option Nat) (id : Nat) (s : ASt) (K : ASt → Prop) : Prop :=
  ∃ (bor : Bool) (ps : List Nat) (Hin : List Ob) (args' : List AV) (Post : AV → List (Option Ob) → Prop), CallOk P f Hin args' Post ∧ ps.Nodup ∧ Hin.length = ps.length ∧
    (∀ (k o : Nat), ps[k]? = some o → ∃ ob ob', s.H o = some ob ∧ Hin[k]? = some ob' ∧ ViewO bor s.H ps ob ob') ∧ args.length = args'.length ∧
    (∀ (i : Nat) x x', args[i]? = some x → args'[i]? = some x' → View bor s.H ps x x') ∧
    ∀ r out, Post r out → ps.length ≤ out.length ∧ out.length ≤ ps.length + 8 ∧ (bor = true → Rs true out.length r ∧ ∀ ob, some ob ∈ out → RsOb true out.length ob) ∧ K (after nt s ps id d r out)

def bindK (r : EvR) (K : AV → List (Nat × Option Ob) → Prop) : Prop := match r with
  | some (v, o) => K v o
  | none => False
theorem bindK_some (v : AV) (o : List (Nat × Option Ob)) (K : AV → List (Nat × Option Ob) → Prop) : bindK (some (v, o)) K = K v o := rfl
theorem bindK_none (K : AV → List (Nat × Option Ob) → Prop) : bindK none K = False := rfl
theorem bindK_ite (c : Prop) [Decidable c] (r : EvR) (K : AV → List (Nat × Option Ob) → Prop) : bindK (if c then r else none) K = (c ∧ bindK r K) := by
  by_cases h : c <;> simp [h, bindK]
theorem bindK_ex {r : EvR} {K : AV → List (Nat × Option Ob) → Prop} (h : bindK r K) : ∃ v o, r = some (v, o) ∧ K v o := by
  unfold bindK at h
  split at h
  · exact ⟨_, _, rfl, h⟩
  · exact h.elim

/-- By a function that a slot holds. -/
def funK (v : AV) (K : Nat → Prop) : Prop := match v with
  | .c (.v (.func (.func f) x y)) => x = #[] ∧ y = #[] ∧ K f
  | _ => False
theorem funK_c (f : Nat) (K : Nat → Prop) : funK (.c (.v (.func (.func f) #[] #[]))) K = K f := by simp [funK]
theorem funK_ex {v : AV} {K : Nat → Prop} (h : funK v K) : ∃ f, v = .c (.v (.func (.func f) #[] #[])) ∧ K f := by
  unfold funK at h
  split at h
  · obtain ⟨rfl, rfl, h⟩ := h; exact ⟨_, rfl, h⟩
  · exact h.elim
def stp (P : Program) (nt p : Nat) (o : Oper) (s : ASt) (K : ASt → Prop) : Prop :=
  match o.op with
  | .call { callee := .value (.func f), args := args, argTypes := _ } => Callq P nt f (args.toList.map (getA nt s.t)) o.dst (s.c + 8 * p) s K
  | .call { callee := .value (.tmp k), args := args, argTypes := _ } => funK (getA nt s.t (.tmp k)) fun f => Callq P nt f (args.toList.map (getA nt s.t)) o.dst (s.c + 8 * p) s K
  | op => bindK (evOp P (s.c + 8 * p) s.H (getA nt s.t) op) fun v objs => K { t := putT nt s.t o.dst v, H := updL s.H objs, c := s.c }

/-- By a bool. -/
def boolK (v : AV) (f : Bool → Prop) : Prop := match v with
  | .c (.v (.bool b)) => f b
  | _ => False
theorem boolK_c (b : Bool) (f : Bool → Prop) : boolK (.c (.v (.bool b))) f = f b := rfl
theorem boolK_ex {v : AV} {f : Bool → Prop} (h : boolK v f) : ∃ b, v = .c (.v (.bool b)) ∧ f b := by
  unfold boolK at h
  split at h
  · exact ⟨_, rfl, h⟩
  · exact h.elim

/-- By a guard: what has been left out yields nothing. -/
def guardK (v : AV) (f : Bool → Prop) (x : Unit → Prop) : Prop := match v with
  | .c (.v (.bool b)) => f b
  | .tu [] => x ()
  | _ => False
theorem guardK_c (b : Bool) (f : Bool → Prop) (x : Unit → Prop) : guardK (.c (.v (.bool b))) f x = f b := rfl
theorem guardK_tu (f : Bool → Prop) (x : Unit → Prop) : guardK (.tu []) f x = x () := rfl
theorem guardK_ex {v : AV} {f : Bool → Prop} {x : Unit → Prop} (h : guardK v f x) : (∃ b, v = .c (.v (.bool b)) ∧ f b) ∨ (v = .tu [] ∧ x ()) := by
  unfold guardK at h
  split at h
  · exact .inl ⟨_, rfl, h⟩
  · exact .inr ⟨rfl, h⟩
  · exact h.elim

def gstp (P : Program) (nt : Nat) (dsts : Nat → Option Nat) (p : Nat) (o : Oper) (s : ASt) (K : ASt → Prop) : Prop :=
  match o.guard with
  | none => stp P nt p o s K
  | some (j, want) => match dsts j with
    | none => False
    | some d => d < nt ∧ guardK (s.t d) (fun b => match want with
        | true => brB b (stp P nt p o { s with t := upd s.t d (.c (.v (.bool true))) } K) (K { s with t := putT nt (upd s.t d (.c (.v (.bool false)))) o.dst (.tu []) })
        | false => brB b (K { s with t := putT nt (upd s.t d (.c (.v (.bool true)))) o.dst (.tu []) }) (stp P nt p o { s with t := upd s.t d (.c (.v (.bool false))) } K))
      (fun _ => K { s with t := putT nt s.t o.dst (.tu []) })

def seqR (P : Program) (nt : Nat) (dsts : Nat → Option Nat) : Nat → List Oper → ASt → (ASt → Prop) → Prop
  | _, [], s, K => K s
  | p, o :: r, s, K => gstp P nt dsts p o s fun s' => seqR P nt dsts (p + 1) r s' K

def dstOf (ops : Array Oper) (j : Nat) : Option Nat := (ops[j]?).bind (·.dst)

section
variable {P : Program} {nt : Nat} {I : Ini} {s : ASt} {E : Env} {a : Act} {w : World}

theorem RelE.mono {U U' : Nat → Prop} (h : RelE nt I U s E a w) (hU : ∀ o, U o → U' o) : RelE nt I U' s E a w :=
  ⟨h.defers, h.size, h.slots, h.live, h.locLt, h.old, fun o x hx => ⟨hU o (h.pas o x hx).1, (h.pas o x hx).2⟩, hU 0 h.u0, h.h0, fun k => (h.mnT k).mono hU, fun o ob ho => ⟨hU o (h.mnH o ob ho).1, (h.mnH o ob ho).2.mono hU⟩, h.evo⟩

/-- The number of draws, and what else doesn't count, may go on. -/
theorem RelE.drew {U : Nat → Prop} (h : RelE nt I U s E a w) (w' : World) (hh : w'.heap = w.heap) (ho : w'.os = w.os) (ht : w'.tape = w.tape) (hp : w'.output = w.output) : RelE nt I U s E a w' := by
  have k : Keeps U w w' E E s.H s.H := ⟨fun b _ h => ⟨by rw [hh], h⟩, fun b _ h => ⟨by rw [hh], h⟩, fun o _ => by
    cases hs : s.H o with
    | none => exact .inl rfl
    | some x => exact .inr ⟨rfl, x, x, rfl, rfl, Ob.like.refl x⟩⟩
  exact ⟨h.defers, h.size, fun j u hu => (h.slots j u hu).keeps k (h.mnT j), fun o ob hob => (h.live o ob hob).keeps k (h.mnH o ob hob).2 rfl (fun b q _ hq => ⟨by rw [hh], hq⟩), fun b ℓ hb => by rw [hh]; exact h.locLt b ℓ hb, h.old, h.pas, h.u0, h.h0, h.mnT, h.mnH,
    ⟨ho.trans h.evo.os, ht.trans h.evo.tape, hp.trans h.evo.output, by rw [hh]; exact h.evo.size, fun i hi hm => by rw [hh]; exact h.evo.block i hi hm⟩⟩

/-- A slot's value that is known more exactly. -/
theorem RelE.refine {U : Nat → Prop} (h : RelE nt I U s E a w) {d : Nat} {v : AV} (hv : s.t d = v) : RelE nt I U { s with t := upd s.t d v } E a w := by
  have : upd s.t d v = s.t := by
    funext k
    unfold upd
    split
    · rename_i hk; subst hk; exact hv.symm
    · rfl
  rw [this]
  exact h

theorem upon_good {o : Oper} {U : Nat → Prop} {id : Nat} {v : AV} {objs : List (Nat × Option Ob)} (hg : Good P o a w E s.H U id v objs) {next : Act → World → Prop} {Q : Exit → Act → World → Prop}
    (h : ∀ u w' E', Fx w E s.H U id v objs u w' E' → next (a.put o.dst u) w') : o.wp P a w next Q := by
  obtain ⟨u, w', E', hr, hf⟩ := hg
  unfold Oper.wp
  rcases hr with hr | ⟨hr, rfl⟩
  · rw [hr]; exact h u w' E' hf
  · rw [hr]; exact h undef w' E' hf

theorem stp_sound {o : Oper} {p : Nat} {K : ASt → Prop} {U : Nat → Prop} (hR : RelE nt I U s E a w) (hU : ∀ j, j < 8 → ¬ U (s.c + 8 * p + j)) (h : stp P nt p o s K) {next : Act → World → Prop} {Q : Exit → Act → World → Prop}
    (hn : ∀ s' E' a' w', K s' → s'.c = s.c → RelE nt I (fun o => U o ∨ ∃ j, j < 8 ∧ o = s.c + 8 * p + j) s' E' a' w' → next a' w') : o.wp P a w next Q := by
  have general : ∀ v objs, evOp P (s.c + 8 * p) s.H (getA nt s.t) o.op = some (v, objs) → K { t := putT nt s.t o.dst v, H := updL s.H objs, c := s.c } → o.wp P a w next Q := fun v objs he hK => by
    have hid : ¬ U (s.c + 8 * p) := by simpa using hU 0 (by omega)
    refine upon_good (ev_sound hR hid (fun _ _ h => h) he) (fun u w' E' hf => hn _ E' _ w' hK rfl ((Rel.step hR hid hf o.dst).mono (fun q hq => ?_)))
    rcases hq with hq | hq
    · exact .inl hq
    · exact .inr ⟨0, by omega, by omega⟩
  have callcase : ∀ (f : Nat) (args : Array Operand), (execOp a.eval o).run P w = (callFunc f (args.map a.eval)).run P w → Callq P nt f (args.toList.map (getA nt s.t)) o.dst (s.c + 8 * p) s K → o.wp P a w next Q := by
    intro f args hinv h
    obtain ⟨bor, ps, Hin, args', Post, ⟨hc, hok⟩, hnd, hl, hin, hal, hav, hpost⟩ := h
    have hrun : (execOp a.eval o).run P w = .ok (.enter f (args.map a.eval)) w := by
      rw [hinv]
      unfold callable at hc
      split at hc
      · rename_i fn hf
        rw [Bool.and_eq_true] at hc
        have h1 : fn.body ≠ none := by
          intro hb
          rw [hb] at hc
          simp at hc
        have h2 : fn.name ≠ "runtime.NumGoroutine" := by simpa using hc.2
        simp [callFunc, hf, h1, h2]
      · cases hc
    unfold Oper.wp
    rw [hrun]
    show Calls P f (args.map a.eval) w _
    have hvals : (args.map a.eval).size = args'.length := by rw [← hal]; simp
    have hview : ∀ (i : Nat) x u, args'[i]? = some x → (args.map a.eval)[i]? = some u → RdV w (E.call bor ps) (HpS Hin) x u := fun i x' u hx hu => by
      rw [Array.getElem?_map, Option.map_eq_some_iff] at hu
      obtain ⟨y, hy, rfl⟩ := hu
      have hy' : (args.toList.map (getA nt s.t))[i]? = some (getA nt s.t y) := by
        rw [List.getElem?_map, Array.getElem?_toList, hy]; rfl
      exact (hav i _ x' hy' hx).ok hR hnd hin (hR.get y)
    have hlocs : ∀ b ℓ, (E.call bor ps).loc b = some ℓ → b < w.heap.size := fun b ℓ hb => by
      simp only [Env.call, Option.bind_eq_some_iff] at hb
      obtain ⟨ℓ0, h0, _⟩ := hb
      exact hR.locLt b ℓ0 h0
    refine (hok w (E.call bor ps) (args.map a.eval) (ViewO.live hR hnd hin hl) hlocs hvals hview).mono ?_
    rintro e w' ⟨u, r, out, E', rfl, hP, hr, hlive, hrs, hros, hpas, hevo, hold, hlt⟩
    obtain ⟨q1, q2, q3, q4⟩ := hpost r out hP
    have hrs' : Rs bor out.length r := by cases bor with | true => exact (q3 rfl).1 | false => exact hrs
    have hros' : ∀ ob, some ob ∈ out → RsOb bor out.length ob := fun ob hob => by cases bor with | true => exact (q3 rfl).2 ob hob | false => exact hros ob hob
    exact hn _ _ _ w' q4 rfl (call_after hR hnd hin hl hU q1 q2 hr hlive hrs' hros' hpas hevo hold hlt o.dst)
  unfold stp at h
  split at h
  · rename_i f args ts hop
    refine callcase f args ?_ h
    have h3 : execOp a.eval o = (do let d ← resolve a.eval { callee := .value (.func f), args := args, argTypes := ts } o.type; invoke d.target d.args) := by
      simp only [execOp, hop]
    rw [h3]
    simp [resolve, Deferred.ofValue, Act.eval, invoke]
  · rename_i k args ts hop
    obtain ⟨f, hf, hK⟩ := funK_ex h
    have ef := hR.eval hf
    refine callcase f args ?_ hK
    have h3 : execOp a.eval o = (do let d ← resolve a.eval { callee := .value (.tmp k), args := args, argTypes := ts } o.type; invoke d.target d.args) := by
      simp only [execOp, hop]
    rw [h3]
    simp [resolve, Deferred.ofValue, ef, invoke]
  · obtain ⟨v, objs, he, hK⟩ := bindK_ex h
    exact general v objs he hK

theorem gstp_sound {ops : Array Oper} {o : Oper} {p : Nat} {K : ASt → Prop} {U : Nat → Prop} (hR : RelE nt I U s E a w) (hU : ∀ j, j < 8 → ¬ U (s.c + 8 * p + j)) (h : gstp P nt (dstOf ops) p o s K) {next : Act → World → Prop} {Q : Exit → Act → World → Prop}
    (hn : ∀ s' E' a' w', K s' → s'.c = s.c → RelE nt I (fun o => U o ∨ ∃ j, j < 8 ∧ o = s.c + 8 * p + j) s' E' a' w' → next a' w') :
    if Region.wanted o (yielded ops a.tmps) then o.wp P a w next Q else next (a.put o.dst undef) w := by
  unfold gstp at h
  split at h
  · rename_i hg
    rw [if_pos (by simp [Region.wanted, hg])]
    exact stp_sound hR hU h hn
  · rename_i j want hg
    have hfx : ∀ {s : ASt} {E : Env} {a : Act} {w : World} {U : Nat → Prop}, RelE nt I U s E a w → Fx w E s.H U (s.c + 8 * p) (.tu []) [] undef w E := fun hR => Fx.same hR.locLt (.tu [] #[] rfl (fun i c u hc _ => by simp at hc)) (.tu _ (fun x hx => by simp at hx))
    have hskip : (∃ d, dstOf ops j = some d ∧ d < nt ∧ s.t d = .tu [] ∧ K { s with t := putT nt s.t o.dst (.tu []) }) ∨ ∃ d b, dstOf ops j = some d ∧ d < nt ∧ s.t d = .c (.v (.bool b)) ∧
      (b = want → stp P nt p o { s with t := upd s.t d (.c (.v (.bool want))) } K) ∧ (b = (!want) → K { s with t := putT nt (upd s.t d (.c (.v (.bool (!want))))) o.dst (.tu []) }) := by
      cases hd : dstOf ops j with
      | none => rw [hd] at h; exact h.elim
      | some d =>
        rw [hd] at h
        obtain ⟨hlt, h⟩ := h
        rcases guardK_ex h with ⟨b, hb, h⟩ | ⟨hb, h⟩
        · refine .inr ⟨d, b, rfl, hlt, hb, ?_⟩
          cases want
          · exact ⟨h.2, h.1⟩
          · exact h
        · exact .inl ⟨d, rfl, hlt, hb, h⟩
    rcases hskip with ⟨d, hd, hlt, hb, hK⟩ | ⟨d, b, hd, hlt, hb, h1, h2⟩
    · have hk : d < a.tmps.size := by rw [hR.size]; exact hlt
      have h3 := hR.slots d a.tmps[d] (Array.getElem?_eq_getElem hk)
      rw [hb] at h3
      have hw : Region.wanted o (yielded ops a.tmps) = false := by
        unfold Region.wanted
        rw [hg]
        simp only [yielded]
        unfold dstOf at hd
        rw [hd]
        generalize hq : a.tmps[d] = q at h3
        cases h3
        simp [hq, Array.getElem?_eq_getElem hk]
      rw [hw, if_neg (by simp)]
      refine hn _ E _ w hK rfl ((Rel.step hR (by simpa using hU 0 (by omega)) (hfx hR) o.dst).mono (fun q hq => ?_))
      rcases hq with hq | hq
      · exact .inl hq
      · exact .inr ⟨0, by omega, by omega⟩
    have hsl : a.tmps[d]? = some (.bool b) := by
      have hk : d < a.tmps.size := by rw [hR.size]; exact hlt
      have h3 := hR.slots d a.tmps[d] (Array.getElem?_eq_getElem hk)
      rw [hb] at h3
      cases h3 with
      | c _ _ h3 =>
        generalize hq : a.tmps[d] = q at h3
        cases h3
        rw [Array.getElem?_eq_getElem hk, hq]
    have hw : Region.wanted o (yielded ops a.tmps) = (some b == some want) := by
      unfold Region.wanted
      rw [hg]
      simp only [yielded]
      unfold dstOf at hd
      rw [hd]
      simp [hsl]
    rw [hw]
    by_cases hbw : b = want
    · subst hbw
      rw [if_pos (by simp)]
      exact stp_sound (hR.refine hb) hU (h1 rfl) hn
    · have hbn : b = !want := by cases b <;> cases want <;> simp_all
      rw [if_neg (by simpa using hbw)]
      have hR' := hR.refine (d := d) (v := .c (.v (.bool (!want)))) (by rw [hb, hbn])
      have := Rel.step hR' (by simpa using hU 0 (by omega)) (hfx hR') o.dst
      refine hn _ E _ w (h2 hbn) rfl (this.mono (fun q hq => ?_))
      rcases hq with hq | hq
      · exact .inl hq
      · exact .inr ⟨0, by omega, by omega⟩

theorem seqR_sound {ops : Array Oper} {Q : Exit → Act → World → Prop} {c : Nat} : ∀ {l : List Oper} {p : Nat} {s : ASt} {E : Env} {a : Act} {w : World} {K : ASt → Prop}, s.c = c → RelE nt I (fun o => o < c + 8 * p) s E a w → seqR P nt (dstOf ops) p l s K →
    (∀ s' E' a' w', K s' → s'.c = c → RelE nt I (fun o => o < c + 8 * (p + l.length)) s' E' a' w' → Q .normal a' w') → wpList P ops Q l a w
  | [], p, s, E, a, w, K, hc, hR, h, hn => hn s E a w h hc hR
  | o :: r, p, s, E, a, w, K, hc, hR, h, hn => by
    have := gstp_sound (ops := ops) (P := P) (Q := Q) hR (fun j hj => by omega) h (next := wpList P ops Q r) (fun s' E' a' w' hK hc' hR' =>
      seqR_sound (hc'.trans hc) (hR'.mono (fun q hq => by rcases hq with hq | ⟨j, hj, rfl⟩ <;> omega)) hK (fun s2 E2 a2 w2 hK2 hc2 hR2 => hn s2 E2 a2 w2 hK2 hc2 (by rw [List.length_cons, show p + (r.length + 1) = p + 1 + r.length by omega]; exact hR2)))
    unfold wpList
    split
    · rename_i hw; rw [if_pos hw] at this; exact .inl this
    · rename_i hw; rw [if_neg hw] at this; exact this
end

end Go.Proofs.YtnnmpdanfeejbaaGreat.Abs

/- The abstract machine: a region that draws its order. -/
namespace Go.Proofs.YtnnmpdanfeejbaaGreat.Abs
open Go Go.RowKit
set_option linter.unusedVariables false
set_option linter.unusedSimpArgs false

mutual
def refsA : AV → List Nat
  | .sl o _ => [o]
  | .pt o _ _ => [o]
  | .sv o _ _ => [o]
  | .mr o => [o]
  | .ag cs => refsL cs
  | .tu cs => refsL cs
  | .c _ => []
  | .bw _ => []
  | .nul => []
  | .any => []
def refsL : List AV → List Nat
  | [] => []
  | x :: r => refsA x ++ refsL r
end
mutual
/-- Nothing is borrowed. -/
def nbA : AV → Bool
  | .bw _ => false
  | .ag cs => nbL cs
  | .tu cs => nbL cs
  | .sl _ _ => true
  | .pt _ _ _ => true
  | .sv _ _ _ => true
  | .mr _ => true
  | .c _ => true
  | .nul => true
  | .any => true
def nbL : List AV → Bool
  | [] => true
  | x :: r => nbA x && nbL r
end
def nbO : Option Ob → Bool
  | some (.box _ cs) => nbL cs
  | some (.rx _ _ _ _ _ v) => nbA v
  | _ => true

/-- What an operation looks at, and what it turns. -/
structure Fp where
  p : Nat
  refs : List Nat
  wr : List Nat
  call : Bool
  pas : Bool
  nb : Bool

def disj (a b : List Nat) : Bool := a.all fun x => !b.contains x
def okPair (x y : Fp) : Bool := !(x.call && y.call) && disj x.wr y.refs && disj x.wr y.wr && disj y.wr x.refs
def ancB (ops : Array Oper) : Nat → Nat → Nat → Bool
  | 0, _, _ => false
  | f + 1, i, j => match ops[i]? with
    | some o => o.after.toList.any fun e => Region.binds .any e && (e.on == j || ancB ops f e.on j)
    | none => false
def ordered (ops : Array Oper) (i j : Nat) : Bool := ancB ops ops.size i j || ancB ops ops.size j i
def apartB (ops : Array Oper) (x y : Oper) : Bool :=
  (match x.dst with | some d => !(y.looksAt ops).contains d && y.dst != some d | none => true) && (match y.dst with | some d => !(x.looksAt ops).contains d && x.dst != some d | none => true)
/-- What stands fast of a region: its edges go backwards, and what has no order touches other slots. -/
def fastB (ops : Array Oper) : Bool := (List.range ops.size).all fun i => match ops[i]? with
  | some o => (o.after.toList.all fun e => !Region.binds .any e || e.on < i) && (List.range i).all fun j => match ops[j]? with
    | some o' => ordered ops i j || apartB ops o o'
    | none => true
  | none => true
def chkB (ops : Array Oper) (acc : List Fp) (f : Fp) : Bool := acc.all fun x => ordered ops f.p x.p || okPair f x
def Ck (pc : Bool) (ops : Array Oper) (acc : List Fp) (f : Fp) : Prop := ((!pc || f.nb) && (!f.pas || pc) && chkB ops acc f) = true

def res (refs : List Nat) (H : Hp) : Hp := fun o => if refs.contains o then H o else none

def after0 (nt : Nat) (s : ASt) (ps : List Nat) (id : Nat) (d : Option Nat) (r : AV) (out : List (Option Ob)) : ASt :=
  { t := putT nt s.t d (renA (rn ps id) r), H := updL s.H (callObjs ps id 0 out), c := s.c }

def CallD (P : Program) (nt : Nat) (f : Nat) (args : List AV) (p id : Nat) (s : ASt) (C : Fp → Prop) (K : Fp → (Option Nat → ASt) → Prop) : Prop :=
  ∃ (used : List Nat) (bor : Bool) (ps : List Nat) (Hin : List Ob) (args' : List AV) (Post : AV → List (Option Ob) → Prop), CallOk P f Hin args' Post ∧ ps.Nodup ∧ Hin.length = ps.length ∧
    (∀ (k o : Nat), ps[k]? = some o → ∃ ob ob', res used s.H o = some ob ∧ Hin[k]? = some ob' ∧ ViewO bor (res used s.H) ps ob ob') ∧ args.length = args'.length ∧
    (∀ (i : Nat) x x', args[i]? = some x → args'[i]? = some x' → View bor (res used s.H) ps x x') ∧
    C ⟨p, used ++ ps, ps ++ (List.range 8).map (id + ·), true, !ps.isEmpty, true⟩ ∧ (∃ r out, Post r out) ∧
    ∀ r out, Post r out → ps.length ≤ out.length ∧ out.length ≤ ps.length + 8 ∧ (bor = true → Rs true out.length r ∧ ∀ ob, some ob ∈ out → RsOb true out.length ob) ∧
      K ⟨p, used ++ ps, ps ++ (List.range 8).map (id + ·), true, !ps.isEmpty, true⟩ (fun d => after0 nt s ps id d r out)

def detFp (p : Nat) (vals : List AV) (v : AV) (objs : List (Nat × Option Ob)) : Fp :=
  ⟨p, refsL vals, objs.map (·.1), false, false, nbA v && objs.all (fun x => nbO x.2)⟩

/-- What an operation looks at of the objects: a value that is only moved on needs none (where nothing borrowed lies about). -/
def fv (pc : Bool) (op : Op) (vs : List AV) : List AV := match op with
  | .move _ => (match pc with | true => [] | false => vs)
  | _ => vs
def stepD (P : Program) (nt p : Nat) (pc : Bool) (ops : Array Oper) (o : Oper) (acc : List Fp) (s : ASt) (K : Fp → ASt → Prop) : Prop :=
  match o.op with
  | .call { callee := .value (.func f), args := args, argTypes := _ } => CallD P nt f (args.toList.map (getA nt s.t)) p (s.c + 8 * p) s (fun fp => Ck pc ops acc fp) fun fp s' => K fp (s' o.dst)
  | op => bindK (evOp P (s.c + 8 * p) (res (refsL (fv pc op (op.operands.toList.map (getA nt s.t)))) s.H) (getA nt s.t) op) fun v objs =>
      Ck pc ops acc (detFp p (fv pc op (op.operands.toList.map (getA nt s.t))) v objs) ∧ K (detFp p (fv pc op (op.operands.toList.map (getA nt s.t))) v objs) { t := putT nt s.t o.dst v, H := updL s.H objs, c := s.c }
def skipFp (p : Nat) : Fp := ⟨p, [], [], false, false, true⟩
def gstepD (P : Program) (nt p : Nat) (pc : Bool) (ops : Array Oper) (o : Oper) (acc : List Fp) (s : ASt) (K : Fp → ASt → Prop) : Prop :=
  match o.guard with
  | none => stepD P nt p pc ops o acc s K
  | some (j, want) => match dstOf ops j with
    | none => False
    | some d => d < nt ∧ guardK (s.t d) (fun b => match want with
        | true => brB b (stepD P nt p pc ops o acc { s with t := upd s.t d (.c (.v (.bool true))) } K) (K (skipFp p) { s with t := putT nt (upd s.t d (.c (.v (.bool false)))) o.dst (.tu []) })
        | false => brB b (K (skipFp p) { s with t := putT nt (upd s.t d (.c (.v (.bool true)))) o.dst (.tu []) }) (stepD P nt p pc ops o acc { s with t := upd s.t d (.c (.v (.bool false))) } K))
      (fun _ => K (skipFp p) { s with t := putT nt s.t o.dst (.tu []) })
def drawR (P : Program) (nt : Nat) (pc : Bool) (ops : Array Oper) : List (Nat × Oper) → List Fp → ASt → (ASt → Prop) → Prop
  | [], _, s, K => K s
  | (p, o) :: r, acc, s, K => gstepD P nt p pc ops o acc s fun fp s' => drawR P nt pc ops r (fp :: acc) s' K
/-- Nothing borrowed lies about. -/
def NoB (s : ASt) : Prop := (∀ k, nbA (s.t k) = true) ∧ ∀ o, nbO (s.H o) = true
def numbered : Nat → List Oper → List (Nat × Oper)
  | _, [] => []
  | p, o :: r => (p, o) :: numbered (p + 1) r
def DrawQ (P : Program) (nt : Nat) (ops : Array Oper) (s : ASt) (K : ASt → Prop) : Prop := fastB ops = true ∧ ∃ pc : Bool, (pc = true → NoB s) ∧ drawR P nt pc ops (numbered 0 ops.toList) [] s K

theorem upd_self {t : Nat → AV} {d : Nat} {v : AV} (h : t d = v) : upd t d v = t := by
  funext k
  unfold upd
  split
  · rename_i hk; subst hk; exact h.symm
  · rfl

/-- Is the operation carried out? -/
def goes (ops : Array Oper) (nt : Nat) (o : Oper) (s : ASt) (b : Bool) : Prop := match o.guard with
  | none => b = true
  | some (j, want) => ∃ d, dstOf ops j = some d ∧ d < nt ∧ ((∃ v, s.t d = .c (.v (.bool v)) ∧ b = (v == want)) ∨ (s.t d = .tu [] ∧ b = false))

theorem gstepD_goes {P : Program} {nt p : Nat} {pc : Bool} {ops : Array Oper} {o : Oper} {acc : List Fp} {s : ASt} {K : Fp → ASt → Prop} (h : gstepD P nt p pc ops o acc s K) :
    (goes ops nt o s true ∧ stepD P nt p pc ops o acc s K) ∨ (goes ops nt o s false ∧ K (skipFp p) { t := putT nt s.t o.dst (.tu []), H := s.H, c := s.c }) := by
  unfold gstepD at h
  cases hg : o.guard with
  | none => rw [hg] at h; exact .inl ⟨by simp [goes, hg], h⟩
  | some jw =>
    obtain ⟨j, want⟩ := jw
    rw [hg] at h
    simp only at h
    cases hd : dstOf ops j with
    | none => rw [hd] at h; exact h.elim
    | some d =>
      rw [hd] at h
      obtain ⟨hlt, h⟩ := h
      rcases guardK_ex h with ⟨b, hb, h⟩ | ⟨hb, h⟩
      · cases want <;> cases b
        · simp only [brB_false, upd_self hb] at h; exact .inl ⟨by simp only [goes, hg]; exact ⟨d, hd, hlt, .inl ⟨false, hb, rfl⟩⟩, h⟩
        · simp only [brB_true, upd_self hb] at h; exact .inr ⟨by simp only [goes, hg]; exact ⟨d, hd, hlt, .inl ⟨true, hb, rfl⟩⟩, h⟩
        · simp only [brB_false, upd_self hb] at h; exact .inr ⟨by simp only [goes, hg]; exact ⟨d, hd, hlt, .inl ⟨false, hb, rfl⟩⟩, h⟩
        · simp only [brB_true, upd_self hb] at h; exact .inl ⟨by simp only [goes, hg]; exact ⟨d, hd, hlt, .inl ⟨true, hb, rfl⟩⟩, h⟩
      · exact .inr ⟨by unfold goes; rw [hg]; exact ⟨d, hd, hlt, .inr ⟨hb, rfl⟩⟩, h⟩
theorem gstepD_of {P : Program} {nt p : Nat} {pc : Bool} {ops : Array Oper} {o : Oper} {acc : List Fp} {s : ASt} {K : Fp → ASt → Prop} (h : (goes ops nt o s true ∧ stepD P nt p pc ops o acc s K) ∨ (goes ops nt o s false ∧ K (skipFp p) { t := putT nt s.t o.dst (.tu []), H := s.H, c := s.c })) :
    gstepD P nt p pc ops o acc s K := by
  unfold gstepD
  cases hg : o.guard with
  | none =>
    rcases h with ⟨_, h⟩ | ⟨h, _⟩
    · exact h
    · simp [goes, hg] at h
  | some jw =>
    obtain ⟨j, want⟩ := jw
    simp only
    have hgo : ∀ b, goes ops nt o s b → ∃ d, dstOf ops j = some d ∧ d < nt ∧ ((∃ v, s.t d = .c (.v (.bool v)) ∧ b = (v == want)) ∨ (s.t d = .tu [] ∧ b = false)) := fun b hb' => by
      simp only [goes, hg] at hb'
      exact hb'
    rcases h with ⟨h, h'⟩ | ⟨h, h'⟩ <;> obtain ⟨d, hd, hlt, ⟨v, hb, hv⟩ | ⟨hb, hv⟩⟩ := hgo _ h <;> rw [hd] <;> refine ⟨hlt, ?_⟩ <;> rw [hb]
    · cases want <;> cases v <;> simp only [guardK_c, brB_true, brB_false, upd_self hb] <;> first | exact h' | simp at hv
    · cases hv
    · cases want <;> cases v <;> simp only [guardK_c, brB_true, brB_false, upd_self hb] <;> first | exact h' | simp at hv
    · exact h'

theorem updL_comm {H : Hp} {a b : List (Nat × Option Ob)} (h : ∀ x ∈ a, ∀ y ∈ b, x.1 ≠ y.1) : updL (updL H a) b = updL (updL H b) a := by
  induction a generalizing H with
  | nil => rfl
  | cons x r ih =>
    show updL (updL (upd H x.1 x.2) r) b = updL (upd (updL H b) x.1 x.2) r
    rw [ih (fun y hy z hz => h y (List.mem_cons_of_mem _ hy) z hz)]
    congr 1
    have : ∀ (l : List (Nat × Option Ob)) (H : Hp), (∀ y ∈ l, x.1 ≠ y.1) → updL (upd H x.1 x.2) l = upd (updL H l) x.1 x.2 := by
      intro l
      induction l with
      | nil => intro H _; rfl
      | cons y l ih =>
        intro H hl
        show updL (upd (upd H x.1 x.2) y.1 y.2) l = upd (updL (upd H y.1 y.2) l) x.1 x.2
        rw [upd_comm _ _ _ (hl y (List.mem_cons_self ..)), ih _ (fun z hz => hl z (List.mem_cons_of_mem _ hz))]
    exact this b H (fun y hy => h x (List.mem_cons_self ..) y hy)
theorem putT_comm {nt : Nat} {t : Nat → AV} {d e : Option Nat} {v u : AV} (h : ∀ k, d = some k → e ≠ some k) : putT nt (putT nt t d v) e u = putT nt (putT nt t e u) d v := by
  cases d with
  | none => rfl
  | some d =>
    cases e with
    | none => rfl
    | some e =>
      have hne : d ≠ e := fun he => h d rfl (by rw [he])
      simp only [putT]
      split <;> split <;> first | rfl | exact upd_comm _ _ _ hne
theorem putT_at {nt : Nat} {t : Nat → AV} {d : Option Nat} {v : AV} {k : Nat} (h : d ≠ some k) : putT nt t d v k = t k := by
  cases d with
  | none => rfl
  | some d =>
    simp only [putT]
    split
    · exact upd_ne _ _ (fun e => h (by rw [e]))
    · rfl
theorem getA_congr {nt : Nat} {t t' : Nat → AV} {x : Operand} (h : ∀ k, x = .tmp k → t' k = t k) : getA nt t' x = getA nt t x := by
  cases x with
  | tmp k => simp only [getA]; rw [h k rfl]
  | const => rfl
  | global => rfl
  | func => rfl

/-- What an operation comes to hangs on its operands alone. -/
theorem evOp_congr {P : Program} {id : Nat} {H : Hp} {g g' : Operand → AV} {op : Op} (h : ∀ x ∈ op.operands, g' x = g x) : evOp P id H g' op = evOp P id H g op := by
  have hp : ∀ (ps : Array (Nat × Operand)), (∀ x ∈ (ps.toList.map (·.2)), g' x = g x) → (ps.toList.map fun p => (p.1, g' p.2)) = (ps.toList.map fun p => (p.1, g p.2)) := fun ps hx =>
    List.map_congr_left (fun p hp => by rw [hx p.2 (List.mem_map.2 ⟨p, hp, rfl⟩)])
  cases op with
  | build t ps => simp only [evOp]; rw [hp ps (fun x hx => h x (by simpa [Op.operands] using hx))]
  | buildSlice t n ps => simp only [evOp]; rw [hp ps (fun x hx => h x (by simpa [Op.operands] using hx))]
  | call c =>
    obtain ⟨callee, args, ts⟩ := c
    cases callee with
    | value => rfl
    | invoke => rfl
    | builtin b =>
      simp only [evOp]
      have ha : ∀ x ∈ args.toList, g' x = g x := fun x hx => h x (by simpa [Op.operands, Call.operands] using hx)
      split
      · rename_i x t ha' _; rw [ha x (by rw [ha']; simp)]
      · rename_i x y t u ha' _; rw [ha x (by rw [ha']; simp), ha y (by rw [ha']; simp)]
      · rename_i x y t u ha' _; rw [ha x (by rw [ha']; simp), ha y (by rw [ha']; simp)]
      · rename_i x y ha'; rw [ha x (by rw [ha']; simp), ha y (by rw [ha']; simp)]
      · rename_i x y ha'; rw [ha x (by rw [ha']; simp), ha y (by rw [ha']; simp)]
      · rfl
  | slice t x lo hi mx =>
    simp only [evOp]
    cases mx with
    | some m => rfl
    | none =>
      have e1 : g' x = g x := h x (by simp [Op.operands])
      have e2 : lo.map g' = lo.map g := by cases lo with | none => rfl | some l => simp only [Option.map_some]; rw [h l (by simp [Op.operands])]
      have e3 : hi.map g' = hi.map g := by cases hi with | none => rfl | some l => simp only [Option.map_some]; rw [h l (by simp [Op.operands])]
      rw [e1, e2, e3]
  | move x => simp only [evOp]; rw [h x (by simp [Op.operands])]
  | assign x => simp only [evOp]; rw [h x (by simp [Op.operands])]
  | pick c x y => simp only [evOp]; rw [h c (by simp [Op.operands]), h x (by simp [Op.operands]), h y (by simp [Op.operands])]
  | box e x => simp only [evOp]; rw [h x (by simp [Op.operands])]
  | load t x => simp only [evOp]; rw [h x (by simp [Op.operands])]
  | store t x y => simp only [evOp]; rw [h x (by simp [Op.operands]), h y (by simp [Op.operands])]
  | fieldAddr t x f => simp only [evOp]; rw [h x (by simp [Op.operands])]
  | indexAddr t x y => simp only [evOp]; rw [h x (by simp [Op.operands]), h y (by simp [Op.operands])]
  | nilCheck x => simp only [evOp]; rw [h x (by simp [Op.operands])]
  | binOp op t x y t' => simp only [evOp]; rw [h x (by simp [Op.operands]), h y (by simp [Op.operands])]
  | unOp op t x => simp only [evOp]; rw [h x (by simp [Op.operands])]
  | convert s d x => simp only [evOp]; rw [h x (by simp [Op.operands])]
  | index t x y => simp only [evOp]; rw [h x (by simp [Op.operands]), h y (by simp [Op.operands])]
  | makeSlice t x y => simp only [evOp]; rw [h x (by simp [Op.operands]), h y (by simp [Op.operands])]
  | extract x k => simp only [evOp]; rw [h x (by simp [Op.operands])]
  | lookup t m k ok => simp only [evOp]; rw [h m (by simp [Op.operands]), h k (by simp [Op.operands])]
  | mapUpdate t m k x => simp only [evOp]; rw [h m (by simp [Op.operands]), h k (by simp [Op.operands]), h x (by simp [Op.operands])]
  | _ => rfl
end Go.Proofs.YtnnmpdanfeejbaaGreat.Abs

/- The abstract machine: operations that have no order change places. -/
namespace Go.Proofs.YtnnmpdanfeejbaaGreat.Abs
open Go Go.RowKit
set_option linter.unusedVariables false
set_option linter.unusedSimpArgs false

def isCallB (op : Op) : Bool := match op with
  | .call { callee := .value (.func _), args := _, argTypes := _ } => true
  | _ => false
def apS (nt : Nat) (s : ASt) (d : Option Nat) (v : AV) (objs : List (Nat × Option Ob)) : ASt := { t := putT nt s.t d v, H := updL s.H objs, c := s.c }

section
variable {P : Program} {nt : Nat} {pc : Bool} {ops : Array Oper} {s s' : ASt}

def vals (nt : Nat) (s : ASt) (o : Oper) : List AV := o.op.operands.toList.map (getA nt s.t)

/-- A step without a call: carried out or left out. -/
def DetS (P : Program) (nt : Nat) (pc : Bool) (ops : Array Oper) (p : Nat) (o : Oper) (acc : List Fp) (s : ASt) (fp : Fp) (v : AV) (objs : List (Nat × Option Ob)) : Prop :=
  (goes ops nt o s false ∧ fp = skipFp p ∧ v = .tu [] ∧ objs = []) ∨
  (goes ops nt o s true ∧ isCallB o.op = false ∧ evOp P (s.c + 8 * p) (res (refsL (fv pc o.op (vals nt s o))) s.H) (getA nt s.t) o.op = some (v, objs) ∧ fp = detFp p (fv pc o.op (vals nt s o)) v objs ∧ Ck pc ops acc fp)

theorem gstep_cases {p : Nat} {o : Oper} {acc : List Fp} {K : Fp → ASt → Prop} : gstepD P nt p pc ops o acc s K ↔
    (∃ fp v objs, DetS P nt pc ops p o acc s fp v objs ∧ K fp (apS nt s o.dst v objs)) ∨
    (goes ops nt o s true ∧ ∃ f args ts, o.op = .call { callee := .value (.func f), args := args, argTypes := ts } ∧ CallD P nt f (args.toList.map (getA nt s.t)) p (s.c + 8 * p) s (fun fp => Ck pc ops acc fp) fun fp s' => K fp (s' o.dst)) := by
  have hstep : ∀ {K : Fp → ASt → Prop}, stepD P nt p pc ops o acc s K ↔ (∃ v objs, isCallB o.op = false ∧ evOp P (s.c + 8 * p) (res (refsL (fv pc o.op (vals nt s o))) s.H) (getA nt s.t) o.op = some (v, objs) ∧ Ck pc ops acc (detFp p (fv pc o.op (vals nt s o)) v objs) ∧ K (detFp p (fv pc o.op (vals nt s o)) v objs) (apS nt s o.dst v objs)) ∨
      (∃ f args ts, o.op = .call { callee := .value (.func f), args := args, argTypes := ts } ∧ CallD P nt f (args.toList.map (getA nt s.t)) p (s.c + 8 * p) s (fun fp => Ck pc ops acc fp) fun fp s' => K fp (s' o.dst)) := by
    intro K
    unfold stepD
    split
    · rename_i f args ts hop
      constructor
      · exact fun h => .inr ⟨f, args, ts, hop, h⟩
      · rintro (⟨v, objs, h, _⟩ | ⟨f', args', ts', h1, h2⟩)
        · rw [hop] at h; cases h
        · rw [hop] at h1
          cases h1
          exact h2
    · rename_i op hno
      have hnc : isCallB o.op = false := by
        unfold isCallB
        split
        · rename_i f args ts h
          exact absurd h (hno f args ts)
        · rfl
      constructor
      · intro h
        obtain ⟨v, objs, he, hc, hK⟩ := bindK_ex h
        exact .inl ⟨v, objs, hnc, he, hc, hK⟩
      · rintro (⟨v, objs, _, he, hc, hK⟩ | ⟨f', args', ts', h1, _⟩)
        · show bindK (evOp P _ _ _ o.op) _
          have he' : evOp P (s.c + 8 * p) (res (refsL (fv pc o.op (o.op.operands.toList.map (getA nt s.t)))) s.H) (getA nt s.t) o.op = some (v, objs) := he
          rw [he']
          exact ⟨hc, hK⟩
        · exact absurd h1 (hno f' args' ts')
  constructor
  · intro h
    rcases gstepD_goes h with ⟨hg, h⟩ | ⟨hg, h⟩
    · rcases hstep.1 h with ⟨v, objs, h1, h2, h3, h4⟩ | ⟨f, args, ts, h1, h2⟩
      · exact .inl ⟨_, v, objs, .inr ⟨hg, h1, h2, rfl, h3⟩, h4⟩
      · exact .inr ⟨hg, f, args, ts, h1, h2⟩
    · exact .inl ⟨_, _, _, .inl ⟨hg, rfl, rfl, rfl⟩, h⟩
  · rintro (⟨fp, v, objs, ⟨hg, rfl, rfl, rfl⟩ | ⟨hg, h1, h2, rfl, h3⟩, h4⟩ | ⟨hg, f, args, ts, h1, h2⟩)
    · exact gstepD_of (.inr ⟨hg, h4⟩)
    · exact gstepD_of (.inl ⟨hg, hstep.2 (.inl ⟨v, objs, h1, h2, h3, h4⟩)⟩)
    · exact gstepD_of (.inl ⟨hg, hstep.2 (.inr ⟨f, args, ts, h1, h2⟩)⟩)

theorem goes_congr {o : Oper} {b : Bool} (h : goes ops nt o s b) (hg : ∀ j w d, o.guard = some (j, w) → dstOf ops j = some d → s'.t d = s.t d) : goes ops nt o s' b := by
  unfold goes at h ⊢
  cases hgu : o.guard with
  | none => rw [hgu] at h; exact h
  | some jw =>
    obtain ⟨j, w⟩ := jw
    rw [hgu] at h
    obtain ⟨d, h1, h2, h3⟩ := h
    exact ⟨d, h1, h2, by rw [hg j w d hgu h1]; exact h3⟩

theorem res_congr {refs : List Nat} {H H' : Hp} (h : ∀ x ∈ refs, H' x = H x) : res refs H' = res refs H := by
  funext x
  unfold res
  split
  · rename_i hx; exact h x (by simpa using hx)
  · rfl

theorem DetS.loc {p : Nat} {o : Oper} {acc acc' : List Fp} {fp : Fp} {v : AV} {objs : List (Nat × Option Ob)} (h : DetS P nt pc ops p o acc s fp v objs) (ho : goes ops nt o s true → fp = detFp p (fv pc o.op (vals nt s o)) v objs → ∀ x ∈ o.op.operands, getA nt s'.t x = getA nt s.t x)
    (hg : ∀ j w d, o.guard = some (j, w) → dstOf ops j = some d → s'.t d = s.t d) (hH : ∀ x ∈ fp.refs, s'.H x = s.H x) (hc : s'.c = s.c) (hck : Ck pc ops acc fp → Ck pc ops acc' fp) : DetS P nt pc ops p o acc' s' fp v objs := by
  rcases h with ⟨h1, h2, h3, h4⟩ | ⟨h1, h2, h3, h4, h5⟩
  · exact .inl ⟨goes_congr h1 hg, h2, h3, h4⟩
  · have ho' := ho h1 h4
    have hv : vals nt s' o = vals nt s o := List.map_congr_left (fun x hx => ho' x (by simpa using hx))
    have hrefs : fp.refs = refsL (fv pc o.op (vals nt s o)) := by rw [h4]; rfl
    rw [hrefs] at hH
    refine .inr ⟨goes_congr h1 hg, h2, ?_, ?_, hck h5⟩
    · rw [hv, hc, res_congr hH, ← h3]
      exact evOp_congr ho'
    · rw [h4, hv]

theorem disj_iff {a b : List Nat} : disj a b = true ↔ ∀ x ∈ a, x ∉ b := by
  simp [disj]
theorem okPair_comm {x y : Fp} (h : okPair x y = true) : okPair y x = true := by
  simp only [okPair, Bool.and_eq_true, disj_iff, Bool.not_eq_true', Bool.or_eq_true] at h ⊢
  obtain ⟨⟨⟨h1, h2⟩, h3⟩, h4⟩ := h
  exact ⟨⟨⟨by rw [Bool.and_comm]; exact h1, h4⟩, fun a ha hb => h3 a hb ha⟩, h2⟩
theorem Ck_cons {acc : List Fp} {x f : Fp} : Ck pc ops (x :: acc) f ↔ (ordered ops f.p x.p = true ∨ okPair f x = true) ∧ Ck pc ops acc f := by
  simp only [Ck, chkB, List.all_cons, Bool.and_eq_true, Bool.or_eq_true]
  constructor
  · exact fun h => ⟨h.2.1, h.1, h.2.2⟩
  · exact fun h => ⟨h.2.1, h.1, h.2.2⟩
theorem Ck_sub {acc acc' : List Fp} {f : Fp} (h : ∀ x ∈ acc', x ∈ acc) (hc : Ck pc ops acc f) : Ck pc ops acc' f := by
  simp only [Ck, chkB, Bool.and_eq_true] at hc ⊢
  exact ⟨hc.1, List.all_eq_true.2 fun x hx => List.all_eq_true.1 hc.2 x (h x hx)⟩
theorem okPair_skip {p : Nat} {x : Fp} : okPair (skipFp p) x = true := by
  simp [okPair, skipFp, disj]

theorem DetS.fpp {p : Nat} {o : Oper} {acc : List Fp} {fp : Fp} {v : AV} {objs : List (Nat × Option Ob)} (h : DetS P nt pc ops p o acc s fp v objs) : fp.p = p ∧ fp.call = false ∧ fp.pas = false ∧ objs.map (·.1) = fp.wr := by
  rcases h with ⟨h1, rfl, h3, rfl⟩ | ⟨h1, h2, h3, rfl, h5⟩ <;> exact ⟨rfl, rfl, rfl, rfl⟩
/-- Two that have no order agree. -/
theorem DetS.okp {p q : Nat} {o : Oper} {acc : List Fp} {f fp : Fp} {v : AV} {objs : List (Nat × Option Ob)} (h : DetS P nt pc ops p o (f :: acc) s fp v objs) (hord : ordered ops p q = false) (hf : f.p = q) : okPair fp f = true ∧ (Ck pc ops acc fp ∨ fp = skipFp p) := by
  rcases h with ⟨h1, rfl, h3, rfl⟩ | ⟨h1, h2, h3, rfl, h5⟩
  · exact ⟨okPair_skip, .inr rfl⟩
  · have := Ck_cons.1 h5
    refine ⟨this.1.resolve_left (fun h => ?_), .inl this.2⟩
    rw [hf] at h
    have : ordered ops p q = true := h
    rw [hord] at this
    cases this

theorem apart_spec {x y : Oper} (h : apartB ops x y = true) : (∀ d, x.dst = some d → d ∉ y.looksAt ops ∧ y.dst ≠ some d) ∧ (∀ d, y.dst = some d → d ∉ x.looksAt ops ∧ x.dst ≠ some d) := by
  unfold apartB at h
  rw [Bool.and_eq_true] at h
  refine ⟨fun d hd => ?_, fun d hd => ?_⟩
  · have := h.1
    rw [hd] at this
    simpa using this
  · have := h.2
    rw [hd] at this
    simpa using this
theorem looks_op {o : Oper} {k : Nat} (h : Operand.tmp k ∈ o.op.operands) : k ∈ o.looksAt ops := by
  unfold Oper.looksAt
  refine List.mem_append_left _ (List.mem_filterMap.2 ⟨.tmp k, by simpa using h, rfl⟩)
theorem looks_guard {o : Oper} {j d : Nat} {w : Bool} (h : o.guard = some (j, w)) (hd : dstOf ops j = some d) : d ∈ o.looksAt ops := by
  unfold Oper.looksAt
  refine List.mem_append_right _ ?_
  rw [h]
  unfold dstOf at hd
  simp [hd]

/-- Slots that another's result doesn't touch. -/
theorem put_operands {x y : Oper} (h : apartB ops x y = true) {t : Nat → AV} {v : AV} : (∀ z ∈ y.op.operands, getA nt (putT nt t x.dst v) z = getA nt t z) ∧ (∀ j w d, y.guard = some (j, w) → dstOf ops j = some d → putT nt t x.dst v d = t d) := by
  have := (apart_spec h).1
  refine ⟨fun z hz => getA_congr (fun k hk => putT_at (fun hd => ?_)), fun j w d hg hd => putT_at (fun hx => (this d hx).1 (looks_guard hg hd))⟩
  subst hk
  exact (this k hd).1 (looks_op hz)
theorem apartB_comm {x y : Oper} (h : apartB ops x y = true) : apartB ops y x = true := by
  unfold apartB at h ⊢
  rw [Bool.and_comm]
  exact h
theorem dst_ne {x y : Oper} (h : apartB ops x y = true) : ∀ k, x.dst = some k → y.dst ≠ some k := fun k hk => ((apart_spec h).1 k hk).2
theorem apS_comm {x y : Oper} (h : apartB ops x y = true) {v u : AV} {a b : List (Nat × Option Ob)} (hd : ∀ p ∈ a, ∀ q ∈ b, p.1 ≠ q.1) : apS nt (apS nt s x.dst v a) y.dst u b = apS nt (apS nt s y.dst u b) x.dst v a := by
  unfold apS
  simp only
  rw [putT_comm (dst_ne h), updL_comm hd]

theorem swap_det {i j : Nat} {oi oj : Oper} {acc : List Fp} (hap : apartB ops oj oi = true) (hord : ordered ops i j = false) {fj fi : Fp} {vj vi : AV} {bj bi : List (Nat × Option Ob)}
    (hj : DetS P nt pc ops j oj acc s fj vj bj) (hi : DetS P nt pc ops i oi (fj :: acc) (apS nt s oj.dst vj bj) fi vi bi) :
    DetS P nt pc ops i oi acc s fi vi bi ∧ DetS P nt pc ops j oj (fi :: acc) (apS nt s oi.dst vi bi) fj vj bj ∧ apS nt (apS nt s oj.dst vj bj) oi.dst vi bi = apS nt (apS nt s oi.dst vi bi) oj.dst vj bj := by
  obtain ⟨p1, c1, q1, w1⟩ := hj.fpp
  obtain ⟨p2, c2, q2, w2⟩ := hi.fpp
  obtain ⟨hok, _⟩ := hi.okp hord p1
  have hok' := okPair_comm hok
  simp only [okPair, Bool.and_eq_true, disj_iff] at hok hok'
  have hHi : ∀ x ∈ fi.refs, s.H x = (apS nt s oj.dst vj bj).H x := fun x hx => (updL_out (fun y hy e => hok'.1.1.2 y.1 (by rw [← w1]; exact List.mem_map_of_mem hy) (e ▸ hx))).symm
  have hHj : ∀ x ∈ fj.refs, (apS nt s oi.dst vi bi).H x = s.H x := fun x hx => updL_out (fun y hy e => hok.1.1.2 y.1 (by rw [← w2]; exact List.mem_map_of_mem hy) (e ▸ hx))
  have po := put_operands (nt := nt) hap (t := s.t) (v := vj)
  have po' := put_operands (nt := nt) (apartB_comm hap) (t := s.t) (v := vi)
  refine ⟨hi.loc (fun _ _ x hx => (po.1 x hx).symm) (fun j w d hg hd => (po.2 j w d hg hd).symm) hHi rfl (Ck_sub (fun x hx => List.mem_cons_of_mem _ hx)), hj.loc (fun _ _ => po'.1) po'.2 hHj rfl (fun hc => ?_), apS_comm hap (fun x hx y hy e => ?_)⟩
  · refine Ck_cons.2 ⟨.inr (by simp only [okPair, Bool.and_eq_true, disj_iff]; exact hok'), hc⟩
  · exact hok'.1.2 x.1 (by rw [← w1]; exact List.mem_map_of_mem hx) (by rw [← w2, e]; exact List.mem_map_of_mem hy)
end
end Go.Proofs.YtnnmpdanfeejbaaGreat.Abs

/- The abstract machine: a call and an operation that has no order to it change places. -/
namespace Go.Proofs.YtnnmpdanfeejbaaGreat.Abs
open Go Go.RowKit
set_option linter.unusedVariables false
set_option linter.unusedSimpArgs false

mutual
theorem nb_kill : (x : AV) → nbA x = true → killA x = x
  | .sl o n, _ => rfl
  | .pt o i j, _ => rfl
  | .sv o a n, _ => rfl
  | .mr o, _ => rfl
  | .ag cs, h => by
    show AV.ag (killL cs) = .ag cs
    rw [nb_killL cs h]
  | .tu cs, h => by
    show AV.tu (killL cs) = .tu cs
    rw [nb_killL cs h]
  | .c x, _ => rfl
  | .nul, _ => rfl
  | .any, _ => rfl
  | .bw x, h => by cases h
termination_by structural x => x
theorem nb_killL : (l : List AV) → nbL l = true → killL l = l
  | [], _ => rfl
  | x :: r, h => by
    simp only [nbL, Bool.and_eq_true] at h
    show killA x :: killL r = x :: r
    rw [nb_kill x h.1, nb_killL r h.2]
termination_by structural l => l
end
theorem nb_killO {x : Ob} (h : nbO (some x) = true) : killO x = x := by
  cases x with
  | box ty cs =>
    show Ob.box ty (killL cs) = _
    rw [nb_killL cs h]
  | rw => rfl
  | rx ty sz es i j v => exact congrArg (Ob.rx ty sz es i j) (nb_kill v h)
  | mp => rfl
theorem klA_nb {ps : List Nat} {x : AV} (h : ps.isEmpty = true ∨ nbA x = true) : klA ps x = x := by
  unfold klA
  split
  · rfl
  · rename_i hn
    exact nb_kill x (h.resolve_left hn)

section
variable {P : Program} {nt : Nat} {pc : Bool} {ops : Array Oper} {s s' : ASt}

theorem goes_unique {o : Oper} {b b' : Bool} (h : goes ops nt o s b) (h' : goes ops nt o s b') : b = b' := by
  unfold goes at h h'
  cases hg : o.guard with
  | none => rw [hg] at h h'; simp only at h h'; rw [h, h']
  | some jw =>
    obtain ⟨j, w⟩ := jw
    rw [hg] at h h'
    obtain ⟨d, h1, h2, ⟨v, h3, h4⟩ | ⟨h3, h4⟩⟩ := h <;> obtain ⟨d', h1', h2', ⟨v', h3', h4'⟩ | ⟨h3', h4'⟩⟩ := h' <;> rw [h1] at h1' <;> cases h1' <;> rw [h3] at h3' <;> cases h3' <;> rw [h4, h4']
theorem DetS.unique {p : Nat} {o : Oper} {acc acc' : List Fp} {fp fp' : Fp} {v v' : AV} {b b' : List (Nat × Option Ob)} (h : DetS P nt pc ops p o acc s fp v b) (h' : DetS P nt pc ops p o acc' s fp' v' b') : fp = fp' ∧ v = v' ∧ b = b' := by
  rcases h with ⟨h1, rfl, rfl, rfl⟩ | ⟨h1, h2, h3, rfl, h5⟩ <;> rcases h' with ⟨g1, rfl, rfl, rfl⟩ | ⟨g1, g2, g3, rfl, g5⟩
  · exact ⟨rfl, rfl, rfl⟩
  · have := goes_unique h1 g1; cases this
  · have := goes_unique h1 g1; cases this
  · rw [h3] at g3
    cases g3
    exact ⟨rfl, rfl, rfl⟩

theorem callObjs_ids {ps : List Nat} {id : Nat} {out : List (Option Ob)} (h : out.length ≤ ps.length + 8) : ∀ x ∈ callObjs ps id 0 out, x.1 ∈ ps ++ (List.range 8).map (id + ·) := by
  intro x hx
  obtain ⟨j, y, hj, rfl⟩ := callObjs_mem hx
  rw [Nat.zero_add]
  by_cases hjp : j < ps.length
  · rw [rn_pass (List.getElem?_eq_getElem hjp)]
    exact List.mem_append_left _ (List.getElem_mem hjp)
  · rw [rn_new (by omega)]
    have := (List.getElem?_eq_some_iff.1 hj).1
    exact List.mem_append_right _ (List.mem_map.2 ⟨j - ps.length, List.mem_range.2 (by omega), rfl⟩)

/-- What a call leaves, seen by an operation that has no order to it. -/
theorem after_loc {p i : Nat} {o oi : Oper} {acc acc' : List Fp} {fp : Fp} {v : AV} {objs : List (Nat × Option Ob)} {ps used : List Nat} {id : Nat} {r : AV} {out : List (Option Ob)} {bb : Bool} (hap : apartB ops oi o = true) (hout : out.length ≤ ps.length + 8)
    (h : DetS P nt pc ops p o acc s fp v objs) (hok : okPair fp ⟨i, used ++ ps, ps ++ (List.range 8).map (id + ·), true, bb, true⟩ = true) (hck : Ck pc ops acc fp → Ck pc ops acc' fp) : DetS P nt pc ops p o acc' (after0 nt s ps id oi.dst r out) fp v objs := by
  simp only [okPair, Bool.and_eq_true, disj_iff] at hok
  have po := put_operands (nt := nt) hap (t := s.t) (v := renA (rn ps id) r)
  exact h.loc (fun _ _ => po.1) po.2 (fun x hx => updL_out (fun y hy e => hok.2 y.1 (callObjs_ids hout y hy) (e ▸ hx))) rfl hck
theorem after_back {p i : Nat} {o oi : Oper} {acc acc' : List Fp} {fp : Fp} {v : AV} {objs : List (Nat × Option Ob)} {ps used : List Nat} {id : Nat} {r : AV} {out : List (Option Ob)} {bb : Bool} (hap : apartB ops oi o = true) (hout : out.length ≤ ps.length + 8)
    (h : DetS P nt pc ops p o acc (after0 nt s ps id oi.dst r out) fp v objs) (hok : okPair fp ⟨i, used ++ ps, ps ++ (List.range 8).map (id + ·), true, bb, true⟩ = true) (hck : Ck pc ops acc fp → Ck pc ops acc' fp) : DetS P nt pc ops p o acc' s fp v objs := by
  simp only [okPair, Bool.and_eq_true, disj_iff] at hok
  have po := put_operands (nt := nt) hap (t := s.t) (v := renA (rn ps id) r)
  exact h.loc (fun _ _ x hx => (po.1 x hx).symm) (fun j w d hg hd => (po.2 j w d hg hd).symm) (fun x hx => (updL_out (fun y hy e => hok.2 y.1 (callObjs_ids hout y hy) (e ▸ hx))).symm) rfl hck

theorem after_comm {p i : Nat} {o oi : Oper} {acc : List Fp} {fp : Fp} {v : AV} {objs : List (Nat × Option Ob)} {s0 : ASt} {ps used : List Nat} {id : Nat} {r : AV} {out : List (Option Ob)} {bb : Bool} (hap : apartB ops oi o = true) (hout : out.length ≤ ps.length + 8)
    (h : DetS P nt pc ops p o acc s0 fp v objs) (hok : okPair fp ⟨i, used ++ ps, ps ++ (List.range 8).map (id + ·), true, bb, true⟩ = true) :
    apS nt (after0 nt s ps id oi.dst r out) o.dst v objs = after0 nt (apS nt s o.dst v objs) ps id oi.dst r out := by
  have hw := h.fpp.2.2.2
  simp only [okPair, Bool.and_eq_true, disj_iff] at hok
  unfold apS after0
  simp only
  rw [putT_comm (dst_ne hap), updL_comm (fun x hx y hy e => ?_)]
  exact hok.1.2 y.1 (by rw [← hw]; exact List.mem_map_of_mem hy) (by rw [← e]; exact callObjs_ids hout x hx)

/-- The call is seen alike. -/
theorem CallD.congr {f p id : Nat} {args args' : List AV} {C C' : Fp → Prop} {K K' : Fp → (Option Nat → ASt) → Prop} (h : CallD P nt f args p id s C K) (ha : args' = args)
    (hc : ∀ used ps, C ⟨p, used ++ ps, ps ++ (List.range 8).map (id + ·), true, !ps.isEmpty, true⟩ → C' ⟨p, used ++ ps, ps ++ (List.range 8).map (id + ·), true, !ps.isEmpty, true⟩ ∧ ∀ x ∈ used ++ ps, s'.H x = s.H x)
    (hk : ∀ used ps r out, C ⟨p, used ++ ps, ps ++ (List.range 8).map (id + ·), true, !ps.isEmpty, true⟩ → out.length ≤ ps.length + 8 → K ⟨p, used ++ ps, ps ++ (List.range 8).map (id + ·), true, !ps.isEmpty, true⟩ (fun d => after0 nt s ps id d r out) →
      K' ⟨p, used ++ ps, ps ++ (List.range 8).map (id + ·), true, !ps.isEmpty, true⟩ (fun d => after0 nt s' ps id d r out)) : CallD P nt f args' p id s' C' K' := by
  obtain ⟨used, bor, ps, Hin, args0, Post, h1, h2, h3, h4, h5, h6, h7, h8, h9⟩ := h
  obtain ⟨g1, g2⟩ := hc used ps h7
  have hres : res used s'.H = res used s.H := res_congr (fun x hx => g2 x (List.mem_append_left _ hx))
  refine ⟨used, bor, ps, Hin, args0, Post, h1, h2, h3, by rw [hres]; exact h4, by rw [ha]; exact h5, by rw [hres, ha]; exact h6, g1, h8, fun r out hP => ?_⟩
  obtain ⟨q1, q2, q3, q4⟩ := h9 r out hP
  exact ⟨q1, q2, q3, hk used ps r out h7 q2 q4⟩

theorem drawR_sub {l : List (Nat × Oper)} : ∀ {acc acc' : List Fp} {s : ASt} {K : ASt → Prop}, (∀ x ∈ acc', x ∈ acc) → drawR P nt pc ops l acc s K → drawR P nt pc ops l acc' s K := by
  induction l with
  | nil => exact fun _ h => h
  | cons x r ih =>
    intro acc acc' s K hs h
    obtain ⟨p, o⟩ := x
    have hcons : ∀ (f : Fp), ∀ y ∈ f :: acc', y ∈ f :: acc := fun f y hy => by
      rcases List.mem_cons.1 hy with rfl | hy
      · exact List.mem_cons_self ..
      · exact List.mem_cons_of_mem _ (hs y hy)
    rcases gstep_cases.1 h with ⟨fp, v, objs, hd, hK⟩ | ⟨hg, f, args, ts, ho, hc⟩
    · exact gstep_cases.2 (.inl ⟨fp, v, objs, hd.loc (fun _ _ _ _ => rfl) (fun _ _ _ _ _ => rfl) (fun _ _ => rfl) rfl (Ck_sub hs), ih (hcons fp) hK⟩)
    · exact gstep_cases.2 (.inr ⟨hg, f, args, ts, ho, hc.congr rfl (fun used ps hck => ⟨Ck_sub hs hck, fun _ _ => rfl⟩) (fun used ps r out _ _ hK => ih (hcons _) hK)⟩)

/-- Two neighbours without an order change places. -/
theorem drawR_swap {i j : Nat} {oi oj : Oper} {l : List (Nat × Oper)} {acc : List Fp} {K : ASt → Prop} (hap : apartB ops oj oi = true) (hord : ordered ops i j = false)
    (h : drawR P nt pc ops ((j, oj) :: (i, oi) :: l) acc s K) : drawR P nt pc ops ((i, oi) :: (j, oj) :: l) acc s K := by
  have hap' := apartB_comm hap
  have hperm : ∀ (x y : Fp) (a : List Fp), ∀ z ∈ x :: y :: a, z ∈ y :: x :: a := fun x y a z hz => by
    simp only [List.mem_cons] at hz ⊢
    rcases hz with h | h | h
    · exact .inr (.inl h)
    · exact .inl h
    · exact .inr (.inr h)
  rcases gstep_cases.1 h with ⟨fj, vj, bj, hj, h⟩ | ⟨hgj, f, args, ts, hoj, hc⟩
  · rcases gstep_cases.1 h with ⟨fi, vi, bi, hi, h⟩ | ⟨hgi, f, args, ts, hoi, hc⟩
    · obtain ⟨h1, h2, h3⟩ := swap_det hap hord hj hi
      refine gstep_cases.2 (.inl ⟨fi, vi, bi, h1, gstep_cases.2 (.inl ⟨fj, vj, bj, h2, ?_⟩)⟩)
      rw [← h3]
      exact drawR_sub (hperm _ _ _) h
    · -- a step, then a call
      have po := put_operands (nt := nt) hap (t := s.t) (v := vj)
      have hpj := hj.fpp.1
      have key : ∀ used ps, Ck pc ops (fj :: acc) ⟨i, used ++ ps, ps ++ (List.range 8).map (s.c + 8 * i + ·), true, !ps.isEmpty, true⟩ → okPair ⟨i, used ++ ps, ps ++ (List.range 8).map (s.c + 8 * i + ·), true, !ps.isEmpty, true⟩ fj = true ∧ Ck pc ops acc ⟨i, used ++ ps, ps ++ (List.range 8).map (s.c + 8 * i + ·), true, !ps.isEmpty, true⟩ := fun used ps hck => by
        have := Ck_cons.1 hck
        refine ⟨this.1.resolve_left (fun h => ?_), this.2⟩
        rw [hpj] at h
        have : ordered ops i j = true := h
        rw [hord] at this
        cases this
      refine gstep_cases.2 (.inr ⟨goes_congr hgi (fun j w d hg hd => (po.2 j w d hg hd).symm), f, args, ts, hoi, CallD.congr (s := apS nt s oj.dst vj bj) (s' := s) hc (List.map_congr_left (fun x hx => (po.1 x (by rw [hoi]; simpa [Op.operands, Call.operands] using Or.inr hx)).symm)) (fun used ps hck => ⟨(key used ps hck).2, fun x hx => ?_⟩) (fun used ps r out hck hout hK => ?_)⟩)
      · have hok := (key used ps hck).1
        simp only [okPair, Bool.and_eq_true, disj_iff] at hok
        exact (updL_out (fun y hy e => hok.2 y.1 (by rw [← hj.fpp.2.2.2]; exact List.mem_map_of_mem hy) (e ▸ hx))).symm
      · have hok := okPair_comm (key used ps hck).1
        refine gstep_cases.2 (.inl ⟨fj, vj, bj, after_loc hap' hout hj hok (fun hc => Ck_cons.2 ⟨.inr hok, hc⟩), ?_⟩)
        rw [after_comm hap' hout hj hok]
        exact drawR_sub (hperm _ _ _) hK
  · -- a call, then a step or a call
    obtain ⟨used, bor, ps, Hin, args0, Post, h1, h2, h3, h4, h5, h6, h7, ⟨r0, out0, hP0⟩, h9⟩ := hc
    obtain ⟨q1, q2, q3, q4⟩ := h9 r0 out0 hP0
    have hnc : ∀ (r : AV) (out : List (Option Ob)), out.length ≤ ps.length + 8 → drawR P nt pc ops ((i, oi) :: l) (⟨j, used ++ ps, ps ++ (List.range 8).map (s.c + 8 * j + ·), true, !ps.isEmpty, true⟩ :: acc) (after0 nt s ps (s.c + 8 * j) oj.dst r out) K →
        ∃ fi vi bi, DetS P nt pc ops i oi (⟨j, used ++ ps, ps ++ (List.range 8).map (s.c + 8 * j + ·), true, !ps.isEmpty, true⟩ :: acc) (after0 nt s ps (s.c + 8 * j) oj.dst r out) fi vi bi ∧
          drawR P nt pc ops l (fi :: ⟨j, used ++ ps, ps ++ (List.range 8).map (s.c + 8 * j + ·), true, !ps.isEmpty, true⟩ :: acc) (apS nt (after0 nt s ps (s.c + 8 * j) oj.dst r out) oi.dst vi bi) K := fun r out hout hK => by
      rcases gstep_cases.1 hK with ⟨fi, vi, bi, hi, h⟩ | ⟨hgi, f', args', ts', hoi, used', bor', ps', Hin', args0', Post', _, _, _, _, _, _, g7, _⟩
      · exact ⟨fi, vi, bi, hi, h⟩
      · exfalso
        have := (Ck_cons.1 g7).1
        rcases this with h | h
        · have h' : ordered ops i j = true := h
          rw [hord] at h'
          cases h'
        · simp [okPair] at h
    obtain ⟨fi, vi, bi, hi, hrest⟩ := hnc r0 out0 q2 q4
    have hpi := hi.fpp.1
    obtain ⟨hok, _⟩ := hi.okp hord rfl
    have hi0 : DetS P nt pc ops i oi acc s fi vi bi := after_back hap q2 hi hok (fun hc => Ck_sub (fun x hx => List.mem_cons_of_mem _ hx) hc)
    refine gstep_cases.2 (.inl ⟨fi, vi, bi, hi0, gstep_cases.2 (.inr ⟨goes_congr hgj (fun jj w d hg hd => (put_operands (nt := nt) hap' (t := s.t) (v := vi)).2 jj w d hg hd), f, args, ts, hoj, ?_⟩)⟩)
    have po := put_operands (nt := nt) hap' (t := s.t) (v := vi)
    have hcall : CallD P nt f (args.toList.map (getA nt s.t)) j (s.c + 8 * j) s (fun fp => Ck pc ops acc fp) fun fp s' => ∀ r out, s' = (fun d => after0 nt s ps (s.c + 8 * j) d r out) → out.length ≤ ps.length + 8 → fp = ⟨j, used ++ ps, ps ++ (List.range 8).map (s.c + 8 * j + ·), true, !ps.isEmpty, true⟩ → drawR P nt pc ops ((i, oi) :: l) (fp :: acc) (s' oj.dst) K := by
      refine ⟨used, bor, ps, Hin, args0, Post, h1, h2, h3, h4, h5, h6, h7, ⟨r0, out0, hP0⟩, fun r out hP => ?_⟩
      obtain ⟨a1, a2, a3, a4⟩ := h9 r out hP
      exact ⟨a1, a2, a3, fun r' out' he ho hf => a4⟩
    have hargs : args.toList.map (getA nt (apS nt s oi.dst vi bi).t) = args.toList.map (getA nt s.t) := List.map_congr_left (fun x hx => po.1 x (by rw [hoj]; simpa [Op.operands, Call.operands] using Or.inr hx))
    have hokc := okPair_comm hok
    have hokc' := hokc
    simp only [okPair, Bool.and_eq_true, disj_iff] at hokc
    have hHs : ∀ x ∈ used ++ ps, (apS nt s oi.dst vi bi).H x = s.H x := fun x hx => updL_out (fun y hy e => hokc.2 y.1 (by rw [← hi.fpp.2.2.2]; exact List.mem_map_of_mem hy) (e ▸ hx))
    have hres : res used (apS nt s oi.dst vi bi).H = res used s.H := res_congr (fun x hx => hHs x (List.mem_append_left _ hx))
    refine ⟨used, bor, ps, Hin, args0, Post, h1, h2, h3, by rw [hres]; exact h4, by rw [hargs]; exact h5, by rw [hres, hargs]; exact h6, Ck_cons.2 ⟨.inr hokc', h7⟩, ⟨r0, out0, hP0⟩, fun r out hP => ?_⟩
    obtain ⟨a1, a2, a3, a4⟩ := h9 r out hP
    refine ⟨a1, a2, a3, ?_⟩
    obtain ⟨fi', vi', bi', hi', hrest'⟩ := hnc r out a2 a4
    obtain ⟨hok'', _⟩ := hi'.okp hord rfl
    have hi1 : DetS P nt pc ops i oi acc s fi' vi' bi' := after_back hap a2 hi' hok'' (fun hc => Ck_sub (fun x hx => List.mem_cons_of_mem _ hx) hc)
    obtain ⟨rfl, rfl, rfl⟩ := hi0.unique hi1
    have hcm := after_comm (s := s) (r := r) (out := out) hap a2 hi0 hok''
    show drawR P nt pc ops l _ (after0 nt (apS nt s oi.dst vi bi) ps (s.c + 8 * j) oj.dst r out) K
    rw [← hcm]
    exact drawR_sub (hperm _ _ _) hrest'
end
end Go.Proofs.YtnnmpdanfeejbaaGreat.Abs

/- The abstract machine: a region that draws its order holds of the model, whatever order is drawn. -/
namespace Go.Proofs.YtnnmpdanfeejbaaGreat.Abs
open Go Go.RowKit
set_option linter.unusedVariables false
set_option linter.unusedSimpArgs false

theorem View.monoH {bor : Bool} {H H' : Hp} {ps : List Nat} (hH : ∀ o ob, H o = some ob → H' o = some ob) {x y : AV} (h : View bor H ps x y) : View bor H' ps x y := by
  induction h with
  | c x x' h => exact .c x x' h
  | same x => exact .same x
  | bw x x' h1 h2 h3 => exact .bw x x' h1 h2 h3
  | nul => exact .nul
  | nulR k => exact .nulR k
  | any x => exact .any x
  | slP o n k h => exact .slP o n k h
  | slB o n ty sz es x' h1 h2 h3 h4 h5 => exact .slB o n ty sz es x' h1 h2 (hH _ _ h3) h4 h5
  | svP o a n k h => exact .svP o a n k h
  | svB o a n ty sz es x' h1 h2 h3 h4 h5 h6 => exact .svB o a n ty sz es x' h1 h2 (hH _ _ h3) h4 h5 h6
  | ptP o i j k h => exact .ptP o i j k h
  | ptB o j ty cs cs' h1 h2 h3 h4 _ ih => exact .ptB o j ty cs cs' h1 h2 (hH _ _ h3) h4 ih
  | ptE o i j ty sz es e e' h1 h2 h3 h4 h5 => exact .ptE o i j ty sz es e e' h1 h2 (hH _ _ h3) h4 h5
  | ag cs cs' h _ ih => exact .ag cs cs' h ih
theorem ViewO.monoH {bor : Bool} {H H' : Hp} {ps : List Nat} (hH : ∀ o ob, H o = some ob → H' o = some ob) {x y : Ob} (h : ViewO bor H ps x y) : ViewO bor H' ps x y := by
  cases x <;> cases y <;> first | exact h.elim | exact h | exact ⟨h.1, h.2.1, fun i c c' hc hc' => (h.2.2 i c c' hc hc').monoH hH⟩

theorem res_le (refs : List Nat) (H : Hp) : ∀ o ob, res refs H o = some ob → H o = some ob := by
  intro o ob h
  unfold res at h
  split at h
  · exact h
  · cases h

section
variable {P : Program} {nt : Nat} {I : Ini} {pc : Bool} {ops : Array Oper} {s : ASt} {E : Env} {a : Act} {w : World}

theorem NoB.kl (h : NoB s) (ps : List Nat) : kl ps s.t = s.t ∧ klH ps s.H = s.H := by
  constructor
  · funext k
    rw [kl_at]
    exact klA_nb (.inr (h.1 k))
  · unfold klH
    split
    · rfl
    · funext o
      have := h.2 o
      show (s.H o).map killO = s.H o
      cases hh : s.H o with
      | none => rfl
      | some ob => rw [hh] at this; simp only [Option.map_some, nb_killO this]

theorem rs_nb {bor : Bool} {m : Nat} {f : Nat → Nat} {x : AV} (h : Rs bor m x) : nbA (renA f x) = true := by
  have hl : ∀ (l : List AV), (∀ c ∈ l, nbA (renA f c) = true) → nbL (renL f l) = true := by
    intro l
    induction l with
    | nil => exact fun _ => rfl
    | cons y r ih =>
      intro hy
      show (nbA (renA f y) && nbL (renL f r)) = true
      rw [hy y (List.mem_cons_self ..), ih (fun z hz => hy z (List.mem_cons_of_mem _ hz))]
      rfl
  induction h with
  | v x => rfl
  | c x _ => rfl
  | nul => rfl
  | any => rfl
  | sl o n _ _ => rfl
  | pt o i j _ _ => rfl
  | sv o a n _ _ => rfl
  | mr o _ _ => rfl
  | ag cs _ ih => exact hl cs ih
  | tu cs _ ih => exact hl cs ih

theorem rsL_nb {bor : Bool} {m : Nat} {f : Nat → Nat} {l : List AV} (h : ∀ c ∈ l, Rs bor m c) : nbL (renL f l) = true := by
  induction l with
  | nil => rfl
  | cons y r ih =>
    show (nbA (renA f y) && nbL (renL f r)) = true
    rw [rs_nb (h y (List.mem_cons_self ..)), ih (fun z hz => h z (List.mem_cons_of_mem _ hz))]
    rfl
theorem CallOk.rs {P : Program} {f : Nat} {Hin : List Ob} {args : List AV} {Post : AV → List (Option Ob) → Prop} (h : CallOk P f Hin args Post) :
    CallOk P f Hin args (fun r out => Post r out ∧ Rs false out.length r ∧ ∀ ob, some ob ∈ out → RsOb false out.length ob) := by
  refine ⟨h.1, fun w E vals h1 h2 h3 h4 => (h.2 w E vals h1 h2 h3 h4).mono ?_⟩
  rintro e w' ⟨u, r, out, E', rfl, hP, hr, hlive, hrs, hros, rest⟩
  exact ⟨u, r, out, E', rfl, ⟨hP, hrs, hros⟩, hr, hlive, hrs, hros, rest⟩

theorem NoB.put (h : NoB s) {d : Option Nat} {v : AV} {objs : List (Nat × Option Ob)} (hv : nbA v = true) (ho : ∀ x ∈ objs, nbO x.2 = true) : NoB { t := putT nt s.t d v, H := updL s.H objs, c := s.c } := by
  refine ⟨fun k => ?_, fun o => ?_⟩
  · show nbA (putT nt s.t d v k) = true
    cases d with
    | none => exact h.1 k
    | some d =>
      simp only [putT]
      split
      · rw [upd_at]
        split
        · exact hv
        · exact h.1 k
      · exact h.1 k
  · show nbO (updL s.H objs o) = true
    by_cases hx : ∃ x ∈ objs, x.1 = o
    · have : ∀ (l : List (Nat × Option Ob)) (H : Hp), (∀ x ∈ l, nbO x.2 = true) → (∀ o, nbO (H o) = true) → ∀ o, nbO (updL H l o) = true := by
        intro l
        induction l with
        | nil => exact fun H _ h => h
        | cons y r ih =>
          intro H hl hH o
          refine ih (upd H y.1 y.2) (fun z hz => hl z (List.mem_cons_of_mem _ hz)) (fun q => ?_) o
          rw [upd_at]
          split
          · exact hl y (List.mem_cons_self ..)
          · exact hH q
      exact this objs s.H ho h.2 o
    · rw [updL_out (fun x hx' e => hx ⟨x, hx', e⟩)]
      exact h.2 o

theorem gstepD_mono {p : Nat} {o : Oper} {acc : List Fp} {K K' : Fp → ASt → Prop} (hk : ∀ fp s', K fp s' → K' fp s') (h : gstepD P nt p pc ops o acc s K) : gstepD P nt p pc ops o acc s K' := by
  rcases gstep_cases.1 h with ⟨fp, v, objs, hd, hK⟩ | ⟨hg, f, args, ts, ho, hc⟩
  · exact gstep_cases.2 (.inl ⟨fp, v, objs, hd, hk _ _ hK⟩)
  · exact gstep_cases.2 (.inr ⟨hg, f, args, ts, ho, hc.congr rfl (fun used ps hck => ⟨hck, fun _ _ => rfl⟩) (fun used ps r out _ _ hK => hk _ _ hK)⟩)

theorem moveFront {i : Nat} {oi : Oper} {post : List (Nat × Oper)} {K : ASt → Prop} : ∀ {pre : List (Nat × Oper)} {acc : List Fp} {s : ASt}, (∀ x ∈ pre, apartB ops x.2 oi = true ∧ ordered ops i x.1 = false) →
    drawR P nt pc ops (pre ++ (i, oi) :: post) acc s K → drawR P nt pc ops ((i, oi) :: (pre ++ post)) acc s K
  | [], acc, s, _, h => h
  | (j, oj) :: pre, acc, s, hx, h => by
    have h1 : drawR P nt pc ops ((j, oj) :: (i, oi) :: (pre ++ post)) acc s K := gstepD_mono (fun fp s' hK => moveFront (fun x hx' => hx x (List.mem_cons_of_mem _ hx')) hK) h
    obtain ⟨h2, h3⟩ := hx (j, oj) (List.mem_cons_self ..)
    exact drawR_swap h2 h3 h1

theorem goes_wanted {o : Oper} {b : Bool} {U : Nat → Prop} (hR : RelE nt I U s E a w) (h : goes ops nt o s b) : Region.wanted o (yielded ops a.tmps) = b := by
  unfold goes at h
  cases hg : o.guard with
  | none => rw [hg] at h; simp only at h; simp [Region.wanted, hg, h]
  | some jw =>
    obtain ⟨j, want⟩ := jw
    rw [hg] at h
    obtain ⟨d, hd, hlt, hb⟩ := h
    rcases hb with ⟨v, hb, rfl⟩ | ⟨hb, rfl⟩
    rotate_left
    · have hk : d < a.tmps.size := by rw [hR.size]; exact hlt
      have h3 := hR.slots d a.tmps[d] (Array.getElem?_eq_getElem hk)
      rw [hb] at h3
      unfold Region.wanted
      rw [hg]
      simp only [yielded]
      unfold dstOf at hd
      rw [hd]
      generalize hq : a.tmps[d] = q at h3
      cases h3
      simp [hq, Array.getElem?_eq_getElem hk]
    have hk : d < a.tmps.size := by rw [hR.size]; exact hlt
    have h3 := hR.slots d a.tmps[d] (Array.getElem?_eq_getElem hk)
    rw [hb] at h3
    have hsl : a.tmps[d]? = some (.bool v) := by
      cases h3 with
      | c _ _ h3 =>
        generalize hq : a.tmps[d] = q at h3
        cases h3
        rw [Array.getElem?_eq_getElem hk, hq]
    unfold Region.wanted
    rw [hg]
    simp only [yielded]
    unfold dstOf at hd
    rw [hd]
    simp only [Option.bind_some, hsl]
    cases v <;> cases want <;> rfl

theorem gstepD_sound {o : Oper} {p : Nat} {acc : List Fp} {K : Fp → ASt → Prop} {U : Nat → Prop} (hR : RelE nt I U s E a w) (hU : ∀ j, j < 8 → ¬ U (s.c + 8 * p + j)) (hnb : pc = true → NoB s) (h : gstepD P nt p pc ops o acc s K) {next : Act → World → Prop} {Q : Exit → Act → World → Prop}
    (hn : ∀ fp s' E' a' w', K fp s' → s'.c = s.c → (pc = true → NoB s') → RelE nt I (fun o => U o ∨ ∃ j, j < 8 ∧ o = s.c + 8 * p + j) s' E' a' w' → next a' w') :
    if Region.wanted o (yielded ops a.tmps) then o.wp P a w next Q else next (a.put o.dst undef) w := by
  have hU0 : ¬ U (s.c + 8 * p) := by simpa using hU 0 (by omega)
  have hmono : ∀ {s' : ASt} {E' : Env} {a' : Act} {w' : World}, RelE nt I (fun o => U o ∨ o = s.c + 8 * p) s' E' a' w' → RelE nt I (fun o => U o ∨ ∃ j, j < 8 ∧ o = s.c + 8 * p + j) s' E' a' w' := fun h => h.mono (fun q hq => hq.imp (fun h => h) (fun h => ⟨0, by omega, by omega⟩))
  rcases gstep_cases.1 h with ⟨fp, v, objs, hd, hK⟩ | ⟨hg, f, args, ts, hop, hc⟩
  · rcases hd with ⟨h1, rfl, rfl, rfl⟩ | ⟨h1, h2, h3, rfl, h5⟩
    · rw [goes_wanted hR h1]
      rw [if_neg (by simp)]
      have fx : Fx w E s.H U (s.c + 8 * p) (.tu []) [] undef w E := Fx.same hR.locLt (.tu [] #[] rfl (fun i c u hc _ => by simp at hc)) (.tu _ (fun x hx => by simp at hx))
      exact hn _ _ E _ w hK rfl (fun hp => (hnb hp).put rfl (fun x hx => by simp at hx)) (hmono (Rel.step hR hU0 fx o.dst))
    · rw [goes_wanted hR h1, if_pos rfl]
      refine upon_good (ev_sound hR hU0 (res_le _ _) h3) (fun u w' E' hf => hn _ _ E' _ w' hK rfl (fun hp => (hnb hp).put ?_ ?_) (hmono (Rel.step hR hU0 hf o.dst)))
      · simp only [Ck, Bool.and_eq_true, detFp, hp, Bool.not_true, Bool.false_or] at h5
        exact h5.1.1.1
      · simp only [Ck, Bool.and_eq_true, detFp, hp, Bool.not_true, Bool.false_or] at h5
        exact List.all_eq_true.1 h5.1.1.2
  · rw [goes_wanted hR hg, if_pos rfl]
    obtain ⟨used, bor, ps, Hin, args', Post, hok, hnd, hl, hin, hal, hav, hck, _, hpost⟩ := hc
    have hkl : kl ps s.t = s.t ∧ klH ps s.H = s.H := by
      by_cases hps : ps = []
      · subst hps; exact ⟨rfl, rfl⟩
      · simp only [Ck, Bool.and_eq_true, Bool.or_eq_true, Bool.not_eq_true', Bool.not_eq_false'] at hck
        have : pc = true := by
          rcases hck.1.2 with h | h
          · exact absurd (List.isEmpty_iff.1 (by simpa using h)) hps
          · exact h
        exact (hnb this).kl ps
    have hafter : ∀ id d r out, after nt s ps id d r out = after0 nt s ps id d r out := fun id d r out => by
      unfold after after0
      rw [hkl.1, hkl.2]
    have hstp : stp P nt p o s (fun s' => ∃ fp, K fp s' ∧ (pc = true → NoB s')) := by
      unfold stp
      rw [hop]
      refine ⟨bor, ps, Hin, args', _, hok.rs, hnd, hl, fun k q hk => ?_, hal, fun i x x' hx hx' => (hav i x x' hx hx').monoH (res_le _ _), fun r out ⟨hP, hrs, hros⟩ => ?_⟩
      · obtain ⟨ob, ob', h1, h2, h3⟩ := hin k q hk
        exact ⟨ob, ob', res_le _ _ _ _ h1, h2, h3.monoH (res_le _ _)⟩
      · obtain ⟨q1, q2, q3, q4⟩ := hpost r out hP
        refine ⟨q1, q2, q3, ?_⟩
        rw [hafter]
        refine ⟨_, q4, fun hp => (hnb hp).put (rs_nb hrs) (fun x hx => ?_)⟩
        obtain ⟨j, y, hj, rfl⟩ := callObjs_mem hx
        cases y with
        | none => rfl
        | some ob =>
          have := hros ob (List.mem_of_getElem? hj)
          cases ob with
          | box ty cs =>
            show nbL (renL _ cs) = true
            exact rsL_nb this
          | rw => rfl
          | rx => exact this.elim
          | mp => rfl
    exact stp_sound hR hU hstp (fun s' E' a' w' ⟨fp, hK, hnb'⟩ hc hR' => hn fp s' E' a' w' hK hc hnb' hR')

theorem fast_spec (h : fastB ops = true) {i : Nat} {o : Oper} (ho : ops[i]? = some o) : (∀ e ∈ o.after, Region.binds .any e = true → e.on < i) ∧ ∀ j o', j < i → ops[j]? = some o' → ordered ops i j = true ∨ apartB ops o o' = true := by
  unfold fastB at h
  have hi := (Array.getElem?_eq_some_iff.1 ho).1
  have := List.all_eq_true.1 h i (List.mem_range.2 hi)
  rw [ho] at this
  simp only [Bool.and_eq_true] at this
  refine ⟨fun e he hb => ?_, fun j o' hj ho' => ?_⟩
  · have h1 := List.all_eq_true.1 this.1 e (by simpa using he)
    simpa [hb] using h1
  · have h1 := List.all_eq_true.1 this.2 j (List.mem_range.2 hj)
    rw [ho'] at h1
    simpa using h1
theorem anc_lt (h : fastB ops = true) : ∀ {f i j : Nat}, ancB ops f i j = true → j < i
  | 0, i, j, hh => by cases hh
  | f + 1, i, j, hh => by
    unfold ancB at hh
    split at hh
    · rename_i o ho
      obtain ⟨e, he, hb⟩ := List.any_eq_true.1 hh
      simp only [Bool.and_eq_true, Bool.or_eq_true, beq_iff_eq] at hb
      have h1 := (fast_spec h ho).1 e (by simpa using he) hb.1
      rcases hb.2 with h2 | h2
      · omega
      · have := anc_lt h h2
        omega
    · cases hh
/-- What has come up is closed under what must come before. -/
def Closed (ops : Array Oper) (l : Array Bool) : Prop := ∀ (i : Nat) o, ops[i]? = some o → l.getD i true = true → ∀ e ∈ o.after, Region.binds .any e = true → l.getD e.on false = true
theorem getD_tf {l : Array Bool} {i : Nat} (h : l.getD i false = true) : l.getD i true = true := by
  simp only [Array.getD_eq_getD_getElem?] at h ⊢
  cases hh : l[i]? with
  | none => rw [hh] at h; cases h
  | some b => rw [hh] at h; exact h
theorem anc_listed {l : Array Bool} (hc : Closed ops l) : ∀ {f i j : Nat} {o : Oper}, ops[i]? = some o → (∀ e ∈ o.after, Region.binds .any e = true → l.getD e.on false = true) → ancB ops f i j = true → l.getD j true = true
  | 0, i, j, o, ho, hp, hh => by cases hh
  | f + 1, i, j, o, ho, hp, hh => by
    unfold ancB at hh
    rw [ho] at hh
    obtain ⟨e, he, hb⟩ := List.any_eq_true.1 hh
    simp only [Bool.and_eq_true, Bool.or_eq_true, beq_iff_eq] at hb
    have h1 := hp e (by simpa using he) hb.1
    rcases hb.2 with h2 | h2
    · rw [← h2]; exact getD_tf h1
    · cases ho' : ops[e.on]? with
      | none =>
        cases f with
        | zero => cases h2
        | succ f => unfold ancB at h2; rw [ho'] at h2; cases h2
      | some o' => exact anc_listed hc ho' (hc e.on o' ho' (getD_tf h1)) h2

theorem any_sound (hfast : fastB ops = true) {c : Nat} {K : ASt → Prop} {Q : Exit → Act → World → Prop} (hend : ∀ s' E' a' w', K s' → s'.c = c → RelE nt I (fun o => o < c + 8 * ops.size) s' E' a' w' → Q .normal a' w') :
    ∀ (fuel : Nat) (listed : Array Bool) (L : List (Nat × Oper)) (acc : List Fp) (s : ASt) (E : Env) (a : Act) (w : World), listed.size = ops.size → (∀ p o, (p, o) ∈ L ↔ ops[p]? = some o ∧ listed.getD p true = false) → L.Pairwise (fun x y => x.1 < y.1) → L.length ≤ fuel → Closed ops listed →
      s.c = c → (pc = true → NoB s) → drawR P nt pc ops L acc s K → RelE nt I (fun q => q < c ∨ ∃ p j, p < ops.size ∧ listed.getD p true = true ∧ j < 8 ∧ q = c + 8 * p + j) s E a w → wpAny P .any ops Q fuel listed a w := by
  intro fuel
  have hfin : ∀ (listed : Array Bool) (L : List (Nat × Oper)) (acc : List Fp) (s : ASt) (E : Env) (a : Act) (w : World), L = [] → s.c = c → drawR P nt pc ops L acc s K → RelE nt I (fun q => q < c ∨ ∃ p j, p < ops.size ∧ listed.getD p true = true ∧ j < 8 ∧ q = c + 8 * p + j) s E a w → Q .normal a w := by
    intro listed L acc s E a w hL hc h hR
    subst hL
    refine hend s E a w h hc (hR.mono (fun q hq => ?_))
    rcases hq with hq | ⟨p, j, hp, _, hj, rfl⟩ <;> omega
  have hready : ∀ (listed : Array Bool) (i : Nat), i ∈ Region.ready .any ops listed ↔ ∃ o, ops[i]? = some o ∧ listed.getD i true = false ∧ ∀ e ∈ o.after, Region.binds .any e = true → listed.getD e.on false = true := by
    intro listed i
    unfold Region.ready
    rw [List.mem_filter, List.mem_range]
    constructor
    · rintro ⟨hi, h⟩
      have ho := Array.getElem?_eq_getElem hi
      rw [ho] at h
      simp only [Option.map_some, Option.getD_some, Bool.and_eq_true, Bool.not_eq_true'] at h
      refine ⟨_, ho, h.1, fun e he hb => ?_⟩
      have := Array.all_eq_true'.1 h.2 e he
      simpa [hb] using this
    · rintro ⟨o, ho, h1, h2⟩
      refine ⟨(Array.getElem?_eq_some_iff.1 ho).1, ?_⟩
      rw [ho, h1]
      simp only [Option.map_some, Option.getD_some, Bool.not_false, Bool.true_and]
      refine Array.all_eq_true'.2 (fun e he => ?_)
      by_cases hb : Region.binds .any e = true
      · simp [h2 e he hb]
      · simp [hb]
  have hnil : ∀ (listed : Array Bool) (L : List (Nat × Oper)), listed.size = ops.size → (∀ p o, (p, o) ∈ L ↔ ops[p]? = some o ∧ listed.getD p true = false) → L.Pairwise (fun x y => x.1 < y.1) → Region.ready .any ops listed = [] → L = [] := by
    intro listed L hsz hL hs hr
    cases L with
    | nil => rfl
    | cons x r =>
      exfalso
      obtain ⟨p, o⟩ := x
      obtain ⟨ho, hl⟩ := (hL p o).1 (List.mem_cons_self ..)
      have : p ∈ Region.ready .any ops listed := (hready listed p).2 ⟨o, ho, hl, fun e he hb => ?_⟩
      · rw [hr] at this; simp at this
      · have hlt := (fast_spec hfast ho).1 e he hb
        have hp := (Array.getElem?_eq_some_iff.1 ho).1
        have hoe := Array.getElem?_eq_getElem (xs := ops) (i := e.on) (by omega)
        cases hb' : listed.getD e.on true with
        | true =>
          have hlt' : e.on < listed.size := by omega
          simp only [Array.getD_eq_getD_getElem?, Array.getElem?_eq_getElem hlt', Option.getD_some] at hb' ⊢
          exact hb'
        | false =>
          have hm := (hL e.on _).2 ⟨hoe, hb'⟩
          rcases List.mem_cons.1 hm with h | h
          · cases h; omega
          · have := (List.pairwise_cons.1 hs).1 _ h
            simp at this
            omega
  induction fuel with
  | zero =>
    intro listed L acc s E a w hsz hL hs hlen hcl hc hnb h hR
    have hL0 : L = [] := List.eq_nil_of_length_eq_zero (by omega)
    refine ⟨?_, hfin listed L acc s E a w hL0 hc h hR⟩
    rw [List.eq_nil_iff_forall_not_mem]
    intro i hi
    obtain ⟨o, ho, hl, _⟩ := (hready listed i).1 hi
    have := (hL i o).2 ⟨ho, hl⟩
    rw [hL0] at this
    simp at this
  | succ fuel ih =>
    intro listed L acc s E a w hsz hL hs hlen hcl hc hnb h hR
    refine ⟨fun hr => hfin listed L acc s E a w (hnil listed L hsz hL hs hr) hc h hR, fun i hi => ?_⟩
    obtain ⟨oi, ho, hl, hpred⟩ := (hready listed i).1 hi
    have hil := (Array.getElem?_eq_some_iff.1 ho).1
    obtain ⟨pre, post, rfl⟩ := List.append_of_mem ((hL i oi).2 ⟨ho, hl⟩)
    have hpre : ∀ x ∈ pre, apartB ops x.2 oi = true ∧ ordered ops i x.1 = false := fun x hx => by
      obtain ⟨j, oj⟩ := x
      have hj := (hL j oj).1 (List.mem_append_left _ hx)
      have hlt : j < i := by
        have := (List.pairwise_append.1 hs).2.2 (j, oj) hx (i, oi) (List.mem_cons_self ..)
        exact this
      have hord : ordered ops i j = false := by
        unfold ordered
        rw [Bool.or_eq_false_iff]
        constructor
        · cases hb : ancB ops ops.size i j with
          | false => rfl
          | true =>
            have := anc_listed hcl ho hpred hb
            rw [hj.2] at this
            cases this
        · cases hb : ancB ops ops.size j i with
          | false => rfl
          | true =>
            have := anc_lt hfast hb
            omega
      refine ⟨?_, hord⟩
      rcases (fast_spec hfast ho).2 j oj hlt hj.1 with h1 | h1
      · rw [hord] at h1; cases h1
      · exact apartB_comm h1
    have h' := moveFront hpre h
    have hU : ∀ j, j < 8 → ¬ (s.c + 8 * i + j < c ∨ ∃ p j', p < ops.size ∧ listed.getD p true = true ∧ j' < 8 ∧ s.c + 8 * i + j = c + 8 * p + j') := by
      intro j hj hx
      rw [hc] at hx
      rcases hx with hx | ⟨p, j', hp, hpl, hj', he⟩
      · omega
      · have : p = i := by omega
        subst this
        rw [hl] at hpl
        cases hpl
    unfold wpOp
    rw [ho]
    have hst := gstepD_sound (ops := ops) (P := P) (Q := Q) (next := wpAny P .any ops Q fuel (listed.setIfInBounds i true)) hR hU hnb h' (fun fp s' E' a' w' hK hc' hnb' hR' => ?_)
    · simp only
      split
      · rename_i hw; rw [if_pos hw] at hst; exact .inl hst
      · rename_i hw; rw [if_neg hw] at hst; exact hst
    · have hset : ∀ (p : Nat) (d : Bool), p < ops.size → (listed.setIfInBounds i true).getD p d = if p = i then true else listed.getD p d := fun p d hp => by
        simp only [Array.getD_eq_getD_getElem?, Array.getElem?_setIfInBounds]
        by_cases hpi : p = i
        · subst hpi
          simp [hsz, hil]
        · rw [if_neg (fun h => hpi h.symm), if_neg hpi]
      refine ih (listed.setIfInBounds i true) (pre ++ post) (fp :: acc) s' E' a' w' (by simpa using hsz) (fun p o => ?_) ?_ (by simp at hlen ⊢; omega) (fun p o hop hlp e he hb => ?_) (hc'.trans hc) hnb' hK (hR'.mono (fun q hq => ?_))
      · have h1 := hL p o
        rw [List.mem_append, List.mem_cons] at h1
        rw [List.mem_append]
        constructor
        · intro hm
          have h2 := h1.1 (hm.imp id (fun h => .inr h))
          have hps := (Array.getElem?_eq_some_iff.1 h2.1).1
          refine ⟨h2.1, ?_⟩
          rw [hset p true hps, if_neg]
          · exact h2.2
          · intro hpi
            subst hpi
            have hpw := List.pairwise_append.1 hs
            rcases hm with hm | hm
            · have := hpw.2.2 _ hm _ (List.mem_cons_self ..)
              simp at this
            · have := (List.pairwise_cons.1 hpw.2.1).1 _ hm
              simp at this
        · rintro ⟨h2, h3⟩
          have hps := (Array.getElem?_eq_some_iff.1 h2).1
          rw [hset p true hps] at h3
          split at h3
          · cases h3
          · rename_i hpi
            rcases h1.2 ⟨h2, h3⟩ with h | h | h
            · exact .inl h
            · cases h; exact absurd rfl hpi
            · exact .inr h
      · rw [List.pairwise_append] at hs ⊢
        exact ⟨hs.1, (List.pairwise_cons.1 hs.2.1).2, fun x hx y hy => hs.2.2 x hx y (List.mem_cons_of_mem _ hy)⟩
      · have hps := (Array.getElem?_eq_some_iff.1 hop).1
        have hlt := (fast_spec hfast hop).1 e he hb
        rw [hset e.on false (by omega)]
        split
        · rfl
        · rw [hset p true hps] at hlp
          split at hlp
          · rename_i hpi
            subst hpi
            rw [ho] at hop
            cases hop
            exact hpred e he hb
          · exact hcl p o hop hlp e he hb
      · rcases hq with (hq | ⟨p, j, hp, hpl, hj, rfl⟩) | ⟨j, hj, rfl⟩
        · exact .inl hq
        · refine .inr ⟨p, j, hp, ?_, hj, rfl⟩
          rw [hset p true hp]
          split
          · rfl
          · exact hpl
        · refine .inr ⟨i, j, hil, ?_, hj, by rw [hc]⟩
          rw [hset i true hil, if_pos rfl]

theorem numbered_mem : ∀ {l : List Oper} {k p : Nat} {o : Oper}, (p, o) ∈ numbered k l ↔ k ≤ p ∧ l[p - k]? = some o
  | [], k, p, o => by simp [numbered]
  | x :: r, k, p, o => by
    unfold numbered
    rw [List.mem_cons, numbered_mem]
    constructor
    · rintro (h | ⟨h1, h2⟩)
      · cases h; simp
      · refine ⟨by omega, ?_⟩
        rw [show p - k = (p - (k + 1)) + 1 by omega]
        simpa using h2
    · rintro ⟨h1, h2⟩
      by_cases hp : p = k
      · subst hp
        simp at h2
        exact .inl (by rw [h2])
      · refine .inr ⟨by omega, ?_⟩
        rw [show p - k = (p - (k + 1)) + 1 by omega] at h2
        simpa using h2
theorem numbered_sorted : ∀ {l : List Oper} {k : Nat}, (numbered k l).Pairwise (fun x y => x.1 < y.1)
  | [], k => .nil
  | x :: r, k => by
    unfold numbered
    refine List.pairwise_cons.2 ⟨fun y hy => ?_, numbered_sorted⟩
    obtain ⟨p, o⟩ := y
    have := (numbered_mem.1 hy).1
    show k < p
    omega
theorem numbered_length : ∀ {l : List Oper} {k : Nat}, (numbered k l).length = l.length
  | [], k => rfl
  | x :: r, k => by unfold numbered; rw [List.length_cons, numbered_length, List.length_cons]

theorem drawQ_sound (hm : P.follows .mixedOrders = true) {id : Nat} {K : ASt → Prop} {Q : Exit → Act → World → Prop} (hR : RelE nt I (fun o => o < s.c) s E a w) (h : DrawQ P nt ops s K)
    (hn : ∀ s' E' a' w', K s' → s'.c = s.c → RelE nt I (fun o => o < s.c + 8 * ops.size) s' E' a' w' → Q .normal a' w') : (Code.region id ops true).wp P Q a w := by
  obtain ⟨hfast, pc, hnb, h⟩ := h
  have hrep : ∀ (p : Nat) (d : Bool), p < ops.size → (Array.replicate ops.size false).getD p d = false := fun p d hp => by
    simp [Array.getD_eq_getD_getElem?, hp]
  refine wp_region_any hm (any_sound hfast (c := s.c) hn ops.size (Array.replicate ops.size false) (numbered 0 ops.toList) [] s E a _ (by simp) (fun p o => ?_) numbered_sorted (by rw [numbered_length]; simp) (fun i o ho hl => ?_) rfl hnb h ((hR.drew { w with drawn := w.drawn + 1 } rfl rfl rfl rfl).mono (fun q hq => .inl hq)))
  · rw [numbered_mem]
    constructor
    · rintro ⟨_, h2⟩
      have h3 : ops[p]? = some o := by simpa using h2
      exact ⟨h3, hrep p true (Array.getElem?_eq_some_iff.1 h3).1⟩
    · rintro ⟨h2, _⟩
      exact ⟨Nat.zero_le _, by simpa using h2⟩
  · rw [hrep i true (Array.getElem?_eq_some_iff.1 ho).1] at hl
    cases hl
end
end Go.Proofs.YtnnmpdanfeejbaaGreat.Abs
