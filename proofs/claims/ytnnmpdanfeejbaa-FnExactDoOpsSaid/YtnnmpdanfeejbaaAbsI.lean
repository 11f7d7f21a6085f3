/- The abstract machine's operations hold of the model: literal rows, made rows, bytes of a string, least and greatest. -/
import Derived.Test.YtnnmpdanfeejbaaAbsH
import Derived.Great.BuildSlice
namespace Go.Proofs.Ytnnmpdanfeejbaa.Abs
open Go Go.RowKit
set_option linter.unusedVariables false
set_option linter.unusedSimpArgs false

section
variable {P : Program} {nt : Nat} {I : Ini} {U : Nat → Prop} {s : ASt} {E : Env} {a : Act} {w : World} {o : Oper} {id : Nat} {v : AV} {objs : List (Nat × Option Ob)} {H : Hp}

theorem run_buildSlice0 (w : World) (t e : Nat) (ie : TypeInfo) (hu : P.underlying t = some (.slice e)) (hie : P.info? e = some ie) :
    (Instr.buildSlice t 0 #[]).run P w = .ok (.slice (some ⟨w.heap.size, 0, none⟩) 0 0) (w.alloc (.cells #[] e)) := by
  have : ((Array.range 0).map fun _ => (default : Value)) = #[] := by apply Array.eq_empty_of_size_eq_zero; simp
  simp [Instr.buildSlice, run_underlying hu, sizeOf, typeInfo, hie, Instr.fill, newRow]
  rw [this]

theorem good_buildSlice (hR : RelE nt I U s E a w) (hid : ¬ U id) (hH : ∀ o ob, H o = some ob → s.H o = some ob) {t n : Nat} {ps : Array (Nat × Operand)} (ho : o.op = .buildSlice t n ps) {i : TI} (hi : tiOf P t = some i)
    {e esz eb : Nat} (hel : i.elem = some (e, esz, eb)) {z : TI} (hz : tiOf P e = some z) (he : evBuildSlice H id e esz z.zero n (ps.toList.map fun p => (p.1, getA nt s.t p.2)) = some (v, objs)) : Good P o a w E s.H U id v objs := by
  obtain ⟨hu, j, hj, rfl, rfl⟩ := elem_spec hi hel
  obtain ⟨info, d, g1, g2, -, -, -, -, g3, -⟩ := tiOf_spec hz
  rw [hj] at g1
  cases g1
  unfold evBuildSlice at he
  split at he
  · rename_i hc
    obtain ⟨hok, hzl, hz1, hpos, hsm⟩ := hc
    simp only [Option.bind_eq_some_iff] at he
    obtain ⟨flat, hf, ⟨es, ks⟩, hes, he⟩ := he
    simp only at he
    split at he
    · rename_i hd
      cases he
      cases hzz : j.zero with
      | none => rw [hzz] at g3; rw [g3] at hzl; simp at hzl; omega
      | some zv =>
        rw [hzz] at g3
        simp only at g3
        rw [g3] at hf hzl
        have hzs : zv.cells.size = j.size := by simpa using hzl
        have hok' : ∀ p ∈ ps.toList, okA H (getA nt s.t p.2) = true := fun p hp => List.all_eq_true.1 hok (p.1, getA nt s.t p.2) (List.mem_map.2 ⟨p, hp, rfl⟩)
        have hl' : (ps.toList.mapM fun p => ((fun i => some (i * j.size, j.size)) p.1).map fun f => (f.1, f.2, getA nt s.t p.2)) = some (ps.toList.map fun p => (p.1 * j.size, j.size, getA nt s.t p.2)) := by
          generalize ps.toList = q
          induction q with
          | nil => rfl
          | cons p r ih =>
            rw [List.mapM_cons, ih]
            rfl
        rw [List.map_map] at hf
        obtain ⟨arr, ha, hca⟩ := fill_ok hR hH (place := fun i => some (i * j.size, j.size)) hok' hl' hf (by have := cells_zeros w E s.H U zv.cells (by omega) n; exact this)
        obtain ⟨q1, q2, q3⟩ := evElems_spec hes
        have hd' := distinct_spec hd
        have hlen : flat.length = n * j.size := by
          have : ∀ {l : List (Nat × Nat × AV)} {cs cs' : List AV}, fillA cs l = some cs' → cs'.length = cs.length := by
            intro l
            induction l with
            | nil => intro cs cs' h; cases h; rfl
            | cons x r ih =>
              intro cs cs' h
              unfold fillA at h
              split at h
              · rename_i hx
                rw [ih h, splice_length (by omega)]
              · cases h
          rw [this hf]
          simp [hzs]
        have hrun : (execOp a.eval o).run P w = .ok (.value (.slice (some ⟨w.heap.size, 0, none⟩) n n)) (w.alloc (.cells arr e)) := by
          by_cases hn : n = 0
          · subst hn
            have harr : arr = #[] := Array.eq_empty_of_size_eq_zero (by rw [hca.1, hlen]; simp)
            subst harr
            have hps : ps = #[] := by
              cases hpl : ps.toList with
              | nil => exact Array.toList_eq_nil_iff.1 hpl
              | cons p r =>
                exfalso
                rw [hpl] at hf
                simp only [List.map_cons, List.replicate_zero, List.flatten_nil] at hf
                unfold fillA at hf
                split at hf
                · rename_i hx
                  simp at hx
                  omega
                · cases hf
            subst hps
            simp [execOp, ho, run_buildSlice0 (P := P) w t e j hu hj]
          · have hr := run_buildSlice (P := P) w t e n (ps.map fun p => (p.1, a.eval p.2)) arr j zv hu hj hzz (by omega) (by have := Nat.mul_pos (Nat.pos_of_ne_zero hn) hpos; omega) (by rw [Array.toList_map, ← hzs]; rw [← hzs] at ha; exact ha)
            simp [execOp, ho, hr]
        have hesz : ∀ e' ∈ es, e'.length = j.size := fun e' he' => by
          obtain ⟨k, hk⟩ := List.getElem?_of_mem he'
          have hkl := (List.getElem?_eq_some_iff.1 hk).1
          rw [q1, List.length_range] at hkl
          obtain ⟨ks', h1, _⟩ := q2 k k e' (by rw [List.getElem?_range hkl]) hk
          rw [(toCs_spec h1).1, List.length_take, List.length_drop, hlen]
          have : k * j.size + j.size ≤ n * j.size := by
            calc k * j.size + j.size = (k + 1) * j.size := by rw [Nat.add_mul]; omega
              _ ≤ n * j.size := Nat.mul_le_mul_right _ hkl
          omega
        have hks : ∀ m ∈ ks, ∃ ob, s.H m.1 = some ob := fun m hm => by
          obtain ⟨ty, sz, es', h⟩ := q3 m hm
          exact ⟨_, hH _ _ h⟩
        have hw := Evo.alloc w (.cells arr e)
        have k0 := keeps_new (x := some (.rw e j.size es)) (mv := ks) (cap := n) (g := mvl id ks) (id := id) hR hid hw (fun k p o h => mvl_nil h)
        refine good_newRow (es := es) (ks := ks) hR hid hw (heap_alloc_new w _) hrun (by rw [hca.1, hlen]) (by rw [q1]; simp) (Nat.le_refl _) (by
          have : n ≤ n * j.size := Nat.le_mul_of_pos_right _ hpos
          unfold maxLen
          omega) hesz hks (fun i' j' e' c y he' hc' hy => ?_)
        have hil := (List.getElem?_eq_some_iff.1 he').1
        rw [q1, List.length_range] at hil
        obtain ⟨ks', h1, h2⟩ := q2 i' i' e' (by rw [List.getElem?_range hil]) he'
        obtain ⟨r1, r2, r3⟩ := toCs_spec h1
        have hjl := (List.getElem?_eq_some_iff.1 hc').1
        rw [r1] at hjl
        have hx := List.getElem?_eq_getElem hjl
        obtain ⟨q, t1, t2⟩ := r2 j' _ c hx hc'
        have hfl := takeAt hx
        have hrd := hca.2.1 _ _ _ hfl hy
        refine toC_ok hR hH t1 hrd k0.t0 (fun k hk b p hb hp => ⟨hw.block b hb (fun h => h), ?_⟩)
        have hmem := h2 _ (t2 k hk)
        rw [Nat.zero_add] at hmem
        have : (E.fresh w id n (mvl id ks)).loc b = (E.loc b).map (mvl id ks) := if_neg (by omega)
        rw [this, hp, Option.map_some, mvl_in hd'.1 hmem]
        simp
    · cases he
  · cases he

theorem good_makeSlice (hR : RelE nt I U s E a w) (hid : ¬ U id) {t : Nat} {x y : Operand} (ho : o.op = .makeSlice t x y) {i : TI} (hi : tiOf P t = some i)
    {e esz eb : Nat} (hel : i.elem = some (e, esz, eb)) {z : TI} (hz : tiOf P e = some z) {n : Int} (hx : getA nt s.t x = .c (.v (.int .i64 n))) (hy : getA nt s.t y = .c (.v (.int .i64 n)))
    (h0 : 0 ≤ n) (hb : n * eb ≤ 140737488355328) (hm : n ≤ 140737488355328) (hpos : 0 < esz) (hzl : z.zero.length = esz) (hz1 : z.zero.all (·.oneCell') = true) : Good P o a w E s.H U id (.sl id n.toNat) [(id, some (.rw e esz (List.replicate n.toNat (z.zero.map zeroC))))] := by
  have ex := hR.eval hx
  have ey := hR.eval hy
  obtain ⟨hu, j, hj, rfl, rfl⟩ := elem_spec hi hel
  obtain ⟨info, d, g1, g2, -, -, -, -, g3, -⟩ := tiOf_spec hz
  rw [hj] at g1
  cases g1
  cases hzz : j.zero with
  | none => rw [hzz] at g3; rw [g3] at hzl; simp at hzl; omega
  | some zv =>
    rw [hzz] at g3
    simp only at g3
    rw [g3] at hzl
    have hzs : zv.cells.size = j.size := by simpa using hzl
    have hr := run_make (P := P) w t e j zv hu hj hzz .i64 .i64 n n h0 (Int.le_refl _) (by rw [Int.mul_comm]; omega) (by omega)
    have hw := Evo.alloc w (.cells (madeCells zv.cells (n.toNat * j.size)) e)
    refine good_newRow (ks := []) (cap := n.toNat) hR hid hw (heap_alloc_new w _) (by simp [execOp, ho, ex, ey, hr]) (by rw [size_madeCells]) (by simp) (Nat.le_refl _) (by unfold maxLen; omega) (fun e' he' => ?_) (fun m hm => by simp at hm) (fun i' j' e' c y he' hc' hy => ?_)
    · rw [List.mem_replicate] at he'
      rw [he'.2, g3]
      simpa using hzs
    · have hil := (List.getElem?_eq_some_iff.1 he').1
      rw [List.length_replicate] at hil
      rw [List.getElem?_replicate, if_pos hil] at he'
      cases he'
      have hjl := (List.getElem?_eq_some_iff.1 hc').1
      rw [List.length_map, g3, Array.length_toList, hzs] at hjl
      rw [List.getElem?_map, Option.map_eq_some_iff] at hc'
      obtain ⟨z', hz', rfl⟩ := hc'
      have hlt : i' * j.size + j' < n.toNat * j.size := by
        calc i' * j.size + j' < i' * j.size + j.size := by omega
          _ = (i' + 1) * j.size := by rw [Nat.add_mul]; omega
          _ ≤ n.toNat * j.size := Nat.mul_le_mul_right _ (by omega)
      have : y = z' := by
        simp only [madeCells, Array.getElem?_map, Array.getElem?_range, hlt, if_true, Option.map_some, Option.some.injEq] at hy
        have hmod : (i' * j.size + j') % zv.cells.size = j' := by
          rw [hzs, Nat.add_comm, Nat.add_mul_mod_self_right, Nat.mod_eq_of_lt hjl]
        rw [← hy, hmod, getElem!_pos zv.cells j' (by omega)]
        rw [g3, Array.getElem?_toList, Array.getElem?_eq_getElem (by omega)] at hz'
        exact Option.some.inj hz'
      subst this
      exact zeroC_ok _ _ _ _ (List.all_eq_true.1 hz1 _ (List.mem_of_getElem? hz'))

theorem good_convBytes (hR : RelE nt I U s E a w) {t d : Nat} {x : Operand} (ho : o.op = .convert t d x) {i j : TI} (hi : tiOf P t = some i) (hj : tiOf P d = some j) (hs : i.isStr = true) (hb : j.isBytes = true)
    {b : ByteArray} (hx : getA nt s.t x = .c (.v (.string b))) (hl : b.size ≤ 9223372036854775807) : Good P o a w E s.H U id (.c (.row false (b.data.toList.map fun u => [.v (.int .u8 u.toNat)]))) [] := by
  have ex := hR.eval hx
  obtain ⟨e, he1, he2⟩ := bytes_desc hj hb
  have hr := Lib.run_convert_string_bytes (P := P) w t d e b (str_desc hi hs) he1 he2
  have hold : ∀ k, k < w.heap.size → (Lib.bytesWorld w e b).heap[k]? = w.heap[k]? := fun k hk => Lib.bytesWorld_at_old w e b k hk
  have hev : Evo (fun _ => False) w (Lib.bytesWorld w e b) := ⟨rfl, rfl, rfl, by rw [Lib.bytesWorld_size]; omega, fun k hk _ => hold k hk⟩
  have hlen : (b.data.toList.map fun u => [CV.v (.int .u8 u.toNat)]).length = b.size := by simp
  refine ⟨.slice (some ⟨w.heap.size, 0, none⟩) b.size (grownCap w b.size 0 e), Lib.bytesWorld w e b, E, .inl (by simp [execOp, ho, ex, hr]), ?_⟩
  refine ⟨⟨rfl, rfl, rfl, hev.size, fun k hk _ => hold k hk⟩, fun _ _ h => h, fun k hk h => ⟨hold k hk, h⟩, fun _ _ => ⟨rfl, fun k q hk h => ⟨hold k hk, h⟩⟩, fun _ hx => by simp at hx, fun _ hx => by simp at hx,
    fun k ℓ h => ⟨Nat.lt_of_lt_of_le (hR.locLt k ℓ h) hev.size, .inr (by simp [h])⟩, .c _ _ ?_, .c _⟩
  have hnew := Lib.bytesWorld_at_new w e b
  have key := RdR.row (w := Lib.bytesWorld w e b) (T := E.T0) false w.heap.size 0 1 (grownCap w b.size 0 e) (b.data.toList.map fun u => [CV.v (.int .u8 u.toNat)]) (Lib.bytesCells w e b) e _ (fun i _ => .int .u8 (b.data.toList.getD i 0).toNat)
    (by
      change E.loc w.heap.size = none
      cases hh : E.loc w.heap.size with
      | none => rfl
      | some ℓ => have := hR.locLt _ ℓ hh; omega) hnew (fun e' he' => by rw [List.mem_map] at he'; obtain ⟨u, _, rfl⟩ := he'; rfl) (by rw [hlen]; unfold maxLen; omega) (by rw [hlen]; exact grownCap_ge w b.size 0 e)
    (fun i j hi hj => by
      rw [hlen] at hi
      have h1 := Lib.bytesWorld_cell w e b i hi
      rw [cell_at hnew] at h1
      have : j = 0 := by omega
      subst this
      simpa using h1)
    (fun i j e' c he' hc => by
      rw [List.getElem?_map, Option.map_eq_some_iff] at he'
      obtain ⟨u, hu, rfl⟩ := he'
      cases j with
      | zero =>
        cases hc
        have : b.data.toList.getD i 0 = u := by rw [List.getD_eq_getElem?_getD, hu]; rfl
        simp only [this]
        exact .v _ rfl
      | succ j => simp at hc)
  rwa [hlen] at key

theorem good_min (hR : RelE nt I U s E a w) {x y : Operand} {c : Call} (ho : o.op = .call c) (hc : c.callee = .builtin .min) (ha : c.args.toList = [x, y]) {p q : Int} (hx : getA nt s.t x = .c (.v (.int .i64 p))) (hy : getA nt s.t y = .c (.v (.int .i64 q))) :
    Good P o a w E s.H U id (.c (.v (.int .i64 (if q < p then q else p)))) [] := by
  have ex := hR.eval hx
  have ey := hR.eval hy
  have ha' : c.args = #[x, y] := by rw [← ha]
  refine Good.plain hR (u := .int .i64 (if q < p then q else p)) ?_ rfl rfl
  simp [execOp, ho, resolve, hc, invoke, builtin, ha', ex, ey, Builtin.min_, Builtin.min2]
theorem good_max (hR : RelE nt I U s E a w) {x y : Operand} {c : Call} (ho : o.op = .call c) (hc : c.callee = .builtin .max) (ha : c.args.toList = [x, y]) {p q : Int} (hx : getA nt s.t x = .c (.v (.int .i64 p))) (hy : getA nt s.t y = .c (.v (.int .i64 q))) :
    Good P o a w E s.H U id (.c (.v (.int .i64 (if q > p then q else p)))) [] := by
  have ex := hR.eval hx
  have ey := hR.eval hy
  have ha' : c.args = #[x, y] := by rw [← ha]
  refine Good.plain hR (u := .int .i64 (if q > p then q else p)) ?_ rfl rfl
  simp [execOp, ho, resolve, hc, invoke, builtin, ha', ex, ey, Builtin.max_, Builtin.max2]
end

end Go.Proofs.Ytnnmpdanfeejbaa.Abs
