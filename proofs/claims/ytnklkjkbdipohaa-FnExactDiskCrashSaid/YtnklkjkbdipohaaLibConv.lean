/- '[]byte(s)', as a walk meets it: a row that is read. -/
import Derived.Test.YtnklkjkbdipohaaLibMax
import Derived.Lib.ConvBytes
namespace Go.Proofs.Ytnklkjkbdipohaa.Ord
open Go Go.RowKit Go.Proofs.YtnklkjkbdipohaaW.PrintWords Go.Proofs.YtnklkjkbdipohaaW.PrintLast Go.Proofs.YtnklkjkbdipohaaW.PrintMore
theorem conv_below (W : World) (e : TypeId) (y : ByteArray) : Below W.heap.size W (Lib.bytesWorld W e y) where
  os := rfl
  tape := rfl
  output := rfl
  size := by rw [Lib.bytesWorld_size]; omega
  block := fun k hk => Lib.bytesWorld_at_old W e y k hk
theorem conv_C (W : World) (e : TypeId) (y : ByteArray) (hl : y.size ≤ 9223372036854775807) : (Kd.int .u8).C (Lib.bytesWorld W e y) (some ⟨W.heap.size, 0, none⟩) (bytesOf y).length (bytesOf y) := by
  refine Kd.C_of_reads (d := 0) (h1 := fun _ => rfl) ⟨rfl, by rw [bytesOf_length]; exact hl, fun _ => ⟨_, rfl, fun j hj => ?_⟩⟩
  rw [bytesOf_length] at hj
  have h := Lib.bytesWorld_cell W e y j hj
  have hj2 : j < y.data.toList.length := by rw [Array.length_toList]; exact hj
  have e1 : (bytesOf y).getD j 0 = ((y.data.toList.getD j 0).toNat : Int) := by
    unfold bytesOf
    rw [List.getD_eq_getElem?_getD, List.getElem?_map, List.getElem?_eq_getElem hj2, List.getD_eq_getElem?_getD, List.getElem?_eq_getElem hj2]
    rfl
  have e2 : (⟨W.heap.size, 0, none⟩ : Addr).add j = ⟨W.heap.size, j, none⟩ := by unfold Addr.add; split <;> simp_all
  rw [e1, e2]
  exact h
theorem conv_str {P : Program} {Q : Exit → Act → World → Prop} {ops : Array Oper} {rest : List Oper} {o : Oper} {a : Act} {W : World} (hgd : o.guard = none) {N : Tmp} (_hd : o.dst = some N) (s : Operand) (t u e : TypeId) (ho : o.op = .convert t u s) (ht : P.underlying t = some .string) (hu : P.underlying u = some (.slice e)) (he : P.underlying e = some (.int .u8))
    (y : ByteArray) (hs : a.eval s = .string y) (hl : y.size ≤ 9223372036854775807)
    (h : ∀ (A : Option Addr) (c : Nat) (w1 : World), (Kd.int .u8).C w1 A (bytesOf y).length (bytesOf y) → (bytesOf y).length ≤ c → Below W.heap.size W w1 → wpList P ops Q rest (a.put o.dst (.slice A (bytesOf y).length c)) w1) : wpList P ops Q (o :: rest) a W := by
  have hr := Lib.run_convert_string_bytes (P := P) W t u e y ht hu he
  have hn : (bytesOf y).length = y.size := bytesOf_length y
  refine Kd.event_run hgd (w1 := Lib.bytesWorld W e y) (v := .slice (some ⟨W.heap.size, 0, none⟩) (bytesOf y).length (grownCap W y.size 0 e)) ?_ (h _ _ _ (conv_C W e y hl) ?_ (conv_below W e y))
  · simp [execOp, ho, hs, hr, hn]
  · rw [hn]; exact grownCap_ge W y.size 0 e
end Go.Proofs.Ytnklkjkbdipohaa.Ord
