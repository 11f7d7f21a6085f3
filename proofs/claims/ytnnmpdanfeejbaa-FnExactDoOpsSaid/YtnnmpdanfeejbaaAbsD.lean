/- The abstract machine's operations hold of the model: those that write nothing. -/
import Derived.Test.YtnnmpdanfeejbaaAbsC
import Derived.Laws.Entries
import Derived.Laws.Cells
import Derived.Laws.Rows
import Derived.Laws.Small
import Derived.Laws.StructEq
import Derived.ChangeKeysEq
namespace Go.Proofs.Ytnnmpdanfeejbaa.Abs
open Go Go.RowKit
set_option linter.unusedVariables false
set_option linter.unusedSimpArgs false

theorem tiOf_spec {P : Program} {t : Nat} {i : TI} (h : tiOf P t = some i) : ∃ info d, P.info? t = some info ∧ P.underlying t = some d ∧ i.size = info.size ∧
    i.agg = (match d with | .struct _ | .array _ _ => true | _ => false) ∧ i.fields = (match d with | .struct fs => fs.toList.map fun f => (f.offset, sizeP P f.type) | _ => []) ∧
    i.elem = (match d with | .slice e => (match P.info? e with | some j => some (e, j.size, j.bytes) | none => none) | _ => none) ∧
    i.zero = (match info.zero with | some z => z.cells.toList | none => []) ∧ i.prim = (match d with | .int k => some k | _ => none) ∧
    i.isStr = (match d with | .string => true | _ => false) ∧ i.isPtr = (match d with | .pointer _ => true | _ => false) ∧ i.isBool = (match d with | .bool => true | _ => false) ∧ i.isBytes = (match d with | .slice e => (match P.underlying e with | some (.int .u8) => true | _ => false) | _ => false) := by
  unfold tiOf at h
  split at h
  · rename_i info d h1 h2
    cases h
    exact ⟨info, d, h1, h2, rfl, rfl, rfl, rfl, rfl, rfl, rfl, rfl, rfl, rfl⟩
  · cases h

/-- What is to be shown of an operation. -/
def Good (P : Program) (o : Oper) (a : Act) (w : World) (E : Env) (H : Hp) (U : Nat → Prop) (id : Nat) (v : AV) (objs : List (Nat × Option Ob)) : Prop :=
  ∃ u w' E', ((execOp a.eval o).run P w = .ok (.value u) w' ∨ ((execOp a.eval o).run P w = .ok .skip w' ∧ u = undef)) ∧ Fx w E H U id v objs u w' E'

section
variable {P : Program} {nt : Nat} {I : Ini} {U : Nat → Prop} {s : ASt} {E : Env} {a : Act} {w : World} {o : Oper} {id : Nat} {v : AV} {objs : List (Nat × Option Ob)} {H : Hp}

theorem Good.pure (hR : RelE nt I U s E a w) {u : Value} (hr : (execOp a.eval o).run P w = .ok (.value u) w) (h : RdV w E s.H v u) (hm : Mn U v) (he : objs = []) : Good P o a w E s.H U id v objs := by
  subst he
  exact ⟨u, w, E, .inl hr, Fx.same hR.locLt h hm⟩
/-- A plain value. -/
theorem Good.plain (hR : RelE nt I U s E a w) {u : Value} (hr : (execOp a.eval o).run P w = .ok (.value u) w) (hv : v = .c (.v u)) (he : objs = []) (h1 : u.oneCell' = true := by rfl) : Good P o a w E s.H U id v objs := by
  subst hv
  exact Good.pure hR hr (.c _ _ (.v _ h1)) (.c _) he

theorem good_move (hR : RelE nt I U s E a w) {x : Operand} (ho : o.op = .move x ∨ o.op = .assign x) : Good P o a w E s.H U id (getA nt s.t x) [] := by
  refine Good.pure hR (u := a.eval x) ?_ (hR.get x) (hR.mnGet x) rfl
  rcases ho with ho | ho <;> simp [execOp, ho]

theorem good_pick (hR : RelE nt I U s E a w) {c x y : Operand} (ho : o.op = .pick c x y) {t : Bool} (hc : getA nt s.t c = .c (.v (.bool t))) :
    Good P o a w E s.H U id (if t then getA nt s.t x else getA nt s.t y) [] := by
  have e := hR.eval hc
  refine Good.pure hR (u := if t then a.eval x else a.eval y) ?_ ?_ ?_ rfl
  · simp [execOp, ho, e, asBool]
  · split
    · exact hR.get x
    · exact hR.get y
  · split
    · exact hR.mnGet x
    · exact hR.mnGet y

theorem good_extract (hR : RelE nt I U s E a w) {x : Operand} {k : Nat} (ho : o.op = .extract x k) {vs : List AV} (hx : getA nt s.t x = .tu vs) (hv : vs[k]? = some v) :
    Good P o a w E s.H U id v [] := by
  have h := hR.get x
  have hm := hR.mnGet x
  rw [hx] at h hm
  generalize hu : a.eval x = u at h
  cases h with
  | tu _ us hs hi =>
    have hk : k < us.size := by rw [hs]; exact (List.getElem?_eq_some_iff.1 hv).1
    have hk' : us[k]? = some us[k] := Array.getElem?_eq_getElem hk
    refine Good.pure hR (u := us[k]) ?_ (hi k v _ hv hk') ?_ rfl
    · simp [execOp, ho, hu, Instr.extract, hk']
    · cases hm with
      | tu _ hm => exact hm v (List.mem_of_getElem? hv)

theorem unV_one {op : UnOp} {b r : Value} (hr : unV op b = some r) : r.oneCell' = true := by
  unfold unV at hr
  split at hr
  · split at hr <;> cases hr; rfl
  · split at hr <;> cases hr; rfl
  · cases hr

theorem good_unOp (hR : RelE nt I U s E a w) {op : UnOp} {t : Nat} {x : Operand} (ho : o.op = .unOp op t x) {b r : Value} (hx : getA nt s.t x = .c (.v b)) (hr : unV op b = some r) :
    Good P o a w E s.H U id (.c (.v r)) [] := by
  have e := hR.eval hx
  refine Good.plain hR (u := r) ?_ rfl rfl (unV_one hr)
  unfold unV at hr
  split at hr
  · split at hr
    · cases hr; simp [execOp, ho, e, Op.unary]
    · cases hr
  · split at hr
    · cases hr; simp [execOp, ho, e, Op.unary, Op.intArith]
    · cases hr
  · cases hr

theorem pureV_run {x : Sem Value} {r : Value} (h : pureV x = some r) (P : Program) (w : World) : x.run P w = .ok r w := by
  unfold pureV at h
  split at h
  · cases h; rfl
  · cases h

theorem run_binI {op : BinOp} {k : IntKind} {p q : Int} {r : Value} (h : binI op k p q = some r) (t : Nat) (P : Program) (w : World) : (binOp op t (.int k p) (.int k q)).run P w = .ok r w := by
  unfold binI at h
  split at h <;> first
    | (cases h; simp [binOp, Op.intArith, Op.intCmp]; done)
    | (split at h
       · rename_i hq; cases h; simp [binOp, Op.intDiv, hq]
       · cases h)
    | (have := pureV_run h P w; simp only [binOp, ne_eq, not_true_eq_false, if_false]; exact this)
    | cases h
theorem run_binS {op : BinOp} {p q : ByteArray} {r : Value} (h : binS op p q = some r) (t : Nat) (P : Program) (w : World) : (binOp op t (.string p) (.string q)).run P w = .ok r w := by
  unfold binS at h
  split at h <;> first
    | (cases h; simp [binOp, Op.stringOp]; done)
    | (split at h
       · rename_i hq
         cases h
         have : ¬ ((p.size + q.size : Nat) : Int) > IntKind.i64.max := by
           have : IntKind.i64.max = 9223372036854775807 := rfl
           omega
         simp only [binOp, Op.stringOp, if_neg this, Sem.run_pure]
       · cases h)
    | cases h
theorem run_binV {op : BinOp} {p q r : Value} (h : binV op p q = some r) (t : Nat) (P : Program) (w : World) : (binOp op t p q).run P w = .ok r w := by
  unfold binV at h
  split at h
  · split at h
    · exact pureV_run h P w
    · exact pureV_run h P w
    · split at h
      · rename_i hk
        subst hk
        exact run_binI h t P w
      · cases h
  · exact run_binS h t P w
  · cases h
theorem run_eqGuard {op : BinOp} {t : Nat} {x y : Operand} {p q : Value} (hp : ∀ cs, p ≠ .agg cs) (hn : p ≠ .nilIface) (P : Program) (w : World) : (eqGuard op t x y p q).run P w = .ok () w := by
  have h : ∀ z : Sem Unit, (match p, q with | .nilIface, .nilIface => z | .agg _, .agg _ => z | _, _ => Pure.pure ()) = Pure.pure () := by
    intro z
    split
    · exact absurd rfl hn
    · exact absurd rfl (hp _)
    · rfl
  unfold eqGuard
  cases hb : (!(op matches .eql | .neq)) with
  | true => rfl
  | false =>
    simp only [Bool.false_eq_true, if_false, pure_bind]
    split
    · exact absurd rfl hn
    · exact absurd rfl (hp _)
    · rfl
theorem run_eqPIn {d t e : Nat} {p q : Option Addr} (h : P.underlying t = some (.pointer e)) (hn : p = none ∨ q = none) : (Op.equalIn (d + 1) t (.pointer p) (.pointer q)).run P w = .ok (p.isNone && q.isNone) w := by
  cases p with
  | none => simp [Op.equalIn, run_underlying h]
  | some p =>
    have : q = none := hn.resolve_left (by simp)
    subst this
    simp [Op.equalIn, run_underlying h]
theorem run_eqP {t e : Nat} {p q : Option Addr} (h : P.underlying t = some (.pointer e)) (hn : p = none ∨ q = none) : (Op.equal t (.pointer p) (.pointer q)).run P w = .ok (p.isNone && q.isNone) w := by
  refine run_eqPIn (d := 9999) h hn

theorem binV_one {op : BinOp} {p q r : Value} (hr : binV op p q = some r) : r.oneCell' = true := by
  unfold binV at hr
  split at hr
  · split at hr
    · unfold Op.shift at hr; split at hr
      · exact absurd hr (by intro h; cases h)
      · simp only [pureV] at hr; cases hr; rfl
    · unfold Op.shift at hr; split at hr
      · exact absurd hr (by intro h; cases h)
      · simp only [pureV] at hr; cases hr; rfl
    · split at hr
      · unfold binI at hr
        split at hr <;> first | (cases hr; rfl) | (split at hr <;> cases hr; rfl) | cases hr
      · cases hr
  · unfold binS at hr
    split at hr <;> first | (cases hr; rfl) | (split at hr <;> cases hr; rfl) | cases hr
  · cases hr
theorem good_binV (hR : RelE nt I U s E a w) {op : BinOp} {t t' : Nat} {x y : Operand} (ho : o.op = .binOp op t x y t') {p q r : Value} (hx : getA nt s.t x = .c (.v p)) (hy : getA nt s.t y = .c (.v q))
    (hr : binV op p q = some r) : Good P o a w E s.H U id (.c (.v r)) [] := by
  have ex := hR.eval hx
  have ey := hR.eval hy
  refine Good.plain hR (u := r) ?_ rfl rfl (binV_one hr)
  have hg : (eqGuard op t x y p q).run P w = .ok () w := run_eqGuard (by rintro cs rfl; simp [binV] at hr) (by rintro rfl; simp [binV] at hr) P w
  simp [execOp, ho, ex, ey, hg, run_binV hr t P w]

theorem good_boolEq (hR : RelE nt I U s E a w) {op : BinOp} {t t' : Nat} {x y : Operand} (ho : o.op = .binOp op t x y t') {p q r : Bool} (hx : getA nt s.t x = .c (.v (.bool p))) (hy : getA nt s.t y = .c (.v (.bool q)))
    {i : TI} (hi : tiOf P t = some i) (hb : i.isBool = true) (hr : (op = .eql ∧ r = (p == q)) ∨ (op = .neq ∧ r = !(p == q))) : Good P o a w E s.H U id (.c (.v (.bool r))) [] := by
  have ex := hR.eval hx
  have ey := hR.eval hy
  obtain ⟨info, d, h1, h2, -, -, -, -, -, -, -, -, h3, -⟩ := tiOf_spec hi
  have hd : d = .bool := by rw [h3] at hb; cases d <;> simp_all
  subst hd
  have hg : (eqGuard op t x y (.bool p) (.bool q)).run P w = .ok () w := run_eqGuard (by rintro cs h; cases h) (by intro h; cases h) P w
  refine Good.plain hR (u := .bool r) ?_ rfl rfl
  rcases hr with ⟨rfl, rfl⟩ | ⟨rfl, rfl⟩ <;> simp [execOp, ho, ex, ey, hg, binOp, run_equal_bool w t p q h2]

theorem nilA_spec {x : AV} {b : Bool} {u : Value} (hn : nilA s.H x = some b) (h : RdV w E s.H x u) : if b then u = .pointer none else ∃ ad, u = .pointer (some ad) := by
  unfold nilA at hn
  split at hn
  · cases hn; cases h with | c _ _ h => cases h; rfl
  · cases hn; cases h with | c _ _ h => cases h; exact ⟨_, rfl⟩
  · cases hn; cases h with | bw _ _ h => cases h; exact ⟨_, rfl⟩
  · split at hn
    · rename_i o i j hs
      cases hn
      cases h with
      | ptX _ _ _ _ h => simp [h] at hs
      | pt => exact ⟨_, rfl⟩
    · cases hn
  · cases hn

theorem good_nilEq (hR : RelE nt I U s E a w) {op : BinOp} {t t' : Nat} {x y : Operand} (ho : o.op = .binOp op t x y t') {p q r : Bool} (hx : nilA s.H (getA nt s.t x) = some p) (hy : nilA s.H (getA nt s.t y) = some q)
    (hpq : p = true ∨ q = true) {i : TI} (hi : tiOf P t = some i) (hb : i.isPtr = true) (hr : (op = .eql ∧ r = (p && q)) ∨ (op = .neq ∧ r = !(p && q))) : Good P o a w E s.H U id (.c (.v (.bool r))) [] := by
  have ex := nilA_spec hx (hR.get x)
  have ey := nilA_spec hy (hR.get y)
  obtain ⟨info, d, h1, h2, -, -, -, -, -, -, -, h3, -, -⟩ := tiOf_spec hi
  obtain ⟨e, hd⟩ : ∃ e, d = .pointer e := by rw [h3] at hb; cases d <;> simp_all
  subst hd
  refine Good.plain hR (u := .bool r) ?_ rfl rfl
  cases p <;> cases q <;> simp at hpq ex ey
  · obtain ⟨ad, ex⟩ := ex
    have hg : (eqGuard op t x y (.pointer (some ad)) (.pointer none)).run P w = .ok () w := run_eqGuard (by rintro cs h; cases h) (by intro h; cases h) P w
    rcases hr with ⟨rfl, rfl⟩ | ⟨rfl, rfl⟩ <;> simp [execOp, ho, ex, ey, hg, binOp, run_eqP (w := w) h2]
  · obtain ⟨ad, ey⟩ := ey
    have hg : (eqGuard op t x y (.pointer none) (.pointer (some ad))).run P w = .ok () w := run_eqGuard (by rintro cs h; cases h) (by intro h; cases h) P w
    rcases hr with ⟨rfl, rfl⟩ | ⟨rfl, rfl⟩ <;> simp [execOp, ho, ex, ey, hg, binOp, run_eqP (w := w) h2]
  · have hg : (eqGuard op t x y (.pointer none) (.pointer none)).run P w = .ok () w := run_eqGuard (by rintro cs h; cases h) (by intro h; cases h) P w
    rcases hr with ⟨rfl, rfl⟩ | ⟨rfl, rfl⟩ <;> simp [execOp, ho, ex, ey, hg, binOp, run_eqP (w := w) h2]

theorem good_nilCheck (hR : RelE nt I U s E a w) {x : Operand} (ho : o.op = .nilCheck x) (hx : nilA s.H (getA nt s.t x) = some false) : Good P o a w E s.H U id (getA nt s.t x) [] := by
  have ex := nilA_spec hx (hR.get x)
  simp at ex
  obtain ⟨ad, ex⟩ := ex
  have := hR.get x
  refine Good.pure hR (u := a.eval x) ?_ (hR.get x) (hR.mnGet x) rfl
  simp [execOp, ho, ex]

theorem evLen_spec {x : AV} {n : Int} {u : Value} (hn : evLen s.H x = some n) (h : RdV w E s.H x u) : (∃ b, u = .string b ∧ n = b.size) ∨ (∃ ad m c, u = .slice ad m c ∧ n = m) := by
  unfold evLen at hn
  split at hn
  · cases hn; cases h with | c _ _ h => cases h; exact .inl ⟨_, rfl, rfl⟩
  · cases hn; cases h with | c _ _ h => cases h <;> exact .inr ⟨_, _, _, rfl, rfl⟩
  · cases hn; cases h with | bw _ _ h => cases h <;> exact .inr ⟨_, _, _, rfl, rfl⟩
  · cases hn; cases h; exact .inr ⟨_, _, _, rfl, rfl⟩
  · split at hn
    · rename_i o n hs
      cases hn
      cases h with
      | slX _ _ _ h => simp [h] at hs
      | sl => exact .inr ⟨_, _, _, rfl, rfl⟩
      | slN => exact .inr ⟨_, _, _, rfl, rfl⟩
    · cases hn
  · cases hn

theorem good_len (hR : RelE nt I U s E a w) {x : Operand} {c : Call} (ho : o.op = .call c) (hc : c.callee = .builtin .len) (ha : c.args.toList = [x]) {t : Nat} (ht : c.argTypes.toList = [t]) {i : TI} (hi : tiOf P t = some i)
    (hk : i.isStr = true ∨ i.elem.isSome = true) {n : Int} (hn : evLen s.H (getA nt s.t x) = some n) (hs : i.isStr = isStrA (getA nt s.t x)) :
    Good P o a w E s.H U id (.c (.v (.int .i64 n))) [] := by
  have ex := evLen_spec hn (hR.get x)
  obtain ⟨info, d, h1, h2, -, -, -, h4, -, -, h3, -, -, -⟩ := tiOf_spec hi
  have ha' : c.args = #[x] := by rw [← ha]
  have ht' : c.argTypes = #[t] := by rw [← ht]
  refine Good.plain hR (u := .int .i64 n) ?_ rfl rfl
  have hstr' : isStrA (getA nt s.t x) = true ↔ ∃ b, a.eval x = .string b := by
    have h := hR.get x
    constructor
    · intro hq
      unfold isStrA at hq
      split at hq
      · rename_i b hb
        exact ⟨b, hR.eval hb⟩
      · cases hq
    · rintro ⟨b, hb⟩
      rw [hb] at h
      unfold evLen at hn
      unfold isStrA
      split
      · rfl
      · rename_i hno
        exfalso
        split at hn
        · exact hno _ (by assumption)
        · rename_i hx; rw [hx] at h; cases h with | c _ _ h => cases h
        · rename_i hx; rw [hx] at h; cases h with | bw _ _ h => cases h
        · rename_i hx; rw [hx] at h; cases h
        · rename_i q m hx
          rw [hx] at h
          split at hn
          · rename_i hq; cases h with | slX _ _ _ h => simp [h] at hq
          · cases hn
        · cases hn
  rcases ex with ⟨b, hb, rfl⟩ | ⟨ad, m, cc, hb, rfl⟩
  · have hstr : i.isStr = true := hs.trans (hstr'.2 ⟨b, hb⟩)
    have hd : d = .string := by rw [h3] at hstr; cases d <;> simp_all
    subst hd
    simp [execOp, ho, resolve, hc, invoke, builtin, ha', ht', hb, Builtin.len_, run_underlying h2, goInt]
  · have hstr : i.isStr = false := by
      cases hh : i.isStr with
      | false => rfl
      | true => obtain ⟨b, hb'⟩ := hstr'.1 (hs.symm.trans hh); rw [hb] at hb'; cases hb'
    obtain ⟨e, hd⟩ : ∃ e, d = .slice e := by
      rw [hstr] at hk
      rw [h4] at hk
      cases d <;> simp_all
    subst hd
    simp [execOp, ho, resolve, hc, invoke, builtin, ha', ht', hb, Builtin.len_, run_underlying h2, goInt]
end

end Go.Proofs.Ytnnmpdanfeejbaa.Abs
