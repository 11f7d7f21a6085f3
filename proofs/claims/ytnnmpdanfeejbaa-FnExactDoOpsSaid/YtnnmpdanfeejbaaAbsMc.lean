/- The abstract machine's operations hold of the model: copy; structs compared. -/
import Derived.Test.YtnnmpdanfeejbaaAbsL
namespace Go.Proofs.Ytnnmpdanfeejbaa.Abs
open Go Go.RowKit
set_option linter.unusedVariables false
set_option linter.unusedSimpArgs false
section
variable {P : Program} {nt : Nat} {I : Ini} {U : Nat → Prop} {s : ASt} {E : Env} {a : Act} {w : World} {o : Oper} {id : Nat} {v : AV} {objs : List (Nat × Option Ob)} {H : Hp}
theorem getD_some {arr : Array Value} {k : Nat} (h : k < arr.size) : arr[k]? = some (arr.getD k undef) := by
  rw [Array.getElem?_eq_getElem h]
  simp [Array.getD, h]
/-- An object is told again as it is. -/
theorem Fx.touch (hR : RelE nt I U s E a w) {q : Nat} {ob : Ob} (hq : s.H q = some ob) {u : Value} (h : RdV w E s.H v u) (hm : Mn U v) : Fx w E s.H U id v [(q, some ob)] u w E := by
  have e : updL s.H [(q, some ob)] = s.H := by
    funext k
    show upd s.H q (some ob) k = s.H k
    by_cases hk : k = q
    · subst hk; rw [upd_same, hq]
    · rw [upd_ne _ _ hk]
  refine ⟨Evo.refl _ _, fun b _ h => h, fun b _ h => ⟨rfl, h⟩, fun k _ => ⟨rfl, fun b p _ h => ⟨rfl, h⟩⟩, fun x hx => ?_, fun x hx ob' hob => ?_, fun b ℓ hb => ⟨hR.locLt b ℓ hb, .inr (by rw [hb]; simp)⟩, by rw [e]; exact h, hm.mono fun _ h => .inl h⟩
  · simp at hx; subst hx
    exact .inr ⟨ob, hq, .inr ⟨ob, by rw [e]; exact hq, Ob.like.refl ob, rfl⟩⟩
  · simp at hx; subst hx
    rw [e, hq] at hob
    cases hob
    rw [e]
    exact ⟨hR.live q _ hq, (hR.mnH q _ hq).2.mono fun _ h => .inl h⟩
theorem good_copy (hR : RelE nt I U s E a w) (hH : ∀ o ob, H o = some ob → s.H o = some ob) {x y : Operand} {c : Call} (ho : o.op = .call c) (hc : c.callee = .builtin .copy) (ha : c.args.toList = [x, y]) {t u : Nat} (ht : c.argTypes.toList = [t, u])
    {i : TI} (hi : tiOf P t = some i) {e esz eb : Nat} (hel : i.elem = some (e, esz, eb)) (he : evCopy H esz (getA nt s.t x) (getA nt s.t y) = some (v, objs)) : Good P o a w E s.H U id v objs := by
  obtain ⟨hu, ie, hie, rfl, rfl⟩ := elem_spec hi hel
  have ha' : c.args = #[x, y] := by rw [← ha]
  have ht' : c.argTypes = #[t, u] := by rw [← ht]
  have hrun : ∀ {ux r w'}, a.eval x = ux → (Builtin.copy_ #[t, u] o.type #[ux, a.eval y]).run P w = .ok r w' → (execOp a.eval o).run P w = .ok (.value r) w' := fun hx hr => by
    simp [execOp, ho, resolve, hc, invoke, builtin, ha', ht', hx, hr]
  have hx := hR.get x
  generalize hgx : getA nt s.t x = gx at *
  generalize hux : a.eval x = ux at *
  unfold evCopy at he
  split at he
  · rename_i q n new hsrc
    split at he
    · rename_i ty sz es hq
      have hq := hH _ _ hq
      split at he
      · rename_i hcond
        obtain ⟨hnn, rfl, hesz, hle, hmax, hlen⟩ := hcond
        cases he
        have hlen' : ∀ c ∈ new, c.length = ie.size := by rw [hesz]; exact hlen
        obtain ⟨⟨news, n1, n2, n3, n4⟩, n5⟩ := evSrc_ok (P := P) hR hH (by omega) hsrc hlen' (hR.get y)
        rw [hesz] at n1 n2
        have hsz : (sizeOf e).run P w = .ok 1 w := by simp [sizeOf, typeInfo, hie, hesz]
        have hmin : Nat.min new.length n = new.length := Nat.min_eq_left (by omega)
        have hold : ∀ (ad : Option Addr) (cap : Nat), ux = .slice ad n cap → (Builtin.copy_ #[t, u] o.type #[ux, a.eval y]).run P w = ((match ad with | some a => storeCells a news | none => Pure.pure ()) >>= fun _ => Pure.pure (goInt new.length)).run P w := by
          intro ad cap hh
          have h1 := n1.first w rfl
          subst hh
          simp only [Builtin.copy_, Sem.run_bind]
          simp [run_underlying hu, n1.len, hmin, hsz, h1]
          cases ad <;> simp
        by_cases h0 : new = []
        · subst h0
          have hn0 : news = [] := List.eq_nil_of_length_eq_zero (by simpa using n2)
          subst hn0
          refine ⟨.int .i64 0, w, E, .inl (hrun rfl ?_), by simpa using Fx.touch hR hq (.c _ _ (.v _ rfl)) (.c _)⟩
          cases hx with
          | slX _ _ _ h => rw [hq] at h; cases h
          | sl _ _ _ _ _ b cap h hr => rw [hold _ _ rfl]; simp [storeCells, goInt]
          | slN _ _ _ h hr => rw [hold (ad := none) (cap := 0) rfl]; simp [goInt]
        · have hpos : 0 < new.length := List.length_pos_iff.2 h0
          rcases hR.live q _ hq with ⟨_, h1⟩ | ⟨b, cap, arr, us, h1, h2, h3, h4, h5, h6, h7, h8, h9⟩
          · exact absurd (List.eq_nil_of_length_eq_zero (by rw [h1] at hle; simpa using hle)) h0
          · cases hx with
            | slX _ _ _ h => rw [hq] at h; cases h
            | slN _ _ _ h hr => rw [h1] at hr; cases hr
            | sl _ _ _ _ _ b' cap' h hr =>
              rw [h1] at hr
              cases hr
              have hst := run_storeCells_at P b 0 ty news 0 arr w h3 (by rw [n2, h4]; omega) n3
              simp only [Nat.zero_add] at hst
              have harr : ∃ arr', (arr.toList.take 0 ++ news ++ arr.toList.drop (news.length)).toArray = arr' := ⟨_, rfl⟩
              obtain ⟨arr', harr⟩ := harr
              rw [harr] at hst
              have hr1 := hold (some ⟨b, 0, none⟩) cap rfl
              have hn : news.length = new.length := by omega
              have hget : ∀ k, k < arr.size → arr'[k]? = if k < news.length then news[k]? else arr[k]? := by
                intro k hk
                rw [← harr, List.getElem?_toArray, List.take_zero, List.nil_append]
                split
                · rename_i hlt; rw [List.getElem?_append_left hlt]
                · rename_i hge; rw [List.getElem?_append_right (by omega), List.getElem?_drop, show news.length + (k - news.length) = k by omega, Array.getElem?_toList]
              have hsize : arr'.size = arr.size := by rw [← harr]; simp; omega
              have hlike : Ob.like (.rw ty 1 es) (.rw ty 1 (new ++ es.drop new.length)) := ⟨rfl, by constructor <;> intro h <;> simp_all⟩
              have f := Fx.write (id := id) (mv := []) (arr := arr') (ob' := .rw ty 1 (new ++ es.drop new.length)) hR hq h1 h2 hlike (fun m hm => by simp at hm) trivial (fun kp => ?_)
              · refine ⟨goInt new.length, w.setRow b arr', _, .inl (hrun rfl ?_), { f with val := .c _ _ (.v _ rfl), mn := .c _ }⟩
                rw [hr1]
                simp [hst]
              · have hmv : ∀ ℓ : Loc, mvl q [] ℓ = ℓ := fun ℓ => rfl
                refine .inr ⟨b, cap, arr', fun i j => arr'.getD (i * 1 + j) undef, h1, by simp only [h2, Option.map_some, hmv], setRow_at h3, by rw [hsize, h4], by simp; omega, h6, fun c hc => ?_, fun i j hi hj => ?_, fun i j ce c hce hcc => ?_⟩
                · rcases List.mem_append.1 hc with hc | hc
                  · exact hlen c hc
                  · exact h7 c (List.mem_of_mem_drop hc)
                · have hlt : i * 1 + j < arr'.size := by rw [hsize, h4]; simp at hi; omega
                  exact getD_some hlt
                · have hi : i < es.length := by have := (List.getElem?_eq_some_iff.1 hce).1; simp at this; omega
                  have hj : j < 1 := by
                    have h10 : ce.length = 1 := by
                      rcases List.mem_append.1 (List.mem_of_getElem? hce) with hc | hc
                      · exact hlen _ hc
                      · exact h7 _ (List.mem_of_mem_drop hc)
                    rw [← h10]; exact (List.getElem?_eq_some_iff.1 hcc).1
                  have hlt : i * 1 + j < arr'.size := by rw [hsize, h4]; omega
                  have hgd : arr'[i * 1 + j]? = some (arr'.getD (i * 1 + j) undef) := getD_some hlt
                  have hg := hget (i * 1 + j) (by rw [← hsize]; exact hlt)
                  rw [hgd] at hg
                  by_cases hin : i < new.length
                  · rw [if_pos (by omega)] at hg
                    rw [List.getElem?_append_left hin] at hce
                    refine n4 i j ce c _ hce hcc (by rw [hesz]; exact hg.symm) _ _ _ kp.t0 (fun k hk => by cases hk)
                  · rw [if_neg (by omega)] at hg
                    rw [List.getElem?_append_right (by omega), List.getElem?_drop, show new.length + (i - new.length) = i by omega] at hce
                    have h8' := h8 i j hi hj
                    rw [← hg] at h8'
                    injection h8' with h8'
                    show RdC _ _ _ c (arr'.getD (i * 1 + j) undef)
                    rw [h8']
                    exact (h9 i j ce c hce hcc).relabel _ kp.t0 (fun b' p hb' hp => ⟨heap_setRow_ne w b arr' b' (fun e => by subst e; rw [h2] at hp; cases hp), by simp only [hp, Option.map_some, hmv]⟩)
      · cases he
    · cases he
  · cases he
theorem kind_cases {t c : Nat} (h : kindB P t c = true) : (P.underlying t = some .string ∧ c = 0) ∨ (∃ k, P.underlying t = some (.int k) ∧ c = 1) ∨ (P.underlying t = some .bool ∧ c = 2) := by
  unfold kindB at h
  split at h
  · rename_i hu; exact .inl ⟨hu, by simpa using h⟩
  · rename_i k hu; exact .inr (.inl ⟨k, hu, by simpa using h⟩)
  · rename_i hu; exact .inr (.inr ⟨hu, by simpa using h⟩)
  · cases h
theorem run_part1 {t c : Nat} (hf : kindB P t c = true) {xs : Array Value} {k : Nat} {p : Value} (hx : xs[k]? = some p) : (part t xs k).run P w = .ok p w := by
  rcases kind_cases hf with ⟨hu, _⟩ | ⟨_, hu, _⟩ | ⟨hu, _⟩ <;> simp [part, isAgg, run_underlying hu, hx]
theorem run_valEq {t d : Nat} {p q : Value} {r : Bool} (hf : kindB P t (kOf (.c (.v p))) = true) (hv : valEq p q = some r) : (Op.equalIn (d + 1) t p q).run P w = .ok r w := by
  unfold valEq at hv
  split at hv
  · cases hv
    rcases kind_cases hf with ⟨hu, _⟩ | ⟨_, hu, h⟩ | ⟨hu, h⟩
    · exact run_equalIn_string w d t _ _ hu
    · cases h
    · cases h
  · split at hv
    · rename_i e
      subst e
      cases hv
      rcases kind_cases hf with ⟨hu, h⟩ | ⟨_, hu, h⟩ | ⟨hu, h⟩
      · cases h
      · exact run_equalIn_int w d t _ _ _ _ hu
      · cases h
    · cases hv
  · cases hv
    rcases kind_cases hf with ⟨hu, h⟩ | ⟨_, hu, h⟩ | ⟨hu, h⟩
    · cases h
    · cases h
    · exact run_equalIn_bool' w d t _ _ hu
  · cases hv
theorem run_celEq {d : Nat} {xs ys : Array Value} : ∀ {fs : List Field} {l m : List AV} {k : Nat} {r : Bool}, flatFs P k fs (l.map kOf) = true → celEq l m = some r → (∀ j (p : Value), l[j]? = some (.c (.v p)) → xs[k + j]? = some p) → (∀ j (p : Value), m[j]? = some (.c (.v p)) → ys[k + j]? = some p) →
    (Op.eqFields (d + 1) xs ys fs).run P w = .ok r w
  | [], [], [], k, r, _, hc, _, _ => by cases hc; simp [Op.eqFields]
  | [], [], y :: q, k, r, hf, hc, hx, hy => by simp [celEq] at hc
  | [], x :: l, m, k, r, hf, hc, hx, hy => by simp [flatFs] at hf
  | f :: fs, [], m, k, r, hf, hc, hx, hy => by simp [flatFs] at hf
  | f :: fs, x :: l, [], k, r, hf, hc, hx, hy => by unfold celEq at hc; split at hc <;> simp_all
  | f :: fs, x :: l, y :: m, k, r, hf, hc, hx, hy => by
    unfold celEq at hc
    split at hc
    · rename_i h1 h2; cases h1
    · rename_i a r1 b q1 h1 h2
      cases h1; cases h2
      simp only [Option.bind_eq_some_iff] at hc
      obtain ⟨u, hu, v, hv, hr⟩ := hc
      cases hr
      simp only [List.map_cons, flatFs, Bool.and_eq_true, beq_iff_eq, bne_iff_ne, ne_eq] at hf
      obtain ⟨⟨⟨h1, h2⟩, h3⟩, h4⟩ := hf
      have ih := run_celEq (d := d) (xs := xs) (ys := ys) h4 hv (fun j p hj => by have := hx (j + 1) p (by simpa using hj); rwa [show k + (j + 1) = k + 1 + j by omega] at this) (fun j p hj => by have := hy (j + 1) p (by simpa using hj); rwa [show k + (j + 1) = k + 1 + j by omega] at this)
      have hp1 : xs[f.offset]? = some a := by rw [h1]; exact hx 0 a rfl
      have hp2 : ys[f.offset]? = some b := by rw [h1]; exact hy 0 b rfl
      simp only [Op.eqFields, ne_eq, h2, not_false_eq_true, if_true, Sem.run_bind, run_part1 h3 hp1, Result.andThen_ok, run_part1 h3 hp2, run_valEq h3 hu, Sem.run_ite]
      cases u
      · simp
      · simpa using ih
    · cases hc
theorem good_structEq (hR : RelE nt I U s E a w) {op : BinOp} {t t' : Nat} {x y : Operand} (ho : o.op = .binOp op t x y t') {l m : List AV} (hx : getA nt s.t x = .ag l) (hy : getA nt s.t y = .ag m) (hf : flatB P t (l.map kOf) = true) {r : Bool} (hc : celEq l m = some r)
    {r' : Bool} (hr : (op = .eql ∧ r' = r) ∨ (op = .neq ∧ r' = !r)) : Good P o a w E s.H U id (.c (.v (.bool r'))) [] := by
  have h1 := hR.get x
  have h2 := hR.get y
  rw [hx] at h1
  rw [hy] at h2
  generalize hux : a.eval x = ux at *
  generalize huy : a.eval y = uy at *
  cases h1 with
  | ag _ us hs hi =>
    cases h2 with
    | ag _ vs hs' hi' =>
      unfold flatB at hf
      simp only [Bool.and_eq_true, Bool.not_eq_true'] at hf
      obtain ⟨⟨hf, hst⟩, hg⟩ := hf
      split at hf
      · rename_i fs hu
        have hfo : P.underlying t = some (.struct (P.fieldsOf t)) := by simp [Program.fieldsOf, hu]
        have hfe : (P.fieldsOf t).toList = fs.toList := by simp [Program.fieldsOf, hu]
        have key := run_celEq (P := P) (w := w) (d := 9998) (xs := us) (ys := vs) hf hc (fun j p hj => by
          have hjl := (List.getElem?_eq_some_iff.1 hj).1
          have : us[0 + j]? = some us[j] := by rw [Nat.zero_add]; exact Array.getElem?_eq_getElem (by omega)
          rw [this]
          have := hi j _ us[j] hj (Array.getElem?_eq_getElem (by omega))
          cases this with | c _ _ h => cases h; rfl) (fun j p hj => by
          have hjl := (List.getElem?_eq_some_iff.1 hj).1
          have : vs[0 + j]? = some vs[j] := by rw [Nat.zero_add]; exact Array.getElem?_eq_getElem (by omega)
          rw [this]
          have := hi' j _ vs[j] hj (Array.getElem?_eq_getElem (by omega))
          cases this with | c _ _ h => cases h; rfl)
        have hrun : (Op.equalIn 10000 t (.agg us) (.agg vs)).run P w = .ok r w := by
          have := run_equalIn_agg (P := P) w 9999 t us vs hfo hst
          rw [hfe] at this
          exact this.trans key
        refine Good.plain hR (u := .bool r') ?_ rfl rfl
        rcases hr with ⟨rfl, rfl⟩ | ⟨rfl, rfl⟩
        · simp [execOp, ho, hux, huy, run_eqGuard_agg (P := P) w .eql t x y us vs hg, run_eql_struct, hrun]
        · simp [execOp, ho, hux, huy, run_eqGuard_agg (P := P) w .neq t x y us vs hg, run_neq_struct, hrun]
      · cases hf
end
end Go.Proofs.Ytnnmpdanfeejbaa.Abs
