import Derived.Test.YtnnmpdanfeejbaaGreatAbsG1
import Derived.Deep.LoopGhost
import Derived.Tactics
/- The abstract machine's operations hold of the model: copy; structs compared. -/
namespace Go.Proofs.YtnnmpdanfeejbaaGreat.Abs
open Go Go.RowKit
set_option linter.unusedVariables false
set_option linter.unusedSimpArgs false
section
variable {P : Program} {nt : Nat} {I : Ini} {U : Nat → Prop} {s : ASt} {E : Env} {a : Act} {w : World} {o : Oper} {id : Nat} {v : AV} {objs : List (Nat × Option Ob)} {H : Hp}
theorem getD_some {arr : Array Value} {k : Nat} (h : k < arr.size) : arr[k]? = some (arr.getD k undef) := by
  rw [Array.getElem?_eq_getElem h]
  simp [Array.getD, h]
/-- An object is told again as it is. -/
theorem Fx.touch (hR : RelE nt I U s E a w) {q : Nat} {ob : Ob} (hq : s.H q = some ob) {u : Value} (h : RdV w E s.H v u) (hm : Mn U v) : Fx w E s.H U id v [(q, some ob)] u w E := by
  have e : updL s.H [(q, some ob)] = s.H := by
    funext k
    show upd s.H q (some ob) k = s.H k
    by_cases hk : k = q
    · subst hk; rw [upd_same, hq]
    · rw [upd_ne _ _ hk]
  refine ⟨Evo.refl _ _, fun b _ h => h, fun b _ h => ⟨rfl, h⟩, fun k _ => ⟨rfl, fun b p _ h => ⟨rfl, h⟩⟩, fun x hx => ?_, fun x hx ob' hob => ?_, fun b ℓ hb => ⟨hR.locLt b ℓ hb, .inr (by rw [hb]; simp)⟩, by rw [e]; exact h, hm.mono fun _ h => .inl h⟩
  · simp at hx; subst hx
    exact .inr ⟨ob, hq, .inr ⟨ob, by rw [e]; exact hq, Ob.like.refl ob, rfl⟩⟩
  · simp at hx; subst hx
    rw [e, hq] at hob
    cases hob
    rw [e]
    exact ⟨hR.live q _ hq, (hR.mnH q _ hq).2.mono fun _ h => .inl h⟩
theorem good_copy (hR : RelE nt I U s E a w) (hH : ∀ o ob, H o = some ob → s.H o = some ob) {x y : Operand} {c : Call} (ho : o.op = .call c) (hc : c.callee = .builtin .copy) (ha : c.args.toList = [x, y]) {t u : Nat} (ht : c.argTypes.toList = [t, u])
    {i : TI} (hi : tiOf P t = some i) {e esz eb : Nat} (hel : i.elem = some (e, esz, eb)) (he : evCopy H esz (getA nt s.t x) (getA nt s.t y) = some (v, objs)) : Good P o a w E s.H U id v objs := by
  obtain ⟨hu, ie, hie, rfl, rfl⟩ := elem_spec hi hel
  have ha' : c.args = #[x, y] := by rw [← ha]
  have ht' : c.argTypes = #[t, u] := by rw [← ht]
  have hrun : ∀ {ux r w'}, a.eval x = ux → (Builtin.copy_ #[t, u] o.type #[ux, a.eval y]).run P w = .ok r w' → (execOp a.eval o).run P w = .ok (.value r) w' := fun hx hr => by
    simp [execOp, ho, resolve, hc, invoke, builtin, ha', ht', hx, hr]
  have hx := hR.get x
  generalize hgx : getA nt s.t x = gx at *
  generalize hux : a.eval x = ux at *
  unfold evCopy at he
  split at he
  · rename_i q n new hsrc
    split at he
    · rename_i ty sz es hq
      have hq := hH _ _ hq
      split at he
      · rename_i hcond
        obtain ⟨hnn, rfl, hesz, hle, hmax, hlen⟩ := hcond
        cases he
        have hlen' : ∀ c ∈ new, c.length = ie.size := by rw [hesz]; exact hlen
        obtain ⟨⟨news, n1, n2, n3, n4⟩, n5⟩ := evSrc_ok (P := P) hR hH (by omega) hsrc hlen' (hR.get y)
        rw [hesz] at n1 n2
        have hsz : (sizeOf e).run P w = .ok 1 w := by simp [sizeOf, typeInfo, hie, hesz]
        have hmin : Nat.min new.length n = new.length := Nat.min_eq_left (by omega)
        have hold : ∀ (ad : Option Addr) (cap : Nat), ux = .slice ad n cap → (Builtin.copy_ #[t, u] o.type #[ux, a.eval y]).run P w = ((match ad with | some a => storeCells a news | none => Pure.pure ()) >>= fun _ => Pure.pure (goInt new.length)).run P w := by
          intro ad cap hh
          have h1 := n1.first w rfl
          subst hh
          simp only [Builtin.copy_, Sem.run_bind]
          simp [run_underlying hu, n1.len, hmin, hsz, h1]
          cases ad <;> simp
        by_cases h0 : new = []
        · subst h0
          have hn0 : news = [] := List.eq_nil_of_length_eq_zero (by simpa using n2)
          subst hn0
          refine ⟨.int .i64 0, w, E, .inl (hrun rfl ?_), by simpa using Fx.touch hR hq (.c _ _ (.v _ rfl)) (.c _)⟩
          cases hx with
          | slX _ _ _ h => rw [hq] at h; cases h
          | sl _ _ _ _ _ b cap h hr => rw [hold _ _ rfl]; simp [storeCells, goInt]
          | slN _ _ _ h hr => rw [hold (ad := none) (cap := 0) rfl]; simp [goInt]
        · have hpos : 0 < new.length := List.length_pos_iff.2 h0
          rcases hR.live q _ hq with ⟨_, h1⟩ | ⟨b, cap, arr, us, h1, h2, h3, h4, h5, h6, h7, h8, h9⟩
          · exact absurd (List.eq_nil_of_length_eq_zero (by rw [h1] at hle; simpa using hle)) h0
          · cases hx with
            | slX _ _ _ h => rw [hq] at h; cases h
            | slN _ _ _ h hr => rw [h1] at hr; cases hr
            | sl _ _ _ _ _ b' cap' h hr =>
              rw [h1] at hr
              cases hr
              have hst := run_storeCells_at P b 0 ty news 0 arr w h3 (by rw [n2, h4]; omega) n3
              simp only [Nat.zero_add] at hst
              have harr : ∃ arr', (arr.toList.take 0 ++ news ++ arr.toList.drop (news.length)).toArray = arr' := ⟨_, rfl⟩
              obtain ⟨arr', harr⟩ := harr
              rw [harr] at hst
              have hr1 := hold (some ⟨b, 0, none⟩) cap rfl
              have hn : news.length = new.length := by omega
              have hget : ∀ k, k < arr.size → arr'[k]? = if k < news.length then news[k]? else arr[k]? := by
                intro k hk
                rw [← harr, List.getElem?_toArray, List.take_zero, List.nil_append]
                split
                · rename_i hlt; rw [List.getElem?_append_left hlt]
                · rename_i hge; rw [List.getElem?_append_right (by omega), List.getElem?_drop, show news.length + (k - news.length) = k by omega, Array.getElem?_toList]
              have hsize : arr'.size = arr.size := by rw [← harr]; simp; omega
              have hlike : Ob.like (.rw ty 1 es) (.rw ty 1 (new ++ es.drop new.length)) := ⟨rfl, by constructor <;> intro h <;> simp_all⟩
              have f := Fx.write (id := id) (mv := []) (arr := arr') (ob' := .rw ty 1 (new ++ es.drop new.length)) hR hq h1 h2 hlike (fun m hm => by simp at hm) trivial (fun kp => ?_)
              · refine ⟨goInt new.length, w.setRow b arr', _, .inl (hrun rfl ?_), { f with val := .c _ _ (.v _ rfl), mn := .c _ }⟩
                rw [hr1]
                simp [hst]
              · have hmv : ∀ ℓ : Loc, mvl q [] ℓ = ℓ := fun ℓ => rfl
                refine .inr ⟨b, cap, arr', fun i j => arr'.getD (i * 1 + j) undef, h1, by simp only [h2, Option.map_some, hmv], setRow_at h3, by rw [hsize, h4], by simp; omega, h6, fun c hc => ?_, fun i j hi hj => ?_, fun i j ce c hce hcc => ?_⟩
                · rcases List.mem_append.1 hc with hc | hc
                  · exact hlen c hc
                  · exact h7 c (List.mem_of_mem_drop hc)
                · have hlt : i * 1 + j < arr'.size := by rw [hsize, h4]; simp at hi; omega
                  exact getD_some hlt
                · have hi : i < es.length := by have := (List.getElem?_eq_some_iff.1 hce).1; simp at this; omega
                  have hj : j < 1 := by
                    have h10 : ce.length = 1 := by
                      rcases List.mem_append.1 (List.mem_of_getElem? hce) with hc | hc
                      · exact hlen _ hc
                      · exact h7 _ (List.mem_of_mem_drop hc)
                    rw [← h10]; exact (List.getElem?_eq_some_iff.1 hcc).1
                  have hlt : i * 1 + j < arr'.size := by rw [hsize, h4]; omega
                  have hgd : arr'[i * 1 + j]? = some (arr'.getD (i * 1 + j) undef) := getD_some hlt
                  have hg := hget (i * 1 + j) (by rw [← hsize]; exact hlt)
                  rw [hgd] at hg
                  by_cases hin : i < new.length
                  · rw [if_pos (by omega)] at hg
                    rw [List.getElem?_append_left hin] at hce
                    refine n4 i j ce c _ hce hcc (by rw [hesz]; exact hg.symm) _ _ _ kp.t0 (fun k hk => by cases hk)
                  · rw [if_neg (by omega)] at hg
                    rw [List.getElem?_append_right (by omega), List.getElem?_drop, show new.length + (i - new.length) = i by omega] at hce
                    have h8' := h8 i j hi hj
                    rw [← hg] at h8'
                    injection h8' with h8'
                    show RdC _ _ _ c (arr'.getD (i * 1 + j) undef)
                    rw [h8']
                    exact (h9 i j ce c hce hcc).relabel _ kp.t0 (fun b' p hb' hp => ⟨heap_setRow_ne w b arr' b' (fun e => by subst e; rw [h2] at hp; cases hp), by simp only [hp, Option.map_some, hmv]⟩)
      · cases he
    · cases he
  · cases he
theorem kind_cases {t c : Nat} (h : kindB P t c = true) : (P.underlying t = some .string ∧ c = 0) ∨ (∃ k, P.underlying t = some (.int k) ∧ c = 1) ∨ (P.underlying t = some .bool ∧ c = 2) := by
  unfold kindB at h
  split at h
  · rename_i hu; exact .inl ⟨hu, by simpa using h⟩
  · rename_i k hu; exact .inr (.inl ⟨k, hu, by simpa using h⟩)
  · rename_i hu; exact .inr (.inr ⟨hu, by simpa using h⟩)
  · cases h
theorem run_part1 {t c : Nat} (hf : kindB P t c = true) {xs : Array Value} {k : Nat} {p : Value} (hx : xs[k]? = some p) : (part t xs k).run P w = .ok p w := by
  rcases kind_cases hf with ⟨hu, _⟩ | ⟨_, hu, _⟩ | ⟨hu, _⟩ <;> simp [part, isAgg, run_underlying hu, hx]
theorem run_valEq {t d : Nat} {p q : Value} {r : Bool} (hf : kindB P t (kOf (.c (.v p))) = true) (hv : valEq p q = some r) : (Op.equalIn (d + 1) t p q).run P w = .ok r w := by
  unfold valEq at hv
  split at hv
  · cases hv
    rcases kind_cases hf with ⟨hu, _⟩ | ⟨_, hu, h⟩ | ⟨hu, h⟩
    · exact run_equalIn_string w d t _ _ hu
    · cases h
    · cases h
  · split at hv
    · rename_i e
      subst e
      cases hv
      rcases kind_cases hf with ⟨hu, h⟩ | ⟨_, hu, h⟩ | ⟨hu, h⟩
      · cases h
      · exact run_equalIn_int w d t _ _ _ _ hu
      · cases h
    · cases hv
  · cases hv
    rcases kind_cases hf with ⟨hu, h⟩ | ⟨_, hu, h⟩ | ⟨hu, h⟩
    · cases h
    · cases h
    · exact run_equalIn_bool' w d t _ _ hu
  · cases hv
theorem run_celEq {d : Nat} {xs ys : Array Value} : ∀ {fs : List Field} {l m : List AV} {k : Nat} {r : Bool}, flatFs P k fs (l.map kOf) = true → celEq l m = some r → (∀ j (p : Value), l[j]? = some (.c (.v p)) → xs[k + j]? = some p) → (∀ j (p : Value), m[j]? = some (.c (.v p)) → ys[k + j]? = some p) →
    (Op.eqFields (d + 1) xs ys fs).run P w = .ok r w
  | [], [], [], k, r, _, hc, _, _ => by cases hc; simp [Op.eqFields]
  | [], [], y :: q, k, r, hf, hc, hx, hy => by simp [celEq] at hc
  | [], x :: l, m, k, r, hf, hc, hx, hy => by simp [flatFs] at hf
  | f :: fs, [], m, k, r, hf, hc, hx, hy => by simp [flatFs] at hf
  | f :: fs, x :: l, [], k, r, hf, hc, hx, hy => by unfold celEq at hc; split at hc <;> simp_all
  | f :: fs, x :: l, y :: m, k, r, hf, hc, hx, hy => by
    unfold celEq at hc
    split at hc
    · rename_i h1 h2; cases h1
    · rename_i a r1 b q1 h1 h2
      cases h1; cases h2
      simp only [Option.bind_eq_some_iff] at hc
      obtain ⟨u, hu, v, hv, hr⟩ := hc
      cases hr
      simp only [List.map_cons, flatFs, Bool.and_eq_true, beq_iff_eq, bne_iff_ne, ne_eq] at hf
      obtain ⟨⟨⟨h1, h2⟩, h3⟩, h4⟩ := hf
      have ih := run_celEq (d := d) (xs := xs) (ys := ys) h4 hv (fun j p hj => by have := hx (j + 1) p (by simpa using hj); rwa [show k + (j + 1) = k + 1 + j by omega] at this) (fun j p hj => by have := hy (j + 1) p (by simpa using hj); rwa [show k + (j + 1) = k + 1 + j by omega] at this)
      have hp1 : xs[f.offset]? = some a := by rw [h1]; exact hx 0 a rfl
      have hp2 : ys[f.offset]? = some b := by rw [h1]; exact hy 0 b rfl
      simp only [Op.eqFields, ne_eq, h2, not_false_eq_true, if_true, Sem.run_bind, run_part1 h3 hp1, Result.andThen_ok, run_part1 h3 hp2, run_valEq h3 hu, Sem.run_ite]
      cases u
      · simp
      · simpa using ih
    · cases hc
theorem good_structEq (hR : RelE nt I U s E a w) {op : BinOp} {t t' : Nat} {x y : Operand} (ho : o.op = .binOp op t x y t') {l m : List AV} (hx : getA nt s.t x = .ag l) (hy : getA nt s.t y = .ag m) (hf : flatB P t (l.map kOf) = true) {r : Bool} (hc : celEq l m = some r)
    {r' : Bool} (hr : (op = .eql ∧ r' = r) ∨ (op = .neq ∧ r' = !r)) : Good P o a w E s.H U id (.c (.v (.bool r'))) [] := by
  have h1 := hR.get x
  have h2 := hR.get y
  rw [hx] at h1
  rw [hy] at h2
  generalize hux : a.eval x = ux at *
  generalize huy : a.eval y = uy at *
  cases h1 with
  | ag _ us hs hi =>
    cases h2 with
    | ag _ vs hs' hi' =>
      unfold flatB at hf
      simp only [Bool.and_eq_true, Bool.not_eq_true'] at hf
      obtain ⟨⟨hf, hst⟩, hg⟩ := hf
      split at hf
      · rename_i fs hu
        have hfo : P.underlying t = some (.struct (P.fieldsOf t)) := by simp [Program.fieldsOf, hu]
        have hfe : (P.fieldsOf t).toList = fs.toList := by simp [Program.fieldsOf, hu]
        have key := run_celEq (P := P) (w := w) (d := 9998) (xs := us) (ys := vs) hf hc (fun j p hj => by
          have hjl := (List.getElem?_eq_some_iff.1 hj).1
          have : us[0 + j]? = some us[j] := by rw [Nat.zero_add]; exact Array.getElem?_eq_getElem (by omega)
          rw [this]
          have := hi j _ us[j] hj (Array.getElem?_eq_getElem (by omega))
          cases this with | c _ _ h => cases h; rfl) (fun j p hj => by
          have hjl := (List.getElem?_eq_some_iff.1 hj).1
          have : vs[0 + j]? = some vs[j] := by rw [Nat.zero_add]; exact Array.getElem?_eq_getElem (by omega)
          rw [this]
          have := hi' j _ vs[j] hj (Array.getElem?_eq_getElem (by omega))
          cases this with | c _ _ h => cases h; rfl)
        have hrun : (Op.equalIn 10000 t (.agg us) (.agg vs)).run P w = .ok r w := by
          have := run_equalIn_agg (P := P) w 9999 t us vs hfo hst
          rw [hfe] at this
          exact this.trans key
        refine Good.plain hR (u := .bool r') ?_ rfl rfl
        rcases hr with ⟨rfl, rfl⟩ | ⟨rfl, rfl⟩
        · simp [execOp, ho, hux, huy, run_eqGuard_agg (P := P) w .eql t x y us vs hg, run_eql_struct, hrun]
        · simp [execOp, ho, hux, huy, run_eqGuard_agg (P := P) w .neq t x y us vs hg, run_neq_struct, hrun]
      · cases hf
end
end Go.Proofs.YtnnmpdanfeejbaaGreat.Abs

/- The abstract machine's operations hold of the model: all of them. -/
namespace Go.Proofs.YtnnmpdanfeejbaaGreat.Abs
open Go Go.RowKit
set_option linter.unusedVariables false
set_option linter.unusedSimpArgs false

section
variable {P : Program} {nt : Nat} {I : Ini} {U : Nat → Prop} {s : ASt} {E : Env} {a : Act} {w : World} {o : Oper} {id : Nat} {v : AV} {objs : List (Nat × Option Ob)} {H : Hp}

theorem nilA_mono (hH : ∀ o ob, H o = some ob → s.H o = some ob) {x : AV} {b : Bool} (h : nilA H x = some b) : nilA s.H x = some b := by
  unfold nilA at h ⊢
  split at h <;> simp_all
  rename_i q _ _
  cases hq : H q with
  | none => simp [hq] at h
  | some ob => simp [hH _ _ hq]
theorem evLen_mono (hH : ∀ o ob, H o = some ob → s.H o = some ob) {x : AV} {b : Int} (h : evLen H x = some b) : evLen s.H x = some b := by
  unfold evLen at h ⊢
  split at h <;> simp_all
  rename_i q _
  cases hq : H q with
  | none => simp [hq] at h
  | some ob => simp [hH _ _ hq]

theorem ev_bin (hR : RelE nt I U s E a w) (hH : ∀ o ob, H o = some ob → s.H o = some ob) {op : BinOp} {t t' : Nat} {x y : Operand} (ho : o.op = .binOp op t x y t') (he : evOp P id H (getA nt s.t) (.binOp op t x y t') = some (v, objs)) : Good P o a w E s.H U id v objs := by
  simp only [evOp] at he
  split at he
  · rename_i p q hx hy
    split at he
    · simp only [Option.bind_eq_some_iff, Option.ite_none_right_eq_some] at he
      obtain ⟨i, hi, hb, he⟩ := he
      split at he
      · cases he; exact good_boolEq hR ho hx hy hi hb (.inl ⟨rfl, rfl⟩)
      · cases he; exact good_boolEq hR ho hx hy hi hb (.inr ⟨rfl, rfl⟩)
      · cases he
    · simp only [Option.bind_eq_some_iff, Option.ite_none_right_eq_some] at he
      obtain ⟨i, hi, hb, he⟩ := he
      have h1 : nilA s.H (getA nt s.t x) = some true := by rw [hx]; rfl
      have h2 : nilA s.H (getA nt s.t y) = some true := by rw [hy]; rfl
      split at he
      · cases he; exact good_nilEq hR ho h1 h2 (.inl rfl) hi hb (.inl ⟨rfl, rfl⟩)
      · cases he; exact good_nilEq hR ho h1 h2 (.inl rfl) hi hb (.inr ⟨rfl, rfl⟩)
      · cases he
    · simp only [Option.bind_eq_some_iff] at he
      obtain ⟨r, hr, he⟩ := he
      cases he
      exact good_binV hR ho hx hy hr
  · rename_i l m hx hy
    simp only [Option.ite_none_right_eq_some, Option.bind_eq_some_iff] at he
    obtain ⟨hf, r, hr, he⟩ := he
    split at he
    · cases he; exact good_structEq hR ho hx hy hf hr (.inl ⟨rfl, rfl⟩)
    · cases he; exact good_structEq hR ho hx hy hf hr (.inr ⟨rfl, rfl⟩)
    · cases he
  · rename_i hno
    simp only [Option.bind_eq_some_iff, Option.ite_none_right_eq_some] at he
    obtain ⟨i, hi, hb, p, hp, q, hq, hpq, he⟩ := he
    have h1 := nilA_mono hH hp
    have h2 := nilA_mono hH hq
    have h3 : (p = true ∨ q = true) ∧ (p && q) = false := by cases p <;> cases q <;> simp_all
    split at he
    · cases he; exact good_nilEq hR ho h1 h2 h3.1 hi hb (.inl ⟨rfl, h3.2.symm⟩)
    · cases he; exact good_nilEq hR ho h1 h2 h3.1 hi hb (.inr ⟨rfl, by rw [h3.2]; rfl⟩)
    · cases he

theorem ev_conv (hR : RelE nt I U s E a w) (hH : ∀ o ob, H o = some ob → s.H o = some ob) {t d : Nat} {x : Operand} (ho : o.op = .convert t d x) {i j : TI} (hi : tiOf P t = some i) (hj : tiOf P d = some j) (he : evConv H id i j (getA nt s.t x) = some (v, objs)) :
    Good P o a w E s.H U id v objs := by
  unfold evConv at he
  split at he
  · rename_i k k' n hk hx
    cases he
    exact good_convInt hR ho hi hj hk hx
  · split at he
    · rename_i hc
      simp only [Option.bind_eq_some_iff] at he
      obtain ⟨l, ⟨es, hes, hl⟩, he⟩ := he
      cases he
      exact good_convStr hR hH ho hi hj hc.1 hc.2 hes hl
    · split at he
      · rename_i b hx
        simp only [Option.ite_none_right_eq_some] at he
        obtain ⟨hc, he⟩ := he
        cases he
        exact good_convBytes hR ho hi hj hc.1 hc.2.1 hx hc.2.2
      · cases he

theorem ev_call (hR : RelE nt I U s E a w) (hid : ¬ U id) (hH : ∀ o ob, H o = some ob → s.H o = some ob) {c : Call} (ho : o.op = .call c) (he : evOp P id H (getA nt s.t) (.call c) = some (v, objs)) : Good P o a w E s.H U id v objs := by
  obtain ⟨callee, args, ts⟩ := c
  cases callee with
  | value => simp [evOp] at he
  | invoke => simp [evOp] at he
  | builtin b =>
    simp only [evOp] at he
    split at he
    · rename_i x t ha ht
      simp only [Option.bind_eq_some_iff, Option.ite_none_right_eq_some] at he
      obtain ⟨i, hi, n, hn, ⟨h1, h2⟩, he⟩ := he
      cases he
      exact good_len hR ho rfl ha ht hi h2 (evLen_mono hH hn) h1
    · rename_i x y t u ha ht
      simp only [Option.bind_eq_some_iff, Option.ite_none_right_eq_some] at he
      obtain ⟨i, hi, j, hj, ⟨e, esz, eb⟩, hel, z, hz, ⟨h1, h2⟩, he⟩ := he
      exact good_append hR hid hH ho rfl ha ht hi hj hel hz h1 h2 he
    · rename_i x y t u ha ht
      simp only [Option.bind_eq_some_iff] at he
      obtain ⟨i, hi, ⟨e, esz, eb⟩, hel, he⟩ := he
      exact good_copy hR hH ho rfl ha ht hi hel he
    · rename_i x y ha
      split at he
      · rename_i p q hx hy
        cases he
        exact good_min hR ho rfl ha hx hy
      · cases he
    · rename_i x y ha
      split at he
      · rename_i p q hx hy
        cases he
        exact good_max hR ho rfl ha hx hy
      · cases he
    · cases he

theorem ev_sound (hR : RelE nt I U s E a w) (hid : ¬ U id) (hH : ∀ o ob, H o = some ob → s.H o = some ob) (he : evOp P id H (getA nt s.t) o.op = some (v, objs)) : Good P o a w E s.H U id v objs := by
  generalize hop : o.op = op at he
  cases op with
  | move x => simp only [evOp] at he; cases he; exact good_move hR (.inl hop)
  | assign x => simp only [evOp] at he; cases he; exact good_move hR (.inr hop)
  | pick c x y =>
    simp only [evOp] at he
    split at he
    · rename_i t hc
      cases he
      exact good_pick hR hop hc
    · cases he
  | alloc e =>
    simp only [evOp, Option.bind_eq_some_iff] at he
    obtain ⟨i, hi, he⟩ := he
    split at he
    · cases he
    · rename_i hz
      cases he
      exact good_alloc hR hid hop hi (by intro h; rw [h] at hz; exact hz rfl)
  | box e x =>
    simp only [evOp, Option.ite_none_right_eq_some] at he
    obtain ⟨hok, he⟩ := he
    cases he
    exact good_box hR hid hH hop hok
  | load t x =>
    simp only [evOp, Option.bind_eq_some_iff] at he
    obtain ⟨i, hi, he⟩ := he
    exact good_load hR hop hi hH he
  | store t x y =>
    simp only [evOp, Option.bind_eq_some_iff] at he
    obtain ⟨i, hi, he⟩ := he
    exact good_store hR hop hi hH he
  | fieldAddr t x f =>
    simp only [evOp, Option.bind_eq_some_iff, Option.ite_none_right_eq_some] at he
    obtain ⟨i, hi, ⟨off, sz⟩, hf, hz, he⟩ := he
    exact good_fieldAddr hR hop hi hH hf hz he
  | indexAddr t x ix =>
    simp only [evOp] at he
    split at he
    · rename_i k n hix
      simp only [Option.bind_eq_some_iff] at he
      obtain ⟨i, hi, ⟨e, esz, eb⟩, hel, he⟩ := he
      exact good_indexAddr hR hop hix hi hH hel he
    · cases he
  | nilCheck x =>
    simp only [evOp, Option.bind_eq_some_iff] at he
    obtain ⟨b, hb, he⟩ := he
    split at he
    · cases he
    · rename_i hf
      cases he
      have : b = false := by simpa using hf
      subst this
      exact good_nilCheck hR hop (nilA_mono hH hb)
  | binOp op t x y t' => exact ev_bin hR hH hop he
  | unOp op t x =>
    simp only [evOp] at he
    split at he
    · rename_i b hx
      simp only [Option.bind_eq_some_iff] at he
      obtain ⟨r, hr, he⟩ := he
      cases he
      exact good_unOp hR hop hx hr
    · cases he
  | convert t d x =>
    simp only [evOp, Option.bind_eq_some_iff] at he
    obtain ⟨i, hi, j, hj, he⟩ := he
    exact ev_conv hR hH hop hi hj he
  | index t x ix =>
    simp only [evOp] at he
    split at he
    · rename_i b k n hx hix
      simp only [Option.bind_eq_some_iff, Option.ite_none_right_eq_some] at he
      obtain ⟨i, hi, c, hc, ⟨h0, hs⟩, he⟩ := he
      cases he
      exact good_index hR hop hix hx hi hs hc h0
    · cases he
  | slice t x lo hi mx =>
    simp only [evOp] at he
    split at he
    · simp only [Option.bind_eq_some_iff] at he
      obtain ⟨i, hi', he⟩ := he
      split at he
      · rename_i hs
        split at he
        · rename_i b hx
          simp only [evSlice, hx, Option.bind_eq_some_iff] at he
          obtain ⟨h, hh, l, hl, he⟩ := he
          cases he
          exact good_sliceStr hR hop hi' hs hx hh hl
        · cases he
      · simp only [Option.bind_eq_some_iff] at he
        obtain ⟨e, hel, he⟩ := he
        split at he
        · cases he
        · rename_i hns
          exact good_sliceRow (H := H) hR hop hi' hel (fun b hb => hns b hb) he
    · cases he
  | makeSlice t l c =>
    simp only [evOp, Option.bind_eq_some_iff] at he
    obtain ⟨i, hi, ⟨e, esz, eb⟩, hel, he⟩ := he
    split at he
    · rename_i n m hx hy
      simp only [Option.ite_none_right_eq_some, Option.bind_eq_some_iff] at he
      obtain ⟨⟨rfl, h0, h1, h2, h3⟩, z, hz, he⟩ := he
      split at he
      · cases he
      · rename_i hzz
        cases he
        simp only [not_or, Decidable.not_not, Bool.not_eq_false] at hzz
        exact good_makeSlice hR hid hop hi hel hz hx hy h0 h1 h2 h3 hzz.1 hzz.2
    · cases he
  | build t ps =>
    simp only [evOp, Option.bind_eq_some_iff] at he
    obtain ⟨i, hi, he⟩ := he
    exact good_build hR hH hop hi he
  | buildSlice t n ps =>
    simp only [evOp, Option.bind_eq_some_iff] at he
    obtain ⟨i, hi, ⟨e, esz, eb⟩, hel, z, hz, he⟩ := he
    exact good_buildSlice hR hid hH hop hi hel hz he
  | extract x k =>
    simp only [evOp] at he
    split at he
    · rename_i vs hx
      simp only [Option.bind_eq_some_iff] at he
      obtain ⟨r, hr, he⟩ := he
      cases he
      exact good_extract hR hop hx hr
    · cases he
  | call c => exact ev_call hR hid hH hop he
  | _ => simp [evOp] at he
end

end Go.Proofs.YtnnmpdanfeejbaaGreat.Abs

/- The abstract machine: contracts of functions, and a call by a contract. -/
namespace Go.Proofs.YtnnmpdanfeejbaaGreat.Abs
open Go Go.RowKit
set_option linter.unusedVariables false
set_option linter.unusedSimpArgs false

/-- The same but for the marks of ownership. -/
inductive Sim : CV → CV → Prop
  | v (x) : Sim (.v x) (.v x)
  | row (k k' es es') : es.length = es'.length → (∀ (i : Nat) e e', es[i]? = some e → es'[i]? = some e' → e.length = e'.length) → (∀ (i j : Nat) e e' c c', es[i]? = some e → es'[i]? = some e' → e[j]? = some c → e'[j]? = some c' → Sim c c') → Sim (.row k es) (.row k' es')
  | ptr (cs cs' j) : cs.length = cs'.length → (∀ (j : Nat) c c', cs[j]? = some c → cs'[j]? = some c' → Sim c c') → Sim (.ptr cs j) (.ptr cs' j)

theorem RdR.sim {w : World} {T : Nat → Prop} {c : CV} {u : Value} (h : RdR w T c u) : ∀ {c' : CV}, Sim c c' → RdR w T c' u := by
  induction h with
  | v x hx => intro c' hs; cases hs; exact .v x hx
  | hole => intro c' hs; cases hs
  | nil k a c =>
    intro c' hs
    cases hs with
    | row _ k' _ es' hl =>
      have : es' = [] := List.eq_nil_of_length_eq_zero (by simpa using hl.symm)
      subst this
      exact .nil ..
  | row k b off sz cap es arr ty fz us hT hb hs hm hc hu _ ih =>
    intro c' hsim
    cases hsim with
    | row _ k' _ es' hl hle hcc =>
      have := RdR.row (w := w) (T := T) k' b off sz cap es' arr ty fz us hT hb (fun e' he' => by
        obtain ⟨i, hi⟩ := List.getElem?_of_mem he'
        have hil := (List.getElem?_eq_some_iff.1 hi).1
        have hie := List.getElem?_eq_getElem (hl ▸ hil)
        rw [← hle i _ e' hie hi]
        exact hs _ (List.getElem_mem _)) (hl ▸ hm) (hl ▸ hc) (fun i j hi hj => hu i j (hl ▸ hi) hj) (fun i j e' c' he' hc' => by
        have hil := (List.getElem?_eq_some_iff.1 he').1
        have hie := List.getElem?_eq_getElem (hl ▸ hil)
        have hjl := (List.getElem?_eq_some_iff.1 hc').1
        rw [← hle i _ e' hie he'] at hjl
        have hje := List.getElem?_eq_getElem hjl
        exact ih i j _ _ hie hje (hcc i j _ e' _ c' hie he' hje hc'))
      rwa [← hl] at this
  | ptr b off cs j arr ty fz us hT hb hu _ ih =>
    intro c' hs
    cases hs with
    | ptr _ cs' _ hl hcc =>
      exact .ptr b off cs' j arr ty fz us hT hb (fun j hj => hu j (hl ▸ hj)) (fun j c' hc' => by
        have hjl := (List.getElem?_eq_some_iff.1 hc').1
        have hje := List.getElem?_eq_getElem (hl ▸ hjl)
        exact ih j _ hje (hcc j _ c' hje hc'))

/-- Objects by number, from 1 on. -/
def HpL (l : List (Option Ob)) : Hp := fun k => if k = 0 then none else (l[k - 1]?).join
def HpS (l : List Ob) : Hp := fun k => if k = 0 then none else l[k - 1]?

mutual
def renA (f : Nat → Nat) : AV → AV
  | .sl o n => .sl (f o) n
  | .pt o i j => .pt (f o) i j
  | .ag cs => .ag (renL f cs)
  | .tu cs => .tu (renL f cs)
  | .c x => .c x
  | .bw x => .bw x
  | .nul => .nul
  | .any => .any
def renL (f : Nat → Nat) : List AV → List AV
  | [] => []
  | x :: r => renA f x :: renL f r
end
theorem renL_map (f : Nat → Nat) (l : List AV) : renL f l = l.map (renA f) := by
  induction l with
  | nil => rfl
  | cons x r ih => rw [renL, ih]; rfl
def renO (f : Nat → Nat) : Ob → Ob
  | .box ty cs => .box ty (renL f cs)
  | .rw ty sz es => .rw ty sz es

/-- A cell without shared memory below it. -/
inductive Own : CV → Prop
  | v (x) : Own (.v x)
  | row (es) : (∀ e ∈ es, ∀ c ∈ e, Own c) → Own (.row true es)
/-- What a call may hand back: references to its m objects; no shared memory, if bor is true. -/
inductive Rs (bor : Bool) (m : Nat) : AV → Prop
  | v (x) : Rs bor m (.c (.v x))
  | c (x) : bor = false → Rs bor m (.c x)
  | nul : Rs bor m .nul
  | any : Rs bor m .any
  | sl (o n) : 1 ≤ o → o ≤ m → Rs bor m (.sl o n)
  | pt (o i j) : 1 ≤ o → o ≤ m → Rs bor m (.pt o i j)
  | ag (cs) : (∀ c ∈ cs, Rs bor m c) → Rs bor m (.ag cs)
  | tu (cs) : (∀ c ∈ cs, Rs bor m c) → Rs bor m (.tu cs)
def RsOb (bor : Bool) (m : Nat) : Ob → Prop
  | .box _ cs => ∀ c ∈ cs, Rs bor m c
  | .rw _ _ es => bor = false ∨ ∀ e ∈ es, ∀ c ∈ e, Own c

def callable (P : Program) (f : Nat) : Bool := match P.funcs[f]? with
  | some fn => fn.body.isSome && !(fn.name == "runtime.NumGoroutine")
  | none => false

/-- A contract: of objects that are handed over (and may be changed) and arguments, to what comes back. -/
def CallOk (P : Program) (f : Nat) (Hin : List Ob) (args : List AV) (Post : AV → List (Option Ob) → Prop) : Prop :=
  callable P f = true ∧ ∀ (w : World) (E : Env) (vals : Array Value), (∀ k ob, HpS Hin k = some ob → LiveOb w E (HpS Hin) k ob) → (∀ b ℓ, E.loc b = some ℓ → b < w.heap.size) →
    vals.size = args.length → (∀ (i : Nat) x u, args[i]? = some x → vals[i]? = some u → RdV w E (HpS Hin) x u) →
    Calls P f vals w fun e w' => ∃ u r out E', e = .returned u ∧ Post r out ∧ RdV w' E' (HpL out) r u ∧ (∀ k ob, HpL out k = some ob → LiveOb w' E' (HpL out) k ob) ∧ Rs false out.length r ∧ (∀ ob, some ob ∈ out → RsOb false out.length ob) ∧ (∀ k x, HpS Hin k = some x → HpL out k = none ∨ (E'.rho k = E.rho k ∧ ∃ y, HpL out k = some y ∧ x.like y)) ∧
      Evo (Mut E) w w' ∧ (∀ b, b < w.heap.size → ¬ Mut E b → E'.loc b = E.loc b) ∧ (∀ b ℓ, E'.loc b = some ℓ → b < w'.heap.size)

/-- How an argument is seen by the callee: what is handed over by its number, all else only read. -/
inductive View (bor : Bool) (H : Hp) (ps : List Nat) : AV → AV → Prop
  | c (x x') : Sim x x' → View bor H ps (.c x) (.c x')
  | same (x) : View bor H ps (.c x) (.c x)
  | bw (x x') : bor = true → ps = [] → Sim x x' → View bor H ps (.bw x) (.c x')
  | nul : View bor H ps .nul .nul
  | nulR (k) : View bor H ps .nul (.c (.row k []))
  | any (x) : View bor H ps x .any
  | slP (o n k) : ps[k]? = some o → View bor H ps (.sl o n) (.sl (k + 1) n)
  | slB (o n ty sz es x') : bor = true → o ∉ ps → H o = some (.rw ty sz es) → n = es.length → Sim (.row true es) x' → View bor H ps (.sl o n) (.c x')
  | ptP (o i j k) : ps[k]? = some o → View bor H ps (.pt o i j) (.pt (k + 1) i j)
  | ptB (o j ty cs cs') : bor = true → o ∉ ps → H o = some (.box ty cs) → cs.length = cs'.length → (∀ (i : Nat) c c', cs[i]? = some c → cs'[i]? = some c' → View bor H ps c (.c c')) → View bor H ps (.pt o 0 j) (.c (.ptr cs' j))
  | ptE (o i j ty sz es e e') : bor = true → o ∉ ps → H o = some (.rw ty sz es) → es[i]? = some e → Sim (.ptr e j) (.ptr e' j) → View bor H ps (.pt o i j) (.c (.ptr e' j))
  | ag (cs cs') : cs.length = cs'.length → (∀ (i : Nat) c c', cs[i]? = some c → cs'[i]? = some c' → View bor H ps c c') → View bor H ps (.ag cs) (.ag cs')
/-- How an object that is handed over is seen. -/
def ViewO (bor : Bool) (H : Hp) (ps : List Nat) : Ob → Ob → Prop
  | .box ty cs, .box ty' cs' => ty = ty' ∧ cs.length = cs'.length ∧ ∀ (i : Nat) c c', cs[i]? = some c → cs'[i]? = some c' → View bor H ps c c'
  | .rw ty sz es, .rw ty' sz' es' => ty = ty' ∧ sz = sz' ∧ es = es'
  | _, _ => False

def Env.call (E : Env) (bor : Bool) (ps : List Nat) : Env :=
  ⟨fun k => if k = 0 then none else (ps[k - 1]?).bind E.rho, fun b => (E.loc b).bind fun ℓ => match ps.idxOf? ℓ.1 with
    | some k => some (k + 1, ℓ.2)
    | none => if bor then none else some (0, (ℓ.1, 0) :: ℓ.2)⟩

theorem idxOf_of_get {ps : List Nat} (hn : ps.Nodup) {k o : Nat} (h : ps[k]? = some o) : ps.idxOf? o = some k := by
  obtain ⟨hk, rfl⟩ := List.getElem?_eq_some_iff.1 h
  rw [List.idxOf?_eq_some_iff]
  refine ⟨hk, rfl, fun j hj => ?_⟩
  have h1 := List.pairwise_iff_getElem.1 hn j k (by omega) hk hj
  simpa using h1
theorem idxOf_none {ps : List Nat} {o : Nat} (h : o ∉ ps) : ps.idxOf? o = none := List.idxOf?_eq_none_iff.2 h
theorem get_of_idxOf {ps : List Nat} {k o : Nat} (h : ps.idxOf? o = some k) : ps[k]? = some o := by
  rw [List.idxOf?_eq_some_iff] at h
  obtain ⟨hk, h1, _⟩ := h
  rw [List.getElem?_eq_getElem hk, h1]

section
variable {P : Program} {nt : Nat} {I : Ini} {U : Nat → Prop} {s : ASt} {E : Env} {a : Act} {w : World} {bor : Bool} {ps : List Nat}

theorem call_t0 {b : Nat} (h : E.loc b = none) : (E.call bor ps).loc b = none := by simp [Env.call, h]
theorem call_bor {b o : Nat} {p : List (Nat × Nat)} (hb : bor = true) (ho : o ∉ ps) (h : E.loc b = some (o, p)) : (E.call bor ps).loc b = none := by simp [Env.call, h, idxOf_none ho, hb]
theorem call_pass (hn : ps.Nodup) {b o k : Nat} {p : List (Nat × Nat)} (ho : ps[k]? = some o) (h : E.loc b = some (o, p)) : (E.call bor ps).loc b = some (k + 1, p) := by simp [Env.call, h, idxOf_of_get hn ho]
theorem call_rho {o k : Nat} (ho : ps[k]? = some o) : (E.call bor ps).rho (k + 1) = E.rho o := by simp [Env.call, ho]

theorem View.ok (hR : RelE nt I U s E a w) (hn : ps.Nodup) {Hin : List Ob} (hin : ∀ (k o : Nat), ps[k]? = some o → ∃ ob ob', s.H o = some ob ∧ Hin[k]? = some ob' ∧ ViewO bor s.H ps ob ob') {x x' : AV} (hv : View bor s.H ps x x') :
    ∀ {u : Value}, RdV w E s.H x u → RdV w (E.call bor ps) (HpS Hin) x' u := by
  have hT0 : ∀ {x : CV} {u : Value}, RdR w E.T0 x u → RdR w (E.call bor ps).T0 x u := fun h => h.mono (fun b _ hb => ⟨rfl, call_t0 hb⟩)
  induction hv with
  | c x x' hs => intro u h; cases h with | c _ _ h => exact .c _ _ ((hT0 h).sim hs)
  | same x => intro u h; cases h with | c _ _ h => exact .c _ _ (hT0 h)
  | bw x x' hb hp hs =>
    intro u h
    cases h with
    | bw _ _ h =>
      refine .c _ _ (RdR.sim (h.mono (fun b _ hT => ⟨rfl, ?_⟩)) hs)
      subst hp hb
      cases hl : E.loc b with
      | none => exact call_t0 hl
      | some ℓ => exact call_bor rfl (by simp) hl
  | nul => intro u h; cases h; exact .nul
  | nulR k => intro u h; cases h; exact .c _ _ (.nil ..)
  | any x => intro u h; exact .any _
  | slP o n k hk =>
    intro u h
    obtain ⟨ob, ob', h1, h2, h3⟩ := hin k o hk
    cases h with
    | slX _ _ _ h => rw [h1] at h; cases h
    | sl _ _ ty sz es b cap h hr =>
      rw [h1] at h
      cases h
      cases ob' with
      | box => exact h3.elim
      | rw ty' sz' es' => exact .sl (k + 1) n ty' sz' es' b cap (by simp [HpS, h2]) ((call_rho hk).trans hr)
    | slN _ ty sz h hr =>
      rw [h1] at h
      cases h
      cases ob' with
      | box => exact h3.elim
      | rw ty' sz' es' =>
        obtain ⟨rfl, rfl, rfl⟩ := h3
        exact .slN (k + 1) ty sz (by simp [HpS, h2]) ((call_rho hk).trans hr)
  | slB o n ty sz es x' hb ho hH hn' hs =>
    intro u h
    cases h with
    | slX _ _ _ h => rw [hH] at h; cases h
    | sl _ _ ty' sz' es' b cap h hr =>
      rw [hH] at h
      cases h
      rcases hR.live o _ hH with ⟨h1, _⟩ | ⟨b', cap', arr, us, h1, h2, h3, h4, h5, h6, h7, h8, h9⟩
      · rw [h1] at hr; cases hr
      · rw [h1] at hr
        cases hr
        subst hn'
        refine .c _ _ (RdR.sim (RdR.row true b 0 sz cap es arr ty (0, 0) us (call_bor hb ho h2) h3 h7 (Nat.le_trans h5 h6) h5 (fun i j hi hj => by rw [Nat.zero_add]; exact h8 i j hi hj) (fun i j e c he hc => ?_)) hs)
        exact (h9 i j e c he hc).toR (fun b' hb' => call_t0 hb') (fun b' q hq => call_bor hb ho hq)
    | slN _ ty' sz' h hr =>
      rw [hH] at h
      cases h
      exact .c _ _ (RdR.sim (.nil true none 0) hs)
  | ptP o i j k hk =>
    intro u h
    obtain ⟨ob, ob', h1, h2, h3⟩ := hin k o hk
    cases h with
    | ptX _ _ _ _ h => rw [h1] at h; cases h
    | pt _ _ _ ob2 b cap h hr =>
      rw [h1] at h
      cases h
      have : ob.sz = ob'.sz := by
        cases ob <;> cases ob' <;> first | rfl | exact h3.elim | exact h3.2.1
      rw [this]
      exact .pt (k + 1) i j ob' b cap (by simp [HpS, h2]) ((call_rho hk).trans hr)
  | ptB o j ty cs cs' hb ho hH hl hcc ih =>
    intro u h
    obtain ⟨b, arr, us, h1, h2, h3, h4, h5, h6⟩ := hR.live o _ hH
    cases h with
    | ptX _ _ _ _ h => rw [hH] at h; cases h
    | pt _ _ _ ob2 b' cap h hr =>
      rw [hH] at h
      cases h
      rw [h1] at hr
      cases hr
      simp only [Ob.sz, Nat.zero_mul, Nat.zero_add]
      have key := RdR.ptr (w := w) (T := (E.call bor ps).T0) b 0 cs' j arr ty (0, 0) us (call_bor hb ho h2) h3 (fun i hi => by rw [Nat.zero_add]; exact h5 i (hl ▸ hi)) (fun i c' hc' => by
        have hil := (List.getElem?_eq_some_iff.1 hc').1
        have hie := List.getElem?_eq_getElem (hl ▸ hil)
        have := ih i _ c' hie hc' (h6 i _ hie)
        cases this with
        | c _ _ h => exact h)
      rw [Nat.zero_add] at key
      exact .c _ _ key
  | ptE o i j ty sz es e e' hb ho hH he hs =>
    intro u h
    cases h with
    | ptX _ _ _ _ h => rw [hH] at h; cases h
    | pt _ _ _ ob2 b cap h hr =>
      rw [hH] at h
      cases h
      rcases hR.live o _ hH with ⟨h1, _⟩ | ⟨b', cap', arr, us, h1, h2, h3, h4, h5, h6, h7, h8, h9⟩
      · rw [h1] at hr; cases hr
      · rw [h1] at hr
        cases hr
        have hil := (List.getElem?_eq_some_iff.1 he).1
        have hel := h7 e (List.mem_of_getElem? he)
        exact .c _ _ (RdR.sim (RdR.ptr b (i * sz) e j arr ty (0, 0) (us i) (call_bor hb ho h2) h3 (fun j hj => h8 i j hil (hel ▸ hj)) (fun j c hc => (h9 i j e c he hc).toR (fun b' hb' => call_t0 hb') (fun b' q hq => call_bor hb ho hq))) hs)
  | ag cs cs' hl hcc ih =>
    intro u h
    cases h with
    | ag _ us hs hi =>
      refine .ag _ _ (hs.trans hl) (fun i c' y hc' hy => ?_)
      have hil := (List.getElem?_eq_some_iff.1 hc').1
      have hie := List.getElem?_eq_getElem (hl ▸ hil)
      exact ih i _ c' hie hc' (hi i _ y hie hy)

theorem ViewO.live (hR : RelE nt I U s E a w) (hn : ps.Nodup) {Hin : List Ob} (hin : ∀ (k o : Nat), ps[k]? = some o → ∃ ob ob', s.H o = some ob ∧ Hin[k]? = some ob' ∧ ViewO bor s.H ps ob ob') (hl : Hin.length = ps.length) :
    ∀ k ob, HpS Hin k = some ob → LiveOb w (E.call bor ps) (HpS Hin) k ob := by
  intro k ob hk
  unfold HpS at hk
  split at hk
  · cases hk
  · rename_i hk0
    obtain ⟨k, rfl⟩ : ∃ m, k = m + 1 := ⟨k - 1, by omega⟩
    simp only [Nat.add_sub_cancel] at hk
    have hkl := (List.getElem?_eq_some_iff.1 hk).1
    have hp := List.getElem?_eq_getElem (l := ps) (hl ▸ hkl)
    obtain ⟨ob1, ob', h1, h2, h3⟩ := hin k _ hp
    rw [hk] at h2
    cases h2
    have h4 := hR.live _ _ h1
    cases ob1 with
    | box ty cs =>
      cases ob with
      | rw => exact h3.elim
      | box ty' cs' =>
        obtain ⟨rfl, hlc, hv⟩ := h3
        obtain ⟨b, arr, us, g1, g2, g3, g4, g5, g6⟩ := h4
        refine ⟨b, arr, us, (call_rho hp).trans g1, call_pass hn hp g2, g3, g4.trans hlc, fun j hj => g5 j (hlc ▸ hj), fun j c' hc' => ?_⟩
        have hil := (List.getElem?_eq_some_iff.1 hc').1
        have hie := List.getElem?_eq_getElem (hlc ▸ hil)
        exact (hv j _ c' hie hc').ok hR hn hin (g6 j _ hie)
    | rw ty sz es =>
      cases ob with
      | box => exact h3.elim
      | rw ty' sz' es' =>
        obtain ⟨rfl, rfl, rfl⟩ := h3
        rcases h4 with ⟨g1, g2⟩ | ⟨b, cap, arr, us, g1, g2, g3, g4, g5, g6, g7, g8, g9⟩
        · exact .inl ⟨(call_rho hp).trans g1, g2⟩
        · exact .inr ⟨b, cap, arr, us, (call_rho hp).trans g1, call_pass hn hp g2, g3, g4, g5, g6, g7, g8, fun i j e c he hc => (g9 i j e c he hc).relabel (k + 1, [(i, j)]) (fun b' _ hb' => ⟨rfl, call_t0 hb'⟩) (fun b' q _ hq => ⟨rfl, call_pass hn hp hq⟩)⟩
end

end Go.Proofs.YtnnmpdanfeejbaaGreat.Abs

/- The abstract machine: what stands behind a call by a contract. -/
namespace Go.Proofs.YtnnmpdanfeejbaaGreat.Abs
open Go Go.RowKit
set_option linter.unusedVariables false
set_option linter.unusedSimpArgs false

mutual
def killA : AV → AV
  | .bw _ => .any
  | .ag cs => .ag (killL cs)
  | .tu cs => .tu (killL cs)
  | .c x => .c x
  | .nul => .nul
  | .any => .any
  | .sl o n => .sl o n
  | .pt o i j => .pt o i j
def killL : List AV → List AV
  | [] => []
  | x :: r => killA x :: killL r
end
theorem killL_map (l : List AV) : killL l = l.map killA := by
  induction l with
  | nil => rfl
  | cons x r ih => rw [killL, ih]; rfl
def killO : Ob → Ob
  | .box ty cs => .box ty (killL cs)
  | .rw ty sz es => .rw ty sz es
def klA (ps : List Nat) (x : AV) : AV := if ps.isEmpty then x else killA x
def kl (ps : List Nat) (t : Nat → AV) : Nat → AV := if ps.isEmpty then t else fun k => killA (t k)
def klH (ps : List Nat) (H : Hp) : Hp := if ps.isEmpty then H else fun k => (H k).map killO
theorem kl_at (ps : List Nat) (t : Nat → AV) (k : Nat) : kl ps t k = klA ps (t k) := by unfold kl klA; split <;> rfl

/-- The caller's number of an object of the contract's. -/
def rn (ps : List Nat) (id : Nat) (k : Nat) : Nat := if k = 0 then 0 else (ps[k - 1]?).getD (id + (k - 1 - ps.length))
def callIds (ps : List Nat) (id m : Nat) : List Nat := (List.range m).map fun k => rn ps id (k + 1)
def callObjs (ps : List Nat) (id : Nat) : Nat → List (Option Ob) → List (Nat × Option Ob)
  | _, [] => []
  | k, x :: r => (rn ps id (k + 1), x.map (renO (rn ps id))) :: callObjs ps id (k + 1) r

theorem rn_pass {ps : List Nat} {id k o : Nat} (h : ps[k]? = some o) : rn ps id (k + 1) = o := by simp [rn, h]
theorem rn_new {ps : List Nat} {id k : Nat} (h : ps.length ≤ k) : rn ps id (k + 1) = id + (k - ps.length) := by
  have : ps[k]? = none := List.getElem?_eq_none h
  simp [rn, this]

theorem callObjs_mem {ps : List Nat} {id : Nat} : ∀ {l : List (Option Ob)} {k : Nat} {x : Nat × Option Ob}, x ∈ callObjs ps id k l → ∃ j y, l[j]? = some y ∧ x = (rn ps id (k + j + 1), y.map (renO (rn ps id)))
  | [], k, x, h => by simp [callObjs] at h
  | y :: r, k, x, h => by
    unfold callObjs at h
    rcases List.mem_cons.1 h with rfl | h
    · exact ⟨0, y, rfl, rfl⟩
    · obtain ⟨j, z, hj, hx⟩ := callObjs_mem h
      exact ⟨j + 1, z, hj, by rw [hx]; congr 2; omega⟩
theorem callObjs_in {ps : List Nat} {id : Nat} : ∀ {l : List (Option Ob)} {k j : Nat} {y : Option Ob}, l[j]? = some y → (rn ps id (k + j + 1), y.map (renO (rn ps id))) ∈ callObjs ps id k l
  | [], k, j, y, h => by simp at h
  | z :: r, k, 0, y, h => by
    simp at h
    subst h
    exact List.mem_cons_self ..
  | z :: r, k, j + 1, y, h => by
    have := callObjs_in (ps := ps) (id := id) (k := k + 1) (l := r) (j := j) (y := y) (by simpa using h)
    rw [show k + 1 + j + 1 = k + (j + 1) + 1 by omega] at this
    exact List.mem_cons_of_mem _ this
theorem updL_uniq {H : Hp} : ∀ {l : List (Nat × Option Ob)} {x : Nat × Option Ob}, x ∈ l → (∀ y ∈ l, y.1 = x.1 → y = x) → updL H l x.1 = x.2
  | [], x, h, _ => by simp at h
  | z :: r, x, h, hu => by
    by_cases hr : x ∈ r
    · exact updL_uniq (H := upd H z.1 z.2) hr (fun y hy => hu y (List.mem_cons_of_mem _ hy))
    · have hz : x = z := (List.mem_cons.1 h).resolve_right hr
      subst hz
      show updL (upd H x.1 x.2) r x.1 = x.2
      rw [updL_out (fun y hy e => hr (hu y (List.mem_cons_of_mem _ hy) e ▸ hy)), upd_same]

theorem RdV.kill {U : Nat → Prop} {w w' : World} {E E' : Env} {H H' : Hp} (t0 : ∀ b, b < w.heap.size → E.loc b = none → w'.heap[b]? = w.heap[b]? ∧ E'.loc b = none)
    (ob : ∀ o, U o → H' o = none ∨ (E'.rho o = E.rho o ∧ ∃ x y, H o = some x ∧ H' o = some y ∧ x.like y)) {v : AV} {u : Value} (h : RdV w E H v u) (hm : Mn U v) : RdV w' E' H' (killA v) u := by
  induction h with
  | c x u h => exact .c x u (h.mono t0)
  | bw x u h => exact .any u
  | nul => exact .nul
  | any u => exact .any u
  | slX o n u h =>
    obtain _ | _ | _ | _ | ⟨_, _, hu⟩ := hm
    rcases ob o hu with h' | ⟨_, x, _, hx, _⟩
    · exact .slX o n u h'
    · rw [h] at hx; cases hx
  | sl o n ty sz es b cap h hr =>
    obtain _ | _ | _ | _ | ⟨_, _, hu⟩ := hm
    rcases ob o hu with h' | ⟨hr', x, y, hx, hy, hl⟩
    · exact .slX o n _ h'
    · rw [h] at hx
      cases hx
      cases y with
      | box => exact hl.elim
      | rw ty' sz' es' => exact .sl o n ty' sz' es' b cap hy (hr'.trans hr)
  | slN o ty sz h hr =>
    obtain _ | _ | _ | _ | ⟨_, _, hu⟩ := hm
    rcases ob o hu with h' | ⟨hr', x, y, hx, hy, hl⟩
    · exact .slX o 0 _ h'
    · rw [h] at hx
      cases hx
      cases y with
      | box => exact hl.elim
      | rw ty' sz' es' =>
        have := hl.2.1 rfl
        subst this
        exact .slN o ty' sz' hy (hr'.trans hr)
  | ptX o i j u h =>
    obtain _ | _ | _ | _ | _ | ⟨_, _, _, hu⟩ := hm
    rcases ob o hu with h' | ⟨_, x, _, hx, _⟩
    · exact .ptX o i j u h'
    · rw [h] at hx; cases hx
  | pt o i j obb b cap h hr =>
    obtain _ | _ | _ | _ | _ | ⟨_, _, _, hu⟩ := hm
    rcases ob o hu with h' | ⟨hr', x, y, hx, hy, hl⟩
    · exact .ptX o i j _ h'
    · rw [h] at hx
      cases hx
      have : obb.sz = y.sz := by cases obb <;> cases y <;> simp_all [Ob.like, Ob.sz]
      rw [this]
      exact .pt o i j y b cap hy (hr'.trans hr)
  | ag cs us hs _ ih =>
    cases hm with
    | ag _ hm =>
      show RdV _ _ _ (.ag (killL cs)) _
      rw [killL_map]
      refine .ag _ us (by simpa using hs) (fun i c u hc hu => ?_)
      rw [List.getElem?_map, Option.map_eq_some_iff] at hc
      obtain ⟨c', hc', rfl⟩ := hc
      exact ih i c' u hc' hu (hm c' (List.mem_of_getElem? hc'))
  | tu cs us hs _ ih =>
    cases hm with
    | tu _ hm =>
      show RdV _ _ _ (.tu (killL cs)) _
      rw [killL_map]
      refine .tu _ us (by simpa using hs) (fun i c u hc hu => ?_)
      rw [List.getElem?_map, Option.map_eq_some_iff] at hc
      obtain ⟨c', hc', rfl⟩ := hc
      exact ih i c' u hc' hu (hm c' (List.mem_of_getElem? hc'))

theorem Mn.kill {U : Nat → Prop} {v : AV} (h : Mn U v) : Mn U (killA v) := by
  induction h with
  | c x => exact .c x
  | bw x => exact .any
  | nul => exact .nul
  | any => exact .any
  | sl o n h => exact .sl o n h
  | pt o i j h => exact .pt o i j h
  | ag cs _ ih =>
    show Mn U (.ag (killL cs))
    rw [killL_map]
    refine .ag _ (fun c hc => ?_)
    obtain ⟨c', hc', rfl⟩ := List.mem_map.1 hc
    exact ih c' hc'
  | tu cs _ ih =>
    show Mn U (.tu (killL cs))
    rw [killL_map]
    refine .tu _ (fun c hc => ?_)
    obtain ⟨c', hc', rfl⟩ := List.mem_map.1 hc
    exact ih c' hc'

/-- The contract's values, by the caller's numbers. -/
theorem RdV.ren {w : World} {E E' : Env} {H H' : Hp} {bor : Bool} {m : Nat} {f : Nat → Nat} (t0 : bor = false → ∀ b, b < w.heap.size → E.loc b = none → E'.loc b = none)
    (ob : ∀ k, 1 ≤ k → k ≤ m → H k = none ∧ H' (f k) = none ∨ (E'.rho (f k) = E.rho k ∧ ∃ x y, H k = some x ∧ H' (f k) = some y ∧ x.like y)) {v : AV} {u : Value} (h : RdV w E H v u) (hm : Rs bor m v) : RdV w E' H' (renA f v) u := by
  induction h with
  | c x u h =>
    cases hm with
    | v x => cases h with | v _ h => exact .c _ _ (.v _ h)
    | c _ hb => exact .c _ _ (h.mono (fun b hb' h0 => ⟨rfl, t0 hb b hb' h0⟩))
  | bw x u h => cases hm
  | nul => exact .nul
  | any u => exact .any u
  | slX o n u h =>
    cases hm with
    | sl _ _ h1 h2 =>
      rcases ob o h1 h2 with h' | ⟨_, x, _, hx, _⟩
      · exact .slX _ n u h'.2
      · rw [h] at hx; cases hx
  | sl o n ty sz es b cap h hr =>
    cases hm with
    | sl _ _ h1 h2 =>
      rcases ob o h1 h2 with h' | ⟨hr', x, y, hx, hy, hl⟩
      · exact .slX _ n _ h'.2
      · rw [h] at hx
        cases hx
        cases y with
        | box => exact hl.elim
        | rw ty' sz' es' => exact .sl _ n ty' sz' es' b cap hy (hr'.trans hr)
  | slN o ty sz h hr =>
    cases hm with
    | sl _ _ h1 h2 =>
      rcases ob o h1 h2 with h' | ⟨hr', x, y, hx, hy, hl⟩
      · exact .slX _ 0 _ h'.2
      · rw [h] at hx
        cases hx
        cases y with
        | box => exact hl.elim
        | rw ty' sz' es' =>
          have := hl.2.1 rfl
          subst this
          exact .slN _ ty' sz' hy (hr'.trans hr)
  | ptX o i j u h =>
    cases hm with
    | pt _ _ _ h1 h2 =>
      rcases ob o h1 h2 with h' | ⟨_, x, _, hx, _⟩
      · exact .ptX _ i j u h'.2
      · rw [h] at hx; cases hx
  | pt o i j obb b cap h hr =>
    cases hm with
    | pt _ _ _ h1 h2 =>
      rcases ob o h1 h2 with h' | ⟨hr', x, y, hx, hy, hl⟩
      · exact .ptX _ i j _ h'.2
      · rw [h] at hx
        cases hx
        have : obb.sz = y.sz := by cases obb <;> cases y <;> simp_all [Ob.like, Ob.sz]
        rw [this]
        exact .pt _ i j y b cap hy (hr'.trans hr)
  | ag cs us hs _ ih =>
    cases hm with
    | ag _ hm =>
      show RdV _ _ _ (.ag (renL f cs)) _
      rw [renL_map]
      refine .ag _ us (by simpa using hs) (fun i c u hc hu => ?_)
      rw [List.getElem?_map, Option.map_eq_some_iff] at hc
      obtain ⟨c', hc', rfl⟩ := hc
      exact ih i c' u hc' hu (hm c' (List.mem_of_getElem? hc'))
  | tu cs us hs _ ih =>
    cases hm with
    | tu _ hm =>
      show RdV _ _ _ (.tu (renL f cs)) _
      rw [renL_map]
      refine .tu _ us (by simpa using hs) (fun i c u hc hu => ?_)
      rw [List.getElem?_map, Option.map_eq_some_iff] at hc
      obtain ⟨c', hc', rfl⟩ := hc
      exact ih i c' u hc' hu (hm c' (List.mem_of_getElem? hc'))
theorem Rs.mn {bor : Bool} {m : Nat} {U : Nat → Prop} {f : Nat → Nat} (hf : ∀ k, 1 ≤ k → k ≤ m → U (f k)) {v : AV} (h : Rs bor m v) : Mn U (renA f v) := by
  induction h with
  | v x => exact .c _
  | c x _ => exact .c x
  | nul => exact .nul
  | any => exact .any
  | sl o n h1 h2 => exact .sl _ n (hf o h1 h2)
  | pt o i j h1 h2 => exact .pt _ i j (hf o h1 h2)
  | ag cs _ ih =>
    show Mn U (.ag (renL f cs))
    rw [renL_map]
    refine .ag _ (fun c hc => ?_)
    obtain ⟨c', hc', rfl⟩ := List.mem_map.1 hc
    exact ih c' hc'
  | tu cs _ ih =>
    show Mn U (.tu (renL f cs))
    rw [renL_map]
    refine .tu _ (fun c hc => ?_)
    obtain ⟨c', hc', rfl⟩ := List.mem_map.1 hc
    exact ih c' hc'

/-- Owned cells move whatever becomes of the memory that is shared. -/
theorem RdC.own_relabel {w : World} {loc loc' : Nat → Option Loc} {ℓ : Loc} {c : CV} {u : Value} (h : RdC w loc ℓ c u) : Own c →
    ∀ ℓ' : Loc, (∀ b q, b < w.heap.size → loc b = some (ℓ.1, ℓ.2 ++ q) → loc' b = some (ℓ'.1, ℓ'.2 ++ q)) → RdC w loc' ℓ' c u := by
  induction h with
  | im ℓ c u h hi =>
    intro ho ℓ' h1
    cases ho with
    | v x => cases h with | v _ h => exact .im _ _ _ (.v _ h) rfl
    | row es _ => simp [CV.im] at hi
  | nil ℓ a => exact fun _ ℓ' _ => .nil ℓ' a
  | own ℓ b sz cap es arr ty us hl hb hz hc hm hs hu _ ih =>
    intro ho ℓ' h1
    cases ho with
    | row _ hown =>
      have hh := h1 b [] (RdR.lt hb) (by rw [hl]; simp)
      refine .own ℓ' b sz cap es arr ty us (by simpa using hh) hb hz hc hm hs hu (fun i j e c he hc' => ih i j e c he hc' (hown e (List.mem_of_getElem? he) c (List.mem_of_getElem? hc')) _ (fun b' q hb' hq => ?_))
      have := h1 b' ((i, j) :: q) hb' (by rw [hq]; simp)
      simpa using this
end Go.Proofs.YtnnmpdanfeejbaaGreat.Abs

/- The abstract machine: a call by a contract. -/
namespace Go.Proofs.YtnnmpdanfeejbaaGreat.Abs
open Go Go.RowKit
set_option linter.unusedVariables false
set_option linter.unusedSimpArgs false

def after (nt : Nat) (s : ASt) (ps : List Nat) (id : Nat) (d : Option Nat) (r : AV) (out : List (Option Ob)) : ASt :=
  { t := putT nt (kl ps s.t) d (renA (rn ps id) r), H := updL (klH ps s.H) (callObjs ps id 0 out), c := s.c }

open Classical in
noncomputable def Env.back (E : Env) (w : World) (bor : Bool) (ps : List Nat) (id m : Nat) (E' : Env) : Env :=
  ⟨fun o => match (List.range m).find? (fun k => rn ps id (k + 1) == o) with
    | some k => E'.rho (k + 1)
    | none => E.rho o, fun b => if b < w.heap.size ∧ ¬ Mut (E.call bor ps) b then E.loc b else (E'.loc b).map fun ℓ => (rn ps id ℓ.1, ℓ.2)⟩

section
variable {P : Program} {nt : Nat} {I : Ini} {U : Nat → Prop} {s : ASt} {E : Env} {a : Act} {w : World} {bor : Bool} {ps : List Nat}

theorem mut_call (hn : ps.Nodup) {b : Nat} : Mut (E.call bor ps) b ↔ ∃ o p, E.loc b = some (o, p) ∧ o ∈ ps := by
  constructor
  · rintro ⟨k, p, h, hk⟩
    simp only [Env.call, Option.bind_eq_some_iff] at h
    obtain ⟨⟨o, q⟩, h1, h2⟩ := h
    refine ⟨o, q, h1, ?_⟩
    by_cases ho : o ∈ ps
    · exact ho
    · simp only [idxOf_none ho] at h2
      split at h2
      · cases h2
      · cases h2
        exact absurd rfl hk
  · rintro ⟨o, p, h, ho⟩
    obtain ⟨k, hk⟩ := List.getElem?_of_mem ho
    exact ⟨k + 1, p, call_pass hn hk h, by omega⟩

theorem klH_some {H : Hp} {o : Nat} {ob : Ob} (h : klH ps H o = some ob) : ∃ x, H o = some x ∧ (ps.isEmpty = true ∧ ob = x ∨ ps.isEmpty = false ∧ ob = killO x) := by
  unfold klH at h
  split at h
  · rename_i he; exact ⟨ob, h, .inl ⟨he, rfl⟩⟩
  · rename_i he
    simp only [Option.map_eq_some_iff] at h
    obtain ⟨x, hx, rfl⟩ := h
    exact ⟨x, hx, .inr ⟨by simpa using he, rfl⟩⟩
theorem killO_like (x : Ob) : x.like (killO x) := by cases x <;> simp [killO, Ob.like]
theorem renO_like (f : Nat → Nat) (x : Ob) : x.like (renO f x) := by cases x <;> simp [renO, Ob.like]
theorem ViewO.like {H : Hp} {x y : Ob} (h : ViewO bor H ps x y) : x.like y := by
  cases x <;> cases y <;> first | exact h.elim | trivial | (obtain ⟨rfl, rfl, rfl⟩ := h; exact Ob.like.refl _)

theorem call_after (hR : RelE nt I U s E a w) (hn : ps.Nodup) {Hin : List Ob} (hin : ∀ (k o : Nat), ps[k]? = some o → ∃ ob ob', s.H o = some ob ∧ Hin[k]? = some ob' ∧ ViewO bor s.H ps ob ob') (hl : Hin.length = ps.length)
    {id : Nat} (hid : ∀ j, j < 8 → ¬ U (id + j)) {w' : World} {u : Value} {r : AV} {out : List (Option Ob)} {E' : Env} (hm1 : ps.length ≤ out.length) (hm2 : out.length ≤ ps.length + 8)
    (hr : RdV w' E' (HpL out) r u) (hlive : ∀ k ob, HpL out k = some ob → LiveOb w' E' (HpL out) k ob) (hrs : Rs bor out.length r) (hros : ∀ ob, some ob ∈ out → RsOb bor out.length ob)
    (hpas : ∀ k x, HpS Hin k = some x → HpL out k = none ∨ (E'.rho k = (E.call bor ps).rho k ∧ ∃ y, HpL out k = some y ∧ x.like y)) (hevo : Evo (Mut (E.call bor ps)) w w')
    (hold : ∀ b, b < w.heap.size → ¬ Mut (E.call bor ps) b → E'.loc b = (E.call bor ps).loc b) (hlt : ∀ b ℓ, E'.loc b = some ℓ → b < w'.heap.size) (d : Option Nat) :
    RelE nt I (fun o => U o ∨ ∃ j, j < 8 ∧ o = id + j) (after nt s ps id d r out) (E.back w bor ps id out.length E') (a.put d u) w' := by
  have hpl : ∀ k, k < ps.length → ∃ o, ps[k]? = some o ∧ U o ∧ o ≠ 0 ∧ rn ps id (k + 1) = o := fun k hk => by
    have hp := List.getElem?_eq_getElem hk
    obtain ⟨ob, ob', h1, h2, h3⟩ := hin k _ hp
    refine ⟨ps[k], hp, (hR.mnH _ _ h1).1, fun e => ?_, rn_pass hp⟩
    rw [e, hR.h0] at h1
    cases h1
  have hnew : ∀ k, ps.length ≤ k → k < out.length → rn ps id (k + 1) = id + (k - ps.length) ∧ ¬ U (rn ps id (k + 1)) ∧ k - ps.length < 8 := fun k h1 h2 => by
    have := rn_new (id := id) h1
    refine ⟨this, ?_, by omega⟩
    rw [this]
    exact hid _ (by omega)
  have hinj : ∀ k j, k < out.length → j < out.length → rn ps id (k + 1) = rn ps id (j + 1) → k = j := fun k j hk hj e => by
    by_cases h1 : k < ps.length <;> by_cases h2 : j < ps.length
    · obtain ⟨o, a1, a2, a3, a4⟩ := hpl k h1
      obtain ⟨o', b1, b2, b3, b4⟩ := hpl j h2
      have : o = o' := by rw [← a4, ← b4, e]
      subst this
      have e1 := idxOf_of_get hn a1
      have e2 := idxOf_of_get hn b1
      rw [e1] at e2
      exact Option.some.inj e2
    · obtain ⟨o, a1, a2, a3, a4⟩ := hpl k h1
      obtain ⟨b1, b2, b3⟩ := hnew j (by omega) hj
      exact absurd (by rw [← e, a4]; exact a2) b2
    · obtain ⟨o, a1, a2, a3, a4⟩ := hpl j h2
      obtain ⟨b1, b2, b3⟩ := hnew k (by omega) hk
      exact absurd (by rw [e, a4]; exact a2) b2
    · obtain ⟨b1, b2, b3⟩ := hnew k (by omega) hk
      obtain ⟨c1, c2, c3⟩ := hnew j (by omega) hj
      omega
  have hrho : ∀ k, k < out.length → (E.back w bor ps id out.length E').rho (rn ps id (k + 1)) = E'.rho (k + 1) := fun k hk => by
    have : (List.range out.length).find? (fun j => rn ps id (j + 1) == rn ps id (k + 1)) = some k := by
      rw [List.find?_range_eq_some]
      refine ⟨by simp, by simpa using hk, fun j hj => ?_⟩
      simp only [Bool.not_eq_true', beq_eq_false_iff_ne, ne_eq]
      intro e
      have := hinj j k (by omega) hk e
      omega
    simp only [Env.back, this]
  have hrho' : ∀ o, (∀ k, k < out.length → rn ps id (k + 1) ≠ o) → (E.back w bor ps id out.length E').rho o = E.rho o := fun o ho => by
    have : (List.range out.length).find? (fun j => rn ps id (j + 1) == o) = none := by
      rw [List.find?_eq_none]
      intro k hk
      simpa using ho k (List.mem_range.1 hk)
    simp only [Env.back, this]
  have hH : ∀ k y, out[k]? = some y → (after nt s ps id d r out).H (rn ps id (k + 1)) = y.map (renO (rn ps id)) := fun k y hk => by
    have h1 := callObjs_in (ps := ps) (id := id) (k := 0) hk
    rw [Nat.zero_add] at h1
    have := updL_uniq (H := klH ps s.H) h1 (fun z hz e => by
      obtain ⟨j, x, hj, rfl⟩ := callObjs_mem hz
      rw [Nat.zero_add] at e ⊢
      have hjk := hinj j k (List.getElem?_eq_some_iff.1 hj).1 (List.getElem?_eq_some_iff.1 hk).1 e
      subst hjk
      rw [hj] at hk
      cases hk
      rfl)
    exact this
  have hH' : ∀ o, (∀ k, k < out.length → rn ps id (k + 1) ≠ o) → (after nt s ps id d r out).H o = klH ps s.H o := fun o ho => by
    refine updL_out (fun z hz => ?_)
    obtain ⟨j, x, hj, rfl⟩ := callObjs_mem hz
    rw [Nat.zero_add]
    exact ho j (List.getElem?_eq_some_iff.1 hj).1
  have hlocO : ∀ b, b < w.heap.size → ¬ Mut (E.call bor ps) b → (E.back w bor ps id out.length E').loc b = E.loc b := fun b h1 h2 => if_pos ⟨h1, h2⟩
  have hlocN : ∀ b k p, E'.loc b = some (k + 1, p) → (E.back w bor ps id out.length E').loc b = some (rn ps id (k + 1), p) := fun b k p h => by
    have : ¬ (b < w.heap.size ∧ ¬ Mut (E.call bor ps) b) := by
      rintro ⟨h1, h2⟩
      refine h2 ⟨k + 1, p, ?_, by omega⟩
      rw [← hold b h1 h2, h]
    have h2 : (E.back w bor ps id out.length E').loc b = (E'.loc b).map (fun ℓ : Loc => (rn ps id ℓ.1, ℓ.2)) := if_neg this
    rw [h2, h]
    rfl
  have hloc0 : bor = false → ∀ b, b < w'.heap.size → E'.loc b = none → (E.back w bor ps id out.length E').loc b = none := fun hb b _ h => by
    by_cases hc : b < w.heap.size ∧ ¬ Mut (E.call bor ps) b
    · rw [hlocO b hc.1 hc.2]
      have := hold b hc.1 hc.2
      rw [h] at this
      cases hl : E.loc b with
      | none => rfl
      | some ℓ =>
        obtain ⟨o, p⟩ := ℓ
        exfalso
        simp only [Env.call, hl, Option.bind_some] at this
        split at this
        · cases this
        · rw [hb] at this; cases this
    · have h2 : (E.back w bor ps id out.length E').loc b = (E'.loc b).map (fun ℓ : Loc => (rn ps id ℓ.1, ℓ.2)) := if_neg hc
      rw [h2, h]
      rfl
  have hmz : ∀ {b}, E.loc b = none → ¬ Mut (E.call bor ps) b := fun h hm => by
    obtain ⟨o, p, h1, _⟩ := (mut_call hn).1 hm
    rw [h] at h1
    cases h1
  have t0 : ∀ b, b < w.heap.size → E.loc b = none → w'.heap[b]? = w.heap[b]? ∧ (E.back w bor ps id out.length E').loc b = none := fun b hb h => ⟨hevo.old hb (hmz h), by rw [hlocO b hb (hmz h)]; exact h⟩
  have town : ∀ o, o ∉ ps → ∀ b p, b < w.heap.size → E.loc b = some (o, p) → w'.heap[b]? = w.heap[b]? ∧ (E.back w bor ps id out.length E').loc b = some (o, p) := fun o ho b p hb h => by
    have : ¬ Mut (E.call bor ps) b := fun hm => by
      obtain ⟨o', p', h1, h2⟩ := (mut_call hn).1 hm
      rw [h] at h1
      cases h1
      exact ho h2
    exact ⟨hevo.old hb this, by rw [hlocO b hb this]; exact h⟩
  have hob : ∀ o, U o → (after nt s ps id d r out).H o = none ∨ ((E.back w bor ps id out.length E').rho o = E.rho o ∧ ∃ x y, s.H o = some x ∧ (after nt s ps id d r out).H o = some y ∧ x.like y) := fun o ho => by
    by_cases hx : ∃ k, k < out.length ∧ rn ps id (k + 1) = o
    · obtain ⟨k, hk, rfl⟩ := hx
      by_cases hkp : k < ps.length
      · obtain ⟨o', a1, a2, a3, a4⟩ := hpl k hkp
        obtain ⟨ob, ob', h1, h2, h3⟩ := hin k _ a1
        have hk' := List.getElem?_eq_getElem hk
        rw [hH k _ hk']
        have hq := hpas (k + 1) ob' (by simp [HpS, h2])
        have e1 : HpL out (k + 1) = out[k] := by simp [HpL, hk']
        rw [e1] at hq
        rcases hq with hq | ⟨hq1, y, hq2, hq3⟩
        · left; rw [hq]; rfl
        · right
          refine ⟨?_, ob, renO (rn ps id) y, by rw [a4]; exact h1, by rw [hq2]; rfl, (h3.like.trans hq3).trans (renO_like _ _)⟩
          rw [hrho k hk, hq1, call_rho a1, a4]
      · exact absurd ho (hnew k (by omega) hk).2.1
    · have hx' : ∀ k, k < out.length → rn ps id (k + 1) ≠ o := fun k hk e => hx ⟨k, hk, e⟩
      rw [hH' o hx', hrho' o hx']
      cases hh : klH ps s.H o with
      | none => exact .inl rfl
      | some ob =>
        obtain ⟨x, hx1, hx2⟩ := klH_some hh
        refine .inr ⟨rfl, x, ob, hx1, rfl, ?_⟩
        rcases hx2 with ⟨_, rfl⟩ | ⟨_, rfl⟩
        · exact Ob.like.refl _
        · exact killO_like _
  have hval : ∀ {x : AV} {u : Value}, RdV w E s.H x u → Mn U x → RdV w' (E.back w bor ps id out.length E') (after nt s ps id d r out).H (klA ps x) u := fun {x u} h hm => by
    unfold klA
    split
    · rename_i he
      have hps : ps = [] := List.isEmpty_iff.1 he
      refine h.keeps ⟨t0, fun b hb h1 => ?_, hob⟩ hm
      have : ¬ Mut (E.call bor ps) b := fun hm' => by
        obtain ⟨o, p, _, h2⟩ := (mut_call hn).1 hm'
        rw [hps] at h2
        simp at h2
      refine ⟨hevo.old hb this, fun o ho => ?_⟩
      rw [hlocO b hb this] at ho
      exact h1 o ho
    · exact h.kill t0 hob hm
  have hmk : ∀ {x : AV}, Mn U x → Mn (fun o => U o ∨ ∃ j, j < 8 ∧ o = id + j) (klA ps x) := fun hm => by
    unfold klA
    split
    · exact hm.mono fun _ h => .inl h
    · exact hm.kill.mono fun _ h => .inl h
  have hUrn : ∀ k, 1 ≤ k → k ≤ out.length → (fun o => U o ∨ ∃ j, j < 8 ∧ o = id + j) (rn ps id k) := fun k h1 h2 => by
    obtain ⟨k, rfl⟩ : ∃ m, k = m + 1 := ⟨k - 1, by omega⟩
    by_cases hkp : k < ps.length
    · obtain ⟨o, a1, a2, a3, a4⟩ := hpl k hkp
      rw [a4]
      exact .inl a2
    · obtain ⟨b1, b2, b3⟩ := hnew k (by omega) (by omega)
      exact .inr ⟨k - ps.length, b3, b1⟩
  have hobr : ∀ k, 1 ≤ k → k ≤ out.length → HpL out k = none ∧ (after nt s ps id d r out).H (rn ps id k) = none ∨ ((E.back w bor ps id out.length E').rho (rn ps id k) = E'.rho k ∧ ∃ x y, HpL out k = some x ∧ (after nt s ps id d r out).H (rn ps id k) = some y ∧ x.like y) := fun k h1 h2 => by
    obtain ⟨k, rfl⟩ : ∃ m, k = m + 1 := ⟨k - 1, by omega⟩
    have hk' := List.getElem?_eq_getElem (l := out) (i := k) (by omega)
    have e1 : HpL out (k + 1) = out[k] := by simp [HpL, hk']
    rw [e1, hH k _ hk', hrho k (by omega)]
    cases out[k] with
    | none => exact .inl ⟨rfl, rfl⟩
    | some y => exact .inr ⟨rfl, y, _, rfl, rfl, renO_like _ _⟩
  have hrr : RdV w' (E.back w bor ps id out.length E') (after nt s ps id d r out).H (renA (rn ps id) r) u := hr.ren hloc0 hobr hrs
  constructor
  · cases d <;> exact hR.defers
  · cases d <;> simp [Act.put, hR.size]
  · intro j x hx
    cases d with
    | none =>
      show RdV _ _ _ (kl ps s.t j) x
      rw [kl_at]
      exact hval (hR.slots j x hx) (hR.mnT j)
    | some d =>
      simp only [Act.put, Array.getElem?_setIfInBounds] at hx
      have hsz : a.tmps.size = nt := hR.size
      by_cases hd : d = j
      · subst hd
        by_cases hb : d < a.tmps.size
        · simp only [hb, if_true] at hx
          cases hx
          show RdV _ _ _ (putT nt (kl ps s.t) (some d) _ d) _
          simp only [putT, if_pos (hsz ▸ hb), upd_same]
          exact hrr
        · simp [hb] at hx
      · simp only [if_neg hd] at hx
        have hj : ∀ v, putT nt (kl ps s.t) (some d) v j = kl ps s.t j := fun v => by
          simp only [putT]
          split
          · exact upd_ne _ _ (Ne.symm hd)
          · rfl
        show RdV _ _ _ (putT nt (kl ps s.t) (some d) _ j) _
        rw [hj, kl_at]
        exact hval (hR.slots j x hx) (hR.mnT j)
  · intro o ob ho
    by_cases hx : ∃ k, k < out.length ∧ rn ps id (k + 1) = o
    · obtain ⟨k, hk, rfl⟩ := hx
      have hk' := List.getElem?_eq_getElem hk
      have e1 : HpL out (k + 1) = out[k] := by simp [HpL, hk']
      rw [hH k _ hk', Option.map_eq_some_iff] at ho
      obtain ⟨ob0, ho, rfl⟩ := ho
      have hl0 := hlive (k + 1) ob0 (by rw [e1, ho])
      have hros0 := hros ob0 (by rw [← ho]; exact List.getElem_mem hk)
      cases ob0 with
      | box ty cs =>
        obtain ⟨b, arr, us, g1, g2, g3, g4, g5, g6⟩ := hl0
        show LiveOb _ _ _ _ (.box ty (renL _ cs))
        rw [renL_map]
        refine ⟨b, arr, us, (hrho k hk).trans g1, hlocN b k [] g2, g3, by simpa using g4, fun j hj => g5 j (by simpa using hj), fun j c hj => ?_⟩
        rw [List.getElem?_map, Option.map_eq_some_iff] at hj
        obtain ⟨c', hc', rfl⟩ := hj
        exact (g6 j c' hc').ren hloc0 hobr (hros0 c' (List.mem_of_getElem? hc'))
      | rw ty sz es =>
        rcases hl0 with ⟨g1, g2⟩ | ⟨b, cap, arr, us, g1, g2, g3, g4, g5, g6, g7, g8, g9⟩
        · exact .inl ⟨(hrho k hk).trans g1, g2⟩
        · refine .inr ⟨b, cap, arr, us, (hrho k hk).trans g1, hlocN b k [] g2, g3, g4, g5, g6, g7, g8, fun i j e c he hc => ?_⟩
          rcases hros0 with hb | hown
          · exact (g9 i j e c he hc).relabel (rn ps id (k + 1), [(i, j)]) (fun b' hb' h0 => ⟨rfl, hloc0 hb b' hb' h0⟩) (fun b' q hb' hq => ⟨rfl, hlocN b' k _ hq⟩)
          · exact (g9 i j e c he hc).own_relabel (hown e (List.mem_of_getElem? he) c (List.mem_of_getElem? hc)) (rn ps id (k + 1), [(i, j)]) (fun b' q hb' hq => hlocN b' k _ hq)
    · have hx' : ∀ k, k < out.length → rn ps id (k + 1) ≠ o := fun k hk e => hx ⟨k, hk, e⟩
      have hops : o ∉ ps := fun hop => by
        obtain ⟨k, hk⟩ := List.getElem?_of_mem hop
        exact hx' k (Nat.lt_of_lt_of_le (List.getElem?_eq_some_iff.1 hk).1 hm1) (rn_pass hk)
      rw [hH' o hx'] at ho
      obtain ⟨x, hx1, hx2⟩ := klH_some ho
      have hlx := hR.live o x hx1
      have hmx := (hR.mnH o x hx1).2
      cases x with
      | box ty cs =>
        obtain ⟨b, arr, us, g1, g2, g3, g4, g5, g6⟩ := hlx
        have hb := town o hops b [] (RdR.lt g3) g2
        have hcs : ob = .box ty (cs.map (klA ps)) := by
          rcases hx2 with ⟨he, rfl⟩ | ⟨he, rfl⟩
          · have : klA ps = fun y => y := by funext y; unfold klA; rw [if_pos he]
            rw [this, List.map_id']
          · have : klA ps = killA := by funext y; unfold klA; rw [if_neg (by simp [he])]
            rw [this, ← killL_map]
            rfl
        subst hcs
        refine ⟨b, arr, us, (hrho' o hx').trans g1, hb.2, hb.1.trans g3, by simpa using g4, fun j hj => g5 j (by simpa using hj), fun j c hj => ?_⟩
        rw [List.getElem?_map, Option.map_eq_some_iff] at hj
        obtain ⟨c', hc', rfl⟩ := hj
        exact hval (g6 j c' hc') (hmx c' (List.mem_of_getElem? hc'))
      | rw ty sz es =>
        have hcs : ob = .rw ty sz es := by rcases hx2 with ⟨_, rfl⟩ | ⟨_, rfl⟩ <;> rfl
        subst hcs
        rcases hlx with ⟨g1, g2⟩ | ⟨b, cap, arr, us, g1, g2, g3, g4, g5, g6, g7, g8, g9⟩
        · exact .inl ⟨(hrho' o hx').trans g1, g2⟩
        · have hb := town o hops b [] (RdR.lt g3) g2
          exact .inr ⟨b, cap, arr, us, (hrho' o hx').trans g1, hb.2, hb.1.trans g3, g4, g5, g6, g7, g8, fun i j e c he hc => (g9 i j e c he hc).relabel (o, [(i, j)]) t0 (fun b' q hb' hq => town o hops b' _ hb' hq)⟩
  · intro b ℓ hb
    by_cases hc : b < w.heap.size ∧ ¬ Mut (E.call bor ps) b
    · exact Nat.lt_of_lt_of_le hc.1 hevo.size
    · have : (E'.loc b).map (fun ℓ : Loc => (rn ps id ℓ.1, ℓ.2)) = some ℓ := by
        have h1 : (E.back w bor ps id out.length E').loc b = (E'.loc b).map (fun ℓ : Loc => (rn ps id ℓ.1, ℓ.2)) := if_neg hc
        rw [← h1, hb]
      rw [Option.map_eq_some_iff] at this
      obtain ⟨ℓ0, h0, _⟩ := this
      exact hlt b ℓ0 h0
  · intro b hb hm
    have h1 := hR.old b hb hm
    have hbw := Nat.lt_of_lt_of_le hb hR.evo.size
    rw [← h1]
    refine hlocO b hbw (fun hmm => ?_)
    obtain ⟨o, p, h2, h3⟩ := (mut_call hn).1 hmm
    obtain ⟨k, hk⟩ := List.getElem?_of_mem h3
    obtain ⟨o', a1, a2, a3, a4⟩ := hpl k (List.getElem?_eq_some_iff.1 hk).1
    rw [hk] at a1
    cases a1
    exact hm ⟨o, p, by rw [← h1, h2], a3⟩
  · intro o x hx
    obtain ⟨hu, h⟩ := hR.pas o x hx
    refine ⟨.inl hu, ?_⟩
    rcases hob o hu with h1 | ⟨h1, y, z, h2, h3, h4⟩
    · exact .inl h1
    · rcases h with h | ⟨h5, y', h6, h7⟩
      · rw [h] at h2; cases h2
      · rw [h2] at h6
        cases h6
        exact .inr ⟨h1.trans h5, z, h3, h7.trans h4⟩
  · exact .inl hR.u0
  · have : ∀ k, k < out.length → rn ps id (k + 1) ≠ 0 := fun k hk e => by
      by_cases hkp : k < ps.length
      · obtain ⟨o, a1, a2, a3, a4⟩ := hpl k hkp
        exact a3 (by rw [← a4, e])
      · have := (hnew k (by omega) hk).2.1
        rw [e] at this
        exact this hR.u0
    rw [hH' 0 this]
    unfold klH
    split
    · exact hR.h0
    · simp only [hR.h0]; rfl
  · intro j
    cases d with
    | none =>
      show Mn _ (kl ps s.t j)
      rw [kl_at]
      exact hmk (hR.mnT j)
    | some d =>
      show Mn _ (putT nt (kl ps s.t) (some d) _ j)
      simp only [putT]
      split
      · by_cases hd : j = d
        · subst hd
          rw [upd_same]
          exact hrs.mn hUrn
        · rw [upd_ne _ _ hd, kl_at]
          exact hmk (hR.mnT j)
      · rw [kl_at]
        exact hmk (hR.mnT j)
  · intro o ob ho
    by_cases hx : ∃ k, k < out.length ∧ rn ps id (k + 1) = o
    · obtain ⟨k, hk, rfl⟩ := hx
      have hk' := List.getElem?_eq_getElem hk
      rw [hH k _ hk', Option.map_eq_some_iff] at ho
      obtain ⟨ob0, ho, rfl⟩ := ho
      have hros0 := hros ob0 (by rw [← ho]; exact List.getElem_mem hk)
      refine ⟨hUrn (k + 1) (by omega) (by omega), ?_⟩
      cases ob0 with
      | box ty cs =>
        show ∀ c ∈ renL _ cs, Mn _ c
        rw [renL_map]
        intro c hc
        obtain ⟨c', hc', rfl⟩ := List.mem_map.1 hc
        exact (hros0 c' hc').mn hUrn
      | rw => trivial
    · have hx' : ∀ k, k < out.length → rn ps id (k + 1) ≠ o := fun k hk e => hx ⟨k, hk, e⟩
      rw [hH' o hx'] at ho
      obtain ⟨x, hx1, hx2⟩ := klH_some ho
      have hmx := hR.mnH o x hx1
      refine ⟨.inl hmx.1, ?_⟩
      rcases hx2 with ⟨_, rfl⟩ | ⟨_, rfl⟩
      · exact hmx.2.mono fun _ h => .inl h
      · cases x with
        | box ty cs =>
          show ∀ c ∈ killL cs, Mn _ c
          rw [killL_map]
          intro c hc
          obtain ⟨c', hc', rfl⟩ := List.mem_map.1 hc
          exact (hmx.2 c' hc').kill.mono fun _ h => .inl h
        | rw => trivial
  · refine hR.evo.step hevo (fun i hi hlt' => ?_)
    obtain ⟨o, p, h2, h3⟩ := (mut_call hn).1 hi
    obtain ⟨k, hk⟩ := List.getElem?_of_mem h3
    obtain ⟨o', a1, a2, a3, a4⟩ := hpl k (List.getElem?_eq_some_iff.1 hk).1
    rw [hk] at a1
    cases a1
    by_cases hb : i < I.w.heap.size
    · by_cases hm : Mut I.E i
      · exact .inr hm
      · exact absurd ⟨o, p, by rw [← hR.old i hb hm]; exact h2, a3⟩ hm
    · exact .inl (by omega)
end

end Go.Proofs.YtnnmpdanfeejbaaGreat.Abs

/- The abstract machine: code. -/
namespace Go.Proofs.YtnnmpdanfeejbaaGreat.Abs
open Go Go.RowKit
set_option linter.unusedVariables false
set_option linter.unusedSimpArgs false

/-- Two ways, by a bool. -/
def brB (b : Bool) (x y : Prop) : Prop := (b = true → x) ∧ (b = false → y)
theorem brB_true (x y : Prop) : brB true x y = x := by simp [brB]
theorem brB_false (x y : Prop) : brB false x y = y := by simp [brB]
theorem brB_intro {b : Bool} {x y : Prop} (h1 : b = true → x) (h2 : b = false → y) : brB b x y := ⟨h1, h2⟩

/-- A call, as its caller sees it. -/
def Callq (P : Program) (nt : Nat) (f : Nat) (args : List AV) (d : Option Nat) (id : Nat) (s : ASt) (K : ASt → Prop) : Prop :=
  ∃ (bor : Bool) (ps : List Nat) (Hin : List Ob) (args' : List AV) (Post : AV → List (Option Ob) → Prop), CallOk P f Hin args' Post ∧ ps.Nodup ∧ Hin.length = ps.length ∧
    (∀ (k o : Nat), ps[k]? = some o → ∃ ob ob', s.H o = some ob ∧ Hin[k]? = some ob' ∧ ViewO bor s.H ps ob ob') ∧ args.length = args'.length ∧
    (∀ (i : Nat) x x', args[i]? = some x → args'[i]? = some x' → View bor s.H ps x x') ∧
    ∀ r out, Post r out → ps.length ≤ out.length ∧ out.length ≤ ps.length + 8 ∧ (bor = true → Rs true out.length r ∧ ∀ ob, some ob ∈ out → RsOb true out.length ob) ∧ K (after nt s ps id d r out)

def bindK (r : EvR) (K : AV → List (Nat × Option Ob) → Prop) : Prop := match r with
  | some (v, o) => K v o
  | none => False
theorem bindK_some (v : AV) (o : List (Nat × Option Ob)) (K : AV → List (Nat × Option Ob) → Prop) : bindK (some (v, o)) K = K v o := rfl
theorem bindK_none (K : AV → List (Nat × Option Ob) → Prop) : bindK none K = False := rfl
theorem bindK_ite (c : Prop) [Decidable c] (r : EvR) (K : AV → List (Nat × Option Ob) → Prop) : bindK (if c then r else none) K = (c ∧ bindK r K) := by
  by_cases h : c <;> simp [h, bindK]
theorem bindK_ex {r : EvR} {K : AV → List (Nat × Option Ob) → Prop} (h : bindK r K) : ∃ v o, r = some (v, o) ∧ K v o := by
  unfold bindK at h
  split at h
  · exact ⟨_, _, rfl, h⟩
  · exact h.elim

def stp (P : Program) (nt p : Nat) (o : Oper) (s : ASt) (K : ASt → Prop) : Prop :=
  match o.op with
  | .call { callee := .value (.func f), args := args, argTypes := _ } => Callq P nt f (args.toList.map (getA nt s.t)) o.dst (s.c + 8 * p) s K
  | op => bindK (evOp P (s.c + 8 * p) s.H (getA nt s.t) op) fun v objs => K { t := putT nt s.t o.dst v, H := updL s.H objs, c := s.c }

/-- By a bool. -/
def boolK (v : AV) (f : Bool → Prop) : Prop := match v with
  | .c (.v (.bool b)) => f b
  | _ => False
theorem boolK_c (b : Bool) (f : Bool → Prop) : boolK (.c (.v (.bool b))) f = f b := rfl
theorem boolK_ex {v : AV} {f : Bool → Prop} (h : boolK v f) : ∃ b, v = .c (.v (.bool b)) ∧ f b := by
  unfold boolK at h
  split at h
  · exact ⟨_, rfl, h⟩
  · exact h.elim

/-- By a guard: what has been left out yields nothing. -/
def guardK (v : AV) (f : Bool → Prop) (x : Unit → Prop) : Prop := match v with
  | .c (.v (.bool b)) => f b
  | .tu [] => x ()
  | _ => False
theorem guardK_c (b : Bool) (f : Bool → Prop) (x : Unit → Prop) : guardK (.c (.v (.bool b))) f x = f b := rfl
theorem guardK_tu (f : Bool → Prop) (x : Unit → Prop) : guardK (.tu []) f x = x () := rfl
theorem guardK_ex {v : AV} {f : Bool → Prop} {x : Unit → Prop} (h : guardK v f x) : (∃ b, v = .c (.v (.bool b)) ∧ f b) ∨ (v = .tu [] ∧ x ()) := by
  unfold guardK at h
  split at h
  · exact .inl ⟨_, rfl, h⟩
  · exact .inr ⟨rfl, h⟩
  · exact h.elim

def gstp (P : Program) (nt : Nat) (dsts : Nat → Option Nat) (p : Nat) (o : Oper) (s : ASt) (K : ASt → Prop) : Prop :=
  match o.guard with
  | none => stp P nt p o s K
  | some (j, want) => match dsts j with
    | none => False
    | some d => d < nt ∧ guardK (s.t d) (fun b => match want with
        | true => brB b (stp P nt p o { s with t := upd s.t d (.c (.v (.bool true))) } K) (K { s with t := putT nt (upd s.t d (.c (.v (.bool false)))) o.dst (.tu []) })
        | false => brB b (K { s with t := putT nt (upd s.t d (.c (.v (.bool true)))) o.dst (.tu []) }) (stp P nt p o { s with t := upd s.t d (.c (.v (.bool false))) } K))
      (fun _ => K { s with t := putT nt s.t o.dst (.tu []) })

def seqR (P : Program) (nt : Nat) (dsts : Nat → Option Nat) : Nat → List Oper → ASt → (ASt → Prop) → Prop
  | _, [], s, K => K s
  | p, o :: r, s, K => gstp P nt dsts p o s fun s' => seqR P nt dsts (p + 1) r s' K

def dstOf (ops : Array Oper) (j : Nat) : Option Nat := (ops[j]?).bind (·.dst)

section
variable {P : Program} {nt : Nat} {I : Ini} {s : ASt} {E : Env} {a : Act} {w : World}

theorem RelE.mono {U U' : Nat → Prop} (h : RelE nt I U s E a w) (hU : ∀ o, U o → U' o) : RelE nt I U' s E a w :=
  ⟨h.defers, h.size, h.slots, h.live, h.locLt, h.old, fun o x hx => ⟨hU o (h.pas o x hx).1, (h.pas o x hx).2⟩, hU 0 h.u0, h.h0, fun k => (h.mnT k).mono hU, fun o ob ho => ⟨hU o (h.mnH o ob ho).1, (h.mnH o ob ho).2.mono hU⟩, h.evo⟩

/-- The number of draws, and what else doesn't count, may go on. -/
theorem RelE.drew {U : Nat → Prop} (h : RelE nt I U s E a w) (w' : World) (hh : w'.heap = w.heap) (ho : w'.os = w.os) (ht : w'.tape = w.tape) (hp : w'.output = w.output) : RelE nt I U s E a w' := by
  have k : Keeps U w w' E E s.H s.H := ⟨fun b _ h => ⟨by rw [hh], h⟩, fun b _ h => ⟨by rw [hh], h⟩, fun o _ => by
    cases hs : s.H o with
    | none => exact .inl rfl
    | some x => exact .inr ⟨rfl, x, x, rfl, rfl, Ob.like.refl x⟩⟩
  exact ⟨h.defers, h.size, fun j u hu => (h.slots j u hu).keeps k (h.mnT j), fun o ob hob => (h.live o ob hob).keeps k (h.mnH o ob hob).2 rfl (fun b q _ hq => ⟨by rw [hh], hq⟩), fun b ℓ hb => by rw [hh]; exact h.locLt b ℓ hb, h.old, h.pas, h.u0, h.h0, h.mnT, h.mnH,
    ⟨ho.trans h.evo.os, ht.trans h.evo.tape, hp.trans h.evo.output, by rw [hh]; exact h.evo.size, fun i hi hm => by rw [hh]; exact h.evo.block i hi hm⟩⟩

/-- A slot's value that is known more exactly. -/
theorem RelE.refine {U : Nat → Prop} (h : RelE nt I U s E a w) {d : Nat} {v : AV} (hv : s.t d = v) : RelE nt I U { s with t := upd s.t d v } E a w := by
  have : upd s.t d v = s.t := by
    funext k
    unfold upd
    split
    · rename_i hk; subst hk; exact hv.symm
    · rfl
  rw [this]
  exact h

theorem upon_good {o : Oper} {U : Nat → Prop} {id : Nat} {v : AV} {objs : List (Nat × Option Ob)} (hg : Good P o a w E s.H U id v objs) {next : Act → World → Prop} {Q : Exit → Act → World → Prop}
    (h : ∀ u w' E', Fx w E s.H U id v objs u w' E' → next (a.put o.dst u) w') : o.wp P a w next Q := by
  obtain ⟨u, w', E', hr, hf⟩ := hg
  unfold Oper.wp
  rcases hr with hr | ⟨hr, rfl⟩
  · rw [hr]; exact h u w' E' hf
  · rw [hr]; exact h undef w' E' hf

theorem stp_sound {o : Oper} {p : Nat} {K : ASt → Prop} {U : Nat → Prop} (hR : RelE nt I U s E a w) (hU : ∀ j, j < 8 → ¬ U (s.c + 8 * p + j)) (h : stp P nt p o s K) {next : Act → World → Prop} {Q : Exit → Act → World → Prop}
    (hn : ∀ s' E' a' w', K s' → s'.c = s.c → RelE nt I (fun o => U o ∨ ∃ j, j < 8 ∧ o = s.c + 8 * p + j) s' E' a' w' → next a' w') : o.wp P a w next Q := by
  have general : ∀ v objs, evOp P (s.c + 8 * p) s.H (getA nt s.t) o.op = some (v, objs) → K { t := putT nt s.t o.dst v, H := updL s.H objs, c := s.c } → o.wp P a w next Q := fun v objs he hK => by
    have hid : ¬ U (s.c + 8 * p) := by simpa using hU 0 (by omega)
    refine upon_good (ev_sound hR hid (fun _ _ h => h) he) (fun u w' E' hf => hn _ E' _ w' hK rfl ((Rel.step hR hid hf o.dst).mono (fun q hq => ?_)))
    rcases hq with hq | hq
    · exact .inl hq
    · exact .inr ⟨0, by omega, by omega⟩
  unfold stp at h
  split at h
  · rename_i f args ts hop
    obtain ⟨bor, ps, Hin, args', Post, ⟨hc, hok⟩, hnd, hl, hin, hal, hav, hpost⟩ := h
    have hrun : (execOp a.eval o).run P w = .ok (.enter f (args.map a.eval)) w := by
      have : (callFunc f (args.map a.eval)).run P w = .ok (.enter f (args.map a.eval)) w := by
        unfold callable at hc
        split at hc
        · rename_i fn hf
          rw [Bool.and_eq_true] at hc
          have h1 : fn.body ≠ none := by
            intro hb
            rw [hb] at hc
            simp at hc
          have h2 : fn.name ≠ "runtime.NumGoroutine" := by simpa using hc.2
          simp [callFunc, hf, h1, h2]
        · cases hc
      have h3 : execOp a.eval o = (do let d ← resolve a.eval { callee := .value (.func f), args := args, argTypes := ts } o.type; invoke d.target d.args) := by
        simp only [execOp, hop]
      rw [h3]
      simp [resolve, Deferred.ofValue, Act.eval, invoke, this]
    unfold Oper.wp
    rw [hrun]
    show Calls P f (args.map a.eval) w _
    have hvals : (args.map a.eval).size = args'.length := by rw [← hal]; simp
    have hview : ∀ (i : Nat) x u, args'[i]? = some x → (args.map a.eval)[i]? = some u → RdV w (E.call bor ps) (HpS Hin) x u := fun i x' u hx hu => by
      rw [Array.getElem?_map, Option.map_eq_some_iff] at hu
      obtain ⟨y, hy, rfl⟩ := hu
      have hy' : (args.toList.map (getA nt s.t))[i]? = some (getA nt s.t y) := by
        rw [List.getElem?_map, Array.getElem?_toList, hy]; rfl
      exact (hav i _ x' hy' hx).ok hR hnd hin (hR.get y)
    have hlocs : ∀ b ℓ, (E.call bor ps).loc b = some ℓ → b < w.heap.size := fun b ℓ hb => by
      simp only [Env.call, Option.bind_eq_some_iff] at hb
      obtain ⟨ℓ0, h0, _⟩ := hb
      exact hR.locLt b ℓ0 h0
    refine (hok w (E.call bor ps) (args.map a.eval) (ViewO.live hR hnd hin hl) hlocs hvals hview).mono ?_
    rintro e w' ⟨u, r, out, E', rfl, hP, hr, hlive, hrs, hros, hpas, hevo, hold, hlt⟩
    obtain ⟨q1, q2, q3, q4⟩ := hpost r out hP
    have hrs' : Rs bor out.length r := by cases bor with | true => exact (q3 rfl).1 | false => exact hrs
    have hros' : ∀ ob, some ob ∈ out → RsOb bor out.length ob := fun ob hob => by cases bor with | true => exact (q3 rfl).2 ob hob | false => exact hros ob hob
    exact hn _ _ _ w' q4 rfl (call_after hR hnd hin hl hU q1 q2 hr hlive hrs' hros' hpas hevo hold hlt o.dst)
  · obtain ⟨v, objs, he, hK⟩ := bindK_ex h
    exact general v objs he hK

theorem gstp_sound {ops : Array Oper} {o : Oper} {p : Nat} {K : ASt → Prop} {U : Nat → Prop} (hR : RelE nt I U s E a w) (hU : ∀ j, j < 8 → ¬ U (s.c + 8 * p + j)) (h : gstp P nt (dstOf ops) p o s K) {next : Act → World → Prop} {Q : Exit → Act → World → Prop}
    (hn : ∀ s' E' a' w', K s' → s'.c = s.c → RelE nt I (fun o => U o ∨ ∃ j, j < 8 ∧ o = s.c + 8 * p + j) s' E' a' w' → next a' w') :
    if Region.wanted o (yielded ops a.tmps) then o.wp P a w next Q else next (a.put o.dst undef) w := by
  unfold gstp at h
  split at h
  · rename_i hg
    rw [if_pos (by simp [Region.wanted, hg])]
    exact stp_sound hR hU h hn
  · rename_i j want hg
    have hfx : ∀ {s : ASt} {E : Env} {a : Act} {w : World} {U : Nat → Prop}, RelE nt I U s E a w → Fx w E s.H U (s.c + 8 * p) (.tu []) [] undef w E := fun hR => Fx.same hR.locLt (.tu [] #[] rfl (fun i c u hc _ => by simp at hc)) (.tu _ (fun x hx => by simp at hx))
    have hskip : (∃ d, dstOf ops j = some d ∧ d < nt ∧ s.t d = .tu [] ∧ K { s with t := putT nt s.t o.dst (.tu []) }) ∨ ∃ d b, dstOf ops j = some d ∧ d < nt ∧ s.t d = .c (.v (.bool b)) ∧
      (b = want → stp P nt p o { s with t := upd s.t d (.c (.v (.bool want))) } K) ∧ (b = (!want) → K { s with t := putT nt (upd s.t d (.c (.v (.bool (!want))))) o.dst (.tu []) }) := by
      cases hd : dstOf ops j with
      | none => rw [hd] at h; exact h.elim
      | some d =>
        rw [hd] at h
        obtain ⟨hlt, h⟩ := h
        rcases guardK_ex h with ⟨b, hb, h⟩ | ⟨hb, h⟩
        · refine .inr ⟨d, b, rfl, hlt, hb, ?_⟩
          cases want
          · exact ⟨h.2, h.1⟩
          · exact h
        · exact .inl ⟨d, rfl, hlt, hb, h⟩
    rcases hskip with ⟨d, hd, hlt, hb, hK⟩ | ⟨d, b, hd, hlt, hb, h1, h2⟩
    · have hk : d < a.tmps.size := by rw [hR.size]; exact hlt
      have h3 := hR.slots d a.tmps[d] (Array.getElem?_eq_getElem hk)
      rw [hb] at h3
      have hw : Region.wanted o (yielded ops a.tmps) = false := by
        unfold Region.wanted
        rw [hg]
        simp only [yielded]
        unfold dstOf at hd
        rw [hd]
        generalize hq : a.tmps[d] = q at h3
        cases h3
        simp [hq, Array.getElem?_eq_getElem hk]
      rw [hw, if_neg (by simp)]
      refine hn _ E _ w hK rfl ((Rel.step hR (by simpa using hU 0 (by omega)) (hfx hR) o.dst).mono (fun q hq => ?_))
      rcases hq with hq | hq
      · exact .inl hq
      · exact .inr ⟨0, by omega, by omega⟩
    have hsl : a.tmps[d]? = some (.bool b) := by
      have hk : d < a.tmps.size := by rw [hR.size]; exact hlt
      have h3 := hR.slots d a.tmps[d] (Array.getElem?_eq_getElem hk)
      rw [hb] at h3
      cases h3 with
      | c _ _ h3 =>
        generalize hq : a.tmps[d] = q at h3
        cases h3
        rw [Array.getElem?_eq_getElem hk, hq]
    have hw : Region.wanted o (yielded ops a.tmps) = (some b == some want) := by
      unfold Region.wanted
      rw [hg]
      simp only [yielded]
      unfold dstOf at hd
      rw [hd]
      simp [hsl]
    rw [hw]
    by_cases hbw : b = want
    · subst hbw
      rw [if_pos (by simp)]
      exact stp_sound (hR.refine hb) hU (h1 rfl) hn
    · have hbn : b = !want := by cases b <;> cases want <;> simp_all
      rw [if_neg (by simpa using hbw)]
      have hR' := hR.refine (d := d) (v := .c (.v (.bool (!want)))) (by rw [hb, hbn])
      have := Rel.step hR' (by simpa using hU 0 (by omega)) (hfx hR') o.dst
      refine hn _ E _ w (h2 hbn) rfl (this.mono (fun q hq => ?_))
      rcases hq with hq | hq
      · exact .inl hq
      · exact .inr ⟨0, by omega, by omega⟩

theorem seqR_sound {ops : Array Oper} {Q : Exit → Act → World → Prop} {c : Nat} : ∀ {l : List Oper} {p : Nat} {s : ASt} {E : Env} {a : Act} {w : World} {K : ASt → Prop}, s.c = c → RelE nt I (fun o => o < c + 8 * p) s E a w → seqR P nt (dstOf ops) p l s K →
    (∀ s' E' a' w', K s' → s'.c = c → RelE nt I (fun o => o < c + 8 * (p + l.length)) s' E' a' w' → Q .normal a' w') → wpList P ops Q l a w
  | [], p, s, E, a, w, K, hc, hR, h, hn => hn s E a w h hc hR
  | o :: r, p, s, E, a, w, K, hc, hR, h, hn => by
    have := gstp_sound (ops := ops) (P := P) (Q := Q) hR (fun j hj => by omega) h (next := wpList P ops Q r) (fun s' E' a' w' hK hc' hR' =>
      seqR_sound (hc'.trans hc) (hR'.mono (fun q hq => by rcases hq with hq | ⟨j, hj, rfl⟩ <;> omega)) hK (fun s2 E2 a2 w2 hK2 hc2 hR2 => hn s2 E2 a2 w2 hK2 hc2 (by rw [List.length_cons, show p + (r.length + 1) = p + 1 + r.length by omega]; exact hR2)))
    unfold wpList
    split
    · rename_i hw; rw [if_pos hw] at this; exact .inl this
    · rename_i hw; rw [if_neg hw] at this; exact this
end

end Go.Proofs.YtnnmpdanfeejbaaGreat.Abs

/- The abstract machine: a region that draws its order. -/
namespace Go.Proofs.YtnnmpdanfeejbaaGreat.Abs
open Go Go.RowKit
set_option linter.unusedVariables false
set_option linter.unusedSimpArgs false

mutual
def refsA : AV → List Nat
  | .sl o _ => [o]
  | .pt o _ _ => [o]
  | .ag cs => refsL cs
  | .tu cs => refsL cs
  | .c _ => []
  | .bw _ => []
  | .nul => []
  | .any => []
def refsL : List AV → List Nat
  | [] => []
  | x :: r => refsA x ++ refsL r
end
mutual
/-- Nothing is borrowed. -/
def nbA : AV → Bool
  | .bw _ => false
  | .ag cs => nbL cs
  | .tu cs => nbL cs
  | .sl _ _ => true
  | .pt _ _ _ => true
  | .c _ => true
  | .nul => true
  | .any => true
def nbL : List AV → Bool
  | [] => true
  | x :: r => nbA x && nbL r
end
def nbO : Option Ob → Bool
  | some (.box _ cs) => nbL cs
  | _ => true

/-- What an operation looks at, and what it turns. -/
structure Fp where
  p : Nat
  refs : List Nat
  wr : List Nat
  call : Bool
  pas : Bool
  nb : Bool

def disj (a b : List Nat) : Bool := a.all fun x => !b.contains x
def okPair (x y : Fp) : Bool := !(x.call && y.call) && disj x.wr y.refs && disj x.wr y.wr && disj y.wr x.refs
def ancB (ops : Array Oper) : Nat → Nat → Nat → Bool
  | 0, _, _ => false
  | f + 1, i, j => match ops[i]? with
    | some o => o.after.toList.any fun e => Region.binds .any e && (e.on == j || ancB ops f e.on j)
    | none => false
def ordered (ops : Array Oper) (i j : Nat) : Bool := ancB ops ops.size i j || ancB ops ops.size j i
def apartB (ops : Array Oper) (x y : Oper) : Bool :=
  (match x.dst with | some d => !(y.looksAt ops).contains d && y.dst != some d | none => true) && (match y.dst with | some d => !(x.looksAt ops).contains d && x.dst != some d | none => true)
/-- What stands fast of a region: its edges go backwards, and what has no order touches other slots. -/
def fastB (ops : Array Oper) : Bool := (List.range ops.size).all fun i => match ops[i]? with
  | some o => (o.after.toList.all fun e => !Region.binds .any e || e.on < i) && (List.range i).all fun j => match ops[j]? with
    | some o' => ordered ops i j || apartB ops o o'
    | none => true
  | none => true
def chkB (ops : Array Oper) (acc : List Fp) (f : Fp) : Bool := acc.all fun x => ordered ops f.p x.p || okPair f x
def Ck (pc : Bool) (ops : Array Oper) (acc : List Fp) (f : Fp) : Prop := ((!pc || f.nb) && (!f.pas || pc) && chkB ops acc f) = true

def res (refs : List Nat) (H : Hp) : Hp := fun o => if refs.contains o then H o else none

def after0 (nt : Nat) (s : ASt) (ps : List Nat) (id : Nat) (d : Option Nat) (r : AV) (out : List (Option Ob)) : ASt :=
  { t := putT nt s.t d (renA (rn ps id) r), H := updL s.H (callObjs ps id 0 out), c := s.c }

def CallD (P : Program) (nt : Nat) (f : Nat) (args : List AV) (p id : Nat) (s : ASt) (C : Fp → Prop) (K : Fp → (Option Nat → ASt) → Prop) : Prop :=
  ∃ (used : List Nat) (bor : Bool) (ps : List Nat) (Hin : List Ob) (args' : List AV) (Post : AV → List (Option Ob) → Prop), CallOk P f Hin args' Post ∧ ps.Nodup ∧ Hin.length = ps.length ∧
    (∀ (k o : Nat), ps[k]? = some o → ∃ ob ob', res used s.H o = some ob ∧ Hin[k]? = some ob' ∧ ViewO bor (res used s.H) ps ob ob') ∧ args.length = args'.length ∧
    (∀ (i : Nat) x x', args[i]? = some x → args'[i]? = some x' → View bor (res used s.H) ps x x') ∧
    C ⟨p, used ++ ps, ps ++ (List.range 8).map (id + ·), true, !ps.isEmpty, true⟩ ∧ (∃ r out, Post r out) ∧
    ∀ r out, Post r out → ps.length ≤ out.length ∧ out.length ≤ ps.length + 8 ∧ (bor = true → Rs true out.length r ∧ ∀ ob, some ob ∈ out → RsOb true out.length ob) ∧
      K ⟨p, used ++ ps, ps ++ (List.range 8).map (id + ·), true, !ps.isEmpty, true⟩ (fun d => after0 nt s ps id d r out)

def detFp (p : Nat) (vals : List AV) (v : AV) (objs : List (Nat × Option Ob)) : Fp :=
  ⟨p, refsL vals, objs.map (·.1), false, false, nbA v && objs.all (fun x => nbO x.2)⟩

/-- What an operation looks at of the objects: a value that is only moved on needs none (where nothing borrowed lies about). -/
def fv (pc : Bool) (op : Op) (vs : List AV) : List AV := match op with
  | .move _ => (match pc with | true => [] | false => vs)
  | _ => vs
def stepD (P : Program) (nt p : Nat) (pc : Bool) (ops : Array Oper) (o : Oper) (acc : List Fp) (s : ASt) (K : Fp → ASt → Prop) : Prop :=
  match o.op with
  | .call { callee := .value (.func f), args := args, argTypes := _ } => CallD P nt f (args.toList.map (getA nt s.t)) p (s.c + 8 * p) s (fun fp => Ck pc ops acc fp) fun fp s' => K fp (s' o.dst)
  | op => bindK (evOp P (s.c + 8 * p) (res (refsL (fv pc op (op.operands.toList.map (getA nt s.t)))) s.H) (getA nt s.t) op) fun v objs =>
      Ck pc ops acc (detFp p (fv pc op (op.operands.toList.map (getA nt s.t))) v objs) ∧ K (detFp p (fv pc op (op.operands.toList.map (getA nt s.t))) v objs) { t := putT nt s.t o.dst v, H := updL s.H objs, c := s.c }
def skipFp (p : Nat) : Fp := ⟨p, [], [], false, false, true⟩
def gstepD (P : Program) (nt p : Nat) (pc : Bool) (ops : Array Oper) (o : Oper) (acc : List Fp) (s : ASt) (K : Fp → ASt → Prop) : Prop :=
  match o.guard with
  | none => stepD P nt p pc ops o acc s K
  | some (j, want) => match dstOf ops j with
    | none => False
    | some d => d < nt ∧ guardK (s.t d) (fun b => match want with
        | true => brB b (stepD P nt p pc ops o acc { s with t := upd s.t d (.c (.v (.bool true))) } K) (K (skipFp p) { s with t := putT nt (upd s.t d (.c (.v (.bool false)))) o.dst (.tu []) })
        | false => brB b (K (skipFp p) { s with t := putT nt (upd s.t d (.c (.v (.bool true)))) o.dst (.tu []) }) (stepD P nt p pc ops o acc { s with t := upd s.t d (.c (.v (.bool false))) } K))
      (fun _ => K (skipFp p) { s with t := putT nt s.t o.dst (.tu []) })
def drawR (P : Program) (nt : Nat) (pc : Bool) (ops : Array Oper) : List (Nat × Oper) → List Fp → ASt → (ASt → Prop) → Prop
  | [], _, s, K => K s
  | (p, o) :: r, acc, s, K => gstepD P nt p pc ops o acc s fun fp s' => drawR P nt pc ops r (fp :: acc) s' K
/-- Nothing borrowed lies about. -/
def NoB (s : ASt) : Prop := (∀ k, nbA (s.t k) = true) ∧ ∀ o, nbO (s.H o) = true
def numbered : Nat → List Oper → List (Nat × Oper)
  | _, [] => []
  | p, o :: r => (p, o) :: numbered (p + 1) r
def DrawQ (P : Program) (nt : Nat) (ops : Array Oper) (s : ASt) (K : ASt → Prop) : Prop := fastB ops = true ∧ ∃ pc : Bool, (pc = true → NoB s) ∧ drawR P nt pc ops (numbered 0 ops.toList) [] s K

theorem upd_self {t : Nat → AV} {d : Nat} {v : AV} (h : t d = v) : upd t d v = t := by
  funext k
  unfold upd
  split
  · rename_i hk; subst hk; exact h.symm
  · rfl

/-- Is the operation carried out? -/
def goes (ops : Array Oper) (nt : Nat) (o : Oper) (s : ASt) (b : Bool) : Prop := match o.guard with
  | none => b = true
  | some (j, want) => ∃ d, dstOf ops j = some d ∧ d < nt ∧ ((∃ v, s.t d = .c (.v (.bool v)) ∧ b = (v == want)) ∨ (s.t d = .tu [] ∧ b = false))

theorem gstepD_goes {P : Program} {nt p : Nat} {pc : Bool} {ops : Array Oper} {o : Oper} {acc : List Fp} {s : ASt} {K : Fp → ASt → Prop} (h : gstepD P nt p pc ops o acc s K) :
    (goes ops nt o s true ∧ stepD P nt p pc ops o acc s K) ∨ (goes ops nt o s false ∧ K (skipFp p) { t := putT nt s.t o.dst (.tu []), H := s.H, c := s.c }) := by
  unfold gstepD at h
  cases hg : o.guard with
  | none => rw [hg] at h; exact .inl ⟨by simp [goes, hg], h⟩
  | some jw =>
    obtain ⟨j, want⟩ := jw
    rw [hg] at h
    simp only at h
    cases hd : dstOf ops j with
    | none => rw [hd] at h; exact h.elim
    | some d =>
      rw [hd] at h
      obtain ⟨hlt, h⟩ := h
      rcases guardK_ex h with ⟨b, hb, h⟩ | ⟨hb, h⟩
      · cases want <;> cases b
        · simp only [brB_false, upd_self hb] at h; exact .inl ⟨by simp only [goes, hg]; exact ⟨d, hd, hlt, .inl ⟨false, hb, rfl⟩⟩, h⟩
        · simp only [brB_true, upd_self hb] at h; exact .inr ⟨by simp only [goes, hg]; exact ⟨d, hd, hlt, .inl ⟨true, hb, rfl⟩⟩, h⟩
        · simp only [brB_false, upd_self hb] at h; exact .inr ⟨by simp only [goes, hg]; exact ⟨d, hd, hlt, .inl ⟨false, hb, rfl⟩⟩, h⟩
        · simp only [brB_true, upd_self hb] at h; exact .inl ⟨by simp only [goes, hg]; exact ⟨d, hd, hlt, .inl ⟨true, hb, rfl⟩⟩, h⟩
      · exact .inr ⟨by unfold goes; rw [hg]; exact ⟨d, hd, hlt, .inr ⟨hb, rfl⟩⟩, h⟩
theorem gstepD_of {P : Program} {nt p : Nat} {pc : Bool} {ops : Array Oper} {o : Oper} {acc : List Fp} {s : ASt} {K : Fp → ASt → Prop} (h : (goes ops nt o s true ∧ stepD P nt p pc ops o acc s K) ∨ (goes ops nt o s false ∧ K (skipFp p) { t := putT nt s.t o.dst (.tu []), H := s.H, c := s.c })) :
    gstepD P nt p pc ops o acc s K := by
  unfold gstepD
  cases hg : o.guard with
  | none =>
    rcases h with ⟨_, h⟩ | ⟨h, _⟩
    · exact h
    · simp [goes, hg] at h
  | some jw =>
    obtain ⟨j, want⟩ := jw
    simp only
    have hgo : ∀ b, goes ops nt o s b → ∃ d, dstOf ops j = some d ∧ d < nt ∧ ((∃ v, s.t d = .c (.v (.bool v)) ∧ b = (v == want)) ∨ (s.t d = .tu [] ∧ b = false)) := fun b hb' => by
      simp only [goes, hg] at hb'
      exact hb'
    rcases h with ⟨h, h'⟩ | ⟨h, h'⟩ <;> obtain ⟨d, hd, hlt, ⟨v, hb, hv⟩ | ⟨hb, hv⟩⟩ := hgo _ h <;> rw [hd] <;> refine ⟨hlt, ?_⟩ <;> rw [hb]
    · cases want <;> cases v <;> simp only [guardK_c, brB_true, brB_false, upd_self hb] <;> first | exact h' | simp at hv
    · cases hv
    · cases want <;> cases v <;> simp only [guardK_c, brB_true, brB_false, upd_self hb] <;> first | exact h' | simp at hv
    · exact h'

theorem updL_comm {H : Hp} {a b : List (Nat × Option Ob)} (h : ∀ x ∈ a, ∀ y ∈ b, x.1 ≠ y.1) : updL (updL H a) b = updL (updL H b) a := by
  induction a generalizing H with
  | nil => rfl
  | cons x r ih =>
    show updL (updL (upd H x.1 x.2) r) b = updL (upd (updL H b) x.1 x.2) r
    rw [ih (fun y hy z hz => h y (List.mem_cons_of_mem _ hy) z hz)]
    congr 1
    have : ∀ (l : List (Nat × Option Ob)) (H : Hp), (∀ y ∈ l, x.1 ≠ y.1) → updL (upd H x.1 x.2) l = upd (updL H l) x.1 x.2 := by
      intro l
      induction l with
      | nil => intro H _; rfl
      | cons y l ih =>
        intro H hl
        show updL (upd (upd H x.1 x.2) y.1 y.2) l = upd (updL (upd H y.1 y.2) l) x.1 x.2
        rw [upd_comm _ _ _ (hl y (List.mem_cons_self ..)), ih _ (fun z hz => hl z (List.mem_cons_of_mem _ hz))]
    exact this b H (fun y hy => h x (List.mem_cons_self ..) y hy)
theorem putT_comm {nt : Nat} {t : Nat → AV} {d e : Option Nat} {v u : AV} (h : ∀ k, d = some k → e ≠ some k) : putT nt (putT nt t d v) e u = putT nt (putT nt t e u) d v := by
  cases d with
  | none => rfl
  | some d =>
    cases e with
    | none => rfl
    | some e =>
      have hne : d ≠ e := fun he => h d rfl (by rw [he])
      simp only [putT]
      split <;> split <;> first | rfl | exact upd_comm _ _ _ hne
theorem putT_at {nt : Nat} {t : Nat → AV} {d : Option Nat} {v : AV} {k : Nat} (h : d ≠ some k) : putT nt t d v k = t k := by
  cases d with
  | none => rfl
  | some d =>
    simp only [putT]
    split
    · exact upd_ne _ _ (fun e => h (by rw [e]))
    · rfl
theorem getA_congr {nt : Nat} {t t' : Nat → AV} {x : Operand} (h : ∀ k, x = .tmp k → t' k = t k) : getA nt t' x = getA nt t x := by
  cases x with
  | tmp k => simp only [getA]; rw [h k rfl]
  | const => rfl
  | global => rfl
  | func => rfl

theorem mapM_congr' {α β : Type} {f g : α → Option β} : ∀ {l : List α}, (∀ x ∈ l, f x = g x) → l.mapM f = l.mapM g
  | [], _ => rfl
  | x :: r, h => by
    rw [List.mapM_cons, List.mapM_cons, h x (List.mem_cons_self ..), mapM_congr' (fun y hy => h y (List.mem_cons_of_mem _ hy))]

/-- What an operation comes to hangs on its operands alone. -/
theorem evOp_congr {P : Program} {id : Nat} {H : Hp} {g g' : Operand → AV} {op : Op} (h : ∀ x ∈ op.operands, g' x = g x) : evOp P id H g' op = evOp P id H g op := by
  have hp : ∀ (ps : Array (Nat × Operand)), (∀ x ∈ (ps.toList.map (·.2)), g' x = g x) → (ps.toList.map fun p => (p.1, g' p.2)) = (ps.toList.map fun p => (p.1, g p.2)) := fun ps hx =>
    List.map_congr_left (fun p hp => by rw [hx p.2 (List.mem_map.2 ⟨p, hp, rfl⟩)])
  cases op with
  | build t ps => simp only [evOp]; rw [hp ps (fun x hx => h x (by simpa [Op.operands] using hx))]
  | buildSlice t n ps => simp only [evOp]; rw [hp ps (fun x hx => h x (by simpa [Op.operands] using hx))]
  | call c =>
    obtain ⟨callee, args, ts⟩ := c
    cases callee with
    | value => rfl
    | invoke => rfl
    | builtin b =>
      simp only [evOp]
      have ha : ∀ x ∈ args.toList, g' x = g x := fun x hx => h x (by simpa [Op.operands, Call.operands] using hx)
      split
      · rename_i x t ha' _; rw [ha x (by rw [ha']; simp)]
      · rename_i x y t u ha' _; rw [ha x (by rw [ha']; simp), ha y (by rw [ha']; simp)]
      · rename_i x y t u ha' _; rw [ha x (by rw [ha']; simp), ha y (by rw [ha']; simp)]
      · rename_i x y ha'; rw [ha x (by rw [ha']; simp), ha y (by rw [ha']; simp)]
      · rename_i x y ha'; rw [ha x (by rw [ha']; simp), ha y (by rw [ha']; simp)]
      · rfl
  | slice t x lo hi mx =>
    simp only [evOp]
    cases mx with
    | some m => rfl
    | none =>
      have e1 : g' x = g x := h x (by simp [Op.operands])
      have e2 : lo.map g' = lo.map g := by cases lo with | none => rfl | some l => simp only [Option.map_some]; rw [h l (by simp [Op.operands])]
      have e3 : hi.map g' = hi.map g := by cases hi with | none => rfl | some l => simp only [Option.map_some]; rw [h l (by simp [Op.operands])]
      rw [e1, e2, e3]
  | move x => simp only [evOp]; rw [h x (by simp [Op.operands])]
  | assign x => simp only [evOp]; rw [h x (by simp [Op.operands])]
  | pick c x y => simp only [evOp]; rw [h c (by simp [Op.operands]), h x (by simp [Op.operands]), h y (by simp [Op.operands])]
  | box e x => simp only [evOp]; rw [h x (by simp [Op.operands])]
  | load t x => simp only [evOp]; rw [h x (by simp [Op.operands])]
  | store t x y => simp only [evOp]; rw [h x (by simp [Op.operands]), h y (by simp [Op.operands])]
  | fieldAddr t x f => simp only [evOp]; rw [h x (by simp [Op.operands])]
  | indexAddr t x y => simp only [evOp]; rw [h x (by simp [Op.operands]), h y (by simp [Op.operands])]
  | nilCheck x => simp only [evOp]; rw [h x (by simp [Op.operands])]
  | binOp op t x y t' => simp only [evOp]; rw [h x (by simp [Op.operands]), h y (by simp [Op.operands])]
  | unOp op t x => simp only [evOp]; rw [h x (by simp [Op.operands])]
  | convert s d x => simp only [evOp]; rw [h x (by simp [Op.operands])]
  | index t x y => simp only [evOp]; rw [h x (by simp [Op.operands]), h y (by simp [Op.operands])]
  | makeSlice t x y => simp only [evOp]; rw [h x (by simp [Op.operands]), h y (by simp [Op.operands])]
  | extract x k => simp only [evOp]; rw [h x (by simp [Op.operands])]
  | _ => rfl
end Go.Proofs.YtnnmpdanfeejbaaGreat.Abs

/- The abstract machine: operations that have no order change places. -/
namespace Go.Proofs.YtnnmpdanfeejbaaGreat.Abs
open Go Go.RowKit
set_option linter.unusedVariables false
set_option linter.unusedSimpArgs false

def isCallB (op : Op) : Bool := match op with
  | .call { callee := .value (.func _), args := _, argTypes := _ } => true
  | _ => false
def apS (nt : Nat) (s : ASt) (d : Option Nat) (v : AV) (objs : List (Nat × Option Ob)) : ASt := { t := putT nt s.t d v, H := updL s.H objs, c := s.c }

section
variable {P : Program} {nt : Nat} {pc : Bool} {ops : Array Oper} {s s' : ASt}

def vals (nt : Nat) (s : ASt) (o : Oper) : List AV := o.op.operands.toList.map (getA nt s.t)

/-- A step without a call: carried out or left out. -/
def DetS (P : Program) (nt : Nat) (pc : Bool) (ops : Array Oper) (p : Nat) (o : Oper) (acc : List Fp) (s : ASt) (fp : Fp) (v : AV) (objs : List (Nat × Option Ob)) : Prop :=
  (goes ops nt o s false ∧ fp = skipFp p ∧ v = .tu [] ∧ objs = []) ∨
  (goes ops nt o s true ∧ isCallB o.op = false ∧ evOp P (s.c + 8 * p) (res (refsL (fv pc o.op (vals nt s o))) s.H) (getA nt s.t) o.op = some (v, objs) ∧ fp = detFp p (fv pc o.op (vals nt s o)) v objs ∧ Ck pc ops acc fp)

theorem gstep_cases {p : Nat} {o : Oper} {acc : List Fp} {K : Fp → ASt → Prop} : gstepD P nt p pc ops o acc s K ↔
    (∃ fp v objs, DetS P nt pc ops p o acc s fp v objs ∧ K fp (apS nt s o.dst v objs)) ∨
    (goes ops nt o s true ∧ ∃ f args ts, o.op = .call { callee := .value (.func f), args := args, argTypes := ts } ∧ CallD P nt f (args.toList.map (getA nt s.t)) p (s.c + 8 * p) s (fun fp => Ck pc ops acc fp) fun fp s' => K fp (s' o.dst)) := by
  have hstep : ∀ {K : Fp → ASt → Prop}, stepD P nt p pc ops o acc s K ↔ (∃ v objs, isCallB o.op = false ∧ evOp P (s.c + 8 * p) (res (refsL (fv pc o.op (vals nt s o))) s.H) (getA nt s.t) o.op = some (v, objs) ∧ Ck pc ops acc (detFp p (fv pc o.op (vals nt s o)) v objs) ∧ K (detFp p (fv pc o.op (vals nt s o)) v objs) (apS nt s o.dst v objs)) ∨
      (∃ f args ts, o.op = .call { callee := .value (.func f), args := args, argTypes := ts } ∧ CallD P nt f (args.toList.map (getA nt s.t)) p (s.c + 8 * p) s (fun fp => Ck pc ops acc fp) fun fp s' => K fp (s' o.dst)) := by
    intro K
    unfold stepD
    split
    · rename_i f args ts hop
      constructor
      · exact fun h => .inr ⟨f, args, ts, hop, h⟩
      · rintro (⟨v, objs, h, _⟩ | ⟨f', args', ts', h1, h2⟩)
        · rw [hop] at h; cases h
        · rw [hop] at h1
          cases h1
          exact h2
    · rename_i op hno
      have hnc : isCallB o.op = false := by
        unfold isCallB
        split
        · rename_i f args ts h
          exact absurd h (hno f args ts)
        · rfl
      constructor
      · intro h
        obtain ⟨v, objs, he, hc, hK⟩ := bindK_ex h
        exact .inl ⟨v, objs, hnc, he, hc, hK⟩
      · rintro (⟨v, objs, _, he, hc, hK⟩ | ⟨f', args', ts', h1, _⟩)
        · show bindK (evOp P _ _ _ o.op) _
          have he' : evOp P (s.c + 8 * p) (res (refsL (fv pc o.op (o.op.operands.toList.map (getA nt s.t)))) s.H) (getA nt s.t) o.op = some (v, objs) := he
          rw [he']
          exact ⟨hc, hK⟩
        · exact absurd h1 (hno f' args' ts')
  constructor
  · intro h
    rcases gstepD_goes h with ⟨hg, h⟩ | ⟨hg, h⟩
    · rcases hstep.1 h with ⟨v, objs, h1, h2, h3, h4⟩ | ⟨f, args, ts, h1, h2⟩
      · exact .inl ⟨_, v, objs, .inr ⟨hg, h1, h2, rfl, h3⟩, h4⟩
      · exact .inr ⟨hg, f, args, ts, h1, h2⟩
    · exact .inl ⟨_, _, _, .inl ⟨hg, rfl, rfl, rfl⟩, h⟩
  · rintro (⟨fp, v, objs, ⟨hg, rfl, rfl, rfl⟩ | ⟨hg, h1, h2, rfl, h3⟩, h4⟩ | ⟨hg, f, args, ts, h1, h2⟩)
    · exact gstepD_of (.inr ⟨hg, h4⟩)
    · exact gstepD_of (.inl ⟨hg, hstep.2 (.inl ⟨v, objs, h1, h2, h3, h4⟩)⟩)
    · exact gstepD_of (.inl ⟨hg, hstep.2 (.inr ⟨f, args, ts, h1, h2⟩)⟩)

theorem goes_congr {o : Oper} {b : Bool} (h : goes ops nt o s b) (hg : ∀ j w d, o.guard = some (j, w) → dstOf ops j = some d → s'.t d = s.t d) : goes ops nt o s' b := by
  unfold goes at h ⊢
  cases hgu : o.guard with
  | none => rw [hgu] at h; exact h
  | some jw =>
    obtain ⟨j, w⟩ := jw
    rw [hgu] at h
    obtain ⟨d, h1, h2, h3⟩ := h
    exact ⟨d, h1, h2, by rw [hg j w d hgu h1]; exact h3⟩

theorem res_congr {refs : List Nat} {H H' : Hp} (h : ∀ x ∈ refs, H' x = H x) : res refs H' = res refs H := by
  funext x
  unfold res
  split
  · rename_i hx; exact h x (by simpa using hx)
  · rfl

theorem DetS.loc {p : Nat} {o : Oper} {acc acc' : List Fp} {fp : Fp} {v : AV} {objs : List (Nat × Option Ob)} (h : DetS P nt pc ops p o acc s fp v objs) (ho : goes ops nt o s true → fp = detFp p (fv pc o.op (vals nt s o)) v objs → ∀ x ∈ o.op.operands, getA nt s'.t x = getA nt s.t x)
    (hg : ∀ j w d, o.guard = some (j, w) → dstOf ops j = some d → s'.t d = s.t d) (hH : ∀ x ∈ fp.refs, s'.H x = s.H x) (hc : s'.c = s.c) (hck : Ck pc ops acc fp → Ck pc ops acc' fp) : DetS P nt pc ops p o acc' s' fp v objs := by
  rcases h with ⟨h1, h2, h3, h4⟩ | ⟨h1, h2, h3, h4, h5⟩
  · exact .inl ⟨goes_congr h1 hg, h2, h3, h4⟩
  · have ho' := ho h1 h4
    have hv : vals nt s' o = vals nt s o := List.map_congr_left (fun x hx => ho' x (by simpa using hx))
    have hrefs : fp.refs = refsL (fv pc o.op (vals nt s o)) := by rw [h4]; rfl
    rw [hrefs] at hH
    refine .inr ⟨goes_congr h1 hg, h2, ?_, ?_, hck h5⟩
    · rw [hv, hc, res_congr hH, ← h3]
      exact evOp_congr ho'
    · rw [h4, hv]

theorem disj_iff {a b : List Nat} : disj a b = true ↔ ∀ x ∈ a, x ∉ b := by
  simp [disj]
theorem okPair_comm {x y : Fp} (h : okPair x y = true) : okPair y x = true := by
  simp only [okPair, Bool.and_eq_true, disj_iff, Bool.not_eq_true', Bool.or_eq_true] at h ⊢
  obtain ⟨⟨⟨h1, h2⟩, h3⟩, h4⟩ := h
  exact ⟨⟨⟨by rw [Bool.and_comm]; exact h1, h4⟩, fun a ha hb => h3 a hb ha⟩, h2⟩
theorem Ck_cons {acc : List Fp} {x f : Fp} : Ck pc ops (x :: acc) f ↔ (ordered ops f.p x.p = true ∨ okPair f x = true) ∧ Ck pc ops acc f := by
  simp only [Ck, chkB, List.all_cons, Bool.and_eq_true, Bool.or_eq_true]
  constructor
  · exact fun h => ⟨h.2.1, h.1, h.2.2⟩
  · exact fun h => ⟨h.2.1, h.1, h.2.2⟩
theorem Ck_sub {acc acc' : List Fp} {f : Fp} (h : ∀ x ∈ acc', x ∈ acc) (hc : Ck pc ops acc f) : Ck pc ops acc' f := by
  simp only [Ck, chkB, Bool.and_eq_true] at hc ⊢
  exact ⟨hc.1, List.all_eq_true.2 fun x hx => List.all_eq_true.1 hc.2 x (h x hx)⟩
theorem okPair_skip {p : Nat} {x : Fp} : okPair (skipFp p) x = true := by
  simp [okPair, skipFp, disj]

theorem DetS.fpp {p : Nat} {o : Oper} {acc : List Fp} {fp : Fp} {v : AV} {objs : List (Nat × Option Ob)} (h : DetS P nt pc ops p o acc s fp v objs) : fp.p = p ∧ fp.call = false ∧ fp.pas = false ∧ objs.map (·.1) = fp.wr := by
  rcases h with ⟨h1, rfl, h3, rfl⟩ | ⟨h1, h2, h3, rfl, h5⟩ <;> exact ⟨rfl, rfl, rfl, rfl⟩
/-- Two that have no order agree. -/
theorem DetS.okp {p q : Nat} {o : Oper} {acc : List Fp} {f fp : Fp} {v : AV} {objs : List (Nat × Option Ob)} (h : DetS P nt pc ops p o (f :: acc) s fp v objs) (hord : ordered ops p q = false) (hf : f.p = q) : okPair fp f = true ∧ (Ck pc ops acc fp ∨ fp = skipFp p) := by
  rcases h with ⟨h1, rfl, h3, rfl⟩ | ⟨h1, h2, h3, rfl, h5⟩
  · exact ⟨okPair_skip, .inr rfl⟩
  · have := Ck_cons.1 h5
    refine ⟨this.1.resolve_left (fun h => ?_), .inl this.2⟩
    rw [hf] at h
    have : ordered ops p q = true := h
    rw [hord] at this
    cases this

theorem apart_spec {x y : Oper} (h : apartB ops x y = true) : (∀ d, x.dst = some d → d ∉ y.looksAt ops ∧ y.dst ≠ some d) ∧ (∀ d, y.dst = some d → d ∉ x.looksAt ops ∧ x.dst ≠ some d) := by
  unfold apartB at h
  rw [Bool.and_eq_true] at h
  refine ⟨fun d hd => ?_, fun d hd => ?_⟩
  · have := h.1
    rw [hd] at this
    simpa using this
  · have := h.2
    rw [hd] at this
    simpa using this
theorem looks_op {o : Oper} {k : Nat} (h : Operand.tmp k ∈ o.op.operands) : k ∈ o.looksAt ops := by
  unfold Oper.looksAt
  refine List.mem_append_left _ (List.mem_filterMap.2 ⟨.tmp k, by simpa using h, rfl⟩)
theorem looks_guard {o : Oper} {j d : Nat} {w : Bool} (h : o.guard = some (j, w)) (hd : dstOf ops j = some d) : d ∈ o.looksAt ops := by
  unfold Oper.looksAt
  refine List.mem_append_right _ ?_
  rw [h]
  unfold dstOf at hd
  simp [hd]

/-- Slots that another's result doesn't touch. -/
theorem put_operands {x y : Oper} (h : apartB ops x y = true) {t : Nat → AV} {v : AV} : (∀ z ∈ y.op.operands, getA nt (putT nt t x.dst v) z = getA nt t z) ∧ (∀ j w d, y.guard = some (j, w) → dstOf ops j = some d → putT nt t x.dst v d = t d) := by
  have := (apart_spec h).1
  refine ⟨fun z hz => getA_congr (fun k hk => putT_at (fun hd => ?_)), fun j w d hg hd => putT_at (fun hx => (this d hx).1 (looks_guard hg hd))⟩
  subst hk
  exact (this k hd).1 (looks_op hz)
theorem apartB_comm {x y : Oper} (h : apartB ops x y = true) : apartB ops y x = true := by
  unfold apartB at h ⊢
  rw [Bool.and_comm]
  exact h
theorem dst_ne {x y : Oper} (h : apartB ops x y = true) : ∀ k, x.dst = some k → y.dst ≠ some k := fun k hk => ((apart_spec h).1 k hk).2
theorem ordered_comm {i j : Nat} : ordered ops i j = ordered ops j i := by unfold ordered; rw [Bool.or_comm]

theorem apS_comm {x y : Oper} (h : apartB ops x y = true) {v u : AV} {a b : List (Nat × Option Ob)} (hd : ∀ p ∈ a, ∀ q ∈ b, p.1 ≠ q.1) : apS nt (apS nt s x.dst v a) y.dst u b = apS nt (apS nt s y.dst u b) x.dst v a := by
  unfold apS
  simp only
  rw [putT_comm (dst_ne h), updL_comm hd]

theorem swap_det {i j : Nat} {oi oj : Oper} {acc : List Fp} (hap : apartB ops oj oi = true) (hord : ordered ops i j = false) {fj fi : Fp} {vj vi : AV} {bj bi : List (Nat × Option Ob)}
    (hj : DetS P nt pc ops j oj acc s fj vj bj) (hi : DetS P nt pc ops i oi (fj :: acc) (apS nt s oj.dst vj bj) fi vi bi) :
    DetS P nt pc ops i oi acc s fi vi bi ∧ DetS P nt pc ops j oj (fi :: acc) (apS nt s oi.dst vi bi) fj vj bj ∧ apS nt (apS nt s oj.dst vj bj) oi.dst vi bi = apS nt (apS nt s oi.dst vi bi) oj.dst vj bj := by
  obtain ⟨p1, c1, q1, w1⟩ := hj.fpp
  obtain ⟨p2, c2, q2, w2⟩ := hi.fpp
  obtain ⟨hok, _⟩ := hi.okp hord p1
  have hok' := okPair_comm hok
  simp only [okPair, Bool.and_eq_true, disj_iff] at hok hok'
  have hHi : ∀ x ∈ fi.refs, s.H x = (apS nt s oj.dst vj bj).H x := fun x hx => (updL_out (fun y hy e => hok'.1.1.2 y.1 (by rw [← w1]; exact List.mem_map_of_mem hy) (e ▸ hx))).symm
  have hHj : ∀ x ∈ fj.refs, (apS nt s oi.dst vi bi).H x = s.H x := fun x hx => updL_out (fun y hy e => hok.1.1.2 y.1 (by rw [← w2]; exact List.mem_map_of_mem hy) (e ▸ hx))
  have po := put_operands (nt := nt) hap (t := s.t) (v := vj)
  have po' := put_operands (nt := nt) (apartB_comm hap) (t := s.t) (v := vi)
  refine ⟨hi.loc (fun _ _ x hx => (po.1 x hx).symm) (fun j w d hg hd => (po.2 j w d hg hd).symm) hHi rfl (Ck_sub (fun x hx => List.mem_cons_of_mem _ hx)), hj.loc (fun _ _ => po'.1) po'.2 hHj rfl (fun hc => ?_), apS_comm hap (fun x hx y hy e => ?_)⟩
  · refine Ck_cons.2 ⟨.inr (by simp only [okPair, Bool.and_eq_true, disj_iff]; exact hok'), hc⟩
  · exact hok'.1.2 x.1 (by rw [← w1]; exact List.mem_map_of_mem hx) (by rw [← w2, e]; exact List.mem_map_of_mem hy)
end
end Go.Proofs.YtnnmpdanfeejbaaGreat.Abs

/- The abstract machine: a call and an operation that has no order to it change places. -/
namespace Go.Proofs.YtnnmpdanfeejbaaGreat.Abs
open Go Go.RowKit
set_option linter.unusedVariables false
set_option linter.unusedSimpArgs false

mutual
theorem nb_kill : (x : AV) → nbA x = true → killA x = x
  | .sl o n, _ => rfl
  | .pt o i j, _ => rfl
  | .ag cs, h => by
    show AV.ag (killL cs) = .ag cs
    rw [nb_killL cs h]
  | .tu cs, h => by
    show AV.tu (killL cs) = .tu cs
    rw [nb_killL cs h]
  | .c x, _ => rfl
  | .nul, _ => rfl
  | .any, _ => rfl
  | .bw x, h => by cases h
termination_by structural x => x
theorem nb_killL : (l : List AV) → nbL l = true → killL l = l
  | [], _ => rfl
  | x :: r, h => by
    simp only [nbL, Bool.and_eq_true] at h
    show killA x :: killL r = x :: r
    rw [nb_kill x h.1, nb_killL r h.2]
termination_by structural l => l
end
theorem nb_killO {x : Ob} (h : nbO (some x) = true) : killO x = x := by
  cases x with
  | box ty cs =>
    show Ob.box ty (killL cs) = _
    rw [nb_killL cs h]
  | rw => rfl
theorem nbL_mem {l : List AV} (h : nbL l = true) : ∀ x ∈ l, nbA x = true := by
  induction l with
  | nil => exact fun x hx => by simp at hx
  | cons y r ih =>
    simp only [nbL, Bool.and_eq_true] at h
    intro x hx
    rcases List.mem_cons.1 hx with rfl | hx
    · exact h.1
    · exact ih h.2 x hx
theorem klA_nb {ps : List Nat} {x : AV} (h : ps.isEmpty = true ∨ nbA x = true) : klA ps x = x := by
  unfold klA
  split
  · rfl
  · rename_i hn
    exact nb_kill x (h.resolve_left hn)

section
variable {P : Program} {nt : Nat} {pc : Bool} {ops : Array Oper} {s s' : ASt}

theorem goes_unique {o : Oper} {b b' : Bool} (h : goes ops nt o s b) (h' : goes ops nt o s b') : b = b' := by
  unfold goes at h h'
  cases hg : o.guard with
  | none => rw [hg] at h h'; simp only at h h'; rw [h, h']
  | some jw =>
    obtain ⟨j, w⟩ := jw
    rw [hg] at h h'
    obtain ⟨d, h1, h2, ⟨v, h3, h4⟩ | ⟨h3, h4⟩⟩ := h <;> obtain ⟨d', h1', h2', ⟨v', h3', h4'⟩ | ⟨h3', h4'⟩⟩ := h' <;> rw [h1] at h1' <;> cases h1' <;> rw [h3] at h3' <;> cases h3' <;> rw [h4, h4']
theorem DetS.unique {p : Nat} {o : Oper} {acc acc' : List Fp} {fp fp' : Fp} {v v' : AV} {b b' : List (Nat × Option Ob)} (h : DetS P nt pc ops p o acc s fp v b) (h' : DetS P nt pc ops p o acc' s fp' v' b') : fp = fp' ∧ v = v' ∧ b = b' := by
  rcases h with ⟨h1, rfl, rfl, rfl⟩ | ⟨h1, h2, h3, rfl, h5⟩ <;> rcases h' with ⟨g1, rfl, rfl, rfl⟩ | ⟨g1, g2, g3, rfl, g5⟩
  · exact ⟨rfl, rfl, rfl⟩
  · have := goes_unique h1 g1; cases this
  · have := goes_unique h1 g1; cases this
  · rw [h3] at g3
    cases g3
    exact ⟨rfl, rfl, rfl⟩

theorem callObjs_ids {ps : List Nat} {id : Nat} {out : List (Option Ob)} (h : out.length ≤ ps.length + 8) : ∀ x ∈ callObjs ps id 0 out, x.1 ∈ ps ++ (List.range 8).map (id + ·) := by
  intro x hx
  obtain ⟨j, y, hj, rfl⟩ := callObjs_mem hx
  rw [Nat.zero_add]
  by_cases hjp : j < ps.length
  · rw [rn_pass (List.getElem?_eq_getElem hjp)]
    exact List.mem_append_left _ (List.getElem_mem hjp)
  · rw [rn_new (by omega)]
    have := (List.getElem?_eq_some_iff.1 hj).1
    exact List.mem_append_right _ (List.mem_map.2 ⟨j - ps.length, List.mem_range.2 (by omega), rfl⟩)

/-- What a call leaves, seen by an operation that has no order to it. -/
theorem after_loc {p i : Nat} {o oi : Oper} {acc acc' : List Fp} {fp : Fp} {v : AV} {objs : List (Nat × Option Ob)} {ps used : List Nat} {id : Nat} {r : AV} {out : List (Option Ob)} {bb : Bool} (hap : apartB ops oi o = true) (hout : out.length ≤ ps.length + 8)
    (h : DetS P nt pc ops p o acc s fp v objs) (hok : okPair fp ⟨i, used ++ ps, ps ++ (List.range 8).map (id + ·), true, bb, true⟩ = true) (hck : Ck pc ops acc fp → Ck pc ops acc' fp) : DetS P nt pc ops p o acc' (after0 nt s ps id oi.dst r out) fp v objs := by
  simp only [okPair, Bool.and_eq_true, disj_iff] at hok
  have po := put_operands (nt := nt) hap (t := s.t) (v := renA (rn ps id) r)
  exact h.loc (fun _ _ => po.1) po.2 (fun x hx => updL_out (fun y hy e => hok.2 y.1 (callObjs_ids hout y hy) (e ▸ hx))) rfl hck
theorem after_back {p i : Nat} {o oi : Oper} {acc acc' : List Fp} {fp : Fp} {v : AV} {objs : List (Nat × Option Ob)} {ps used : List Nat} {id : Nat} {r : AV} {out : List (Option Ob)} {bb : Bool} (hap : apartB ops oi o = true) (hout : out.length ≤ ps.length + 8)
    (h : DetS P nt pc ops p o acc (after0 nt s ps id oi.dst r out) fp v objs) (hok : okPair fp ⟨i, used ++ ps, ps ++ (List.range 8).map (id + ·), true, bb, true⟩ = true) (hck : Ck pc ops acc fp → Ck pc ops acc' fp) : DetS P nt pc ops p o acc' s fp v objs := by
  simp only [okPair, Bool.and_eq_true, disj_iff] at hok
  have po := put_operands (nt := nt) hap (t := s.t) (v := renA (rn ps id) r)
  exact h.loc (fun _ _ x hx => (po.1 x hx).symm) (fun j w d hg hd => (po.2 j w d hg hd).symm) (fun x hx => (updL_out (fun y hy e => hok.2 y.1 (callObjs_ids hout y hy) (e ▸ hx))).symm) rfl hck

theorem after_comm {p i : Nat} {o oi : Oper} {acc : List Fp} {fp : Fp} {v : AV} {objs : List (Nat × Option Ob)} {s0 : ASt} {ps used : List Nat} {id : Nat} {r : AV} {out : List (Option Ob)} {bb : Bool} (hap : apartB ops oi o = true) (hout : out.length ≤ ps.length + 8)
    (h : DetS P nt pc ops p o acc s0 fp v objs) (hok : okPair fp ⟨i, used ++ ps, ps ++ (List.range 8).map (id + ·), true, bb, true⟩ = true) :
    apS nt (after0 nt s ps id oi.dst r out) o.dst v objs = after0 nt (apS nt s o.dst v objs) ps id oi.dst r out := by
  have hw := h.fpp.2.2.2
  simp only [okPair, Bool.and_eq_true, disj_iff] at hok
  unfold apS after0
  simp only
  rw [putT_comm (dst_ne hap), updL_comm (fun x hx y hy e => ?_)]
  exact hok.1.2 y.1 (by rw [← hw]; exact List.mem_map_of_mem hy) (by rw [← e]; exact callObjs_ids hout x hx)

/-- The call is seen alike. -/
theorem CallD.congr {f p id : Nat} {args args' : List AV} {C C' : Fp → Prop} {K K' : Fp → (Option Nat → ASt) → Prop} (h : CallD P nt f args p id s C K) (ha : args' = args)
    (hc : ∀ used ps, C ⟨p, used ++ ps, ps ++ (List.range 8).map (id + ·), true, !ps.isEmpty, true⟩ → C' ⟨p, used ++ ps, ps ++ (List.range 8).map (id + ·), true, !ps.isEmpty, true⟩ ∧ ∀ x ∈ used ++ ps, s'.H x = s.H x)
    (hk : ∀ used ps r out, C ⟨p, used ++ ps, ps ++ (List.range 8).map (id + ·), true, !ps.isEmpty, true⟩ → out.length ≤ ps.length + 8 → K ⟨p, used ++ ps, ps ++ (List.range 8).map (id + ·), true, !ps.isEmpty, true⟩ (fun d => after0 nt s ps id d r out) →
      K' ⟨p, used ++ ps, ps ++ (List.range 8).map (id + ·), true, !ps.isEmpty, true⟩ (fun d => after0 nt s' ps id d r out)) : CallD P nt f args' p id s' C' K' := by
  obtain ⟨used, bor, ps, Hin, args0, Post, h1, h2, h3, h4, h5, h6, h7, h8, h9⟩ := h
  obtain ⟨g1, g2⟩ := hc used ps h7
  have hres : res used s'.H = res used s.H := res_congr (fun x hx => g2 x (List.mem_append_left _ hx))
  refine ⟨used, bor, ps, Hin, args0, Post, h1, h2, h3, by rw [hres]; exact h4, by rw [ha]; exact h5, by rw [hres, ha]; exact h6, g1, h8, fun r out hP => ?_⟩
  obtain ⟨q1, q2, q3, q4⟩ := h9 r out hP
  exact ⟨q1, q2, q3, hk used ps r out h7 q2 q4⟩

theorem drawR_sub {l : List (Nat × Oper)} : ∀ {acc acc' : List Fp} {s : ASt} {K : ASt → Prop}, (∀ x ∈ acc', x ∈ acc) → drawR P nt pc ops l acc s K → drawR P nt pc ops l acc' s K := by
  induction l with
  | nil => exact fun _ h => h
  | cons x r ih =>
    intro acc acc' s K hs h
    obtain ⟨p, o⟩ := x
    have hcons : ∀ (f : Fp), ∀ y ∈ f :: acc', y ∈ f :: acc := fun f y hy => by
      rcases List.mem_cons.1 hy with rfl | hy
      · exact List.mem_cons_self ..
      · exact List.mem_cons_of_mem _ (hs y hy)
    rcases gstep_cases.1 h with ⟨fp, v, objs, hd, hK⟩ | ⟨hg, f, args, ts, ho, hc⟩
    · exact gstep_cases.2 (.inl ⟨fp, v, objs, hd.loc (fun _ _ _ _ => rfl) (fun _ _ _ _ _ => rfl) (fun _ _ => rfl) rfl (Ck_sub hs), ih (hcons fp) hK⟩)
    · exact gstep_cases.2 (.inr ⟨hg, f, args, ts, ho, hc.congr rfl (fun used ps hck => ⟨Ck_sub hs hck, fun _ _ => rfl⟩) (fun used ps r out _ _ hK => ih (hcons _) hK)⟩)

/-- Two neighbours without an order change places. -/
theorem drawR_swap {i j : Nat} {oi oj : Oper} {l : List (Nat × Oper)} {acc : List Fp} {K : ASt → Prop} (hap : apartB ops oj oi = true) (hord : ordered ops i j = false)
    (h : drawR P nt pc ops ((j, oj) :: (i, oi) :: l) acc s K) : drawR P nt pc ops ((i, oi) :: (j, oj) :: l) acc s K := by
  have hap' := apartB_comm hap
  have hperm : ∀ (x y : Fp) (a : List Fp), ∀ z ∈ x :: y :: a, z ∈ y :: x :: a := fun x y a z hz => by
    simp only [List.mem_cons] at hz ⊢
    rcases hz with h | h | h
    · exact .inr (.inl h)
    · exact .inl h
    · exact .inr (.inr h)
  rcases gstep_cases.1 h with ⟨fj, vj, bj, hj, h⟩ | ⟨hgj, f, args, ts, hoj, hc⟩
  · rcases gstep_cases.1 h with ⟨fi, vi, bi, hi, h⟩ | ⟨hgi, f, args, ts, hoi, hc⟩
    · obtain ⟨h1, h2, h3⟩ := swap_det hap hord hj hi
      refine gstep_cases.2 (.inl ⟨fi, vi, bi, h1, gstep_cases.2 (.inl ⟨fj, vj, bj, h2, ?_⟩)⟩)
      rw [← h3]
      exact drawR_sub (hperm _ _ _) h
    · -- a step, then a call
      have po := put_operands (nt := nt) hap (t := s.t) (v := vj)
      have hpj := hj.fpp.1
      have key : ∀ used ps, Ck pc ops (fj :: acc) ⟨i, used ++ ps, ps ++ (List.range 8).map (s.c + 8 * i + ·), true, !ps.isEmpty, true⟩ → okPair ⟨i, used ++ ps, ps ++ (List.range 8).map (s.c + 8 * i + ·), true, !ps.isEmpty, true⟩ fj = true ∧ Ck pc ops acc ⟨i, used ++ ps, ps ++ (List.range 8).map (s.c + 8 * i + ·), true, !ps.isEmpty, true⟩ := fun used ps hck => by
        have := Ck_cons.1 hck
        refine ⟨this.1.resolve_left (fun h => ?_), this.2⟩
        rw [hpj] at h
        have : ordered ops i j = true := h
        rw [hord] at this
        cases this
      refine gstep_cases.2 (.inr ⟨goes_congr hgi (fun j w d hg hd => (po.2 j w d hg hd).symm), f, args, ts, hoi, CallD.congr (s := apS nt s oj.dst vj bj) (s' := s) hc (List.map_congr_left (fun x hx => (po.1 x (by rw [hoi]; simpa [Op.operands, Call.operands] using Or.inr hx)).symm)) (fun used ps hck => ⟨(key used ps hck).2, fun x hx => ?_⟩) (fun used ps r out hck hout hK => ?_)⟩)
      · have hok := (key used ps hck).1
        simp only [okPair, Bool.and_eq_true, disj_iff] at hok
        exact (updL_out (fun y hy e => hok.2 y.1 (by rw [← hj.fpp.2.2.2]; exact List.mem_map_of_mem hy) (e ▸ hx))).symm
      · have hok := okPair_comm (key used ps hck).1
        refine gstep_cases.2 (.inl ⟨fj, vj, bj, after_loc hap' hout hj hok (fun hc => Ck_cons.2 ⟨.inr hok, hc⟩), ?_⟩)
        rw [after_comm hap' hout hj hok]
        exact drawR_sub (hperm _ _ _) hK
  · -- a call, then a step or a call
    obtain ⟨used, bor, ps, Hin, args0, Post, h1, h2, h3, h4, h5, h6, h7, ⟨r0, out0, hP0⟩, h9⟩ := hc
    obtain ⟨q1, q2, q3, q4⟩ := h9 r0 out0 hP0
    have hnc : ∀ (r : AV) (out : List (Option Ob)), out.length ≤ ps.length + 8 → drawR P nt pc ops ((i, oi) :: l) (⟨j, used ++ ps, ps ++ (List.range 8).map (s.c + 8 * j + ·), true, !ps.isEmpty, true⟩ :: acc) (after0 nt s ps (s.c + 8 * j) oj.dst r out) K →
        ∃ fi vi bi, DetS P nt pc ops i oi (⟨j, used ++ ps, ps ++ (List.range 8).map (s.c + 8 * j + ·), true, !ps.isEmpty, true⟩ :: acc) (after0 nt s ps (s.c + 8 * j) oj.dst r out) fi vi bi ∧
          drawR P nt pc ops l (fi :: ⟨j, used ++ ps, ps ++ (List.range 8).map (s.c + 8 * j + ·), true, !ps.isEmpty, true⟩ :: acc) (apS nt (after0 nt s ps (s.c + 8 * j) oj.dst r out) oi.dst vi bi) K := fun r out hout hK => by
      rcases gstep_cases.1 hK with ⟨fi, vi, bi, hi, h⟩ | ⟨hgi, f', args', ts', hoi, used', bor', ps', Hin', args0', Post', _, _, _, _, _, _, g7, _⟩
      · exact ⟨fi, vi, bi, hi, h⟩
      · exfalso
        have := (Ck_cons.1 g7).1
        rcases this with h | h
        · have h' : ordered ops i j = true := h
          rw [hord] at h'
          cases h'
        · simp [okPair] at h
    obtain ⟨fi, vi, bi, hi, hrest⟩ := hnc r0 out0 q2 q4
    have hpi := hi.fpp.1
    obtain ⟨hok, _⟩ := hi.okp hord rfl
    have hi0 : DetS P nt pc ops i oi acc s fi vi bi := after_back hap q2 hi hok (fun hc => Ck_sub (fun x hx => List.mem_cons_of_mem _ hx) hc)
    refine gstep_cases.2 (.inl ⟨fi, vi, bi, hi0, gstep_cases.2 (.inr ⟨goes_congr hgj (fun jj w d hg hd => (put_operands (nt := nt) hap' (t := s.t) (v := vi)).2 jj w d hg hd), f, args, ts, hoj, ?_⟩)⟩)
    have po := put_operands (nt := nt) hap' (t := s.t) (v := vi)
    have hcall : CallD P nt f (args.toList.map (getA nt s.t)) j (s.c + 8 * j) s (fun fp => Ck pc ops acc fp) fun fp s' => ∀ r out, s' = (fun d => after0 nt s ps (s.c + 8 * j) d r out) → out.length ≤ ps.length + 8 → fp = ⟨j, used ++ ps, ps ++ (List.range 8).map (s.c + 8 * j + ·), true, !ps.isEmpty, true⟩ → drawR P nt pc ops ((i, oi) :: l) (fp :: acc) (s' oj.dst) K := by
      refine ⟨used, bor, ps, Hin, args0, Post, h1, h2, h3, h4, h5, h6, h7, ⟨r0, out0, hP0⟩, fun r out hP => ?_⟩
      obtain ⟨a1, a2, a3, a4⟩ := h9 r out hP
      exact ⟨a1, a2, a3, fun r' out' he ho hf => a4⟩
    have hargs : args.toList.map (getA nt (apS nt s oi.dst vi bi).t) = args.toList.map (getA nt s.t) := List.map_congr_left (fun x hx => po.1 x (by rw [hoj]; simpa [Op.operands, Call.operands] using Or.inr hx))
    have hokc := okPair_comm hok
    have hokc' := hokc
    simp only [okPair, Bool.and_eq_true, disj_iff] at hokc
    have hHs : ∀ x ∈ used ++ ps, (apS nt s oi.dst vi bi).H x = s.H x := fun x hx => updL_out (fun y hy e => hokc.2 y.1 (by rw [← hi.fpp.2.2.2]; exact List.mem_map_of_mem hy) (e ▸ hx))
    have hres : res used (apS nt s oi.dst vi bi).H = res used s.H := res_congr (fun x hx => hHs x (List.mem_append_left _ hx))
    refine ⟨used, bor, ps, Hin, args0, Post, h1, h2, h3, by rw [hres]; exact h4, by rw [hargs]; exact h5, by rw [hres, hargs]; exact h6, Ck_cons.2 ⟨.inr hokc', h7⟩, ⟨r0, out0, hP0⟩, fun r out hP => ?_⟩
    obtain ⟨a1, a2, a3, a4⟩ := h9 r out hP
    refine ⟨a1, a2, a3, ?_⟩
    obtain ⟨fi', vi', bi', hi', hrest'⟩ := hnc r out a2 a4
    obtain ⟨hok'', _⟩ := hi'.okp hord rfl
    have hi1 : DetS P nt pc ops i oi acc s fi' vi' bi' := after_back hap a2 hi' hok'' (fun hc => Ck_sub (fun x hx => List.mem_cons_of_mem _ hx) hc)
    obtain ⟨rfl, rfl, rfl⟩ := hi0.unique hi1
    have hcm := after_comm (s := s) (r := r) (out := out) hap a2 hi0 hok''
    show drawR P nt pc ops l _ (after0 nt (apS nt s oi.dst vi bi) ps (s.c + 8 * j) oj.dst r out) K
    rw [← hcm]
    exact drawR_sub (hperm _ _ _) hrest'
end
end Go.Proofs.YtnnmpdanfeejbaaGreat.Abs

/- The abstract machine: a region that draws its order holds of the model, whatever order is drawn. -/
namespace Go.Proofs.YtnnmpdanfeejbaaGreat.Abs
open Go Go.RowKit
set_option linter.unusedVariables false
set_option linter.unusedSimpArgs false

theorem View.monoH {bor : Bool} {H H' : Hp} {ps : List Nat} (hH : ∀ o ob, H o = some ob → H' o = some ob) {x y : AV} (h : View bor H ps x y) : View bor H' ps x y := by
  induction h with
  | c x x' h => exact .c x x' h
  | same x => exact .same x
  | bw x x' h1 h2 h3 => exact .bw x x' h1 h2 h3
  | nul => exact .nul
  | nulR k => exact .nulR k
  | any x => exact .any x
  | slP o n k h => exact .slP o n k h
  | slB o n ty sz es x' h1 h2 h3 h4 h5 => exact .slB o n ty sz es x' h1 h2 (hH _ _ h3) h4 h5
  | ptP o i j k h => exact .ptP o i j k h
  | ptB o j ty cs cs' h1 h2 h3 h4 _ ih => exact .ptB o j ty cs cs' h1 h2 (hH _ _ h3) h4 ih
  | ptE o i j ty sz es e e' h1 h2 h3 h4 h5 => exact .ptE o i j ty sz es e e' h1 h2 (hH _ _ h3) h4 h5
  | ag cs cs' h _ ih => exact .ag cs cs' h ih
theorem ViewO.monoH {bor : Bool} {H H' : Hp} {ps : List Nat} (hH : ∀ o ob, H o = some ob → H' o = some ob) {x y : Ob} (h : ViewO bor H ps x y) : ViewO bor H' ps x y := by
  cases x <;> cases y <;> first | exact h.elim | exact h | exact ⟨h.1, h.2.1, fun i c c' hc hc' => (h.2.2 i c c' hc hc').monoH hH⟩

theorem res_le (refs : List Nat) (H : Hp) : ∀ o ob, res refs H o = some ob → H o = some ob := by
  intro o ob h
  unfold res at h
  split at h
  · exact h
  · cases h

section
variable {P : Program} {nt : Nat} {I : Ini} {pc : Bool} {ops : Array Oper} {s : ASt} {E : Env} {a : Act} {w : World}

theorem NoB.kl (h : NoB s) (ps : List Nat) : kl ps s.t = s.t ∧ klH ps s.H = s.H := by
  constructor
  · funext k
    rw [kl_at]
    exact klA_nb (.inr (h.1 k))
  · unfold klH
    split
    · rfl
    · funext o
      have := h.2 o
      show (s.H o).map killO = s.H o
      cases hh : s.H o with
      | none => rfl
      | some ob => rw [hh] at this; simp only [Option.map_some, nb_killO this]

theorem rs_nb {bor : Bool} {m : Nat} {f : Nat → Nat} {x : AV} (h : Rs bor m x) : nbA (renA f x) = true := by
  have hl : ∀ (l : List AV), (∀ c ∈ l, nbA (renA f c) = true) → nbL (renL f l) = true := by
    intro l
    induction l with
    | nil => exact fun _ => rfl
    | cons y r ih =>
      intro hy
      show (nbA (renA f y) && nbL (renL f r)) = true
      rw [hy y (List.mem_cons_self ..), ih (fun z hz => hy z (List.mem_cons_of_mem _ hz))]
      rfl
  induction h with
  | v x => rfl
  | c x _ => rfl
  | nul => rfl
  | any => rfl
  | sl o n _ _ => rfl
  | pt o i j _ _ => rfl
  | ag cs _ ih => exact hl cs ih
  | tu cs _ ih => exact hl cs ih

theorem rsL_nb {bor : Bool} {m : Nat} {f : Nat → Nat} {l : List AV} (h : ∀ c ∈ l, Rs bor m c) : nbL (renL f l) = true := by
  induction l with
  | nil => rfl
  | cons y r ih =>
    show (nbA (renA f y) && nbL (renL f r)) = true
    rw [rs_nb (h y (List.mem_cons_self ..)), ih (fun z hz => h z (List.mem_cons_of_mem _ hz))]
    rfl
theorem CallOk.rs {P : Program} {f : Nat} {Hin : List Ob} {args : List AV} {Post : AV → List (Option Ob) → Prop} (h : CallOk P f Hin args Post) :
    CallOk P f Hin args (fun r out => Post r out ∧ Rs false out.length r ∧ ∀ ob, some ob ∈ out → RsOb false out.length ob) := by
  refine ⟨h.1, fun w E vals h1 h2 h3 h4 => (h.2 w E vals h1 h2 h3 h4).mono ?_⟩
  rintro e w' ⟨u, r, out, E', rfl, hP, hr, hlive, hrs, hros, rest⟩
  exact ⟨u, r, out, E', rfl, ⟨hP, hrs, hros⟩, hr, hlive, hrs, hros, rest⟩

theorem NoB.put (h : NoB s) {d : Option Nat} {v : AV} {objs : List (Nat × Option Ob)} (hv : nbA v = true) (ho : ∀ x ∈ objs, nbO x.2 = true) : NoB { t := putT nt s.t d v, H := updL s.H objs, c := s.c } := by
  refine ⟨fun k => ?_, fun o => ?_⟩
  · show nbA (putT nt s.t d v k) = true
    cases d with
    | none => exact h.1 k
    | some d =>
      simp only [putT]
      split
      · rw [upd_at]
        split
        · exact hv
        · exact h.1 k
      · exact h.1 k
  · show nbO (updL s.H objs o) = true
    by_cases hx : ∃ x ∈ objs, x.1 = o
    · have : ∀ (l : List (Nat × Option Ob)) (H : Hp), (∀ x ∈ l, nbO x.2 = true) → (∀ o, nbO (H o) = true) → ∀ o, nbO (updL H l o) = true := by
        intro l
        induction l with
        | nil => exact fun H _ h => h
        | cons y r ih =>
          intro H hl hH o
          refine ih (upd H y.1 y.2) (fun z hz => hl z (List.mem_cons_of_mem _ hz)) (fun q => ?_) o
          rw [upd_at]
          split
          · exact hl y (List.mem_cons_self ..)
          · exact hH q
      exact this objs s.H ho h.2 o
    · rw [updL_out (fun x hx' e => hx ⟨x, hx', e⟩)]
      exact h.2 o

theorem gstepD_mono {p : Nat} {o : Oper} {acc : List Fp} {K K' : Fp → ASt → Prop} (hk : ∀ fp s', K fp s' → K' fp s') (h : gstepD P nt p pc ops o acc s K) : gstepD P nt p pc ops o acc s K' := by
  rcases gstep_cases.1 h with ⟨fp, v, objs, hd, hK⟩ | ⟨hg, f, args, ts, ho, hc⟩
  · exact gstep_cases.2 (.inl ⟨fp, v, objs, hd, hk _ _ hK⟩)
  · exact gstep_cases.2 (.inr ⟨hg, f, args, ts, ho, hc.congr rfl (fun used ps hck => ⟨hck, fun _ _ => rfl⟩) (fun used ps r out _ _ hK => hk _ _ hK)⟩)

theorem moveFront {i : Nat} {oi : Oper} {post : List (Nat × Oper)} {K : ASt → Prop} : ∀ {pre : List (Nat × Oper)} {acc : List Fp} {s : ASt}, (∀ x ∈ pre, apartB ops x.2 oi = true ∧ ordered ops i x.1 = false) →
    drawR P nt pc ops (pre ++ (i, oi) :: post) acc s K → drawR P nt pc ops ((i, oi) :: (pre ++ post)) acc s K
  | [], acc, s, _, h => h
  | (j, oj) :: pre, acc, s, hx, h => by
    have h1 : drawR P nt pc ops ((j, oj) :: (i, oi) :: (pre ++ post)) acc s K := gstepD_mono (fun fp s' hK => moveFront (fun x hx' => hx x (List.mem_cons_of_mem _ hx')) hK) h
    obtain ⟨h2, h3⟩ := hx (j, oj) (List.mem_cons_self ..)
    exact drawR_swap h2 h3 h1

theorem goes_wanted {o : Oper} {b : Bool} {U : Nat → Prop} (hR : RelE nt I U s E a w) (h : goes ops nt o s b) : Region.wanted o (yielded ops a.tmps) = b := by
  unfold goes at h
  cases hg : o.guard with
  | none => rw [hg] at h; simp only at h; simp [Region.wanted, hg, h]
  | some jw =>
    obtain ⟨j, want⟩ := jw
    rw [hg] at h
    obtain ⟨d, hd, hlt, hb⟩ := h
    rcases hb with ⟨v, hb, rfl⟩ | ⟨hb, rfl⟩
    rotate_left
    · have hk : d < a.tmps.size := by rw [hR.size]; exact hlt
      have h3 := hR.slots d a.tmps[d] (Array.getElem?_eq_getElem hk)
      rw [hb] at h3
      unfold Region.wanted
      rw [hg]
      simp only [yielded]
      unfold dstOf at hd
      rw [hd]
      generalize hq : a.tmps[d] = q at h3
      cases h3
      simp [hq, Array.getElem?_eq_getElem hk]
    have hk : d < a.tmps.size := by rw [hR.size]; exact hlt
    have h3 := hR.slots d a.tmps[d] (Array.getElem?_eq_getElem hk)
    rw [hb] at h3
    have hsl : a.tmps[d]? = some (.bool v) := by
      cases h3 with
      | c _ _ h3 =>
        generalize hq : a.tmps[d] = q at h3
        cases h3
        rw [Array.getElem?_eq_getElem hk, hq]
    unfold Region.wanted
    rw [hg]
    simp only [yielded]
    unfold dstOf at hd
    rw [hd]
    simp only [Option.bind_some, hsl]
    cases v <;> cases want <;> rfl

theorem gstepD_sound {o : Oper} {p : Nat} {acc : List Fp} {K : Fp → ASt → Prop} {U : Nat → Prop} (hR : RelE nt I U s E a w) (hU : ∀ j, j < 8 → ¬ U (s.c + 8 * p + j)) (hnb : pc = true → NoB s) (h : gstepD P nt p pc ops o acc s K) {next : Act → World → Prop} {Q : Exit → Act → World → Prop}
    (hn : ∀ fp s' E' a' w', K fp s' → s'.c = s.c → (pc = true → NoB s') → RelE nt I (fun o => U o ∨ ∃ j, j < 8 ∧ o = s.c + 8 * p + j) s' E' a' w' → next a' w') :
    if Region.wanted o (yielded ops a.tmps) then o.wp P a w next Q else next (a.put o.dst undef) w := by
  have hU0 : ¬ U (s.c + 8 * p) := by simpa using hU 0 (by omega)
  have hmono : ∀ {s' : ASt} {E' : Env} {a' : Act} {w' : World}, RelE nt I (fun o => U o ∨ o = s.c + 8 * p) s' E' a' w' → RelE nt I (fun o => U o ∨ ∃ j, j < 8 ∧ o = s.c + 8 * p + j) s' E' a' w' := fun h => h.mono (fun q hq => hq.imp (fun h => h) (fun h => ⟨0, by omega, by omega⟩))
  rcases gstep_cases.1 h with ⟨fp, v, objs, hd, hK⟩ | ⟨hg, f, args, ts, hop, hc⟩
  · rcases hd with ⟨h1, rfl, rfl, rfl⟩ | ⟨h1, h2, h3, rfl, h5⟩
    · rw [goes_wanted hR h1]
      rw [if_neg (by simp)]
      have fx : Fx w E s.H U (s.c + 8 * p) (.tu []) [] undef w E := Fx.same hR.locLt (.tu [] #[] rfl (fun i c u hc _ => by simp at hc)) (.tu _ (fun x hx => by simp at hx))
      exact hn _ _ E _ w hK rfl (fun hp => (hnb hp).put rfl (fun x hx => by simp at hx)) (hmono (Rel.step hR hU0 fx o.dst))
    · rw [goes_wanted hR h1, if_pos rfl]
      refine upon_good (ev_sound hR hU0 (res_le _ _) h3) (fun u w' E' hf => hn _ _ E' _ w' hK rfl (fun hp => (hnb hp).put ?_ ?_) (hmono (Rel.step hR hU0 hf o.dst)))
      · simp only [Ck, Bool.and_eq_true, detFp, hp, Bool.not_true, Bool.false_or] at h5
        exact h5.1.1.1
      · simp only [Ck, Bool.and_eq_true, detFp, hp, Bool.not_true, Bool.false_or] at h5
        exact List.all_eq_true.1 h5.1.1.2
  · rw [goes_wanted hR hg, if_pos rfl]
    obtain ⟨used, bor, ps, Hin, args', Post, hok, hnd, hl, hin, hal, hav, hck, _, hpost⟩ := hc
    have hkl : kl ps s.t = s.t ∧ klH ps s.H = s.H := by
      by_cases hps : ps = []
      · subst hps; exact ⟨rfl, rfl⟩
      · simp only [Ck, Bool.and_eq_true, Bool.or_eq_true, Bool.not_eq_true', Bool.not_eq_false'] at hck
        have : pc = true := by
          rcases hck.1.2 with h | h
          · exact absurd (List.isEmpty_iff.1 (by simpa using h)) hps
          · exact h
        exact (hnb this).kl ps
    have hafter : ∀ id d r out, after nt s ps id d r out = after0 nt s ps id d r out := fun id d r out => by
      unfold after after0
      rw [hkl.1, hkl.2]
    have hstp : stp P nt p o s (fun s' => ∃ fp, K fp s' ∧ (pc = true → NoB s')) := by
      unfold stp
      rw [hop]
      refine ⟨bor, ps, Hin, args', _, hok.rs, hnd, hl, fun k q hk => ?_, hal, fun i x x' hx hx' => (hav i x x' hx hx').monoH (res_le _ _), fun r out ⟨hP, hrs, hros⟩ => ?_⟩
      · obtain ⟨ob, ob', h1, h2, h3⟩ := hin k q hk
        exact ⟨ob, ob', res_le _ _ _ _ h1, h2, h3.monoH (res_le _ _)⟩
      · obtain ⟨q1, q2, q3, q4⟩ := hpost r out hP
        refine ⟨q1, q2, q3, ?_⟩
        rw [hafter]
        refine ⟨_, q4, fun hp => (hnb hp).put (rs_nb hrs) (fun x hx => ?_)⟩
        obtain ⟨j, y, hj, rfl⟩ := callObjs_mem hx
        cases y with
        | none => rfl
        | some ob =>
          have := hros ob (List.mem_of_getElem? hj)
          cases ob with
          | box ty cs =>
            show nbL (renL _ cs) = true
            exact rsL_nb this
          | rw => rfl
    exact stp_sound hR hU hstp (fun s' E' a' w' ⟨fp, hK, hnb'⟩ hc hR' => hn fp s' E' a' w' hK hc hnb' hR')

theorem fast_spec (h : fastB ops = true) {i : Nat} {o : Oper} (ho : ops[i]? = some o) : (∀ e ∈ o.after, Region.binds .any e = true → e.on < i) ∧ ∀ j o', j < i → ops[j]? = some o' → ordered ops i j = true ∨ apartB ops o o' = true := by
  unfold fastB at h
  have hi := (Array.getElem?_eq_some_iff.1 ho).1
  have := List.all_eq_true.1 h i (List.mem_range.2 hi)
  rw [ho] at this
  simp only [Bool.and_eq_true] at this
  refine ⟨fun e he hb => ?_, fun j o' hj ho' => ?_⟩
  · have h1 := List.all_eq_true.1 this.1 e (by simpa using he)
    simpa [hb] using h1
  · have h1 := List.all_eq_true.1 this.2 j (List.mem_range.2 hj)
    rw [ho'] at h1
    simpa using h1
theorem anc_lt (h : fastB ops = true) : ∀ {f i j : Nat}, ancB ops f i j = true → j < i
  | 0, i, j, hh => by cases hh
  | f + 1, i, j, hh => by
    unfold ancB at hh
    split at hh
    · rename_i o ho
      obtain ⟨e, he, hb⟩ := List.any_eq_true.1 hh
      simp only [Bool.and_eq_true, Bool.or_eq_true, beq_iff_eq] at hb
      have h1 := (fast_spec h ho).1 e (by simpa using he) hb.1
      rcases hb.2 with h2 | h2
      · omega
      · have := anc_lt h h2
        omega
    · cases hh
/-- What has come up is closed under what must come before. -/
def Closed (ops : Array Oper) (l : Array Bool) : Prop := ∀ (i : Nat) o, ops[i]? = some o → l.getD i true = true → ∀ e ∈ o.after, Region.binds .any e = true → l.getD e.on false = true
theorem getD_tf {l : Array Bool} {i : Nat} (h : l.getD i false = true) : l.getD i true = true := by
  simp only [Array.getD_eq_getD_getElem?] at h ⊢
  cases hh : l[i]? with
  | none => rw [hh] at h; cases h
  | some b => rw [hh] at h; exact h
theorem anc_listed {l : Array Bool} (hc : Closed ops l) : ∀ {f i j : Nat} {o : Oper}, ops[i]? = some o → (∀ e ∈ o.after, Region.binds .any e = true → l.getD e.on false = true) → ancB ops f i j = true → l.getD j true = true
  | 0, i, j, o, ho, hp, hh => by cases hh
  | f + 1, i, j, o, ho, hp, hh => by
    unfold ancB at hh
    rw [ho] at hh
    obtain ⟨e, he, hb⟩ := List.any_eq_true.1 hh
    simp only [Bool.and_eq_true, Bool.or_eq_true, beq_iff_eq] at hb
    have h1 := hp e (by simpa using he) hb.1
    rcases hb.2 with h2 | h2
    · rw [← h2]; exact getD_tf h1
    · cases ho' : ops[e.on]? with
      | none =>
        cases f with
        | zero => cases h2
        | succ f => unfold ancB at h2; rw [ho'] at h2; cases h2
      | some o' => exact anc_listed hc ho' (hc e.on o' ho' (getD_tf h1)) h2

theorem any_sound (hfast : fastB ops = true) {c : Nat} {K : ASt → Prop} {Q : Exit → Act → World → Prop} (hend : ∀ s' E' a' w', K s' → s'.c = c → RelE nt I (fun o => o < c + 8 * ops.size) s' E' a' w' → Q .normal a' w') :
    ∀ (fuel : Nat) (listed : Array Bool) (L : List (Nat × Oper)) (acc : List Fp) (s : ASt) (E : Env) (a : Act) (w : World), listed.size = ops.size → (∀ p o, (p, o) ∈ L ↔ ops[p]? = some o ∧ listed.getD p true = false) → L.Pairwise (fun x y => x.1 < y.1) → L.length ≤ fuel → Closed ops listed →
      s.c = c → (pc = true → NoB s) → drawR P nt pc ops L acc s K → RelE nt I (fun q => q < c ∨ ∃ p j, p < ops.size ∧ listed.getD p true = true ∧ j < 8 ∧ q = c + 8 * p + j) s E a w → wpAny P .any ops Q fuel listed a w := by
  intro fuel
  have hfin : ∀ (listed : Array Bool) (L : List (Nat × Oper)) (acc : List Fp) (s : ASt) (E : Env) (a : Act) (w : World), L = [] → s.c = c → drawR P nt pc ops L acc s K → RelE nt I (fun q => q < c ∨ ∃ p j, p < ops.size ∧ listed.getD p true = true ∧ j < 8 ∧ q = c + 8 * p + j) s E a w → Q .normal a w := by
    intro listed L acc s E a w hL hc h hR
    subst hL
    refine hend s E a w h hc (hR.mono (fun q hq => ?_))
    rcases hq with hq | ⟨p, j, hp, _, hj, rfl⟩ <;> omega
  have hready : ∀ (listed : Array Bool) (i : Nat), i ∈ Region.ready .any ops listed ↔ ∃ o, ops[i]? = some o ∧ listed.getD i true = false ∧ ∀ e ∈ o.after, Region.binds .any e = true → listed.getD e.on false = true := by
    intro listed i
    unfold Region.ready
    rw [List.mem_filter, List.mem_range]
    constructor
    · rintro ⟨hi, h⟩
      have ho := Array.getElem?_eq_getElem hi
      rw [ho] at h
      simp only [Option.map_some, Option.getD_some, Bool.and_eq_true, Bool.not_eq_true'] at h
      refine ⟨_, ho, h.1, fun e he hb => ?_⟩
      have := Array.all_eq_true'.1 h.2 e he
      simpa [hb] using this
    · rintro ⟨o, ho, h1, h2⟩
      refine ⟨(Array.getElem?_eq_some_iff.1 ho).1, ?_⟩
      rw [ho, h1]
      simp only [Option.map_some, Option.getD_some, Bool.not_false, Bool.true_and]
      refine Array.all_eq_true'.2 (fun e he => ?_)
      by_cases hb : Region.binds .any e = true
      · simp [h2 e he hb]
      · simp [hb]
  have hnil : ∀ (listed : Array Bool) (L : List (Nat × Oper)), listed.size = ops.size → (∀ p o, (p, o) ∈ L ↔ ops[p]? = some o ∧ listed.getD p true = false) → L.Pairwise (fun x y => x.1 < y.1) → Region.ready .any ops listed = [] → L = [] := by
    intro listed L hsz hL hs hr
    cases L with
    | nil => rfl
    | cons x r =>
      exfalso
      obtain ⟨p, o⟩ := x
      obtain ⟨ho, hl⟩ := (hL p o).1 (List.mem_cons_self ..)
      have : p ∈ Region.ready .any ops listed := (hready listed p).2 ⟨o, ho, hl, fun e he hb => ?_⟩
      · rw [hr] at this; simp at this
      · have hlt := (fast_spec hfast ho).1 e he hb
        have hp := (Array.getElem?_eq_some_iff.1 ho).1
        have hoe := Array.getElem?_eq_getElem (xs := ops) (i := e.on) (by omega)
        cases hb' : listed.getD e.on true with
        | true =>
          have hlt' : e.on < listed.size := by omega
          simp only [Array.getD_eq_getD_getElem?, Array.getElem?_eq_getElem hlt', Option.getD_some] at hb' ⊢
          exact hb'
        | false =>
          have hm := (hL e.on _).2 ⟨hoe, hb'⟩
          rcases List.mem_cons.1 hm with h | h
          · cases h; omega
          · have := (List.pairwise_cons.1 hs).1 _ h
            simp at this
            omega
  induction fuel with
  | zero =>
    intro listed L acc s E a w hsz hL hs hlen hcl hc hnb h hR
    have hL0 : L = [] := List.eq_nil_of_length_eq_zero (by omega)
    refine ⟨?_, hfin listed L acc s E a w hL0 hc h hR⟩
    rw [List.eq_nil_iff_forall_not_mem]
    intro i hi
    obtain ⟨o, ho, hl, _⟩ := (hready listed i).1 hi
    have := (hL i o).2 ⟨ho, hl⟩
    rw [hL0] at this
    simp at this
  | succ fuel ih =>
    intro listed L acc s E a w hsz hL hs hlen hcl hc hnb h hR
    refine ⟨fun hr => hfin listed L acc s E a w (hnil listed L hsz hL hs hr) hc h hR, fun i hi => ?_⟩
    obtain ⟨oi, ho, hl, hpred⟩ := (hready listed i).1 hi
    have hil := (Array.getElem?_eq_some_iff.1 ho).1
    obtain ⟨pre, post, rfl⟩ := List.append_of_mem ((hL i oi).2 ⟨ho, hl⟩)
    have hpre : ∀ x ∈ pre, apartB ops x.2 oi = true ∧ ordered ops i x.1 = false := fun x hx => by
      obtain ⟨j, oj⟩ := x
      have hj := (hL j oj).1 (List.mem_append_left _ hx)
      have hlt : j < i := by
        have := (List.pairwise_append.1 hs).2.2 (j, oj) hx (i, oi) (List.mem_cons_self ..)
        exact this
      have hord : ordered ops i j = false := by
        unfold ordered
        rw [Bool.or_eq_false_iff]
        constructor
        · cases hb : ancB ops ops.size i j with
          | false => rfl
          | true =>
            have := anc_listed hcl ho hpred hb
            rw [hj.2] at this
            cases this
        · cases hb : ancB ops ops.size j i with
          | false => rfl
          | true =>
            have := anc_lt hfast hb
            omega
      refine ⟨?_, hord⟩
      rcases (fast_spec hfast ho).2 j oj hlt hj.1 with h1 | h1
      · rw [hord] at h1; cases h1
      · exact apartB_comm h1
    have h' := moveFront hpre h
    have hU : ∀ j, j < 8 → ¬ (s.c + 8 * i + j < c ∨ ∃ p j', p < ops.size ∧ listed.getD p true = true ∧ j' < 8 ∧ s.c + 8 * i + j = c + 8 * p + j') := by
      intro j hj hx
      rw [hc] at hx
      rcases hx with hx | ⟨p, j', hp, hpl, hj', he⟩
      · omega
      · have : p = i := by omega
        subst this
        rw [hl] at hpl
        cases hpl
    unfold wpOp
    rw [ho]
    have hst := gstepD_sound (ops := ops) (P := P) (Q := Q) (next := wpAny P .any ops Q fuel (listed.setIfInBounds i true)) hR hU hnb h' (fun fp s' E' a' w' hK hc' hnb' hR' => ?_)
    · simp only
      split
      · rename_i hw; rw [if_pos hw] at hst; exact .inl hst
      · rename_i hw; rw [if_neg hw] at hst; exact hst
    · have hset : ∀ (p : Nat) (d : Bool), p < ops.size → (listed.setIfInBounds i true).getD p d = if p = i then true else listed.getD p d := fun p d hp => by
        simp only [Array.getD_eq_getD_getElem?, Array.getElem?_setIfInBounds]
        by_cases hpi : p = i
        · subst hpi
          simp [hsz, hil]
        · rw [if_neg (fun h => hpi h.symm), if_neg hpi]
      refine ih (listed.setIfInBounds i true) (pre ++ post) (fp :: acc) s' E' a' w' (by simpa using hsz) (fun p o => ?_) ?_ (by simp at hlen ⊢; omega) (fun p o hop hlp e he hb => ?_) (hc'.trans hc) hnb' hK (hR'.mono (fun q hq => ?_))
      · have h1 := hL p o
        rw [List.mem_append, List.mem_cons] at h1
        rw [List.mem_append]
        constructor
        · intro hm
          have h2 := h1.1 (hm.imp id (fun h => .inr h))
          have hps := (Array.getElem?_eq_some_iff.1 h2.1).1
          refine ⟨h2.1, ?_⟩
          rw [hset p true hps, if_neg]
          · exact h2.2
          · intro hpi
            subst hpi
            have hpw := List.pairwise_append.1 hs
            rcases hm with hm | hm
            · have := hpw.2.2 _ hm _ (List.mem_cons_self ..)
              simp at this
            · have := (List.pairwise_cons.1 hpw.2.1).1 _ hm
              simp at this
        · rintro ⟨h2, h3⟩
          have hps := (Array.getElem?_eq_some_iff.1 h2).1
          rw [hset p true hps] at h3
          split at h3
          · cases h3
          · rename_i hpi
            rcases h1.2 ⟨h2, h3⟩ with h | h | h
            · exact .inl h
            · cases h; exact absurd rfl hpi
            · exact .inr h
      · rw [List.pairwise_append] at hs ⊢
        exact ⟨hs.1, (List.pairwise_cons.1 hs.2.1).2, fun x hx y hy => hs.2.2 x hx y (List.mem_cons_of_mem _ hy)⟩
      · have hps := (Array.getElem?_eq_some_iff.1 hop).1
        have hlt := (fast_spec hfast hop).1 e he hb
        rw [hset e.on false (by omega)]
        split
        · rfl
        · rw [hset p true hps] at hlp
          split at hlp
          · rename_i hpi
            subst hpi
            rw [ho] at hop
            cases hop
            exact hpred e he hb
          · exact hcl p o hop hlp e he hb
      · rcases hq with (hq | ⟨p, j, hp, hpl, hj, rfl⟩) | ⟨j, hj, rfl⟩
        · exact .inl hq
        · refine .inr ⟨p, j, hp, ?_, hj, rfl⟩
          rw [hset p true hp]
          split
          · rfl
          · exact hpl
        · refine .inr ⟨i, j, hil, ?_, hj, by rw [hc]⟩
          rw [hset i true hil, if_pos rfl]

theorem numbered_mem : ∀ {l : List Oper} {k p : Nat} {o : Oper}, (p, o) ∈ numbered k l ↔ k ≤ p ∧ l[p - k]? = some o
  | [], k, p, o => by simp [numbered]
  | x :: r, k, p, o => by
    unfold numbered
    rw [List.mem_cons, numbered_mem]
    constructor
    · rintro (h | ⟨h1, h2⟩)
      · cases h; simp
      · refine ⟨by omega, ?_⟩
        rw [show p - k = (p - (k + 1)) + 1 by omega]
        simpa using h2
    · rintro ⟨h1, h2⟩
      by_cases hp : p = k
      · subst hp
        simp at h2
        exact .inl (by rw [h2])
      · refine .inr ⟨by omega, ?_⟩
        rw [show p - k = (p - (k + 1)) + 1 by omega] at h2
        simpa using h2
theorem numbered_sorted : ∀ {l : List Oper} {k : Nat}, (numbered k l).Pairwise (fun x y => x.1 < y.1)
  | [], k => .nil
  | x :: r, k => by
    unfold numbered
    refine List.pairwise_cons.2 ⟨fun y hy => ?_, numbered_sorted⟩
    obtain ⟨p, o⟩ := y
    have := (numbered_mem.1 hy).1
    show k < p
    omega
theorem numbered_length : ∀ {l : List Oper} {k : Nat}, (numbered k l).length = l.length
  | [], k => rfl
  | x :: r, k => by unfold numbered; rw [List.length_cons, numbered_length, List.length_cons]

theorem drawQ_sound (hm : P.follows .mixedOrders = true) {id : Nat} {K : ASt → Prop} {Q : Exit → Act → World → Prop} (hR : RelE nt I (fun o => o < s.c) s E a w) (h : DrawQ P nt ops s K)
    (hn : ∀ s' E' a' w', K s' → s'.c = s.c → RelE nt I (fun o => o < s.c + 8 * ops.size) s' E' a' w' → Q .normal a' w') : (Code.region id ops true).wp P Q a w := by
  obtain ⟨hfast, pc, hnb, h⟩ := h
  have hrep : ∀ (p : Nat) (d : Bool), p < ops.size → (Array.replicate ops.size false).getD p d = false := fun p d hp => by
    simp [Array.getD_eq_getD_getElem?, hp]
  refine wp_region_any hm (any_sound hfast (c := s.c) hn ops.size (Array.replicate ops.size false) (numbered 0 ops.toList) [] s E a _ (by simp) (fun p o => ?_) numbered_sorted (by rw [numbered_length]; simp) (fun i o ho hl => ?_) rfl hnb h ((hR.drew { w with drawn := w.drawn + 1 } rfl rfl rfl rfl).mono (fun q hq => .inl hq)))
  · rw [numbered_mem]
    constructor
    · rintro ⟨_, h2⟩
      have h3 : ops[p]? = some o := by simpa using h2
      exact ⟨h3, hrep p true (Array.getElem?_eq_some_iff.1 h3).1⟩
    · rintro ⟨h2, _⟩
      exact ⟨Nat.zero_le _, by simpa using h2⟩
  · rw [hrep i true (Array.getElem?_eq_some_iff.1 ho).1] at hl
    cases hl
end
end Go.Proofs.YtnnmpdanfeejbaaGreat.Abs

/- The abstract machine: what is known less exactly, under other numbers. -/
namespace Go.Proofs.YtnnmpdanfeejbaaGreat.Abs
open Go Go.RowKit
set_option linter.unusedVariables false
set_option linter.unusedSimpArgs false

/-- A value x, told as y under new numbers: g tells a new number's old one. -/
inductive Wk (g : Nat → Nat) : AV → AV → Prop
  | any (x) : Wk g x .any
  | c (x x') : Sim x x' → Wk g (.c x) (.c x')
  | same (x) : Wk g (.c x) (.c x)
  | bw (x) : Wk g (.bw x) (.bw x)
  | nul : Wk g .nul .nul
  | nulR (k) : Wk g .nul (.c (.row k []))
  | sl (o n) : g o ≠ 0 → Wk g (.sl (g o) n) (.sl o n)
  | ph (o) : g o = 0 → Wk g .nul (.sl o 0)
  | pt (o i j) : g o ≠ 0 → Wk g (.pt (g o) i j) (.pt o i j)
  | ag (cs cs') : cs.length = cs'.length → (∀ (i : Nat) c c', cs[i]? = some c → cs'[i]? = some c' → Wk g c c') → Wk g (.ag cs) (.ag cs')
  | tu (cs cs') : cs.length = cs'.length → (∀ (i : Nat) c c', cs[i]? = some c → cs'[i]? = some c' → Wk g c c') → Wk g (.tu cs) (.tu cs')
def WkO (g : Nat → Nat) : Ob → Ob → Prop
  | .box ty cs, .box ty' cs' => ty = ty' ∧ cs.length = cs'.length ∧ ∀ (i : Nat) c c', cs[i]? = some c → cs'[i]? = some c' → Wk g c c'
  | .rw ty sz es, .rw ty' sz' es' => ty = ty' ∧ sz = sz' ∧ es = es'
  | _, _ => False

/-- What has become of the objects: those of H' are g's of H; a number whose old one is 0 is new: a row that is nil. -/
structure WkH (g : Nat → Nat) (H H' : Hp) : Prop where
  ob : ∀ o x', H' o = some x' → (g o ≠ 0 ∧ ∃ x, H (g o) = some x ∧ WkO g x x') ∨ (g o = 0 ∧ ∃ ty sz, x' = .rw ty sz [])
  inj : ∀ o o', H' o ≠ none → H' o' ≠ none → g o ≠ 0 → g o = g o' → o = o'

open Classical in
noncomputable def invg (g : Nat → Nat) (H' : Hp) (k : Nat) : Option Nat := if h : ∃ o, H' o ≠ none ∧ g o = k then some (Classical.choose h) else none
theorem invg_of {g : Nat → Nat} {H H' : Hp} (h : WkH g H H') {o : Nat} (ho : H' o ≠ none) (hz : g o ≠ 0) : invg g H' (g o) = some o := by
  unfold invg
  have hx : ∃ o', H' o' ≠ none ∧ g o' = g o := ⟨o, ho, rfl⟩
  rw [dif_pos hx]
  have := Classical.choose_spec hx
  rw [h.inj _ o this.1 ho (by rw [this.2]; exact hz) this.2]
noncomputable def Env.weak (E : Env) (g : Nat → Nat) (H' : Hp) : Env :=
  ⟨fun o => if g o = 0 then none else E.rho (g o), fun b => (E.loc b).map fun ℓ => if ℓ.1 = 0 then ℓ else match invg g H' ℓ.1 with
    | some o => (o, ℓ.2)
    | none => (0, (ℓ.1, 0) :: ℓ.2)⟩

section
variable {P : Program} {nt : Nat} {I : Ini} {s : ASt} {E : Env} {a : Act} {w : World} {g : Nat → Nat} {H H' : Hp}

theorem weak_rho {o : Nat} (hn : g o ≠ 0) : (E.weak g H').rho o = E.rho (g o) := if_neg hn
theorem weak_loc (h : WkH g H H') {b o : Nat} {p : List (Nat × Nat)} (ho : H' o ≠ none) (hn : g o ≠ 0) (hb : E.loc b = some (g o, p)) : (E.weak g H').loc b = some (o, p) := by
  simp [Env.weak, hb, invg_of h ho hn, hn]
theorem weak_t0 {b : Nat} (hb : E.loc b = none) : (E.weak g H').loc b = none := by simp [Env.weak, hb]
theorem weak_t1 {b : Nat} (hb : E.T1 b) : (E.weak g H').T1 b := by
  intro o ho
  simp only [Env.weak, Option.map_eq_some_iff] at ho
  obtain ⟨⟨k, p⟩, h1, h2⟩ := ho
  split at h2
  · cases h2; exact hb _ h1
  · split at h2
    · cases h2; exact hb k h1
    · simp at h2

theorem RdV.weak (hk : WkH g H H') {x : AV} {u : Value} (h : RdV w E H x u) : ∀ {y : AV}, Wk g x y → RdV w (E.weak g H') H' y u := by
  have hT0 : ∀ {x : CV} {u : Value}, RdR w E.T0 x u → RdR w (E.weak g H').T0 x u := fun h => h.mono (fun b _ hb => ⟨rfl, weak_t0 hb⟩)
  have other : ∀ o, g o ≠ 0 → H' o ≠ none → ∃ x x', H (g o) = some x ∧ H' o = some x' ∧ WkO g x x' := fun o hg ho => by
    cases hh : H' o with
    | none => exact absurd hh ho
    | some x' =>
      rcases hk.ob o x' hh with ⟨_, x, h1, h2⟩ | ⟨h1, _⟩
      · exact ⟨x, x', h1, rfl, h2⟩
      · exact absurd h1 hg
  induction h with
  | c x u h =>
    intro y hy
    cases hy with
    | any => exact .any _
    | c _ _ hs => exact .c _ _ ((hT0 h).sim hs)
    | same => exact .c _ _ (hT0 h)
  | bw x u h =>
    intro y hy
    cases hy with
    | any => exact .any _
    | bw => exact .bw _ _ (h.mono (fun b _ hb => ⟨rfl, weak_t1 hb⟩))
  | nul =>
    intro y hy
    cases hy with
    | any => exact .any _
    | nul => exact .nul
    | nulR k => exact .c _ _ (.nil ..)
    | ph o hz =>
      by_cases ho : H' o = none
      · exact .slX _ _ _ ho
      · cases hh : H' o with
        | none => exact absurd hh ho
        | some x' =>
          rcases hk.ob o x' hh with ⟨h1, _⟩ | ⟨_, ty, sz, rfl⟩
          · exact absurd hz h1
          · exact .slN o ty sz hh (if_pos hz)
  | any u =>
    intro y hy
    cases hy with
    | any => exact .any _
  | slX o n u h =>
    intro y hy
    cases hy with
    | any => exact .any _
    | sl o' n hg =>
      by_cases ho : H' o' = none
      · exact .slX _ _ _ ho
      · obtain ⟨x, x', h1, h2, h3⟩ := other o' hg ho
        rw [h] at h1; cases h1
  | sl o n ty sz es b cap h hr =>
    intro y hy
    cases hy with
    | any => exact .any _
    | sl o' n hg =>
      by_cases ho : H' o' = none
      · exact .slX _ _ _ ho
      · obtain ⟨x, x', h1, h2, h3⟩ := other o' hg ho
        rw [h] at h1
        cases h1
        cases x' with
        | box => exact h3.elim
        | rw ty' sz' es' => exact .sl o' n ty' sz' es' b cap h2 ((weak_rho hg).trans hr)
  | slN o ty sz h hr =>
    intro y hy
    cases hy with
    | any => exact .any _
    | sl o' n hg =>
      by_cases ho : H' o' = none
      · exact .slX _ _ _ ho
      · obtain ⟨x, x', h1, h2, h3⟩ := other o' hg ho
        rw [h] at h1
        cases h1
        cases x' with
        | box => exact h3.elim
        | rw ty' sz' es' =>
          obtain ⟨rfl, rfl, rfl⟩ := h3
          exact .slN o' ty sz h2 ((weak_rho hg).trans hr)
  | ptX o i j u h =>
    intro y hy
    cases hy with
    | any => exact .any _
    | pt o' i j hg =>
      by_cases ho : H' o' = none
      · exact .ptX _ _ _ _ ho
      · obtain ⟨x, x', h1, h2, h3⟩ := other o' hg ho
        rw [h] at h1; cases h1
  | pt o i j ob b cap h hr =>
    intro y hy
    cases hy with
    | any => exact .any _
    | pt o' i j hg =>
      by_cases ho : H' o' = none
      · exact .ptX _ _ _ _ ho
      · obtain ⟨x, x', h1, h2, h3⟩ := other o' hg ho
        rw [h] at h1
        cases h1
        have : ob.sz = x'.sz := by cases ob <;> cases x' <;> first | rfl | exact h3.elim | exact h3.2.1
        rw [this]
        exact .pt o' i j x' b cap h2 ((weak_rho hg).trans hr)
  | ag cs us hs _ ih =>
    intro y hy
    cases hy with
    | any => exact .any _
    | ag _ cs' hl hcc =>
      refine .ag _ us (hs.trans hl) (fun i c' u hc' hu => ?_)
      have hil := (List.getElem?_eq_some_iff.1 hc').1
      have hie := List.getElem?_eq_getElem (hl ▸ hil)
      exact ih i _ u hie hu (hcc i _ c' hie hc')
  | tu cs us hs _ ih =>
    intro y hy
    cases hy with
    | any => exact .any _
    | tu _ cs' hl hcc =>
      refine .tu _ us (hs.trans hl) (fun i c' u hc' hu => ?_)
      have hil := (List.getElem?_eq_some_iff.1 hc').1
      have hie := List.getElem?_eq_getElem (hl ▸ hil)
      exact ih i _ u hie hu (hcc i _ c' hie hc')

theorem LiveOb.weak (hk : WkH g H H') {o : Nat} (hg : g o ≠ 0) {x x' : Ob} (ho : H' o = some x') (h : LiveOb w E H (g o) x) (hw : WkO g x x') : LiveOb w (E.weak g H') H' o x' := by
  have hne : H' o ≠ none := by rw [ho]; simp
  cases x with
  | box ty cs =>
    cases x' with
    | rw => exact hw.elim
    | box ty' cs' =>
      obtain ⟨rfl, hl, hcc⟩ := hw
      obtain ⟨b, arr, us, h1, h2, h3, h4, h5, h6⟩ := h
      refine ⟨b, arr, us, (weak_rho hg).trans h1, weak_loc hk hne hg h2, h3, h4.trans hl, fun j hj => h5 j (hl ▸ hj), fun j c' hc' => ?_⟩
      have hil := (List.getElem?_eq_some_iff.1 hc').1
      have hie := List.getElem?_eq_getElem (hl ▸ hil)
      exact (h6 j _ hie).weak hk (hcc j _ c' hie hc')
  | rw ty sz es =>
    cases x' with
    | box => exact hw.elim
    | rw ty' sz' es' =>
      obtain ⟨rfl, rfl, rfl⟩ := hw
      rcases h with ⟨h1, h2⟩ | ⟨b, cap, arr, us, h1, h2, h3, h4, h5, h6, h7, h8, h9⟩
      · exact .inl ⟨(weak_rho hg).trans h1, h2⟩
      · exact .inr ⟨b, cap, arr, us, (weak_rho hg).trans h1, weak_loc hk hne hg h2, h3, h4, h5, h6, h7, h8, fun i j e c he hc => (h9 i j e c he hc).relabel (o, [(i, j)]) (fun b' _ hb' => ⟨rfl, weak_t0 hb'⟩) (fun b' q _ hq => ⟨rfl, weak_loc hk hne hg hq⟩)⟩

/-- A state, told less exactly. np: how many objects were handed over. -/
structure Weak (np : Nat) (s s' : ASt) : Prop where
  ex : ∃ g, (∀ k, Wk g (s.t k) (s'.t k)) ∧ WkH g s.H s'.H ∧ (∀ o, 1 ≤ o → o ≤ np → s'.H o = none ∨ g o = o)
  c : np < s'.c
  z : s'.H 0 = none
  mnT : ∀ k, Mn (fun o => o < s'.c) (s'.t k)
  mnH : ∀ o ob, s'.H o = some ob → o < s'.c ∧ MnOb (fun o => o < s'.c) ob

theorem WkO.like {x x' : Ob} (h : WkO g x x') : x.like x' := by
  cases x <;> cases x' <;> first | exact h.elim | trivial | (obtain ⟨rfl, rfl, rfl⟩ := h; exact Ob.like.refl _)

theorem RelE.weak {U : Nat → Prop} {np : Nat} (hnp : ∀ o x, I.H o = some x → 1 ≤ o ∧ o ≤ np) (hR : RelE nt I U s E a w) {s' : ASt} (hw : Weak np s s') : ∃ E', RelE nt I (fun o => o < s'.c) s' E' a w := by
  obtain ⟨g, h1, hk, h3⟩ := hw.ex
  refine ⟨E.weak g s'.H, hR.defers, hR.size, fun k u hu => (hR.slots k u hu).weak hk (h1 k), fun o ob ho => ?_, fun b ℓ hb => ?_, fun b hb hm => ?_, fun o x hx => ?_, Nat.lt_of_le_of_lt (Nat.zero_le _) hw.c, hw.z, hw.mnT, hw.mnH, hR.evo⟩
  · rcases hk.ob o ob ho with ⟨hg, x, h4, h5⟩ | ⟨hg, ty, sz, rfl⟩
    · exact (hR.live _ x h4).weak hk hg ho h5
    · exact .inl ⟨if_pos hg, rfl⟩
  · simp only [Env.weak, Option.map_eq_some_iff] at hb
    obtain ⟨ℓ0, h0, _⟩ := hb
    exact hR.locLt b ℓ0 h0
  · have h4 := hR.old b hb hm
    rw [← h4]
    cases hl : E.loc b with
    | none => exact weak_t0 hl
    | some ℓ =>
      obtain ⟨k, p⟩ := ℓ
      have hk0 : k = 0 := by
        by_cases hk0 : k = 0
        · exact hk0
        · exact absurd ⟨k, p, by rw [← h4, hl], hk0⟩ hm
      subst hk0
      simp [Env.weak, hl]
  · obtain ⟨h4, h5⟩ := hR.pas o x hx
    obtain ⟨h6, h7⟩ := hnp o x hx
    refine ⟨Nat.lt_of_le_of_lt h7 hw.c, ?_⟩
    rcases h3 o h6 h7 with h8 | h8
    · exact .inl h8
    · cases hh : s'.H o with
      | none => exact .inl rfl
      | some x' =>
        right
        obtain ⟨hg, y, h9, h10⟩ : g o ≠ 0 ∧ ∃ x, s.H (g o) = some x ∧ WkO g x x' := (hk.ob o x' hh).resolve_right (fun h => by omega)
        rw [h8] at h9
        rcases h5 with h5 | ⟨h5, z, h11, h12⟩
        · rw [h5] at h9; cases h9
        · rw [h11] at h9
          cases h9
          exact ⟨by rw [weak_rho hg, h8]; exact h5, x', rfl, h12.trans h10.like⟩
end

end Go.Proofs.YtnnmpdanfeejbaaGreat.Abs

/- The abstract machine: a call that gets an inner row of an object to write into. -/
namespace Go.Proofs.YtnnmpdanfeejbaaGreat.Abs
open Go Go.RowKit
set_option linter.unusedVariables false
set_option linter.unusedSimpArgs false

def inlL (o i j : Nat) (ℓ : Loc) : Option Loc := if ℓ.1 = o then (match ℓ.2 with
  | (i', j') :: q => if i' = i ∧ j' = j then some (1, q) else none
  | [] => none) else none
/-- What the callee sees of the memory. -/
def Env.inl (E : Env) (o i j b0 cap0 : Nat) : Env := ⟨fun k => if k = 1 then some (b0, cap0) else none, fun b => (E.loc b).bind (inlL o i j)⟩
theorem inl_some {E : Env} {o i j b0 cap0 b : Nat} {q : List (Nat × Nat)} (h : E.loc b = some (o, (i, j) :: q)) : (E.inl o i j b0 cap0).loc b = some (1, q) := by
  simp [Env.inl, h, inlL]
theorem mut_inl {E : Env} {o i j b0 cap0 b : Nat} : Mut (E.inl o i j b0 cap0) b ↔ ∃ q, E.loc b = some (o, (i, j) :: q) := by
  constructor
  · rintro ⟨k, p, h, hk⟩
    simp only [Env.inl, Option.bind_eq_some_iff] at h
    obtain ⟨⟨o', p'⟩, h1, h2⟩ := h
    unfold inlL at h2
    split at h2
    · rename_i ho
      split at h2
      · rename_i i' j' q hp
        split at h2
        · rename_i hij
          simp only at ho hp
          exact ⟨q, by rw [h1, ho, hp, hij.1, hij.2]⟩
        · cases h2
      · cases h2
    · cases h2
  · rintro ⟨q, h⟩
    exact ⟨1, q, inl_some h, by omega⟩
open Classical in
noncomputable def Env.inlBack (E : Env) (w : World) (o i j b0 cap0 : Nat) (E' : Env) : Env :=
  ⟨E.rho, fun b => if b < w.heap.size ∧ ¬ Mut (E.inl o i j b0 cap0) b then E.loc b else (E'.loc b).map fun ℓ => if ℓ.1 = 1 then (o, (i, j) :: ℓ.2) else (0, (ℓ.1, 0) :: ℓ.2)⟩

def inlS (nt : Nat) (s : ASt) (o i j ty sz : Nat) (es : List (List CV)) (e : List CV) (es2 : List (List CV)) (d : Option Nat) (r : AV) : ASt :=
  ⟨putT nt (fun k => killA (s.t k)) d r, upd (fun k => (s.H k).map killO) o (some (.rw ty sz (es.set i (e.set j (.row true es2))))), s.c⟩

section
variable {P : Program} {nt : Nat} {I : Ini} {U : Nat → Prop} {s : ASt} {E : Env} {a : Act} {w : World}

theorem inl_after (hR : RelE nt I U s E a w) {o i j ty sz b cap b0 cap0 : Nat} {es : List (List CV)} {e : List CV} {es' : List (List CV)} {arr : Array Value} {us : Nat → Nat → Value} (hH : s.H o = some (.rw ty sz es)) (he : es[i]? = some e) (hc : e[j]? = some (.row true es'))
    (g1 : E.rho o = some (b, cap)) (g2 : E.loc b = some (o, [])) (g3 : w.heap[b]? = some (.cells arr ty (0, 0))) (g4 : arr.size = cap * sz) (g5 : es.length ≤ cap) (g6 : cap ≤ maxLen) (g7 : ∀ e ∈ es, e.length = sz)
    (g8 : ∀ i j, i < es.length → j < sz → arr[i * sz + j]? = some (us i j)) (g9 : ∀ (i j : Nat) e c, es[i]? = some e → e[j]? = some c → RdC w E.loc (o, [(i, j)]) c (us i j)) (hu : us i j = .slice (some ⟨b0, 0, none⟩) es'.length cap0)
    {w' : World} {x : Value} {es2 : List (List CV)} {ty' sz' : Nat} {E' : Env} (hx : x.oneCell' = true) (hlive : LiveOb w' E' (HpL [some (.rw ty' sz' es2)]) 1 (.rw ty' sz' es2)) (hown : ∀ e ∈ es2, ∀ c ∈ e, Own c) (hlen : es2.length = es'.length) (hr1 : E'.rho 1 = some (b0, cap0))
    (hevo : Evo (Mut (E.inl o i j b0 cap0)) w w') (hlt : ∀ b ℓ, E'.loc b = some ℓ → b < w'.heap.size) (hold : ∀ b, b < w.heap.size → ¬ Mut (E.inl o i j b0 cap0) b → E'.loc b = (E.inl o i j b0 cap0).loc b) (d : Option Nat) :
    RelE nt I U (inlS nt s o i j ty sz es e es2 d (.c (.v x))) (E.inlBack w o i j b0 cap0 E') (a.put d x) w' := by
  have ho0 : o ≠ 0 := fun h => by rw [h, hR.h0] at hH; cases hH
  have hlocO : ∀ b, b < w.heap.size → ¬ Mut (E.inl o i j b0 cap0) b → (E.inlBack w o i j b0 cap0 E').loc b = E.loc b := fun b h1 h2 => if_pos ⟨h1, h2⟩
  have hlocN : ∀ b p, E'.loc b = some (1, p) → (E.inlBack w o i j b0 cap0 E').loc b = some (o, (i, j) :: p) := fun b p h => by
    have : ¬ (b < w.heap.size ∧ ¬ Mut (E.inl o i j b0 cap0) b) := by
      rintro ⟨h1, h2⟩
      refine h2 ⟨1, p, ?_, by omega⟩
      rw [← hold b h1 h2, h]
    have h2 : (E.inlBack w o i j b0 cap0 E').loc b = (E'.loc b).map (fun ℓ : Loc => if ℓ.1 = 1 then (o, (i, j) :: ℓ.2) else (0, (ℓ.1, 0) :: ℓ.2)) := if_neg this
    rw [h2, h]
    rfl
  have hnm : ∀ {b ℓ}, E.loc b = ℓ → (∀ q, ℓ ≠ some (o, (i, j) :: q)) → ¬ Mut (E.inl o i j b0 cap0) b := fun h1 h2 hm => by
    obtain ⟨q, hq⟩ := mut_inl.1 hm
    exact h2 q (by rw [← h1, hq])
  have t0 : ∀ b, b < w.heap.size → E.loc b = none → w'.heap[b]? = w.heap[b]? ∧ (E.inlBack w o i j b0 cap0 E').loc b = none := fun b hb h => by
    have := hnm h (fun q => by simp)
    exact ⟨hevo.old hb this, by rw [hlocO b hb this]; exact h⟩
  have town : ∀ o' p b, b < w.heap.size → E.loc b = some (o', p) → (∀ q, (o', p) ≠ (o, (i, j) :: q)) → w'.heap[b]? = w.heap[b]? ∧ (E.inlBack w o i j b0 cap0 E').loc b = some (o', p) := fun o' p b hb h hq => by
    have := hnm h (fun q hh => hq q (Option.some.inj hh))
    exact ⟨hevo.old hb this, by rw [hlocO b hb this]; exact h⟩
  have hil := (List.getElem?_eq_some_iff.1 he).1
  have hlike : (Ob.rw ty sz es).like (.rw ty sz (es.set i (e.set j (.row true es2)))) := ⟨rfl, by
    constructor
    · intro h; rw [h] at hil; simp at hil
    · intro h; have := congrArg List.length h; simp at this; rw [this] at hil; simp at hil⟩
  have hob : ∀ o', U o' → (inlS nt s o i j ty sz es e es2 d (.c (.v x))).H o' = none ∨ ((E.inlBack w o i j b0 cap0 E').rho o' = E.rho o' ∧ ∃ x' y, s.H o' = some x' ∧ (inlS nt s o i j ty sz es e es2 d (.c (.v x))).H o' = some y ∧ x'.like y) := fun o' _ => by
    simp only [inlS]
    by_cases ho : o' = o
    · subst ho
      simp only [upd_same]
      exact .inr ⟨rfl, _, _, hH, rfl, hlike⟩
    · rw [upd_ne _ _ ho]
      cases hh : s.H o' with
      | none => exact .inl rfl
      | some y => exact .inr ⟨rfl, y, killO y, rfl, rfl, killO_like y⟩
  constructor
  · cases d <;> exact hR.defers
  · cases d <;> simp [Act.put, hR.size]
  · intro k u hk
    cases d with
    | none => exact (hR.slots k u hk).kill t0 hob (hR.mnT k)
    | some d =>
      simp only [Act.put, Array.getElem?_setIfInBounds] at hk
      have hsz : a.tmps.size = nt := hR.size
      show RdV _ _ _ (putT nt (fun k => killA (s.t k)) (some d) _ k) _
      by_cases hd : d = k
      · subst hd
        by_cases hb : d < a.tmps.size
        · simp only [hb, if_true] at hk
          cases hk
          simp only [putT, if_pos (hsz ▸ hb), upd_same]
          exact .c _ _ (.v _ hx)
        · simp [hb] at hk
      · simp only [if_neg hd] at hk
        have hj : ∀ v, putT nt (fun k => killA (s.t k)) (some d) v k = killA (s.t k) := fun v => by
          simp only [putT]
          split
          · exact upd_ne _ _ (Ne.symm hd)
          · rfl
        rw [hj]
        exact (hR.slots k u hk).kill t0 hob (hR.mnT k)
  · intro o' ob ho
    by_cases hoo : o' = o
    · subst hoo
      have : ob = .rw ty sz (es.set i (e.set j (.row true es2))) := by
        have h : (upd (fun k => (s.H k).map killO) o' (some (Ob.rw ty sz (es.set i (e.set j (.row true es2))))) : Hp) o' = some ob := ho
        rw [upd_same] at h
        exact (Option.some.inj h).symm
      subst this
      have hb := town o' [] b (RdR.lt g3) g2 (fun q => by simp)
      refine .inr ⟨b, cap, arr, us, g1, hb.2, hb.1.trans g3, g4, by simpa using g5, g6, fun e' he' => ?_, fun i' j' hi' hj' => g8 i' j' (by simpa using hi') hj', fun i' j' e' c' he' hc' => ?_⟩
      · rcases List.mem_or_eq_of_mem_set he' with h | h
        · exact g7 e' h
        · rw [h, List.length_set]; exact g7 e (List.mem_of_getElem? he)
      · have hrel : ∀ {c}, (i', j') ≠ (i, j) → RdC w E.loc (o', [(i', j')]) c (us i' j') → RdC w' (E.inlBack w o' i j b0 cap0 E').loc (o', [(i', j')]) c (us i' j') := fun hne h =>
          h.relabel (o', [(i', j')]) t0 (fun b' q hb' hq => town o' _ b' hb' hq (fun q' h' => by simp at h'; exact hne (by rw [h'.1.1, h'.1.2])))
        rw [List.getElem?_set] at he'
        by_cases hi : i = i'
        · subst hi
          rw [if_pos rfl, if_pos hil] at he'
          cases he'
          rw [List.getElem?_set] at hc'
          by_cases hj : j = j'
          · subst hj
            have hjl := (List.getElem?_eq_some_iff.1 hc).1
            rw [if_pos rfl, if_pos hjl] at hc'
            cases hc'
            rw [hu]
            rcases hlive with ⟨h1, _⟩ | ⟨b', cap', arr', us', k1, k2, k3, k4, k5, k6, k7, k8, k9⟩
            · rw [h1] at hr1; cases hr1
            · rw [k1] at hr1
              cases hr1
              rw [← hlen]
              refine .own _ b0 sz' cap0 es2 arr' ty' us' (hlocN _ _ k2) k3 k4 k5 k6 k7 k8 (fun i2 j2 e2 c2 he2 hc2 => ?_)
              exact (k9 i2 j2 e2 c2 he2 hc2).own_relabel (hown e2 (List.mem_of_getElem? he2) c2 (List.mem_of_getElem? hc2)) (o', [(i, j)] ++ [(i2, j2)]) (fun b' q hb' hq => by
                have := hlocN b' _ hq
                simpa using this)
          · rw [if_neg hj] at hc'
            exact hrel (by simp; exact fun h => hj h.symm) (g9 i j' e c' he hc')
        · rw [if_neg hi] at he'
          exact hrel (by simp; exact fun h => absurd h.symm hi) (g9 i' j' e' c' he' hc')
    · have ho' : (s.H o').map killO = some ob := by
        have h : (upd (fun k => (s.H k).map killO) o (some (Ob.rw ty sz (es.set i (e.set j (.row true es2))))) : Hp) o' = some ob := ho
        rw [upd_ne _ _ hoo] at h
        exact h
      rw [Option.map_eq_some_iff] at ho'
      obtain ⟨y, hy, rfl⟩ := ho'
      have hly := hR.live o' y hy
      have hmy := (hR.mnH o' y hy).2
      cases y with
      | box ty1 cs =>
        obtain ⟨b', arr', us', k1, k2, k3, k4, k5, k6⟩ := hly
        have hb := town o' [] b' (RdR.lt k3) k2 (fun q h => hoo (Prod.mk.inj h).1)
        show LiveOb _ _ _ _ (.box ty1 (killL cs))
        rw [killL_map]
        refine ⟨b', arr', us', k1, hb.2, hb.1.trans k3, by simpa using k4, fun j hj => k5 j (by simpa using hj), fun j c hj => ?_⟩
        rw [List.getElem?_map, Option.map_eq_some_iff] at hj
        obtain ⟨c', hc', rfl⟩ := hj
        exact (k6 j c' hc').kill t0 hob (hmy c' (List.mem_of_getElem? hc'))
      | rw ty1 sz1 es1 =>
        rcases hly with ⟨k1, k2⟩ | ⟨b', cap', arr', us', k1, k2, k3, k4, k5, k6, k7, k8, k9⟩
        · exact .inl ⟨k1, k2⟩
        · have hb := town o' [] b' (RdR.lt k3) k2 (fun q h => hoo (Prod.mk.inj h).1)
          exact .inr ⟨b', cap', arr', us', k1, hb.2, hb.1.trans k3, k4, k5, k6, k7, k8, fun i j e c he hc => (k9 i j e c he hc).relabel (o', [(i, j)]) t0 (fun b2 q hb2 hq => town o' _ b2 hb2 hq (fun q' h => hoo (Prod.mk.inj h).1))⟩
  · intro b ℓ hb
    by_cases hcc : b < w.heap.size ∧ ¬ Mut (E.inl o i j b0 cap0) b
    · exact Nat.lt_of_lt_of_le hcc.1 hevo.size
    · have h1 : (E.inlBack w o i j b0 cap0 E').loc b = (E'.loc b).map (fun ℓ : Loc => if ℓ.1 = 1 then (o, (i, j) :: ℓ.2) else (0, (ℓ.1, 0) :: ℓ.2)) := if_neg hcc
      rw [h1, Option.map_eq_some_iff] at hb
      obtain ⟨ℓ0, h0, _⟩ := hb
      exact hlt b ℓ0 h0
  · intro b hb hm
    have h1 := hR.old b hb hm
    have hbw := Nat.lt_of_lt_of_le hb hR.evo.size
    rw [← h1]
    refine hlocO b hbw (fun hmm => ?_)
    obtain ⟨q, hq⟩ := mut_inl.1 hmm
    exact hm ⟨o, _, by rw [← h1, hq], ho0⟩
  · intro o' x' hx'
    obtain ⟨hu', h⟩ := hR.pas o' x' hx'
    refine ⟨hu', ?_⟩
    rcases hob o' hu' with h1 | ⟨h1, y, z, h2, h3, h4⟩
    · exact .inl h1
    · rcases h with h | ⟨h5, y', h6, h7⟩
      · rw [h] at h2; cases h2
      · rw [h2] at h6
        cases h6
        exact .inr ⟨h1.trans h5, z, h3, h7.trans h4⟩
  · exact hR.u0
  · simp only [inlS]
    rw [upd_ne _ _ (Ne.symm ho0), hR.h0]
    rfl
  · intro k
    cases d with
    | none => exact (hR.mnT k).kill
    | some d =>
      show Mn _ (putT nt (fun k => killA (s.t k)) (some d) _ k)
      simp only [putT]
      split
      · by_cases hd : k = d
        · subst hd
          rw [upd_same]
          exact .c _
        · rw [upd_ne _ _ hd]
          exact (hR.mnT k).kill
      · exact (hR.mnT k).kill
  · intro o' ob ho
    by_cases hoo : o' = o
    · subst hoo
      have h : (upd (fun k => (s.H k).map killO) o' (some (Ob.rw ty sz (es.set i (e.set j (.row true es2))))) : Hp) o' = some ob := ho
      rw [upd_same] at h
      cases h
      exact ⟨(hR.mnH _ _ hH).1, trivial⟩
    · have h : (upd (fun k => (s.H k).map killO) o (some (Ob.rw ty sz (es.set i (e.set j (.row true es2))))) : Hp) o' = some ob := ho
      rw [upd_ne _ _ hoo, Option.map_eq_some_iff] at h
      obtain ⟨y, hy, rfl⟩ := h
      refine ⟨(hR.mnH _ _ hy).1, ?_⟩
      have := (hR.mnH _ _ hy).2
      cases y with
      | box ty1 cs =>
        show ∀ c ∈ killL cs, _
        rw [killL_map]
        intro c hc
        obtain ⟨c', hc', rfl⟩ := List.mem_map.1 hc
        exact (this c' hc').kill
      | rw => trivial
  · refine ⟨hevo.os.trans hR.evo.os, hevo.tape.trans hR.evo.tape, hevo.output.trans hR.evo.output, Nat.le_trans hR.evo.size hevo.size, fun k hk hm => ?_⟩
    rw [hevo.block k (Nat.lt_of_lt_of_le hk hR.evo.size) (fun hmm => ?_)]
    · exact hR.evo.block k hk hm
    · obtain ⟨q, hq⟩ := mut_inl.1 hmm
      exact hm ⟨o, _, by rw [← hR.old k hk hm, hq], ho0⟩

theorem CallOk.mono {f : Nat} {Hin : List Ob} {args : List AV} {Post Post' : AV → List (Option Ob) → Prop} (h : CallOk P f Hin args Post) (hp : ∀ r out, Post r out → Post' r out) : CallOk P f Hin args Post' :=
  ⟨h.1, fun w E vals h1 h2 h3 h4 => (h.2 w E vals h1 h2 h3 h4).mono (fun e w' ⟨u, r, out, E', k1, k2, k⟩ => ⟨u, r, out, E', k1, hp r out k2, k⟩)⟩

/-- A call's way, by a contract. -/
theorem run_enter {f : Nat} {Hin : List Ob} {args' : List AV} {Post : AV → List (Option Ob) → Prop} (h : CallOk P f Hin args' Post) {o : Oper} {args : Array Operand} {ts : Array Nat} (hop : o.op = .call { callee := .value (.func f), args := args, argTypes := ts }) :
    (execOp a.eval o).run P w = .ok (.enter f (args.map a.eval)) w := by
  have hc := h.1
  have : (callFunc f (args.map a.eval)).run P w = .ok (.enter f (args.map a.eval)) w := by
    unfold callable at hc
    split at hc
    · rename_i fn hf
      rw [Bool.and_eq_true] at hc
      have h1 : fn.body ≠ none := by
        intro hb
        rw [hb] at hc
        simp at hc
      have h2 : fn.name ≠ "runtime.NumGoroutine" := by simpa using hc.2
      simp [callFunc, hf, h1, h2]
    · cases hc
  have h3 : execOp a.eval o = (do let d ← resolve a.eval { callee := .value (.func f), args := args, argTypes := ts } o.type; invoke d.target d.args) := by
    simp only [execOp, hop]
  rw [h3]
  simp [resolve, Deferred.ofValue, Act.eval, invoke, this]

def TriQ (P : Program) (nt : Nat) (o1 o2 o3 : Oper) (s : ASt) (K : ASt → Prop) : Prop :=
  ∃ (t x d1 m d2 f : Nat) (ts : Array Nat) (o i j ty sz : Nat) (es : List (List CV)) (e : List CV) (es' : List (List CV)) (v : Value) (ti : TI),
    (o1.op = .load t (.tmp x) ∧ o1.dst = some d1 ∧ o1.guard = none ∧ o2.op = .move (.tmp m) ∧ o2.dst = some d2 ∧ o2.guard = none ∧ o3.op = .call { callee := .value (.func f), args := #[.tmp d1, .tmp d2], argTypes := ts } ∧ o3.guard = none) ∧
    d1 ≠ d2 ∧ d1 < nt ∧ d2 < nt ∧ m ≠ d1 ∧ m < nt ∧ x < nt ∧ tiOf P t = some ti ∧ ti.agg = false ∧ s.t x = .pt o i j ∧ s.H o = some (.rw ty sz es) ∧ es[i]? = some e ∧ e[j]? = some (.row true es') ∧ es' ≠ [] ∧ s.t m = .c (.v v) ∧
    ∀ ty' sz', (∀ e ∈ es', e.length = sz') → CallOk P f [.rw ty' sz' es'] [.sl 1 es'.length, .c (.v v)] (fun r out => ∃ y es2, r = .c (.v y) ∧ y.oneCell' = true ∧ out = [some (.rw ty' sz' es2)] ∧ es2.length = es'.length ∧ (∀ e ∈ es2, ∀ c ∈ e, Own c) ∧
      K (inlS nt ⟨upd (upd s.t d1 .any) d2 (.c (.v v)), s.H, s.c⟩ o i j ty sz es e es2 o3.dst (.c (.v y))))

theorem RelE.putAny (hR : RelE nt I U s E a w) {d : Nat} {u : Value} {x : AV} (hx : RdV w E s.H x u) (hm : Mn U x) (hd : d < nt) : RelE nt I U { s with t := upd s.t d x } E (a.put (some d) u) w := by
  constructor
  · exact hR.defers
  · simp [Act.put, hR.size]
  · intro k y hk
    simp only [Act.put, Array.getElem?_setIfInBounds] at hk
    have hsz : a.tmps.size = nt := hR.size
    by_cases hdk : d = k
    · subst hdk
      rw [if_pos rfl, if_pos (hsz ▸ hd)] at hk
      cases hk
      show RdV w E s.H (upd s.t d x d) _
      rw [upd_same]
      exact hx
    · rw [if_neg hdk] at hk
      show RdV w E s.H (upd s.t d x k) _
      rw [upd_ne _ _ (Ne.symm hdk)]
      exact hR.slots k y hk
  · exact hR.live
  · exact hR.locLt
  · exact hR.old
  · exact hR.pas
  · exact hR.u0
  · exact hR.h0
  · intro k
    show Mn U (upd s.t d x k)
    by_cases hdk : k = d
    · subst hdk; rw [upd_same]; exact hm
    · rw [upd_ne _ _ hdk]; exact hR.mnT k
  · exact hR.mnH
  · exact hR.evo

theorem triQ_sound {ops : Array Oper} {o1 o2 o3 : Oper} {rest : List Oper} {K : ASt → Prop} {Q : Exit → Act → World → Prop} (hR : RelE nt I U s E a w) (h : TriQ P nt o1 o2 o3 s K)
    (hn : ∀ s' E' a' w', K s' → s'.c = s.c → RelE nt I U s' E' a' w' → wpList P ops Q rest a' w') : wpList P ops Q (o1 :: o2 :: o3 :: rest) a w := by
  obtain ⟨t, x, d1, m, d2, f, ts, o, i, j, ty, sz, es, e, es', v, ti, ⟨p1, p2, p3, p4, p5, p6, p7, p8⟩, q1, q2, q3, q4, q5, q6, q7, q8, q9, q10, q11, q12, q13, q14, hk⟩ := h
  have hil := (List.getElem?_eq_some_iff.1 q11).1
  have hjl := (List.getElem?_eq_some_iff.1 q12).1
  rcases hR.live o _ q10 with ⟨_, h1⟩ | ⟨b, cap, arr, us, g1, g2, g3, g4, g5, g6, g7, g8, g9⟩
  · rw [h1] at hil; simp at hil
  have hel := g7 e (List.mem_of_getElem? q11)
  have hcell := g9 i j e _ q11 q12
  have hat : arr[i * sz + j]? = some (us i j) := g8 i j hil (hel ▸ hjl)
  obtain ⟨b0, cap0, sz0, arr0, ty0, us0, hu, l1, l2, l3, l4, l5, l6, l7, l8⟩ : ∃ b0 cap0 sz0 arr0 ty0, ∃ us0 : Nat → Nat → Value, us i j = .slice (some ⟨b0, 0, none⟩) es'.length cap0 ∧ E.loc b0 = some (o, [(i, j)]) ∧ w.heap[b0]? = some (.cells arr0 ty0 (0, 0)) ∧ arr0.size = cap0 * sz0 ∧ es'.length ≤ cap0 ∧ cap0 ≤ maxLen ∧
      (∀ e ∈ es', e.length = sz0) ∧ (∀ i j, i < es'.length → j < sz0 → arr0[i * sz0 + j]? = some (us0 i j)) ∧ (∀ (i' j' : Nat) e c, es'[i']? = some e → e[j']? = some c → RdC w E.loc (o, [(i, j)] ++ [(i', j')]) c (us0 i' j')) := by
    generalize hy : us i j = y at hcell
    cases hcell with
    | im _ _ _ _ hi => simp [CV.im] at hi
    | nil => exact absurd rfl q13
    | own _ b0 sz0 cap0 _ arr0 ty0 us0 l1 l2 l3 l4 l5 l6 l7 l8 => exact ⟨b0, cap0, sz0, arr0, ty0, us0, rfl, l1, l2, l3, l4, l5, l6, l7, l8⟩
  have hx : a.eval (.tmp x) = .pointer (some ⟨b, i * sz + j, none⟩) := by
    have := hR.get (.tmp x)
    simp only [getA, if_pos q6, q9] at this
    generalize hy : a.eval (.tmp x) = y at this
    cases this with
    | ptX _ _ _ _ h => rw [q10] at h; cases h
    | pt _ _ _ ob b' cap' h hr =>
      rw [q10] at h
      cases h
      rw [g1] at hr
      cases hr
      rfl
  have hrun1 : (execOp a.eval o1).run P w = .ok (.value (us i j)) w := by
    have h1 : (Instr.loadAt t (.pointer (some ⟨b, i * sz + j, none⟩))).run P w = .ok (us i j) w := by
      simp only [Instr.loadAt, Instr.sureAddr, loadVar, Sem.run_bind, Sem.run_pure, Result.andThen_ok, run_isAgg' q7, q8, Bool.false_eq_true, if_false, run_load]
      rw [cell_at g3, hat]
    simp [execOp, p1, hx, h1]
  have hm1 : (a.put (some d1) (us i j)).eval (.tmp m) = v := by
    have h1 : a.eval (.tmp m) = v := hR.eval (by simp only [getA, if_pos q5]; exact q14)
    rw [← h1]
    simp only [Act.eval, Act.put, Array.getD_eq_getD_getElem?, Array.getElem?_setIfInBounds]
    rw [if_neg (Ne.symm q4)]
  have hrun2 : (execOp (a.put (some d1) (us i j)).eval o2).run P w = .ok (.value v) w := by
    simp only [execOp, p4, hm1]
    rfl
  have hR1 : RelE nt I U { s with t := upd s.t d1 .any } E (a.put (some d1) (us i j)) w := hR.putAny (.any _) .any q2
  have hv : v.oneCell' = true := by
    have h1 := hR.get (.tmp m)
    simp only [getA, if_pos q5, q14] at h1
    cases h1 with
    | c _ _ h => exact (by cases h; assumption)
  have hR2 : RelE nt I U ⟨upd (upd s.t d1 .any) d2 (.c (.v v)), s.H, s.c⟩ E ((a.put (some d1) (us i j)).put (some d2) v) w := hR1.putAny (.c _ _ (.v _ hv)) (.c _) q3
  have hok := hk ty0 sz0 l6
  have hrun3 := run_enter (a := (a.put (some d1) (us i j)).put (some d2) v) (w := w) hok p7
  have hw : ∀ {o : Oper} {A : Act}, o.guard = none → Region.wanted o (yielded ops A.tmps) = true := fun h => by simp [Region.wanted, h]
  unfold wpList
  rw [if_pos (hw p3)]
  refine .inl ?_
  unfold Oper.wp
  rw [hrun1]
  show wpList P ops Q (o2 :: o3 :: rest) (a.put o1.dst (us i j)) w
  rw [p2]
  unfold wpList
  rw [if_pos (hw p6)]
  refine .inl ?_
  unfold Oper.wp
  rw [hrun2]
  show wpList P ops Q (o3 :: rest) ((a.put (some d1) (us i j)).put o2.dst v) w
  rw [p5]
  unfold wpList
  rw [if_pos (hw p8)]
  refine .inl ?_
  unfold Oper.wp
  rw [hrun3]
  have hu2 : (#[Operand.tmp d1, Operand.tmp d2].map ((a.put (some d1) (us i j)).put (some d2) v).eval) = #[us i j, v] := by
    have hsz := hR.size
    have e1 : d1 < a.tmps.size := by rw [hsz]; exact q2
    have e2 : d2 < a.tmps.size := by rw [hsz]; exact q3
    simp [Act.eval, Act.put, Array.getD_eq_getD_getElem?, Array.getElem?_setIfInBounds, e1, e2, Ne.symm q1]
  rw [hu2]
  show Calls P f _ w _
  refine (hok.2 w (E.inl o i j b0 cap0) #[us i j, v] ?_ ?_ rfl ?_).mono ?_
  · intro k ob hk'
    have hk1 : k = 1 ∧ ob = .rw ty0 sz0 es' := by
      unfold HpS at hk'
      split at hk'
      · cases hk'
      · match k, hk' with
        | 0, hk' => simp at *
        | 1, hk' => simp at hk'; exact ⟨rfl, hk'.symm⟩
        | k + 2, hk' => simp at hk'
    obtain ⟨rfl, rfl⟩ := hk1
    refine .inr ⟨b0, cap0, arr0, us0, rfl, inl_some l1, l2, l3, l4, l5, l6, l7, fun i' j' e' c' he' hc' => (l8 i' j' e' c' he' hc').relabel (1, [(i', j')]) (fun b' _ hb' => ⟨rfl, by simp [Env.inl, hb']⟩) (fun b' q _ hq => ⟨rfl, ?_⟩)⟩
    exact inl_some (q := (i', j') :: q) (by simpa using hq)
  · intro b' ℓ hb
    simp only [Env.inl, Option.bind_eq_some_iff] at hb
    obtain ⟨ℓ0, h0, _⟩ := hb
    exact hR.locLt b' ℓ0 h0
  · intro k y u hy hu'
    match k, hy, hu' with
    | 0, hy, hu' =>
      cases hy
      cases hu'
      rw [hu]
      exact .sl 1 es'.length ty0 sz0 es' b0 cap0 rfl rfl
    | 1, hy, hu' =>
      cases hy
      cases hu'
      exact .c _ _ (.v _ hv)
    | k + 2, hy, hu' => simp at hy
  · rintro ex w' ⟨u, r, out, E', rfl, ⟨y, es2, rfl, hy, rfl, hlen, hown, hK⟩, hr, hlive, hrs, hros, hpas, hevo, hold, hlt⟩
    have huy : u = y := by
      cases hr with
      | c _ _ h => cases h; rfl
    subst huy
    have hp1 := hpas 1 (.rw ty0 sz0 es') rfl
    rcases hp1 with hp1 | ⟨hp1, _⟩
    · simp [HpL] at hp1
    exact hn _ _ _ w' hK rfl (inl_after hR2 q10 q11 q12 g1 g2 g3 g4 g5 g6 g7 g8 g9 hu hy (hlive 1 _ rfl) hown hlen hp1 hevo hlt hold o3.dst)

theorem seqR_soundL {ops : Array Oper} {Q : Exit → Act → World → Prop} {c : Nat} {rest : List Oper} : ∀ {l : List Oper} {p : Nat} {s : ASt} {E : Env} {a : Act} {w : World} {K : ASt → Prop}, s.c = c → RelE nt I (fun o => o < c + 8 * p) s E a w → seqR P nt (dstOf ops) p l s K →
    (∀ s' E' a' w', K s' → s'.c = c → RelE nt I (fun o => o < c + 8 * (p + l.length)) s' E' a' w' → wpList P ops Q rest a' w') → wpList P ops Q (l ++ rest) a w
  | [], p, s, E, a, w, K, hc, hR, h, hn => hn s E a w h hc hR
  | o :: r, p, s, E, a, w, K, hc, hR, h, hn => by
    have := gstp_sound (ops := ops) (P := P) (Q := Q) hR (fun j hj => by omega) h (next := wpList P ops Q (r ++ rest)) (fun s' E' a' w' hK hc' hR' =>
      seqR_soundL (hc'.trans hc) (hR'.mono (fun q hq => by rcases hq with hq | ⟨j, hj, rfl⟩ <;> omega)) hK (fun s2 E2 a2 w2 hK2 hc2 hR2 => hn s2 E2 a2 w2 hK2 hc2 (by rw [List.length_cons, show p + (r.length + 1) = p + 1 + r.length by omega]; exact hR2)))
    show wpList P ops Q (o :: (r ++ rest)) a w
    unfold wpList
    split
    · rename_i hw; rw [if_pos hw] at this; exact .inl this
    · rename_i hw; rw [if_neg hw] at this; exact this

/-- A region in which the three operations from q on may be taken as one. -/
def FuseQ (P : Program) (nt q : Nat) (ops : Array Oper) (s : ASt) (K : ASt → Prop) : Prop :=
  seqR P nt (dstOf ops) 0 (ops.toList.take q) s fun s1 => seqR P nt (dstOf ops) q (ops.toList.drop q) s1 K ∨ ∃ o1 o2 o3 r, ops.toList.drop q = o1 :: o2 :: o3 :: r ∧ TriQ P nt o1 o2 o3 s1 fun s2 => seqR P nt (dstOf ops) (q + 3) r s2 K
theorem fuseQ_sound {ops : Array Oper} {Q : Exit → Act → World → Prop} {q : Nat} {K : ASt → Prop} (hR : RelE nt I (fun o => o < s.c) s E a w) (hq : q ≤ ops.size) (h : FuseQ P nt q ops s K)
    (hn : ∀ s' E' a' w', K s' → s'.c = s.c → RelE nt I (fun o => o < s.c + 8 * ops.size) s' E' a' w' → Q .normal a' w') : wpList P ops Q ops.toList a w := by
  have hl : ops.toList = ops.toList.take q ++ ops.toList.drop q := (List.take_append_drop q ops.toList).symm
  rw [hl]
  have hlen : (ops.toList.take q).length = q := by rw [List.length_take, Array.length_toList]; omega
  refine seqR_soundL rfl (hR.mono (fun o ho => by omega)) h (fun s1 E1 a1 w1 h1 hc1 hR1 => ?_)
  rw [Nat.zero_add, hlen] at hR1
  rcases h1 with h1 | ⟨o1, o2, o3, r, hd, h1⟩
  · refine seqR_sound hc1 hR1 h1 (fun s2 E2 a2 w2 h2 hc2 hR2 => hn s2 E2 a2 w2 h2 hc2 (hR2.mono (fun o ho => ?_)))
    have : (ops.toList.drop q).length = ops.size - q := by rw [List.length_drop, Array.length_toList]
    omega
  · rw [hd]
    refine triQ_sound hR1 h1 (fun s2 E2 a2 w2 h2 hc2 hR2 => ?_)
    refine seqR_sound (hc2.trans hc1) (hR2.mono (fun o ho => by omega)) h2 (fun s3 E3 a3 w3 h3 hc3 hR3 => hn s3 E3 a3 w3 h3 hc3 (hR3.mono (fun o ho => ?_)))
    have : (ops.toList.drop q).length = ops.size - q := by rw [List.length_drop, Array.length_toList]
    rw [hd] at this
    simp only [List.length_cons] at this
    omega
end
end Go.Proofs.YtnnmpdanfeejbaaGreat.Abs

/- The abstract machine: an object is handed over to be read only, for good. -/
namespace Go.Proofs.YtnnmpdanfeejbaaGreat.Abs
open Go Go.RowKit
set_option linter.unusedVariables false
set_option linter.unusedSimpArgs false

def toF : AV → Option CV
  | .c x => some x
  | .nul => some (.row false [])
  | _ => none
def toFs : List AV → Option (List CV)
  | [] => some []
  | x :: r => match toF x, toFs r with
    | some c, some l => some (c :: l)
    | _, _ => none
def frN : Option Ob → Nat → AV
  | some (.rw _ _ es), n => if n = es.length then .c (.row false es) else .any
  | _, _ => .any
def frP : Option Ob → Nat → Nat → AV
  | some (.box _ cs), i, j => if i = 0 then (match toFs cs with | some l => .c (.ptr l j) | none => .any) else .any
  | _, _, _ => .any
mutual
def frA (o : Nat) (ob : Option Ob) : AV → AV
  | .sl k n => if k = o then frN ob n else .sl k n
  | .pt k i j => if k = o then frP ob i j else .pt k i j
  | .ag cs => .ag (frL o ob cs)
  | .tu cs => .tu (frL o ob cs)
  | .c x => .c x
  | .bw x => .bw x
  | .nul => .nul
  | .any => .any
def frL (o : Nat) (ob : Option Ob) : List AV → List AV
  | [] => []
  | x :: r => frA o ob x :: frL o ob r
end
theorem frL_map (o : Nat) (ob : Option Ob) (l : List AV) : frL o ob l = l.map (frA o ob) := by
  induction l with
  | nil => rfl
  | cons x r ih => rw [frL, ih]; rfl
def frO (o : Nat) (ob : Option Ob) : Ob → Ob
  | .box ty cs => .box ty (frL o ob cs)
  | .rw ty sz es => .rw ty sz es
def frS (o : Nat) (s : ASt) : ASt := ⟨fun k => frA o (s.H o) (s.t k), upd (fun k => (s.H k).map (frO o (s.H o))) o none, s.c⟩
def frz : List Nat → ASt → ASt
  | [], s => s
  | o :: r, s => if o = 0 then frz r s else frz r (frS o s)
def frzC : Option (List Nat) → ASt → ASt
  | none, s => s
  | some os, s => frz os s
def Env.frz (E : Env) (o : Nat) : Env := ⟨E.rho, fun b => (E.loc b).bind fun ℓ => if ℓ.1 = o then none else some ℓ⟩
theorem frz_t0 {E : Env} {o b : Nat} (h : E.loc b = none) : (E.frz o).loc b = none := by simp [Env.frz, h]
theorem frz_own {E : Env} {o b : Nat} {p : List (Nat × Nat)} (h : E.loc b = some (o, p)) : (E.frz o).loc b = none := by simp [Env.frz, h]
theorem frz_other {E : Env} {o b k : Nat} {p : List (Nat × Nat)} (h : E.loc b = some (k, p)) (hk : k ≠ o) : (E.frz o).loc b = some (k, p) := by simp [Env.frz, h, hk]
theorem frz_some {E : Env} {o b : Nat} {ℓ : Loc} (h : (E.frz o).loc b = some ℓ) : E.loc b = some ℓ ∧ ℓ.1 ≠ o := by
  simp only [Env.frz, Option.bind_eq_some_iff] at h
  obtain ⟨ℓ', h1, h2⟩ := h
  split at h2
  · cases h2
  · cases h2; exact ⟨h1, by assumption⟩
theorem frO_like (o : Nat) (ob : Option Ob) (x : Ob) : x.like (frO o ob x) := by cases x <;> simp [Ob.like, frO]
theorem frO_sz (o : Nat) (ob : Option Ob) (x : Ob) : (frO o ob x).sz = x.sz := by cases x <;> rfl
section
variable {nt : Nat} {I : Ini} {U : Nat → Prop} {s : ASt} {E : Env} {a : Act} {w : World}
theorem toFs_ok {E : Env} {H : Hp} : ∀ {cs : List AV} {l : List CV}, toFs cs = some l → l.length = cs.length ∧ ∀ (j : Nat) c, l[j]? = some c → ∃ x, cs[j]? = some x ∧ ∀ u, RdV w E H x u → RdR w E.T0 c u
  | [], l, h => by
    cases h
    exact ⟨rfl, fun j c hj => by simp at hj⟩
  | x :: r, l, h => by
    unfold toFs at h
    split at h
    · rename_i c l' hc hl
      cases h
      have ih := toFs_ok (E := E) (H := H) hl
      refine ⟨by simp [ih.1], fun j c' hj => ?_⟩
      cases j with
      | zero =>
        simp at hj; subst hj
        refine ⟨x, rfl, fun u hu => ?_⟩
        unfold toF at hc
        split at hc
        · cases hc; cases hu with | c _ _ h => exact h
        · cases hc; cases hu; exact .nil _ _ _
        · cases hc
      | succ j =>
        obtain ⟨y, hy, hyu⟩ := ih.2 j c' (by simpa using hj)
        exact ⟨y, by simpa using hy, hyu⟩
    · cases h
theorem RdV.frz (hR : RelE nt I U s E a w) (o : Nat) {x : AV} {u : Value} (h : RdV w E s.H x u) : RdV w (E.frz o) (frS o s).H (frA o (s.H o) x) u := by
  have hH : ∀ k, k ≠ o → (frS o s).H k = (s.H k).map (frO o (s.H o)) := fun k hk => if_neg hk
  induction h with
  | c x u h => exact .c _ _ (h.mono fun b _ hb => ⟨rfl, frz_t0 hb⟩)
  | bw x u h => exact .bw _ _ (h.mono fun b _ hb => ⟨rfl, fun o' ho' => hb o' (frz_some ho').1⟩)
  | nul => exact .nul
  | any u => exact .any u
  | slX k n u h =>
    rw [frA]
    split
    · rename_i e; subst e; rw [h]; exact .any u
    · rename_i hk; exact .slX k n u (by rw [hH k hk, h]; rfl)
  | sl k n ty sz es b cap h hr =>
    rw [frA]
    split
    · rename_i e
      subst e
      rw [h, frN]
      split
      · rename_i hn
        subst hn
        rcases hR.live k _ h with ⟨h1, _⟩ | ⟨b', cap', arr, us, h1, h2, h3, h4, h5, h6, h7, h8, h9⟩
        · rw [h1] at hr; cases hr
        · rw [h1] at hr
          cases hr
          refine .c _ _ ?_
          have := RdR.row (w := w) (T := (E.frz k).T0) false b 0 sz cap es arr ty (0, 0) us (frz_own h2) h3 h7 (Nat.le_trans h5 h6) h5 (fun i j hi hj => by rw [Nat.zero_add]; exact h8 i j hi hj)
            (fun i j e c he hc => (h9 i j e c he hc).toR (fun b hb => frz_t0 hb) (fun b q hb => frz_own hb))
          exact this
      · exact .any _
    · rename_i hk
      exact .sl k n ty sz es b cap (by rw [hH k hk, h]; rfl) hr
  | slN k ty sz h hr =>
    rw [frA]
    split
    · rename_i e; subst e; rw [h, frN]; exact .c _ _ (.nil _ _ _)
    · rename_i hk; exact .slN k ty sz (by rw [hH k hk, h]; rfl) hr
  | ptX k i j u h =>
    rw [frA]
    split
    · rename_i e; subst e; rw [h]; exact .any u
    · rename_i hk; exact .ptX k i j u (by rw [hH k hk, h]; rfl)
  | pt k i j ob b cap h hr =>
    rw [frA]
    split
    · rename_i e
      subst e
      rw [h]
      cases ob with
      | rw ty sz es => exact .any _
      | box ty cs =>
        rw [frP]
        split
        · rename_i hi
          subst hi
          split
          · rename_i l hl
            obtain ⟨b', arr, us, h1, h2, h3, h4, h5, h6⟩ := hR.live k _ h
            rw [h1] at hr
            cases hr
            have hq := toFs_ok (w := w) (E := E) (H := s.H) hl
            refine .c _ _ ?_
            have := RdR.ptr (w := w) (T := (E.frz k).T0) b 0 l j arr ty (0, 0) us (frz_own h2) h3 (fun m hm => by rw [Nat.zero_add]; exact h5 m (by omega)) (fun m c hc => by
              obtain ⟨x, hx, hxu⟩ := hq.2 m c hc
              exact (hxu _ (h6 m x hx)).mono (fun b _ hb => ⟨rfl, frz_t0 hb⟩))
            simpa [Ob.sz] using this
          · exact .any _
        · exact .any _
    · rename_i hk
      have := RdV.pt (w := w) (E := E.frz o) (H := (frS o s).H) k i j (frO o (s.H o) ob) b cap (by rw [hH k hk, h]; rfl) hr
      rw [frO_sz] at this
      exact this
  | ag cs us hs _ ih =>
    rw [frA, frL_map]
    refine .ag _ us (by simpa using hs) (fun i c u hc hu => ?_)
    rw [List.getElem?_map, Option.map_eq_some_iff] at hc
    obtain ⟨c', hc', rfl⟩ := hc
    exact ih i c' u hc' hu
  | tu cs us hs _ ih =>
    rw [frA, frL_map]
    refine .tu _ us (by simpa using hs) (fun i c u hc hu => ?_)
    rw [List.getElem?_map, Option.map_eq_some_iff] at hc
    obtain ⟨c', hc', rfl⟩ := hc
    exact ih i c' u hc' hu
theorem Mn.frz {o : Nat} {ob : Option Ob} {x : AV} (h : Mn U x) : Mn U (frA o ob x) := by
  induction h with
  | c x => exact .c x
  | bw x => exact .bw x
  | nul => exact .nul
  | any => exact .any
  | sl k n hk =>
    rw [frA]
    split
    · unfold frN; split
      · split
        · exact .c _
        · exact .any
      · exact .any
    · exact .sl k n hk
  | pt k i j hk =>
    rw [frA]
    split
    · unfold frP; split
      · split
        · split
          · exact .c _
          · exact .any
        · exact .any
      · exact .any
    · exact .pt k i j hk
  | ag cs _ ih =>
    rw [frA, frL_map]
    refine .ag _ (fun c hc => ?_)
    obtain ⟨c', hc', rfl⟩ := List.mem_map.1 hc
    exact ih c' hc'
  | tu cs _ ih =>
    rw [frA, frL_map]
    refine .tu _ (fun c hc => ?_)
    obtain ⟨c', hc', rfl⟩ := List.mem_map.1 hc
    exact ih c' hc'
theorem RelE.frS (hR : RelE nt I U s E a w) {o : Nat} (ho : o ≠ 0) : RelE nt I U (frS o s) (E.frz o) a w := by
  have hH : ∀ k, k ≠ o → (Abs.frS o s).H k = (s.H k).map (frO o (s.H o)) := fun k hk => if_neg hk
  have hHo : (Abs.frS o s).H o = none := if_pos rfl
  have hsome : ∀ k x, (Abs.frS o s).H k = some x → k ≠ o ∧ ∃ y, s.H k = some y ∧ x = frO o (s.H o) y := by
    intro k x hk
    have hne : k ≠ o := fun e => by rw [e, hHo] at hk; cases hk
    rw [hH k hne, Option.map_eq_some_iff] at hk
    obtain ⟨y, hy, rfl⟩ := hk
    exact ⟨hne, y, hy, rfl⟩
  constructor
  · exact hR.defers
  · exact hR.size
  · exact fun k u hu => (hR.slots k u hu).frz hR o
  · intro k ob hk
    obtain ⟨hne, y, hy, rfl⟩ := hsome k ob hk
    have hl := hR.live k y hy
    cases y with
    | box ty cs =>
      obtain ⟨b, arr, us, h1, h2, h3, h4, h5, h6⟩ := hl
      refine ⟨b, arr, us, h1, frz_other h2 hne, h3, by rw [h4, frL_map]; simp, fun j hj => h5 j (by simpa [frL_map] using hj), fun j c hc => ?_⟩
      rw [frL_map, List.getElem?_map, Option.map_eq_some_iff] at hc
      obtain ⟨c', hc', rfl⟩ := hc
      exact (h6 j c' hc').frz hR o
    | rw ty sz es =>
      rcases hl with h | ⟨b, cap, arr, us, h1, h2, h3, h4, h5, h6, h7, h8, h9⟩
      · exact .inl h
      · refine .inr ⟨b, cap, arr, us, h1, frz_other h2 hne, h3, h4, h5, h6, h7, h8, fun i j e c he hc => (h9 i j e c he hc).relabel _ (fun b _ hb => ⟨rfl, frz_t0 hb⟩) (fun b q _ hb => ⟨rfl, frz_other hb hne⟩)⟩
  · exact fun b ℓ hb => hR.locLt b ℓ (frz_some hb).1
  · intro b hb hm
    have h0 := hR.old b hb hm
    rw [← h0]
    cases hl : E.loc b with
    | none => exact frz_t0 hl
    | some ℓ =>
      obtain ⟨k, p⟩ := ℓ
      refine frz_other hl (fun e => ?_)
      subst e
      exact hm ⟨k, p, by rw [← h0, hl], ho⟩
  · intro k x hk
    obtain ⟨h1, h2⟩ := hR.pas k x hk
    refine ⟨h1, ?_⟩
    by_cases hne : k = o
    · subst hne; exact .inl hHo
    · rcases h2 with h2 | ⟨h2, y, h3, h4⟩
      · exact .inl (by rw [hH k hne, h2]; rfl)
      · exact .inr ⟨h2, frO o (s.H o) y, by rw [hH k hne, h3]; rfl, h4.trans (frO_like ..)⟩
  · exact hR.u0
  · have : (0 : Nat) ≠ o := fun e => ho e.symm
    rw [hH 0 this, hR.h0]; rfl
  · exact fun k => (hR.mnT k).frz
  · intro k ob hk
    obtain ⟨hne, y, hy, rfl⟩ := hsome k ob hk
    have := hR.mnH k y hy
    refine ⟨this.1, ?_⟩
    cases y with
    | rw => exact trivial
    | box ty cs =>
      intro c hc
      rw [frL_map] at hc
      obtain ⟨c', hc', rfl⟩ := List.mem_map.1 hc
      exact (this.2 c' hc').frz
  · exact hR.evo
theorem RelE.frzL : ∀ (os : List Nat) {s : ASt} {E : Env}, RelE nt I U s E a w → ∃ E', RelE nt I U (frz os s) E' a w
  | [], s, E, hR => ⟨E, hR⟩
  | o :: r, s, E, hR => by
    unfold Abs.frz
    split
    · exact RelE.frzL r hR
    · rename_i h
      exact RelE.frzL r (hR.frS h)
theorem RelE.frzC (os : Option (List Nat)) {s : ASt} {E : Env} (hR : RelE nt I U s E a w) : ∃ E', RelE nt I U (frzC os s) E' a w := by
  cases os with
  | none => exact ⟨E, hR⟩
  | some os => exact hR.frzL os
end
theorem frz_c : ∀ (os : List Nat) (s : ASt), (frz os s).c = s.c
  | [], s => rfl
  | o :: r, s => by
    unfold frz
    split
    · exact frz_c r s
    · exact frz_c r (frS o s)
theorem frzC_c (os : Option (List Nat)) (s : ASt) : (frzC os s).c = s.c := by
  cases os with
  | none => rfl
  | some os => exact frz_c os s
theorem frz_nil {s : ASt} : frz [] s = s := (rfl)
theorem frz_cons {o : Nat} {r : List Nat} {s : ASt} : frz (o :: r) s = if o = 0 then frz r s else frz r (frS o s) := (rfl)
theorem frzC_none {s : ASt} : frzC none s = s := (rfl)
theorem frzC_some {os : List Nat} {s : ASt} : frzC (some os) s = frz os s := (rfl)
theorem frS_eq {o : Nat} {t : Nat → AV} {H : Hp} {c : Nat} : frS o ⟨t, H, c⟩ = ⟨fun k => frA o (H o) (t k), upd (fun k => (H k).map (frO o (H o))) o none, c⟩ := (rfl)
end Go.Proofs.YtnnmpdanfeejbaaGreat.Abs

/- The abstract machine: code, and a function's contract. -/
namespace Go.Proofs.YtnnmpdanfeejbaaGreat.Abs
open Go Go.RowKit
set_option linter.unusedVariables false
set_option linter.unusedSimpArgs false

/-- A loop: a relation that holds at each round's head, and a number that falls. -/
def LoopQ (np : Nat) (body : ASt → (Exit → ASt → Prop) → Prop) (s : ASt) (K : Exit → ASt → Prop) : Prop :=
  ∃ R : ASt → Nat → Prop, (∃ s' n, Weak np s s' ∧ R s' n) ∧ ∀ s n, R s n → body s fun e s' => match e with
    | .normal => ∃ s'' m, Weak np s' s'' ∧ R s'' m ∧ m < n
    | e => K e s'

/-- Ways meet: a relation that holds where they do. -/
def JoinQ (np : Nat) (x y : ASt → (Exit → ASt → Prop) → Prop) (s : ASt) (K : Exit → ASt → Prop) : Prop :=
  ∃ J : ASt → Prop, (x s fun e s' => match e with
    | .normal => ∃ s'', Weak np s' s'' ∧ J s''
    | e => K e s') ∧ ∀ s', J s' → y s' K
def firstReg : Code → Option Nat
  | .region id _ _ => some id
  | .seq x _ => firstReg x
  | .block _ c => firstReg c
  | .loop c => firstReg c
  | _ => none
/-- What a proof picks: ahead of which regions ways meet; at which place of a region three operations are one. -/
structure Cfg where
  js : List Nat := []
  fs : List (Nat × Nat) := []
  /-- which objects are read only from a region on -/
  fz : List (Nat × List Nat) := []
  /-- and which at the end -/
  en : List Nat := []
def Cfg.joins (g : Cfg) (y : Code) : Bool := match firstReg y with
  | some k => g.js.contains k
  | none => false

def optK (o : Option Nat) (f : Nat → Prop) (x : Prop) : Prop := match o with
  | some q => f q
  | none => x
theorem optK_some (q : Nat) (f : Nat → Prop) (x : Prop) : optK (some q) f x = f q := rfl
theorem optK_none (f : Nat → Prop) (x : Prop) : optK none f x = x := rfl
def wpC (P : Program) (nt np : Nat) (g : Cfg) : Code → ASt → (Exit → ASt → Prop) → Prop
  | .skip, s, K => K .normal s
  | .seq x y, s, K => if g.joins y then JoinQ np (wpC P nt np g x) (wpC P nt np g y) s K else wpC P nt np g x s fun e s' => match e with
    | .normal => wpC P nt np g y s' K
    | e => K e s'
  | .region id ops d, s, K => if d then DrawQ P nt ops (frzC (g.fz.lookup id) s) fun s' => K .normal { s' with c := s'.c + 8 * ops.size }
    else optK (g.fs.lookup id) (fun q => q ≤ ops.size ∧ FuseQ P nt q ops (frzC (g.fz.lookup id) s) fun s' => K .normal { s' with c := s'.c + 8 * ops.size })
      (seqR P nt (dstOf ops) 0 ops.toList (frzC (g.fz.lookup id) s) fun s' => K .normal { s' with c := s'.c + 8 * ops.size })
  | .cond c x y, s, K => match c with
    | .tmp d => d < nt ∧ boolK (s.t d) fun b => brB b (wpC P nt np g x { s with t := upd s.t d (.c (.v (.bool true))) } K) (wpC P nt np g y { s with t := upd s.t d (.c (.v (.bool false))) } K)
    | _ => False
  | .block id c, s, K => wpC P nt np g c s fun e s' => match e with
    | .exit j => if j = id then K .normal s' else K (.exit j) s'
    | e => K e s'
  | .loop c, s, K => LoopQ np (wpC P nt np g c) s K
  | .exit id, s, K => K (.exit id) s
  | .ret, s, K => K .ret s
  | _, _, _ => False

section
variable {P : Program} {nt np : Nat} {I : Ini} {g : Cfg}

theorem wpC_sound (hm : P.follows .mixedOrders = true) (hnp : ∀ o x, I.H o = some x → 1 ≤ o ∧ o ≤ np) : ∀ (c : Code) {s : ASt} {E : Env} {a : Act} {w : World} {K : Exit → ASt → Prop} {Q : Exit → Act → World → Prop}, RelE nt I (fun o => o < s.c) s E a w → wpC P nt np g c s K →
    (∀ e s' E' a' w', K e s' → RelE nt I (fun o => o < s'.c) s' E' a' w' → Q e a' w') → c.wp P Q a w := by
  intro c
  induction c with
  | skip => exact fun hR h hn => wp_skip (hn _ _ _ _ _ h hR)
  | seq x y ihx ihy =>
    intro s E a w K Q hR h hn
    simp only [wpC] at h
    split at h
    · obtain ⟨J, h1, h2⟩ := h
      refine wp_seq (ihx hR h1 (fun e s' E' a' w' hK hR' => ?_))
      cases e with
      | normal =>
        obtain ⟨s2, hw, hJ⟩ := hK
        obtain ⟨E2, hR2⟩ := hR'.weak hnp hw
        exact ihy hR2 (h2 s2 hJ) hn
      | exit => exact hn _ _ _ _ _ hK hR'
      | goto => exact hn _ _ _ _ _ hK hR'
      | ret => exact hn _ _ _ _ _ hK hR'
      | panic => exact hn _ _ _ _ _ hK hR'
      | outgrown => exact hn _ _ _ _ _ hK hR'
    refine wp_seq (ihx hR h (fun e s' E' a' w' hK hR' => ?_))
    cases e with
    | normal => exact ihy hR' hK hn
    | exit => exact hn _ _ _ _ _ hK hR'
    | goto => exact hn _ _ _ _ _ hK hR'
    | ret => exact hn _ _ _ _ _ hK hR'
    | panic => exact hn _ _ _ _ _ hK hR'
    | outgrown => exact hn _ _ _ _ _ hK hR'
  | region id ops d =>
    intro s0 E0 a w K Q hR0 h hn
    simp only [wpC] at h
    obtain ⟨E, hR1⟩ := hR0.frzC (g.fz.lookup id)
    generalize hsf : frzC (g.fz.lookup id) s0 = s at h hR1
    have hR : RelE nt I (fun o => o < s.c) s E a w := by rw [← hsf, frzC_c, hsf]; exact hR1
    have hc : ∀ (s' : ASt) E' a' w', s'.c = s.c → RelE nt I (fun o => o < s.c + 8 * ops.size) s' E' a' w' → RelE nt I (fun o => o < ({ s' with c := s'.c + 8 * ops.size } : ASt).c) { s' with c := s'.c + 8 * ops.size } E' a' w' := fun s' E' a' w' hc h => by
      show RelE nt I (fun o => o < s'.c + 8 * ops.size) _ E' a' w'
      rw [hc]
      exact ⟨h.defers, h.size, h.slots, h.live, h.locLt, h.old, h.pas, h.u0, h.h0, h.mnT, h.mnH, h.evo⟩
    cases d with
    | true =>
      rw [if_pos rfl] at h
      exact drawQ_sound hm hR h (fun s' E' a' w' hK hcc hR' => hn _ _ E' _ _ hK (hc s' E' a' w' hcc hR'))
    | false =>
      rw [if_neg (by simp)] at h
      unfold optK at h
      split at h
      · exact wp_region_list (fuseQ_sound hR h.1 h.2 (fun s' E' a' w' hK hcc hR' => hn _ _ E' _ _ hK (hc s' E' a' w' hcc hR')))
      refine wp_region_list (seqR_sound rfl (hR.mono (fun o ho => by omega)) h (fun s' E' a' w' hK hcc hR' => hn _ _ E' _ _ hK (hc s' E' a' w' hcc (by simpa using hR'))))
  | cond c x y ihx ihy =>
    intro s E a w K Q hR h hn
    simp only [wpC] at h
    cases c with
    | const => exact h.elim
    | global => exact h.elim
    | func => exact h.elim
    | tmp d =>
    obtain ⟨hd, h⟩ := h
    obtain ⟨b, hb, h1, h2⟩ : ∃ b, s.t d = .c (.v (.bool b)) ∧ (b = true → wpC P nt np g x { s with t := upd s.t d (.c (.v (.bool true))) } K) ∧ (b = false → wpC P nt np g y { s with t := upd s.t d (.c (.v (.bool false))) } K) := by
      obtain ⟨b, hb, h⟩ := boolK_ex h
      exact ⟨b, hb, h⟩
    have hv : a.eval (.tmp d) = .bool b := hR.eval (x := .tmp d) (by simp only [getA, if_pos hd]; exact hb)
    cases b with
    | true => exact wp_cond_true hv (ihx (hR.refine hb) (h1 rfl) hn)
    | false => exact wp_cond_false hv (ihy (hR.refine hb) (h2 rfl) hn)
  | block id c ih =>
    intro s E a w K Q hR h hn
    refine wp_block (ih hR h (fun e s' E' a' w' hK hR' => ?_))
    cases e with
    | exit j =>
      simp only at hK
      show if j = id then Q .normal a' w' else Q (.exit j) a' w'
      split at hK
      · rename_i hj; rw [if_pos hj]; exact hn _ _ _ _ _ hK hR'
      · rename_i hj; rw [if_neg hj]; exact hn _ _ _ _ _ hK hR'
    | normal => exact hn _ _ _ _ _ hK hR'
    | goto => exact hn _ _ _ _ _ hK hR'
    | ret => exact hn _ _ _ _ _ hK hR'
    | panic => exact hn _ _ _ _ _ hK hR'
    | outgrown => exact hn _ _ _ _ _ hK hR'
  | loop c ih =>
    intro s E a w K Q hR h hn
    obtain ⟨R, ⟨s0, n0, hw0, hR0⟩, hstep⟩ := h
    obtain ⟨E1, hR1⟩ := hR.weak hnp hw0
    refine wp_loop_ghost (fun n a w => ∃ s E, R s n ∧ RelE nt I (fun o => o < s.c) s E a w) n0 ⟨s0, E1, hR0, hR1⟩ (fun n a w hh => ?_)
    obtain ⟨s, E, hRs, hrel⟩ := hh
    refine ih hrel (hstep s n hRs) (fun e s' E' a' w' hK hR' => ?_)
    cases e with
    | normal =>
      obtain ⟨s2, m, hw2, hR2, hlt⟩ := hK
      obtain ⟨E2, hR3⟩ := hR'.weak hnp hw2
      exact ⟨m, hlt, s2, E2, hR2, hR3⟩
    | exit => exact hn _ _ _ _ _ hK hR'
    | goto => exact hn _ _ _ _ _ hK hR'
    | ret => exact hn _ _ _ _ _ hK hR'
    | panic => exact hn _ _ _ _ _ hK hR'
    | outgrown => exact hn _ _ _ _ _ hK hR'
  | exit id => exact fun hR h hn => wp_exit (hn _ _ _ _ _ h hR)
  | ret => exact fun hR h hn => wp_ret (hn _ _ _ _ _ h hR)
  | rangeFunc => exact fun hR h hn => h.elim
  | scope => exact fun hR h hn => h.elim
  | label => exact fun hR h hn => h.elim
  | goto => exact fun hR h hn => h.elim
  | refuse => exact fun hR h hn => h.elim

/-- The results, one by one. -/
def resV (P : Program) (nt : Nat) (s : ASt) : List ResultVar → (List AV → Prop) → Prop
  | [], K => K []
  | .tmp t :: r, K => resV P nt s r fun l => K (getA nt s.t (.tmp t) :: l)
  | .cell t ty :: r, K => bindK ((tiOf P ty).bind fun i => evLoad s.H i (getA nt s.t (.tmp t))) fun v _ => resV P nt s r fun l => K (v :: l)
def tupA : List AV → AV
  | [] => .tu []
  | [x] => x
  | x :: y :: l => .tu (x :: y :: l)
/-- The end of a function: what is handed back, under the contract's numbers. -/
def EndQ (np : Nat) (H : Hp) (x : AV) (Post : AV → List (Option Ob) → Prop) : Prop :=
  ∃ (g : Nat → Nat) (r : AV) (out : List (Option Ob)), Wk g x r ∧ WkH g H (HpL out) ∧ (∀ o, 1 ≤ o → o ≤ np → HpL out o = none ∨ g o = o) ∧ Rs false out.length r ∧ (∀ ob, some ob ∈ out → RsOb false out.length ob) ∧ Post r out
def EndA (P : Program) (nt np : Nat) (rs : List ResultVar) (Post : AV → List (Option Ob) → Prop) (s : ASt) : Prop := resV P nt s rs fun l => EndQ np s.H (tupA l) Post

/-- Nothing but closed values comes back. -/
theorem EndQ.closed {H : Hp} {x : AV} {Post : AV → List (Option Ob) → Prop} (hx : Rs false 0 x) (hP : Post x []) : EndQ 0 H x Post := by
  refine ⟨fun o => o, x, [], ?_, ⟨fun o x' h => ?_, fun o o' h => ?_⟩, fun o h1 h2 => by omega, hx, fun ob h => by simp at h, hP⟩
  · clear hP
    induction hx with
    | v x => exact .same _
    | c x => exact .same _
    | nul => exact .nul
    | any => exact .any _
    | sl o n h1 h2 => omega
    | pt o i j h1 h2 => omega
    | ag cs _ ih => exact .ag _ _ rfl (fun i c c' h h' => by rw [h] at h'; cases h'; exact ih c (List.mem_of_getElem? h))
    | tu cs _ ih => exact .tu _ _ rfl (fun i c c' h h' => by rw [h] at h'; cases h'; exact ih c (List.mem_of_getElem? h))
  · simp [HpL] at h
  · simp [HpL] at h

theorem resV_run {s : ASt} {E : Env} {a : Act} {w : World} {U : Nat → Prop} (hR : RelE nt I U s E a w) : ∀ {rs : List ResultVar} {K : List AV → Prop}, resV P nt s rs K →
    ∃ (us : List Value) (l : List AV), K l ∧ (rs.mapM (m := Sem) fun | .tmp t => Pure.pure (a.tmps.getD t undef) | .cell a' t => do loadVar t (← asAddr (a.tmps.getD a' undef))).run P w = .ok us w ∧ us.length = l.length ∧ ∀ (i : Nat) x u, l[i]? = some x → us[i]? = some u → RdV w E s.H x u
  | [], K, h => ⟨[], [], h, by simp, rfl, fun i x u hx => by simp at hx⟩
  | .tmp t :: r, K, h => by
    have h' : resV P nt s r fun l => K (getA nt s.t (.tmp t) :: l) := h
    obtain ⟨us, l, hK, h1, h2, h3⟩ := resV_run hR h'
    refine ⟨a.tmps.getD t undef :: us, _, hK, by simp only [List.mapM_cons, Sem.run_bind, Sem.run_pure, Result.andThen_ok, h1], by simp [h2], fun i x u hx hu => ?_⟩
    cases i with
    | zero =>
      cases hx
      cases hu
      exact hR.get (.tmp t)
    | succ i => exact h3 i x u (by simpa using hx) (by simpa using hu)
  | .cell t ty :: r, K, h => by
    simp only [resV] at h
    have h0 := bindK_ex h
    obtain ⟨v, objs, he, h⟩ := h0
    have h' : resV P nt s r fun l => K (v :: l) := h
    obtain ⟨us, l, hK, h1, h2, h3⟩ := resV_run hR h'
    rw [Option.bind_eq_some_iff] at he
    obtain ⟨i, hi, he⟩ := he
    obtain ⟨_, u, hrun, hrd, _⟩ := goodP_load (P := P) (o := { dst := none, op := .load ty (.tmp t), type := 0, pos := "", after := #[], guard := none }) hR rfl hi (fun _ _ h => h) he
    have hst : (execOp a.eval { dst := none, op := .load ty (.tmp t), type := 0, pos := "", after := #[], guard := none }).run P w = ((Instr.loadAt ty (a.eval (.tmp t))).run P w).andThen fun v w => .ok (.value v) w := by
      simp [execOp]
    rw [hst] at hrun
    have hld : (Instr.loadAt ty (a.eval (.tmp t))).run P w = .ok u w := by
      cases hq : (Instr.loadAt ty (a.eval (.tmp t))).run P w with
      | ok u' w' => rw [hq] at hrun; simp only [Result.andThen_ok, Result.ok.injEq, Next.value.injEq] at hrun; rw [hrun.1, hrun.2]
      | halt => rw [hq] at hrun; simp at hrun
    have hload : (do loadVar ty (← asAddr (a.tmps.getD t undef)) : Sem Value).run P w = .ok u w := by
      have e1 : a.eval (.tmp t) = a.tmps.getD t undef := rfl
      rw [e1] at hld
      cases hv : a.tmps.getD t undef with
      | pointer p =>
        cases p with
        | some ad => rw [hv] at hld; simpa [Instr.loadAt, Instr.sureAddr, asAddr] using hld
        | none => rw [hv] at hld; simp [Instr.loadAt, Instr.sureAddr] at hld
      | _ => rw [hv] at hld; simp [Instr.loadAt, Instr.sureAddr] at hld
    have h' : resV P nt s r fun l => K (v :: l) := h
    obtain ⟨us, l, hK, h1, h2, h3⟩ := resV_run hR h'
    refine ⟨u :: us, _, hK, by simp only [List.mapM_cons, Sem.run_bind, Sem.run_pure, Result.andThen_ok, h1]; simp only [Sem.run_bind] at hload; rw [hload]; simp only [Result.andThen_ok]; rw [h1]; rfl, by simp [h2], fun i x y hx hu => ?_⟩
    cases i with
    | zero =>
      cases hx
      cases hu
      exact hrd
    | succ i => exact h3 i x y (by simpa using hx) (by simpa using hu)

theorem tupA_ok {s : ASt} {E : Env} {w : World} {l : List AV} {us : List Value} (h : us.length = l.length) (hr : ∀ (i : Nat) x u, l[i]? = some x → us[i]? = some u → RdV w E s.H x u) :
    RdV w E s.H (tupA l) (if h : us.toArray.size = 1 then us.toArray[0] else .tuple us.toArray) := by
  by_cases h1 : us.length = 1
  · rw [dif_pos (by simpa using h1)]
    obtain ⟨u, rfl⟩ := List.length_eq_one_iff.1 h1
    obtain ⟨x, rfl⟩ := List.length_eq_one_iff.1 (h ▸ h1)
    exact hr 0 x u rfl rfl
  · rw [dif_neg (by simpa using h1)]
    have : tupA l = .tu l := by
      match l, h1, h with
      | [], _, _ => rfl
      | [x], h1, h => rw [h] at h1; simp at h1
      | x :: y :: l, _, _ => rfl
    rw [this]
    exact .tu _ _ (by simpa using h) (fun i x u hx hu => hr i x u hx (by simpa using hu))

theorem ends_ok {s : ASt} {E : Env} {a : Act} {w : World} {U : Nat → Prop} {fn : Func} {Post : AV → List (Option Ob) → Prop} (hR : RelE nt I U s E a w) (h : EndA P nt np fn.results.toList Post s) :
    ∃ u r out E', (results fn a.tmps).run P w = .ok u w ∧ Post r out ∧ RdV w E' (HpL out) r u ∧ (∀ k ob, HpL out k = some ob → LiveOb w E' (HpL out) k ob) ∧ Rs false out.length r ∧ (∀ ob, some ob ∈ out → RsOb false out.length ob) ∧
      (∀ k x, 1 ≤ k → k ≤ np → I.H k = some x → HpL out k = none ∨ (E'.rho k = I.E.rho k ∧ ∃ y, HpL out k = some y ∧ x.like y)) ∧ (∀ b, b < I.w.heap.size → ¬ Mut I.E b → E'.loc b = I.E.loc b) ∧ (∀ b ℓ, E'.loc b = some ℓ → b < w.heap.size) := by
  obtain ⟨us, l, ⟨g, r, out, hw, hk, hg, hrs, hros, hP⟩, h1, h2, h3⟩ := resV_run hR h
  refine ⟨_, r, out, E.weak g (HpL out), ?_, hP, (tupA_ok h2 h3).weak hk hw, fun k ob hk' => ?_, hrs, hros, fun k x hk1 hk2 hx => ?_, fun b hb hm => ?_, fun b ℓ hb => ?_⟩
  · unfold results
    have : (fn.results.mapM (m := Sem) fun | .tmp t => Pure.pure (a.tmps.getD t undef) | .cell a' t => do loadVar t (← asAddr (a.tmps.getD a' undef))).run P w = .ok us.toArray w := by
      rw [← Array.toArray_toList (xs := fn.results), List.mapM_toArray]
      simp only [Sem.run_map, h1, Result.andThen_ok]
    simp only [Sem.run_bind]
    refine (congrArg (fun r => Result.andThen r _) this).trans ?_
    simp only [Result.andThen_ok, Sem.run_pure]
  · rcases hk.ob k ob hk' with ⟨hg', x, h4, h5⟩ | ⟨hg', ty, sz, rfl⟩
    · exact (hR.live _ x h4).weak hk hg' hk' h5
    · exact .inl ⟨if_pos hg', rfl⟩
  · obtain ⟨h4, h5⟩ := hR.pas k x hx
    rcases hg k hk1 hk2 with h8 | h8
    · exact .inl h8
    · cases hh : HpL out k with
      | none => exact .inl rfl
      | some x' =>
        right
        obtain ⟨hg', y, h9, h10⟩ : g k ≠ 0 ∧ ∃ x, s.H (g k) = some x ∧ WkO g x x' := (hk.ob k x' hh).resolve_right (fun h => by omega)
        rw [h8] at h9
        rcases h5 with h5 | ⟨h5, z, h11, h12⟩
        · rw [h5] at h9; cases h9
        · rw [h11] at h9
          cases h9
          exact ⟨by rw [weak_rho hg', h8]; exact h5, x', rfl, h12.trans h10.like⟩
  · have h4 := hR.old b hb hm
    rw [← h4]
    cases hl : E.loc b with
    | none => exact weak_t0 hl
    | some ℓ =>
      obtain ⟨k, p⟩ := ℓ
      have hk0 : k = 0 := by
        by_cases hk0 : k = 0
        · exact hk0
        · exact absurd ⟨k, p, by rw [← h4, hl], hk0⟩ hm
      subst hk0
      simp [Env.weak, hl]
  · simp only [Env.weak, Option.map_eq_some_iff] at hb
    obtain ⟨ℓ0, h0, _⟩ := hb
    exact hR.locLt b ℓ0 h0

mutual
def mnA (np : Nat) : AV → Bool
  | .sl o _ => Nat.ble o np
  | .pt o _ _ => Nat.ble o np
  | .ag cs => mnL np cs
  | .tu cs => mnL np cs
  | _ => true
def mnL (np : Nat) : List AV → Bool
  | [] => true
  | x :: r => mnA np x && mnL np r
end
def mnO (np : Nat) : Ob → Bool
  | .box _ cs => mnL np cs
  | .rw _ _ _ => true
mutual
theorem mnA_ok {np : Nat} : (x : AV) → mnA np x = true → Mn (fun o => o ≤ np) x
  | .sl o n, h => .sl o n (Nat.le_of_ble_eq_true h)
  | .pt o i j, h => .pt o i j (Nat.le_of_ble_eq_true h)
  | .ag cs, h => .ag cs (mnL_ok cs h)
  | .tu cs, h => .tu cs (mnL_ok cs h)
  | .c x, _ => .c x
  | .bw x, _ => .bw x
  | .nul, _ => .nul
  | .any, _ => .any
termination_by structural x => x
theorem mnL_ok {np : Nat} : (l : List AV) → mnL np l = true → ∀ x ∈ l, Mn (fun o => o ≤ np) x
  | [], _, x, hx => by simp at hx
  | y :: r, h, x, hx => by
    simp only [mnL, Bool.and_eq_true] at h
    have h1 := mnA_ok y h.1
    have h2 := mnL_ok r h.2
    rcases List.mem_cons.1 hx with h3 | h3
    · rw [h3]; exact h1
    · exact h2 x h3
termination_by structural l => l
end
theorem mnO_ok {np : Nat} {ob : Ob} (h : mnO np ob = true) : MnOb (fun o => o ≤ np) ob := by
  cases ob with
  | box ty cs => exact mnL_ok cs h
  | rw => trivial
def isEnd : Exit → Prop
  | .normal | .ret => True
  | _ => False

def initT : Nat → List AV → Nat → AV
  | _, [] => fun _ => .any
  | k, x :: r => upd (initT (k + 1) r) k x
theorem initT_at : ∀ {l : List AV} {k j : Nat}, initT k l j = if k ≤ j then (l[j - k]?).getD .any else .any
  | [], k, j => by simp [initT]
  | x :: r, k, j => by
    unfold initT
    rw [upd_at, initT_at]
    by_cases h : j = k
    · subst h; simp
    · rw [if_neg h]
      by_cases h2 : k + 1 ≤ j
      · rw [if_pos h2, if_pos (by omega), show j - k = (j - (k + 1)) + 1 by omega]
        rfl
      · rw [if_neg h2, if_neg (by omega)]

/-- A function's contract, by its code. -/
theorem callOk_of (g : Cfg) (hm : P.follows .mixedOrders = true) {f : Nat} {fn : Func} {c : Code} {Hin : List Ob} {args : List AV} {Post : AV → List (Option Ob) → Prop} {rs : List ResultVar} (hf : P.funcs[f]? = some fn) (hb : fn.body = some c) (hnt : fn.ntmps = nt) (hrs : fn.results = rs.toArray) (hname : (fn.name == "runtime.NumGoroutine") = false) (hal : args.length ≤ nt) (hnp : Hin.length = np)
    (hin' : Hin.all (mnO np) = true) (hargs' : args.all (mnA np) = true)
    (h : wpC P nt np g c { t := initT 0 args, H := HpS Hin, c := np + 1 } fun e s' => isEnd e ∧ EndA P nt np rs Post (frz g.en s')) : CallOk P f Hin args Post := by
  have hargs : ∀ x ∈ args, Mn (fun o => o ≤ np) x := fun x hx => mnA_ok x (List.all_eq_true.1 hargs' x hx)
  have hin : ∀ ob ∈ Hin, MnOb (fun o => o ≤ np) ob := fun ob hob => mnO_ok (List.all_eq_true.1 hin' ob hob)
  have hrs' : fn.results.toList = rs := by rw [hrs]
  rw [← hrs'] at h
  refine ⟨by simp [callable, hf, hb, hname], ?_⟩
  intro w E vals hlive hlt hsz hv
  have hR : RelE nt ⟨w, E, HpS Hin⟩ (fun o => o < np + 1) { t := initT 0 args, H := HpS Hin, c := np + 1 } E { tmps := vals ++ Array.replicate (fn.ntmps - vals.size) undef, defers := [] } w := by
    refine ⟨rfl, by simp [hsz, hnt]; omega, fun k u hu => ?_, hlive, hlt, fun _ _ _ => rfl, fun o x hx => ⟨?_, .inr ⟨rfl, x, hx, Ob.like.refl x⟩⟩, by omega, rfl, fun k => ?_, fun o ob ho => ?_, Evo.refl _ _⟩
    · show RdV w E _ (initT 0 args k) u
      rw [initT_at, if_pos (Nat.zero_le _), Nat.sub_zero]
      simp only [Array.getElem?_append] at hu
      split at hu
      · rename_i hk
        have hk' : k < args.length := hsz ▸ hk
        rw [List.getElem?_eq_getElem hk']
        exact hv k _ u (List.getElem?_eq_getElem hk') hu
      · rename_i hk
        rw [List.getElem?_eq_none (by omega)]
        exact .any _
    · simp only [HpS] at hx
      split at hx
      · cases hx
      · have := (List.getElem?_eq_some_iff.1 hx).1
        omega
    · show Mn _ (initT 0 args k)
      rw [initT_at, if_pos (Nat.zero_le _), Nat.sub_zero]
      cases hh : args[k]? with
      | none => exact .any
      | some x => exact (hargs x (List.mem_of_getElem? hh)).mono fun o ho => by omega
    · have ho' := ho
      simp only [HpS] at ho'
      split at ho'
      · cases ho'
      · have := (List.getElem?_eq_some_iff.1 ho').1
        exact ⟨by omega, (hin ob (List.mem_of_getElem? ho')).mono fun o ho => by omega⟩
  have hnp' : ∀ o x, (Ini.mk w E (HpS Hin)).H o = some x → 1 ≤ o ∧ o ≤ np := fun o x hx => by
    simp only [HpS] at hx
    split at hx
    · cases hx
    · have := (List.getElem?_eq_some_iff.1 hx).1
      omega
  refine calls_of_wp hf hb (wpC_sound hm hnp' c hR h (fun e s' E' a' w' hK hR' => ?_))
  obtain ⟨he, hE⟩ := hK
  have he : e = .normal ∨ e = .ret := by cases e <;> simp_all [isEnd]
  obtain ⟨Ef, hRf⟩ := hR'.frzL g.en
  obtain ⟨u, r, out, E2, h1, h2, h3, h4, h5, h6, h7, h8, h9⟩ := ends_ok hRf hE
  rcases he with rfl | rfl
  · exact ⟨hR'.defers, u, h1, u, r, out, E2, rfl, h2, h3, h4, h5, h6, fun k x hx => h7 k x (hnp' k x hx).1 (hnp' k x hx).2 hx, hR'.evo, h8, h9⟩
  · exact ⟨hR'.defers, u, h1, u, r, out, E2, rfl, h2, h3, h4, h5, h6, fun k x hx => h7 k x (hnp' k x hx).1 (hnp' k x hx).2 hx, hR'.evo, h8, h9⟩
end

end Go.Proofs.YtnnmpdanfeejbaaGreat.Abs
