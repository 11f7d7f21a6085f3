/- The abstract machine's operations hold of the model: all of them. -/
import Derived.Test.YtnnmpdanfeejbaaAbsMc
namespace Go.Proofs.Ytnnmpdanfeejbaa.Abs
open Go Go.RowKit
set_option linter.unusedVariables false
set_option linter.unusedSimpArgs false

section
variable {P : Program} {nt : Nat} {I : Ini} {U : Nat → Prop} {s : ASt} {E : Env} {a : Act} {w : World} {o : Oper} {id : Nat} {v : AV} {objs : List (Nat × Option Ob)} {H : Hp}

theorem nilA_mono (hH : ∀ o ob, H o = some ob → s.H o = some ob) {x : AV} {b : Bool} (h : nilA H x = some b) : nilA s.H x = some b := by
  unfold nilA at h ⊢
  split at h <;> simp_all
  rename_i q _ _
  cases hq : H q with
  | none => simp [hq] at h
  | some ob => simp [hH _ _ hq]
theorem evLen_mono (hH : ∀ o ob, H o = some ob → s.H o = some ob) {x : AV} {b : Int} (h : evLen H x = some b) : evLen s.H x = some b := by
  unfold evLen at h ⊢
  split at h <;> simp_all
  rename_i q _
  cases hq : H q with
  | none => simp [hq] at h
  | some ob => simp [hH _ _ hq]

theorem ev_bin (hR : RelE nt I U s E a w) (hH : ∀ o ob, H o = some ob → s.H o = some ob) {op : BinOp} {t t' : Nat} {x y : Operand} (ho : o.op = .binOp op t x y t') (he : evOp P id H (getA nt s.t) (.binOp op t x y t') = some (v, objs)) : Good P o a w E s.H U id v objs := by
  simp only [evOp] at he
  split at he
  · rename_i p q hx hy
    split at he
    · simp only [Option.bind_eq_some_iff, Option.ite_none_right_eq_some] at he
      obtain ⟨i, hi, hb, he⟩ := he
      split at he
      · cases he; exact good_boolEq hR ho hx hy hi hb (.inl ⟨rfl, rfl⟩)
      · cases he; exact good_boolEq hR ho hx hy hi hb (.inr ⟨rfl, rfl⟩)
      · cases he
    · simp only [Option.bind_eq_some_iff, Option.ite_none_right_eq_some] at he
      obtain ⟨i, hi, hb, he⟩ := he
      have h1 : nilA s.H (getA nt s.t x) = some true := by rw [hx]; rfl
      have h2 : nilA s.H (getA nt s.t y) = some true := by rw [hy]; rfl
      split at he
      · cases he; exact good_nilEq hR ho h1 h2 (.inl rfl) hi hb (.inl ⟨rfl, rfl⟩)
      · cases he; exact good_nilEq hR ho h1 h2 (.inl rfl) hi hb (.inr ⟨rfl, rfl⟩)
      · cases he
    · simp only [Option.bind_eq_some_iff] at he
      obtain ⟨r, hr, he⟩ := he
      cases he
      exact good_binV hR ho hx hy hr
  · rename_i l m hx hy
    simp only [Option.ite_none_right_eq_some, Option.bind_eq_some_iff] at he
    obtain ⟨hf, r, hr, he⟩ := he
    split at he
    · cases he; exact good_structEq hR ho hx hy hf hr (.inl ⟨rfl, rfl⟩)
    · cases he; exact good_structEq hR ho hx hy hf hr (.inr ⟨rfl, rfl⟩)
    · cases he
  · rename_i hno
    simp only [Option.bind_eq_some_iff, Option.ite_none_right_eq_some] at he
    obtain ⟨i, hi, hb, p, hp, q, hq, hpq, he⟩ := he
    have h1 := nilA_mono hH hp
    have h2 := nilA_mono hH hq
    have h3 : (p = true ∨ q = true) ∧ (p && q) = false := by cases p <;> cases q <;> simp_all
    split at he
    · cases he; exact good_nilEq hR ho h1 h2 h3.1 hi hb (.inl ⟨rfl, h3.2.symm⟩)
    · cases he; exact good_nilEq hR ho h1 h2 h3.1 hi hb (.inr ⟨rfl, by rw [h3.2]; rfl⟩)
    · cases he

theorem ev_conv (hR : RelE nt I U s E a w) (hH : ∀ o ob, H o = some ob → s.H o = some ob) {t d : Nat} {x : Operand} (ho : o.op = .convert t d x) {i j : TI} (hi : tiOf P t = some i) (hj : tiOf P d = some j) (he : evConv H id i j (getA nt s.t x) = some (v, objs)) :
    Good P o a w E s.H U id v objs := by
  unfold evConv at he
  split at he
  · rename_i k k' n hk hx
    cases he
    exact good_convInt hR ho hi hj hk hx
  · split at he
    · rename_i hc
      simp only [Option.bind_eq_some_iff] at he
      obtain ⟨l, ⟨es, hes, hl⟩, he⟩ := he
      cases he
      exact good_convStr hR hH ho hi hj hc.1 hc.2 hes hl
    · split at he
      · rename_i b hx
        simp only [Option.ite_none_right_eq_some] at he
        obtain ⟨hc, he⟩ := he
        cases he
        exact good_convBytes hR ho hi hj hc.1 hc.2.1 hx hc.2.2
      · cases he

theorem ev_call (hR : RelE nt I U s E a w) (hid : ¬ U id) (hH : ∀ o ob, H o = some ob → s.H o = some ob) {c : Call} (ho : o.op = .call c) (he : evOp P id H (getA nt s.t) (.call c) = some (v, objs)) : Good P o a w E s.H U id v objs := by
  obtain ⟨callee, args, ts⟩ := c
  cases callee with
  | value => simp [evOp] at he
  | invoke => simp [evOp] at he
  | builtin b =>
    simp only [evOp] at he
    split at he
    · rename_i x t ha ht
      simp only [Option.bind_eq_some_iff, Option.ite_none_right_eq_some] at he
      obtain ⟨i, hi, n, hn, ⟨h1, h2⟩, he⟩ := he
      cases he
      exact good_len hR ho rfl ha ht hi h2 (evLen_mono hH hn) h1
    · rename_i x y t u ha ht
      simp only [Option.bind_eq_some_iff, Option.ite_none_right_eq_some] at he
      obtain ⟨i, hi, j, hj, ⟨e, esz, eb⟩, hel, z, hz, ⟨h1, h2, h3⟩, he⟩ := he
      exact good_append hR hid hH ho rfl ha ht hi hj hel hz h1 h2 h3 he
    · rename_i x y t u ha ht
      simp only [Option.bind_eq_some_iff] at he
      obtain ⟨i, hi, ⟨e, esz, eb⟩, hel, he⟩ := he
      exact good_copy hR hH ho rfl ha ht hi hel he
    · rename_i x y ha
      split at he
      · rename_i p q hx hy
        cases he
        exact good_min hR ho rfl ha hx hy
      · cases he
    · rename_i x y ha
      split at he
      · rename_i p q hx hy
        cases he
        exact good_max hR ho rfl ha hx hy
      · cases he
    · cases he

theorem ev_sound (hR : RelE nt I U s E a w) (hid : ¬ U id) (hH : ∀ o ob, H o = some ob → s.H o = some ob) (he : evOp P id H (getA nt s.t) o.op = some (v, objs)) : Good P o a w E s.H U id v objs := by
  generalize hop : o.op = op at he
  cases op with
  | move x => simp only [evOp] at he; cases he; exact good_move hR (.inl hop)
  | assign x => simp only [evOp] at he; cases he; exact good_move hR (.inr hop)
  | pick c x y =>
    simp only [evOp] at he
    split at he
    · rename_i t hc
      cases he
      exact good_pick hR hop hc
    · cases he
  | alloc e =>
    simp only [evOp, Option.bind_eq_some_iff] at he
    obtain ⟨i, hi, he⟩ := he
    split at he
    · cases he
    · rename_i hz
      cases he
      exact good_alloc hR hid hop hi (by intro h; rw [h] at hz; exact hz rfl)
  | box e x =>
    simp only [evOp, Option.ite_none_right_eq_some] at he
    obtain ⟨hok, he⟩ := he
    cases he
    exact good_box hR hid hH hop hok
  | load t x =>
    simp only [evOp, Option.bind_eq_some_iff] at he
    obtain ⟨i, hi, he⟩ := he
    exact good_load hR hop hi hH he
  | store t x y =>
    simp only [evOp, Option.bind_eq_some_iff] at he
    obtain ⟨i, hi, he⟩ := he
    exact good_store hR hop hi hH he
  | fieldAddr t x f =>
    simp only [evOp, Option.bind_eq_some_iff, Option.ite_none_right_eq_some] at he
    obtain ⟨i, hi, ⟨off, sz⟩, hf, hz, he⟩ := he
    exact good_fieldAddr hR hop hi hH hf hz he
  | indexAddr t x ix =>
    simp only [evOp] at he
    split at he
    · rename_i k n hix
      simp only [Option.bind_eq_some_iff] at he
      obtain ⟨i, hi, ⟨e, esz, eb⟩, hel, he⟩ := he
      exact good_indexAddr hR hop hix hi hH hel he
    · cases he
  | nilCheck x =>
    simp only [evOp, Option.bind_eq_some_iff] at he
    obtain ⟨b, hb, he⟩ := he
    split at he
    · cases he
    · rename_i hf
      cases he
      have : b = false := by simpa using hf
      subst this
      exact good_nilCheck hR hop (nilA_mono hH hb)
  | binOp op t x y t' => exact ev_bin hR hH hop he
  | unOp op t x =>
    simp only [evOp] at he
    split at he
    · rename_i b hx
      simp only [Option.bind_eq_some_iff] at he
      obtain ⟨r, hr, he⟩ := he
      cases he
      exact good_unOp hR hop hx hr
    · cases he
  | convert t d x =>
    simp only [evOp, Option.bind_eq_some_iff] at he
    obtain ⟨i, hi, j, hj, he⟩ := he
    exact ev_conv hR hH hop hi hj he
  | index t x ix =>
    simp only [evOp] at he
    split at he
    · rename_i b k n hx hix
      simp only [Option.bind_eq_some_iff, Option.ite_none_right_eq_some] at he
      obtain ⟨i, hi, c, hc, ⟨h0, hs⟩, he⟩ := he
      cases he
      exact good_index hR hop hix hx hi hs hc h0
    · cases he
  | slice t x lo hi mx =>
    simp only [evOp] at he
    split at he
    · simp only [Option.bind_eq_some_iff] at he
      obtain ⟨i, hi', he⟩ := he
      split at he
      · rename_i hs
        split at he
        · rename_i b hx
          simp only [evSlice, hx, Option.bind_eq_some_iff] at he
          obtain ⟨h, hh, l, hl, he⟩ := he
          cases he
          exact good_sliceStr hR hop hi' hs hx hh hl
        · cases he
      · simp only [Option.bind_eq_some_iff] at he
        obtain ⟨e, hel, he⟩ := he
        split at he
        · cases he
        · rename_i hns
          exact good_sliceRow (H := H) hR hop hi' hel (fun b hb => hns b hb) he
    · cases he
  | makeSlice t l c =>
    simp only [evOp, Option.bind_eq_some_iff] at he
    obtain ⟨i, hi, ⟨e, esz, eb⟩, hel, he⟩ := he
    split at he
    · rename_i n m hx hy
      simp only [Option.ite_none_right_eq_some, Option.bind_eq_some_iff] at he
      obtain ⟨⟨rfl, h0, h1, h2, h3⟩, z, hz, he⟩ := he
      split at he
      · cases he
      · rename_i hzz
        cases he
        simp only [not_or, Decidable.not_not, Bool.not_eq_false] at hzz
        exact good_makeSlice hR hid hop hi hel hz hx hy h0 h1 h2 h3 hzz.1 hzz.2
    · cases he
  | build t ps =>
    simp only [evOp, Option.bind_eq_some_iff] at he
    obtain ⟨i, hi, he⟩ := he
    exact good_build hR hH hop hi he
  | buildSlice t n ps =>
    simp only [evOp, Option.bind_eq_some_iff] at he
    obtain ⟨i, hi, ⟨e, esz, eb⟩, hel, z, hz, he⟩ := he
    exact good_buildSlice hR hid hH hop hi hel hz he
  | extract x k =>
    simp only [evOp] at he
    split at he
    · rename_i vs hx
      simp only [Option.bind_eq_some_iff] at he
      obtain ⟨r, hr, he⟩ := he
      cases he
      exact good_extract hR hop hx hr
    · cases he
  | call c => exact ev_call hR hid hH hop he
  | _ => simp [evOp] at he
end

end Go.Proofs.Ytnnmpdanfeejbaa.Abs
