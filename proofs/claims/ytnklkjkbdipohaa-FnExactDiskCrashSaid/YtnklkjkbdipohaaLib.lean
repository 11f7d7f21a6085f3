/- Plain laws on numbers, bytes and lists that the pure statements of this seat lean on; no program is in sight. -/
import Derived.Test.YtnklkjkbdipohaaWMore
namespace Go.Proofs.Ytnklkjkbdipohaa.Lib
open Go Go.RowKit Go.Proofs.YtnklkjkbdipohaaW.PrintWords Go.Proofs.YtnklkjkbdipohaaW.PrintLast Go.Proofs.YtnklkjkbdipohaaW.PrintMore
set_option linter.unusedVariables false
set_option linter.unusedSimpArgs false

/-- A fact that linear arithmetic shall not see. -/
structure Hide (p : Prop) : Prop where
  out : p
theorem wr {n : Int} (h1 : -9223372036854775808 ≤ n) (h2 : n ≤ 9223372036854775807) : wrap64 n = n := by unfold wrap64; omega
theorem i64_bd {n : Int} (h : (Lit.int .i64 n).wf = true) : -9223372036854775808 ≤ n ∧ n ≤ 9223372036854775807 := by
  simp [Lit.wf, IntKind.min, IntKind.max, IntKind.signed, IntKind.bits] at h; omega

/-- A list of bytes. -/
def Byt (xs : List Int) : Prop := ∀ x ∈ xs, 0 ≤ x ∧ x < 256
theorem Byt.nil : Byt [] := fun _ h => by cases h
theorem Byt.app {xs ys : List Int} (h : Byt xs) (k : Byt ys) : Byt (xs ++ ys) := fun x hx => (List.mem_append.1 hx).elim (h x) (k x)
theorem Byt.one {x : Int} (h : 0 ≤ x ∧ x < 256) : Byt [x] := fun y hy => by rw [List.mem_singleton.1 hy]; exact h
theorem Byt.cons {x : Int} {xs : List Int} (h : 0 ≤ x ∧ x < 256) (k : Byt xs) : Byt (x :: xs) := fun y hy => (List.mem_cons.1 hy).elim (fun e => by rw [e]; exact h) (k y)
theorem Byt.left {xs ys : List Int} (h : Byt (xs ++ ys)) : Byt xs := fun x hx => h x (List.mem_append.2 (.inl hx))
theorem Byt.right {xs ys : List Int} (h : Byt (xs ++ ys)) : Byt ys := fun x hx => h x (List.mem_append.2 (.inr hx))

theorem byt_of {xs : List Int} (h : ∀ x ∈ xs, (Lit.int .u8 x).wf = true) : Byt xs := by
  intro x hx
  have := h x hx
  simp [Lit.wf, IntKind.min, IntKind.max, IntKind.signed, IntKind.bits] at this
  omega
theorem size_son (xs : List Int) : (strOfNums xs).size = xs.length := by simp [strOfNums, ByteArray.size]
theorem son_nil : strOfNums [] = (⟨#[]⟩ : ByteArray) := by simp [strOfNums]
theorem data_inj {a b : ByteArray} (h : a.data.toList = b.data.toList) : a = b := by
  cases a; cases b; congr; exact Array.toList_inj.1 h
theorem son_app (xs ys : List Int) : strOfNums (xs ++ ys) = strOfNums xs ++ strOfNums ys := by
  refine data_inj ?_
  rw [ByteArray.toList_data_append]
  simp [strOfNums]
theorem tl_inj {a b : ByteArray} : a.toList = b.toList ↔ a = b := by
  constructor
  · intro h
    rw [ByteArray.toList_eq, ByteArray.toList_eq] at h
    exact data_inj h
  · intro h; rw [h]
theorem tl_nil {a : ByteArray} : a.toList = [] ↔ a.size = 0 := by
  rw [ByteArray.toList_eq]
  cases a with | mk d => simp [ByteArray.size]
theorem tl_empty : (⟨#[]⟩ : ByteArray).toList = [] := tl_nil.2 rfl
theorem app_empty (a : ByteArray) : a ++ (⟨#[]⟩ : ByteArray) = a := ByteArray.append_empty
theorem empty_app (a : ByteArray) : (⟨#[]⟩ : ByteArray) ++ a = a := ByteArray.empty_append
theorem son_bytesOf (s : ByteArray) : strOfNums (bytesOf s) = s := by
  refine data_inj ?_
  simp [strOfNums, bytesOf, Function.comp_def]
theorem bytesOf_son {xs : List Int} (h : Byt xs) : bytesOf (strOfNums xs) = xs := by
  simp only [bytesOf, strOfNums, List.map_map]
  conv => rhs; rw [← List.map_id xs]
  refine List.map_congr_left fun x hx => ?_
  obtain ⟨h0, h1⟩ := h x hx
  show ((UInt8.ofNat x.toNat).toNat : Int) = x
  rw [UInt8.toNat_ofNat']
  omega
theorem bytesOf_Byt (s : ByteArray) : Byt (bytesOf s) := by
  intro x hx
  simp only [bytesOf, List.mem_map] at hx
  obtain ⟨b, _, rfl⟩ := hx
  have := b.toNat_lt
  omega
theorem len_bytesOf (s : ByteArray) : (bytesOf s).length = s.size := bytesOf_length s
theorem bt_son {xs : List Int} (h : Byt xs) (i : Int) : bt (strOfNums xs) i = rd xs i := by rw [← rd_bytesOf, bytesOf_son h]
theorem bytesOf_inj {a b : ByteArray} : bytesOf a = bytesOf b ↔ a = b := ⟨fun h => by rw [← son_bytesOf a, h, son_bytesOf], fun h => by rw [h]⟩
theorem son_inj {xs ys : List Int} (h : Byt xs) (k : Byt ys) : strOfNums xs = strOfNums ys ↔ xs = ys := ⟨fun e => by rw [← bytesOf_son h, e, bytesOf_son k], fun e => by rw [e]⟩
theorem rd_nat {xs : List Int} {i : Nat} (h : i < xs.length) : rd xs (i : Int) = xs[i] := by
  unfold rd; rw [Int.toNat_natCast, List.getD_eq_getElem?_getD, List.getElem?_eq_getElem h]; rfl
theorem rd_byt {xs : List Int} (h : Byt xs) (i : Int) : 0 ≤ rd xs i ∧ rd xs i < 256 := by
  unfold rd
  rcases Nat.lt_or_ge i.toNat xs.length with hl | hg
  · rw [List.getD_eq_getElem?_getD, List.getElem?_eq_getElem hl]
    exact h _ (List.getElem_mem hl)
  · rw [List.getD_eq_getElem?_getD, List.getElem?_eq_none hg]
    exact ⟨by decide, by decide⟩
theorem ne_bool {a b : Bool} : ((a != b) = true) ↔ a ≠ b := by cases a <;> cases b <;> decide
theorem ne_self (a : Bool) : ¬ ((a != a) = true) := by cases a <;> decide

theorem sd {p q : Prop} [Decidable p] [Decidable q] (h : p ↔ q) : some (decide p) = some (decide q) := by congr 1; exact decide_eq_decide.2 h
theorem sdf {q : Prop} [Decidable q] (h : ¬ q) : some false = some (decide q) := by rw [decide_eq_false h]
theorem sdt {q : Prop} [Decidable q] (h : q) : some true = some (decide q) := by rw [decide_eq_true h]
/-- A statement as a Bool. -/
noncomputable def dec (p : Prop) : Bool := @decide p (Classical.propDecidable p)
theorem dec_iff {p : Prop} : dec p = true ↔ p := by unfold dec; exact @decide_eq_true_iff p (Classical.propDecidable p)
theorem dec_t {p : Prop} (h : p) : dec p = true := dec_iff.2 h
theorem dec_f {p : Prop} (h : ¬ p) : dec p = false := by
  cases e : dec p with
  | false => rfl
  | true => exact absurd (dec_iff.1 e) h
theorem dec_eq {p q : Prop} (h : p ↔ q) : dec p = dec q := by rw [show p = q from propext h]
theorem bool_dec {b : Bool} {p : Prop} (h : b = true ↔ p) : b = dec p := by
  cases b with
  | true => exact (dec_t (h.1 rfl)).symm
  | false => exact (dec_f (fun hp => Bool.noConfusion (h.2 hp))).symm
theorem decide_dec {p : Prop} [Decidable p] : decide p = dec p := bool_dec decide_eq_true_iff
theorem rdOf_nat {α : Type} (z : α) (l : List α) (i : Nat) : rdOf z l (i : Int) = l.getD i z := by unfold rdOf; rw [Int.toNat_natCast]
theorem wrP {i : Nat} (h : 0 < i) (h2 : i < 4611686018427387904) : wrap64 ((i : Int) - 1) = ((i - 1 : Nat) : Int) := by rw [wr (by omega) (by omega)]; omega
theorem getD_lt {α : Type} (l : List α) (z : α) {i : Nat} (h : i < l.length) : l.getD i z = l[i] := by rw [List.getD_eq_getElem?_getD, List.getElem?_eq_getElem h]; rfl
/-- A copy, one place further. -/
theorem set_next {α : Type} (ys : List α) (z v : α) (i : Nat) (h : i < ys.length) (hv : v = ys[i]) :
    (ys.take i ++ List.replicate (ys.length - i) z).set i v = ys.take (i + 1) ++ List.replicate (ys.length - (i + 1)) z := by
  have e : (ys.take i).length = i := by rw [List.length_take]; omega
  rw [List.set_append_right _ _ (by omega), e, Nat.sub_self, show ys.length - i = (ys.length - (i + 1)) + 1 by omega, List.replicate_succ, List.set_cons_zero, hv, List.take_succ_eq_append_getElem h, List.append_assoc]
  rfl
theorem set_first {α : Type} (ys : List α) (z : α) : List.replicate ys.length z = ys.take 0 ++ List.replicate (ys.length - 0) z := by simp
theorem set_last {α : Type} (ys : List α) (z : α) {i : Nat} (h : i = ys.length) : ys.take i ++ List.replicate (ys.length - i) z = ys := by subst h; simp
theorem len_mid {α : Type} (ys : List α) (z : α) {i : Nat} (h : i ≤ ys.length) : (ys.take i ++ List.replicate (ys.length - i) z).length = ys.length := by simp; omega
/-- Rounds: at last all the same. -/
theorem Ev.eq {α : Type} {g : Nat → Option α} {f : Nat → Option α} {r : α} (k : Ev f r) (h : ∀ n, g n = f n) : Ev g r := Ev.congr h k
theorem Ev.one {α : Type} {o : Option α} {r : α} (h : o = some r) : Ev (fun _ => o) r := ⟨0, fun _ _ => h⟩
theorem Ev.step1 {α : Type} {g : Nat → Option α} {r : α} (h : ∀ k, g (k + 1) = some r) : Ev g r := Ev.step (f := fun _ => some r) h (Ev.now r)

/-- A number's text. -/
def nt (n : Nat) : List Int := if h : n < 10 then [48 + (n : Int)] else nt (n / 10) ++ [48 + ((n % 10 : Nat) : Int)]
termination_by n
decreasing_by omega
theorem nt_lt {n : Nat} (h : n < 10) : nt n = [48 + (n : Int)] := by unfold nt; rw [dif_pos h]
theorem nt_ge {n : Nat} (h : ¬ n < 10) : nt n = nt (n / 10) ++ [48 + ((n % 10 : Nat) : Int)] := by rw [nt, dif_neg h]
theorem nt_byt (n : Nat) : Byt (nt n) := by
  induction n using Nat.strongRecOn with
  | _ n ih =>
    by_cases h : n < 10
    · rw [nt_lt h]; exact Byt.one (by omega)
    · rw [nt_ge h]; exact (ih _ (by omega)).app (Byt.one (by omega))
theorem nt_len (n : Nat) : (nt n).length ≤ n + 1 := by
  induction n using Nat.strongRecOn with
  | _ n ih =>
    by_cases h : n < 10
    · rw [nt_lt h]; simp
    · rw [nt_ge h]; have := ih (n / 10) (by omega); simp; omega
theorem nt_pos (n : Nat) : 0 < (nt n).length := by
  by_cases h : n < 10
  · rw [nt_lt h]; simp
  · rw [nt_ge h]; simp
theorem digit_w {n : Int} (h : 0 ≤ n) (h2 : n < 10) : (wrap64 (48 + n)) % 256 = 48 + n := by rw [wr (by omega) (by omega)]; omega
theorem tdiv_nat (n m : Nat) : Int.tdiv (n : Int) (m : Int) = ((n / m : Nat) : Int) := by rw [Int.tdiv_eq_ediv_of_nonneg (by omega)]; simp
theorem tmod_nat (n m : Nat) : Int.tmod (n : Int) (m : Int) = ((n % m : Nat) : Int) := by rw [Int.tmod_eq_emod_of_nonneg (by omega)]; simp
theorem tdiv_pos {n m : Int} (h : 0 ≤ n) : Int.tdiv n m = n / m := Int.tdiv_eq_ediv_of_nonneg h
theorem tmod_pos {n m : Int} (h : 0 ≤ n) : Int.tmod n m = n % m := Int.tmod_eq_emod_of_nonneg h
/-- Marks in a row of bytes. -/
def pat (a : Int) (n : Nat) : List Int := (List.range n).map fun j : Nat => (a + (j : Int)) % 256
theorem pat_len (a : Int) (n : Nat) : (pat a n).length = n := by simp [pat]
theorem pat_drop_len {l : List Int} (a : Int) (i : Nat) (h : i ≤ l.length) : (pat a i ++ l.drop i).length = l.length := by simp [pat]; omega
theorem pat_succ (a : Int) (n : Nat) : pat a (n + 1) = pat a n ++ [(a + (n : Int)) % 256] := by simp [pat, List.range_succ]
theorem pat_set {l : List Int} {a : Int} {i : Nat} (h : i < l.length) : (pat a i ++ l.drop i).set i ((a + (i : Int)) % 256) = pat a (i + 1) ++ l.drop (i + 1) := by
  rw [List.set_append_right _ _ (by rw [pat_len]; omega), pat_len, Nat.sub_self, List.drop_eq_getElem_cons h, List.set_cons_zero, pat_succ, List.append_assoc]
  rfl
theorem rd_pat {a : Int} {n i : Nat} (h : i < n) : rd (pat a n) (i : Int) = (a + (i : Int)) % 256 := by
  rw [rd_nat (by rw [pat_len]; exact h)]
  simp [pat]
theorem wrS {i : Nat} (h : i < 4611686018427387904) : wrap64 ((i : Int) + 1) = ((i + 1 : Nat) : Int) := by rw [wr (by omega) (by omega)]; rfl
theorem drop_bytes {s : ByteArray} {i : Nat} (h : i < s.size) : (bytesOf s).drop i = bt s i :: (bytesOf s).drop (i + 1) := by
  have hl : i < (bytesOf s).length := by rw [len_bytesOf]; exact h
  rw [List.drop_eq_getElem_cons hl, ← rd_bytesOf, rd_nat hl]

/-- A figure. -/
def hex (d : Int) : Int := if d < 10 then 48 + d else 55 + d
theorem hex_fig {d : Int} (h : 0 ≤ d) (h2 : d < 16) : bt (⟨#[48, 49, 50, 51, 52, 53, 54, 55, 56, 57, 65, 66, 67, 68, 69, 70]⟩ : ByteArray) d = hex d := by
  have key : ∀ d : Fin 16, bt (⟨#[48, 49, 50, 51, 52, 53, 54, 55, 56, 57, 65, 66, 67, 68, 69, 70]⟩ : ByteArray) ((d.val : Nat) : Int) = hex ((d.val : Nat) : Int) := by decide +kernel
  have := key ⟨d.toNat, by omega⟩
  simpa [Int.toNat_of_nonneg h] using this
theorem and15 {b : Int} (h : 0 ≤ b) (h2 : b ≤ 255) : Go.bits .and .u8 b 15 = b % 16 := by
  have key : ∀ d : Fin 256, Go.bits .and .u8 ((d.val : Nat) : Int) 15 = ((d.val : Nat) : Int) % 16 := by decide +kernel
  have := key ⟨b.toNat, by omega⟩
  simpa [Int.toNat_of_nonneg h] using this
def plainB (b : Int) : Bool := decide (33 ≤ b ∧ b ≤ 126 ∧ b ≠ 34 ∧ b ≠ 37)
/-- A byte, quoted. -/
def q1 (b : Int) : List Int := if plainB b = true then [b] else [37, hex (b / 16), hex (b % 16)]
def qs (xs : List Int) : List Int := xs.flatMap q1
theorem qs_nil : qs [] = [] := rfl
theorem qs_cons (b : Int) (xs : List Int) : qs (b :: xs) = q1 b ++ qs xs := by simp [qs]
theorem hex_byt {d : Int} (h : 0 ≤ d) (h2 : d < 16) : 48 ≤ hex d ∧ hex d ≤ 70 ∧ hex d ≠ 37 := by unfold hex; split <;> omega
theorem hex_inj {d e : Int} (h : 0 ≤ d) (h2 : d < 16) (k : 0 ≤ e) (k2 : e < 16) (he : hex d = hex e) : d = e := by unfold hex at he; split at he <;> split at he <;> omega
theorem q1_byt {b : Int} (h : 0 ≤ b) (h2 : b ≤ 255) : Byt (q1 b) := by
  unfold q1
  split
  · exact Byt.one (by omega)
  · have h3 := hex_byt (d := b / 16) (by omega) (by omega)
    have h4 := hex_byt (d := b % 16) (by omega) (by omega)
    exact Byt.cons (by omega) (Byt.cons (by omega) (Byt.one (by omega)))
theorem qs_byt {xs : List Int} (h : Byt xs) : Byt (qs xs) := by
  induction xs with
  | nil => exact Byt.nil
  | cons b xs ih =>
    rw [qs_cons]
    have := h b (List.mem_cons_self ..)
    exact (q1_byt (by omega) (by omega)).app (ih fun x hx => h x (List.mem_cons_of_mem _ hx))
def quote (s : ByteArray) : ByteArray := if s.size > 4096 then ⟨#[]⟩ else strOfNums ([34] ++ qs (bytesOf s) ++ [34])
theorem qs_app (xs ys : List Int) : qs (xs ++ ys) = qs xs ++ qs ys := by simp [qs]
theorem rd_mid (pre r : List Int) (c : Int) {i : Int} (h : i = pre.length) : rd (pre ++ c :: r) i = c := by
  subst h
  rw [rd_nat (by simp)]
  simp
theorem q1_len (b : Int) : 1 ≤ (q1 b).length ∧ (q1 b).length ≤ 3 := by unfold q1; split <;> simp
theorem qs_len (xs : List Int) : xs.length ≤ (qs xs).length ∧ (qs xs).length ≤ 3 * xs.length := by
  induction xs with
  | nil => simp [qs]
  | cons b xs ih => rw [qs_cons]; have := q1_len b; simp; omega
theorem q1_plain {b : Int} (h : plainB b = true) : q1 b = [b] := by unfold q1; rw [if_pos h]
theorem q1_other {b : Int} (h : ¬ plainB b = true) : q1 b = [37, hex (b / 16), hex (b % 16)] := by unfold q1; rw [if_neg h]
theorem quote_size (s : ByteArray) : (quote s).size = 0 ∨ (quote s = strOfNums ([34] ++ qs (bytesOf s) ++ [34]) ∧ s.size ≤ 4096) := by
  unfold quote
  by_cases h : s.size > 4096
  · rw [if_pos h]; exact .inl rfl
  · rw [if_neg h]; exact .inr ⟨rfl, by omega⟩
theorem plain_ne {b : Int} (h : plainB b = true) : b ≠ 37 := by unfold plainB at h; have := of_decide_eq_true h; omega
/-- A quoted row of bytes. -/
def wrapQ (xs : List Int) : List Int := [34] ++ qs xs ++ [34]
theorem wrapQ_len (xs : List Int) : (wrapQ xs).length = (qs xs).length + 2 := by simp [wrapQ]
theorem wrapQ_byt {xs : List Int} (h : Byt xs) : Byt (wrapQ xs) := ((Byt.one (by omega)).app (qs_byt h)).app (Byt.one (by omega))
theorem quote_son {xs : List Int} (h : Byt xs) (hl : xs.length ≤ 4096) : quote (strOfNums xs) = strOfNums (wrapQ xs) := by
  unfold quote
  rw [if_neg (by rw [size_son]; omega), bytesOf_son h]
  rfl
end Go.Proofs.Ytnklkjkbdipohaa.Lib
