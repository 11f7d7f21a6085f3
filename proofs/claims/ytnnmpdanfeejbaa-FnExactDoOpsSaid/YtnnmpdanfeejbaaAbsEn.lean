/- How the program's data stand in cells. -/
import Derived.Test.YtnnmpdanfeejbaaAbsY
namespace Go.Proofs.Ytnnmpdanfeejbaa.Abs
open Go Go.Proofs
set_option linter.unusedVariables false
set_option linter.unusedSimpArgs false
/-! k: are the rows within the object's own? -/
def stC (s : ByteArray) : List CV := [.v (.string s)]
def inC (n : Int) : List CV := [.v (.int .i64 n)]
structure Pr where
  k : ByteArray
  v : ByteArray
  deriving DecidableEq, Inhabited
def prC (p : Pr) : List CV := [.v (.string p.k), .v (.string p.v)]
structure Nd where
  ps : List Pr
  ks : List ByteArray
  cs : List Int
  deriving DecidableEq, Inhabited
def ndC (k : Bool) (n : Nd) : List CV := [.row k (n.ps.map prC), .row k (n.ks.map stC), .row k (n.cs.map inC)]
/-- A sheet's cells. -/
def shC (k : Bool) (b : List UInt8) : List CV := [.row k (eB b)]
/-- A write's cells. -/
def wrC (k : Bool) (x : Int × List UInt8) : List CV := [.v (.int .i64 x.1), .row k (eB x.2)]
/-- An operation's cells. -/
def opC (k : Bool) (x : Bool × Int × List UInt8) : List CV := [.v (.bool x.1), .v (.int .i64 x.2.1), .row k (eB x.2.2)]
/-- A tree within (the reference's). -/
inductive Sub where
  | mk (leaf : Bool) (ps : List Pr) (ks : List Sub)
  deriving Inhabited
def Sub.leaf : Sub → Bool | .mk l _ _ => l
def Sub.ps : Sub → List Pr | .mk _ p _ => p
def Sub.ks : Sub → List Sub | .mk _ _ k => k
mutual
def suC (k : Bool) : Sub → List CV
  | .mk l ps ks => [.v (.bool l), .row k (ps.map prC), .row k (suL k ks)]
def suL (k : Bool) : List Sub → List (List CV)
  | [] => []
  | x :: r => suC k x :: suL k r
end
theorem suL_map (k : Bool) : ∀ l : List Sub, suL k l = l.map (suC k)
  | [] => rfl
  | x :: r => by rw [suL, suL_map k r]; rfl
theorem suC_eq (k : Bool) (s : Sub) : suC k s = [.v (.bool s.leaf), .row k (s.ps.map prC), .row k (s.ks.map (suC k))] := by
  cases s; rw [suC, suL_map]; rfl

theorem stC_length (x : ByteArray) : (stC x).length = 1 := (rfl)
theorem inC_length (x : Int) : (inC x).length = 1 := (rfl)
theorem prC_length (x : Pr) : (prC x).length = 2 := (rfl)
theorem ndC_length (k : Bool) (x : Nd) : (ndC k x).length = 3 := (rfl)
theorem shC_length (k : Bool) (x : List UInt8) : (shC k x).length = 1 := (rfl)
theorem wrC_length (k : Bool) (x : Int × List UInt8) : (wrC k x).length = 2 := (rfl)
theorem opC_length (k : Bool) (x : Bool × Int × List UInt8) : (opC k x).length = 3 := (rfl)
theorem suC_length (k : Bool) (x : Sub) : (suC k x).length = 3 := by rw [suC_eq]; rfl
theorem all_len {α : Type} {f : α → List CV} {n : Nat} (h : ∀ x, (f x).length = n) (xs : List α) : (∀ c ∈ xs.map f, c.length = n) = True := by
  simp only [eq_iff_iff, iff_true]
  intro c hc
  obtain ⟨x, _, rfl⟩ := List.mem_map.1 hc
  exact h x
theorem al_eB (l : List UInt8) : (∀ c ∈ eB l, c.length = 1) = True := all_len (f := fun b : UInt8 => [CV.v (.int .u8 b.toNat)]) (fun _ => rfl) l
theorem al_st (xs : List ByteArray) : (∀ c ∈ xs.map stC, c.length = 1) = True := all_len stC_length xs
theorem al_in (xs : List Int) : (∀ c ∈ xs.map inC, c.length = 1) = True := all_len inC_length xs
theorem al_pr (xs : List Pr) : (∀ c ∈ xs.map prC, c.length = 2) = True := all_len prC_length xs
theorem al_nd (k : Bool) (xs : List Nd) : (∀ c ∈ xs.map (ndC k), c.length = 3) = True := all_len (ndC_length k) xs
theorem al_sh (k : Bool) (xs : List (List UInt8)) : (∀ c ∈ xs.map (shC k), c.length = 1) = True := all_len (shC_length k) xs
theorem al_wr (k : Bool) (xs : List (Int × List UInt8)) : (∀ c ∈ xs.map (wrC k), c.length = 2) = True := all_len (wrC_length k) xs
theorem al_op (k : Bool) (xs : List (Bool × Int × List UInt8)) : (∀ c ∈ xs.map (opC k), c.length = 3) = True := all_len (opC_length k) xs
theorem al_su (k : Bool) (xs : List Sub) : (∀ c ∈ xs.map (suC k), c.length = 3) = True := all_len (suC_length k) xs
theorem allV_of {α : Type} {f : α → List CV} (h : ∀ x, (f x).all CV.isV = true) (xs : List α) : allV (xs.map f) = true := by
  rw [allV, List.all_eq_true]
  intro c hc
  obtain ⟨x, _, rfl⟩ := List.mem_map.1 hc
  exact h x
theorem allV_eB (l : List UInt8) : allV (eB l) = true := allV_of (f := fun b : UInt8 => [CV.v (.int .u8 b.toNat)]) (fun _ => rfl) l
theorem allV_st (xs : List ByteArray) : allV (xs.map stC) = true := allV_of (fun _ => rfl) xs
theorem allV_in (xs : List Int) : allV (xs.map inC) = true := allV_of (fun _ => rfl) xs
theorem allV_pr (xs : List Pr) : allV (xs.map prC) = true := allV_of (fun _ => rfl) xs
theorem allV_nil : allV [] = true := (rfl)
theorem allV_cons (e : List CV) (r : List (List CV)) : allV (e :: r) = (e.all CV.isV && allV r) := (rfl)
theorem isV_v (x : Value) : CV.isV (.v x) = true := (rfl)
theorem isV_row (k : Bool) (es : List (List CV)) : CV.isV (.row k es) = false := (rfl)
theorem isV_ptr (cs : List CV) (j : Nat) : CV.isV (.ptr cs j) = false := (rfl)
theorem im_eB (l : List UInt8) : (eB l).map (fun x => x.map CV.im) = eB l := by rw [eB, List.map_map]; rfl
theorem im_st (xs : List ByteArray) : (xs.map stC).map (fun x => x.map CV.im) = xs.map stC := by rw [List.map_map]; rfl
theorem im_in (xs : List Int) : (xs.map inC).map (fun x => x.map CV.im) = xs.map inC := by rw [List.map_map]; rfl
theorem im_pr (xs : List Pr) : (xs.map prC).map (fun x => x.map CV.im) = xs.map prC := by rw [List.map_map]; rfl
theorem im_nd (k : Bool) (xs : List Nd) : (xs.map (ndC k)).map (fun x => x.map CV.im) = xs.map (ndC false) := by rw [List.map_map]; rfl
theorem im_sh (k : Bool) (xs : List (List UInt8)) : (xs.map (shC k)).map (fun x => x.map CV.im) = xs.map (shC false) := by rw [List.map_map]; rfl
theorem im_wr (k : Bool) (xs : List (Int × List UInt8)) : (xs.map (wrC k)).map (fun x => x.map CV.im) = xs.map (wrC false) := by rw [List.map_map]; rfl

/-- Cells that are the same but for the marks of ownership. -/
def SimC (l m : List CV) : Prop := l.length = m.length ∧ ∀ (j : Nat) c c', l[j]? = some c → m[j]? = some c' → Sim c c'
theorem SimC.nil : SimC [] [] := ⟨rfl, fun j c c' h => by simp at h⟩
theorem SimC.cons {a b : CV} {l m : List CV} (h : Sim a b) (hl : SimC l m) : SimC (a :: l) (b :: m) := by
  refine ⟨by simp [hl.1], fun j c c' hc hc' => ?_⟩
  cases j with
  | zero => simp at hc hc'; subst hc hc'; exact h
  | succ j => exact hl.2 j c c' (by simpa using hc) (by simpa using hc')
theorem SimC.v {a : Value} {l m : List CV} (hl : SimC l m) : SimC (.v a :: l) (.v a :: m) := .cons (.v a) hl
theorem Sim.rows {α : Type} {f g : α → List CV} {xs : List α} {k k' : Bool} (h : ∀ x ∈ xs, SimC (f x) (g x)) : Sim (.row k (xs.map f)) (.row k' (xs.map g)) := by
  refine .row k k' _ _ (by simp) (fun i e e' he he' => ?_) (fun i j e e' c c' he he' hc hc' => ?_)
  · rw [List.getElem?_map, Option.map_eq_some_iff] at he he'
    obtain ⟨x, hx, rfl⟩ := he
    obtain ⟨y, hy, rfl⟩ := he'
    rw [hx] at hy; cases hy
    exact (h x (List.mem_of_getElem? hx)).1
  · rw [List.getElem?_map, Option.map_eq_some_iff] at he he'
    obtain ⟨x, hx, rfl⟩ := he
    obtain ⟨y, hy, rfl⟩ := he'
    rw [hx] at hy; cases hy
    exact (h x (List.mem_of_getElem? hx)).2 j c c' hc hc'
theorem eB_nil : eB [] = [] := (rfl)
theorem sim_nil (k k' : Bool) : Sim (.row k []) (.row k' []) := .row _ _ _ _ rfl (fun i e e' h => by simp at h) (fun i j e e' c c' h => by simp at h)
theorem sim_eB (l : List UInt8) (k k' : Bool) : Sim (.row k (eB l)) (.row k' (eB l)) := Sim.rows (fun x _ => SimC.v SimC.nil)
theorem sim_st (l : List ByteArray) (k k' : Bool) : Sim (.row k (l.map stC)) (.row k' (l.map stC)) := Sim.rows (fun x _ => SimC.v SimC.nil)
theorem sim_in (l : List Int) (k k' : Bool) : Sim (.row k (l.map inC)) (.row k' (l.map inC)) := Sim.rows (fun x _ => SimC.v SimC.nil)
theorem sim_pr (l : List Pr) (k k' : Bool) : Sim (.row k (l.map prC)) (.row k' (l.map prC)) := Sim.rows (fun x _ => SimC.v (SimC.v SimC.nil))
theorem sim_ndC (x : Nd) (k k' : Bool) : SimC (ndC k x) (ndC k' x) := .cons (sim_pr _ _ _) (.cons (sim_st _ _ _) (.cons (sim_in _ _ _) .nil))
theorem sim_shC (b : List UInt8) (k k' : Bool) : SimC (shC k b) (shC k' b) := .cons (sim_eB _ _ _) .nil
theorem sim_wrC (x : Int × List UInt8) (k k' : Bool) : SimC (wrC k x) (wrC k' x) := .v (.cons (sim_eB _ _ _) .nil)
theorem sim_opC (x : Bool × Int × List UInt8) (k k' : Bool) : SimC (opC k x) (opC k' x) := .v (.v (.cons (sim_eB _ _ _) .nil))
theorem sim_nd (l : List Nd) (j k k' m : Bool) : Sim (.row j (l.map (ndC k))) (.row m (l.map (ndC k'))) := Sim.rows (fun x _ => sim_ndC x k k')
theorem sim_sh (l : List (List UInt8)) (j k k' m : Bool) : Sim (.row j (l.map (shC k))) (.row m (l.map (shC k'))) := Sim.rows (fun x _ => sim_shC x k k')
theorem sim_wr (l : List (Int × List UInt8)) (j k k' m : Bool) : Sim (.row j (l.map (wrC k))) (.row m (l.map (wrC k'))) := Sim.rows (fun x _ => sim_wrC x k k')
theorem sim_op (l : List (Bool × Int × List UInt8)) (j k k' m : Bool) : Sim (.row j (l.map (opC k))) (.row m (l.map (opC k'))) := Sim.rows (fun x _ => sim_opC x k k')
mutual
theorem sim_suC (k k' : Bool) : (x : Sub) → SimC (suC k x) (suC k' x)
  | .mk l ps ks => by
    rw [suC, suC]
    exact .v (.cons (sim_pr _ _ _) (.cons (sim_suL k k' ks k k') .nil))
theorem sim_suL (k k' : Bool) : (l : List Sub) → ∀ j m : Bool, Sim (.row j (suL k l)) (.row m (suL k' l))
  | [], j, m => .row _ _ _ _ rfl (fun i e e' h => by simp [suL] at h) (fun i j e e' c c' h => by simp [suL] at h)
  | x :: r, j, m => by
    have h1 := sim_suC k k' x
    have h2 := sim_suL k k' r j m
    rw [suL, suL]
    cases h2 with
    | row _ _ _ _ a b c =>
      refine .row _ _ _ _ (by simp [a]) (fun i e e' he he' => ?_) (fun i j e e' c1 c2 he he' hc hc' => ?_)
      · cases i with
        | zero => simp at he he'; subst he he'; exact h1.1
        | succ i => exact b i e e' (by simpa using he) (by simpa using he')
      · cases i with
        | zero => simp at he he'; subst he he'; exact h1.2 j _ _ hc hc'
        | succ i => exact c i j e e' c1 c2 (by simpa using he) (by simpa using he') hc hc'
end
theorem sim_su (l : List Sub) (j k k' m : Bool) : Sim (.row j (l.map (suC k))) (.row m (l.map (suC k'))) := by
  have := sim_suL k k' l j m
  rwa [suL_map, suL_map] at this
theorem own_of {α : Type} {f : α → List CV} (h : ∀ x, ∀ c ∈ f x, Own c) (xs : List α) : ∀ e ∈ xs.map f, ∀ c ∈ e, Own c := by
  intro e he
  obtain ⟨x, _, rfl⟩ := List.mem_map.1 he
  exact h x
theorem own_eB (l : List UInt8) : ∀ e ∈ eB l, ∀ c ∈ e, Own c := own_of (fun x c hc => by simp at hc; subst hc; exact .v _) l
theorem own_st (l : List ByteArray) : ∀ e ∈ l.map stC, ∀ c ∈ e, Own c := own_of (fun x c hc => by simp [stC] at hc; subst hc; exact .v _) l
theorem own_in (l : List Int) : ∀ e ∈ l.map inC, ∀ c ∈ e, Own c := own_of (fun x c hc => by simp [inC] at hc; subst hc; exact .v _) l
theorem own_pr (l : List Pr) : ∀ e ∈ l.map prC, ∀ c ∈ e, Own c := own_of (fun x c hc => by simp [prC] at hc; rcases hc with rfl | rfl <;> exact .v _) l
theorem own_nd (l : List Nd) : ∀ e ∈ l.map (ndC true), ∀ c ∈ e, Own c := own_of (fun x c hc => by simp [ndC] at hc; rcases hc with rfl | rfl | rfl; exact .row _ (own_pr _); exact .row _ (own_st _); exact .row _ (own_in _)) l
theorem own_sh (l : List (List UInt8)) : ∀ e ∈ l.map (shC true), ∀ c ∈ e, Own c := own_of (fun x c hc => by simp [shC] at hc; subst hc; exact .row _ (own_eB _)) l
theorem own_wr (l : List (Int × List UInt8)) : ∀ e ∈ l.map (wrC true), ∀ c ∈ e, Own c := own_of (fun x c hc => by simp [wrC] at hc; rcases hc with rfl | rfl; exact .v _; exact .row _ (own_eB _)) l
theorem own_op (l : List (Bool × Int × List UInt8)) : ∀ e ∈ l.map (opC true), ∀ c ∈ e, Own c := own_of (fun x c hc => by simp [opC] at hc; rcases hc with rfl | rfl | rfl; exact .v _; exact .v _; exact .row _ (own_eB _)) l
theorem eB_one (l : List UInt8) : ∀ e ∈ eB l, e.length = 1 := by simpa using al_eB l
theorem st_one (l : List ByteArray) : ∀ e ∈ l.map stC, e.length = 1 := by simpa using al_st l
theorem in_one (l : List Int) : ∀ e ∈ l.map inC, e.length = 1 := by simpa using al_in l
theorem pr_two (l : List Pr) : ∀ e ∈ l.map prC, e.length = 2 := by simpa using al_pr l
end Go.Proofs.Ytnnmpdanfeejbaa.Abs
