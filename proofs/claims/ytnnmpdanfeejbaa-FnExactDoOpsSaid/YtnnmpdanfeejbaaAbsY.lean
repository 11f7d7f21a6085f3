/- The abstract machine: calls, by contracts. -/
import Derived.Test.YtnnmpdanfeejbaaAbsZ
namespace Go.Proofs.Ytnnmpdanfeejbaa.Abs
open Go Go.RowKit
set_option linter.unusedVariables false
set_option linter.unusedSimpArgs false

mutual
/-- How an argument is seen, told by a computation. -/
def viA (bor : Bool) (H : Hp) (ps : List Nat) : AV → AV → Prop
  | _, .any => True
  | x, .c y => (match x with
    | .c x => x = y ∨ Sim x y
    | .bw x => bor = true ∧ ps = [] ∧ Sim x y
    | .nul => ∃ k, y = .row k []
    | .sl o n => bor = true ∧ o ∉ ps ∧ (match H o with | some (.rw _ _ es) => n = es.length ∧ Sim (.row true es) y | _ => False)
    | .pt o i j => (∃ ty sz es e e', bor = true ∧ o ∉ ps ∧ H o = some (.rw ty sz es) ∧ es[i]? = some e ∧ Sim (.ptr e j) (.ptr e' j) ∧ y = .ptr e' j) ∨ ∃ ty cs cs', i = 0 ∧ bor = true ∧ o ∉ ps ∧ H o = some (.box ty cs) ∧ y = .ptr cs' j ∧ cs.length = cs'.length ∧ ∀ (i : Nat) c c', cs[i]? = some c → cs'[i]? = some c' → View bor H ps c (.c c')
    | _ => False)
  | x, .nul => x = .nul
  | x, .sl k n => (match x with | .sl o m => 1 ≤ k ∧ ps[k - 1]? = some o ∧ m = n | _ => False)
  | x, .pt k i j => (match x with | .pt o i' j' => 1 ≤ k ∧ ps[k - 1]? = some o ∧ i' = i ∧ j' = j | _ => False)
  | x, .ag cs => (match x with | .ag cs' => viL bor H ps cs' cs | _ => False)
  | _, .bw _ => False
  | _, .tu _ => False
def viL (bor : Bool) (H : Hp) (ps : List Nat) : List AV → List AV → Prop
  | [], [] => True
  | x :: r, y :: q => viA bor H ps x y ∧ viL bor H ps r q
  | _, _ => False
end
mutual
theorem viA_ok {bor : Bool} {H : Hp} {ps : List Nat} : (x y : AV) → viA bor H ps x y → View bor H ps x y
  | x, .any, _ => .any x
  | x, .c y, h => by
    unfold viA at h
    split at h
    · rcases h with h | h
      · rw [h]; exact .same y
      · exact .c _ _ h
    · exact .bw _ _ h.1 h.2.1 h.2.2
    · obtain ⟨k, rfl⟩ := h; exact .nulR k
    · obtain ⟨h1, h2, h3⟩ := h
      split at h3
      · rename_i hH; exact .slB _ _ _ _ _ _ h1 h2 hH h3.1 h3.2
      · exact h3.elim
    · rcases h with ⟨ty, sz, es, e, e', h1, h2, h3, h4, h5, rfl⟩ | ⟨ty, cs, cs', rfl, h1, h2, h3, rfl, h4, h5⟩
      · exact .ptE _ _ _ ty sz es e e' h1 h2 h3 h4 h5
      · exact .ptB _ _ ty cs cs' h1 h2 h3 h4 h5
    · exact h.elim
  | x, .nul, h => by unfold viA at h; rw [h]; exact .nul
  | x, .sl k n, h => by
    unfold viA at h
    split at h
    · obtain ⟨h1, h2, rfl⟩ := h
      obtain ⟨k, rfl⟩ : ∃ m, k = m + 1 := ⟨k - 1, by omega⟩
      exact .slP _ _ k h2
    · exact h.elim
  | x, .pt k i j, h => by
    unfold viA at h
    split at h
    · obtain ⟨h1, h2, rfl, rfl⟩ := h
      obtain ⟨k, rfl⟩ : ∃ m, k = m + 1 := ⟨k - 1, by omega⟩
      exact .ptP _ _ _ k h2
    · exact h.elim
  | x, .ag cs, h => by
    unfold viA at h
    split at h
    · rename_i cs'; exact .ag cs' cs (viL_ok cs' cs h).1 (viL_ok cs' cs h).2
    · exact h.elim
  | x, .bw _, h => by unfold viA at h; exact h.elim
  | x, .tu _, h => by unfold viA at h; exact h.elim
termination_by structural x y => y
theorem viL_ok {bor : Bool} {H : Hp} {ps : List Nat} : (l m : List AV) → viL bor H ps l m → l.length = m.length ∧ ∀ (i : Nat) c c', l[i]? = some c → m[i]? = some c' → View bor H ps c c'
  | [], [], _ => ⟨rfl, fun i c c' h => by simp at h⟩
  | [], y :: q, h => by unfold viL at h; exact h.elim
  | x :: r, [], h => by unfold viL at h; exact h.elim
  | x :: r, y :: q, h => by
    unfold viL at h
    have h1 := viA_ok x y h.1
    have h2 := viL_ok r q h.2
    refine ⟨by simp [h2.1], fun i c c' hc hc' => ?_⟩
    cases i with
    | zero => cases hc; cases hc'; exact h1
    | succ i => exact h2.2 i c c' (by simpa using hc) (by simpa using hc')
termination_by structural l m => m
end
def viO (bor : Bool) (H : Hp) (ps : List Nat) : Option Ob → Ob → Prop
  | some (.box ty cs), .box ty' cs' => ty = ty' ∧ viL bor H ps cs cs'
  | some (.rw ty sz es), .rw ty' sz' es' => ty = ty' ∧ sz = sz' ∧ es = es'
  | _, _ => False
def viH (bor : Bool) (H : Hp) (ps : List Nat) : List Nat → List Ob → Prop
  | [], [] => True
  | o :: r, x :: q => viO bor H ps (H o) x ∧ viH bor H ps r q
  | _, _ => False
theorem viH_ok {bor : Bool} {H : Hp} {ps : List Nat} : ∀ {l : List Nat} {m : List Ob}, viH bor H ps l m → m.length = l.length ∧ ∀ (k o : Nat), l[k]? = some o → ∃ ob ob', H o = some ob ∧ m[k]? = some ob' ∧ ViewO bor H ps ob ob'
  | [], [], _ => ⟨rfl, fun k o h => by simp at h⟩
  | [], _ :: _, h => h.elim
  | _ :: _, [], h => h.elim
  | o :: r, x :: q, h => by
    have h2 := viH_ok h.2
    refine ⟨by simp [h2.1], fun k o' hk => ?_⟩
    cases k with
    | zero =>
      cases hk
      have h1 := h.1
      unfold viO at h1
      split at h1
      · rename_i hh
        obtain ⟨rfl, h1⟩ := h1
        exact ⟨_, _, hh, rfl, rfl, (viL_ok _ _ h1).1, (viL_ok _ _ h1).2⟩
      · rename_i hh
        obtain ⟨rfl, rfl, rfl⟩ := h1
        exact ⟨_, _, hh, rfl, rfl, rfl, rfl⟩
      · exact h1.elim
    | succ k => exact h2.2 k o' (by simpa using hk)
/-- A call by a contract. -/
theorem callq_of {P : Program} {nt f : Nat} {args : List AV} {d : Option Nat} {id : Nat} {s : ASt} {K : ASt → Prop} (bor : Bool) (ps : List Nat) {Hin : List Ob} {args' : List AV} {Post : AV → List (Option Ob) → Prop} (h : CallOk P f Hin args' Post) (hn : decide ps.Nodup = true)
    (ho : viH bor s.H ps ps Hin) (hv : viL bor s.H ps args args') (hK : ∀ r out, Post r out → ps.length ≤ out.length ∧ out.length ≤ ps.length + 8 ∧ (bor = true → Rs true out.length r ∧ ∀ ob, some ob ∈ out → RsOb true out.length ob) ∧ K (after nt s ps id d r out)) : Callq P nt f args d id s K :=
  ⟨bor, ps, Hin, args', Post, h, by simpa using hn, (viH_ok ho).1, (viH_ok ho).2, (viL_ok _ _ hv).1, (viL_ok _ _ hv).2, hK⟩
/-- A call by a contract in a region that draws. -/
theorem calld_of {P : Program} {nt f : Nat} {args : List AV} {p id : Nat} {s : ASt} {C : Fp → Prop} {K : Fp → (Option Nat → ASt) → Prop} (used : List Nat) (bor : Bool) (ps : List Nat) {Hin : List Ob} {args' : List AV} {Post : AV → List (Option Ob) → Prop} (h : CallOk P f Hin args' Post) (hn : decide ps.Nodup = true)
    (ho : viH bor (res used s.H) ps ps Hin) (hv : viL bor (res used s.H) ps args args') (hC : C ⟨p, used ++ ps, ps ++ (List.range 8).map (id + ·), true, !ps.isEmpty, true⟩) (hx : ∃ r out, Post r out)
    (hK : ∀ r out, Post r out → ps.length ≤ out.length ∧ out.length ≤ ps.length + 8 ∧ (bor = true → Rs true out.length r ∧ ∀ ob, some ob ∈ out → RsOb true out.length ob) ∧ K ⟨p, used ++ ps, ps ++ (List.range 8).map (id + ·), true, !ps.isEmpty, true⟩ (fun d => after0 nt s ps id d r out)) : CallD P nt f args p id s C K :=
  ⟨used, bor, ps, Hin, args', Post, h, by simpa using hn, (viH_ok ho).1, (viH_ok ho).2, (viL_ok _ _ hv).1, (viL_ok _ _ hv).2, hC, hx, hK⟩
theorem after0_eq {nt : Nat} {t : Nat → AV} {H : Hp} {c : Nat} {ps : List Nat} {id : Nat} {d : Option Nat} {r : AV} {out : List (Option Ob)} : after0 nt ⟨t, H, c⟩ ps id d r out = ⟨putT nt t d (renA (rn ps id) r), updL H (callObjs ps id 0 out), c⟩ := (rfl)
/-- The parts of a struct's literal, field by field. -/
def pickF (fs : List (Nat × Nat)) : List (Nat × AV) → Option (List (Nat × Nat × AV))
  | [] => some []
  | (k, x) :: r => (fs[k]?).bind fun f => (pickF fs r).bind fun l => some ((f.1, f.2, x) :: l)
theorem pickF_eq (fs : List (Nat × Nat)) : ∀ ps : List (Nat × AV), (ps.mapM fun p => (fs[p.1]?).map fun f => (f.1, f.2, p.2)) = pickF fs ps
  | [] => rfl
  | (k, x) :: r => by
    rw [List.mapM_cons, pickF_eq fs r, pickF]
    cases fs[k]? <;> simp
theorem pickF_nil {fs : List (Nat × Nat)} : pickF fs [] = some [] := (rfl)
theorem pickF_cons {fs : List (Nat × Nat)} {k : Nat} {x : AV} {r : List (Nat × AV)} : pickF fs ((k, x) :: r) = (fs[k]?).bind fun f => (pickF fs r).bind fun l => some ((f.1, f.2, x) :: l) := (rfl)
theorem evBuild_eq {H : Hp} {i : TI} {ps : List (Nat × AV)} : evBuild H i ps = (pickF i.fields ps).bind fun l =>
    if ps.all (fun p => okA H p.2) ∧ i.agg = true ∧ i.fields ≠ [] ∧ i.zero ≠ [] ∧ (∀ f ∈ i.fields, f.2 ≠ 0) then (fillA (i.zero.map constA) l).bind fun cs => some (.ag cs, []) else none := by
  rw [evBuild, pickF_eq]
theorem all_nil' {α : Type} {p : α → Prop} : (∀ f ∈ ([] : List α), p f) = True := by simp
theorem all_cons' {α : Type} {p : α → Prop} {x : α} {r : List α} : (∀ f ∈ x :: r, p f) = (p x ∧ ∀ f ∈ r, p f) := by simp
theorem range0 : List.range 0 = [] := by decide
theorem range1 : List.range 1 = [0] := by decide
theorem range2 : List.range 2 = [0, 1] := by decide
theorem range3 : List.range 3 = [0, 1, 2] := by decide
theorem range4 : List.range 4 = [0, 1, 2, 3] := by decide
theorem range5 : List.range 5 = [0, 1, 2, 3, 4] := by decide
theorem range6 : List.range 6 = [0, 1, 2, 3, 4, 5] := by decide
theorem range7 : List.range 7 = [0, 1, 2, 3, 4, 5, 6] := by decide
theorem range8 : List.range 8 = [0, 1, 2, 3, 4, 5, 6, 7] := by decide
theorem range9 : List.range 9 = [0, 1, 2, 3, 4, 5, 6, 7, 8] := by decide
theorem repl0 {α : Type} {x : α} : List.replicate 0 x = [] := rfl
theorem repl1 {α : Type} {x : α} : List.replicate 1 x = [x] := rfl
theorem repl2 {α : Type} {x : α} : List.replicate 2 x = [x, x] := rfl
theorem repl3 {α : Type} {x : α} : List.replicate 3 x = [x, x, x] := rfl
theorem repl4 {α : Type} {x : α} : List.replicate 4 x = [x, x, x, x] := rfl
theorem repl5 {α : Type} {x : α} : List.replicate 5 x = [x, x, x, x, x] := rfl
theorem repl6 {α : Type} {x : α} : List.replicate 6 x = [x, x, x, x, x, x] := rfl
theorem repl7 {α : Type} {x : α} : List.replicate 7 x = [x, x, x, x, x, x, x] := rfl
theorem repl8 {α : Type} {x : α} : List.replicate 8 x = [x, x, x, x, x, x, x, x] := rfl
theorem repl9 {α : Type} {x : α} : List.replicate 9 x = [x, x, x, x, x, x, x, x, x] := rfl
theorem nat512 : ((512 : Nat) : Int) = 512 := (rfl)
theorem optArr_some {α : Type} {x : α} : (some x).toArray = #[x] := (rfl)
theorem optArr_none {α : Type} : (none : Option α).toArray = #[] := (rfl)
theorem evElems_nil {H : Hp} {esz : Nat} {flat : List AV} : evElems H esz flat [] = some ([], []) := (rfl)
theorem evElems_cons {H : Hp} {esz : Nat} {flat : List AV} {i : Nat} {r : List Nat} : evElems H esz flat (i :: r) = match toCs H i 0 ((flat.drop (i * esz)).take esz), evElems H esz flat r with
    | some (e, ks), some (es, ks') => some (e :: es, ks ++ ks')
    | _, _ => none := (rfl)
theorem disj_cons {x : Nat} {r b : List Nat} : disj (x :: r) b = (!b.contains x && disj r b) := (rfl)
theorem HpS_at {l : List Ob} {k : Nat} : HpS l k = if k = 0 then none else l[k - 1]? := (rfl)
theorem kl_nil {t : Nat → AV} : kl [] t = t := (rfl)
theorem klH_nil {H : Hp} : klH [] H = H := (rfl)
theorem kl_cons {o : Nat} {r : List Nat} {t : Nat → AV} : kl (o :: r) t = fun k => killA (t k) := (rfl)
theorem klH_cons {o : Nat} {r : List Nat} {H : Hp} : klH (o :: r) H = fun k => (H k).map killO := (rfl)
theorem after_eq {nt : Nat} {t : Nat → AV} {H : Hp} {c : Nat} {ps : List Nat} {id : Nat} {d : Option Nat} {r : AV} {out : List (Option Ob)} : after nt ⟨t, H, c⟩ ps id d r out = ⟨putT nt (kl ps t) d (renA (rn ps id) r), updL (klH ps H) (callObjs ps id 0 out), c⟩ := (rfl)
theorem inlS_eq {nt : Nat} {t : Nat → AV} {H : Hp} {c : Nat} {o i j ty sz : Nat} {es : List (List CV)} {e : List CV} {es2 : List (List CV)} {d : Option Nat} {r : AV} : inlS nt ⟨t, H, c⟩ o i j ty sz es e es2 d r = ⟨putT nt (fun k => killA (t k)) d r, upd (fun k => (H k).map killO) o (some (.rw ty sz (es.set i (e.set j (.row true es2))))), c⟩ := (rfl)
/-- A region with three operations that may be taken as one: what stands ahead of them is run; then either way is gone. -/
def fsK (P : Program) (nt q : Nat) (l : List Oper) (K : ASt → Prop) : ASt → Prop := fun s1 =>
  seqR P nt (dstOf l.toArray) q (l.drop q) s1 K ∨ ∃ o1 o2 o3 r, l.drop q = o1 :: o2 :: o3 :: r ∧ TriQ P nt o1 o2 o3 s1 fun s2 => seqR P nt (dstOf l.toArray) (q + 3) r s2 K
theorem fuseQ_of {P : Program} {nt q : Nat} {l : List Oper} {s : ASt} {K : ASt → Prop} (h : seqR P nt (dstOf l.toArray) 0 (l.take q) s (fsK P nt q l K)) : FuseQ P nt q l.toArray s K := h
theorem fsK_seq {P : Program} {nt q : Nat} {l : List Oper} {s : ASt} {K : ASt → Prop} (h : seqR P nt (dstOf l.toArray) q (l.drop q) s K) : fsK P nt q l K s := .inl h
theorem fsK_tri {P : Program} {nt q : Nat} {l : List Oper} {K : ASt → Prop} {tt : Nat → AV} {H : Hp} {c : Nat} {o1 o2 o3 : Oper} {r : List Oper} (hl : l.drop q = o1 :: o2 :: o3 :: r)
    {t x d1 m d2 f : Nat} {ts : Array Nat} (hops : o1.op = .load t (.tmp x) ∧ o1.dst = some d1 ∧ o1.guard = none ∧ o2.op = .move (.tmp m) ∧ o2.dst = some d2 ∧ o2.guard = none ∧ o3.op = .call { callee := .value (.func f), args := #[.tmp d1, .tmp d2], argTypes := ts } ∧ o3.guard = none)
    (hd : decide (d1 ≠ d2 ∧ d1 < nt ∧ d2 < nt ∧ m ≠ d1 ∧ m < nt ∧ x < nt) = true) {ti : TI} (hti : tiOf P t = some ti) (hag : ti.agg = false)
    {o i j ty sz : Nat} {es : List (List CV)} {e : List CV} {es' : List (List CV)} {v : Value} (hx : tt x = .pt o i j) (hH : H o = some (.rw ty sz es)) (he : es[i]? = some e) (hc : e[j]? = some (.row true es')) (hne : es' ≠ []) (hm : tt m = .c (.v v))
    (sz0 : Nat) (hsz : ∀ e ∈ es', e.length = sz0) {y : Value} {es2 : List (List CV)} (n : Nat) (hn : n = es'.length) (hcall : ∀ ty', CallOk P f [.rw ty' sz0 es'] [.sl 1 n, .c (.v v)] (fun r out => r = .c (.v y) ∧ out = [some (.rw ty' sz0 es2)])) (hy : y.oneCell' = true) (hlen : es2.length = es'.length) (hown : ∀ e ∈ es2, ∀ c ∈ e, Own c)
    (hK : seqR P nt (dstOf l.toArray) (q + 3) r (inlS nt ⟨upd (upd tt d1 .any) d2 (.c (.v v)), H, c⟩ o i j ty sz es e es2 o3.dst (.c (.v y))) K) : fsK P nt q l K ⟨tt, H, c⟩ := by
  refine .inr ⟨o1, o2, o3, r, hl, t, x, d1, m, d2, f, ts, o, i, j, ty, sz, es, e, es', v, ti, hops, ?_⟩
  obtain ⟨h1, h2, h3, h4, h5, h6⟩ : d1 ≠ d2 ∧ d1 < nt ∧ d2 < nt ∧ m ≠ d1 ∧ m < nt ∧ x < nt := by simpa using hd
  refine ⟨h1, h2, h3, h4, h5, h6, hti, hag, hx, hH, he, hc, hne, hm, fun ty' sz' hs => ?_⟩
  obtain ⟨e0, r0, rfl⟩ := List.exists_cons_of_ne_nil hne
  subst hn
  have : sz' = sz0 := by rw [← hs e0 (List.mem_cons_self ..), hsz e0 (List.mem_cons_self ..)]
  subst this
  refine (hcall ty').mono fun r out h => ?_
  obtain ⟨rfl, rfl⟩ := h
  exact ⟨y, es2, rfl, hy, rfl, hlen, hown, hK⟩
end Go.Proofs.Ytnnmpdanfeejbaa.Abs
