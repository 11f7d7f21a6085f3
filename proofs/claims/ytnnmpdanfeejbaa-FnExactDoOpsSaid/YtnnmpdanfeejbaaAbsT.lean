/- The abstract machine: a region that draws its order. -/
import Derived.Test.YtnnmpdanfeejbaaAbsQ
namespace Go.Proofs.Ytnnmpdanfeejbaa.Abs
open Go Go.RowKit
set_option linter.unusedVariables false
set_option linter.unusedSimpArgs false

mutual
def refsA : AV → List Nat
  | .sl o _ => [o]
  | .pt o _ _ => [o]
  | .ag cs => refsL cs
  | .tu cs => refsL cs
  | .c _ => []
  | .bw _ => []
  | .nul => []
  | .any => []
def refsL : List AV → List Nat
  | [] => []
  | x :: r => refsA x ++ refsL r
end
mutual
/-- Nothing is borrowed. -/
def nbA : AV → Bool
  | .bw _ => false
  | .ag cs => nbL cs
  | .tu cs => nbL cs
  | .sl _ _ => true
  | .pt _ _ _ => true
  | .c _ => true
  | .nul => true
  | .any => true
def nbL : List AV → Bool
  | [] => true
  | x :: r => nbA x && nbL r
end
def nbO : Option Ob → Bool
  | some (.box _ cs) => nbL cs
  | _ => true

/-- What an operation looks at, and what it turns. -/
structure Fp where
  p : Nat
  refs : List Nat
  wr : List Nat
  call : Bool
  pas : Bool
  nb : Bool

def disj (a b : List Nat) : Bool := a.all fun x => !b.contains x
def okPair (x y : Fp) : Bool := !(x.call && y.call) && disj x.wr y.refs && disj x.wr y.wr && disj y.wr x.refs
def ancB (ops : Array Oper) : Nat → Nat → Nat → Bool
  | 0, _, _ => false
  | f + 1, i, j => match ops[i]? with
    | some o => o.after.toList.any fun e => Region.binds .any e && (e.on == j || ancB ops f e.on j)
    | none => false
def ordered (ops : Array Oper) (i j : Nat) : Bool := ancB ops ops.size i j || ancB ops ops.size j i
def apartB (ops : Array Oper) (x y : Oper) : Bool :=
  (match x.dst with | some d => !(y.looksAt ops).contains d && y.dst != some d | none => true) && (match y.dst with | some d => !(x.looksAt ops).contains d && x.dst != some d | none => true)
/-- What stands fast of a region: its edges go backwards, and what has no order touches other slots. -/
def fastB (ops : Array Oper) : Bool := (List.range ops.size).all fun i => match ops[i]? with
  | some o => (o.after.toList.all fun e => !Region.binds .any e || e.on < i) && (List.range i).all fun j => match ops[j]? with
    | some o' => ordered ops i j || apartB ops o o'
    | none => true
  | none => true
def chkB (ops : Array Oper) (acc : List Fp) (f : Fp) : Bool := acc.all fun x => ordered ops f.p x.p || okPair f x
def Ck (pc : Bool) (ops : Array Oper) (acc : List Fp) (f : Fp) : Prop := ((!pc || f.nb) && (!f.pas || pc) && chkB ops acc f) = true

def res (refs : List Nat) (H : Hp) : Hp := fun o => if refs.contains o then H o else none

def after0 (nt : Nat) (s : ASt) (ps : List Nat) (id : Nat) (d : Option Nat) (r : AV) (out : List (Option Ob)) : ASt :=
  { t := putT nt s.t d (renA (rn ps id) r), H := updL s.H (callObjs ps id 0 out), c := s.c }

def CallD (P : Program) (nt : Nat) (f : Nat) (args : List AV) (p id : Nat) (s : ASt) (C : Fp → Prop) (K : Fp → (Option Nat → ASt) → Prop) : Prop :=
  ∃ (used : List Nat) (bor : Bool) (ps : List Nat) (Hin : List Ob) (args' : List AV) (Post : AV → List (Option Ob) → Prop), CallOk P f Hin args' Post ∧ ps.Nodup ∧ Hin.length = ps.length ∧
    (∀ (k o : Nat), ps[k]? = some o → ∃ ob ob', res used s.H o = some ob ∧ Hin[k]? = some ob' ∧ ViewO bor (res used s.H) ps ob ob') ∧ args.length = args'.length ∧
    (∀ (i : Nat) x x', args[i]? = some x → args'[i]? = some x' → View bor (res used s.H) ps x x') ∧
    C ⟨p, used ++ ps, ps ++ (List.range 8).map (id + ·), true, !ps.isEmpty, true⟩ ∧ (∃ r out, Post r out) ∧
    ∀ r out, Post r out → ps.length ≤ out.length ∧ out.length ≤ ps.length + 8 ∧ (bor = true → Rs true out.length r ∧ ∀ ob, some ob ∈ out → RsOb true out.length ob) ∧
      K ⟨p, used ++ ps, ps ++ (List.range 8).map (id + ·), true, !ps.isEmpty, true⟩ (fun d => after0 nt s ps id d r out)

def detFp (p : Nat) (vals : List AV) (v : AV) (objs : List (Nat × Option Ob)) : Fp :=
  ⟨p, refsL vals, objs.map (·.1), false, false, nbA v && objs.all (fun x => nbO x.2)⟩

def stepD (P : Program) (nt p : Nat) (pc : Bool) (ops : Array Oper) (o : Oper) (acc : List Fp) (s : ASt) (K : Fp → ASt → Prop) : Prop :=
  match o.op with
  | .call { callee := .value (.func f), args := args, argTypes := _ } => CallD P nt f (args.toList.map (getA nt s.t)) p (s.c + 8 * p) s (fun fp => Ck pc ops acc fp) fun fp s' => K fp (s' o.dst)
  | op => bindK (evOp P (s.c + 8 * p) (res (refsL (op.operands.toList.map (getA nt s.t))) s.H) (getA nt s.t) op) fun v objs =>
      Ck pc ops acc (detFp p (op.operands.toList.map (getA nt s.t)) v objs) ∧ K (detFp p (op.operands.toList.map (getA nt s.t)) v objs) { t := putT nt s.t o.dst v, H := updL s.H objs, c := s.c }
def skipFp (p : Nat) : Fp := ⟨p, [], [], false, false, true⟩
def gstepD (P : Program) (nt p : Nat) (pc : Bool) (ops : Array Oper) (o : Oper) (acc : List Fp) (s : ASt) (K : Fp → ASt → Prop) : Prop :=
  match o.guard with
  | none => stepD P nt p pc ops o acc s K
  | some (j, want) => match dstOf ops j with
    | none => False
    | some d => d < nt ∧ boolK (s.t d) fun b => match want with
        | true => brB b (stepD P nt p pc ops o acc { s with t := upd s.t d (.c (.v (.bool true))) } K) (K (skipFp p) { s with t := putT nt (upd s.t d (.c (.v (.bool false)))) o.dst .any })
        | false => brB b (K (skipFp p) { s with t := putT nt (upd s.t d (.c (.v (.bool true)))) o.dst .any }) (stepD P nt p pc ops o acc { s with t := upd s.t d (.c (.v (.bool false))) } K)
def drawR (P : Program) (nt : Nat) (pc : Bool) (ops : Array Oper) : List (Nat × Oper) → List Fp → ASt → (ASt → Prop) → Prop
  | [], _, s, K => K s
  | (p, o) :: r, acc, s, K => gstepD P nt p pc ops o acc s fun fp s' => drawR P nt pc ops r (fp :: acc) s' K
/-- Nothing borrowed lies about. -/
def NoB (s : ASt) : Prop := (∀ k, nbA (s.t k) = true) ∧ ∀ o, nbO (s.H o) = true
def numbered : Nat → List Oper → List (Nat × Oper)
  | _, [] => []
  | p, o :: r => (p, o) :: numbered (p + 1) r
def DrawQ (P : Program) (nt : Nat) (ops : Array Oper) (s : ASt) (K : ASt → Prop) : Prop := fastB ops = true ∧ ∃ pc : Bool, (pc = true → NoB s) ∧ drawR P nt pc ops (numbered 0 ops.toList) [] s K

theorem upd_self {t : Nat → AV} {d : Nat} {v : AV} (h : t d = v) : upd t d v = t := by
  funext k
  unfold upd
  split
  · rename_i hk; subst hk; exact h.symm
  · rfl

/-- Is the operation carried out? -/
def goes (ops : Array Oper) (nt : Nat) (o : Oper) (s : ASt) (b : Bool) : Prop := match o.guard with
  | none => b = true
  | some (j, want) => ∃ d v, dstOf ops j = some d ∧ d < nt ∧ s.t d = .c (.v (.bool v)) ∧ b = (v == want)

theorem gstepD_goes {P : Program} {nt p : Nat} {pc : Bool} {ops : Array Oper} {o : Oper} {acc : List Fp} {s : ASt} {K : Fp → ASt → Prop} (h : gstepD P nt p pc ops o acc s K) :
    (goes ops nt o s true ∧ stepD P nt p pc ops o acc s K) ∨ (goes ops nt o s false ∧ K (skipFp p) { t := putT nt s.t o.dst .any, H := s.H, c := s.c }) := by
  unfold gstepD at h
  cases hg : o.guard with
  | none => rw [hg] at h; exact .inl ⟨by simp [goes, hg], h⟩
  | some jw =>
    obtain ⟨j, want⟩ := jw
    rw [hg] at h
    simp only at h
    cases hd : dstOf ops j with
    | none => rw [hd] at h; exact h.elim
    | some d =>
      rw [hd] at h
      obtain ⟨hlt, h⟩ := h
      obtain ⟨b, hb, h⟩ := boolK_ex h
      · cases want <;> cases b
        · simp only [brB_false, upd_self hb] at h; exact .inl ⟨by simp only [goes, hg]; exact ⟨d, false, hd, hlt, hb, rfl⟩, h⟩
        · simp only [brB_true, upd_self hb] at h; exact .inr ⟨by simp only [goes, hg]; exact ⟨d, true, hd, hlt, hb, rfl⟩, h⟩
        · simp only [brB_false, upd_self hb] at h; exact .inr ⟨by simp only [goes, hg]; exact ⟨d, false, hd, hlt, hb, rfl⟩, h⟩
        · simp only [brB_true, upd_self hb] at h; exact .inl ⟨by simp only [goes, hg]; exact ⟨d, true, hd, hlt, hb, rfl⟩, h⟩
theorem gstepD_of {P : Program} {nt p : Nat} {pc : Bool} {ops : Array Oper} {o : Oper} {acc : List Fp} {s : ASt} {K : Fp → ASt → Prop} (h : (goes ops nt o s true ∧ stepD P nt p pc ops o acc s K) ∨ (goes ops nt o s false ∧ K (skipFp p) { t := putT nt s.t o.dst .any, H := s.H, c := s.c })) :
    gstepD P nt p pc ops o acc s K := by
  unfold gstepD
  cases hg : o.guard with
  | none =>
    rcases h with ⟨_, h⟩ | ⟨h, _⟩
    · exact h
    · simp [goes, hg] at h
  | some jw =>
    obtain ⟨j, want⟩ := jw
    simp only
    have hx : ∃ d v, dstOf ops j = some d ∧ d < nt ∧ s.t d = .c (.v (.bool v)) := by
      rcases h with ⟨h, _⟩ | ⟨h, _⟩ <;> simp only [goes, hg] at h <;> exact ⟨_, _, h.choose_spec.choose_spec.1, h.choose_spec.choose_spec.2.1, h.choose_spec.choose_spec.2.2.1⟩
    obtain ⟨d, v, hd, hlt, hb⟩ := hx
    have hgo : ∀ b, goes ops nt o s b → b = (v == want) := fun b hb' => by
      simp only [goes, hg] at hb'
      obtain ⟨d', v', h1, _, h3, h4⟩ := hb'
      rw [hd] at h1
      cases h1
      rw [hb] at h3
      cases h3
      exact h4
    rw [hd]
    refine ⟨hlt, ?_⟩
    rw [hb]
    cases want <;> cases v <;> simp only [boolK_c, brB_true, brB_false, upd_self hb] <;> rcases h with ⟨h, h'⟩ | ⟨h, h'⟩ <;> first | exact h' | (have := hgo _ h; simp at this)

theorem updL_comm {H : Hp} {a b : List (Nat × Option Ob)} (h : ∀ x ∈ a, ∀ y ∈ b, x.1 ≠ y.1) : updL (updL H a) b = updL (updL H b) a := by
  induction a generalizing H with
  | nil => rfl
  | cons x r ih =>
    show updL (updL (upd H x.1 x.2) r) b = updL (upd (updL H b) x.1 x.2) r
    rw [ih (fun y hy z hz => h y (List.mem_cons_of_mem _ hy) z hz)]
    congr 1
    have : ∀ (l : List (Nat × Option Ob)) (H : Hp), (∀ y ∈ l, x.1 ≠ y.1) → updL (upd H x.1 x.2) l = upd (updL H l) x.1 x.2 := by
      intro l
      induction l with
      | nil => intro H _; rfl
      | cons y l ih =>
        intro H hl
        show updL (upd (upd H x.1 x.2) y.1 y.2) l = upd (updL (upd H y.1 y.2) l) x.1 x.2
        rw [upd_comm _ _ _ (hl y (List.mem_cons_self ..)), ih _ (fun z hz => hl z (List.mem_cons_of_mem _ hz))]
    exact this b H (fun y hy => h x (List.mem_cons_self ..) y hy)
theorem putT_comm {nt : Nat} {t : Nat → AV} {d e : Option Nat} {v u : AV} (h : ∀ k, d = some k → e ≠ some k) : putT nt (putT nt t d v) e u = putT nt (putT nt t e u) d v := by
  cases d with
  | none => rfl
  | some d =>
    cases e with
    | none => rfl
    | some e =>
      have hne : d ≠ e := fun he => h d rfl (by rw [he])
      simp only [putT]
      split <;> split <;> first | rfl | exact upd_comm _ _ _ hne
theorem putT_at {nt : Nat} {t : Nat → AV} {d : Option Nat} {v : AV} {k : Nat} (h : d ≠ some k) : putT nt t d v k = t k := by
  cases d with
  | none => rfl
  | some d =>
    simp only [putT]
    split
    · exact upd_ne _ _ (fun e => h (by rw [e]))
    · rfl
theorem getA_congr {nt : Nat} {t t' : Nat → AV} {x : Operand} (h : ∀ k, x = .tmp k → t' k = t k) : getA nt t' x = getA nt t x := by
  cases x with
  | tmp k => simp only [getA]; rw [h k rfl]
  | const => rfl
  | global => rfl
  | func => rfl

theorem mapM_congr' {α β : Type} {f g : α → Option β} : ∀ {l : List α}, (∀ x ∈ l, f x = g x) → l.mapM f = l.mapM g
  | [], _ => rfl
  | x :: r, h => by
    rw [List.mapM_cons, List.mapM_cons, h x (List.mem_cons_self ..), mapM_congr' (fun y hy => h y (List.mem_cons_of_mem _ hy))]

/-- What an operation comes to hangs on its operands alone. -/
theorem evOp_congr {P : Program} {id : Nat} {H : Hp} {g g' : Operand → AV} {op : Op} (h : ∀ x ∈ op.operands, g' x = g x) : evOp P id H g' op = evOp P id H g op := by
  have hp : ∀ (ps : Array (Nat × Operand)), (∀ x ∈ (ps.toList.map (·.2)), g' x = g x) → (ps.toList.map fun p => (p.1, g' p.2)) = (ps.toList.map fun p => (p.1, g p.2)) := fun ps hx =>
    List.map_congr_left (fun p hp => by rw [hx p.2 (List.mem_map.2 ⟨p, hp, rfl⟩)])
  cases op with
  | build t ps => simp only [evOp]; rw [hp ps (fun x hx => h x (by simpa [Op.operands] using hx))]
  | buildSlice t n ps => simp only [evOp]; rw [hp ps (fun x hx => h x (by simpa [Op.operands] using hx))]
  | call c =>
    obtain ⟨callee, args, ts⟩ := c
    cases callee with
    | value => rfl
    | invoke => rfl
    | builtin b =>
      simp only [evOp]
      have ha : ∀ x ∈ args.toList, g' x = g x := fun x hx => h x (by simpa [Op.operands, Call.operands] using hx)
      split
      · rename_i x t ha' _; rw [ha x (by rw [ha']; simp)]
      · rename_i x y t u ha' _; rw [ha x (by rw [ha']; simp), ha y (by rw [ha']; simp)]
      · rename_i x y t u ha' _; rw [ha x (by rw [ha']; simp), ha y (by rw [ha']; simp)]
      · rename_i x y ha'; rw [ha x (by rw [ha']; simp), ha y (by rw [ha']; simp)]
      · rename_i x y ha'; rw [ha x (by rw [ha']; simp), ha y (by rw [ha']; simp)]
      · rfl
  | slice t x lo hi mx =>
    simp only [evOp]
    cases mx with
    | some m => rfl
    | none =>
      have e1 : g' x = g x := h x (by simp [Op.operands])
      have e2 : lo.map g' = lo.map g := by cases lo with | none => rfl | some l => simp only [Option.map_some]; rw [h l (by simp [Op.operands])]
      have e3 : hi.map g' = hi.map g := by cases hi with | none => rfl | some l => simp only [Option.map_some]; rw [h l (by simp [Op.operands])]
      rw [e1, e2, e3]
  | move x => simp only [evOp]; rw [h x (by simp [Op.operands])]
  | assign x => simp only [evOp]; rw [h x (by simp [Op.operands])]
  | pick c x y => simp only [evOp]; rw [h c (by simp [Op.operands]), h x (by simp [Op.operands]), h y (by simp [Op.operands])]
  | box e x => simp only [evOp]; rw [h x (by simp [Op.operands])]
  | load t x => simp only [evOp]; rw [h x (by simp [Op.operands])]
  | store t x y => simp only [evOp]; rw [h x (by simp [Op.operands]), h y (by simp [Op.operands])]
  | fieldAddr t x f => simp only [evOp]; rw [h x (by simp [Op.operands])]
  | indexAddr t x y => simp only [evOp]; rw [h x (by simp [Op.operands]), h y (by simp [Op.operands])]
  | nilCheck x => simp only [evOp]; rw [h x (by simp [Op.operands])]
  | binOp op t x y t' => simp only [evOp]; rw [h x (by simp [Op.operands]), h y (by simp [Op.operands])]
  | unOp op t x => simp only [evOp]; rw [h x (by simp [Op.operands])]
  | convert s d x => simp only [evOp]; rw [h x (by simp [Op.operands])]
  | index t x y => simp only [evOp]; rw [h x (by simp [Op.operands]), h y (by simp [Op.operands])]
  | makeSlice t x y => simp only [evOp]; rw [h x (by simp [Op.operands]), h y (by simp [Op.operands])]
  | extract x k => simp only [evOp]; rw [h x (by simp [Op.operands])]
  | _ => rfl
end Go.Proofs.Ytnnmpdanfeejbaa.Abs
