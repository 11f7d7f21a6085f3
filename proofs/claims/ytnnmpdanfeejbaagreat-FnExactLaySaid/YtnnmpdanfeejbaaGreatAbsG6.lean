import Derived.Test.YtnnmpdanfeejbaaGreatAbsG5
import Derived.Deep.Slices
import Derived.SizedLaws
import Derived.Lib.SmallJoins
/- Stores: the program's reading of a disk below a sheet. -/
namespace Go.Proofs.YtnnmpdanfeejbaaGreat.Abs
open Go Go.Proofs
set_option maxRecDepth 10000
set_option linter.unusedVariables false
set_option linter.unusedSimpArgs false
theorem slIndex_ok (l : List Int) (a : Int) (hl : l.length ≤ 2^40) : CallOk Tryz.prog 162 [] [Rw (l.map inC), In a] (fun r out => (∃ k : Int, r = In k ∧ (0 ≤ k ↔ a ∈ l)) ∧ out = []) := by
  refine callOk_z (np := 0) {} mixed Tryz.func162 (by rfl) Tryz.ntmps162 Tryz.results162 (by rfl) (Nat.le_of_ble_eq_true rfl) rfl rfl rfl (vc ?_)
  refine loopQ_of (fun i => [(0, Rw (l.map inC)), (1, In a), (7, In (l.length : Nat)), (8, In (i : Nat))]) (fun i => []) 1 (fun i => l.length - i) (fun i => i ≤ l.length ∧ a ∉ l.take i) 0 ⟨Nat.zero_le _, by simp⟩ [] (by rfl) (vc trivial) (vc trivial) (fun i hi N hN => vc (brB_intro (fun h => ?_) (fun h => ?_)))
  · obtain ⟨hi, hna⟩ := hi
    have h : i < l.length := by simpa using h
    have hx := List.getElem?_eq_getElem h
    rw [get_map hx, inC]
    refine vc (brB_intro (fun h2 => ?_) (fun h2 => ?_))
    · have h2 : a = l[i] := by simpa using h2
      refine EndQ.closed (.v _) ⟨⟨_, rfl, ?_⟩, rfl⟩
      exact ⟨fun _ => by rw [h2]; exact List.getElem_mem h, fun _ => by omega⟩
    · have h2 : a ≠ l[i] := by simpa using h2
      refine hN _ (i + 1) [] ⟨h, ?_⟩ (by omega) (by rfl) (vc ?_) (vc trivial)
      · rw [List.take_add_one, hx]
        simp only [Option.toList_some, List.mem_append, List.mem_singleton, not_or]
        exact ⟨hna, h2⟩
      · rw [w64 _ (by omega)]; simp
  · obtain ⟨hi, hna⟩ := hi
    have h : i = l.length := by simp at h; omega
    refine EndQ.closed (.v _) ⟨⟨_, rfl, ?_⟩, rfl⟩
    rw [h, List.take_length] at hna
    exact ⟨fun h => by simp at h, fun h => absurd h hna⟩
theorem slContains_ok (l : List Int) (a : Int) (hl : l.length ≤ 2^40) : CallOk Tryz.prog 107 [] [Rw (l.map inC), In a] (fun r out => r = Bo (tf (a ∈ l)) ∧ out = []) := by
  refine callOk_z (np := 0) {} mixed Tryz.func107 (by rfl) Tryz.ntmps107 Tryz.results107 (by rfl) (Nat.le_of_ble_eq_true rfl) rfl rfl rfl (vc ?_)
  refine callq_of false [] (slIndex_ok l a hl) rfl trivial (vc trivial) ?_
  rintro r out ⟨⟨k, rfl, hk⟩, rfl⟩
  refine vc4 (by simp) (by simp) (by simp) ?_
  refine EndQ.closed (.v _) ⟨?_, rfl⟩
  by_cases h : a ∈ l
  · rw [tf_true h, decide_eq_true (hk.2 h)]
  · rw [tf_false h, decide_eq_false (fun e => h (hk.1 e))]
def dkD (d : Dk) : List CV := [.row false (d.sh.map (shC false)), .row false (d.wr.map (wrC false))]
def rdrB (d : Dk) (n m : AV) (bad : Bool) : Ob := .box 90 [.c (.ptr (dkD d) 0), n, m, Bo bad]
def RdrR (d : Dk) (f : Nat) (a : Int) (s : LS) (bad : Bool) (r : AV) (out : List (Option Ob)) : Prop :=
  r = .tu [] ∧ ∃ (s' : LS) (bad' : Bool), out = [some (rdrB d (.sl 4 s'.1.length) (.sl 5 s'.2.length) bad'), none, none, some (.rw 111 3 (s'.1.map (ndC true))), some (.rw 3 1 (s'.2.map inC))] ∧
    (bad = true → bad' = true) ∧ (bad = false → match loadL d f a s with | some s1 => bad' = false ∧ s' = s1 | none => bad' = true) ∧ Ldd s s'
theorem Ldd.refl {s : LS} (h : s.1.length ≤ 400) : Ldd s s := ⟨List.prefix_refl _, List.prefix_refl _, rfl, h, fun _ h => .inl h⟩
theorem Ldd.trans {a b c : LS} (h : Ldd a b) (k : Ldd b c) : Ldd a c :=
  ⟨h.pre.trans k.pre, h.pre2.trans k.pre2, by have := h.len; have := k.len; omega, k.most, fun x hx => (k.few x hx).elim (h.few x) .inr⟩
theorem readerRead_ok (d : Dk) (hok : d.ok) : ∀ (f : Nat) (a : Int) (s : LS) (bad : Bool), s.1.length = s.2.length → s.1.length ≤ 400 → 400 < f + s.1.length →
    CallOk Tryz.prog 49 [rdrB d (.sl 2 s.1.length) (.sl 3 s.2.length) bad, .rw 111 3 (s.1.map (ndC true)), .rw 3 1 (s.2.map inC)] [.pt 1 0 0, In a] (RdrR d f a s bad)
  | 0, a, s, bad, h1, h2, h3 => by omega
  | f + 1, a, s, bad, h1, h2, h3 => by
    obtain ⟨ns, ps⟩ := s
    simp only at h1 h2 h3
    have hfit := hok.fits
    have hd0 := hok.1
    unfold rdrB dkD
    refine callOk_z (np := 3) { js := [9, 14], op := [(19, 4)] } mixed Tryz.func49 (by rfl) Tryz.ntmps49 Tryz.results49 (by rfl) (Nat.le_of_ble_eq_true rfl) rfl rfl rfl (vc ?_)
    have hends : ∀ (H : Hp), outP (gS [(4, 2), (5, 3)]) H 1 [some (rdrB d (.sl 4 ns.length) (.sl 5 ps.length) true), none, none, some (.rw 111 3 (ns.map (ndC true))), some (.rw 3 1 (ps.map inC))] → (bad = true ∨ loadL d (f + 1) a (ns, ps) = none) → EndQ 3 H (.tu []) (RdrR d (f + 1) a (ns, ps) bad) := fun H hh hb => by
      refine endQ_of [(4, 2), (5, 3)] (.tu []) [some (rdrB d (.sl 4 ns.length) (.sl 5 ps.length) true), none, none, some (.rw 111 3 (ns.map (ndC true))), some (.rw 3 1 (ps.map inC))] (by rfl) (vc trivial) hh ⟨rfl, (ns, ps), true, rfl, fun _ => rfl, fun hb2 => ?_, Ldd.refl h2⟩
      rcases hb with hb | hb
      · rw [hb] at hb2; cases hb2
      · rw [hb]
    cases bad with
    | true =>
      refine vc ?_
      exact hends _ (by unfold rdrB dkD; exact vc trivial) (.inl rfl)
    | false =>
      refine vc ?_
      rw [w64 _ (by omega)]
      refine callq_of false [] (within_ok a 0 ((d.sh.length : Int) - 1)) rfl trivial (vc trivial) ?_
      rintro r out ⟨rfl, rfl⟩
      refine vc4 (by simp) (by simp) (by simp) ?_
      have hno : pgAt d a = none → loadL d (f + 1) a (ns, ps) = none := fun hp => by unfold loadL; rw [hp]
      by_cases hr : 0 ≤ a ∧ a ≤ (d.sh.length : Int) - 1
      case neg =>
        rw [decide_eq_false hr]
        refine vc ?_
        refine hends _ (by unfold rdrB dkD; exact vc trivial) (.inr (hno ?_))
        unfold pgAt dkO
        rw [if_neg (fun h => hr ⟨h.2.1, by omega⟩)]; rfl
      rw [decide_eq_true hr]
      refine vc ?_
      refine callq_of true [] (slContains_ok ps a (by omega)) rfl trivial (vc trivial) ?_
      rintro r out ⟨rfl, rfl⟩
      refine ⟨by simp, by simp, fun _ => ⟨.v _, by simp⟩, vc ?_⟩
      by_cases hin : a ∈ ps
      · rw [tf_true hin]
        refine vc ?_
        refine hends _ (by unfold rdrB dkD; exact vc trivial) (.inr ?_)
        unfold loadL
        split
        · rfl
        · exact if_pos (.inl hin)
      rw [tf_false hin]
      refine vc (brB_intro (fun h => ?_) (fun h => ?_))
      · have h : ns.length = 400 := by simp at h; omega
        refine hends _ (by unfold rdrB dkD; exact vc trivial) (.inr ?_)
        unfold loadL
        split
        · rfl
        · exact if_pos (.inr (by simp only; omega))
      have h : ns.length ≠ 400 := by simp at h; omega
      obtain ⟨m, rfl⟩ : ∃ m : Nat, a = m := ⟨a.toNat, by omega⟩
      have hc := diskRead_ok d hfit m (by omega)
      refine callq_of false [] hc rfl trivial (vc trivial) ?_
      rintro r out ⟨rfl, rfl⟩
      refine vc4 (by simp) (by simp) (by simp) ?_
      have hrl : (rdD d m).length = 512 := rdD_len hok (by omega)
      have hpg : pgAt d m = pgOf (rdD d m) := by
        unfold pgAt dkO
        rw [if_pos ⟨hok, by omega, by omega⟩, Int.toNat_natCast]; rfl
      have hp := implPageRead_ok (rdD d m) (by omega)
      generalize pgOf (rdD d m) = q at hpg hp
      refine callq_of true [] hp rfl trivial (vc trivial) ?_
      rintro r out ⟨rfl, rfl⟩
      refine ⟨by simp [pgH], by simp [pgH], pgo_rs q, ?_⟩
      unfold pgR pgH pgP
      cases q with
      | none =>
        refine vc ?_
        exact hends _ (by unfold rdrB dkD; exact vc trivial) (.inr (hno hpg))
      | some p =>
        refine vc ?_
        have e : loadL d (f + 1) m (ns, ps) = loadK (loadL d f) ns.length p.cs (ns ++ [ndOf p], ps ++ [(m : Int)]) := by
          conv => lhs; unfold loadL
          rw [hpg]; exact if_neg (by rintro (h1 | h1); exact hin h1; simp only at h1; omega)
        have hpk := (pgAt_ok hpg).1
        clear hends hno hc hp
        have hkl : p.ks.length ≤ 4 := by
          rcases hpk.2.2.2 with ⟨_, _, g, _⟩ | ⟨_, g, g', _⟩ <;> omega
        have hcl : p.cs.length ≤ 4 := by
          rcases hpk.2.2.2 with ⟨g, _, _, _⟩ | ⟨_, g, g', _⟩
          · rw [g]; simp
          · exact g
        have hvl : p.cs = [] → p.vs.length = p.ks.length := fun h5 => by
          rcases hpk.2.2.2 with ⟨_, _, _, g⟩ | ⟨g, _⟩
          · exact g
          · rw [h5] at g; simp at g
        have hvn : p.cs ≠ [] → p.vs = [] := fun h5 => by
          rcases hpk.2.2.2 with ⟨g, _⟩ | ⟨_, _, _, g⟩
          · exact absurd g h5
          · exact g
        refine joinQ_of (ι := Bool) (fun _ => [(0, .pt 1 0 0), (1, In m), (4, .pt 6 0 0), (6, In ns.length), (7, .pt 8 0 0)])
          (fun b => [(1, .box 90 [.c (.ptr [.row false (d.sh.map (shC false)), .row false (d.wr.map (wrC false))] 0), .sl 2 ns.length, .sl 3 ps.length, Bo false]), (2, .rw 111 3 (ns.map (ndC true))), (3, .rw 3 1 (ps.map inC)), (4, .rw 9 1 (p.ks.map stC)), (5, .rw 9 1 (p.vs.map stC)), (6, .box 107 [.sl 4 p.ks.length, .sl 5 p.vs.length, .sl 7 p.cs.length]), (7, .rw 3 1 (p.cs.map inC)), (8, .box 111 [.nul, if b then .sl 4 p.ks.length else .nul, .nul])]) 9 (fun b => b = true ↔ p.cs ≠ []) (fun N hN => vc ?_) (fun b hb => ?_)
        · refine brB_intro (fun h5 => ?_) (fun h5 => ?_)
          · have h5 : p.cs ≠ [] := by intro e; rw [e] at h5; simp at h5
            exact hN _ true [(4, 324), (5, 325), (6, 356), (7, 326), (8, 452)] ⟨fun _ => h5, fun _ => rfl⟩ (by rfl) (vc trivial) (vc trivial)
          · have h5 : p.cs = [] := by cases hcs : p.cs with
              | nil => rfl
              | cons x r => rw [hcs] at h5; simp at h5
            exact hN _ false [(4, 324), (5, 325), (6, 356), (7, 326), (8, 452)] ⟨fun h => (by cases h), fun h => absurd h5 h⟩ (by rfl) (vc trivial) (vc trivial)
        refine joinQ_of (ι := Unit) (fun _ => [(0, .pt 1 0 0), (1, In m), (4, .pt 6 0 0), (6, In ns.length), (7, .pt 8 0 0)])
          (fun _ => [(1, .box 90 [.c (.ptr [.row false (d.sh.map (shC false)), .row false (d.wr.map (wrC false))] 0), .sl 2 ns.length, .sl 3 ps.length, Bo false]), (2, .rw 111 3 (ns.map (ndC true))), (3, .rw 3 1 (ps.map inC)), (4, .rw 141 2 ((ndOf p).ps.map prC)), (5, .rw 9 1 ((ndOf p).ks.map stC)), (6, .box 107 [.any, .any, .sl 7 p.cs.length]), (7, .rw 3 1 (p.cs.map inC)), (8, .box 111 [.sl 4 (ndOf p).ps.length, .sl 5 (ndOf p).ks.length, .nul])]) 9 (fun _ => True) (fun N hN => ?_) (fun _ _ => ?_)
        · cases b with
          | true =>
            have h5 := hb.1 rfl
            have en : ndOf p = ⟨[], p.ks, []⟩ := by unfold ndOf; rw [if_neg h5]
            rw [en] at hN
            have hv0 := hvn h5
            refine vc ?_
            refine loopQ_of (fun i : Nat => [(0, .pt 1 0 0), (1, In m), (4, .pt 6 0 0), (6, In ns.length), (7, .pt 8 0 0), (79, In (0 : Nat)), (80, In (0 : Nat))])
              (fun i => [(1, .box 90 [.c (.ptr [.row false (d.sh.map (shC false)), .row false (d.wr.map (wrC false))] 0), .sl 2 ns.length, .sl 3 ps.length, Bo false]), (2, .rw 111 3 (ns.map (ndC true))), (3, .rw 3 1 (ps.map inC)), (4, .rw 9 1 (p.ks.map stC)), (6, .box 107 [.any, .any, .sl 7 p.cs.length]), (7, .rw 3 1 (p.cs.map inC)), (8, .box 111 [.nul, .sl 4 p.ks.length, .nul])]) 9 (fun _ => 0) (fun _ => True) 0 trivial [] (by rfl) (by refine vc ?_; rw [hv0]; rfl) (vc trivial) (fun i hi M hM => ?_)
            refine vc ?_
            exact hN _ () [(4, 0), (5, 4), (6, 6), (7, 7), (8, 8)] trivial (by rfl) (vc trivial) (vc trivial)
          | false =>
            have h5 : p.cs = [] := Classical.byContradiction fun e => by have := hb.2 e; cases this
            have en : ndOf p = ⟨prsOf p.ks p.vs, [], []⟩ := by unfold ndOf; rw [if_pos h5]
            rw [en] at hN
            have hvl := hvl h5
            refine vc ?_
            refine loopQ_of (fun i => [(0, .pt 1 0 0), (1, In m), (4, .pt 6 0 0), (6, In ns.length), (7, .pt 8 0 0), (78, .sl 5 p.vs.length), (79, In p.vs.length), (80, In (i : Nat))])
              (fun i => [(1, .box 90 [.c (.ptr [.row false (d.sh.map (shC false)), .row false (d.wr.map (wrC false))] 0), .sl 2 ns.length, .sl 3 ps.length, Bo false]), (2, .rw 111 3 (ns.map (ndC true))), (3, .rw 3 1 (ps.map inC)), (4, .rw 9 1 (p.ks.map stC)), (5, .rw 9 1 (p.vs.map stC)), (6, .box 107 [.sl 4 p.ks.length, .sl 5 p.vs.length, .sl 7 p.cs.length]), (7, .rw 3 1 (p.cs.map inC)), (8, .box 111 [.sl 9 (prsOf (p.ks.take i) (p.vs.take i)).length, .nul, .nul]), (9, .rw 141 2 ((prsOf (p.ks.take i) (p.vs.take i)).map prC))]) 10 (fun i => p.vs.length - i) (fun i => i ≤ p.vs.length) 0 (Nat.zero_le _) [(9, 0)] (by rfl) (vc trivial) (by refine vc ?_; exact ⟨rfl, rfl⟩) (fun i hi M hM => vc (brB_intro (fun h6 => ?_) (fun h6 => ?_)))
            · have h6 : i < p.vs.length := by simpa using h6
              have hk := List.getElem?_eq_getElem (show i < p.ks.length by omega)
              have hv := List.getElem?_eq_getElem h6
              refine ⟨h6, ?_⟩
              rw [get_map hv, stC]
              refine vc ?_
              refine drawQ_of false (by rfl) (by simp) (vc ?_)
              refine ⟨by omega, ?_⟩
              rw [get_map hk, stC]
              have hpl : (prsOf (p.ks.take i) (p.vs.take i)).length = i := by rw [prsOf_len _ _ (by simp; omega)]; simp; omega
              refine vc ?_
              refine ⟨⟨by rw [hpl]; unfold maxLen; omega, by rw [hpl]; omega⟩, ?_⟩
              repeat refine ⟨rfl, ?_⟩
              refine hM _ (i + 1) [(9, 138)] (by omega) (by omega) (by rfl) (vc ?_) (vc ?_)
              · rw [w64 _ (by omega)]; simp
              · rw [prsOf_take _ _ i _ _ hk hv]; simp [prC]
            · have h6 : i = p.vs.length := by simp at h6; omega
              subst h6
              rw [List.take_length, show List.take p.vs.length p.ks = p.ks from List.take_of_length_le (by omega)]
              exact hN _ () [(4, 9), (5, 0), (6, 6), (7, 7), (8, 8)] trivial (by rfl) (vc trivial) (vc trivial)
        · refine vc ?_
          obtain ⟨g1, g2⟩ := ndOf_few hpk
          have hm0 : ns.map (ndC true) ++ [[CV.row true ((ndOf p).ps.map prC), CV.row true ((ndOf p).ks.map stC), CV.row true []]] = (ns ++ [ndOf p]).map (ndC true) := by
            rw [List.map_append, List.map_cons, List.map_nil, ndC, g2]; rfl
          have hm1 : ps.map inC ++ [[CV.v (.int .i64 m)]] = (ps ++ [(m : Int)]).map inC := by rw [List.map_append]; rfl
          refine drawQ_of false (by rfl) (by simp) (vc ?_)
          refine ⟨⟨by simp, by unfold maxLen; omega, by omega⟩, ?_⟩
          repeat refine ⟨rfl, ?_⟩
          refine ⟨⟨by unfold maxLen; omega, by omega⟩, ?_⟩
          rw [hm0, hm1]
          have hbase : ∀ x ∈ ns ++ [ndOf p], x ∈ ns ∨ ndFew x := fun x hx => by
            rcases List.mem_append.1 hx with hx | hx
            · exact .inl hx
            · rw [List.mem_singleton] at hx; subst hx; exact .inr g1
          refine loopQ_of (ι := Nat × LS × Bool) (fun x => [(0, .pt 1 0 0), (6, In ns.length), (119, .sl 6 p.cs.length), (120, In p.cs.length), (121, In (x.1 : Nat))])
            (fun x => [(1, .box 90 [.c (.ptr [.row false (d.sh.map (shC false)), .row false (d.wr.map (wrC false))] 0), .sl 4 x.2.1.1.length, .sl 5 x.2.1.2.length, Bo x.2.2]), (4, .rw 111 3 (x.2.1.1.map (ndC true))), (5, .rw 3 1 (x.2.1.2.map inC)), (6, .rw 3 1 (p.cs.map inC))]) 7 (fun x => p.cs.length - x.1)
            (fun x => x.1 ≤ p.cs.length ∧ (x.2.2 = false → loadK (loadL d f) ns.length (p.cs.drop x.1) x.2.1 = loadL d (f + 1) m (ns, ps)) ∧ (x.2.2 = true → loadL d (f + 1) m (ns, ps) = none) ∧ (∃ n, x.2.1.1[ns.length]? = some n ∧ n.ps = (ndOf p).ps ∧ n.ks = (ndOf p).ks ∧ n.cs.length ≤ x.1) ∧ Ldd (ns, ps) x.2.1) (0, (ns ++ [ndOf p], ps ++ [(m : Int)]), false)
            ⟨Nat.zero_le _, fun _ => e.symm, fun h => (by cases h), ⟨ndOf p, by simp, rfl, rfl, by rw [g2]; simp⟩, ⟨List.prefix_append _ _, List.prefix_append _ _, by simp; omega, by simp; omega, hbase⟩⟩ [(4, 65), (5, 153), (6, 7)] (by rfl) (vc trivial) (vc ?_) (fun x hx M hM => ?_)
          · exact ⟨by simp, by simp⟩
          obtain ⟨i, ⟨ns1, ps1⟩, bad⟩ := x
          obtain ⟨hi, ht1, ht2, ⟨n, hn, hn1, hn2, hnc⟩, hL⟩ := hx
          simp only at hi ht1 ht2 hn hn1 hn2 hnc hM
          have hl1 := hL.len
          have hl2 := hL.most
          have hl3 := hL.pre.length_le
          simp only at hl1 hl2 hl3
          have hl4 : ns.length < ns1.length := (List.getElem?_eq_some_iff.1 hn).1
          refine vc (brB_intro (fun h6 => ?_) (fun h6 => ?_))
          · have h6 : i < p.cs.length := by simpa using h6
            have hk := List.getElem?_eq_getElem h6
            refine ⟨h6, ?_⟩
            rw [get_map hk, inC]
            refine vc ?_
            refine opnQ_of ns.length 2 3 1 (by rfl) (get_map hn) (by rfl) (in_one _) (vc ?_)
            refine drawQ_of false (by rfl) (by simp) (vc ?_)
            refine ⟨hl4, ?_⟩
            rw [List.getElem?_set_self (by simpa using hl4)]
            refine vc ?_
            refine ⟨⟨by unfold maxLen; omega, by omega⟩, rfl, hl4, ?_⟩
            rw [List.getElem?_set_self (by simpa using hl4), show (ndC true n).set 2 CV.hole = [CV.row true (n.ps.map prC), CV.row true (n.ks.map stC), CV.hole] from rfl, if_pos (by simp)]
            refine vc ?_
            refine ⟨by repeat' (first | rfl | refine ⟨?_, ?_⟩), ?_⟩
            have hset : (ns1.map (ndC true)).set ns.length [CV.row true (n.ps.map prC), CV.row true (n.ks.map stC), CV.row true (n.cs.map inC ++ [[CV.v (.int .i64 ns1.length)]])] = (addKid ns.length ns1).map (ndC true) := by
              rw [addKid_get hn, List.map_set]; simp [ndC, kidN, inC]
            have hal := addKid_len ns.length ns1
            have hak : (addKid ns.length ns1)[ns.length]? = some (kidN n ns1.length) := by rw [addKid_get hn, List.getElem?_set_self hl4]
            have hfew : ndFew (kidN n ns1.length) := by
              obtain ⟨q1, q2, q3, q4, q5⟩ := g1
              exact ⟨by show n.ps.length ≤ 4; rw [hn1]; exact q1, by show n.ks.length ≤ 4; rw [hn2]; exact q2, by simp [kidN]; omega, by show ∀ p ∈ n.ps, _; rw [hn1]; exact q4, by show ∀ k ∈ n.ks, _; rw [hn2]; exact q5⟩
            have hLk : Ldd (ns, ps) (addKid ns.length ns1, ps1) := by
              refine ⟨?_, hL.pre2, by simp only [hal]; omega, by simp only [hal]; omega, fun x hx => ?_⟩
              · obtain ⟨t, ht⟩ := hL.pre
                refine ⟨(addKid ns.length ns1).drop ns.length, ?_⟩
                have e1 : ns = ns1.take ns.length := by simp only at ht; rw [← ht, List.take_left']; rfl
                show ns ++ _ = addKid ns.length ns1
                conv => lhs; lhs; rw [e1]
                rw [addKid_pre n hn (Nat.le_refl _), List.take_append_drop]
              · simp only at hx
                rw [addKid_get hn] at hx
                rcases List.mem_or_eq_of_mem_set hx with hx | rfl
                · exact hL.few x hx
                · exact .inr hfew
            have hrec := readerRead_ok d hok f p.cs[i] (addKid ns.length ns1, ps1) bad (by simp only; omega) (by simp only; omega) (by simp only; omega)
            have hst : loadK (loadL d f) ns.length (p.cs.drop i) (ns1, ps1) = match loadL d f p.cs[i] (addKid ns.length ns1, ps1) with
              | some s' => loadK (loadL d f) ns.length (p.cs.drop (i + 1)) s'
              | none => none := by
              rw [List.drop_eq_getElem_cons h6]; rfl
            unfold rdrB dkD at hrec
            simp only at hrec
            rw [← hset, hal] at hrec
            refine callq_of false [1, 4, 5] hrec rfl (vc trivial) (vc trivial) ?_
            rintro r out ⟨rfl, ⟨ns2, ps2⟩, bad2, rfl, hb1, hb2, hL2⟩
            unfold rdrB dkD
            refine vc4 (by simp) (by simp) (by simp) ?_
            refine hM _ (i + 1, (ns2, ps2), bad2) [(4, 247), (5, 248)] ⟨by simp only; omega, fun hb => ?_, fun hb => ?_, ⟨kidN n ns1.length, pre_get hL2.pre hak, hn1, hn2, by simp [kidN]; omega⟩, hLk.trans hL2⟩ (by simp only; omega) (by rfl) (vc ?_) (vc trivial)
            · simp only at hb
              subst hb
              have hbf : bad = false := by cases bad with
                | false => rfl
                | true => have := hb1 rfl; cases this
              have h8 := hb2 hbf
              rw [← ht1 hbf, hst]
              generalize loadL d f p.cs[i] (addKid ns.length ns1, ps1) = q at h8 ⊢
              cases q with
              | none => cases h8
              | some s1 => rw [h8.2]
            · simp only at hb
              subst hb
              cases bad with
              | true => exact ht2 rfl
              | false =>
                have h8 := hb2 rfl
                rw [← ht1 rfl, hst]
                generalize loadL d f p.cs[i] (addKid ns.length ns1, ps1) = q at h8 ⊢
                cases q with
                | none => rfl
                | some s1 => exact absurd h8.1 (by simp)
            · rw [w64 _ (by omega)]; simp
          · have h6 : i = p.cs.length := by simp at h6; omega
            subst h6
            refine endQ_of [(4, 4), (5, 5)] (.tu []) [some (rdrB d (.sl 4 ns1.length) (.sl 5 ps1.length) bad), none, none, some (.rw 111 3 (ns1.map (ndC true))), some (.rw 3 1 (ps1.map inC))] (by rfl) (vc trivial) (by unfold rdrB dkD; exact vc trivial) ⟨rfl, (ns1, ps1), bad, rfl, fun h => (by cases h), fun _ => ?_, hL⟩
            cases bad with
            | true => rw [ht2 rfl]
            | false =>
              have h7 := ht1 rfl
              rw [List.drop_length, loadK] at h7
              rw [← h7]
              exact ⟨rfl, rfl⟩
end Go.Proofs.YtnnmpdanfeejbaaGreat.Abs

/- Stores opened: both sides. -/
namespace Go.Proofs.YtnnmpdanfeejbaaGreat.Abs
open Go Go.Proofs
set_option maxRecDepth 10000
set_option linter.unusedVariables false
set_option linter.unusedSimpArgs false
def St0 : St := ⟨⟨[], []⟩, 0, [], []⟩
open Classical in
/-- The nodes and places below a root. -/
noncomputable def treeC (rt : Nat) (q : Option LS) : Option LS := if rt = 0 then some ([], []) else match q with
  | some s => if specOk s.1 then some s else none
  | none => none
open Classical in
noncomputable def openC (d : Dk) (mm : Nat × Nat) (q : Option LS) : St × Int := if ¬ (d.ok ∧ d.wr = []) then (St0, (1 : Int)) else if mm.1 = 0 then (St0, 2) else match treeC mm.2 q with
  | some s => (⟨d, (mm.1 : Int), s.1, s.2⟩, 0)
  | none => (St0, 3)
noncomputable def openS (d : Dk) : St × Int := openC d (mtD d) (loadL d 401 ((mtD d).2 : Int) ([], []))
theorem openC_1 {d : Dk} {mm : Nat × Nat} {q : Option LS} (h : ¬ (d.ok ∧ d.wr = [])) : openC d mm q = (St0, 1) := by unfold openC; rw [if_pos h]
theorem openC_2 {d : Dk} {mm : Nat × Nat} {q : Option LS} (h : d.ok ∧ d.wr = []) (h2 : mm.1 = 0) : openC d mm q = (St0, 2) := by unfold openC; rw [if_neg (fun e => e h), if_pos h2]
theorem openC_3 {d : Dk} {mm : Nat × Nat} {q : Option LS} (h : d.ok ∧ d.wr = []) (h2 : mm.1 ≠ 0) (h3 : treeC mm.2 q = none) : openC d mm q = (St0, 3) := by unfold openC; rw [if_neg (fun e => e h), if_neg h2, h3]
theorem openC_0 {d : Dk} {mm : Nat × Nat} {q : Option LS} {s : LS} (h : d.ok ∧ d.wr = []) (h2 : mm.1 ≠ 0) (h3 : treeC mm.2 q = some s) : openC d mm q = (⟨d, (mm.1 : Int), s.1, s.2⟩, 0) := by unfold openC; rw [if_neg (fun e => e h), if_neg h2, h3]
def opR (x : St × Int) : AV := .tu [x.1.ow, In x.2]
theorem St0_end (k : Int) (H : Hp) (R : AV → List (Option Ob) → Prop) (h : R (opR (St0, k)) (St0.obs.map some)) : EndQ 0 H (.tu [.ag [.nul, .nul, In 0, .nul, .nul], In k]) R :=
  endQ_of [(1, 0), (2, 0), (3, 0), (4, 0)] (.tu [.ag [.sl 1 0, .sl 2 0, In 0, .sl 3 0, .sl 4 0], In k]) [some (.rw 135 1 []), some (.rw 113 2 []), some (.rw 111 3 []), some (.rw 3 1 [])] (by rfl) (vc trivial) (vc trivial) h
theorem Ldd.small {s : LS} (h : Ldd ([], []) s) : small s.1 := by
  have := h.most
  exact ⟨by omega, fun x hx => ((h.few x hx).resolve_left (by simp)).fits (by omega)⟩
theorem l06Load_nil (d : Dk) (hd : d.fits (2^40)) (a : Int) : CallOk Tryz.prog 43 [] [d.rd, In a, .nul, .nul] (fun r out => r = ldR (loadL d 401 a ([], [])) ∧ out = ldH (loadL d 401 a ([], []))) := by
  refine CallOk.nil (l06Load_ok d hd 401 a ([], []) rfl (by simp) (by simp)) (fun ob hob => ?_) ?_
  · simp at hob; rcases hob with rfl | rfl <;> exact ⟨_, _, rfl⟩
  · exact ⟨.inl ⟨rfl, rfl⟩, .inl ⟨rfl, rfl⟩, .inr ⟨rfl, 1, _, _, rfl, rfl⟩, .inr ⟨rfl, 2, _, _, rfl, rfl⟩, trivial⟩
theorem specOpen_ok (d : Dk) (hf : d.fits (2^40)) : CallOk Tryz.prog 9 [] [d.rd] (fun r out => r = opR (openS d) ∧ out = (openS d).1.obs.map some) := by
  have c1 := specDiskOk_ok d hf
  have c2 := specDiskMeta_ok d hf
  have c3 := l05Copy_ok d hf
  have c4 := l06Load_nil d hf ((mtD d).2 : Int)
  unfold openS
  have hLd := loadL_ok d 401 ((mtD d).2 : Int) ([], [])
  generalize loadL d 401 ((mtD d).2 : Int) ([], []) = q at c4 hLd ⊢
  generalize mtD d = mm at c2 c4 ⊢
  obtain ⟨g, rt⟩ := mm
  unfold mtE at c2
  obtain ⟨sh, wr⟩ := d
  unfold Dk.rd at *
  unfold Dk.ow Dk.obs at c3
  simp only at c2 c4 c1 c3 hf
  refine callOk_z (np := 0) {} mixed Tryz.func9 (by rfl) Tryz.ntmps9 Tryz.results9 (by rfl) (Nat.le_of_ble_eq_true rfl) rfl rfl rfl (vc ?_)
  refine callq_of false [] c1 rfl trivial (vc trivial) ?_
  rintro r out ⟨rfl, rfl⟩
  refine vc4 (by simp) (by simp) (by simp) ?_
  by_cases hok : Dk.ok ⟨sh, wr⟩
  case neg =>
    rw [tf_false hok]
    refine vc ?_
    rw [openC_1 (fun h => hok h.1)]
    exact St0_end 1 _ _ ⟨rfl, rfl⟩
  rw [tf_true hok]
  refine vc (brB_intro (fun h1 => ?_) (fun h1 => ?_))
  · rw [openC_1 (fun h => by have := h.2; simp only at this; rw [this] at h1; simp at h1)]
    exact St0_end 1 _ _ ⟨rfl, rfl⟩
  have hw : wr = [] := by
    cases wr with
    | nil => rfl
    | cons x r => simp at h1
  subst hw
  refine callq_of false [] c2 rfl trivial (vc trivial) ?_
  rintro r out ⟨rfl, rfl⟩
  refine vc4 (by simp) (by simp) (by simp) ?_
  refine brB_intro (fun h2 => ?_) (fun h2 => ?_)
  · rw [openC_2 ⟨hok, rfl⟩ (by simp at h2; simpa using h2)]
    exact St0_end 2 _ _ ⟨rfl, rfl⟩
  have hg : g ≠ 0 := by simp at h2; omega
  refine drawQ_of false (by rfl) (by simp) (vc ?_)
  refine calld_of [] false [] c3 rfl trivial (vc trivial) (by rfl) ⟨_, _, rfl, rfl⟩ ?_
  rintro r out ⟨rfl, rfl⟩
  refine vc4 (by simp) (by simp) (by simp) ?_
  repeat refine ⟨rfl, ?_⟩
  refine brB_intro (fun h3 => ?_) (fun h3 => ?_)
  · have h3 : rt = 0 := by simp at h3; omega
    rw [openC_0 ⟨hok, rfl⟩ hg (s := ([], [])) (by unfold treeC; rw [if_pos h3])]
    exact endQ_of [(1, 185), (2, 186), (3, 0), (4, 0)] (.tu [.ag [.sl 1 sh.length, .sl 2 0, In g, .sl 3 0, .sl 4 0], In 0]) [some (.rw 135 1 (sh.map (shC true))), some (.rw 113 2 []), some (.rw 111 3 []), some (.rw 3 1 [])] (by rfl) (vc trivial) (vc trivial) ⟨rfl, rfl⟩
  have h3 : rt ≠ 0 := by simp at h3; omega
  refine callq_of false [] c4 rfl trivial (vc trivial) ?_
  rintro r out ⟨rfl, rfl⟩
  cases q with
  | none =>
    unfold ldR ldH
    refine vc4 (by simp) (by simp) (by simp) ?_
    rw [openC_3 ⟨hok, rfl⟩ hg (by unfold treeC; rw [if_neg h3])]
    exact St0_end 3 _ _ ⟨rfl, rfl⟩
  | some s =>
    unfold ldR ldH
    refine vc4 (by simp) (by simp) (by simp) ?_
    have ct := specTreeOk_small (hLd s rfl).small
    unfold treeAg at ct
    refine callq_of true [] ct rfl trivial (vc trivial) ?_
    rintro r out ⟨rfl, rfl⟩
    refine ⟨by simp, by simp, fun _ => ⟨.v _, by simp⟩, vc ?_⟩
    by_cases ht : specOk s.1
    · rw [tf_true ht]
      refine vc ?_
      rw [openC_0 ⟨hok, rfl⟩ hg (s := s) (by unfold treeC; rw [if_neg h3]; simp only; rw [if_pos ht])]
      exact endQ_of [(1, 185), (2, 186), (3, 283), (4, 284)] (.tu [.ag [.sl 1 sh.length, .sl 2 0, In g, .sl 3 s.1.length, .sl 4 s.2.length], In 0]) [some (.rw 135 1 (sh.map (shC true))), some (.rw 113 2 []), some (.rw 111 3 (s.1.map (ndC true))), some (.rw 3 1 (s.2.map inC))] (by rfl) (vc trivial) (vc trivial) ⟨rfl, rfl⟩
    · rw [tf_false ht]
      refine vc ?_
      rw [openC_3 ⟨hok, rfl⟩ hg (by unfold treeC; rw [if_neg h3]; simp only; rw [if_neg ht])]
      exact St0_end 3 _ _ ⟨rfl, rfl⟩
end Go.Proofs.YtnnmpdanfeejbaaGreat.Abs

/- Stores opened: the program's side. -/
namespace Go.Proofs.YtnnmpdanfeejbaaGreat.Abs
open Go Go.Proofs
set_option maxRecDepth 10000
set_option linter.unusedVariables false
set_option linter.unusedSimpArgs false
theorem implOpen_ok (d : Dk) (hf : d.fits (2^40)) : CallOk Tryz.prog 11 [] [d.rd] (fun r out => r = opR (openS d) ∧ out = (openS d).1.obs.map some) := by
  have c1 := implDiskOk_ok d hf
  have c2 := implDiskMeta_ok d hf
  have c3 := copyDisk_ok d hf
  unfold openS
  have c4 : d.ok → CallOk Tryz.prog 49 [rdrB d (.sl 2 0) (.sl 3 0) false, .rw 111 3 [], .rw 3 1 []] [.pt 1 0 0, In ((mtD d).2 : Int)] (RdrR d 401 ((mtD d).2 : Int) ([], []) false) := fun hok => readerRead_ok d hok 401 ((mtD d).2 : Int) ([], []) false rfl (by simp) (by simp)
  unfold RdrR at c4
  generalize loadL d 401 ((mtD d).2 : Int) ([], []) = q at c4 ⊢
  generalize mtD d = mm at c2 c4 ⊢
  obtain ⟨g, rt⟩ := mm
  unfold mtE at c2
  obtain ⟨sh, wr⟩ := d
  unfold rdrB dkD at c4
  unfold Dk.rd at *
  unfold Dk.ow Dk.obs at c3
  simp only at c2 c4 c1 c3 hf
  refine callOk_z (np := 0) { js := [7, 9], fz := [(6, [1])] } mixed Tryz.func11 (by rfl) Tryz.ntmps11 Tryz.results11 (by rfl) (Nat.le_of_ble_eq_true rfl) rfl rfl rfl (vc ?_)
  refine callq_of false [] c1 rfl trivial (vc trivial) ?_
  rintro r out ⟨rfl, rfl⟩
  refine vc4 (by simp) (by simp) (by simp) ?_
  by_cases hok : Dk.ok ⟨sh, wr⟩
  case neg =>
    rw [tf_false hok]
    refine vc ?_
    rw [openC_1 (fun h => hok h.1)]
    exact St0_end 1 _ _ ⟨rfl, rfl⟩
  have c4 := c4 hok
  rw [tf_true hok]
  refine vc (brB_intro (fun h1 => ?_) (fun h1 => ?_))
  · rw [openC_1 (fun h => by have := h.2; simp only at this; rw [this] at h1; simp at h1)]
    exact St0_end 1 _ _ ⟨rfl, rfl⟩
  have hw : wr = [] := by
    cases wr with
    | nil => rfl
    | cons x r => simp at h1
  subst hw
  refine callq_of false [] c2 rfl trivial (vc trivial) ?_
  rintro r out ⟨rfl, rfl⟩
  refine vc4 (by simp) (by simp) (by simp) ?_
  refine brB_intro (fun h2 => ?_) (fun h2 => ?_)
  · rw [openC_2 ⟨hok, rfl⟩ (by simp at h2; simpa using h2)]
    exact St0_end 2 _ _ ⟨rfl, rfl⟩
  have hg : g ≠ 0 := by simp at h2; omega
  refine joinQ_of (ι := Unit) (fun _ => [(1, .c (.ptr [.row false (sh.map (shC false)), .row false []] 0)), (2, .pt 2 0 0), (4, .pt 3 0 0), (6, .pt 4 0 0)])
    (fun _ => [(2, .box 36 [.nul, .nul, In 0, .nul, .nul]), (3, .box 78 [In g, In rt]), (4, .box 90 [.c (.ptr [.row false (sh.map (shC false)), .row false []] 0), .sl 5 0, .sl 6 0, Bo false]), (5, .rw 111 3 []), (6, .rw 3 1 [])]) 7 (fun _ => True) (fun N hN => vc ?_) (fun _ _ => ?_)
  · exact hN _ () [(2, 9), (3, 137), (4, 185), (5, 0), (6, 0)] trivial (by rfl) (vc trivial) (vc trivial)
  refine joinQ_of (ι := LS × Bool) (fun x => [(1, .c (.ptr [.row false (sh.map (shC false)), .row false []] 0)), (2, .pt 2 0 0), (4, .pt 3 0 0), (6, .pt 4 0 0)])
    (fun x => [(2, .box 36 [.nul, .nul, In 0, .nul, .nul]), (3, .box 78 [In g, In rt]), (4, .box 90 [.c (.ptr [.row false (sh.map (shC false)), .row false []] 0), .sl 5 x.1.1.length, .sl 6 x.1.2.length, Bo x.2]), (5, .rw 111 3 (x.1.1.map (ndC true))), (6, .rw 3 1 (x.1.2.map inC))]) 7
    (fun x => small x.1.1 ∧ (x.2 = true → treeC rt q = none) ∧ (x.2 = false → (specOk x.1.1 → treeC rt q = some x.1) ∧ (¬ specOk x.1.1 → treeC rt q = none))) (fun N hN => vc ?_) (fun x hx => ?_)
  · refine brB_intro (fun h3 => ?_) (fun h3 => ?_)
    · have h3 : rt ≠ 0 := by simp at h3; omega
      refine callq_of false [4, 5, 6] c4 rfl (vc trivial) (vc trivial) ?_
      rintro r out ⟨rfl, s', bad', rfl, hb1, hb2, hL⟩
      refine vc4 (by simp) (by simp) (by simp) ?_
      refine hN _ (s', bad') [(5, 55), (6, 56)] ⟨hL.small, fun hb => ?_, fun hb => ?_⟩ (by rfl) (vc trivial) (vc trivial)
      · simp only at hb
        subst hb
        have h8 := hb2 trivial
        cases q with
        | none => unfold treeC; rw [if_neg h3]
        | some s1 => exact absurd h8.1 (by simp)
      · simp only at hb
        subst hb
        have h8 := hb2 trivial
        cases q with
        | none => cases h8
        | some s1 =>
          rw [h8.2]
          unfold treeC
          rw [if_neg h3]
          exact ⟨fun h => if_pos h, fun h => if_neg h⟩
    · have h3 : rt = 0 := by simp at h3; omega
      refine hN _ (([], []), false) [] ⟨⟨by simp, by simp⟩, fun hb => (by cases hb), fun _ => ⟨fun _ => ?_, fun h => absurd (.inl rfl) h⟩⟩ (by rfl) (vc trivial) (vc trivial)
      unfold treeC
      rw [if_pos h3]
  obtain ⟨⟨ns, ps⟩, bad⟩ := x
  obtain ⟨hsm, hb1, hb2⟩ := hx
  simp only at hsm hb1 hb2
  cases bad with
  | true =>
    refine vc ?_
    rw [openC_3 ⟨hok, rfl⟩ hg (hb1 rfl)]
    exact St0_end 3 _ _ ⟨rfl, rfl⟩
  | false =>
    obtain ⟨ht1, ht2⟩ := hb2 rfl
    have ct := implTreeOk_ok hsm
    unfold treeAg at ct
    refine vc ?_
    refine callq_of true [] ct rfl trivial (vc trivial) ?_
    rintro r out ⟨rfl, rfl⟩
    refine ⟨by simp, by simp, fun _ => ⟨.v _, by simp⟩, vc ?_⟩
    by_cases ht : specOk ns
    · rw [tf_true ht]
      refine vc ?_
      refine drawQ_of false (by rfl) (by simp) (vc ?_)
      refine calld_of [] false [] c3 rfl trivial (vc trivial) (by rfl) ⟨_, _, rfl, rfl⟩ ?_
      rintro r out ⟨rfl, rfl⟩
      refine vc4 (by simp) (by simp) (by simp) ?_
      repeat refine ⟨rfl, ?_⟩
      rw [openC_0 ⟨hok, rfl⟩ hg (ht1 ht)]
      exact endQ_of [(1, 143), (2, 144), (3, 5), (4, 6)] (.tu [.ag [.sl 1 sh.length, .sl 2 0, In g, .sl 3 ns.length, .sl 4 ps.length], In 0]) [some (.rw 135 1 (sh.map (shC true))), some (.rw 113 2 []), some (.rw 111 3 (ns.map (ndC true))), some (.rw 3 1 (ps.map inC))] (by rfl) (vc trivial) (vc trivial) ⟨rfl, rfl⟩
    · rw [tf_false ht]
      refine vc ?_
      rw [openC_3 ⟨hok, rfl⟩ hg (ht2 ht)]
      exact St0_end 3 _ _ ⟨rfl, rfl⟩
end Go.Proofs.YtnnmpdanfeejbaaGreat.Abs

/- The law on DiskWrite, walked. -/
namespace Go.Proofs.YtnnmpdanfeejbaaGreat.Abs
open Go Go.Proofs
set_option maxRecDepth 10000
set_option linter.unusedVariables false
set_option linter.unusedSimpArgs false
end Go.Proofs.YtnnmpdanfeejbaaGreat.Abs

/- The law FnExactStoreOpen. -/
namespace Go.Proofs.YtnnmpdanfeejbaaGreat.Abs
open Go Go.Proofs
set_option maxRecDepth 10000
set_option linter.unusedVariables false
set_option linter.unusedSimpArgs false
theorem ndFew.cnt {n : Nd} (h : ndFew n) : cntN n ≤ 16 := by
  have a := sumL_bound c2 2 n.ps (fun x _ => Nat.le_refl _)
  have b := sumL_bound c1 1 n.ks (fun x _ => Nat.le_refl _)
  have c := sumL_bound c1 1 n.cs (fun x _ => Nat.le_refl _)
  obtain ⟨h1, h2, h3, _⟩ := h
  unfold cntN
  omega
theorem Ldd.store {d : Dk} (hok : d.ok) {g : Int} {s : LS} (h : Ldd ([], []) s) : (⟨d, g, s.1, s.2⟩ : St).fits (2^40) ∧ (⟨d, g, s.1, s.2⟩ : St).cnt ≤ 2^40 := by
  have hl := h.len
  have hm := h.most
  simp at hl
  have hf : ∀ x ∈ s.1, ndFew x := fun x hx => (h.few x hx).resolve_left (by simp)
  have a := sumL_bound cntN 16 s.1 (fun x hx => (hf x hx).cnt)
  have b := sumL_bound c1 1 s.2 (fun x _ => Nat.le_refl _)
  have c := hok.cnt
  refine ⟨⟨hok.fits, by simp only; omega, fun n hn => (hf n hn).fits (by omega), by simp only; omega⟩, ?_⟩
  show d.cnt + sumL cntN s.1 + sumL c1 s.2 ≤ _
  omega
theorem openS_facts (d : Dk) : (openS d).1.fits (2^40) ∧ (openS d).1.cnt ≤ 2^40 := by
  have h0 : St0.fits (2^40) ∧ St0.cnt ≤ 2^40 := ⟨⟨⟨by simp [St0], by simp [St0], by simp [St0], by simp [St0]⟩, by simp [St0], by simp [St0], by simp [St0]⟩, by show Dk.cnt ⟨[], []⟩ + sumL cntN [] + sumL c1 [] ≤ _; simp [Dk.cnt, sumL_nil]⟩
  by_cases hd : d.ok ∧ d.wr = []
  case neg => unfold openS; rw [openC_1 hd]; exact h0
  by_cases hg : (mtD d).1 = 0
  · unfold openS; rw [openC_2 hd hg]; exact h0
  cases ht : treeC (mtD d).2 (loadL d 401 ((mtD d).2 : Int) ([], [])) with
  | none => unfold openS; rw [openC_3 hd hg ht]; exact h0
  | some s =>
    unfold openS; rw [openC_0 hd hg ht]
    refine Ldd.store hd.1 ?_
    unfold treeC at ht
    split at ht
    · cases ht; exact Ldd.refl (by simp)
    · split at ht
      · rename_i s' hs'
        split at ht
        · cases ht; exact loadL_ok d 401 _ _ _ hs'
        · cases ht
      · cases ht
end Go.Proofs.YtnnmpdanfeejbaaGreat.Abs

/- Stores compared: both sides. -/
namespace Go.Proofs.YtnnmpdanfeejbaaGreat.Abs
open Go Go.Proofs
set_option maxRecDepth 10000
set_option linter.unusedVariables false
set_option linter.unusedSimpArgs false
theorem l06SameInts_ok (a b : List Int) (hl : a.length ≤ 2^40) : CallOk Tryz.prog 60 [] [Rw (a.map inC), Rw (b.map inC)] (fun r out => r = Bo (tf (a = b)) ∧ out = []) := by
  refine callOk_z (np := 0) {} mixed Tryz.func60 (by rfl) Tryz.ntmps60 Tryz.results60 (by rfl) (Nat.le_of_ble_eq_true rfl) rfl rfl rfl (vc ?_)
  have hno : ∀ H : Hp, a ≠ b → EndQ 0 H (Bo false) (fun r out => r = Bo (tf (a = b)) ∧ out = []) := fun H e => EndQ.closed (.v _) ⟨by rw [tf_false e], rfl⟩
  refine brB_intro (fun h => hno _ (fun e => by subst e; simp at h)) (fun h1 => ?_)
  have h1 : a.length = b.length := by simp at h1; omega
  refine loopQ_of (fun i => [(0, Rw (a.map inC)), (1, Rw (b.map inC)), (12, In a.length), (13, In (i : Nat))]) (fun i => []) 1 (fun i => a.length - i) (fun i => i ≤ a.length ∧ a.take i = b.take i) 0 ⟨Nat.zero_le _, rfl⟩ [] (by rfl) (vc trivial) (vc trivial) (fun i hi N hN => vc (brB_intro (fun h => ?_) (fun h => ?_)))
  · have h : i < a.length := by simpa using h
    have hx := List.getElem?_eq_getElem h
    have hy := List.getElem?_eq_getElem (show i < b.length by omega)
    refine drawQ_of false (by rfl) (by simp) (vc ?_)
    rw [get_map hx, inC]
    refine vc ?_
    rw [get_map hy, inC]
    refine vc ?_
    refine brB_intro (fun hb => ?_) (fun hb => ?_)
    · refine hno _ (fun e => ?_)
      have : a[i] = b[i] := by subst e; rfl
      rw [this] at hb; simp at hb
    · have hb : a[i] = b[i] := by simpa using hb
      refine hN _ (i + 1) [] ⟨h, take_next hi.2 hx hy hb⟩ (by omega) (by rfl) (vc ?_) (vc trivial)
      rw [w64 _ (by omega)]; simp
  · have h : i = a.length := by simp at h; omega
    have e1: a = b := by have := hi.2; rwa [h, List.take_length, show a.length = b.length by omega, List.take_length] at this
    exact EndQ.closed (.v _) ⟨by rw [tf_true e1], rfl⟩
theorem slEqInt_ok (a b : List Int) (hl : a.length ≤ 2^40) : CallOk Tryz.prog 63 [] [Rw (a.map inC), Rw (b.map inC)] (fun r out => r = Bo (tf (a = b)) ∧ out = []) := by
  refine callOk_z (np := 0) {} mixed Tryz.func63 (by rfl) Tryz.ntmps63 Tryz.results63 (by rfl) (Nat.le_of_ble_eq_true rfl) rfl rfl rfl (vc ?_)
  have hno : ∀ H : Hp, a ≠ b → EndQ 0 H (Bo false) (fun r out => r = Bo (tf (a = b)) ∧ out = []) := fun H e => EndQ.closed (.v _) ⟨by rw [tf_false e], rfl⟩
  refine brB_intro (fun h => hno _ (fun e => by subst e; simp at h)) (fun h1 => ?_)
  have h1 : a.length = b.length := by simp at h1; omega
  refine loopQ_of (fun i => [(0, Rw (a.map inC)), (1, Rw (b.map inC)), (12, In a.length), (13, In (i : Nat))]) (fun i => []) 1 (fun i => a.length - i) (fun i => i ≤ a.length ∧ a.take i = b.take i) 0 ⟨Nat.zero_le _, rfl⟩ [] (by rfl) (vc trivial) (vc trivial) (fun i hi N hN => vc (brB_intro (fun h => ?_) (fun h => ?_)))
  · have h : i < a.length := by simpa using h
    have hx := List.getElem?_eq_getElem h
    have hy := List.getElem?_eq_getElem (show i < b.length by omega)
    refine drawQ_of false (by rfl) (by simp) (vc ?_)
    rw [get_map hx, inC]
    refine vc ?_
    rw [get_map hy, inC]
    refine vc ?_
    refine brB_intro (fun hb => ?_) (fun hb => ?_)
    · refine hno _ (fun e => ?_)
      have : a[i] = b[i] := by subst e; rfl
      rw [this] at hb; simp at hb
    · have hb : a[i] = b[i] := by simpa using hb
      refine hN _ (i + 1) [] ⟨h, take_next hi.2 hx hy hb⟩ (by omega) (by rfl) (vc ?_) (vc trivial)
      rw [w64 _ (by omega)]; simp
  · have h : i = a.length := by simp at h; omega
    have e1: a = b := by have := hi.2; rwa [h, List.take_length, show a.length = b.length by omega, List.take_length] at this
    exact EndQ.closed (.v _) ⟨by rw [tf_true e1], rfl⟩
theorem slEqStr_ok (a b : List ByteArray) (hl : a.length ≤ 2^40) : CallOk Tryz.prog 119 [] [Rw (a.map stC), Rw (b.map stC)] (fun r out => r = Bo (tf (a = b)) ∧ out = []) := by
  refine callOk_z (np := 0) {} mixed Tryz.func119 (by rfl) Tryz.ntmps119 Tryz.results119 (by rfl) (Nat.le_of_ble_eq_true rfl) rfl rfl rfl (vc ?_)
  have hno : ∀ H : Hp, a ≠ b → EndQ 0 H (Bo false) (fun r out => r = Bo (tf (a = b)) ∧ out = []) := fun H e => EndQ.closed (.v _) ⟨by rw [tf_false e], rfl⟩
  refine brB_intro (fun h => hno _ (fun e => by subst e; simp at h)) (fun h1 => ?_)
  have h1 : a.length = b.length := by simp at h1; omega
  refine loopQ_of (fun i => [(0, Rw (a.map stC)), (1, Rw (b.map stC)), (12, In a.length), (13, In (i : Nat))]) (fun i => []) 1 (fun i => a.length - i) (fun i => i ≤ a.length ∧ a.take i = b.take i) 0 ⟨Nat.zero_le _, rfl⟩ [] (by rfl) (vc trivial) (vc trivial) (fun i hi N hN => vc (brB_intro (fun h => ?_) (fun h => ?_)))
  · have h : i < a.length := by simpa using h
    have hx := List.getElem?_eq_getElem h
    have hy := List.getElem?_eq_getElem (show i < b.length by omega)
    refine drawQ_of false (by rfl) (by simp) (vc ?_)
    rw [get_map hx, stC]
    refine vc ?_
    rw [get_map hy, stC]
    refine vc ?_
    refine brB_intro (fun hb => ?_) (fun hb => ?_)
    · refine hno _ (fun e => ?_)
      have : a[i] = b[i] := by subst e; rfl
      rw [this] at hb; simp at hb
    · have hb : a[i] = b[i] := (ba_ne _ _).1 hb
      refine hN _ (i + 1) [] ⟨h, take_next hi.2 hx hy hb⟩ (by omega) (by rfl) (vc ?_) (vc trivial)
      rw [w64 _ (by omega)]; simp
  · have h : i = a.length := by simp at h; omega
    have e1: a = b := by have := hi.2; rwa [h, List.take_length, show a.length = b.length by omega, List.take_length] at this
    exact EndQ.closed (.v _) ⟨by rw [tf_true e1], rfl⟩
theorem slEqPair_ok (a b : List Pr) (hl : a.length ≤ 2^40) : CallOk Tryz.prog 118 [] [Rw (a.map prC), Rw (b.map prC)] (fun r out => r = Bo (tf (a = b)) ∧ out = []) := by
  refine callOk_z (np := 0) {} mixed Tryz.func118 (by rfl) Tryz.ntmps118 Tryz.results118 (by rfl) (Nat.le_of_ble_eq_true rfl) rfl rfl rfl (vc ?_)
  have hno : ∀ H : Hp, a ≠ b → EndQ 0 H (Bo false) (fun r out => r = Bo (tf (a = b)) ∧ out = []) := fun H e => EndQ.closed (.v _) ⟨by rw [tf_false e], rfl⟩
  refine brB_intro (fun h => hno _ (fun e => by subst e; simp at h)) (fun h1 => ?_)
  have h1 : a.length = b.length := by simp at h1; omega
  refine loopQ_of (fun i => [(0, Rw (a.map prC)), (1, Rw (b.map prC)), (12, In a.length), (13, In (i : Nat))]) (fun i => []) 1 (fun i => a.length - i) (fun i => i ≤ a.length ∧ a.take i = b.take i) 0 ⟨Nat.zero_le _, rfl⟩ [] (by rfl) (vc trivial) (vc trivial) (fun i hi N hN => vc (brB_intro (fun h => ?_) (fun h => ?_)))
  · have h : i < a.length := by simpa using h
    have hx := List.getElem?_eq_getElem h
    have hy := List.getElem?_eq_getElem (show i < b.length by omega)
    refine drawQ_of false (by rfl) (by simp) (vc ?_)
    rw [get_map hx, prC]
    refine vc ?_
    rw [get_map hy, prC]
    refine vc ?_
    refine brB_intro (fun hb => ?_) (fun hb => ?_)
    · refine hno _ (fun e => ?_)
      have : a[i] = b[i] := by subst e; rfl
      rw [this] at hb; simp at hb
    · have hb : a[i] = b[i] := by
        simp only [Bool.not_eq_false', Bool.and_eq_true, beq_iff_eq] at hb
        exact pr_ext (ba_ext hb.1) (ba_ext hb.2)
      refine hN _ (i + 1) [] ⟨h, take_next hi.2 hx hy hb⟩ (by omega) (by rfl) (vc ?_) (vc trivial)
      rw [w64 _ (by omega)]; simp
  · have h : i = a.length := by simp at h; omega
    have e1: a = b := by have := hi.2; rwa [h, List.take_length, show a.length = b.length by omega, List.take_length] at this
    exact EndQ.closed (.v _) ⟨by rw [tf_true e1], rfl⟩
theorem l06SameTree_ok (a b : List Nd) (ha : ∀ x ∈ a, x.le (2^40)) (hb : ∀ x ∈ b, x.le (2^40)) (hl : a.length ≤ 2^40) : CallOk Tryz.prog 59 [] [treeAg a, treeAg b] (fun r out => r = Bo (tf (a = b)) ∧ out = []) := by
  unfold treeAg
  refine callOk_z (np := 0) {} mixed Tryz.func59 (by rfl) Tryz.ntmps59 Tryz.results59 (by rfl) (Nat.le_of_ble_eq_true rfl) rfl rfl rfl (vc ?_)
  have hno : ∀ H : Hp, a ≠ b → EndQ 0 H (Bo false) (fun r out => r = Bo (tf (a = b)) ∧ out = []) := fun H e => EndQ.closed (.v _) ⟨by rw [tf_false e], rfl⟩
  refine brB_intro (fun h => hno _ (fun e => by subst e; simp at h)) (fun h1 => ?_)
  have h1 : a.length = b.length := by simp at h1; omega
  refine loopQ_of (fun i => [(2, .pt 1 0 0), (3, .pt 2 0 0), (15, In a.length), (16, In (i : Nat))]) (fun i => [(1, .box 33 [Rw (a.map (ndC false))]), (2, .box 33 [Rw (b.map (ndC false))])]) 3 (fun i => a.length - i) (fun i => i ≤ a.length ∧ a.take i = b.take i) 0 ⟨Nat.zero_le _, rfl⟩ [(2, 9)] (by rfl) (vc trivial) (vc trivial) (fun i hi N hN => vc (brB_intro (fun h => ?_) (fun h => ?_)))
  · have h : i < a.length := by simpa using h
    have hx := List.getElem?_eq_getElem h
    have hy := List.getElem?_eq_getElem (show i < b.length by omega)
    refine drawQ_of false (by rfl) (by simp) (vc ?_)
    rw [get_map hx, ndC]
    refine vc ?_
    rw [get_map hy, ndC]
    refine vc ?_
    have hs := sameNode_ok a[i] b[i] (ha _ (List.getElem_mem h)) (hb _ (List.getElem_mem _))
    unfold Nd.rd at hs
    refine calld_of [] false [] hs rfl trivial (vc trivial) (by rfl) ⟨_, _, rfl, rfl⟩ ?_
    rintro r out ⟨rfl, rfl⟩
    refine ⟨by simp, by simp, by simp, vc ?_⟩
    refine brB_intro (fun hb => ?_) (fun hb => ?_)
    · refine hno _ (fun e => ?_)
      have : a[i] = b[i] := by subst e; rfl
      rw [this] at hb; simp at hb
    · have hb : a[i] = b[i] := by simpa using hb
      refine hN _ (i + 1) [(2, 2)] ⟨h, take_next hi.2 hx hy hb⟩ (by omega) (by rfl) (vc ?_) (vc trivial)
      rw [w64 _ (by omega)]; simp
  · have h : i = a.length := by simp at h; omega
    have e1: a = b := by have := hi.2; rwa [h, List.take_length, show a.length = b.length by omega, List.take_length] at this
    exact EndQ.closed (.v _) ⟨by rw [tf_true e1], rfl⟩
theorem sameNd_ok (a b : Nd) (ha : a.le (2^40)) : CallOk Tryz.prog 117 [] [a.rd, b.rd] (fun r out => r = Bo (tf (a = b)) ∧ out = []) := by
  obtain ⟨p1, k1, c1⟩ := a
  obtain ⟨p2, k2, c2⟩ := b
  obtain ⟨a1, a2, a3⟩ := ha
  simp only at a1 a2 a3
  unfold Nd.rd
  refine callOk_z (np := 0) {} mixed Tryz.func117 (by rfl) Tryz.ntmps117 Tryz.results117 (by rfl) (Nat.le_of_ble_eq_true rfl) rfl rfl rfl (vc ?_)
  have hno : ∀ H : Hp, (p1 ≠ p2 ∨ k1 ≠ k2 ∨ c1 ≠ c2) → EndQ 0 H (Bo false) (fun r out => r = Bo (tf (Nd.mk p1 k1 c1 = Nd.mk p2 k2 c2)) ∧ out = []) := fun H e => EndQ.closed (.v _) ⟨by
    rw [tf_false]
    intro e2
    cases e2
    simp at e, rfl⟩
  refine callq_of false [] (slEqPair_ok p1 p2 a1) rfl trivial (vc trivial) ?_
  rintro r out ⟨rfl, rfl⟩
  refine vc4 (by simp) (by simp) (by simp) ?_
  by_cases e1 : p1 = p2
  case neg => rw [tf_false e1]; refine vc ?_; exact hno _ (.inl e1)
  rw [tf_true e1]
  refine vc ?_
  refine callq_of false [] (slEqStr_ok k1 k2 a2) rfl trivial (vc trivial) ?_
  rintro r out ⟨rfl, rfl⟩
  refine vc4 (by simp) (by simp) (by simp) ?_
  by_cases e2 : k1 = k2
  case neg => rw [tf_false e2]; refine vc ?_; exact hno _ (.inr (.inl e2))
  rw [tf_true e2]
  refine vc ?_
  refine callq_of false [] (slEqInt_ok c1 c2 a3) rfl trivial (vc trivial) ?_
  rintro r out ⟨rfl, rfl⟩
  refine vc4 (by simp) (by simp) (by simp) ?_
  by_cases e3 : c1 = c2
  case neg => rw [tf_false e3]; exact hno _ (.inr (.inr e3))
  rw [tf_true e3]
  exact EndQ.closed (.v _) ⟨by rw [tf_true (by rw [e1, e2, e3])], rfl⟩
theorem eqFunc_ok (a b : List Nd) (ha : ∀ x ∈ a, x.le (2^40)) (hl : a.length ≤ 2^40) : CallOk Tryz.prog 116 [] [Rw (a.map (ndC false)), Rw (b.map (ndC false)), .c (.v (.func (.func 117) #[] #[]))] (fun r out => r = Bo (tf (a = b)) ∧ out = []) := by
  refine callOk_z (np := 0) {} mixed Tryz.func116 (by rfl) Tryz.ntmps116 Tryz.results116 (by rfl) (Nat.le_of_ble_eq_true rfl) rfl rfl rfl (vc ?_)
  have hno : ∀ H : Hp, a ≠ b → EndQ 0 H (Bo false) (fun r out => r = Bo (tf (a = b)) ∧ out = []) := fun H e => EndQ.closed (.v _) ⟨by rw [tf_false e], rfl⟩
  refine brB_intro (fun h => hno _ (fun e => by subst e; simp at h)) (fun h1 => ?_)
  have h1 : a.length = b.length := by simp at h1; omega
  refine loopQ_of (fun i => [(1, Rw (b.map (ndC false))), (2, .c (.v (.func (.func 117) #[] #[]))), (15, Rw (a.map (ndC false))), (16, In a.length), (17, In (i : Nat))]) (fun i => []) 1 (fun i => a.length - i) (fun i => i ≤ a.length ∧ a.take i = b.take i) 0 ⟨Nat.zero_le _, rfl⟩ [] (by rfl) (vc trivial) (vc trivial) (fun i hi N hN => vc (brB_intro (fun h => ?_) (fun h => ?_)))
  · have h : i < a.length := by simpa using h
    have hx := List.getElem?_eq_getElem h
    have hy := List.getElem?_eq_getElem (show i < b.length by omega)
    rw [get_map hx, ndC]
    refine vc ?_
    rw [get_map hy, ndC]
    refine vc ?_
    have hs := sameNd_ok a[i] b[i] (ha _ (List.getElem_mem h))
    unfold Nd.rd at hs
    refine callq_of false [] hs rfl trivial (vc trivial) ?_
    rintro r out ⟨rfl, rfl⟩
    refine vc4 (by simp) (by simp) (by simp) ?_
    by_cases e : a[i] = b[i]
    · rw [tf_true e]
      refine vc ?_
      refine hN _ (i + 1) [] ⟨h, take_next hi.2 hx hy e⟩ (by omega) (by rfl) (vc ?_) (vc trivial)
      rw [w64 _ (by omega)]; simp
    · rw [tf_false e]
      refine vc ?_
      exact hno _ (fun e2 => e (by subst e2; rfl))
  · have h : i = a.length := by simp at h; omega
    have e1: a = b := by have := hi.2; rwa [h, List.take_length, show a.length = b.length by omega, List.take_length] at this
    exact EndQ.closed (.v _) ⟨by rw [tf_true e1], rfl⟩
theorem sameTree_ok (a b : List Nd) (ha : ∀ x ∈ a, x.le (2^40)) (hl : a.length ≤ 2^40) : CallOk Tryz.prog 62 [] [treeAg a, treeAg b] (fun r out => r = Bo (tf (a = b)) ∧ out = []) := by
  unfold treeAg
  refine callOk_z (np := 0) {} mixed Tryz.func62 (by rfl) Tryz.ntmps62 Tryz.results62 (by rfl) (Nat.le_of_ble_eq_true rfl) rfl rfl rfl (vc ?_)
  refine callq_of false [] (eqFunc_ok a b ha hl) rfl trivial (vc trivial) ?_
  rintro r out ⟨rfl, rfl⟩
  refine vc4 (by simp) (by simp) (by simp) ?_
  exact EndQ.closed (.v _) ⟨rfl, rfl⟩
def storeOk (s : St) : Prop := (openS s.d).2 = 0 ∧ (openS s.d).1.g = s.g ∧ (openS s.d).1.t = s.t ∧ (openS s.d).1.ps = s.ps
theorem fits_le {n : Nd} {M : Nat} (h : n.fits M) : n.le M := ⟨h.1, h.2.1, h.2.2.1⟩
theorem specStoreOk_ok (s : St) (hf : s.fits (2^40)) : CallOk Tryz.prog 18 [] [s.rd] (fun r out => r = Bo (tf (storeOk s)) ∧ out = []) := by
  obtain ⟨e1, e2⟩ := openS_facts s.d
  have co := specOpen_ok s.d hf.1
  have ct := l06SameTree_ok (openS s.d).1.t s.t (fun x hx => fits_le (e1.2.2.1 x hx)) (fun x hx => fits_le (hf.2.2.1 x hx)) e1.2.1
  have ci := l06SameInts_ok (openS s.d).1.ps s.ps e1.2.2.2
  unfold storeOk
  have e3 := e1.2.2.2
  generalize openS s.d = o at co ct ci e1 e2 e3 ⊢
  obtain ⟨S, k⟩ := o
  unfold opR St.ow St.obs at co
  unfold treeAg at ct
  simp only at co ct ci e1 e2 e3 ⊢
  obtain ⟨d, g, t, ps⟩ := s
  unfold Dk.rd at co
  unfold St.rd
  simp only at co ct ci ⊢
  refine callOk_z (np := 0) {} mixed Tryz.func18 (by rfl) Tryz.ntmps18 Tryz.results18 (by rfl) (Nat.le_of_ble_eq_true rfl) rfl rfl rfl (vc ?_)
  refine callq_of false [] co rfl trivial (vc trivial) ?_
  rintro r out ⟨rfl, rfl⟩
  refine vc4 (by simp) (by simp) (by simp) ?_
  have hno : ∀ H : Hp, ¬ (k = 0 ∧ S.g = g ∧ S.t = t ∧ S.ps = ps) → EndQ 0 H (Bo false) (fun r out => r = Bo (tf (k = 0 ∧ S.g = g ∧ S.t = t ∧ S.ps = ps)) ∧ out = []) := fun H e => EndQ.closed (.v _) ⟨by rw [tf_false e], rfl⟩
  refine brB_intro (fun h1 => ?_) (fun h1 => hno _ (fun e => by rw [e.1] at h1; simp at h1))
  have h1 : k = 0 := by simpa using h1
  refine brB_intro (fun h2 => ?_) (fun h2 => hno _ (fun e => by rw [e.2.1] at h2; simp at h2))
  have h2 : S.g = g := by simpa using h2
  refine callq_of true [] ct rfl trivial (vc trivial) ?_
  rintro r out ⟨rfl, rfl⟩
  refine ⟨by simp, by simp, fun _ => ⟨.v _, by simp⟩, vc ?_⟩
  by_cases h3 : S.t = t
  case neg => rw [tf_false h3]; refine vc ?_; exact hno _ (fun e => h3 e.2.2.1)
  rw [tf_true h3]
  refine vc ?_
  refine callq_of true [] ci rfl trivial (vc trivial) ?_
  rintro r out ⟨rfl, rfl⟩
  refine ⟨by simp, by simp, fun _ => ⟨.v _, by simp⟩, vc ?_⟩
  by_cases h4 : S.ps = ps
  case neg => rw [tf_false h4]; exact hno _ (fun e => h4 e.2.2.2)
  rw [tf_true h4]
  exact EndQ.closed (.v _) ⟨by rw [tf_true ⟨h1, h2, h3, h4⟩], rfl⟩
theorem implStoreOk_ok (s : St) (hf : s.fits (2^40)) : CallOk Tryz.prog 20 [] [s.rd] (fun r out => r = Bo (tf (storeOk s)) ∧ out = []) := by
  obtain ⟨e1, e2⟩ := openS_facts s.d
  have co := implOpen_ok s.d hf.1
  have ct := sameTree_ok (openS s.d).1.t s.t (fun x hx => fits_le (e1.2.2.1 x hx)) e1.2.1
  have ci := slEqInt_ok (openS s.d).1.ps s.ps e1.2.2.2
  unfold storeOk
  have e3 := e1.2.2.2
  generalize openS s.d = o at co ct ci e1 e2 e3 ⊢
  obtain ⟨S, k⟩ := o
  unfold opR St.ow St.obs at co
  unfold treeAg at ct
  simp only at co ct ci e1 e2 e3 ⊢
  obtain ⟨d, g, t, ps⟩ := s
  unfold Dk.rd at co
  unfold St.rd
  simp only at co ct ci ⊢
  refine callOk_z (np := 0) {} mixed Tryz.func20 (by rfl) Tryz.ntmps20 Tryz.results20 (by rfl) (Nat.le_of_ble_eq_true rfl) rfl rfl rfl (vc ?_)
  refine callq_of false [] co rfl trivial (vc trivial) ?_
  rintro r out ⟨rfl, rfl⟩
  refine vc4 (by simp) (by simp) (by simp) ?_
  have hno : ∀ H : Hp, ¬ (k = 0 ∧ S.g = g ∧ S.t = t ∧ S.ps = ps) → EndQ 0 H (Bo false) (fun r out => r = Bo (tf (k = 0 ∧ S.g = g ∧ S.t = t ∧ S.ps = ps)) ∧ out = []) := fun H e => EndQ.closed (.v _) ⟨by rw [tf_false e], rfl⟩
  refine brB_intro (fun h1 => ?_) (fun h1 => hno _ (fun e => by rw [e.1] at h1; simp at h1))
  have h1 : k = 0 := by simpa using h1
  refine brB_intro (fun h2 => ?_) (fun h2 => hno _ (fun e => by rw [e.2.1] at h2; simp at h2))
  have h2 : S.g = g := by simpa using h2
  refine callq_of true [] ct rfl trivial (vc trivial) ?_
  rintro r out ⟨rfl, rfl⟩
  refine ⟨by simp, by simp, fun _ => ⟨.v _, by simp⟩, vc ?_⟩
  by_cases h3 : S.t = t
  case neg => rw [tf_false h3]; refine vc ?_; exact hno _ (fun e => h3 e.2.2.1)
  rw [tf_true h3]
  refine vc ?_
  refine callq_of true [] ci rfl trivial (vc trivial) ?_
  rintro r out ⟨rfl, rfl⟩
  refine ⟨by simp, by simp, fun _ => ⟨.v _, by simp⟩, vc ?_⟩
  by_cases h4 : S.ps = ps
  case neg => rw [tf_false h4]; exact hno _ (fun e => h4 e.2.2.2)
  rw [tf_true h4]
  exact EndQ.closed (.v _) ⟨by rw [tf_true ⟨h1, h2, h3, h4⟩], rfl⟩
end Go.Proofs.YtnnmpdanfeejbaaGreat.Abs

/- The law FnExactStoreOk. -/
namespace Go.Proofs.YtnnmpdanfeejbaaGreat.Abs
open Go Go.Proofs
set_option maxRecDepth 10000
set_option linter.unusedVariables false
set_option linter.unusedSimpArgs false
def St.size (s : St) : Nat := s.d.size + szT s.t + s.ps.length
theorem szStore_ok (s : St) (k : Int) (hs : s.fits (2^47)) (hk : -1 ≤ k ∧ k ≤ 2^40) : CallOk Tryz.prog 17 [] [s.rd, In k] (fun r out => (∃ k' : Int, r = In k' ∧ -1 ≤ k' ∧ (0 ≤ k' → k' + s.size = k)) ∧ out = []) := by
  obtain ⟨d, g, t, ps⟩ := s
  obtain ⟨h1, h2, h3, h4⟩ := hs
  unfold St.rd St.size
  simp only at h1 h2 h3 h4 ⊢
  have c1 := szDisk_ok d k h1 hk
  unfold Dk.rd at c1
  have e1 := szB_cases d.size k
  refine callOk_z (np := 0) {} mixed Tryz.func17 (by rfl) Tryz.ntmps17 Tryz.results17 (by rfl) (Nat.le_of_ble_eq_true rfl) rfl rfl rfl (vc ?_)
  refine callq_of false [] c1 rfl trivial (vc trivial) ?_
  rintro r out ⟨rfl, rfl⟩
  refine vc4 (by simp) (by simp) (by simp) ?_
  refine brB_intro (fun h => EndQ.closed (.v _) ⟨⟨_, rfl, by omega, fun h => by omega⟩, rfl⟩) (fun h => ?_)
  have h : ¬ szB d.size k < 0 := by simpa using h
  have c2 := szTree_ok t (szB d.size k) h2 h3 (by omega)
  have e2 := szB_cases (szT t) (szB d.size k)
  refine callq_of false [] c2 rfl trivial (vc trivial) ?_
  rintro r out ⟨rfl, rfl⟩
  refine vc4 (by simp) (by simp) (by simp) ?_
  refine brB_intro (fun h => EndQ.closed (.v _) ⟨⟨_, rfl, by omega, fun h => by omega⟩, rfl⟩) (fun h' => ?_)
  have h' : ¬ szB (szT t) (szB d.size k) < 0 := by simpa using h'
  have c3 := szIntS_ok ps (szB (szT t) (szB d.size k)) h4 (by omega)
  have e3 := szB_cases ps.length (szB (szT t) (szB d.size k))
  refine callq_of false [] c3 rfl trivial (vc trivial) ?_
  rintro r out ⟨rfl, rfl⟩
  refine vc4 (by simp) (by simp) (by simp) ?_
  refine brB_intro (fun h => EndQ.closed (.v _) ⟨⟨_, rfl, by omega, fun h => by omega⟩, rfl⟩) (fun h'' => ?_)
  have h'' : ¬ szB ps.length (szB (szT t) (szB d.size k)) < 0 := by simpa using h''
  exact EndQ.closed (.v _) ⟨⟨_, rfl, by omega, fun _ => by omega⟩, rfl⟩
theorem St.fits_of {s : St} (h : s.size ≤ 2^40) : s.fits (2^40) := by
  unfold St.size at h
  have ht : szT s.t ≤ 2^40 := by omega
  unfold szT at ht
  refine ⟨Dk.fits_of (by omega), by omega, fun n hn => Nd.fits_of ?_, by omega⟩
  have := sumL_mem szN hn
  omega
theorem toStore_ok (s : St) (hs : s.fits (2^40)) : CallOk Tryz.prog 19 [] [s.rd] (fun r out => r = s.ow ∧ out = s.obs.map some) := by
  obtain ⟨d, g, t, ps⟩ := s
  obtain ⟨h1, h2, h3, h4⟩ := hs
  unfold St.rd St.ow St.obs
  simp only at h1 h2 h3 h4 ⊢
  have c1 := toDisk_ok d h1
  unfold Dk.rd Dk.ow Dk.obs at c1
  refine callOk_z (np := 0) {} mixed Tryz.func19 (by rfl) Tryz.ntmps19 Tryz.results19 (by rfl) (Nat.le_of_ble_eq_true rfl) rfl rfl rfl (vc ?_)
  refine callq_of false [] c1 rfl trivial (vc trivial) ?_
  rintro r out ⟨rfl, rfl⟩
  refine vc4 (by simp) (by simp) (by simp) ?_
  refine callq_of false [] (toTree_ok t h2 h3) rfl trivial (vc trivial) ?_
  rintro r out ⟨rfl, rfl⟩
  refine vc4 (by simp) (by simp) (by simp) ?_
  refine callq_of false [] (toIntS_ok ps h4 (fun _ _ => trivial)) rfl trivial (vc trivial) ?_
  rintro r out ⟨rfl, rfl⟩
  refine vc4 (by simp) (by simp) (by simp) ?_
  exact endQ_of [(1, 41), (2, 42), (3, 113), (4, 153)] (.ag [.sl 1 d.sh.length, .sl 2 d.wr.length, In g, .sl 3 t.length, .sl 4 ps.length]) [some (.rw 135 1 (d.sh.map (shC true))), some (.rw 113 2 (d.wr.map (wrC true))), some (.rw 111 3 (t.map (ndC true))), some (.rw 3 1 (ps.map inC))] (by rfl) (vc trivial) (vc trivial) ⟨rfl, rfl⟩
end Go.Proofs.YtnnmpdanfeejbaaGreat.Abs

/- A text in quotes: the program's side; that quotes can be read back. -/
namespace Go.Proofs.YtnnmpdanfeejbaaGreat.Abs
open Go Go.Proofs
set_option maxRecDepth 10000
set_option linter.unusedVariables false
set_option linter.unusedSimpArgs false
def hxL : List UInt8 := [48, 49, 50, 51, 52, 53, 54, 55, 56, 57, 65, 66, 67, 68, 69, 70]
def hxB (n : Nat) : UInt8 := hxL.getD n 0
def escB (b : UInt8) : List UInt8 := if (33 ≤ b.toNat ∧ b.toNat ≤ 126) ∧ b ≠ 34 ∧ b ≠ 37 then [b] else [37, hxB (b.toNat / 16), hxB (b.toNat % 16)]
def quoteL (l : List UInt8) : List UInt8 := 34 :: (l.flatMap escB ++ [34])
def quoteB (b : ByteArray) : ByteArray := if b.size ≤ 4096 then strB (quoteL b.data.toList) else ⟨#[]⟩
theorem u8_shr4 (b : UInt8) (ky : IntKind) : pureV (Op.shift .shr .u8 ((b.toNat : Nat) : Int) ky 4) = some (.int .u8 ((b.toNat / 16 : Nat) : Int)) := by
  have h : (((b.toNat : Nat) : Int)).fdiv (2 ^ (min (4 : Int).toNat IntKind.u8.bits)) = ((b.toNat / 16 : Nat) : Int) := by
    rw [show min (4 : Int).toNat IntKind.u8.bits = 4 from rfl]
    rw [Int.fdiv_eq_ediv_of_nonneg _ (by decide)]
    rfl
  unfold Op.shift
  rw [if_neg (by decide)]
  simp only [h]
  rfl
theorem u8_and15 (b : UInt8) : pureV (Op.intBits .and .u8 ((b.toNat : Nat) : Int) 15) = some (.int .u8 ((b.toNat % 16 : Nat) : Int)) := by
  have hb := b.toNat_lt
  have h : (BitVec.ofInt IntKind.u8.bits ((b.toNat : Nat) : Int) &&& BitVec.ofInt IntKind.u8.bits 15).toNat = b.toNat % 16 := by
    rw [BitVec.toNat_and]
    have e1 : (BitVec.ofInt IntKind.u8.bits ((b.toNat : Nat) : Int)).toNat = b.toNat := by
      rw [BitVec.ofInt_natCast, BitVec.toNat_ofNat]
      exact Nat.mod_eq_of_lt hb
    have e2 : (BitVec.ofInt IntKind.u8.bits 15).toNat = 15 := rfl
    rw [e1, e2]
    exact Nat.and_two_pow_sub_one_eq_mod b.toNat 4
  unfold Op.intBits
  simp only [h]
  have hw : IntKind.u8.wrap ((b.toNat % 16 : Nat) : Int) = ((b.toNat % 16 : Nat) : Int) := by
    have : b.toNat % 16 < 16 := Nat.mod_lt _ (by decide)
    generalize b.toNat % 16 = n at *
    show ((n : Int) % 256 : Int) = n
    omega
  rw [hw]
  rfl
theorem quote_ok (b : ByteArray) : CallOk Tryz.prog 201 [] [.c (.v (.string b))] (fun r out => r = .c (.v (.string (quoteB b))) ∧ out = []) := by
  refine callOk_z (np := 0) {} mixed Tryz.func201 (by rfl) Tryz.ntmps201 Tryz.results201 (by rfl) (Nat.le_of_ble_eq_true rfl) rfl rfl rfl (vc ?_)
  refine brB_intro (fun h => ?_) (fun h => ?_)
  · have h : ¬ b.size ≤ 4096 := by simp at h; omega
    refine EndQ.closed (.v _) ⟨?_, rfl⟩
    unfold quoteB; rw [if_neg h]
  have h : b.size ≤ 4096 := by simp at h; omega
  unfold quoteB; rw [if_pos h]
  have hl : b.data.toList.length = b.size := by rw [Array.length_toList]; rfl
  generalize hL : b.data.toList = L at hl ⊢
  have hesc : ∀ l : List UInt8, (l.flatMap escB).length ≤ 3 * l.length := fun l => by
    induction l with
    | nil => simp
    | cons x r ih =>
      have : (escB x).length ≤ 3 := by unfold escB; split <;> simp
      simp only [List.flatMap_cons, List.length_append, List.length_cons]
      omega
  refine loopQ_of (fun i => [(0, .c (.v (.string b))), (3, .sl 1 (34 :: (L.take i).flatMap escB).length), (4, In (i : Nat))]) (fun i => [(1, .rw 5 1 (eB (34 :: (L.take i).flatMap escB)))]) 2 (fun i => L.length - i) (fun i => i ≤ L.length) 0 (Nat.zero_le _) [(1, 33)] (by rfl) (by refine vc ?_; rfl) (by refine vc ?_; rfl) (fun i hi N hN => vc (brB_intro (fun h2 => ?_) (fun h2 => ?_)))
  · have h2 : i < L.length := by simp at h2; omega
    have hx := List.getElem?_eq_getElem h2
    have hil := hesc (L.take i)
    rw [List.length_take] at hil
    have htk : (L.take (i + 1)).flatMap escB = (L.take i).flatMap escB ++ escB L[i] := by
      rw [List.take_add_one, hx, List.flatMap_append]; simp
    have hb := (L[i]).toNat_lt
    rw [hL, hx]
    refine vc ?_
    rw [w64 _ (by omega)]
    refine callq_of false [] (within_ok (L[i].toNat : Int) 33 126) rfl trivial (vc trivial) ?_
    rintro r out ⟨rfl, rfl⟩
    refine vc4 (by simp) (by simp) (by simp) ?_
    have hw : IntKind.i64.wrap ((i : Int) + 1) = ((i + 1 : Nat) : Int) := by rw [w64 _ (by omega)]; simp
    refine brB_intro (fun h3 => brB_intro (fun h4 => brB_intro (fun h5 => ?_) (fun h5 => ?_)) (fun h4 => ?_)) (fun h3 => ?_)
    · have e1 : escB L[i] = [L[i]] := by
        unfold escB
        rw [if_pos ⟨by simp at h3; omega, fun e => by rw [e] at h4; simp at h4, fun e => by rw [e] at h5; simp at h5⟩]
      refine ⟨⟨by unfold maxLen; omega, by omega⟩, ?_⟩
      rw [e1] at htk
      refine hN _ (i + 1) [(1, 178)] h2 (by omega) (by rfl) (vc ?_) (vc ?_)
      · exact ⟨by rw [htk]; simp, hw⟩
      · rw [htk]; simp [eB]
    all_goals
      have hne : ¬ ((33 ≤ (L[i]).toNat ∧ (L[i]).toNat ≤ 126) ∧ L[i] ≠ 34 ∧ L[i] ≠ 37) := by
        rintro ⟨⟨a, a'⟩, c, d⟩
        have c : (L[i]).toNat ≠ 34 := fun e => c (UInt8.toNat_inj.1 e)
        have d : (L[i]).toNat ≠ 37 := fun e => d (UInt8.toNat_inj.1 e)
        first
          | (simp at h5; omega)
          | (simp at h4; omega)
          | (simp at h3; omega)
      have e1 : escB L[i] = [37, hxB ((L[i]).toNat / 16), hxB ((L[i]).toNat % 16)] := by
        unfold escB; rw [if_neg hne]
      rw [e1] at htk
      have g1 : ([48, 49, 50, 51, 52, 53, 54, 55, 56, 57, 65, 66, 67, 68, 69, 70] : List UInt8)[(L[i]).toNat / 16]? = some (hxB ((L[i]).toNat / 16)) := by
        have : (L[i]).toNat / 16 < hxL.length := by show _ < 16; omega
        rw [show ([48, 49, 50, 51, 52, 53, 54, 55, 56, 57, 65, 66, 67, 68, 69, 70] : List UInt8) = hxL from rfl]
        unfold hxB
        rw [List.getD_eq_getElem?_getD, List.getElem?_eq_getElem this]; rfl
      have g2 : ([48, 49, 50, 51, 52, 53, 54, 55, 56, 57, 65, 66, 67, 68, 69, 70] : List UInt8)[(L[i]).toNat % 16]? = some (hxB ((L[i]).toNat % 16)) := by
        have : (L[i]).toNat % 16 < hxL.length := by show _ < 16; omega
        rw [show ([48, 49, 50, 51, 52, 53, 54, 55, 56, 57, 65, 66, 67, 68, 69, 70] : List UInt8) = hxL from rfl]
        unfold hxB
        rw [List.getD_eq_getElem?_getD, List.getElem?_eq_getElem this]; rfl
      refine drawQ_of false (by rfl) (by simp) (vc ?_)
      rw [u8_shr4, Option.bind_some]
      refine vc ?_
      rw [g1, Option.bind_some]
      refine vc ?_
      rw [u8_and15, Option.bind_some]
      refine vc ?_
      rw [g2, Option.bind_some]
      refine vc ?_
      refine ⟨⟨by unfold maxLen; omega, by omega⟩, ?_⟩
      repeat refine ⟨rfl, ?_⟩
      refine hN _ (i + 1) [(1, 218)] h2 (by omega) (by rfl) (vc ?_) (vc ?_)
      · exact ⟨by rw [htk]; simp, hw⟩
      · rw [htk]; simp [eB]
  · have h2 : i = L.length := by simp at h2; omega
    subst h2
    rw [List.take_length]
    have hil := hesc L
    refine ⟨⟨by unfold maxLen; omega, by omega⟩, ?_⟩
    have e : eB (34 :: L.flatMap escB) ++ [[CV.v (.int .u8 34)]] = eB (quoteL L) := by
      unfold quoteL
      rw [show (34 : UInt8) :: (L.flatMap escB ++ [34]) = (34 :: L.flatMap escB) ++ [34] from rfl, eB, eB, List.map_append]
      rfl
    have el : (L.flatMap escB).length + 1 + 1 = (quoteL L).length := by simp [quoteL]
    rw [e, el, eB_length, if_pos (Nat.le_refl _), eB_takeAll, Option.bind_some, bytesOf_eB, Option.bind_some]
    refine vc ?_
    exact EndQ.closed (.v _) ⟨rfl, rfl⟩
end Go.Proofs.YtnnmpdanfeejbaaGreat.Abs

/- Signs of subs, pure: a sign tells its sub; the subs of a tree by their places. -/
namespace Go.Proofs.YtnnmpdanfeejbaaGreat.Abs
open Go Go.Proofs
set_option maxRecDepth 10000
set_option linter.unusedVariables false
set_option linter.unusedSimpArgs false
theorem hxB_inj (a b : Nat) (ha : a < 16) (hb : b < 16) (h : hxB a = hxB b) : a = b := by
  have : ∀ a : Fin 16, ∀ b : Fin 16, hxB a.val = hxB b.val → a = b := by decide
  exact congrArg Fin.val (this ⟨a, ha⟩ ⟨b, hb⟩ h)
theorem escB_dec (b c : UInt8) (r r' : List UInt8) (h : escB b ++ r = escB c ++ r') : b = c ∧ r = r' := by
  have hb := b.toNat_lt
  have hc := c.toNat_lt
  unfold escB at h
  split at h <;> split at h
  · simpa using h
  · rename_i h1 h2
    simp only [List.cons_append, List.nil_append, List.cons.injEq] at h
    exact absurd h.1 h1.2.2
  · rename_i h1 h2
    simp only [List.cons_append, List.nil_append, List.cons.injEq] at h
    exact absurd h.1.symm h2.2.2
  · simp only [List.cons_append, List.nil_append, List.cons.injEq, true_and] at h
    have e1 := hxB_inj _ _ (by omega) (by omega) h.1
    have e2 := hxB_inj _ _ (by omega) (by omega) h.2.1
    exact ⟨UInt8.toNat_inj.1 (by omega), h.2.2⟩
theorem escB_ne (b : UInt8) (r r' : List UInt8) : escB b ++ r ≠ 34 :: r' := by
  unfold escB
  split
  · rename_i h1
    intro e
    simp only [List.cons_append, List.nil_append, List.cons.injEq] at e
    exact h1.2.1 e.1
  · intro e
    simp only [List.cons_append, List.nil_append, List.cons.injEq] at e
    exact absurd e.1 (by decide)
theorem escL_dec : ∀ (l m : List UInt8) (r r' : List UInt8), l.flatMap escB ++ 34 :: r = m.flatMap escB ++ 34 :: r' → l = m ∧ r = r'
  | [], [], r, r', h => by simpa using h
  | [], y :: m, r, r', h => by
    rw [List.flatMap_cons, List.append_assoc] at h
    exact absurd h.symm (escB_ne y _ _)
  | x :: l, [], r, r', h => by
    rw [List.flatMap_cons, List.append_assoc] at h
    exact absurd h (escB_ne x _ _)
  | x :: l, y :: m, r, r', h => by
    rw [List.flatMap_cons, List.flatMap_cons, List.append_assoc, List.append_assoc] at h
    obtain ⟨e1, e2⟩ := escB_dec _ _ _ _ h
    obtain ⟨e3, e4⟩ := escL_dec l m r r' e2
    exact ⟨by rw [e1, e3], e4⟩
theorem quoteL_dec (l m : List UInt8) (r r' : List UInt8) (h : quoteL l ++ r = quoteL m ++ r') : l = m ∧ r = r' := by
  unfold quoteL at h
  simp only [List.cons_append, List.append_assoc, List.nil_append, List.cons.injEq, true_and] at h
  exact escL_dec l m r r' h
theorem quoteL_len (l : List UInt8) : (quoteL l).length ≤ 3 * l.length + 2 := by
  have : (l.flatMap escB).length ≤ 3 * l.length := by
    induction l with
    | nil => simp
    | cons x r ih =>
      have : (escB x).length ≤ 3 := by unfold escB; split <;> simp
      simp only [List.flatMap_cons, List.length_append, List.length_cons]
      omega
  unfold quoteL
  rw [List.length_cons, List.length_append]
  show _ + 1 + 1 ≤ _
  omega
/-- A pair's text in a sign. -/
def prL (p : Pr) : List UInt8 := quoteL p.k.data.toList ++ quoteL p.v.data.toList
theorem prL_head (p : Pr) : ∃ r, prL p = 34 :: r := ⟨_, rfl⟩
theorem ba_dext {a b : ByteArray} (h : a.data.toList = b.data.toList) : a = b := by
  rw [← strB_data a, ← strB_data b, h]
theorem prL_dec (p q : Pr) (r r' : List UInt8) (h : prL p ++ r = prL q ++ r') : p = q ∧ r = r' := by
  unfold prL at h
  rw [List.append_assoc, List.append_assoc] at h
  obtain ⟨e1, h⟩ := quoteL_dec _ _ _ _ h
  obtain ⟨e2, h⟩ := quoteL_dec _ _ _ _ h
  refine ⟨?_, h⟩
  obtain ⟨k, v⟩ := p
  obtain ⟨k', v'⟩ := q
  simp only at e1 e2
  rw [ba_dext e1, ba_dext e2]
theorem prs_dec : ∀ (l m : List Pr) (r r' : List UInt8) (a a' : UInt8), a ≠ 34 → a' ≠ 34 → l.flatMap prL ++ a :: r = m.flatMap prL ++ a' :: r' → l = m ∧ a = a' ∧ r = r'
  | [], [], r, r', a, a', h1, h2, h => by simpa using h
  | [], y :: m, r, r', a, a', h1, h2, h => by
    obtain ⟨z, hz⟩ := prL_head y
    rw [List.flatMap_cons, hz] at h
    simp at h
    exact absurd h.1 h1
  | x :: l, [], r, r', a, a', h1, h2, h => by
    obtain ⟨z, hz⟩ := prL_head x
    rw [List.flatMap_cons, hz] at h
    simp at h
    exact absurd h.1.symm h2
  | x :: l, y :: m, r, r', a, a', h1, h2, h => by
    rw [List.flatMap_cons, List.flatMap_cons, List.append_assoc, List.append_assoc] at h
    obtain ⟨e1, e2⟩ := prL_dec _ _ _ _ h
    obtain ⟨e3, e4⟩ := prs_dec l m r r' a a' h1 h2 e2
    exact ⟨by rw [e1, e3], e4⟩
mutual
/-- A sub's sign. -/
def sgn : Sub → List UInt8
  | .mk _ ps ks => 40 :: (ps.flatMap prL ++ (sgnL ks ++ [41]))
def sgnL : List Sub → List UInt8
  | [] => []
  | x :: r => sgn x ++ sgnL r
end
mutual
/-- A sub as the trees have them: a leaf with pairs alone, else kids alone. -/
def Sub.wg : Sub → Prop
  | .mk l ps ks => ((l = true ∧ ks = []) ∨ (l = false ∧ ps = [] ∧ ks ≠ [])) ∧ Sub.wgL ks
def Sub.wgL : List Sub → Prop
  | [] => True
  | x :: r => x.wg ∧ Sub.wgL r
end
mutual
theorem Sub.wg_of : ∀ (s : Sub) (root : Bool), s.wf → s.full root = true → s.wg
  | .mk l ps ks, root, hw, hf => by
    rw [Sub.wf] at hw
    rw [Sub.full] at hf
    rw [Sub.wg]
    cases l with
    | true =>
      refine ⟨.inl ⟨rfl, hw.1 rfl⟩, ?_⟩
      rw [hw.1 rfl]; trivial
    | false =>
      rw [if_neg (by simp)] at hf
      simp only [Bool.and_eq_true, decide_eq_true_eq] at hf
      refine ⟨.inr ⟨rfl, hf.1.2.2, ?_⟩, Sub.wgL_of ks hw.2 hf.2⟩
      intro e; rw [e] at hf; simp at hf
theorem Sub.wgL_of : ∀ (l : List Sub), Sub.wfL l → Sub.fullL l = true → Sub.wgL l
  | [], hw, hf => trivial
  | x :: r, hw, hf => by
    rw [Sub.fullL, Bool.and_eq_true] at hf
    exact ⟨Sub.wg_of x false hw.1 hf.1, Sub.wgL_of r hw.2 hf.2⟩
end
theorem sgn_head (s : Sub) : ∃ r, sgn s = 40 :: r := by cases s; exact ⟨_, rfl⟩
mutual
theorem sgn_dec : ∀ (s s' : Sub) (r r' : List UInt8), s.wg → s'.wg → sgn s ++ r = sgn s' ++ r' → s = s' ∧ r = r'
  | .mk l ps ks, .mk l' ps' ks', r, r', hw, hw', h => by
    rw [Sub.wg] at hw hw'
    rw [sgn, sgn] at h
    simp only [List.cons_append, List.append_assoc, List.cons.injEq, true_and, List.nil_append] at h
    have hz : ∀ (ks : List Sub) (r : List UInt8), ∃ a z, sgnL ks ++ 41 :: r = a :: z ∧ a ≠ 34 := by
      intro ks r
      cases ks with
      | nil => exact ⟨41, r, by simp [sgnL], by decide⟩
      | cons x y =>
        obtain ⟨z, hz⟩ := sgn_head x
        exact ⟨40, _, by rw [sgnL, hz]; rfl, by decide⟩
    obtain ⟨a, z, e1, n1⟩ := hz ks r
    obtain ⟨a', z', e2, n2⟩ := hz ks' r'
    rw [e1, e2] at h
    obtain ⟨h1, h2, h3⟩ := prs_dec _ _ _ _ _ _ n1 n2 h
    have h : sgnL ks ++ 41 :: r = sgnL ks' ++ 41 :: r' := by rw [e1, e2, h2, h3]
    obtain ⟨h4, h5⟩ := sgnL_dec ks ks' r r' hw.2 hw'.2 h
    subst h1 h4
    refine ⟨?_, h5⟩
    have : l = l' := by
      rcases hw.1 with ⟨a1, a2⟩ | ⟨a1, a2, a3⟩ <;> rcases hw'.1 with ⟨b1, b2⟩ | ⟨b1, b2, b3⟩
      · rw [a1, b1]
      · exact absurd a2 b3
      · exact absurd b2 a3
      · rw [a1, b1]
    rw [this]
theorem sgnL_dec : ∀ (l l' : List Sub) (r r' : List UInt8), Sub.wgL l → Sub.wgL l' → sgnL l ++ 41 :: r = sgnL l' ++ 41 :: r' → l = l' ∧ r = r'
  | [], [], r, r', hw, hw', h => by simpa [sgnL] using h
  | [], y :: m, r, r', hw, hw', h => by
    obtain ⟨z, hz⟩ := sgn_head y
    rw [sgnL, sgnL, hz] at h
    simp at h
  | x :: l, [], r, r', hw, hw', h => by
    obtain ⟨z, hz⟩ := sgn_head x
    rw [sgnL, sgnL, hz] at h
    simp at h
  | x :: l, y :: m, r, r', hw, hw', h => by
    rw [sgnL, sgnL, List.append_assoc, List.append_assoc] at h
    obtain ⟨h1, h2⟩ := sgn_dec x y _ _ hw.1 hw'.1 h
    obtain ⟨h3, h4⟩ := sgnL_dec l m r r' hw.2 hw'.2 h2
    exact ⟨by rw [h1, h3], h4⟩
end
theorem sgn_inj {s s' : Sub} (hw : s.wg) (hw' : s'.wg) (h : sgn s = sgn s') : s = s' :=
  (sgn_dec s s' [] [] hw hw' (by simpa using h)).1
mutual
theorem sgn_len : ∀ (s : Sub), (sgn s).length = (s.pairs.flatMap prL).length + 2 * s.sz
  | .mk l ps ks => by
    rw [sgn, Sub.pairs, Sub.sz, List.flatMap_append]
    have := sgnL_len ks
    simp only [List.length_cons, List.length_append, List.length_nil]
    omega
theorem sgnL_len : ∀ (l : List Sub), (sgnL l).length = ((Sub.pairsL l).flatMap prL).length + 2 * Sub.szL l
  | [] => rfl
  | x :: r => by
    rw [sgnL, Sub.pairsL, Sub.szL, List.flatMap_append]
    have h1 := sgn_len x
    have h2 := sgnL_len r
    simp only [List.length_append]
    omega
end
theorem sgnL_app (a b : List Sub) : sgnL (a ++ b) = sgnL a ++ sgnL b := by
  induction a with
  | nil => rfl
  | cons x r ih => rw [List.cons_append, sgnL, sgnL, ih, List.append_assoc]
mutual
/-- The subs of a tree, in the order in which they are laid. -/
def Sub.subs : Sub → List Sub
  | .mk l ps ks => .mk l ps ks :: Sub.subsL ks
def Sub.subsL : List Sub → List Sub
  | [] => []
  | x :: r => x.subs ++ Sub.subsL r
end
theorem Sub.subs_eq (s : Sub) : s.subs = s :: Sub.subsL s.ks := by cases s; rw [Sub.subs]; rfl
mutual
theorem Sub.subs_len : ∀ (s : Sub), s.subs.length = s.sz
  | .mk l ps ks => by rw [Sub.subs, Sub.sz, List.length_cons, Sub.subsL_len ks]; omega
theorem Sub.subsL_len : ∀ (l : List Sub), (Sub.subsL l).length = Sub.szL l
  | [] => rfl
  | x :: r => by rw [Sub.subsL, Sub.szL, List.length_append, Sub.subs_len x, Sub.subsL_len r]
end
mutual
/-- Where a sub lies among the subs, its nodes lie among the nodes; and its own subs lie there. -/
theorem Sub.subs_at : ∀ (s : Sub) (t : List Nd) (S : List Sub) (a : Nat), s.wg → At t a (s.lay a) → (∀ i x, s.subs[i]? = some x → S[a + i]? = some x) → ∀ i x, s.subs[i]? = some x → At t (a + i) (x.lay (a + i)) ∧ x.wg ∧ (∀ j y, x.subs[j]? = some y → S[a + i + j]? = some y)
  | .mk l ps ks, t, S, a, hw, h, hS, i, x, hx => by
    cases i with
    | zero =>
      rw [Sub.subs] at hx
      simp only [List.getElem?_cons_zero, Option.some.injEq] at hx
      subst hx
      exact ⟨h, hw, fun j y hy => hS j y hy⟩
    | succ i =>
      rw [Sub.subs] at hx hS
      simp only [List.getElem?_cons_succ] at hx
      rw [Sub.wg] at hw
      have hl : At t (a + 1) (Sub.layL (a + 1) ks) := by
        rw [Sub.lay] at h
        split at h
        · rename_i e
          rcases hw.1 with ⟨_, e2⟩ | ⟨e2, _⟩
          · rw [e2]; trivial
          · rw [e2] at e; cases e
        · exact h.2
      have := Sub.subsL_at ks t S (a + 1) hw.2 hl (fun i x hi => by
        have := hS (i + 1) x (by rw [List.getElem?_cons_succ]; exact hi)
        rw [← this]; congr 1; omega) i x hx
      rw [show a + 1 + i = a + (i + 1) by omega] at this
      exact this
theorem Sub.subsL_at : ∀ (l : List Sub) (t : List Nd) (S : List Sub) (a : Nat), Sub.wgL l → At t a (Sub.layL a l) → (∀ i x, (Sub.subsL l)[i]? = some x → S[a + i]? = some x) → ∀ i x, (Sub.subsL l)[i]? = some x → At t (a + i) (x.lay (a + i)) ∧ x.wg ∧ (∀ j y, x.subs[j]? = some y → S[a + i + j]? = some y)
  | [], t, S, a, hw, h, hS, i, x, hx => by simp [Sub.subsL] at hx
  | y :: r, t, S, a, hw, h, hS, i, x, hx => by
    rw [Sub.layL, At_app] at h
    rw [Sub.subsL] at hx hS
    have hwf : (y.lay a).length = y.subs.length := by
      rw [Sub.subs_len]; exact Sub.sz_lay_wg y a hw.1
    by_cases hi : i < y.subs.length
    · rw [List.getElem?_append_left hi] at hx
      exact Sub.subs_at y t S a hw.1 h.1 (fun j z hj => hS j z (by rw [List.getElem?_append_left (List.getElem?_eq_some_iff.1 hj).1]; exact hj)) i x hx
    · rw [List.getElem?_append_right (by omega)] at hx
      have := Sub.subsL_at r t S (a + (y.lay a).length) hw.2 h.2 (fun j z hj => by
        have := hS (y.subs.length + j) z (by rw [List.getElem?_append_right (by omega)]; rw [← hj]; congr 1; omega)
        rw [← this]; congr 1; omega) (i - y.subs.length) x hx
      rw [show a + (y.lay a).length + (i - y.subs.length) = a + i by omega] at this
      exact this
theorem Sub.sz_lay_wg : ∀ (s : Sub) (a : Nat), s.wg → (s.lay a).length = s.sz
  | .mk l ps ks, a, h => by
    rw [Sub.lay, Sub.sz]
    rw [Sub.wg] at h
    have := Sub.szL_lay_wg ks (a + 1) h.2
    split
    · rename_i e
      rcases h.1 with ⟨_, e2⟩ | ⟨e2, _⟩
      · rw [e2, Sub.szL]; rfl
      · rw [e2] at e; cases e
    · rw [List.length_cons]; omega
theorem Sub.szL_lay_wg : ∀ (l : List Sub) (a : Nat), Sub.wgL l → (Sub.layL a l).length = Sub.szL l
  | [], a, h => by rw [Sub.layL, Sub.szL]; rfl
  | x :: r, a, h => by
    have h1 := Sub.sz_lay_wg x a h.1
    have h2 := Sub.szL_lay_wg r (a + (x.lay a).length) h.2
    rw [Sub.layL, Sub.szL, List.length_append]; omega
end
/-- Where a kid lies. -/
theorem Sub.plcs_at : ∀ (l : List Sub) (a j : Nat) (y : Sub), Sub.wgL l → l[j]? = some y → ∃ p : Nat, (Sub.plcs a l)[j]? = some ((a + p : Nat) : Int) ∧ (Sub.subsL l)[p]? = some y ∧ p + y.sz ≤ Sub.szL l
  | [], a, j, y, hw, h => by simp at h
  | x :: r, a, j, y, hw, h => by
    have hx := Sub.sz_lay_wg x a hw.1
    have hp := x.sz_pos
    cases j with
    | zero =>
      simp only [List.getElem?_cons_zero, Option.some.injEq] at h
      subst h
      refine ⟨0, by simp [Sub.plcs], ?_, ?_⟩
      · rw [Sub.subsL, List.getElem?_append_left (by rw [Sub.subs_len]; omega), Sub.subs_eq]; rfl
      · rw [Sub.szL]; omega
    | succ j =>
      simp only [List.getElem?_cons_succ] at h
      obtain ⟨p, h1, h2, h3⟩ := Sub.plcs_at r (a + (x.lay a).length) j y hw.2 h
      refine ⟨x.sz + p, ?_, ?_, ?_⟩
      · rw [Sub.plcs, List.getElem?_cons_succ, h1, hx]; congr 2; omega
      · rw [Sub.subsL, List.getElem?_append_right (by rw [Sub.subs_len]; omega), Sub.subs_len, ← h2]; congr 1; omega
      · rw [Sub.szL]; omega
mutual
theorem Sub.subs_pairs : ∀ (s z : Sub), z ∈ s.subs → ∃ u v, s.pairs = u ++ z.pairs ++ v
  | .mk l ps ks, z, hz => by
    rw [Sub.subs] at hz
    rcases List.mem_cons.1 hz with rfl | hz
    · exact ⟨[], [], by simp⟩
    · obtain ⟨u, v, h⟩ := Sub.subsL_pairs ks z hz
      exact ⟨ps ++ u, v, by rw [Sub.pairs, h]; simp⟩
theorem Sub.subsL_pairs : ∀ (l : List Sub) (z : Sub), z ∈ Sub.subsL l → ∃ u v, Sub.pairsL l = u ++ z.pairs ++ v
  | [], z, hz => by simp [Sub.subsL] at hz
  | x :: r, z, hz => by
    rw [Sub.subsL] at hz
    rw [Sub.pairsL]
    rcases List.mem_append.1 hz with hz | hz
    · obtain ⟨u, v, h⟩ := Sub.subs_pairs x z hz
      exact ⟨u, v ++ Sub.pairsL r, by rw [h]; simp⟩
    · obtain ⟨u, v, h⟩ := Sub.subsL_pairs r z hz
      exact ⟨x.pairs ++ u, v, by rw [h]; simp⟩
end
mutual
theorem Sub.subs_sz : ∀ (s z : Sub), z ∈ s.subs → z.sz ≤ s.sz
  | .mk l ps ks, z, hz => by
    rw [Sub.subs] at hz
    rcases List.mem_cons.1 hz with rfl | hz
    · exact Nat.le_refl _
    · have := Sub.subsL_sz ks z hz
      rw [Sub.sz]; omega
theorem Sub.subsL_sz : ∀ (l : List Sub) (z : Sub), z ∈ Sub.subsL l → z.sz ≤ Sub.szL l
  | [], z, hz => by simp [Sub.subsL] at hz
  | x :: r, z, hz => by
    rw [Sub.subsL] at hz
    rw [Sub.szL]
    rcases List.mem_append.1 hz with hz | hz
    · have := Sub.subs_sz x z hz; omega
    · have := Sub.subsL_sz r z hz; omega
end
mutual
/-- No sub twice where no pair is twice. -/
theorem Sub.subs_nd : ∀ (s : Sub), s.pairs.Nodup → (∀ z ∈ s.subs, z.pairs ≠ []) → s.subs.Nodup
  | .mk l ps ks, hn, hp => by
    rw [Sub.subs] at hp ⊢
    rw [Sub.pairs, List.nodup_append] at hn
    rw [List.nodup_cons]
    refine ⟨fun h => ?_, Sub.subsL_nd ks hn.2.1 fun z hz => hp z (List.mem_cons_of_mem _ hz)⟩
    have := Sub.subsL_sz ks _ h
    rw [Sub.sz] at this; omega
theorem Sub.subsL_nd : ∀ (l : List Sub), (Sub.pairsL l).Nodup → (∀ z ∈ Sub.subsL l, z.pairs ≠ []) → (Sub.subsL l).Nodup
  | [], hn, hp => by simp [Sub.subsL]
  | x :: r, hn, hp => by
    rw [Sub.subsL] at hp ⊢
    rw [Sub.pairsL, List.nodup_append] at hn
    rw [List.nodup_append]
    refine ⟨Sub.subs_nd x hn.1 fun z hz => hp z (List.mem_append_left _ hz), Sub.subsL_nd r hn.2.1 fun z hz => hp z (List.mem_append_right _ hz), ?_⟩
    intro z hz z' hz' e
    subst e
    obtain ⟨u, v, h1⟩ := Sub.subs_pairs x z hz
    obtain ⟨u', v', h2⟩ := Sub.subsL_pairs r z hz'
    cases hq : z.pairs with
    | nil => exact hp z (List.mem_append_left _ hz) hq
    | cons q qs =>
      have a1 : q ∈ x.pairs := by rw [h1, hq]; simp
      have a2 : q ∈ Sub.pairsL r := by rw [h2, hq]; simp
      exact hn.2.2 q a1 q a2 rfl
end
end Go.Proofs.YtnnmpdanfeejbaaGreat.Abs

/- The signs of a tree: the program's side. -/
namespace Go.Proofs.YtnnmpdanfeejbaaGreat.Abs
open Go Go.Proofs
set_option maxRecDepth 10000
set_option linter.unusedVariables false
set_option linter.unusedSimpArgs false
def sgnB (s : Sub) : ByteArray := strB (sgn s)
/-- The nodes, by the subs that lie there. -/
def TrS (t : List Nd) (S : List Sub) : Prop := t.length ≤ 400 ∧ S.length = t.length ∧ ∀ (i : Nat) (x : Sub), S[i]? = some x → (sgn x).length ≤ 2 ^ 20 ∧ (∀ p ∈ x.ps, p.k.size ≤ 4096 ∧ p.v.size ≤ 4096) ∧ x.ps.length ≤ 4096 ∧ x.ks.length ≤ 4096 ∧ ∃ n : Nd, t[i]? = some n ∧ n.ps = x.ps ∧ n.cs.length = x.ks.length ∧ ∀ (j : Nat) (y : Sub), x.ks[j]? = some y → ∃ p : Nat, n.cs[j]? = some (p : Int) ∧ i < p ∧ S[p]? = some y
theorem quoteB_of {b : ByteArray} (h : b.size ≤ 4096) : quoteB b = strB (quoteL b.data.toList) := by unfold quoteB; rw [if_pos h]
theorem strB_app (a b : List UInt8) : strB a ++ strB b = strB (a ++ b) := by
  apply ByteArray.ext
  rw [ByteArray.data_append]
  apply Array.ext'
  simp [strB]
theorem strB_size (a : List UInt8) : (strB a).size = a.length := by
  show (strB a).data.size = _
  simp [strB]
theorem fm_take {α : Type} (l : List α) (f : α → List UInt8) (j : Nat) : ((l.take j).flatMap f).length ≤ (l.flatMap f).length := by
  conv => rhs; rw [← List.take_append_drop j l, List.flatMap_append, List.length_append]
  omega
theorem fm_next {α : Type} {l : List α} {f : α → List UInt8} {j : Nat} {x : α} (h : l[j]? = some x) : (l.take (j + 1)).flatMap f = (l.take j).flatMap f ++ f x := by
  rw [List.take_add_one, h, List.flatMap_append]; simp
/-- The signs from a place on. -/
def sgRow (S : List Sub) (k : Nat) : List ByteArray := List.replicate k ⟨#[]⟩ ++ (S.drop k).map sgnB
theorem sgRow_len (S : List Sub) (k : Nat) (h : k ≤ S.length) : (sgRow S k).length = S.length := by unfold sgRow; simp; omega
theorem sgRow_set {S : List Sub} {k : Nat} {x : Sub} (h : S[k]? = some x) : (sgRow S (k + 1)).set k (sgnB x) = sgRow S k := by
  unfold sgRow
  obtain ⟨h1, h2⟩ := List.getElem?_eq_some_iff.1 h
  rw [List.drop_eq_getElem_cons h1, h2, List.replicate_succ', List.append_assoc, List.set_append_right _ _ (by simp)]
  simp
theorem signs_ok (t : List Nd) (S : List Sub) (hX : TrS t S) : CallOk Tryz.prog 179 [] [treeAg t] (fun r out => r = .sl 1 S.length ∧ out = [some (.rw 9 1 ((S.map sgnB).map stC))]) := by
  unfold treeAg
  obtain ⟨hT, hlen, hX⟩ := hX
  refine callOk_z (np := 0) {} mixed Tryz.func179 (by rfl) Tryz.ntmps179 Tryz.results179 (by rfl) (Nat.le_of_ble_eq_true rfl) rfl rfl rfl (vc ?_)
  refine ⟨by omega, ?_⟩
  refine loopQ_of (fun k : Nat => [(1, .pt 1 0 0), (3, .sl 2 t.length), (4, In ((k : Int) - 1))]) (fun k => [(1, .box 33 [Rw (t.map (ndC false))]), (2, .rw 9 1 ((sgRow S k).map stC))]) 3 (fun k => k) (fun k => k ≤ t.length) t.length (Nat.le_refl _) [(2, 41)] (by rfl) (vc ?_) (vc ?_) (fun k hk N hN => vc (brB_intro (fun h => ?_) (fun h => ?_)))
  · show IntKind.i64.wrap ((t.length : Int) - 1) = (t.length : Int) - 1
    rw [w64 _ (by omega)]
  · unfold sgRow
    rw [List.drop_of_length_le (by omega)]
    simp [stC]
  · have h : 0 < k := by simp at h; omega
    obtain ⟨k, rfl⟩ : ∃ j, k = j + 1 := ⟨k - 1, by omega⟩
    have ek : ((k + 1 : Nat) : Int) - 1 = (k : Nat) := by omega
    rw [ek]
    have hx := List.getElem?_eq_getElem (show k < S.length by omega)
    generalize S[k]'(by omega) = x at hx
    obtain ⟨hx1, hx2, hx3, hx4, n, hn, hps, hcl, hkd⟩ := hX k x hx
    have hpl : n.ps.length ≤ 4096 := by rw [hps]; exact hx3
    rw [Int.toNat_natCast, get_map hn, ndC]
    refine vc ?_
    have hrk : (sgRow S (k + 1))[k]? = some ⟨#[]⟩ := by
      unfold sgRow
      rw [List.getElem?_append_left (by simp), List.getElem?_replicate, if_pos (by omega)]
    refine loopQ_of (fun j : Nat => [(1, .pt 1 0 0), (3, .sl 2 t.length), (4, In (k : Nat)), (5, .pt 3 0 0), (6, .c (.v (.string (strB (40 :: (n.ps.take j).flatMap prL))))), (29, Rw (n.ps.map prC)), (30, In n.ps.length), (31, In (j : Nat))]) (fun j => [(1, .box 33 [Rw (t.map (ndC false))]), (2, .rw 9 1 ((sgRow S (k + 1)).map stC)), (3, .box 111 [Rw (n.ps.map prC), Rw (n.ks.map stC), Rw (n.cs.map inC)])]) 4 (fun j => n.ps.length - j) (fun j => j ≤ n.ps.length) 0 (Nat.zero_le _) [(3, 59)] (by rfl) (vc ?_) (vc ?_) (fun j hj M hM => vc (brB_intro (fun h => ?_) (fun h => ?_)))
    · rfl
    · trivial
    · have h : j < n.ps.length := by simpa using h
      have hp := List.getElem?_eq_getElem h
      have hp2 := hx2 _ (by rw [← hps]; exact List.getElem_mem h)
      generalize n.ps[j] = p at hp hp2
      rw [get_map hp, prC]
      refine vc ?_
      refine drawQ_of false (by rfl) (by simp) (vc ?_)
      refine calld_of [] false [] (quote_ok p.k) rfl trivial (vc trivial) (by rfl) ⟨_, _, rfl, rfl⟩ ?_
      rintro r out ⟨rfl, rfl⟩
      refine ⟨by simp, by simp, by simp, vc ?_⟩
      have l1 := fm_take n.ps prL j
      have l2 : (n.ps.flatMap prL).length ≤ 2 ^ 20 := by
        have : (x.ps.flatMap prL).length ≤ (sgn x).length := by cases x; rw [sgn]; simp [Sub.ps]; omega
        rw [hps]; omega
      have l3 := quoteL_len p.k.data.toList
      have l4 := quoteL_len p.v.data.toList
      have l5 : p.k.data.toList.length = p.k.size := by rw [Array.length_toList]; rfl
      have l6 : p.v.data.toList.length = p.v.size := by rw [Array.length_toList]; rfl
      rw [quoteB_of hp2.1, strB_app, strB_size, strB_size, if_pos (by rw [List.length_cons]; omega)]
      refine vc ?_
      refine calld_of [] false [] (quote_ok p.v) rfl trivial (vc trivial) (by rfl) ⟨_, _, rfl, rfl⟩ ?_
      rintro r out ⟨rfl, rfl⟩
      refine ⟨by simp, by simp, by simp, vc ?_⟩
      rw [quoteB_of hp2.2, strB_app, strB_size, strB_size, if_pos (by rw [List.length_cons, List.length_append]; omega)]
      refine vc ?_
      refine hM _ (j + 1) [] (by omega) (by omega) (by rfl) (vc ?_) (vc trivial)
      refine ⟨?_, by rw [w64 ((j : Int) + 1) (by omega)]; simp⟩
      rw [fm_next hp]
      simp [prL]
    · have h : j = n.ps.length := by simp at h; omega
      subst h
      rw [List.take_length]
      refine loopQ_of (fun j : Nat => [(1, .pt 1 0 0), (3, .sl 2 t.length), (4, In (k : Nat)), (6, .c (.v (.string (strB (40 :: (x.ps.flatMap prL ++ sgnL (x.ks.take j))))))), (46, Rw (n.cs.map inC)), (47, In n.cs.length), (48, In (j : Nat))]) (fun j => [(1, .box 33 [Rw (t.map (ndC false))]), (2, .rw 9 1 ((sgRow S (k + 1)).map stC))]) 3 (fun j => n.cs.length - j) (fun j => j ≤ n.cs.length) 0 (Nat.zero_le _) [] (by rfl) (vc ?_) (vc ?_) (fun j hj M hM => vc (brB_intro (fun h => ?_) (fun h => ?_)))
      · rw [hps]; simp [sgnL]
      · trivial
      · have h : j < n.cs.length := by simpa using h
        have hy := List.getElem?_eq_getElem (show j < x.ks.length by omega)
        generalize x.ks[j]'(by omega) = y at hy
        obtain ⟨p, hp1, hp2, hp3⟩ := hkd j y hy
        have hpb : p < S.length := (List.getElem?_eq_some_iff.1 hp3).1
        rw [get_map hp1, inC]
        refine vc ?_
        have hrow : (sgRow S (k + 1))[p]? = some (sgnB y) := by
          unfold sgRow
          rw [List.getElem?_append_right (by simp; omega), List.getElem?_map, List.getElem?_drop]
          simp only [List.length_replicate]
          rw [show k + 1 + (p - (k + 1)) = p by omega, hp3]; rfl
        refine ⟨⟨by omega, by rw [sgRow_len _ _ (by omega)]; omega⟩, ?_⟩
        rw [get_map hrow, stC]
        refine vc ?_
        have l1 : (sgnL (x.ks.take (j + 1))).length ≤ (sgnL x.ks).length := by
          conv => rhs; rw [← List.take_append_drop (j + 1) x.ks, sgnL_app, List.length_append]
          omega
        have l2 : (sgn x).length = 2 + (x.ps.flatMap prL).length + (sgnL x.ks).length := by
          cases x; rw [sgn]; simp [Sub.ps, Sub.ks]; omega
        have l3 : sgnL (x.ks.take (j + 1)) = sgnL (x.ks.take j) ++ sgn y := by
          rw [List.take_add_one, hy, sgnL_app]; simp [sgnL]
        rw [l3, List.length_append] at l1
        unfold sgnB
        rw [strB_app, strB_size, strB_size, if_pos (by rw [List.length_cons, List.length_append]; omega)]
        refine vc ?_
        refine hM _ (j + 1) [] (by omega) (by omega) (by rfl) (vc ?_) (vc trivial)
        refine ⟨?_, by rw [w64 _ (by omega)]; simp⟩
        rw [l3]; simp
      · have h : j = n.cs.length := by simp at h; omega
        have ht : x.ks.take j = x.ks := by rw [h, hcl, List.take_length]
        have l2 : (sgn x).length = 2 + (x.ps.flatMap prL).length + (sgnL x.ks).length := by
          cases x; rw [sgn]; simp [Sub.ps, Sub.ks]; omega
        rw [ht, show ({ data := #[41] } : ByteArray) = strB [41] from rfl, strB_app, strB_size, strB_size, if_pos (by rw [List.length_cons, List.length_append]; show _ + 1 ≤ _; omega)]
        refine vc ?_
        refine ⟨⟨by omega, by rw [sgRow_len _ _ (by omega)]; omega⟩, ?_⟩
        rw [get_map hrk, stC]
        refine vc ?_
        refine hN _ k [] (by omega) (by omega) (by rfl) (vc ?_) (vc ?_)
        · show IntKind.i64.wrap ((k : Int) - 1) = (k : Int) - 1
          rw [w64 _ (by omega)]
        · have e : sgnB x = strB (40 :: (x.ps.flatMap prL ++ sgnL x.ks ++ [41])) := by
            unfold sgnB; cases x; rw [sgn]; simp [Sub.ps, Sub.ks]
          rw [← e, ← sgRow_set hx, List.map_set]; rfl
  · have h : k = 0 := by simp at h; omega
    subst h
    refine endQ_of [(1, 2)] (.sl 1 S.length) [some (.rw 9 1 ((S.map sgnB).map stC))] (by rfl) (vc ?_) (vc ?_) ⟨rfl, rfl⟩
    · exact hlen.symm
    · unfold sgRow; simp
end Go.Proofs.YtnnmpdanfeejbaaGreat.Abs

/- Where a tree's nodes are laid: pure; and the program's side. -/
namespace Go.Proofs.YtnnmpdanfeejbaaGreat.Abs
open Go Go.Proofs
set_option maxRecDepth 10000
set_option linter.unusedVariables false
set_option linter.unusedSimpArgs false
theorem ba_beq (a b : ByteArray) : (a == b) = true ↔ a = b := by
  obtain ⟨a⟩ := a
  obtain ⟨b⟩ := b
  rw [ByteArray.mk.injEq]
  constructor
  · intro h
    have h : (a == b) = true := h
    exact eq_of_beq h
  · intro h
    subst h
    show (a == a) = true
    exact beq_self_eq_true a
theorem mpGet_put : ∀ (m : List (ByteArray × Int)) (a b : ByteArray) (n : Int), mpGet (mpPut m a n) b = if b = a then n else mpGet m b
  | [], a, b, n => by
    simp only [mpPut, mpGet, ba_beq]
  | (c, k) :: m, a, b, n => by
    simp only [mpPut, ba_beq]
    by_cases h : a = c
    · rw [if_pos h]
      simp only [mpGet, ba_beq]
      subst h
      split <;> rfl
    · rw [if_neg h]
      simp only [mpGet, ba_beq, mpGet_put m a b n]
      by_cases h2 : b = c
      · rw [if_pos h2, if_neg (fun e => h (by rw [← e, h2]))]
        rw [if_pos h2]
      · rw [if_neg h2, if_neg h2]
open Classical in
/-- Where a sub lies already: the first of these places. -/
noncomputable def fndS : List Sub → List Int → Sub → Option Int
  | u :: U, p :: ps, x => if x = u then some p else fndS U ps x
  | _, _, _ => none
open Classical in
theorem fndS_snoc : ∀ (U : List Sub) (ps : List Int) (u : Sub) (p : Int) (x : Sub), U.length = ps.length → fndS (U ++ [u]) (ps ++ [p]) x = (match fndS U ps x with | some q => some q | none => if x = u then some p else none)
  | [], [], u, p, x, h => by simp [fndS]
  | [], _ :: _, u, p, x, h => by simp at h
  | _ :: _, [], u, p, x, h => by simp at h
  | v :: U, q :: ps, u, p, x, h => by
    have ih := fndS_snoc U ps u p x (by simpa using h)
    simp only [List.cons_append, fndS]
    split
    · rfl
    · exact ih
theorem fndS_not : ∀ (U : List Sub) (ps : List Int) (x : Sub), x ∉ U → fndS U ps x = none
  | [], _, x, h => by simp [fndS]
  | _ :: _, [], x, h => by simp [fndS]
  | u :: U, p :: ps, x, h => by
    simp only [List.mem_cons, not_or] at h
    rw [fndS, if_neg h.1]
    exact fndS_not U ps x h.2
theorem fndS_mem : ∀ (U : List Sub) (ps : List Int) (x : Sub) (p : Int), fndS U ps x = some p → p ∈ ps
  | [], _, x, p, h => by simp [fndS] at h
  | _ :: _, [], x, p, h => by simp [fndS] at h
  | u :: U, q :: ps, x, p, h => by
    rw [fndS] at h
    split at h
    · simp at h; simp [h]
    · exact List.mem_cons_of_mem _ (fndS_mem U ps x p h)
/-- The next place not taken. -/
def Nxt (tk : List Int) (a b : Nat) : Prop := a ≤ b ∧ (∀ q : Nat, a ≤ q → q < b → (q : Int) ∈ tk) ∧ (b : Int) ∉ tk
theorem Nxt.uniq {tk : List Int} {a b c : Nat} (h : Nxt tk a b) (h2 : Nxt tk a c) : b = c := by
  obtain ⟨h1, h3, h4⟩ := h
  obtain ⟨g1, g3, g4⟩ := h2
  rcases Nat.lt_trichotomy b c with e | e | e
  · exact absurd (g3 b h1 e) h4
  · exact e
  · exact absurd (h3 c g1 e) g4
open Classical in
noncomputable def nfree (tk : List Int) (a : Nat) : Nat := if h : ∃ b, Nxt tk a b then h.choose else 0
theorem nfree_eq {tk : List Int} {a b : Nat} (h : Nxt tk a b) : nfree tk a = b := by
  unfold nfree
  rw [dif_pos ⟨b, h⟩]
  exact Nxt.uniq (Exists.choose_spec (p := fun b => Nxt tk a b) ⟨b, h⟩) h
/-- What is laid: the places, which of them are new, the next place. -/
abbrev LY := List Int × List Bool × Nat
noncomputable def lyStep (f : Sub → Option Int) (tk : List Int) (N : Nat) (a : Option LY) (x : Sub) : Option LY :=
  match a with
  | none => none
  | some (P, F, nx) => match f x with
    | some p => some (P ++ [p], F ++ [false], nx)
    | none => if N ≤ nfree tk nx then none else some (P ++ [(nfree tk nx : Int)], F ++ [true], nfree tk nx + 1)
noncomputable def lyF (f : Sub → Option Int) (tk : List Int) (N : Nat) (l : List Sub) : Option LY := l.foldl (lyStep f tk N) (some ([], [], 2))
theorem lyF_none (f : Sub → Option Int) (tk : List Int) (N : Nat) : ∀ l : List Sub, l.foldl (lyStep f tk N) none = none
  | [] => rfl
  | x :: r => by rw [List.foldl_cons]; exact lyF_none f tk N r
theorem lyF_next {f : Sub → Option Int} {tk : List Int} {N : Nat} {l : List Sub} {i : Nat} {x : Sub} (h : l[i]? = some x) : lyF f tk N (l.take (i + 1)) = lyStep f tk N (lyF f tk N (l.take i)) x := by
  unfold lyF
  rw [List.take_add_one, h, List.foldl_append]; rfl
theorem lyF_stop {f : Sub → Option Int} {tk : List Int} {N : Nat} {l : List Sub} {i : Nat} (h : lyF f tk N (l.take i) = none) : lyF f tk N l = none := by
  conv => lhs; rw [← List.take_append_drop i l]
  unfold lyF at *
  rw [List.foldl_append, h, lyF_none]
theorem nxt_ex {tk : List Int} {M : Nat} (h : ∀ p ∈ tk, p < M) : ∀ (d a : Nat), M - a ≤ d → ∃ b, Nxt tk a b := by
  intro d
  induction d with
  | zero => intro a ha; exact ⟨a, Nat.le_refl _, fun q h1 h2 => absurd h1 (by omega), fun hm => by have := h _ hm; omega⟩
  | succ d ih =>
    intro a ha
    by_cases hm : (a : Int) ∈ tk
    · obtain ⟨b, h1, h2, h3⟩ := ih (a + 1) (by omega)
      refine ⟨b, by omega, fun q h4 h5 => ?_, h3⟩
      by_cases e : q = a
      · rw [e]; exact hm
      · exact h2 q (by omega) h5
    · exact ⟨a, Nat.le_refl _, fun q h1 h2 => absurd h1 (by omega), hm⟩
theorem nfree_ge {tk : List Int} {M : Nat} (h : ∀ p ∈ tk, p < M) (a : Nat) : a ≤ nfree tk a ∧ ((nfree tk a : Nat) : Int) ∉ tk := by
  obtain ⟨b, hb⟩ := nxt_ex h M a (by omega)
  rw [nfree_eq hb]
  exact ⟨hb.1, hb.2.2⟩
/-- What holds of what is laid: the new places rise, none of them taken. -/
theorem lyF_facts {f : Sub → Option Int} {tk : List Int} {N : Nat} (htk : ∀ p ∈ tk, 2 ≤ p ∧ p < N) (hf : ∀ x p, f x = some p → p ∈ tk) : ∀ (l : List Sub) (i : Nat) (P : List Int) (F : List Bool) (nx : Nat), i ≤ l.length → lyF f tk N (l.take i) = some (P, F, nx) → P.length = i ∧ F.length = i ∧ 2 ≤ nx ∧ (2 < nx → nx ≤ N) ∧ ∀ p ∈ P, 2 ≤ p ∧ p < N := by
  intro l i
  induction i with
  | zero =>
    intro P F nx _ h
    have h : some (([] : List Int), ([] : List Bool), 2) = some (P, F, nx) := by rw [← h]; rfl
    simp only [Option.some.injEq, Prod.mk.injEq] at h
    obtain ⟨rfl, rfl, rfl⟩ := h
    simp
  | succ i ih =>
    intro P F nx hi h
    have hx := List.getElem?_eq_getElem (show i < l.length by omega)
    rw [lyF_next hx] at h
    cases hq : lyF f tk N (l.take i) with
    | none => rw [hq] at h; simp [lyStep] at h
    | some y =>
      obtain ⟨P', F', nx'⟩ := y
      obtain ⟨i1, i2, i3, i4, i5⟩ := ih P' F' nx' (by omega) hq
      rw [hq] at h
      simp only [lyStep] at h
      split at h
      · rename_i p hp
        simp only [Option.some.injEq, Prod.mk.injEq] at h
        obtain ⟨rfl, rfl, rfl⟩ := h
        refine ⟨by simp [i1], by simp [i2], i3, i4, fun q hq => ?_⟩
        rcases List.mem_append.1 hq with hq | hq
        · exact i5 q hq
        · rw [List.mem_singleton] at hq; subst hq; exact htk _ (hf _ _ hp)
      · split at h
        · cases h
        · rename_i hn
          simp only [Option.some.injEq, Prod.mk.injEq] at h
          obtain ⟨rfl, rfl, rfl⟩ := h
          have hg := (nfree_ge (fun p hp => (htk p hp).2) nx').1
          refine ⟨by simp [i1], by simp [i2], by omega, by omega, fun q hq => ?_⟩
          rcases List.mem_append.1 hq with hq | hq
          · exact i5 q hq
          · rw [List.mem_singleton] at hq; subst hq; omega
def boC (b : Bool) : List CV := [.v (.bool b)]
def lyP (o : Option LY) : List Int := match o with | some y => y.1 | none => []
def lyG (o : Option LY) : List Bool := match o with | some y => y.2.1 | none => []
def lyR (o : Option LY) : AV := .tu [.sl 1 (lyP o).length, .sl 2 (lyG o).length, Bo o.isSome]
def lyH (o : Option LY) : List (Option Ob) := [some (.rw 3 1 ((lyP o).map inC)), some (.rw 4 1 ((lyG o).map boC))]
theorem laid_ok (s : St) (t : List Nd) (U S : List Sub) (hU : TrS s.t U) (hX : TrS t S) (hUw : ∀ x ∈ U, x.wg) (hSw : ∀ x ∈ S, x.wg) (hUd : U.Nodup) (hpl : s.ps.length = U.length) (hNN : s.d.sh.length ≤ 400) (hps : ∀ p ∈ s.ps, 2 ≤ p ∧ p < s.d.sh.length) :
    CallOk Tryz.prog 134 [] [s.rd, treeAg t] (fun r out => r = lyR (lyF (fndS U s.ps) s.ps s.d.sh.length S) ∧ out = lyH (lyF (fndS U s.ps) s.ps s.d.sh.length S)) := by
  unfold treeAg St.rd
  have sg1 := signs_ok s.t U hU
  have sg2 := signs_ok t S hX
  unfold treeAg at sg1 sg2
  obtain ⟨hU0, hU1, hU2⟩ := hU
  refine callOk_z (np := 0) {} mixed Tryz.func134 (by rfl) Tryz.ntmps134 Tryz.results134 (by rfl) (Nat.le_of_ble_eq_true rfl) rfl rfl rfl (vc ?_)
  refine callq_of false [] sg1 rfl (vc trivial) (vc trivial) ?_
  rintro r out ⟨rfl, rfl⟩
  refine vc4 (by simp) (by simp) (by simp) ?_
  refine loopQ_of (fun k : Nat × List (ByteArray × Int) => [(2, .pt 1 0 0), (3, .pt 2 0 0), (7, .mr 3), (19, .sl 4 U.length), (20, In U.length), (21, In (k.1 : Nat))]) (fun k => [(1, .box 36 [Rw (s.d.sh.map (shC false)), Rw (s.d.wr.map (wrC false)), In s.g, Rw (s.t.map (ndC false)), Rw (s.ps.map inC)]), (2, .box 33 [Rw (t.map (ndC false))]), (3, .mp k.2), (4, .rw 9 1 ((U.map sgnB).map stC))]) 5 (fun k => U.length - k.1) (fun k => k.1 ≤ U.length ∧ ∀ x : Sub, x.wg → mpGet k.2 (sgnB x) = (fndS (U.take k.1) (s.ps.take k.1) x).getD 0) (0, []) ⟨Nat.zero_le _, fun x _ => rfl⟩ [(2, 9), (3, 41), (4, 73)] (by rfl) (vc ?_) (vc ?_) (fun ⟨i, m⟩ ⟨hk1, hk2⟩ N hN => ?_)
  · trivial
  · trivial
  simp only at hk1 hk2 hN
  refine vc (brB_intro (fun h => ?_) (fun h => ?_))
  · have h : i < U.length := by simpa using h
    have hu := List.getElem?_eq_getElem h
    have hw := hUw _ (List.getElem_mem h)
    have hni : U[i] ∉ U.take i := by
      intro hm
      rw [List.mem_take_iff_getElem] at hm
      obtain ⟨j, hj, e⟩ := hm
      have := (List.getElem_inj hUd).1 e
      omega
    generalize U[i] = u at hu hw hni
    have hp := List.getElem?_eq_getElem (show i < s.ps.length by omega)
    generalize s.ps[i]'(by omega) = p at hp
    refine ⟨h, ?_⟩
    rw [get_map (f := stC) (x := sgnB u) (by rw [List.getElem?_map, hu]; rfl), stC]
    refine vc ?_
    rw [get_map hp, inC]
    refine vc ?_
    refine hN _ (i + 1, mpPut m (sgnB u) p) [] ⟨h, fun x hx => ?_⟩ (by simp only; omega) (by rfl) (vc ?_) (vc ?_)
    · simp only
      rw [mpGet_put, List.take_add_one, List.take_add_one, hu, hp]
      simp only [Option.toList_some]
      rw [fndS_snoc _ _ _ _ _ (by simp; omega), hk2 x hx]
      by_cases e : x = u
      · subst e
        rw [if_pos rfl, fndS_not _ _ _ hni]
        simp
      · rw [if_neg (fun e2 => e (sgn_inj hx hw (by
          unfold sgnB strB at e2
          simpa using e2)))]
        cases fndS (U.take i) (s.ps.take i) x with
        | some q => rfl
        | none => simp [e]
    · rw [w64 _ (by omega)]; simp
    · trivial
  · have h : i = U.length := by simp at h; omega
    subst h
    rw [List.take_length, List.take_of_length_le (by omega)] at hk2
    refine callq_of false [] sg2 rfl (vc trivial) (vc trivial) ?_
    rintro r out ⟨rfl, rfl⟩
    refine vc4 (by simp) (by simp) (by simp) ?_
    obtain ⟨hS0, hS1, hS2⟩ := hX
    have hfm : ∀ (x : Sub) (p : Int), fndS U s.ps x = some p → p ∈ s.ps := fun x p h => fndS_mem _ _ _ _ h
    generalize hf : fndS U s.ps = f at hfm hk2
    refine loopQ_of (fun k : Nat × LY => [(2, .pt 1 0 0), (7, .mr 2), (10, In (k.2.2.2 : Nat)), (11, .sl 3 k.2.1.length), (12, .sl 4 k.2.2.1.length), (37, .sl 5 S.length), (38, In S.length), (39, In (k.1 : Nat))]) (fun k => [(1, .box 36 [Rw (s.d.sh.map (shC false)), Rw (s.d.wr.map (wrC false)), In s.g, Rw (s.t.map (ndC false)), Rw (s.ps.map inC)]), (2, .mp m), (3, .rw 3 1 (k.2.1.map inC)), (4, .rw 4 1 (k.2.2.1.map boC)), (5, .rw 9 1 ((S.map sgnB).map stC))]) 6 (fun k => S.length - k.1) (fun k => k.1 ≤ S.length ∧ lyF f s.ps s.d.sh.length (S.take k.1) = some k.2) (0, [], [], 2) ⟨Nat.zero_le _, rfl⟩ [(2, 3), (3, 21), (4, 29), (5, 61)] (by rfl) (vc ?_) (vc ?_) (fun ⟨i, P, F, nx⟩ ⟨hi, hly⟩ M hM => ?_)
    · trivial
    · trivial
    simp only at hi hly hM
    have hfx := lyF_facts hps hfm S i P F nx hi hly
    obtain ⟨f1, f2, f3, f4, f5⟩ := hfx
    refine vc (brB_intro (fun h => ?_) (fun h => ?_))
    · have h : i < S.length := by simpa using h
      have hx := List.getElem?_eq_getElem h
      have hw := hSw _ (List.getElem_mem h)
      generalize S[i] = x at hx hw
      have hst := lyF_next (f := f) (tk := s.ps) (N := s.d.sh.length) hx
      rw [hly] at hst
      simp only [lyStep] at hst
      refine ⟨h, ?_⟩
      rw [get_map (f := stC) (x := sgnB x) (by rw [List.getElem?_map, hx]; rfl), stC]
      refine vc ?_
      rw [hk2 x hw]
      cases hfx : f x with
      | some p =>
        rw [hfx] at hst
        simp only at hst
        have hpp := hps _ (hfm _ _ hfx)
        simp only [Option.getD_some]
        refine brB_intro (fun h2 => ?_) (fun h2 => absurd h2 (by simp; omega))
        refine ⟨⟨by unfold maxLen; omega, by omega⟩, ⟨by unfold maxLen; omega, by omega⟩, ?_⟩
        refine hM _ (i + 1, P ++ [p], F ++ [false], nx) [(3, 110), (4, 142)] ⟨h, hst⟩ (by simp only; omega) (by rfl) (vc ?_) (vc ?_)
        · exact ⟨by simp, by simp, by rw [w64 _ (by omega)]; simp⟩
        · exact ⟨by rw [List.map_append]; rfl, by rw [List.map_append]; rfl⟩
      | none =>
        rw [hfx] at hst
        simp only at hst
        simp only [Option.getD_none]
        refine brB_intro (fun h2 => absurd h2 (by simp)) (fun h2 => ?_)
        refine loopQ_of (fun q : Nat => [(2, .pt 1 0 0), (7, .mr 2), (10, In (q : Nat)), (11, .sl 3 P.length), (12, .sl 4 F.length), (37, .sl 5 S.length), (38, In S.length), (39, In (i : Nat))]) (fun q => [(1, .box 36 [Rw (s.d.sh.map (shC false)), Rw (s.d.wr.map (wrC false)), In s.g, Rw (s.t.map (ndC false)), Rw (s.ps.map inC)]), (2, .mp m), (3, .rw 3 1 (P.map inC)), (4, .rw 4 1 (F.map boC)), (5, .rw 9 1 ((S.map sgnB).map stC))]) 6 (fun q => 401 - q) (fun q => nx ≤ q ∧ q ≤ 400 ∧ ∀ z : Nat, nx ≤ z → z < q → (z : Int) ∈ s.ps) nx ⟨Nat.le_refl _, by omega, fun z h1 h2 => absurd h1 (by omega)⟩ [] (by rfl) (vc ?_) (vc ?_) (fun q ⟨hq1, hq2, hq3⟩ L hL => vc ?_)
        · trivial
        · trivial
        refine callq_of false [] (slContains_ok s.ps q (by omega)) rfl (vc trivial) (vc trivial) ?_
        rintro r out ⟨rfl, rfl⟩
        refine vc4 (by simp) (by simp) (by simp) ?_
        by_cases hqm : (q : Int) ∈ s.ps
        · rw [tf_true hqm]
          refine vc ?_
          have := hps _ hqm
          refine hL _ (q + 1) [] ⟨by omega, by omega, fun z h1 h2 => ?_⟩ (by omega) (by rfl) (vc ?_) (vc trivial)
          · by_cases e : z = q
            · rw [e]; exact hqm
            · exact hq3 z h1 (by omega)
          · rw [w64 _ (by omega)]; simp
        · rw [tf_false hqm]
          refine vc ?_
          have hnf := nfree_eq (tk := s.ps) (a := nx) ⟨hq1, hq3, hqm⟩
          rw [hnf] at hst
          refine brB_intro (fun h3 => ?_) (fun h3 => ?_)
          · rw [if_pos (by simp at h3; omega)] at hst
            rw [lyF_stop hst]
            exact endQ_of [(1, 0), (2, 0)] (.tu [.sl 1 0, .sl 2 0, Bo false]) [some (.rw 3 1 []), some (.rw 4 1 [])] (by rfl) (vc trivial) (vc trivial) ⟨rfl, rfl⟩
          · have h3 : ¬ s.d.sh.length ≤ q := by simp at h3; omega
            rw [if_neg h3] at hst
            refine ⟨⟨by unfold maxLen; omega, by omega⟩, ⟨by unfold maxLen; omega, by omega⟩, ?_⟩
            refine hM _ (i + 1, P ++ [(q : Int)], F ++ [true], q + 1) [(3, 110), (4, 142)] ⟨h, hst⟩ (by simp only; omega) (by rfl) (vc ?_) (vc ?_)
            · exact ⟨by rw [w64 _ (by omega)]; simp, by simp, by simp, by rw [w64 _ (by omega)]; simp⟩
            · exact ⟨by rw [List.map_append]; rfl, by rw [List.map_append]; rfl⟩
    · have h : i = S.length := by simp at h; omega
      subst h
      rw [List.take_length] at hly
      rw [hly]
      exact endQ_of [(1, 3), (2, 4)] (.tu [.sl 1 P.length, .sl 2 F.length, Bo true]) [some (.rw 3 1 (P.map inC)), some (.rw 4 1 (F.map boC))] (by rfl) (vc trivial) (vc trivial) ⟨rfl, rfl⟩
end Go.Proofs.YtnnmpdanfeejbaaGreat.Abs

/- The page of a node: both sides. -/
namespace Go.Proofs.YtnnmpdanfeejbaaGreat.Abs
open Go Go.Proofs
set_option maxRecDepth 10000
set_option linter.unusedVariables false
set_option linter.unusedSimpArgs false
/-- A node's page, by where the nodes are laid. -/
def pgN (n : Nd) (P : List Int) : Pg := ⟨n.ks ++ n.ps.map (·.k), n.ps.map (·.v), n.cs.map fun c => P.getD c.toNat 0⟩
theorem pageOfL_ok (L : List Pr) (P : List Int) (hl0 : L ≠ []) (hl : L.length ≤ 4096) : CallOk Tryz.prog 136 [] [.ag [Rw (L.map prC), .c (.row true []), .c (.row true [])], Rw (P.map inC)] (fun r out => r = .ag [.sl 1 L.length, .sl 2 L.length, .nul] ∧ out = [some (.rw 9 1 ((L.map (·.k)).map stC)), some (.rw 9 1 ((L.map (·.v)).map stC))]) := by
  have hl1 : 0 < L.length := List.length_pos_iff.2 hl0
  refine callOk_z (np := 0) {} mixed Tryz.func136 (by rfl) Tryz.ntmps136 Tryz.results136 (by rfl) (Nat.le_of_ble_eq_true rfl) rfl rfl rfl (vc ?_)
  refine loopQ_of (fun k : Option Nat => [(1, Rw (P.map inC)), (2, .pt 1 0 0), (4, .pt 2 0 0), (5, .pt 3 0 0), (14, Rw (L.map prC)), (15, In L.length), (16, In ((k.getD 0 : Nat) : Int))])
    (fun k => match k with
      | none => [(1, .box 111 [Rw (L.map prC), .c (.row true []), .c (.row true [])]), (2, .box 107 [.nul, .nul, .nul]), (3, .box 107 [.c (.row true []), .nul, .nul])]
      | some j => [(1, .box 111 [Rw (L.map prC), .c (.row true []), .c (.row true [])]), (2, .box 107 [.nul, .nul, .nul]), (3, .box 107 [.sl 4 j, .sl 5 j, .nul]), (4, .rw 9 1 (((L.take j).map (·.k)).map stC)), (5, .rw 9 1 (((L.take j).map (·.v)).map stC))]) 6
    (fun k => L.length - k.getD 0) (fun k => k ≠ some 0 ∧ k.getD 0 ≤ L.length) none ⟨by simp, by simp⟩ [(2, 9), (3, 41)] (by rfl) (vc ?_) (vc ?_) (fun k hk N hN => ?_)
  · trivial
  · trivial
  cases k with
  | none =>
    refine vc (brB_intro (fun h => ?_) (fun h => ?_))
    rotate_left
    · exact absurd hl1 (by simpa using h)
    have hx := List.getElem?_eq_getElem hl1
    generalize L[0] = x at hx
    rw [get_map hx, prC]
    refine vc ?_
    refine ⟨by unfold maxLen; omega, by unfold maxLen; omega, ?_⟩
    refine hN _ (some 1) [(4, 86), (5, 150)] ⟨by simp, by simp; omega⟩ (by simp; omega) (by rfl) (vc ?_) (vc ?_)
    · rfl
    · refine ⟨?_, ?_⟩ <;> (rw [show (1 : Nat) = 0 + 1 from rfl, List.take_add_one, hx]; simp [stC])
  | some j =>
    refine vc (brB_intro (fun h => ?_) (fun h => ?_))
    · have h : j < L.length := by simpa using h
      have hx := List.getElem?_eq_getElem h
      generalize L[j] = x at hx
      rw [get_map hx, prC]
      refine vc ?_
      have hlt : j = (L.take j).length := by simp; omega
      refine ⟨⟨hlt, by unfold maxLen; omega, by omega⟩, ⟨hlt, by unfold maxLen; omega, by omega⟩, ?_⟩
      refine hN _ (some (j + 1)) [(4, 86), (5, 150)] ⟨by simp, by simp; omega⟩ (by simp; omega) (by rfl) (vc ?_) (vc ?_)
      · show IntKind.i64.wrap ((j : Int) + 1) = ((j + 1 : Nat) : Int)
        rw [w64 _ (by omega)]; simp
      · refine ⟨hlt.symm, ?_, ?_⟩ <;> (rw [List.take_add_one, hx]; simp [stC])
    · have h : j = L.length := by have := hk.2; simp at h this; omega
      subst h
      rw [List.take_length]
      refine loopQ_of (fun _ : Unit => [(4, .pt 1 0 0), (5, .pt 2 0 0), (37, In 0), (38, In 0)]) (fun _ => [(1, .box 107 [.nul, .nul, .nul]), (2, .box 107 [.sl 3 L.length, .sl 4 L.length, .nul]), (3, .rw 9 1 ((L.map (·.k)).map stC)), (4, .rw 9 1 ((L.map (·.v)).map stC))]) 5 (fun _ => 0) (fun _ => True) () trivial [(1, 2), (2, 3), (3, 4), (4, 5)] (by rfl) (vc ?_) (vc ?_) (fun _ _ M hM => vc ?_)
      · trivial
      · trivial
      exact endQ_of [(1, 3), (2, 4)] (.ag [.sl 1 L.length, .sl 2 L.length, .nul]) [some (.rw 9 1 ((L.map (·.k)).map stC)), some (.rw 9 1 ((L.map (·.v)).map stC))] (by rfl) (vc trivial) (vc trivial) ⟨rfl, rfl⟩
theorem pageOfN_ok (K : List ByteArray) (C : List Int) (P : List Int) (hl0 : C ≠ []) (hl : C.length ≤ 4096) (hC : ∀ c ∈ C, 0 ≤ c ∧ c < P.length) : CallOk Tryz.prog 136 [.rw 3 1 (P.map inC)] [.ag [.c (.row true []), .c (.row true (K.map stC)), Rw (C.map inC)], .sl 1 P.length] (fun r out => r = .ag [.c (.row true (K.map stC)), .nul, .sl 2 C.length] ∧ out = [some (.rw 3 1 (P.map inC)), some (.rw 3 1 ((C.map fun c => P.getD c.toNat 0).map inC))]) := by
  have hl1 : 0 < C.length := List.length_pos_iff.2 hl0
  refine callOk_z (np := 1) {} mixed Tryz.func136 (by rfl) Tryz.ntmps136 Tryz.results136 (by rfl) (Nat.le_of_ble_eq_true rfl) rfl rfl rfl (vc ?_)
  refine loopQ_of (fun _ : Unit => [(1, .sl 1 P.length), (2, .pt 2 0 0), (4, .pt 3 0 0), (5, .pt 4 0 0), (15, In 0), (16, In 0)])
    (fun _ => [(1, .rw 3 1 (P.map inC)), (2, .box 111 [.c (.row true []), .c (.row true (K.map stC)), Rw (C.map inC)]), (3, .box 107 [.nul, .nul, .nul]), (4, .box 107 [.c (.row true (K.map stC)), .nul, .nul])]) 5
    (fun _ => 0) (fun _ => True) () trivial [(3, 10), (4, 42)] (by rfl) (vc ?_) (vc ?_) (fun _ _ N hN => vc ?_)
  · trivial
  · trivial
  refine loopQ_of (fun j : Nat => [(1, .sl 1 P.length), (4, .pt 2 0 0), (5, .pt 3 0 0), (36, Rw (C.map inC)), (37, In C.length), (38, In (j : Nat))])
    (fun j => [(1, .rw 3 1 (P.map inC)), (2, .box 107 [.nul, .nul, .nul]), (3, .box 107 [.c (.row true (K.map stC)), .nul, .sl 4 j]), (4, .rw 3 1 (((C.take j).map fun c => P.getD c.toNat 0).map inC))]) 5
    (fun j => C.length - j) (fun j => j ≤ C.length) 0 (Nat.zero_le _) [(2, 3), (3, 4), (4, 0)] (by rfl) (vc ?_) (vc ?_) (fun j hj M hM => vc (brB_intro (fun h => ?_) (fun h => ?_)))
  · trivial
  · trivial
  · have h : j < C.length := by simpa using h
    have hx := List.getElem?_eq_getElem h
    have hc := hC _ (List.getElem_mem h)
    generalize C[j] = c at hx hc
    obtain ⟨c, rfl⟩ : ∃ n : Nat, c = (n : Int) := ⟨c.toNat, by omega⟩
    have hp := List.getElem?_eq_getElem (show c < P.length by omega)
    generalize P[c]'(by omega) = z at hp
    rw [get_map hx, inC]
    refine vc ?_
    refine drawQ_of true (by rfl) (by intro _; refine ⟨?_, ?_⟩; (repeat first | exact fun _ => rfl | exact fun _ => nbk_A _ | refine nb_upd rfl ?_); (repeat first | exact fun _ => rfl | exact fun _ => nbo_kill _ | exact nbo_HpS0 | refine nbo_upd rfl ?_)) (vc ?_)
    rw [get_map hp, inC]
    refine vc ?_
    have hlt : j = (C.take j).length := by simp; omega
    refine ⟨by omega, ⟨hlt, by unfold maxLen; omega, by omega⟩, ?_⟩
    repeat refine ⟨rfl, ?_⟩
    refine hM _ (j + 1) [(4, 93)] h (by omega) (by rfl) (vc ?_) (vc ?_)
    · rw [w64 _ (by omega)]; simp
    · refine ⟨hlt.symm, ?_⟩
      rw [List.take_add_one, hx]; simp [inC, hp]
  · have h : j = C.length := by simp at h; omega
    subst h
    rw [List.take_length]
    exact endQ_of [(2, 4)] (.ag [.c (.row true (K.map stC)), .nul, .sl 2 C.length]) [some (.rw 3 1 (P.map inC)), some (.rw 3 1 ((C.map fun c => P.getD c.toNat 0).map inC))] (by rfl) (vc trivial) (vc trivial) ⟨rfl, rfl⟩
theorem l06PageL_ok (L : List Pr) (P : List Int) (hl0 : L ≠ []) (hl : L.length ≤ 4096) : CallOk Tryz.prog 76 [] [.ag [Rw (L.map prC), .c (.row false []), .c (.row false [])], Rw (P.map inC)] (fun r out => r = .ag [.sl 1 L.length, .sl 2 L.length, .nul] ∧ out = [some (.rw 9 1 ((L.map (·.k)).map stC)), some (.rw 9 1 ((L.map (·.v)).map stC))]) := by
  have hl1 : 0 < L.length := List.length_pos_iff.2 hl0
  refine callOk_z (np := 0) {} mixed Tryz.func76 (by rfl) Tryz.ntmps76 Tryz.results76 (by rfl) (Nat.le_of_ble_eq_true rfl) rfl rfl rfl (vc ?_)
  refine ⟨by unfold maxLen; omega, ?_⟩
  refine loopQ_of (fun j : Nat => [(1, Rw (P.map inC)), (2, .pt 1 0 0), (4, .pt 2 0 0), (5, .pt 3 0 0), (16, Rw (L.map prC)), (17, In L.length), (18, In (j : Nat))])
    (fun j => [(1, .box 111 [Rw (L.map prC), .c (.row false []), .c (.row false [])]), (2, .box 107 [.nul, .nul, .nul]), (3, .box 107 [.sl 4 j, .sl 5 j, .nul]), (4, .rw 9 1 (((L.take j).map (·.k)).map stC)), (5, .rw 9 1 (((L.take j).map (·.v)).map stC))]) 6
    (fun j => L.length - j) (fun j => j ≤ L.length) 0 (Nat.zero_le _) [(2, 9), (3, 57), (4, 41), (5, 0)] (by rfl) (vc ?_) (vc ?_) (fun j hj N hN => vc (brB_intro (fun h => ?_) (fun h => ?_)))
  · trivial
  · trivial
  · have h : j < L.length := by simpa using h
    have hx := List.getElem?_eq_getElem h
    generalize L[j] = x at hx
    rw [get_map hx, prC]
    refine vc ?_
    have hlt : j = (L.take j).length := by simp; omega
    refine ⟨⟨hlt, by unfold maxLen; omega, by omega⟩, ⟨hlt, by unfold maxLen; omega, by omega⟩, ?_⟩
    refine hN _ (j + 1) [(4, 86), (5, 150)] h (by omega) (by rfl) (vc ?_) (vc ?_)
    · rw [w64 _ (by omega)]; simp
    · refine ⟨hlt.symm, ?_, ?_⟩ <;> (rw [List.take_add_one, hx]; simp [stC])
  · have h : j = L.length := by simp at h; omega
    subst h
    rw [List.take_length]
    refine loopQ_of (fun _ : Unit => [(4, .pt 1 0 0), (5, .pt 2 0 0), (39, In 0), (40, In 0)]) (fun _ => [(1, .box 107 [.nul, .nul, .nul]), (2, .box 107 [.sl 3 L.length, .sl 4 L.length, .nul]), (3, .rw 9 1 ((L.map (·.k)).map stC)), (4, .rw 9 1 ((L.map (·.v)).map stC))]) 5 (fun _ => 0) (fun _ => True) () trivial [(1, 2), (2, 3), (3, 4), (4, 5)] (by rfl) (vc ?_) (vc ?_) (fun _ _ M hM => vc ?_)
    · trivial
    · trivial
    exact endQ_of [(1, 3), (2, 4)] (.ag [.sl 1 L.length, .sl 2 L.length, .nul]) [some (.rw 9 1 ((L.map (·.k)).map stC)), some (.rw 9 1 ((L.map (·.v)).map stC))] (by rfl) (vc trivial) (vc trivial) ⟨rfl, rfl⟩
theorem l06PageN_ok (K : List ByteArray) (C : List Int) (P : List Int) (hl0 : C ≠ []) (hl : C.length ≤ 4096) (hk : K.length ≤ 4096) (hC : ∀ c ∈ C, 0 ≤ c ∧ c < P.length) : CallOk Tryz.prog 76 [] [.ag [.c (.row false []), Rw (K.map stC), Rw (C.map inC)], Rw (P.map inC)] (fun r out => r = .ag [.sl 1 K.length, .nul, .sl 2 C.length] ∧ out = [some (.rw 9 1 (K.map stC)), some (.rw 3 1 ((C.map fun c => P.getD c.toNat 0).map inC))]) := by
  have hl1 : 0 < C.length := List.length_pos_iff.2 hl0
  refine callOk_z (np := 0) {} mixed Tryz.func76 (by rfl) Tryz.ntmps76 Tryz.results76 (by rfl) (Nat.le_of_ble_eq_true rfl) rfl rfl rfl (vc ?_)
  refine ⟨⟨by unfold maxLen; omega, by omega⟩, ?_⟩
  refine loopQ_of (fun _ : Unit => [(1, Rw (P.map inC)), (2, .pt 1 0 0), (4, .pt 2 0 0), (5, .pt 3 0 0), (17, In 0), (18, In 0)])
    (fun _ => [(1, .box 111 [.c (.row false []), Rw (K.map stC), Rw (C.map inC)]), (2, .box 107 [.nul, .nul, .nul]), (3, .box 107 [.sl 4 K.length, .nul, .nul]), (4, .rw 9 1 (K.map stC))]) 5
    (fun _ => 0) (fun _ => True) () trivial [(2, 9), (3, 57), (4, 41)] (by rfl) (vc ?_) (vc ?_) (fun _ _ N hN => vc ?_)
  · trivial
  · trivial
  refine loopQ_of (fun j : Nat => [(1, Rw (P.map inC)), (4, .pt 1 0 0), (5, .pt 2 0 0), (38, Rw (C.map inC)), (39, In C.length), (40, In (j : Nat))])
    (fun j => [(1, .box 107 [.nul, .nul, .nul]), (2, .box 107 [.sl 3 K.length, .nul, .sl 4 j]), (3, .rw 9 1 (K.map stC)), (4, .rw 3 1 (((C.take j).map fun c => P.getD c.toNat 0).map inC))]) 5
    (fun j => C.length - j) (fun j => j ≤ C.length) 0 (Nat.zero_le _) [(1, 2), (2, 3), (3, 4), (4, 0)] (by rfl) (vc ?_) (vc ?_) (fun j hj M hM => vc (brB_intro (fun h => ?_) (fun h => ?_)))
  · trivial
  · trivial
  · have h : j < C.length := by simpa using h
    have hx := List.getElem?_eq_getElem h
    have hc := hC _ (List.getElem_mem h)
    generalize C[j] = c at hx hc
    obtain ⟨c, rfl⟩ : ∃ n : Nat, c = (n : Int) := ⟨c.toNat, by omega⟩
    have hp := List.getElem?_eq_getElem (show c < P.length by omega)
    generalize P[c]'(by omega) = z at hp
    rw [get_map hx, inC]
    refine vc ?_
    refine drawQ_of true (by rfl) (by intro _; refine ⟨?_, ?_⟩; (repeat first | exact fun _ => rfl | exact fun _ => nbk_A _ | refine nb_upd rfl ?_); (repeat first | exact fun _ => rfl | exact fun _ => nbo_kill _ | exact nbo_HpS0 | refine nbo_upd rfl ?_)) (vc ?_)
    rw [get_map hp, inC]
    refine vc ?_
    have hlt : j = (C.take j).length := by simp; omega
    refine ⟨⟨hlt, by unfold maxLen; omega, by omega⟩, ?_⟩
    repeat refine ⟨rfl, ?_⟩
    refine hM _ (j + 1) [(4, 93)] h (by omega) (by rfl) (vc ?_) (vc ?_)
    · rw [w64 _ (by omega)]; simp
    · refine ⟨hlt.symm, ?_⟩
      rw [List.take_add_one, hx]; simp [inC, hp]
  · have h : j = C.length := by simp at h; omega
    subst h
    rw [List.take_length]
    exact endQ_of [(1, 3), (2, 4)] (.ag [.sl 1 K.length, .nul, .sl 2 C.length]) [some (.rw 9 1 (K.map stC)), some (.rw 3 1 ((C.map fun c => P.getD c.toNat 0).map inC))] (by rfl) (vc trivial) (vc trivial) ⟨rfl, rfl⟩
end Go.Proofs.YtnnmpdanfeejbaaGreat.Abs

/- What is laid: the program's side. -/
namespace Go.Proofs.YtnnmpdanfeejbaaGreat.Abs
open Go Go.Proofs
set_option maxRecDepth 10000
set_option linter.unusedVariables false
set_option linter.unusedSimpArgs false
/-- The nodes of a tree, each a leaf with pairs or a node with kids. -/
def TrN (t : List Nd) : Prop := ∀ n ∈ t, ((n.ks = [] ∧ n.cs = [] ∧ n.ps ≠ []) ∨ (n.ps = [] ∧ n.cs ≠ [])) ∧ n.ps.length ≤ 4096 ∧ n.ks.length ≤ 4096 ∧ n.cs.length ≤ 4096 ∧ (∀ c ∈ n.cs, 0 ≤ c ∧ c < t.length) ∧ (∀ k ∈ n.ks, k.size ≤ 2^60) ∧ ∀ p ∈ n.ps, p.k.size ≤ 2^60
noncomputable def opAt (t : List Nd) (P : List Int) (i : Nat) : Bool × Int × List UInt8 := (false, P.getD i 0, byO (pgB (pgN (t.getD i default) P)))
noncomputable def opsUp (t : List Nd) (P : List Int) (F : List Bool) (i : Nat) : List (Bool × Int × List UInt8) := ((List.range i).filter fun j => F.getD j false).map (opAt t P)
theorem opsUp_next (t : List Nd) (P : List Int) (F : List Bool) (i : Nat) : opsUp t P F (i + 1) = opsUp t P F i ++ (if F.getD i false = true then [opAt t P i] else []) := by
  unfold opsUp
  rw [List.range_succ, List.filter_append, List.map_append]
  congr 1
  rw [List.filter_cons]
  split <;> simp
theorem opsUp_len (t : List Nd) (P : List Int) (F : List Bool) (i : Nat) : (opsUp t P F i).length ≤ i := by
  unfold opsUp
  have := List.length_filter_le (fun j => F.getD j false) (List.range i)
  simp at this ⊢
  exact this
theorem pgN_le {t : List Nd} {n : Nd} (h : TrN t) (hn : n ∈ t) (P : List Int) : (pgN n P).le (2^40) := by
  obtain ⟨h1, h2, h3, h4, h5, h6, h7⟩ := h n hn
  refine ⟨by simp [pgN]; omega, by simp [pgN]; omega, by simp [pgN]; omega, fun k hk => ?_⟩
  rcases List.mem_append.1 hk with hk | hk
  · exact h6 k hk
  · obtain ⟨p, hp, rfl⟩ := List.mem_map.1 hk
    exact h7 p hp

noncomputable def laO (t : List Nd) (o : Option LY) : List (Bool × Int × List UInt8) := match o with | some y => opsUp t y.1 y.2.1 t.length | none => []
noncomputable def laR (t : List Nd) (o : Option LY) : AV := .tu [.sl 1 (lyP o).length, .sl 2 (laO t o).length, Bo o.isSome]
noncomputable def laH (t : List Nd) (o : Option LY) : List (Option Ob) := [some (.rw 3 1 ((lyP o).map inC)), some (.rw 115 3 ((laO t o).map (opC true)))]
theorem pgl_rs (l m : List ByteArray) {a b : Nat} : true = true → Rs true 2 (.ag [.sl 1 a, .sl 2 b, .nul]) ∧ ∀ ob, some ob ∈ [some (Ob.rw 9 1 (l.map stC)), some (Ob.rw 9 1 (m.map stC))] → RsOb true 2 ob := fun _ =>
  ⟨.ag _ (by simp; exact ⟨.sl 1 _ (by omega) (by omega), .sl 2 _ (by omega) (by omega), .nul⟩), by
    intro ob h; simp at h
    rcases h with rfl | rfl
    · exact .inr (own_st l)
    · exact .inr (own_st m)⟩
theorem implLay0_ok (s : St) (t : List Nd) (U S : List Sub) (hU : TrS s.t U) (hX : TrS t S) (hUw : ∀ x ∈ U, x.wg) (hSw : ∀ x ∈ S, x.wg) (hUd : U.Nodup) (hpl : s.ps.length = U.length) (hNN : s.d.sh.length ≤ 400) (hps : ∀ p ∈ s.ps, 2 ≤ p ∧ p < s.d.sh.length) (hT : TrN t) :
    CallOk Tryz.prog 78 [] [s.rd, .ag [Rw (t.map (ndC true))]] (fun r out => r = laR t (lyF (fndS U s.ps) s.ps s.d.sh.length S) ∧ out = laH t (lyF (fndS U s.ps) s.ps s.d.sh.length S)) := by
  have hlaid := laid_ok s t U S hU hX hUw hSw hUd hpl hNN hps
  have hft := lyF_facts (f := fndS U s.ps) hps (fun x p h => fndS_mem _ _ _ _ h) S S.length
  rw [List.take_length] at hft
  obtain ⟨hX0, hX1, hX2⟩ := hX
  generalize lyF (fndS U s.ps) s.ps s.d.sh.length S = o at hlaid hft ⊢
  unfold treeAg St.rd at *
  refine callOk_z (np := 0) {} mixed Tryz.func78 (by rfl) Tryz.ntmps78 Tryz.results78 (by rfl) (Nat.le_of_ble_eq_true rfl) rfl rfl rfl (vc ?_)
  refine callq_of false [] hlaid rfl (vc trivial) (vc trivial) ?_
  rintro r out ⟨rfl, rfl⟩
  unfold lyR lyH
  refine vc4 (by simp) (by simp) (by simp) ?_
  cases o with
  | none =>
    simp only [lyP, lyG, Option.isSome_none]
    refine vc ?_
    exact endQ_of [(1, 0), (2, 0)] (.tu [.sl 1 0, .sl 2 0, Bo false]) [some (.rw 3 1 []), some (.rw 115 3 [])] (by rfl) (vc trivial) (vc trivial) ⟨rfl, rfl⟩
  | some y =>
    obtain ⟨P, F, nx⟩ := y
    simp only [lyP, lyG, Option.isSome_some]
    refine vc ?_
    obtain ⟨f1, f2, f3, f4, f5⟩ := hft P F nx (Nat.le_refl _) rfl
    refine loopQ_of (fun i : Nat => [(7, .sl 1 P.length), (8, .sl 2 F.length), (10, .sl 3 (opsUp t P F i).length), (26, Rw (t.map (ndC true))), (27, In t.length), (28, In (i : Nat))])
      (fun i => [(1, .rw 3 1 (P.map inC)), (2, .rw 4 1 (F.map boC)), (3, .rw 115 3 ((opsUp t P F i).map (opC true)))]) 4
      (fun i => t.length - i) (fun i => i ≤ t.length) 0 (Nat.zero_le _) [(1, 57), (2, 58), (3, 137)] (by rfl) (vc ?_) (vc ?_) (fun i hi N hN => vc (brB_intro (fun h => ?_) (fun h => ?_)))
    · rfl
    · rfl
    · have h : i < t.length := by simpa using h
      have hn := List.getElem?_eq_getElem h
      have hTn := hT _ (List.getElem_mem h)
      have hle := pgN_le hT (List.getElem_mem h) P
      have hop : opAt t P i = (false, P.getD i 0, byO (pgB (pgN t[i] P))) := by
        unfold opAt; rw [List.getD_eq_getElem?_getD (l := t), hn]; rfl
      generalize t[i] = n at hn hTn hle hop
      have hb := List.getElem?_eq_getElem (show i < F.length by omega)
      have hbd : F.getD i false = F[i]'(by omega) := by rw [List.getD_eq_getElem?_getD, hb]; rfl
      generalize F[i]'(by omega) = b at hb hbd
      have hp := List.getElem?_eq_getElem (show i < P.length by omega)
      have hpd : P.getD i 0 = P[i]'(by omega) := by rw [List.getD_eq_getElem?_getD, hp]; rfl
      generalize P[i]'(by omega) = z at hp hpd
      have hnx := opsUp_next t P F i
      have hol := opsUp_len t P F i
      rw [hbd, hop, hpd] at hnx
      obtain ⟨np, nk, nc⟩ := n
      obtain ⟨hk, hk1, hk2, hk3, hk4, hk5, hk6⟩ := hTn
      simp only at hk hk1 hk2 hk3 hk4 hk5 hk6
      rw [get_map hn, ndC]
      refine vc ?_
      refine ⟨by omega, ?_⟩
      rw [get_map hb, boC]
      refine vc ?_
      cases b with
      | false =>
        refine vc ?_
        rw [if_neg (by simp), List.append_nil] at hnx
        refine hN _ (i + 1) [] h (by omega) (by rfl) (vc ?_) (vc ?_)
        · exact ⟨by rw [hnx], by rw [w64 _ (by omega)]; simp⟩
        · rw [hnx]
      | true =>
        refine vc ?_
        rw [if_pos rfl] at hnx
        rcases hk with ⟨rfl, rfl, hk⟩ | ⟨rfl, hk⟩
        · refine callq_of true [] (pageOfL_ok np P hk hk1) rfl (vc trivial) (vc trivial) ?_
          rintro r out ⟨rfl, rfl⟩
          refine vc4 (by simp) (by simp) (pgl_rs _ _) ?_
          have hpb := implPageBytes_ok _ hle
          unfold pgN Pg.rd at hpb
          simp only [List.nil_append, List.map_nil] at hpb
          refine callq_of true [] hpb rfl (vc trivial) (vc ?_) ?_
          · exact ⟨false, rfl⟩
          rintro r out ⟨rfl, rfl⟩
          unfold byR byH
          refine vc4 (by simp) (by simp) (by_rs rfl _) ?_
          refine ⟨by omega, ?_⟩
          rw [get_map hp, inC]
          refine vc ?_
          refine ⟨⟨by simp, by unfold maxLen; omega, by omega⟩, ?_⟩
          refine hN _ (i + 1) [(3, 236)] h (by omega) (by rfl) (vc ?_) (vc ?_)
          · exact ⟨by rw [hnx]; simp, by rw [w64 _ (by omega)]; simp⟩
          · rw [hnx, List.map_append]
            simp [pgN, opC]
        · refine callq_of false [1] (pageOfN_ok nk nc P hk hk3 (by rw [f1, hX1]; exact hk4)) rfl (vc trivial) (vc trivial) ?_
          rintro r out ⟨rfl, rfl⟩
          refine vc4 (by simp) (by simp) (by simp) ?_
          have hpb := implPageBytes_ok _ hle
          unfold pgN Pg.rd at hpb
          simp only [List.append_nil, List.map_nil] at hpb
          refine callq_of true [] hpb rfl (vc trivial) (vc ?_) ?_
          · exact ⟨false, rfl⟩
          rintro r out ⟨rfl, rfl⟩
          unfold byR byH
          refine vc4 (by simp) (by simp) (by_rs rfl _) ?_
          refine ⟨by omega, ?_⟩
          rw [get_map hp, inC]
          refine vc ?_
          refine ⟨⟨by simp, by unfold maxLen; omega, by omega⟩, ?_⟩
          refine hN _ (i + 1) [(3, 236)] h (by omega) (by rfl) (vc ?_) (vc ?_)
          · exact ⟨by rw [hnx]; simp, by rw [w64 _ (by omega)]; simp⟩
          · rw [hnx, List.map_append]
            simp [pgN, opC]
    · have h : i = t.length := by simp at h; omega
      subst h
      exact endQ_of [(1, 1), (2, 3)] (.tu [.sl 1 P.length, .sl 2 (opsUp t P F t.length).length, Bo true]) [some (.rw 3 1 (P.map inC)), some (.rw 115 3 ((opsUp t P F t.length).map (opC true)))] (by rfl) (vc trivial) (vc trivial) ⟨rfl, rfl⟩
end Go.Proofs.YtnnmpdanfeejbaaGreat.Abs

/- The draws: numbers. Weak contracts: that they come back, and within which bounds. -/
namespace Go.Proofs.YtnnmpdanfeejbaaGreat.Abs
open Go Go.Proofs
set_option maxRecDepth 10000
set_option linter.unusedVariables false
set_option linter.unusedSimpArgs false
end Go.Proofs.YtnnmpdanfeejbaaGreat.Abs

/- The draws: keys and values. Weak contracts. -/
namespace Go.Proofs.YtnnmpdanfeejbaaGreat.Abs
open Go Go.Proofs
set_option maxRecDepth 10000
set_option linter.unusedVariables false
set_option linter.unusedSimpArgs false
end Go.Proofs.YtnnmpdanfeejbaaGreat.Abs

/- The draws: trees put into. Weak contracts. -/
namespace Go.Proofs.YtnnmpdanfeejbaaGreat.Abs
open Go Go.Proofs
set_option maxRecDepth 10000
set_option linter.unusedVariables false
set_option linter.unusedSimpArgs false
def splitS (s : Sub) : List Sub :=
  if s.leaf = true ∧ 4 < s.ps.length then [.mk true (s.ps.take 3) [], .mk true (s.ps.drop 3) []]
  else if 4 < s.ks.length then [.mk false [] (s.ks.take 3), .mk false [] (s.ks.drop 3)] else [s]
theorem Sub.szL_app (a b : List Sub) : Sub.szL (a ++ b) = Sub.szL a + Sub.szL b := by
  induction a with
  | nil => simp [Sub.szL]
  | cons x r ih => rw [List.cons_append, Sub.szL, Sub.szL, ih]; omega
theorem Sub.sz_eq (s : Sub) : s.sz = 1 + Sub.szL s.ks := by cases s; rw [Sub.sz]; rfl
theorem splitS_ok (s : Sub) : (1 ≤ (splitS s).length ∧ (splitS s).length ≤ 2) ∧ Sub.szL (splitS s) ≤ s.sz + 1 ∧ (Sub.pairsL (splitS s)).length ≤ s.pairs.length ∧ ∀ q ∈ Sub.pairsL (splitS s), q ∈ s.pairs := by
  have h1 := Sub.sz_eq s
  have h2 := Sub.pairs_eq s
  unfold splitS
  split
  · refine ⟨by simp, ?_, ?_, ?_⟩
    · simp [Sub.szL, Sub.sz] <;> omega
    · rw [h2]; simp [Sub.pairsL, Sub.pairs] <;> omega
    · intro q hq
      rw [h2]
      refine List.mem_append_left _ ?_
      simpa [Sub.pairsL, Sub.pairs] using hq
  · split
    · have e : s.ks = s.ks.take 3 ++ s.ks.drop 3 := (List.take_append_drop 3 _).symm
      have e1 : Sub.szL s.ks = Sub.szL (s.ks.take 3) + Sub.szL (s.ks.drop 3) := by rw [← Sub.szL_app, ← e]
      have e2 : Sub.pairsL s.ks = Sub.pairsL (s.ks.take 3) ++ Sub.pairsL (s.ks.drop 3) := by rw [← Sub.pairsL_app, ← e]
      refine ⟨by simp, ?_, ?_, ?_⟩
      · simp [Sub.szL, Sub.sz] <;> omega
      · rw [h2, e2]; simp [Sub.pairsL, Sub.pairs]
      · intro q hq
        rw [h2, e2]
        simp [Sub.pairsL, Sub.pairs] at hq
        exact List.mem_append_right _ (List.mem_append.2 hq)
    · refine ⟨by simp, by simp [Sub.szL], by simp [Sub.pairsL], by simp [Sub.pairsL]⟩
/-- The cells of what is split. -/
def esS (s : Sub) : List (List CV) :=
  if s.leaf = true ∧ 4 < s.ps.length then [[.v (.bool true), .row false ((s.ps.take 3).map prC), .row true []], [.v (.bool true), .row false ((s.ps.drop 3).map prC), .row true []]]
  else if 4 < s.ks.length then [[.v (.bool false), .row true [], .row false ((s.ks.take 3).map (suC false))], [.v (.bool false), .row true [], .row false ((s.ks.drop 3).map (suC false))]]
  else [[.v (.bool s.leaf), .row false (s.ps.map prC), .row false (s.ks.map (suC false))]]
end Go.Proofs.YtnnmpdanfeejbaaGreat.Abs

/- The draws: a pair is put below. Weak contract. -/
namespace Go.Proofs.YtnnmpdanfeejbaaGreat.Abs
open Go Go.Proofs
set_option maxRecDepth 10000
set_option linter.unusedVariables false
set_option linter.unusedSimpArgs false
/-- Rows of cells that are the same but for the marks. -/
def SimR (xs ys : List (List CV)) : Prop := xs.length = ys.length ∧ ∀ (i : Nat) e e', xs[i]? = some e → ys[i]? = some e' → SimC e e'
theorem SimR.nil : SimR [] [] := ⟨rfl, fun i e e' h => by simp at h⟩
theorem SimR.cons {a b : List CV} {l m : List (List CV)} (h : SimC a b) (hl : SimR l m) : SimR (a :: l) (b :: m) := by
  refine ⟨by simp [hl.1], fun j c c' hc hc' => ?_⟩
  cases j with
  | zero => simp at hc hc'; subst hc hc'; exact h
  | succ j => exact hl.2 j c c' (by simpa using hc) (by simpa using hc')
theorem esS_sim (s : Sub) : SimR (esS s) ((splitS s).map (suC false)) ∧ (∀ e ∈ esS s, e.length = 3) ∧ allV (esS s) = false ∧ (esS s).length ≤ 2 := by
  unfold esS splitS
  split
  · refine ⟨?_, by simp, rfl, by simp⟩
    refine .cons ?_ (.cons ?_ .nil)
    · rw [suC_eq]; exact .v (.cons (sim_pr _ _ _ (by decide)) (.cons (sim_nil _ _ (by decide)) .nil))
    · rw [suC_eq]; exact .v (.cons (sim_pr _ _ _ (by decide)) (.cons (sim_nil _ _ (by decide)) .nil))
  · split
    · refine ⟨?_, by simp, rfl, by simp⟩
      refine .cons ?_ (.cons ?_ .nil)
      · rw [suC_eq]; exact .v (.cons (sim_nil _ _ (by decide)) (.cons (sim_su _ _ _ _ _ (by decide) (by decide)) .nil))
      · rw [suC_eq]; exact .v (.cons (sim_nil _ _ (by decide)) (.cons (sim_su _ _ _ _ _ (by decide) (by decide)) .nil))
    · refine ⟨?_, by simp, rfl, by simp⟩
      refine .cons ?_ .nil
      rw [suC_eq]; exact .v (.cons (sim_pr _ _ _ (by decide)) (.cons (sim_su _ _ _ _ _ (by decide) (by decide)) .nil))
theorem pairsL_sub {l : List Sub} {x : Sub} (h : x ∈ l) : ∀ q ∈ x.pairs, q ∈ Sub.pairsL l := by
  induction l with
  | nil => simp at h
  | cons y r ih =>
    intro q hq
    rw [Sub.pairsL, List.mem_append]
    rcases List.mem_cons.1 h with rfl | h
    · exact .inl hq
    · exact .inr (ih h q hq)
/-- What a put gives back. -/
def PutR (s : Sub) (p : Pr) (r : AV) (out : List (Option Ob)) : Prop := ∃ (es : List (List CV)) (l : List Sub), r = .sl 1 es.length ∧ out = [some (.rw 144 3 es)] ∧ SimR es (l.map (suC false)) ∧ (∀ e ∈ es, e.length = 3) ∧ allV es = false ∧ 1 ≤ l.length ∧ l.length ≤ 2 ∧ Sub.szL l ≤ 2 * s.sz ∧ (Sub.pairsL l).length ≤ s.pairs.length + 1 ∧ ∀ q ∈ Sub.pairsL l, q ∈ s.pairs ∨ q = p
theorem PutR.of {s s' : Sub} {p : Pr} (h1 : Sub.szL (splitS s') ≤ 2 * s.sz) (h2 : s'.pairs.length ≤ s.pairs.length + 1) (h3 : ∀ q ∈ s'.pairs, q ∈ s.pairs ∨ q = p) : PutR s p (.sl 1 (esS s').length) [some (.rw 144 3 (esS s'))] := by
  obtain ⟨a1, a2, a3, a4⟩ := splitS_ok s'
  obtain ⟨b1, b2, b3, b4⟩ := esS_sim s'
  exact ⟨esS s', splitS s', rfl, rfl, b1, b2, b3, a1.1, a1.2, h1, by omega, fun q hq => h3 q (a4 q hq)⟩
end Go.Proofs.YtnnmpdanfeejbaaGreat.Abs

/- The draws: a key is taken out below; a sub becomes a tree. Weak contracts. -/
namespace Go.Proofs.YtnnmpdanfeejbaaGreat.Abs
open Go Go.Proofs
set_option maxRecDepth 10000
set_option linter.unusedVariables false
set_option linter.unusedSimpArgs false
/-- What two siblings become. -/
def TogR (n m : Nat) (Q : Pr → Prop) (r : AV) (out : List (Option Ob)) : Prop := ∃ (es : List (List CV)) (l : List Sub), r = .sl 1 es.length ∧ out = [some (.rw 144 3 es)] ∧ SimR es (l.map (suC false)) ∧ (∀ e ∈ es, e.length = 3) ∧ allV es = false ∧ 1 ≤ l.length ∧ l.length ≤ 2 ∧ Sub.szL l ≤ n ∧ (Sub.pairsL l).length ≤ m ∧ ∀ q ∈ Sub.pairsL l, Q q
theorem TogR.of {s' : Sub} {n m : Nat} {Q : Pr → Prop} (h1 : s'.sz + 1 ≤ n) (h2 : s'.pairs.length ≤ m) (h3 : ∀ q ∈ s'.pairs, Q q) : TogR n m Q (.sl 1 (esS s').length) [some (.rw 144 3 (esS s'))] := by
  obtain ⟨a1, a2, a3, a4⟩ := splitS_ok s'
  obtain ⟨b1, b2, b3, b4⟩ := esS_sim s'
  exact ⟨esS s', splitS s', rfl, rfl, b1, b2, b3, a1.1, a1.2, by omega, by omega, fun q hq => h3 q (a4 q hq)⟩
end Go.Proofs.YtnnmpdanfeejbaaGreat.Abs

/- The draws: trees. Weak contracts. -/
namespace Go.Proofs.YtnnmpdanfeejbaaGreat.Abs
open Go Go.Proofs
set_option maxRecDepth 10000
set_option linter.unusedVariables false
set_option linter.unusedSimpArgs false
mutual
theorem Sub.least_mem : ∀ (s : Sub), s.least = ⟨#[]⟩ ∨ ∃ q ∈ s.pairs, s.least = q.k
  | .mk l ps ks => by
    have hf : fstK ps = ⟨#[]⟩ ∨ ∃ q ∈ ps ++ Sub.pairsL ks, fstK ps = q.k := by
      cases ps with
      | nil => exact .inl rfl
      | cons p r => exact .inr ⟨p, by simp, rfl⟩
    rw [Sub.least, Sub.pairs]
    split
    · exact hf
    · cases hk : Sub.leastL ks with
      | none => exact hf
      | some x =>
        rcases Sub.leastL_mem ks x hk with h | ⟨q, h1, h2⟩
        · exact .inl h
        · exact .inr ⟨q, List.mem_append_right _ h1, h2⟩
theorem Sub.leastL_mem : ∀ (l : List Sub) (x : ByteArray), Sub.leastL l = some x → x = ⟨#[]⟩ ∨ ∃ q ∈ Sub.pairsL l, x = q.k
  | [], x, h => by rw [Sub.leastL] at h; cases h
  | y :: r, x, h => by
    rw [Sub.leastL] at h
    cases h
    rw [Sub.pairsL]
    rcases Sub.least_mem y with h | ⟨q, h1, h2⟩
    · exact .inl h
    · exact .inr ⟨q, List.mem_append_left _ h1, h2⟩
end
theorem Sub.leasts_sz {M : Nat} (l : List Sub) (h : ∀ q ∈ Sub.pairsL l, q.k.size ≤ M) : ∀ k ∈ Sub.leasts l, k.size ≤ M := by
  intro k hk
  rw [Sub.leasts_eq] at hk
  obtain ⟨x, hx, rfl⟩ := List.mem_map.1 hk
  rcases Sub.least_mem x with e | ⟨q, h1, h2⟩
  · rw [e]; exact Nat.zero_le _
  · rw [h2]; exact h q (pairsL_sub hx q h1)
end Go.Proofs.YtnnmpdanfeejbaaGreat.Abs

/- Of a right tree: its subs. -/
namespace Go.Proofs.YtnnmpdanfeejbaaGreat.Abs
open Go Go.Proofs
set_option maxRecDepth 10000
set_option linter.unusedVariables false
set_option linter.unusedSimpArgs false
theorem bl_irr : ∀ l : List UInt8, Op.bytesLess l l = false
  | [] => rfl
  | x :: r => by simp [Op.bytesLess, bl_irr r]
theorem bl_trans : ∀ a b c : List UInt8, Op.bytesLess a b = true → Op.bytesLess b c = true → Op.bytesLess a c = true
  | [], _, [], h1, h2 => by
    rename_i b
    cases b <;> simp [Op.bytesLess] at h1 h2
  | [], _, _ :: _, h1, h2 => by simp [Op.bytesLess]
  | x :: a, [], c, h1, h2 => by simp [Op.bytesLess] at h1
  | x :: a, y :: b, [], h1, h2 => by simp [Op.bytesLess] at h2
  | x :: a, y :: b, z :: c, h1, h2 => by
    have ih := bl_trans a b c
    simp only [Op.bytesLess, Bool.or_eq_true, Bool.and_eq_true, decide_eq_true_eq, beq_iff_eq] at h1 h2 ⊢
    simp only [UInt8.lt_iff_toNat_lt] at h1 h2 ⊢
    rcases h1 with h1 | ⟨rfl, h1⟩ <;> rcases h2 with h2 | ⟨rfl, h2⟩
    · left; omega
    · left; exact h1
    · left; exact h2
    · right; exact ⟨rfl, ih h1 h2⟩
theorem pairsOk_nd {l : List Pr} (h : pairsOk l) : l.Nodup := by
  obtain ⟨_, _, h⟩ := h
  have key : ∀ (d i : Nat) (p q : Pr), l[i]? = some p → l[i + d + 1]? = some q → ltB p.k q.k = true := by
    intro d
    induction d with
    | zero => intro i p q hp hq; exact h i p q hp hq
    | succ d ih =>
      intro i p q hp hq
      have hlt := (List.getElem?_eq_some_iff.1 hq).1
      have hm := List.getElem?_eq_getElem (show i + d + 1 < l.length by omega)
      have h1 := ih i p _ hp hm
      have h2 := h (i + d + 1) _ q hm (by rw [← hq]; congr 1)
      exact bl_trans _ _ _ h1 h2
  rw [List.Nodup, List.pairwise_iff_getElem]
  intro i j hi hj hij e
  have hp := List.getElem?_eq_getElem hi
  have hq := List.getElem?_eq_getElem hj
  have := key (j - i - 1) i _ _ hp (by rw [show i + (j - i - 1) + 1 = j by omega]; exact hq)
  rw [e] at this
  unfold ltB at this
  rw [bl_irr] at this
  cases this
mutual
theorem Sub.pairs_ne : ∀ (s : Sub) (root : Bool), s.wf → s.full root = true → s.pairs ≠ [] ∧ ∀ z ∈ s.subs, z.pairs ≠ [] ∧ (z.leaf = true → z.ps ≠ [])
  | .mk l ps ks, root, hw, hf => by
    rw [Sub.wf] at hw
    rw [Sub.full] at hf
    have hne : (Sub.mk l ps ks).pairs ≠ [] ∧ ((Sub.mk l ps ks).leaf = true → (Sub.mk l ps ks).ps ≠ []) ∧ ∀ z ∈ Sub.subsL ks, z.pairs ≠ [] ∧ (z.leaf = true → z.ps ≠ []) := by
      rw [Sub.pairs]
      cases l with
      | true =>
        rw [if_pos rfl] at hf
        have : ps ≠ [] := by intro e; rw [e] at hf; simp at hf
        refine ⟨by simp [this], fun _ => this, ?_⟩
        rw [hw.1 rfl]
        intro z hz; simp [Sub.subsL] at hz
      | false =>
        rw [if_neg (by simp)] at hf
        simp only [Bool.and_eq_true, decide_eq_true_eq] at hf
        have hL := Sub.pairsL_ne ks hw.2 hf.2
        refine ⟨?_, fun e => by simp [Sub.leaf] at e, hL.2⟩
        have : ks ≠ [] := by intro e; rw [e] at hf; simp at hf
        simp [hL.1 this]
    refine ⟨hne.1, fun z hz => ?_⟩
    rw [Sub.subs] at hz
    rcases List.mem_cons.1 hz with rfl | hz
    · exact ⟨hne.1, hne.2.1⟩
    · exact hne.2.2 z hz
theorem Sub.pairsL_ne : ∀ (l : List Sub), Sub.wfL l → Sub.fullL l = true → (l ≠ [] → Sub.pairsL l ≠ []) ∧ ∀ z ∈ Sub.subsL l, z.pairs ≠ [] ∧ (z.leaf = true → z.ps ≠ [])
  | [], hw, hf => ⟨fun e => absurd rfl e, by intro z hz; simp [Sub.subsL] at hz⟩
  | x :: r, hw, hf => by
    rw [Sub.fullL, Bool.and_eq_true] at hf
    have h1 := Sub.pairs_ne x false hw.1 hf.1
    have h2 := Sub.pairsL_ne r hw.2 hf.2
    rw [Sub.pairsL, Sub.subsL]
    refine ⟨fun _ => by simp [h1.1], fun z hz => ?_⟩
    rcases List.mem_append.1 hz with hz | hz
    · exact h1.2 z hz
    · exact h2.2 z hz
end
open Classical in
/-- The subs of a right tree, in the order of its nodes. -/
noncomputable def subsOf (t : List Nd) : List Sub := if t = [] then [] else (rootT t).1.subs
theorem fm_le {l : List Pr} {B : Nat} (h : ∀ p ∈ l, (prL p).length ≤ B) : (l.flatMap prL).length ≤ l.length * B := by
  induction l with
  | nil => simp
  | cons x r ih =>
    have h1 := h x (List.mem_cons_self ..)
    have h2 := ih fun p hp => h p (List.mem_cons_of_mem _ hp)
    rw [List.flatMap_cons, List.length_append, List.length_cons, Nat.add_mul]
    omega
theorem tree_facts {t : List Nd} (h : specOk t) : TrS t (subsOf t) ∧ (∀ x ∈ subsOf t, x.wg) ∧ (subsOf t).Nodup ∧ TrN t ∧ ∀ (i : Nat) (x : Sub), (subsOf t)[i]? = some x → At t i (x.lay i) ∧ ∀ (j : Nat) (y : Sub), x.subs[j]? = some y → (subsOf t)[i + j]? = some y := by
  rcases (specOk_iff t).1 h with rfl | ⟨s, hg, hp⟩
  · unfold subsOf
    rw [if_pos rfl]
    exact ⟨⟨by simp, rfl, fun i x hx => by simp at hx⟩, by simp, by simp, fun n hn => by simp at hn, fun i x hx => by simp at hx⟩
  have hr := rootT_good hg hp
  have hb := good_bounds hg hp.1
  obtain ⟨hw, hf, hd, hl⟩ := hg
  have hne : t ≠ [] := by
    intro e
    have := (Sub.lay_len s 0).1
    rw [hl, e] at this; simp at this
  have hS : subsOf t = s.subs := by unfold subsOf; rw [if_neg hne, hr]
  rw [hS]
  have hwg := Sub.wg_of s true hw hf
  have hlen : s.subs.length = t.length := by rw [Sub.subs_len, ← hl, Sub.sz_lay_wg s 0 hwg]
  have hat := Sub.subs_at s t s.subs 0 hwg (by rw [hl]; exact At_self t 0) (fun i x hx => by rw [Nat.zero_add]; exact hx)
  simp only [Nat.zero_add] at hat
  have hpn := (Sub.pairs_ne s true hw hf).2
  have hnd := Sub.subs_nd s (pairsOk_nd hp) (fun z hz => (hpn z hz).1)
  have hwx : ∀ x ∈ s.subs, x.wg := fun x hx => by
    obtain ⟨i, hi⟩ := List.getElem?_of_mem hx
    exact (hat i x hi).2.1
  have hsz : s.sz = t.length := by rw [← Sub.subs_len]; exact hlen
  have hpx : ∀ x ∈ s.subs, x.pairs.length ≤ 200 ∧ ∀ p ∈ x.pairs, keyOk p.k ∧ valOk p.v := fun x hx => by
    obtain ⟨u, v, e⟩ := Sub.subs_pairs s x hx
    have h1 := hp.1
    rw [e] at h1
    refine ⟨by simp at h1; omega, fun p hm => hp.2.1 p (by rw [e]; simp [hm])⟩
  -- what lies at a place
  have hnode : ∀ (i : Nat) (x : Sub), s.subs[i]? = some x → ∃ n : Nd, t[i]? = some n ∧ n.ps = x.ps ∧ n.cs.length = x.ks.length ∧ (∀ (j : Nat) (y : Sub), x.ks[j]? = some y → ∃ p : Nat, n.cs[j]? = some (p : Int) ∧ i < p ∧ s.subs[p]? = some y) ∧ ((n.ks = [] ∧ n.cs = [] ∧ n.ps ≠ []) ∨ (n.ps = [] ∧ n.cs ≠ [])) ∧ n.ks.length ≤ x.ks.length ∧ ∀ k ∈ n.ks, k.size ≤ 16 := by
    intro i x hx
    have hm := List.mem_of_getElem? hx
    obtain ⟨h1, h2, h3⟩ := hat i x hx
    obtain ⟨l, ps, ks⟩ := x
    rw [Sub.wg] at h2
    simp only [Sub.ps, Sub.ks]
    rcases h2 with ⟨⟨rfl, rfl⟩ | ⟨rfl, rfl, h4⟩, h5⟩
    · rw [Sub.lay, if_pos rfl] at h1
      exact ⟨_, h1.1, rfl, rfl, fun j y hy => by simp at hy, .inl ⟨rfl, rfl, (hpn _ hm).2 rfl⟩, by simp, by simp⟩
    · rw [Sub.lay, if_neg (by simp)] at h1
      refine ⟨_, h1.1, rfl, by simp only [Sub.plcs_len], fun j y hy => ?_, .inr ⟨rfl, ?_⟩, ?_, ?_⟩
      · obtain ⟨p, q1, q2, q3⟩ := Sub.plcs_at ks (i + 1) j y h5 hy
        refine ⟨i + 1 + p, q1, by omega, ?_⟩
        have := h3 (1 + p) y (by rw [Sub.subs, Nat.add_comm 1 p, List.getElem?_cons_succ]; exact q2)
        rw [← this]; congr 1; omega
      · intro e
        have := Sub.plcs_len ks (i + 1)
        simp only at e
        rw [e] at this
        exact h4 (List.length_eq_zero_iff.1 this.symm)
      · simp only [Sub.leasts_eq, List.length_drop, List.length_map]; omega
      · intro k hk
        refine Sub.leasts_sz (M := 16) ks (fun q hq => ?_) k (List.mem_of_mem_drop hk)
        have := ((hpx _ hm).2 q (by rw [Sub.pairs]; simpa using hq)).1
        exact this.2
  have hxx : ∀ x ∈ s.subs, x.ps.length ≤ 200 ∧ x.ks.length ≤ 400 := fun x hx => by
    have h1 := (hpx x hx).1
    have h2 := Sub.subs_sz s x hx
    have h3 := Sub.ks_len x
    rw [Sub.pairs_eq, List.length_append] at h1
    omega
  have hpp : ∀ x ∈ s.subs, ∀ p ∈ x.ps, p.k.size ≤ 16 ∧ p.v.size ≤ 60 := fun x hx p hq => by
    have := (hpx x hx).2 p (by rw [Sub.pairs_eq]; exact List.mem_append_left _ hq)
    exact ⟨this.1.2, this.2⟩
  refine ⟨⟨hb.1, hlen, fun i x hx => ?_⟩, hwx, hnd, fun n hn => ?_, fun i x hx => ⟨(hat i x hx).1, fun j y hy => (hat i x hx).2.2 j y hy⟩⟩
  · have hm := List.mem_of_getElem? hx
    obtain ⟨n, q1, q2, q3, q4, _⟩ := hnode i x hx
    refine ⟨?_, fun p hq => by have := hpp x hm p hq; omega, by have := (hxx x hm).1; omega, by have := (hxx x hm).2; omega, n, q1, q2, q3, q4⟩
    rw [sgn_len]
    have h1 := Sub.subs_sz s x hm
    have h2 := fm_le (l := x.pairs) (B := 400) (fun p hq => by
      have := (hpx x hm).2 p hq
      obtain ⟨⟨_, a⟩, b⟩ := this
      unfold valOk at b
      unfold prL
      have c1 := quoteL_len p.k.data.toList
      have c2 := quoteL_len p.v.data.toList
      have l5 : p.k.data.toList.length = p.k.size := by rw [Array.length_toList]; rfl
      have l6 : p.v.data.toList.length = p.v.size := by rw [Array.length_toList]; rfl
      rw [List.length_append]; omega)
    have h3 := (hpx x hm).1
    have := Nat.mul_le_mul_right 400 h3
    omega
  · obtain ⟨i, hi⟩ := List.getElem?_of_mem hn
    have hil := (List.getElem?_eq_some_iff.1 hi).1
    have hx := List.getElem?_eq_getElem (show i < s.subs.length by omega)
    have hm := List.getElem_mem (show i < s.subs.length by omega)
    generalize s.subs[i]'(by omega) = x at hx hm
    obtain ⟨n', q1, q2, q3, q4, q5, q6, q7⟩ := hnode i x hx
    rw [hi] at q1
    cases q1
    have hz := hxx x hm
    refine ⟨q5, by rw [q2]; omega, by omega, by omega, fun c hc => ?_, fun k hk => by have := q7 k hk; omega, fun p hq => by rw [q2] at hq; have := hpp x hm p hq; omega⟩
    obtain ⟨j, hj⟩ := List.getElem?_of_mem hc
    have hjl := (List.getElem?_eq_some_iff.1 hj).1
    have hy := List.getElem?_eq_getElem (show j < x.ks.length by omega)
    obtain ⟨p, r1, r2, r3⟩ := q4 j _ hy
    rw [hj] at r1
    cases r1
    have := (List.getElem?_eq_some_iff.1 r3).1
    omega
end Go.Proofs.YtnnmpdanfeejbaaGreat.Abs

/- Of a right store: where its pages lie; what both sides lay. -/
namespace Go.Proofs.YtnnmpdanfeejbaaGreat.Abs
open Go Go.Proofs
set_option maxRecDepth 10000
set_option linter.unusedVariables false
set_option linter.unusedSimpArgs false
def plOk (d : Dk) (l : List Int) : Prop := ∀ p ∈ l, 2 ≤ p ∧ p < d.sh.length
theorem loadK_pl {d : Dk} {ld : Int → LS → Option LS} (hld : ∀ k s s', 2 ≤ k → plOk d s.2 → ld k s = some s' → plOk d s'.2) {me : Nat} : ∀ (cs : List Int) (s s' : LS), (∀ c ∈ cs, 2 ≤ c) → plOk d s.2 → loadK ld me cs s = some s' → plOk d s'.2
  | [], s, s', hc, hs, h => by cases h; exact hs
  | k :: r, s, s', hc, hs, h => by
    unfold loadK at h
    split at h
    · rename_i s1 hs1
      exact loadK_pl hld r s1 s' (fun c hm => hc c (List.mem_cons_of_mem _ hm)) (hld k (addKid me s.1, s.2) s1 (hc k (List.mem_cons_self ..)) hs hs1) h
    · cases h
theorem loadL_pl (d : Dk) : ∀ (f : Nat) (a : Int) (s s' : LS), 2 ≤ a → plOk d s.2 → loadL d f a s = some s' → plOk d s'.2
  | 0, a, s, s', ha, hs, h => by simp [loadL] at h
  | f + 1, a, s, s', ha, hs, h => by
    unfold loadL at h
    split at h
    · cases h
    · rename_i p hp
      split at h
      · cases h
      · have hk := pgAt_ok hp
        refine loadK_pl (fun k s s' h1 h2 h3 => loadL_pl d f k s s' h1 h2 h3) p.cs _ s' (fun c hc => (hk.1.2.2.1 c hc).1) ?_ h
        intro q hq
        rcases List.mem_append.1 hq with hq | hq
        · exact hs q hq
        · rw [List.mem_singleton] at hq; subst hq; exact ⟨ha, hk.2.2.2⟩
theorem mtSt_rt (d : Dk) : ∀ i, (mtSt d i).2 = 0 ∨ 2 ≤ (mtSt d i).2
  | 0 => .inl rfl
  | i + 1 => by
    rw [mtSt]
    cases hm : mtOf (rdD d i) with
    | none => exact mtSt_rt d i
    | some m =>
      simp only [mtStep]
      split
      · unfold mtOf at hm
        split at hm
        · rename_i hk
          cases hm
          have := hk.1.2
          simp only
          omega
        · cases hm
      · exact mtSt_rt d i
theorem store_facts {s : St} (h : storeOk s) : specOk s.t ∧ s.ps.length = s.t.length ∧ s.d.sh.length ≤ 400 ∧ ∀ p ∈ s.ps, 2 ≤ p ∧ p < s.d.sh.length := by
  obtain ⟨h0, h1, h2, h3⟩ := h
  unfold openS at h0 h2 h3
  by_cases hd : s.d.ok ∧ s.d.wr = []
  case neg => rw [openC_1 hd] at h0; cases h0
  by_cases hg : (mtD s.d).1 = 0
  · rw [openC_2 hd hg] at h0; cases h0
  cases ht : treeC (mtD s.d).2 (loadL s.d 401 ((mtD s.d).2 : Int) ([], [])) with
  | none => rw [openC_3 hd hg ht] at h0; cases h0
  | some q =>
    rw [openC_0 hd hg ht] at h2 h3
    simp only at h2 h3
    rw [← h2, ← h3]
    unfold treeC at ht
    split at ht
    · cases ht; exact ⟨.inl rfl, rfl, hd.1.1.2.1, by simp⟩
    · rename_i hr
      split at ht
      · rename_i q' hq
        split at ht
        · rename_i hs
          cases ht
          have hl := loadL_ok s.d 401 _ _ _ hq
          have h2r : 2 ≤ ((mtD s.d).2 : Int) := by
            unfold mtD at hr ⊢
            rw [if_pos hd.1] at hr ⊢
            have := mtSt_rt s.d 2
            omega
          refine ⟨hs, ?_, hd.1.1.2.1, loadL_pl s.d 401 _ _ _ h2r (by intro p hp; simp at hp) hq⟩
          have := hl.len
          simp at this; omega
        · cases ht
      · cases ht
/-- What both sides lay. -/
noncomputable def lyS (s : St) (t : List Nd) : Option LY := open Classical in if storeOk s ∧ specOk t then lyF (fndS (subsOf s.t) s.ps) s.ps s.d.sh.length (subsOf t) else none
theorem lyS_pos {s : St} {t : List Nd} (h : storeOk s ∧ specOk t) : lyS s t = lyF (fndS (subsOf s.t) s.ps) s.ps s.d.sh.length (subsOf t) := by unfold lyS; rw [if_pos h]
theorem lyS_neg {s : St} {t : List Nd} (h : ¬ (storeOk s ∧ specOk t)) : lyS s t = none := by unfold lyS; rw [if_neg h]
theorem implLay_ok (s : St) (t : List Nd) (hf : s.fits (2^40)) (ht : small t) : CallOk Tryz.prog 26 [] [s.rd, .ag [Rw (t.map (ndC true))]] (fun r out => r = laR t (lyS s t) ∧ out = laH t (lyS s t)) := by
  have c1 := implStoreOk_ok s hf
  have c2 := implTreeOk_ok ht
  unfold treeAg at c2
  have c3 := fun (h1 : storeOk s) (h2 : specOk t) => by
    obtain ⟨f1, f2, f3, f4⟩ := store_facts h1
    obtain ⟨g1, g2, g3, g4, g5⟩ := tree_facts f1
    obtain ⟨k1, k2, k3, k4, k5⟩ := tree_facts h2
    exact implLay0_ok s t (subsOf s.t) (subsOf t) g1 k1 g2 k2 g3 (by rw [f2, g1.2.1]) f3 f4 k4
  unfold St.rd at *
  refine callOk_z (np := 0) {} mixed Tryz.func26 (by rfl) Tryz.ntmps26 Tryz.results26 (by rfl) (Nat.le_of_ble_eq_true rfl) rfl rfl rfl (vc ?_)
  refine callq_of false [] c1 rfl (vc trivial) (vc trivial) ?_
  rintro r out ⟨rfl, rfl⟩
  refine vc4 (by simp) (by simp) (by simp) ?_
  have hno : ∀ H : Hp, ¬ (storeOk s ∧ specOk t) → EndQ 0 H (.tu [.nul, .nul, Bo false]) (fun r out => r = laR t (lyS s t) ∧ out = laH t (lyS s t)) := fun H e => by
    rw [lyS_neg e]
    exact endQ_of [(1, 0), (2, 0)] (.tu [.sl 1 0, .sl 2 0, Bo false]) [some (.rw 3 1 []), some (.rw 115 3 [])] (by rfl) (vc trivial) (vc trivial) ⟨rfl, rfl⟩
  by_cases e1 : storeOk s
  case neg => rw [tf_false e1]; refine vc ?_; exact hno _ (fun e => e1 e.1)
  rw [tf_true e1]
  refine vc ?_
  refine callq_of false [] c2 rfl (vc trivial) (vc trivial) ?_
  rintro r out ⟨rfl, rfl⟩
  refine vc4 (by simp) (by simp) (by simp) ?_
  by_cases e2 : specOk t
  case neg => rw [tf_false e2]; refine vc ?_; exact hno _ (fun e => e2 e.2)
  rw [tf_true e2]
  refine vc ?_
  have c3 := c3 e1 e2
  rw [lyS_pos ⟨e1, e2⟩]
  refine callq_of false [] c3 rfl (vc trivial) (vc trivial) ?_
  rintro r out ⟨rfl, rfl⟩
  unfold laR laH
  refine vc4 (by simp) (by simp) (by simp) ?_
  generalize lyF (fndS (subsOf s.t) s.ps) s.ps s.d.sh.length (subsOf t) = o
  exact endQ_of [(1, 121), (2, 122)] (.tu [.sl 1 (lyP o).length, .sl 2 (laO t o).length, Bo o.isSome]) [some (.rw 3 1 ((lyP o).map inC)), some (.rw 115 3 ((laO t o).map (opC true)))] (by rfl) (vc trivial) (vc trivial) ⟨rfl, rfl⟩
end Go.Proofs.YtnnmpdanfeejbaaGreat.Abs

/- What is laid: the reference's side. -/
namespace Go.Proofs.YtnnmpdanfeejbaaGreat.Abs
open Go Go.Proofs
set_option maxRecDepth 10000
set_option linter.unusedVariables false
set_option linter.unusedSimpArgs false
/-- A node, its kids' places from a place on. -/
def rel (i : Int) (n : Nd) : Nd := ⟨n.ps, n.ks, n.cs.map (· - i)⟩
theorem Sub.plcs_sh : ∀ (l : List Sub) (a i : Nat), Sub.wgL l → (Sub.plcs (a + i) l).map (fun c => c - (i : Int)) = Sub.plcs a l
  | [], a, i, h => rfl
  | x :: r, a, i, h => by
    have h1 := Sub.sz_lay_wg x (a + i) h.1
    have h2 := Sub.sz_lay_wg x a h.1
    rw [Sub.plcs, Sub.plcs, List.map_cons, h1, h2, ← Sub.plcs_sh r (a + x.sz) i h.2]
    congr 1
    · omega
    · congr 2; omega
mutual
theorem Sub.lay_sh : ∀ (x : Sub) (a i : Nat), x.wg → (x.lay (a + i)).map (rel i) = x.lay a
  | .mk l ps ks, a, i, h => by
    rw [Sub.wg] at h
    rw [Sub.lay, Sub.lay]
    split
    · rfl
    · have h1 := Sub.plcs_sh ks (a + 1) i h.2
      have h2 := Sub.layL_sh ks (a + 1) i h.2
      rw [List.map_cons, show a + i + 1 = a + 1 + i by omega, h2, rel, h1]
theorem Sub.layL_sh : ∀ (l : List Sub) (a i : Nat), Sub.wgL l → (Sub.layL (a + i) l).map (rel i) = Sub.layL a l
  | [], a, i, h => rfl
  | x :: r, a, i, h => by
    have h1 := Sub.sz_lay_wg x (a + i) h.1
    have h2 := Sub.sz_lay_wg x a h.1
    rw [Sub.layL, Sub.layL, List.map_append, Sub.lay_sh x a i h.1, h1, h2, show a + i + x.sz = a + x.sz + i by omega, Sub.layL_sh r (a + x.sz) i h.2]
end
mutual
theorem Sub.lay_dec : ∀ (x y : Sub) (a : Nat) (r r' : List Nd), x.wg → y.wg → x.lay a ++ r = y.lay a ++ r' → x = y ∧ r = r'
  | .mk l ps ks, .mk l' ps' ks', a, r, r', h, h', e => by
    rw [Sub.wg] at h h'
    rw [Sub.lay, Sub.lay] at e
    rcases h with ⟨⟨rfl, rfl⟩ | ⟨rfl, rfl, hk⟩, hw⟩ <;> rcases h' with ⟨⟨rfl, rfl⟩ | ⟨rfl, rfl, hk'⟩, hw'⟩
    · simp at e
      exact ⟨by rw [e.1], e.2⟩
    · simp at e
      have := congrArg List.length e.1.2.2
      rw [Sub.plcs_len] at this
      simp at this
      exact absurd this hk'
    · simp at e
      have := congrArg List.length e.1.2.2
      rw [Sub.plcs_len] at this
      simp at this
      exact absurd this hk
    · rw [if_neg (by simp), if_neg (by simp), List.cons_append, List.cons_append, List.cons.injEq] at e
      have hl := congrArg (fun n : Nd => n.cs.length) e.1
      simp only [Sub.plcs_len] at hl
      obtain ⟨e1, e2⟩ := Sub.layL_dec ks ks' (a + 1) r r' hl hw hw' e.2
      exact ⟨by rw [e1], e2⟩
theorem Sub.layL_dec : ∀ (l l' : List Sub) (a : Nat) (r r' : List Nd), l.length = l'.length → Sub.wgL l → Sub.wgL l' → Sub.layL a l ++ r = Sub.layL a l' ++ r' → l = l' ∧ r = r'
  | [], [], a, r, r', hl, hw, hw', e => by simpa [Sub.layL] using e
  | [], _ :: _, a, r, r', hl, hw, hw', e => by simp at hl
  | _ :: _, [], a, r, r', hl, hw, hw', e => by simp at hl
  | x :: l, y :: l', a, r, r', hl, hw, hw', e => by
    rw [Sub.layL, Sub.layL, List.append_assoc, List.append_assoc] at e
    obtain ⟨rfl, e2⟩ := Sub.lay_dec x y a _ _ hw.1 hw'.1 e
    obtain ⟨rfl, e4⟩ := Sub.layL_dec l l' _ r r' (by simpa using hl) hw.2 hw'.2 e2
    exact ⟨rfl, e4⟩
end
theorem At_get {t : List Nd} : ∀ {l : List Nd} {a m : Nat} {n : Nd}, At t a l → l[m]? = some n → t[a + m]? = some n
  | [], a, m, n, h, hm => by simp at hm
  | x :: l, a, 0, n, h, hm => by simp at hm; subst hm; exact h.1
  | x :: l, a, m + 1, n, h, hm => by
    have := At_get h.2 (by simpa using hm)
    rw [← this]; congr 1; omega
/-- Two subs by their nodes: alike where all the nodes are, from their places on. -/
theorem alike_iff {t u : List Nd} {i k : Nat} {x y : Sub} (hx : x.wg) (hy : y.wg) (ht : At t i (x.lay i)) (hu : At u k (y.lay k)) (hz : x.sz = y.sz) : x = y ↔ ∀ m < x.sz, ∃ a b, t[i + m]? = some a ∧ u[k + m]? = some b ∧ rel i a = rel k b := by
  have l1 := Sub.sz_lay_wg x i hx
  have l2 := Sub.sz_lay_wg y k hy
  have s1 := Sub.lay_sh x 0 i hx
  have s2 := Sub.lay_sh y 0 k hy
  rw [Nat.zero_add] at s1 s2
  constructor
  · rintro rfl m hm
    have h1 := List.getElem?_eq_getElem (show m < (x.lay i).length by omega)
    have h2 := List.getElem?_eq_getElem (show m < (x.lay k).length by omega)
    refine ⟨_, _, At_get ht h1, At_get hu h2, ?_⟩
    have h3 := congrArg (fun l => l[m]?) (s1.trans s2.symm)
    simp only [List.getElem?_map, h1, h2, Option.map_some, Option.some.injEq] at h3
    exact h3
  · intro h
    have : x.lay 0 = y.lay 0 := by
      rw [← s1, ← s2]
      apply List.ext_getElem?
      intro m
      rw [List.getElem?_map, List.getElem?_map]
      by_cases hm : m < x.sz
      · obtain ⟨a, b, e1, e2, e3⟩ := h m hm
        have h1 := List.getElem?_eq_getElem (show m < (x.lay i).length by omega)
        have h2 := List.getElem?_eq_getElem (show m < (y.lay k).length by omega)
        have q1 := At_get ht h1
        have q2 := At_get hu h2
        rw [e1] at q1
        rw [e2] at q2
        cases q1; cases q2
        rw [h1, h2, Option.map_some, Option.map_some, e3]
      · rw [List.getElem?_eq_none (by omega), List.getElem?_eq_none (by omega)]; rfl
    exact (Sub.lay_dec x y 0 [] [] hx hy (by rw [this])).1
theorem Sub.plcs_last : ∀ (l : List Sub) (a : Nat), Sub.wgL l → l ≠ [] → ∃ (p : Nat) (y : Sub), (Sub.plcs a l)[l.length - 1]? = some ((a + p : Nat) : Int) ∧ (Sub.subsL l)[p]? = some y ∧ p + y.sz = Sub.szL l
  | [], a, hw, h => absurd rfl h
  | [x], a, hw, h => ⟨0, x, by simp [Sub.plcs], by rw [Sub.subsL, Sub.subs_eq]; rfl, by simp [Sub.szL]⟩
  | x :: y :: r, a, hw, h => by
    obtain ⟨p, z, h1, h2, h3⟩ := Sub.plcs_last (y :: r) (a + (x.lay a).length) hw.2 (by simp)
    have hx := Sub.sz_lay_wg x a hw.1
    refine ⟨x.sz + p, z, ?_, ?_, ?_⟩
    · rw [Sub.plcs]
      simp only [List.length_cons, Nat.add_sub_cancel] at h1 ⊢
      rw [List.getElem?_cons_succ, h1, hx]; congr 2; omega
    · rw [Sub.subsL, List.getElem?_append_right (by rw [Sub.subs_len]; omega), Sub.subs_len, ← h2]; congr 1; omega
    · rw [Sub.szL]; omega
/-- What the reference needs of a tree. -/
def TrE (t : List Nd) (S : List Sub) : Prop := t.length ≤ 400 ∧ S.length = t.length ∧ (∀ n ∈ t, n.ps.length ≤ 4096 ∧ n.ks.length ≤ 4096 ∧ n.cs.length ≤ 4096 ∧ ∀ c ∈ n.cs, 0 ≤ c ∧ c < t.length) ∧ ∀ (i : Nat) (x : Sub), S[i]? = some x → x.wg ∧ At t i (x.lay i) ∧ i + x.sz ≤ t.length ∧ ∃ n : Nd, t[i]? = some n ∧ (n.cs = [] → x.sz = 1) ∧ (n.cs ≠ [] → ∃ (p : Nat) (y : Sub), n.cs[n.cs.length - 1]? = some (p : Int) ∧ S[p]? = some y ∧ y.sz < x.sz ∧ p + y.sz = i + x.sz)
theorem trE_of {t : List Nd} (h : specOk t) : TrE t (subsOf t) := by
  obtain ⟨h1, h2, h3, h4, h5⟩ := tree_facts h
  refine ⟨h1.1, h1.2.1, fun n hn => ⟨(h4 n hn).2.1, (h4 n hn).2.2.1, (h4 n hn).2.2.2.1, (h4 n hn).2.2.2.2.1⟩, fun i x hx => ?_⟩
  have hw := h2 x (List.mem_of_getElem? hx)
  obtain ⟨ha, hs⟩ := h5 i x hx
  have hl := Sub.sz_lay_wg x i hw
  have hz := x.sz_pos
  have hil : i + x.sz ≤ t.length := by
    rcases At_len ha with e | e
    · rw [e] at hl; simp at hl; omega
    · omega
  refine ⟨hw, ha, hil, ?_⟩
  obtain ⟨l, ps, ks⟩ := x
  rw [Sub.wg] at hw
  rw [Sub.sz] at hil ⊢
  rcases hw with ⟨⟨rfl, rfl⟩ | ⟨rfl, rfl, hk⟩, hw⟩
  · rw [Sub.lay, if_pos rfl] at ha
    exact ⟨_, ha.1, fun _ => rfl, fun e => absurd rfl e⟩
  · rw [Sub.lay, if_neg (by simp)] at ha
    refine ⟨_, ha.1, fun e => ?_, fun _ => ?_⟩
    · have := Sub.plcs_len ks (i + 1)
      simp only at e
      rw [e] at this
      exact absurd (List.length_eq_zero_iff.1 this.symm) hk
    · obtain ⟨p, y, q1, q2, q3⟩ := Sub.plcs_last ks (i + 1) hw hk
      refine ⟨i + 1 + p, y, ?_, ?_, by omega, by omega⟩
      · simp only [Sub.plcs_len]; exact q1
      · have := hs (1 + p) y (by rw [Sub.subs, Nat.add_comm 1 p, List.getElem?_cons_succ]; exact q2)
        rw [← this]; congr 1; omega
theorem l06Ends_ok (t : List Nd) (S : List Sub) (hT : TrE t S) : ∀ (n i : Nat) (x : Sub), x.sz ≤ n → S[i]? = some x → CallOk Tryz.prog 129 [] [treeAg t, In (i : Nat)] (fun r out => r = In ((i + x.sz : Nat) : Int) ∧ out = []) := by
  intro n
  induction n with
  | zero => intro i x hn; have := x.sz_pos; omega
  | succ n ih =>
    intro i x hn hx
    obtain ⟨hT1, hT2, hT3, hT4⟩ := hT
    obtain ⟨_, _, hil, nd, hnd, h1, h2⟩ := hT4 i x hx
    have hz := x.sz_pos
    unfold treeAg at *
    refine callOk_z (np := 0) {} mixed Tryz.func129 (by rfl) Tryz.ntmps129 Tryz.results129 (by rfl) (Nat.le_of_ble_eq_true rfl) rfl rfl rfl (vc ?_)
    have hm := List.mem_of_getElem? hnd
    obtain ⟨np, nk, nc⟩ := nd
    rw [get_map hnd, ndC]
    refine vc (brB_intro (fun h => ?_) (fun h => ?_))
    · have h : nc = [] := by simpa using h
      rw [h1 h, w64 _ (by omega)]
      exact EndQ.closed (.v _) ⟨by simp, rfl⟩
    · have h : nc ≠ [] := by simpa using h
      obtain ⟨p, y, q1, q2, q3, q4⟩ := h2 h
      simp only at q1
      have hl : 0 < nc.length := List.length_pos_iff.2 h
      have hcl := (hT3 _ hm).2.2.1
      simp only at hcl
      refine drawQ_of false (by rfl) (by simp) (vc ?_)
      have e : IntKind.i64.wrap ((nc.length : Int) - 1) = ((nc.length - 1 : Nat) : Int) := by rw [w64 _ (by omega)]; omega
      rw [e]
      refine vc ?_
      rw [get_map q1, inC]
      refine vc ?_
      refine calld_of [] false [] (ih p y (by omega) q2) rfl (vc trivial) (vc trivial) (by rfl) ⟨_, _, rfl, rfl⟩ ?_
      rintro r out ⟨rfl, rfl⟩
      refine ⟨by simp, by simp, by simp, vc ?_⟩
      repeat refine ⟨rfl, ?_⟩
      rw [q4]
      exact EndQ.closed (.v _) ⟨rfl, rfl⟩
theorem l06Alike_ok (t u : List Nd) (S U : List Sub) (hT : TrE t S) (hU : TrE u U) (i k : Nat) (x y : Sub) (hx : S[i]? = some x) (hy : U[k]? = some y) : CallOk Tryz.prog 73 [] [treeAg t, In (i : Nat), treeAg u, In (k : Nat)] (fun r out => r = Bo (tf (x = y)) ∧ out = []) := by
  have c1 := l06Ends_ok t S hT x.sz i x (Nat.le_refl _) hx
  have c2 := l06Ends_ok u U hU y.sz k y (Nat.le_refl _) hy
  obtain ⟨hT1, hT2, hT3, hT4⟩ := hT
  obtain ⟨hU1, hU2, hU3, hU4⟩ := hU
  obtain ⟨x1, x2, x3, _⟩ := hT4 i x hx
  obtain ⟨y1, y2, y3, _⟩ := hU4 k y hy
  unfold treeAg at *
  refine callOk_z (np := 0) {} mixed Tryz.func73 (by rfl) Tryz.ntmps73 Tryz.results73 (by rfl) (Nat.le_of_ble_eq_true rfl) rfl rfl rfl (vc ?_)
  have hno : ∀ H : Hp, x ≠ y → EndQ 0 H (Bo false) (fun r out => r = Bo (tf (x = y)) ∧ out = []) := fun H e => EndQ.closed (.v _) ⟨by rw [tf_false e], rfl⟩
  refine callq_of false [] c1 rfl (vc trivial) (vc trivial) ?_
  rintro r out ⟨rfl, rfl⟩
  refine vc4 (by simp) (by simp) (by simp) ?_
  refine callq_of false [] c2 rfl (vc trivial) (vc trivial) ?_
  rintro r out ⟨rfl, rfl⟩
  refine vc4 (by simp) (by simp) (by simp) ?_
  have e1 : IntKind.i64.wrap (((i + x.sz : Nat) : Int) - i) = (x.sz : Nat) := by rw [w64 _ (by omega)]; omega
  have e2 : IntKind.i64.wrap (((k + y.sz : Nat) : Int) - k) = (y.sz : Nat) := by rw [w64 _ (by omega)]; omega
  rw [e1, e2]
  refine brB_intro (fun h => hno _ (fun e => by subst e; simp at h)) (fun h => ?_)
  have hz : x.sz = y.sz := by simp at h; omega
  have hai := alike_iff x1 y1 x2 y2 hz
  refine loopQ_of (fun j : Nat => [(1, In (i : Nat)), (3, In (k : Nat)), (4, .pt 1 0 0), (6, .pt 2 0 0), (9, In (x.sz : Nat)), (10, In (j : Nat))]) (fun j => [(1, .box 33 [Rw (t.map (ndC false))]), (2, .box 33 [Rw (u.map (ndC false))])]) 3 (fun j => x.sz - j) (fun j => j ≤ x.sz ∧ ∀ m < j, ∃ a b, t[i + m]? = some a ∧ u[k + m]? = some b ∧ rel i a = rel k b) 0 ⟨Nat.zero_le _, fun m hm => absurd hm (by omega)⟩ [(2, 9)] (by rfl) (vc ?_) (vc ?_) (fun j ⟨hj1, hj2⟩ N hN => vc (brB_intro (fun h => ?_) (fun h => ?_)))
  · trivial
  · trivial
  · have h : j < x.sz := by simpa using h
    have ha := List.getElem?_eq_getElem (show i + j < t.length by omega)
    have hb := List.getElem?_eq_getElem (show k + j < u.length by omega)
    have ha' := hT3 _ (List.getElem_mem (show i + j < t.length by omega))
    have hb' := hU3 _ (List.getElem_mem (show k + j < u.length by omega))
    generalize t[i + j]'(by omega) = a at ha ha'
    generalize u[k + j]'(by omega) = b at hb hb'
    have hne : rel i a ≠ rel k b → x ≠ y := fun e1 e2 => by
      obtain ⟨a', b', q1, q2, q3⟩ := hai.1 e2 j h
      rw [ha] at q1
      rw [hb] at q2
      cases q1; cases q2
      exact e1 q3
    obtain ⟨p1, k1, c1⟩ := a
    obtain ⟨p2, k2, c2⟩ := b
    simp only at ha' hb'
    have w1 : IntKind.i64.wrap ((i : Int) + j) = ((i + j : Nat) : Int) := by rw [w64 _ (by omega)]; simp
    have w2 : IntKind.i64.wrap ((k : Int) + j) = ((k + j : Nat) : Int) := by rw [w64 _ (by omega)]; simp
    rw [w1]
    refine vc ?_
    rw [get_map ha, ndC]
    refine vc ?_
    rw [w2]
    refine vc ?_
    rw [get_map hb, ndC]
    refine vc ?_
    refine brB_intro (fun h2 => hno _ (hne (fun e => ?_))) (fun h2 => ?_)
    · have := congrArg (fun n : Nd => n.cs.length) e
      simp [rel] at this
      simp at h2
      omega
    have h2 : c1.length = c2.length := by simp at h2; omega
    refine loopQ_of (fun l : Nat => [(1, In (i : Nat)), (3, In (k : Nat)), (4, .pt 1 0 0), (6, .pt 2 0 0), (9, In (x.sz : Nat)), (10, In (j : Nat)), (11, .pt 3 0 0), (12, .pt 4 0 0), (54, In c1.length), (55, In (l : Nat))]) (fun l => [(1, .box 33 [Rw (t.map (ndC false))]), (2, .box 33 [Rw (u.map (ndC false))]), (3, .box 111 [Rw (p1.map prC), Rw (k1.map stC), Rw (c1.map inC)]), (4, .box 111 [Rw (p2.map prC), Rw (k2.map stC), Rw (c2.map inC)])]) 5 (fun l => c1.length - l) (fun l => l ≤ c1.length ∧ (c1.take l).map (· - (i : Int)) = (c2.take l).map (· - (k : Int))) 0 ⟨Nat.zero_le _, rfl⟩ [(3, 83), (4, 155)] (by rfl) (vc ?_) (vc ?_) (fun l ⟨hl1, hl2⟩ M hM => vc (brB_intro (fun h => ?_) (fun h => ?_)))
    · trivial
    · trivial
    · have h : l < c1.length := by simpa using h
      have hp := List.getElem?_eq_getElem h
      have hq := List.getElem?_eq_getElem (show l < c2.length by omega)
      have hpb := ha'.2.2.2 _ (List.getElem_mem h)
      have hqb := hb'.2.2.2 _ (List.getElem_mem (show l < c2.length by omega))
      generalize c1[l] = c at hp hpb
      generalize c2[l]'(by omega) = e at hq hqb
      refine drawQ_of false (by rfl) (by simp) (vc ?_)
      rw [get_map hp, inC]
      refine vc ?_
      rw [get_map hq, inC]
      refine vc ?_
      rw [w64 (c - i) (by omega), w64 (e - k) (by omega)]
      refine brB_intro (fun h3 => hno _ (hne (fun e1 => ?_))) (fun h3 => ?_)
      · have e2 := congrArg (fun n : Nd => n.cs[l]?) e1
        simp [rel, hp, hq] at e2
        simp at h3
        omega
      · have h3 : c - i = e - k := by simpa using h3
        refine hM _ (l + 1) [] ⟨h, ?_⟩ (by omega) (by rfl) (vc ?_) (vc trivial)
        · rw [List.take_add_one, List.take_add_one, hp, hq, List.map_append, List.map_append, hl2]
          simp [h3]
        · rw [w64 _ (by omega)]; simp
    · have h : l = c1.length := by simp at h; omega
      subst h
      rw [List.take_length, h2, List.take_length] at hl2
      have hs := sameNode_ok ⟨p1, k1, []⟩ ⟨p2, k2, []⟩ ⟨by simp only; omega, by simp only; omega, by simp⟩ ⟨by simp only; omega, by simp only; omega, by simp⟩
      unfold Nd.rd at hs
      simp only [List.map_nil] at hs
      refine callq_of false [] hs rfl (vc trivial) (vc ?_) ?_
      · exact ⟨false, rfl⟩
      rintro r out ⟨rfl, rfl⟩
      refine vc4 (by simp) (by simp) (by simp) ?_
      refine brB_intro (fun h3 => hno _ (hne (fun e1 => ?_))) (fun h3 => ?_)
      · have e2 : (⟨p1, k1, []⟩ : Nd) = ⟨p2, k2, []⟩ := by
          simp only [rel, Nd.mk.injEq] at e1
          rw [e1.1, e1.2.1]
        rw [e2] at h3
        simp at h3
      · have h3 : (⟨p1, k1, []⟩ : Nd) = ⟨p2, k2, []⟩ := by simpa using h3
        simp only [Nd.mk.injEq, and_true] at h3
        refine hN _ (j + 1) [] ⟨by omega, fun m hm => ?_⟩ (by omega) (by rfl) (vc ?_) (vc trivial)
        · by_cases e : m = j
          · subst e
            exact ⟨_, _, ha, hb, by simp only [rel, hl2, h3.1, h3.2]⟩
          · exact hj2 m (by omega)
        · rw [w64 _ (by omega)]; simp
  · have h : j = x.sz := by simp at h; omega
    subst h
    exact EndQ.closed (.v _) ⟨by rw [tf_true (hai.2 hj2)], rfl⟩
end Go.Proofs.YtnnmpdanfeejbaaGreat.Abs

/- What is laid: the reference. -/
namespace Go.Proofs.YtnnmpdanfeejbaaGreat.Abs
open Go Go.Proofs
set_option maxRecDepth 10000
set_option linter.unusedVariables false
set_option linter.unusedSimpArgs false
def atV : Option Int → Int
  | some p => p
  | none => -1
/-- The new ones. -/
def nwL (F : List Bool) (i : Nat) : List Nat := (List.range i).filter fun j => F.getD j false
theorem nwL_next {F : List Bool} {i : Nat} (b : Bool) (h : F.length = i) : nwL (F ++ [b]) (i + 1) = nwL F i ++ (if b = true then [i] else []) := by
  unfold nwL
  rw [List.range_succ, List.filter_append]
  congr 1
  · apply List.filter_congr
    intro j hj
    have : j < i := List.mem_range.1 hj
    rw [List.getD_eq_getElem?_getD, List.getD_eq_getElem?_getD, List.getElem?_append_left (by omega)]
  · have : (F ++ [b]).getD i false = b := by
      rw [List.getD_eq_getElem?_getD, List.getElem?_append_right (by omega)]
      simp [h]
    rw [List.filter_cons, this]
    simp
theorem nwL_len (F : List Bool) (i : Nat) : (nwL F i).length ≤ i := by
  have := List.length_filter_le (fun j => F.getD j false) (List.range i)
  unfold nwL
  simpa using this
def niC (n : Nat) : List CV := [.v (.int .i64 (n : Int))]
theorem fndS_next {U : List Sub} {ps : List Int} {j : Nat} {u x : Sub} {p : Int} (hu : U[j]? = some u) (hp : ps[j]? = some p) (hl : U.length = ps.length) : fndS (U.take (j + 1)) (ps.take (j + 1)) x = (match fndS (U.take j) (ps.take j) x with | some q => some q | none => (if (tf (x = u)) = true then some p else none)) := by
  have h1 := (List.getElem?_eq_some_iff.1 hu).1
  rw [List.take_add_one, List.take_add_one, hu, hp]
  simp only [Option.toList_some]
  rw [fndS_snoc _ _ _ _ _ (by simp; omega)]
  cases fndS (U.take j) (ps.take j) x with
  | some q => rfl
  | none =>
    simp only
    by_cases e : x = u
    · rw [if_pos e, tf_true e, if_pos rfl]
    · rw [if_neg e, tf_false e, if_neg (by simp)]
theorem pgn_rs (l : List ByteArray) (m : List Int) {a b : Nat} : true = true → Rs true 2 (.ag [.sl 1 a, .nul, .sl 2 b]) ∧ ∀ ob, some ob ∈ [some (Ob.rw 9 1 (l.map stC)), some (Ob.rw 3 1 (m.map inC))] → RsOb true 2 ob := fun _ =>
  ⟨.ag _ (by simp; exact ⟨.sl 1 _ (by omega) (by omega), .nul, .sl 2 _ (by omega) (by omega)⟩), by
    intro ob h; simp at h
    rcases h with rfl | rfl
    · exact .inr (own_st l)
    · exact .inr (own_in m)⟩
theorem specLay_ok (s : St) (t : List Nd) (hf : s.fits (2^40)) (ht : small t) : CallOk Tryz.prog 24 [] [s.rd, treeAg t] (fun r out => r = laR t (lyS s t) ∧ out = laH t (lyS s t)) := by
  have c1 := specStoreOk_ok s hf
  have c2 := specTreeOk_small ht
  have hno : ∀ H : Hp, lyS s t = none → EndQ 0 H (.tu [.nul, .nul, Bo false]) (fun r out => r = laR t (lyS s t) ∧ out = laH t (lyS s t)) := fun H e => by
    rw [e]
    exact endQ_of [(1, 0), (2, 0)] (.tu [.sl 1 0, .sl 2 0, Bo false]) [some (.rw 3 1 []), some (.rw 115 3 [])] (by rfl) (vc trivial) (vc trivial) ⟨rfl, rfl⟩
  unfold treeAg at *
  have sfold : s.rd = s.rd := rfl
  unfold St.rd at c1 ⊢
  refine callOk_z (np := 0) {} mixed Tryz.func24 (by rfl) Tryz.ntmps24 Tryz.results24 (by rfl) (Nat.le_of_ble_eq_true rfl) rfl rfl rfl (vc ?_)
  refine callq_of false [] c1 rfl (vc trivial) (vc trivial) ?_
  rintro r out ⟨rfl, rfl⟩
  refine vc4 (by simp) (by simp) (by simp) ?_
  by_cases e1 : storeOk s
  case neg => rw [tf_false e1]; refine vc ?_; exact hno _ (lyS_neg fun e => e1 e.1)
  rw [tf_true e1]
  refine vc ?_
  refine callq_of false [] c2 rfl (vc trivial) (vc trivial) ?_
  rintro r out ⟨rfl, rfl⟩
  refine vc4 (by simp) (by simp) (by simp) ?_
  by_cases e2 : specOk t
  case neg => rw [tf_false e2]; refine vc ?_; exact hno _ (lyS_neg fun e => e2 e.2)
  rw [tf_true e2]
  refine vc ?_
  have hly := lyS_pos (s := s) (t := t) ⟨e1, e2⟩
  obtain ⟨f1, f2, f3, f4⟩ := store_facts e1
  have hT := trE_of e2
  have hU := trE_of f1
  have hTN := (tree_facts e2).2.2.2.1
  have c5 := fun i k x y hx hy => l06Alike_ok t s.t (subsOf t) (subsOf s.t) hT hU i k x y hx hy
  unfold treeAg at c5
  generalize hSe : subsOf t = S at hly hT c5
  generalize hUe : subsOf s.t = U at hly hU c5
  have hpl : s.ps.length = U.length := by rw [f2, hU.2.1]
  have hfm : ∀ (x : Sub) (p : Int), fndS U s.ps x = some p → p ∈ s.ps := fun x p h => fndS_mem _ _ _ _ h
  have hS0 := hT.1
  have hS1 := hT.2.1
  have hU0 := hU.1
  have hU1 := hU.2.1
  refine loopQ_of (fun k : Nat × LY => [(2, .pt 1 0 0), (3, .pt 2 0 0), (7, .sl 3 k.2.1.length), (8, .sl 4 (nwL k.2.2.1 k.1).length), (9, In (k.2.2.2 : Nat)), (30, In t.length), (31, In (k.1 : Nat))])
    (fun k => [(1, .box 36 [Rw (s.d.sh.map (shC false)), Rw (s.d.wr.map (wrC false)), In s.g, Rw (s.t.map (ndC false)), Rw (s.ps.map inC)]), (2, .box 33 [Rw (t.map (ndC false))]), (3, .rw 3 1 (k.2.1.map inC)), (4, .rw 3 1 ((nwL k.2.2.1 k.1).map niC))]) 5
    (fun k => t.length - k.1) (fun k => k.1 ≤ t.length ∧ lyF (fndS U s.ps) s.ps s.d.sh.length (S.take k.1) = some k.2) (0, [], [], 2) ⟨Nat.zero_le _, rfl⟩ [(2, 9), (3, 105), (4, 121)] (by rfl) (vc ?_) (vc ?_) (fun ⟨i, P, F, nx⟩ ⟨hi, hlyi⟩ N hN => ?_)
  · exact ⟨rfl, rfl⟩
  · rfl
  simp only at hi hlyi hN
  obtain ⟨g1, g2, g3, g4, g5⟩ := lyF_facts f4 hfm S i P F nx (by omega) hlyi
  refine vc (brB_intro (fun h => ?_) (fun h => ?_))
  · have h : i < t.length := by simpa using h
    have hx := List.getElem?_eq_getElem (show i < S.length by omega)
    generalize S[i]'(by omega) = x at hx
    have hfq : ∀ (j : Nat) (q : Int), fndS (U.take j) (s.ps.take j) x = some q → 2 ≤ q := fun j q hq => (f4 q (List.mem_of_mem_take (fndS_mem _ _ _ _ hq))).1
    refine loopQ_of (fun j : Nat => [(2, .pt 1 0 0), (3, .pt 2 0 0), (7, .sl 3 P.length), (8, .sl 4 (nwL F i).length), (9, In (nx : Nat)), (10, In (i : Nat)), (11, In (atV (fndS (U.take j) (s.ps.take j) x))), (30, In t.length), (31, In (i : Nat)), (37, In s.t.length), (38, In (j : Nat))])
      (fun j => [(1, .box 36 [Rw (s.d.sh.map (shC false)), Rw (s.d.wr.map (wrC false)), In s.g, Rw (s.t.map (ndC false)), Rw (s.ps.map inC)]), (2, .box 33 [Rw (t.map (ndC false))]), (3, .rw 3 1 (P.map inC)), (4, .rw 3 1 ((nwL F i).map niC))]) 5
      (fun j => s.t.length - j) (fun j => j ≤ s.t.length) 0 (Nat.zero_le _) [] (by rfl) (vc ?_) (vc ?_) (fun j hj M hM => vc (brB_intro (fun h2 => ?_) (fun h2 => ?_)))
    · simp [fndS, atV]
    · trivial
    · have h2 : j < s.t.length := by simpa using h2
      have hu := List.getElem?_eq_getElem (show j < U.length by omega)
      generalize U[j]'(by omega) = u at hu
      have hp := List.getElem?_eq_getElem (show j < s.ps.length by omega)
      generalize s.ps[j]'(by omega) = p at hp
      have hfn := fndS_next (x := x) hu hp hpl.symm
      cases ho : fndS (U.take j) (s.ps.take j) x with
      | some q =>
        rw [ho] at hfn
        simp only at hfn
        have hq := hfq j q ho
        simp only [atV]
        refine brB_intro (fun h3 => absurd (of_decide_eq_true h3) (by omega)) (fun h3 => ?_)
        refine hM _ (j + 1) [] h2 (by omega) (by rfl) (vc ?_) (vc trivial)
        exact ⟨by rw [hfn]; rfl, by rw [w64 _ (by omega)]; simp⟩
      | none =>
        rw [ho] at hfn
        simp only at hfn
        simp only [atV]
        refine vc ?_
        refine callq_of false [] (c5 i j x u hx hu) rfl (vc trivial) (vc trivial) ?_
        rintro r out ⟨rfl, rfl⟩
        refine vc4 (by simp) (by simp) (by simp) ?_
        by_cases e : x = u
        · rw [tf_true e] at hfn ⊢
          rw [if_pos rfl] at hfn
          refine vc ?_
          rw [get_map hp, inC]
          refine vc ?_
          refine hM _ (j + 1) [] h2 (by omega) (by rfl) (vc ?_) (vc trivial)
          exact ⟨by rw [hfn]; rfl, by rw [w64 _ (by omega)]; simp⟩
        · rw [tf_false e] at hfn ⊢
          rw [if_neg (by simp)] at hfn
          refine vc ?_
          refine hM _ (j + 1) [] h2 (by omega) (by rfl) (vc ?_) (vc trivial)
          exact ⟨by rw [hfn]; rfl, by rw [w64 _ (by omega)]; simp⟩
    · have h2 : j = s.t.length := by simp at h2; omega
      subst h2
      have hst := lyF_next (f := fndS U s.ps) (tk := s.ps) (N := s.d.sh.length) hx
      rw [hlyi] at hst
      simp only [lyStep] at hst
      rw [show List.take s.t.length U = U from List.take_of_length_le (by omega), show List.take s.t.length s.ps = s.ps from List.take_of_length_le (by omega)]
      have hnwl := nwL_len F i
      cases ho : fndS U s.ps x with
      | some q =>
        rw [ho] at hst
        simp only at hst
        have hq := (f4 q (hfm x q ho)).1
        simp only [atV]
        refine brB_intro (fun h3 => absurd (of_decide_eq_true h3) (by omega)) (fun h3 => ?_)
        have hnw := nwL_next false g2
        rw [if_neg (by simp), List.append_nil] at hnw
        refine ⟨⟨by unfold maxLen; omega, by omega⟩, ?_⟩
        refine hN _ (i + 1, P ++ [q], F ++ [false], nx) [(3, 53)] ⟨h, hst⟩ (by simp only; omega) (by rfl) (vc ?_) (vc ?_)
        · exact ⟨by simp, by rw [hnw], by rw [w64 _ (by omega)]; simp⟩
        · exact ⟨by rw [List.map_append]; rfl, by rw [hnw]⟩
      | none =>
        rw [ho] at hst
        simp only at hst
        simp only [atV]
        have hnw := nwL_next true g2
        rw [if_pos rfl] at hnw
        refine vc ?_
        refine loopQ_of (fun q : Nat => [(2, .pt 1 0 0), (3, .pt 2 0 0), (7, .sl 3 P.length), (8, .sl 4 (nwL F i).length), (9, In (q : Nat)), (10, In (i : Nat)), (30, In t.length), (31, In (i : Nat))]) (fun q => [(1, .box 36 [Rw (s.d.sh.map (shC false)), Rw (s.d.wr.map (wrC false)), In s.g, Rw (s.t.map (ndC false)), Rw (s.ps.map inC)]), (2, .box 33 [Rw (t.map (ndC false))]), (3, .rw 3 1 (P.map inC)), (4, .rw 3 1 ((nwL F i).map niC))]) 5 (fun q => 401 - q) (fun q => nx ≤ q ∧ q ≤ 400 ∧ ∀ z : Nat, nx ≤ z → z < q → (z : Int) ∈ s.ps) nx ⟨Nat.le_refl _, by omega, fun z h1 h2 => absurd h1 (by omega)⟩ [] (by rfl) (vc ?_) (vc ?_) (fun q ⟨hq1, hq2, hq3⟩ L hL => vc ?_)
        · trivial
        · trivial
        refine callq_of false [] (l06Has_ok s.ps q (by omega)) rfl (vc trivial) (vc trivial) ?_
        rintro r out ⟨rfl, rfl⟩
        refine vc4 (by simp) (by simp) (by simp) ?_
        by_cases hqm : (q : Int) ∈ s.ps
        · rw [tf_true hqm]
          refine vc ?_
          have := f4 _ hqm
          refine hL _ (q + 1) [] ⟨by omega, by omega, fun z h1 h2 => ?_⟩ (by omega) (by rfl) (vc ?_) (vc trivial)
          · by_cases e : z = q
            · rw [e]; exact hqm
            · exact hq3 z h1 (by omega)
          · rw [w64 _ (by omega)]; simp
        · rw [tf_false hqm]
          refine vc ?_
          have hnf := nfree_eq (tk := s.ps) (a := nx) ⟨hq1, hq3, hqm⟩
          rw [hnf] at hst
          refine brB_intro (fun h3 => ?_) (fun h3 => ?_)
          · rw [if_pos (by simp at h3; omega)] at hst
            exact hno _ (by rw [hly]; exact lyF_stop hst)
          · have h3 : ¬ s.d.sh.length ≤ q := by simp at h3; omega
            rw [if_neg h3] at hst
            refine ⟨⟨by unfold maxLen; omega, by omega⟩, ⟨by unfold maxLen; omega, by omega⟩, ?_⟩
            refine hN _ (i + 1, P ++ [(q : Int)], F ++ [true], q + 1) [(3, 189), (4, 149)] ⟨h, hst⟩ (by simp only; omega) (by rfl) (vc ?_) (vc ?_)
            · exact ⟨by simp, by rw [hnw]; simp, by rw [w64 _ (by omega)]; simp, by rw [w64 _ (by omega)]; simp⟩
            · exact ⟨by rw [List.map_append]; rfl, by rw [hnw, List.map_append]; rfl⟩
  · have h : i = t.length := by simp at h; omega
    subst h
    rw [← hS1, List.take_length] at hlyi
    rw [hlyi] at hly
    rw [hly]
    have hnwl := nwL_len F t.length
    have hopn : ∀ (m a : Nat), (nwL F t.length)[m]? = some a → a < t.length := fun m a h => by
      have := List.mem_of_getElem? h
      unfold nwL at this
      rw [List.mem_filter, List.mem_range] at this
      exact this.1
    have hops : opsUp t P F t.length = (nwL F t.length).map (opAt t P) := rfl
    generalize nwL F t.length = W at hnwl hopn hops
    refine loopQ_of (fun m : Nat => [(3, .pt 1 0 0), (7, .sl 2 P.length), (13, .sl 4 m), (84, .sl 3 W.length), (85, In W.length), (86, In (m : Nat))])
      (fun m => [(1, .box 33 [Rw (t.map (ndC false))]), (2, .rw 3 1 (P.map inC)), (3, .rw 3 1 (W.map niC)), (4, .rw 115 3 (((W.take m).map (opAt t P)).map (opC true)))]) 5
      (fun m => W.length - m) (fun m => m ≤ W.length) 0 (Nat.zero_le _) [(1, 2), (2, 3), (3, 4), (4, 13)] (by rfl) (vc ?_) (vc ?_) (fun m hm M hM => vc (brB_intro (fun h2 => ?_) (fun h2 => ?_)))
    · trivial
    · trivial
    · have h2 : m < W.length := by simpa using h2
      have ha := List.getElem?_eq_getElem h2
      generalize W[m] = a at ha
      have hat := hopn m a ha
      have hn := List.getElem?_eq_getElem hat
      have hTn := hTN _ (List.getElem_mem hat)
      have hle := pgN_le hTN (List.getElem_mem hat) P
      have hop : opAt t P a = (false, P.getD a 0, byO (pgB (pgN t[a] P))) := by
        unfold opAt; rw [List.getD_eq_getElem?_getD (l := t), hn]; rfl
      generalize t[a] = n at hn hTn hle hop
      have hp := List.getElem?_eq_getElem (show a < P.length by omega)
      have hpd : P.getD a 0 = P[a]'(by omega) := by rw [List.getD_eq_getElem?_getD, hp]; rfl
      generalize P[a]'(by omega) = z at hp hpd
      rw [hpd] at hop
      obtain ⟨np, nk, nc⟩ := n
      obtain ⟨hk, hk1, hk2, hk3, hk4, hk5, hk6⟩ := hTn
      simp only at hk hk1 hk2 hk3 hk4 hk5 hk6
      refine ⟨h2, ?_⟩
      rw [get_map ha, niC]
      refine vc ?_
      rw [get_map hn, ndC]
      refine vc ?_
      rcases hk with ⟨rfl, rfl, hk⟩ | ⟨rfl, hk⟩
      · refine callq_of true [] (l06PageL_ok np P hk hk1) rfl (vc trivial) (vc trivial) ?_
        rintro r out ⟨rfl, rfl⟩
        refine vc4 (by simp) (by simp) (pgl_rs _ _) ?_
        have hpb := specPageBytes_ok _ hle
        unfold pgN Pg.rd at hpb
        simp only [List.nil_append, List.map_nil] at hpb
        refine callq_of true [] hpb rfl (vc trivial) (vc ?_) ?_
        · exact ⟨false, rfl⟩
        rintro r out ⟨rfl, rfl⟩
        unfold byR byH
        refine vc4 (by simp) (by simp) (by_rs rfl _) ?_
        refine ⟨by omega, ?_⟩
        rw [get_map hp, inC]
        refine vc ?_
        have hmt : m = (W.take m).length := by simp; omega
        refine ⟨⟨hmt, by simp, by unfold maxLen; omega, by omega⟩, ?_⟩
        refine hM _ (m + 1) [(4, 213)] h2 (by omega) (by rfl) (vc ?_) (vc ?_)
        · refine ⟨by omega, by rw [w64 _ (by omega)]; simp⟩
        · rw [List.take_add_one, ha]
          simp [hop, opC, pgN]
      · refine callq_of true [] (l06PageN_ok nk nc P hk hk3 hk2 (by rw [g1]; exact hk4)) rfl (vc trivial) (vc trivial) ?_
        rintro r out ⟨rfl, rfl⟩
        refine vc4 (by simp) (by simp) (pgn_rs _ _) ?_
        have hpb := specPageBytes_ok _ hle
        unfold pgN Pg.rd at hpb
        simp only [List.append_nil, List.map_nil] at hpb
        refine callq_of true [] hpb rfl (vc trivial) (vc ?_) ?_
        · exact ⟨false, rfl⟩
        rintro r out ⟨rfl, rfl⟩
        unfold byR byH
        refine vc4 (by simp) (by simp) (by_rs rfl _) ?_
        refine ⟨by omega, ?_⟩
        rw [get_map hp, inC]
        refine vc ?_
        have hmt : m = (W.take m).length := by simp; omega
        refine ⟨⟨hmt, by simp, by unfold maxLen; omega, by omega⟩, ?_⟩
        refine hM _ (m + 1) [(4, 213)] h2 (by omega) (by rfl) (vc ?_) (vc ?_)
        · refine ⟨by omega, by rw [w64 _ (by omega)]; simp⟩
        · rw [List.take_add_one, ha]
          simp [hop, opC, pgN]
    · have h2 : m = W.length := by simp at h2; omega
      subst h2
      rw [List.take_length]
      rw [← hops]
      have hol := congrArg List.length hops
      rw [List.length_map] at hol
      refine endQ_of [(1, 2), (2, 4)] (.tu [.sl 1 P.length, .sl 2 (opsUp t P F t.length).length, Bo true]) [some (.rw 3 1 (P.map inC)), some (.rw 115 3 ((opsUp t P F t.length).map (opC true)))] (by rfl) (vc ?_) (vc trivial) ⟨rfl, rfl⟩
      exact hol.symm
end Go.Proofs.YtnnmpdanfeejbaaGreat.Abs

/- What is laid: the law. -/
namespace Go.Proofs.YtnnmpdanfeejbaaGreat.Abs
open Go Go.Proofs
set_option maxRecDepth 10000
set_option linter.unusedVariables false
set_option linter.unusedSimpArgs false
theorem heldOpS_ok (xs : List (Bool × Int × List UInt8)) (k : Int) (hl : xs.length ≤ 2^60) (hk : 0 ≤ k ∧ k + sumL cntO xs ≤ 2^60) : CallOk Tryz.prog 34 [] [Rw (xs.map (opC false)), In k]
    (fun r out => r = In (if xs = mkL mkO cntO xs k then k + sumL cntO xs else -1) ∧ out = []) := by
  refine callOk_z (np := 0) {} mixed Tryz.func34 (by rfl) Tryz.ntmps34 Tryz.results34 (by rfl) (Nat.le_of_ble_eq_true rfl) rfl rfl rfl (vc ?_)
  generalize hM : mkL mkO cntO xs k = M
  have hl' : M.length = xs.length := by rw [← hM, mkL_length]
  refine loopQ_of (fun i => [(0, Rw (xs.map (opC false))), (1, In (k + (sumL cntO (xs.take i) : Nat))), (5, In (i : Nat))]) (fun i => []) 1 (fun i => xs.length - i) (fun i => i ≤ xs.length ∧ xs.take i = M.take i) 0 ⟨Nat.zero_le _, rfl⟩ [] (by rfl) (vc ?_) (vc trivial) (fun i hi N hN => vc (brB_intro (fun h => ?_) (fun h => ?_)))
  · simp [sumL_nil]
  · have h : i < xs.length := by simpa using h
    have hx := List.getElem?_eq_getElem h
    have hm : M[i]? = some (mkO xs[i] (k + sumL cntO (xs.take i))) := by rw [← hM, mkL_get _ _ hx]
    have hle := sumL_le cntO xs (i + 1)
    rw [sumL_next _ hx, cntO] at hle
    have hne : xs[i] ≠ mkO xs[i] (k + sumL cntO (xs.take i)) → ¬ xs = M := fun he e => he (by rw [← e, hx] at hm; exact Option.some.inj hm)
    rw [get_map hx, opC]
    refine vc ?_
    refine brB_intro (fun hb => EndQ.closed (.v _) ⟨?_, rfl⟩) (fun hb => ?_)
    · have hb : ¬ xs[i].1 = ((k + ((sumL cntO (xs.take i) : Nat) : Int)).tmod 3 == 0) := by
        intro e; rw [e] at hb; simp at hb
      rw [if_neg (hne (fun e => hb (congrArg Prod.fst e)))]
    have hb1 : xs[i].1 = ((k + ((sumL cntO (xs.take i) : Nat) : Int)).tmod 3 == 0) := by simpa using hb
    rw [w64 (k + _ + 1) (by omega), get_map hx, opC]
    refine vc ?_
    refine brB_intro (fun hb => EndQ.closed (.v _) ⟨?_, rfl⟩) (fun hb => ?_)
    · have hb : ¬ xs[i].2.1 = k + sumL cntO (xs.take i) + 1 := by simpa using hb
      rw [if_neg (hne (fun e => hb (congrArg (fun z => z.2.1) e)))]
    have hb2 : xs[i].2.1 = k + sumL cntO (xs.take i) + 1 := by simpa using hb
    rw [w64 (k + _ + 1 + 1) (by omega), get_map hx, opC]
    refine vc ?_
    refine callq_of false [] (heldByteS_ok xs[i].2.2 (k + sumL cntO (xs.take i) + 1 + 1) (by omega)) rfl trivial (vc trivial) ?_
    rintro r out ⟨rfl, rfl⟩
    refine ⟨by simp, by simp, by simp, vc ?_⟩
    by_cases he : xs[i].2.2 = mkB xs[i].2.2.length (k + sumL cntO (xs.take i) + 1 + 1)
    · rw [if_pos he]
      refine brB_intro (fun hb => ?_) (fun hb => ?_)
      · have hb : k + sumL cntO (xs.take i) + 1 + 1 + xs[i].2.2.length < 0 := by simpa using hb
        omega
      · refine hN _ (i + 1) [] ⟨h, take_next hi.2 hx hm (Prod.ext hb1 (Prod.ext hb2 (by simp only [mkO]; rw [show k + ((sumL cntO (xs.take i) : Nat) : Int) + 2 = k + ((sumL cntO (xs.take i) : Nat) : Int) + 1 + 1 by omega]; exact he)))⟩ (by omega) (by rfl) (vc ?_) (vc trivial)
        rw [w64 _ (by omega), sumL_next _ hx, cntO]; simp; omega
    · rw [if_neg he]
      refine brB_intro (fun hb => EndQ.closed (.v _) ⟨?_, rfl⟩) (fun hb => absurd hb (by decide))
      rw [if_neg (hne (fun e => he (by have := congrArg (fun z => z.2.2) e; simp only [mkO] at this; rw [show k + ((sumL cntO (xs.take i) : Nat) : Int) + 2 = k + ((sumL cntO (xs.take i) : Nat) : Int) + 1 + 1 by omega] at this; exact this)))]
  · have h : i = xs.length := by simp at h; omega
    refine EndQ.closed (.v _) ⟨?_, rfl⟩
    have : xs = M := by have := hi.2; rw [h, List.take_length, ← hl', List.take_length] at this; exact this
    rw [if_pos this, h, List.take_length]
theorem heldMarkedOpS_ok (xs : List (Bool × Int × List UInt8)) (k : Int) (hl : xs.length ≤ 2^60) (hk : 0 ≤ k ∧ k + sumL cntO xs ≤ 2^60) : CallOk Tryz.prog 34 [] [Rw ((mkL mkO cntO xs k).map (opC false)), In k] (fun r out => r = In (k + sumL cntO xs) ∧ out = []) := by
  have hi := mkL_idem (c := cntO) mkO_idem xs k
  have := heldOpS_ok (mkL mkO cntO xs k) k (by rw [mkL_length]; exact hl) (by rw [hi.2]; exact hk)
  rw [hi.1, hi.2, if_pos rfl] at this
  exact this
theorem heldMarkedIntS_ok (xs : List Int) (k : Int) (hl : xs.length ≤ 2^60) (hk : 0 ≤ k ∧ k + sumL c1 xs ≤ 2^60) : CallOk Tryz.prog 33 [] [Rw ((mkL mkIn c1 xs k).map inC), In k] (fun r out => r = In (k + sumL c1 xs) ∧ out = []) := by
  have hi := mkL_idem (c := c1) mkIn_idem xs k
  have := heldIntS_ok (mkL mkIn c1 xs k) k (by rw [mkL_length]; exact hl) (by rw [hi.2]; exact hk)
  rw [hi.1, hi.2, if_pos rfl] at this
  exact this
theorem byO_len (p : Pg) : (byO (pgB p)).length ≤ 512 := by
  unfold pgB
  split
  · rename_i h
    show (sheetB p).length ≤ 512
    rw [sheetB_len h]; omega
  · simp [byO]
theorem lyS_facts (s : St) (t : List Nd) : (lyP (lyS s t)).length ≤ 400 ∧ (laO t (lyS s t)).length ≤ 400 ∧ ∀ x ∈ laO t (lyS s t), x.2.2.length ≤ 512 := by
  by_cases h : storeOk s ∧ specOk t
  case neg => rw [lyS_neg h]; simp [lyP, laO]
  rw [lyS_pos h]
  obtain ⟨f1, f2, f3, f4⟩ := store_facts h.1
  have hT := trE_of h.2
  cases ho : lyF (fndS (subsOf s.t) s.ps) s.ps s.d.sh.length (subsOf t) with
  | none => simp [lyP, laO]
  | some y =>
    obtain ⟨P, F, nx⟩ := y
    have hft := lyF_facts (f := fndS (subsOf s.t) s.ps) f4 (fun x p h => fndS_mem _ _ _ _ h) (subsOf t) (subsOf t).length P F nx (Nat.le_refl _) (by rw [List.take_length]; exact ho)
    have h1 := hT.1
    have h2 := hT.2.1
    have h3 := opsUp_len t P F t.length
    simp only [lyP, laO]
    refine ⟨by omega, by omega, fun x hx => ?_⟩
    unfold opsUp at hx
    obtain ⟨j, _, rfl⟩ := List.mem_map.1 hx
    exact byO_len _
theorem lawLay_ok (s : St) (t : List Nd) (hs : s.fits (2^47)) (hls : t.length ≤ 2^47 ∧ ∀ x ∈ t, x.fits (2^47)) : CallOk Tryz.prog 6 [] [s.rd, .ag [Rw (t.map (ndC false))]] (fun r out => r = Bo true ∧ out = []) := by
  have hz := szStore_ok s 1048576 hs (by omega)
  have h0 : s.size ≤ 2^40 → s.fits (2^40) := St.fits_of
  have hto := fun h => toStore_ok s (h0 h)
  have ci := fun h ht => implLay_ok s t (h0 h) ht
  have cs := fun h ht => specLay_ok s t (h0 h) ht
  have ce := fun h => eqStore_ok s (h0 h)
  have hcm : s.cnt ≤ 2 * s.size := by
    unfold St.cnt St.size
    have h1 := s.d.cnt_le
    have h2 := cntN_le s.t
    rw [sumL_c1]
    omega
  have hlens : s.d.sh.length ≤ s.size ∧ s.d.wr.length ≤ s.size ∧ s.t.length ≤ s.size ∧ s.ps.length ≤ s.size := by
    unfold St.size szT
    have := s.d.lens
    omega
  have cm := fun (h : s.size ≤ 2^40) => markStore_ok s 1 ⟨by omega, by omega, by omega, by omega⟩ (by omega)
  obtain ⟨l1, l2, l3⟩ := lyS_facts s t
  unfold laR laH at ci cs
  unfold treeAg at cs
  generalize (lyS s t).isSome = B at ci cs
  generalize lyP (lyS s t) = P at ci cs l1
  generalize laO t (lyS s t) = O at ci cs l2 l3
  generalize s.size = z at *
  generalize hcn : s.cnt = cn at *
  obtain ⟨d, g, ts, ps⟩ := s
  unfold St.rd St.ow St.obs at *
  simp only at *
  have eqP := eqIntS_ok P P (by omega) (fun _ _ => trivial)
  have eqO := eqOpS_ok O O (by omega) (fun x hx => by have := l3 x hx; omega)
  have hO : sumL cntO O ≤ 400 * 514 := by
    have := sumL_bound cntO 514 O (fun x hx => by have := l3 x hx; unfold cntO; omega)
    have := Nat.mul_le_mul_right 514 l2
    omega
  have hP : sumL c1 P ≤ 400 := by rw [sumL_c1]; omega
  have hR2 : true = true → Rs true 2 (.tu [.sl 1 P.length, .sl 2 O.length, Bo B]) ∧ ∀ ob, some ob ∈ [some (Ob.rw 3 1 (P.map inC)), some (Ob.rw 115 3 (O.map (opC true)))] → RsOb true 2 ob := fun _ =>
    ⟨.tu _ (by simp; exact ⟨.sl 1 _ (by omega) (by omega), .sl 2 _ (by omega) (by omega), .v _⟩), by
      intro ob h; simp at h
      rcases h with rfl | rfl
      · exact .inr (own_in P)
      · exact .inr (own_op O)⟩
  refine callOk_z (np := 0) {} mixed Tryz.func6 (by rfl) Tryz.ntmps6 Tryz.results6 (by rfl) (Nat.le_of_ble_eq_true rfl) rfl rfl rfl (vc ?_)
  refine callq_of false [] hz rfl trivial (vc trivial) ?_
  rintro r out ⟨⟨k', rfl, hk1, hk2⟩, rfl⟩
  refine vc4 (by simp) (by simp) (by simp) ?_
  refine brB_intro (fun h => EndQ.closed (.v _) ⟨rfl, rfl⟩) (fun h => ?_)
  have h : ¬ k' < 0 := by simpa using h
  have hzz : z ≤ 2^40 := by omega
  refine callq_of false [] (szTree_ok t k' hls.1 hls.2 (by omega)) rfl trivial (vc trivial) ?_
  rintro r out ⟨rfl, rfl⟩
  refine vc4 (by simp) (by simp) (by simp) ?_
  have hc := szB_cases (szT t) k'
  refine brB_intro (fun h => EndQ.closed (.v _) ⟨rfl, rfl⟩) (fun h => ?_)
  have h1 : ¬ szB (szT t) k' < 0 := by simpa using h
  have hsm : small t := treeFits (by omega)
  have hft : t.length ≤ 2^40 ∧ ∀ x ∈ t, x.fits (2^40) := treeFits (by omega)
  have hto := hto hzz
  have ci := ci hzz hsm
  have cs := cs hzz hsm
  have ce := ce hzz
  have cm := cm hzz
  have htt := toTree_ok t hft.1 hft.2
  have ctm := fun k hk => markTree_ok 111 t k (by have := hft.1; omega) hk
  have hcT := cntN_le t
  have eqT := eqTree_ok t t hft.1 hft.2
  refine drawQ_of false (by rfl) (by simp) (vc ?_)
  refine calld_of [] false [] hto rfl trivial (vc trivial) (by rfl) ⟨_, _, rfl, rfl⟩ ?_
  rintro r out ⟨rfl, rfl⟩
  refine vc4 (by simp) (by simp) (by simp) ?_
  refine calld_of [] false [] htt rfl trivial (vc trivial) (by rfl) ⟨_, _, rfl, rfl⟩ ?_
  rintro r out ⟨rfl, rfl⟩
  refine vc4 (by simp) (by simp) (by simp) ?_
  refine calld_of [137, 138, 139, 140, 153] true [] cs rfl trivial (vc trivial) (by rfl) ⟨_, _, rfl, rfl⟩ ?_
  rintro r out ⟨rfl, rfl⟩
  refine ⟨by simp, by simp, hR2, vc ?_⟩
  repeat refine ⟨rfl, ?_⟩
  refine callq_of false [] hto rfl trivial (vc trivial) ?_
  rintro r out ⟨rfl, rfl⟩
  refine vc4 (by simp) (by simp) (by simp) ?_
  refine callq_of false [] htt rfl trivial (vc trivial) ?_
  rintro r out ⟨rfl, rfl⟩
  refine vc4 (by simp) (by simp) (by simp) ?_
  refine callq_of true [] ci rfl trivial (vc trivial) ?_
  rintro r out ⟨rfl, rfl⟩
  refine ⟨by simp, by simp, hR2, vc ?_⟩
  refine callq_of true [] eqP rfl trivial (vc trivial) ?_
  rintro r out ⟨rfl, rfl⟩
  refine ⟨by simp, by simp, fun _ => ⟨.v _, by simp⟩, vc ?_⟩
  refine callq_of true [] eqO rfl trivial (vc trivial) ?_
  rintro r out ⟨rfl, rfl⟩
  refine ⟨by simp, by simp, fun _ => ⟨.v _, by simp⟩, vc ?_⟩
  refine drawQ_of false (by rfl) (by simp) (vc ?_)
  refine calld_of [] false [] hto rfl trivial (vc trivial) (by rfl) ⟨_, _, rfl, rfl⟩ ?_
  rintro r out ⟨rfl, rfl⟩
  refine vc4 (by simp) (by simp) (by simp) ?_
  refine calld_of [233, 234, 235, 236, 505, 506, 507, 508] true [] ce rfl trivial (vc trivial) (by rfl) ⟨_, _, rfl, rfl⟩ ?_
  rintro r out ⟨rfl, rfl⟩
  refine ⟨by simp, by simp, fun _ => ⟨.v _, by simp⟩, vc ?_⟩
  refine drawQ_of false (by rfl) (by simp) (vc ?_)
  refine calld_of [] false [] htt rfl trivial (vc trivial) (by rfl) ⟨_, _, rfl, rfl⟩ ?_
  rintro r out ⟨rfl, rfl⟩
  refine vc4 (by simp) (by simp) (by simp) ?_
  refine calld_of [265, 545] true [] eqT rfl trivial (vc trivial) (by rfl) ⟨_, _, rfl, rfl⟩ ?_
  rintro r out ⟨rfl, rfl⟩
  refine ⟨by simp, by simp, fun _ => ⟨.v _, by simp⟩, vc ?_⟩
  refine callq_of false [233, 234, 235, 236] cm rfl (vc trivial) (vc trivial) ?_
  rintro r out ⟨rfl, rfl⟩
  refine vc4 (by simp) (by simp) (by simp) ?_
  refine callq_of false [265] (ctm (1 + cn) (by omega)) rfl (vc trivial) (vc trivial) ?_
  rintro r out ⟨rfl, rfl⟩
  refine vc4 (by simp) (by simp) (by simp) ?_
  refine brB_intro (fun hb => by simp at hb; omega) (fun hb => ?_)
  refine callq_of true [] eqP rfl trivial (vc trivial) ?_
  rintro r out ⟨rfl, rfl⟩
  refine ⟨by simp, by simp, fun _ => ⟨.v _, by simp⟩, vc ?_⟩
  refine callq_of true [] eqO rfl trivial (vc trivial) ?_
  rintro r out ⟨rfl, rfl⟩
  refine ⟨by simp, by simp, fun _ => ⟨.v _, by simp⟩, vc ?_⟩
  refine callq_of false [305] (markIntS_ok 3 P 1 (by omega) (by omega)) rfl (vc trivial) (vc trivial) ?_
  rintro r out ⟨rfl, rfl⟩
  refine vc4 (by simp) (by simp) (by simp) ?_
  refine callq_of false [306] (markOpS_ok 115 O (1 + sumL c1 P) (by omega) (by omega)) rfl (vc trivial) (vc trivial) ?_
  rintro r out ⟨rfl, rfl⟩
  refine vc4 (by simp) (by simp) (by simp) ?_
  refine callq_of true [] (heldMarkedIntS_ok P 1 (by omega) (by omega)) rfl trivial (by refine vc ?_; exact (mkL_length ..).symm) ?_
  rintro r out ⟨rfl, rfl⟩
  refine ⟨by simp, by simp, fun _ => ⟨.v _, by simp⟩, vc ?_⟩
  refine brB_intro (fun hb => by simp at hb; omega) (fun hb => ?_)
  refine callq_of true [] (heldMarkedOpS_ok O (1 + sumL c1 P) (by omega) (by omega)) rfl trivial (by refine vc ?_; exact (mkL_length ..).symm) ?_
  rintro r out ⟨rfl, rfl⟩
  refine ⟨by simp, by simp, fun _ => ⟨.v _, by simp⟩, vc ?_⟩
  refine brB_intro (fun hb => by simp at hb; omega) (fun hb => ?_)
  refine drawQ_of false (by rfl) (by simp) (vc ?_)
  refine calld_of [] false [] hto rfl trivial (vc trivial) (by rfl) ⟨_, _, rfl, rfl⟩ ?_
  rintro r out ⟨rfl, rfl⟩
  refine vc4 (by simp) (by simp) (by simp) ?_
  refine calld_of [] false [] htt rfl trivial (vc trivial) (by rfl) ⟨_, _, rfl, rfl⟩ ?_
  rintro r out ⟨rfl, rfl⟩
  refine vc4 (by simp) (by simp) (by simp) ?_
  refine calld_of [1001, 1002, 1003, 1004, 1017] true [] ci rfl trivial (vc trivial) (by rfl) ⟨_, _, rfl, rfl⟩ ?_
  rintro r out ⟨rfl, rfl⟩
  refine ⟨by simp, by simp, hR2, vc ?_⟩
  repeat refine ⟨rfl, ?_⟩
  refine callq_of true [] eqP rfl trivial (vc trivial) ?_
  rintro r out ⟨rfl, rfl⟩
  refine ⟨by simp, by simp, fun _ => ⟨.v _, by simp⟩, vc ?_⟩
  refine callq_of true [] eqO rfl trivial (vc trivial) ?_
  rintro r out ⟨rfl, rfl⟩
  refine ⟨by simp, by simp, fun _ => ⟨.v _, by simp⟩, vc ?_⟩
  refine callq_of true [] (heldMarkedIntS_ok P 1 (by omega) (by omega)) rfl trivial (by refine vc ?_; exact (mkL_length ..).symm) ?_
  rintro r out ⟨rfl, rfl⟩
  refine ⟨by simp, by simp, fun _ => ⟨.v _, by simp⟩, vc ?_⟩
  refine brB_intro (fun hb => by simp at hb; omega) (fun hb => ?_)
  refine callq_of true [] (heldMarkedOpS_ok O (1 + sumL c1 P) (by omega) (by omega)) rfl trivial (by refine vc ?_; exact (mkL_length ..).symm) ?_
  rintro r out ⟨rfl, rfl⟩
  refine ⟨by simp, by simp, fun _ => ⟨.v _, by simp⟩, vc ?_⟩
  refine brB_intro (fun hb => by simp at hb; omega) (fun hb => ?_)
  exact EndQ.closed (.v _) ⟨rfl, rfl⟩
end Go.Proofs.YtnnmpdanfeejbaaGreat.Abs

/- What a statement reads as data is what the contracts take. -/
namespace Go.Proofs.YtnnmpdanfeejbaaGreat.Abs
open Go Go.RowKit Go.ChangeShapes Go.WideShapes
set_option linter.unusedVariables false
set_option linter.unusedSimpArgs false
def CellsR (w : World) (l : List CV) (cs : List Value) : Prop := cs.length = l.length ∧ ∀ (j : Nat) c u, l[j]? = some c → cs[j]? = some u → RdR w (fun _ => True) c u
/-- What of type t can be read as data stands in these cells; G: its bounds. -/
def OpA (P : Program) (t : TypeId) {α : Type} (enc : α → List CV) (G : α → Prop) : Prop :=
  (∀ a, (enc a).length = P.cellsOf t) ∧ ∀ (H : Type) (en : TypeId × Value → H) (w : World) (fuel : Nat) (cs : List Value) (x : DataW H × List MemPlace),
    DataW.trod en P w 0 (fun _ => true) true fuel t cs = some x → (∀ n ∈ x.1.weights P t, n ≤ reachBytes) → ∃ a, CellsR w (enc a) cs ∧ G a
theorem cellsR_one {w : World} {c : CV} {u : Value} (h : RdR w (fun _ => True) c u) : CellsR w [c] [u] :=
  ⟨rfl, fun j c' u' hc hu => by cases j with | zero => simp at hc hu; subst hc hu; exact h | succ j => simp at hc⟩
theorem list_choose' {α : Type} (n : Nat) {p : Nat → α → Prop} (h : ∀ i, i < n → ∃ x, p i x) : ∃ xs : List α, xs.length = n ∧ ∀ i x, xs[i]? = some x → p i x := by
  induction n with
  | zero => exact ⟨[], rfl, fun i x hx => by simp at hx⟩
  | succ n ih =>
    obtain ⟨xs, hl, hx⟩ := ih (fun i hi => h i (by omega))
    obtain ⟨y, hy⟩ := h n (by omega)
    refine ⟨xs ++ [y], by simp [hl], fun i x hi => ?_⟩
    rcases Nat.lt_or_ge i xs.length with hlt | hge
    · rw [List.getElem?_append_left hlt] at hi
      exact hx i x hi
    · have : i = n := by
        have := (List.getElem?_eq_some_iff.1 hi).1
        simp at this; omega
      subst this
      rw [List.getElem?_append_right hge, ← hl, Nat.sub_self] at hi
      injection hi with hi
      rw [← hi]; exact hy
theorem weightsAll_mem' {H : Type} {P : Program} {e : TypeId} {D : DataW H} : ∀ {l : List (DataW H)}, D ∈ l → ∀ n ∈ D.weights P e, n ∈ DataW.weightsAll P e l
  | a :: l, h, n, hn => by
    rw [DataW.weightsAll, List.mem_append]
    rcases List.mem_cons.1 h with rfl | h
    · exact .inl hn
    · exact .inr (weightsAll_mem' h n hn)
section
variable {P : Program} {t e : TypeId}
theorem opA_int (h : P.underlying t = some (.int .i64)) (hc : P.cellsOf t = 1) : OpA P t (fun n : Int => [CV.v (.int .i64 n)]) (fun n => -9223372036854775808 ≤ n ∧ n ≤ 9223372036854775807) := by
  refine ⟨fun a => hc.symm, fun H en w fuel cs x hx _ => ?_⟩
  obtain ⟨n, rfl, _, hw⟩ := DataW.trod_int h hx
  refine ⟨n, cellsR_one (.v _ rfl), ?_⟩
  simp [Lit.wf, IntKind.min, IntKind.max, IntKind.bits, IntKind.signed] at hw
  omega
theorem opA_byte (h : P.underlying t = some (.int .u8)) (hc : P.cellsOf t = 1) : OpA P t (fun n : UInt8 => [CV.v (.int .u8 n.toNat)]) (fun _ => True) := by
  refine ⟨fun a => hc.symm, fun H en w fuel cs x hx _ => ?_⟩
  obtain ⟨n, rfl, _, hw⟩ := DataW.trod_int h hx
  simp [Lit.wf, IntKind.min, IntKind.max, IntKind.bits, IntKind.signed] at hw
  have he : n = (((UInt8.ofNat n.toNat).toNat : Nat) : Int) := by
    rw [UInt8.toNat_ofNat', Nat.mod_eq_of_lt (by omega)]; omega
  refine ⟨UInt8.ofNat n.toNat, ?_, trivial⟩
  show CellsR w [CV.v (.int .u8 (((UInt8.ofNat n.toNat).toNat : Nat) : Int))] _
  rw [← he]
  exact cellsR_one (.v _ rfl)
theorem opA_string (h : P.underlying t = some .string) (hc : P.cellsOf t = 1) : OpA P t stC (fun s => s.size ≤ 2^47) := by
  refine ⟨fun a => hc.symm, fun H en w fuel cs x hx hn => ?_⟩
  obtain ⟨s, rfl, rfl, _⟩ := DataW.trod_string h hx
  refine ⟨s, cellsR_one (.v _ rfl), ?_⟩
  have := hn s.data.toList.length (by simp [DataW.weights])
  rw [Array.length_toList] at this
  have h2 : reachBytes ≤ 2^47 := by decide
  have h3 : s.size = s.data.size := rfl
  omega
theorem opA_slice {α : Type} {enc : α → List CV} {G : α → Prop} (h : P.underlying t = some (.slice e)) (hc : P.cellsOf t = 1) {m0 : Nat} (he1 : P.cellsOf e = m0) (he2 : 0 < m0) {B : Nat} (hB : P.bytesOf e = B) (hB0 : 0 < B) (he : OpA P e enc G) :
    OpA P t (fun xs : List α => [CV.row false (xs.map enc)]) (fun xs => xs.length ≤ 2^47 ∧ ∀ x ∈ xs, G x) := by
  have he0 : 0 < P.cellsOf e := by omega
  refine ⟨fun a => hc.symm, fun H en w fuel cs x hx hn => ?_⟩
  rcases Go.Deep.open_slice h hx with ⟨rfl, rfl⟩ | ⟨a, len, cap, m, n, D, Pl, rfl, hb, hl, hm, hmm, rfl, hel⟩
  · exact ⟨[], cellsR_one (.nil _ _ _ (fun h => by cases h)), by simp, by simp⟩
  · have hm' : m = cap := by simpa using hmm
    subst hm'
    have hlen : len ≤ 2^47 := by
      have h1 := hn ((len + (m - len)) * B) (by simp [DataW.weights, h, hB])
      have h2 : reachBytes ≤ 2^47 := by decide
      have h3 : (len + (m - len)) * 1 ≤ (len + (m - len)) * B := Nat.mul_le_mul_left _ hB0
      omega
    have key : ∀ i, i < len → ∃ p : α, (∃ cs', w.cells? 0 (a.add (i * P.cellsOf e)) (P.cellsOf e) = some cs' ∧ CellsR w (enc p) cs') ∧ G p := by
      intro i hi
      obtain ⟨cs', h1, h2⟩ := hel i (by omega)
      obtain ⟨p, h3, h4⟩ := he.2 H en w n cs' _ h2 (fun q hq => hn q (by
        have h5 : q ∈ DataW.weightsAll P e ((List.range len).map D) := weightsAll_mem' (List.mem_map.2 ⟨i, List.mem_range.2 hi, rfl⟩) q hq
        simp only [DataW.weights, h]
        exact List.mem_cons_of_mem _ (List.mem_append_left _ h5)))
      exact ⟨p, ⟨cs', h1, h3⟩, h4⟩
    obtain ⟨xs, hxl, hxs⟩ := list_choose' len key
    refine ⟨xs, cellsR_one ?_, by rw [hxl]; exact hlen, fun x hx => ?_⟩
    · subst hxl
      by_cases h0 : xs = []
      · subst h0; exact .nil _ _ _ (fun h => by cases h)
      obtain ⟨x0, r0, hxr⟩ := List.exists_cons_of_ne_nil h0
      have hpos : 0 < xs.length := by rw [hxr]; simp
      have hcell : ∀ i j, i < xs.length → j < P.cellsOf e → ∃ u, w.cell? (a.add (i * P.cellsOf e + j)) = some u ∧ True := by
        intro i j hi hj
        obtain ⟨⟨cs', h1, h2⟩, _⟩ := hxs i _ (List.getElem?_eq_getElem hi)
        obtain ⟨_, h4, h5⟩ := World.cells?_some h1
        have := h5 j hj
        rw [Go.Deep.add_add, List.getElem?_eq_getElem (by omega)] at this
        exact ⟨_, this, trivial⟩
      have hnone : a.spot = none ∧ ∃ arr ty fz, w.heap[a.block]? = some (.cells arr ty fz) := by
        obtain ⟨u, hu, _⟩ := hcell 0 0 hpos he0
        rw [Nat.zero_mul, Nat.add_zero] at hu
        unfold Addr.add World.cell? at hu
        simp only [↓reduceIte] at hu
        split at hu
        · rename_i arr ty fz hh
          split at hu
          · cases hu
          · rename_i hs
            exact ⟨by simpa using hs, arr, ty, fz, hh⟩
        · cases hu
      obtain ⟨hs, arr, ty, fz, hh⟩ := hnone
      obtain ⟨bl, off, sp⟩ := a
      have hs : sp = none := hs
      subst hs
      have hadd : ∀ k, (⟨bl, off, none⟩ : Addr).add k = ⟨bl, off + k, none⟩ := fun k => by unfold Addr.add; split
                                                                                           · rename_i e; rw [e]; rfl
                                                                                           · rfl
      have hcell' : ∀ i j, i < xs.length → j < P.cellsOf e → arr[off + (i * P.cellsOf e + j)]? = some (arr.getD (off + (i * P.cellsOf e + j)) undef) := by
        intro i j hi hj
        obtain ⟨u, hu, _⟩ := hcell i j hi hj
        rw [hadd, cell_at hh] at hu
        have := (Array.getElem?_eq_some_iff.1 hu).1
        rw [Array.getElem?_eq_getElem this]
        simp [Array.getD, this]
      have := RdR.row (w := w) (T := fun _ => True) false bl off (P.cellsOf e) m (xs.map enc) arr ty fz (fun i j => arr.getD (off + (i * P.cellsOf e + j)) undef) trivial hh
        (fun c hc => by obtain ⟨x, _, rfl⟩ := List.mem_map.1 hc; exact he.1 x) (by rw [List.length_map]; unfold maxLen at hm ⊢; omega) (by rw [List.length_map]; omega) (fun h => by cases h) (fun i j hi hj => hcell' i j (by simpa using hi) hj) (fun i j c1 c2 h1 h2 => by
          rw [List.getElem?_map, Option.map_eq_some_iff] at h1
          obtain ⟨x, hx, rfl⟩ := h1
          have hi : i < xs.length := (List.getElem?_eq_some_iff.1 hx).1
          obtain ⟨⟨cs', h3, h4⟩, _⟩ := hxs i x hx
          obtain ⟨_, h5, h6⟩ := World.cells?_some h3
          have hj : j < P.cellsOf e := by
            have := (List.getElem?_eq_some_iff.1 h2).1
            rw [he.1] at this; exact this
          have h7 := h6 j hj
          rw [Go.Deep.add_add, hadd, cell_at hh, hcell' i j hi hj] at h7
          exact h4.2 j _ _ h2 h7.symm)
      rw [List.length_map] at this
      exact this
    · obtain ⟨j, hj, rfl⟩ := List.mem_iff_getElem.1 hx
      exact (hxs j _ (List.getElem?_eq_getElem hj)).2
/-- Fields in line, from offset o on. -/
def OpFs (P : Program) (fs : List Field) (o : Nat) {α : Type} (enc : α → List CV) (n : Nat) (G : α → Prop) : Prop :=
  (∀ a, (enc a).length = n) ∧ ∀ (H : Type) (en : TypeId × Value → H) (w : World) (k : Nat) (cs : List Value) (xs : List (DataW H × List MemPlace)), xs.length = fs.length →
    (∀ (i : Nat) (f : Field), fs[i]? = some f → DataW.trod en P w 0 (fun _ => true) true k f.type ((cs.drop f.offset).take (P.cellsOf f.type)) = xs[i]?) →
    (∀ q ∈ DataW.weightsEach P (fs.map (·.type)) (xs.map (·.1)), q ≤ reachBytes) → ∃ a, CellsR w (enc a) ((cs.drop o).take n) ∧ G a
theorem cellsR_app {w : World} {l l' : List CV} {cs cs' : List Value} (h : CellsR w l cs) (h' : CellsR w l' cs') : CellsR w (l ++ l') (cs ++ cs') := by
  refine ⟨by simp [h.1, h'.1], fun j c u hc hu => ?_⟩
  rcases Nat.lt_or_ge j l.length with hj | hj
  · rw [List.getElem?_append_left hj] at hc
    rw [List.getElem?_append_left (by rw [h.1]; exact hj)] at hu
    exact h.2 j c u hc hu
  · rw [List.getElem?_append_right hj] at hc
    rw [List.getElem?_append_right (by rw [h.1]; exact hj), h.1] at hu
    exact h'.2 _ c u hc hu
theorem fsA_one {α : Type} {enc : α → List CV} {G : α → Prop} {f : Field} {o n : Nat} (h : OpA P e enc G) (ht : f.type = e) (ho : f.offset = o) (hn : P.cellsOf e = n) : OpFs P [f] o enc n G := by
  subst ht; subst ho; subst hn
  refine ⟨h.1, fun H en w k cs xs hl hx hq => ?_⟩
  obtain ⟨x, rfl⟩ : ∃ x, xs = [x] := by
    match xs, hl with
    | [x], _ => exact ⟨x, rfl⟩
  exact h.2 H en w k _ x (hx 0 f rfl) (fun q hm => hq q (by simpa [DataW.weightsEach] using hm))
theorem fsA_cons {α β : Type} {enc : α → List CV} {enc' : β → List CV} {G : α → Prop} {G' : β → Prop} {f : Field} {fs : List Field} {o o' n n' : Nat} (h : OpA P e enc G) (h' : OpFs P fs o' enc' n' G') (ht : f.type = e) (ho : f.offset = o) (hn : P.cellsOf e = n) (hs : o + n = o') :
    OpFs P (f :: fs) o (fun x : α × β => enc x.1 ++ enc' x.2) (n + n') (fun x => G x.1 ∧ G' x.2) := by
  subst ht; subst ho; subst hn; subst hs
  refine ⟨fun a => by rw [List.length_append, h.1, h'.1], fun H en w k cs xs hl hx hq => ?_⟩
  obtain ⟨x, ys, rfl⟩ : ∃ x ys, xs = x :: ys := by
    match xs, hl with
    | x :: ys, _ => exact ⟨x, ys, rfl⟩
  obtain ⟨a, ha, ga⟩ := h.2 H en w k _ x (hx 0 f rfl) (fun q hm => hq q (by simp only [List.map_cons, DataW.weightsEach]; exact List.mem_append_left _ hm))
  obtain ⟨b, hb, gb⟩ := h'.2 H en w k cs ys (by simpa using hl) (fun i g hg => by have := hx (i + 1) g (by simpa using hg); simpa using this)
    (fun q hm => hq q (by simp only [List.map_cons, DataW.weightsEach]; exact List.mem_append_right _ hm))
  refine ⟨(a, b), ?_, ga, gb⟩
  rw [List.take_add, List.drop_drop]
  exact cellsR_app ha hb
theorem opA_struct {α : Type} {enc : α → List CV} {n : Nat} {G : α → Prop} {fs : Array Field} (h : P.underlying t = some (.struct fs)) (hc : P.cellsOf t = n) (hf : OpFs P fs.toList 0 enc n G) : OpA P t enc G := by
  subst hc
  refine ⟨hf.1, fun H en w fuel cs x hx hn => ?_⟩
  obtain ⟨xs, k, _, rfl, hl, hxl, hel⟩ := DataW.trod_struct h hx
  obtain ⟨a, ha, ga⟩ := hf.2 H en w k cs xs (by rw [hxl]; simp) (fun i f hi => hel i f (by simpa using hi)) (fun q hq => hn q (by simpa [DataW.weights, h] using hq))
  rw [List.drop_zero, List.take_of_length_le (by omega)] at ha
  exact ⟨a, ha, ga⟩
theorem OpA.iso {α β : Type} {enc : α → List CV} {enc' : β → List CV} {G : α → Prop} {G' : β → Prop} (h : OpA P t enc G) (g : α → β) (he : ∀ a, enc' (g a) = enc a) (hl : ∀ b, (enc' b).length = P.cellsOf t) (hG : ∀ a, G a → G' (g a)) : OpA P t enc' G' :=
  ⟨hl, fun H en w fuel cs x hx hn => by obtain ⟨a, ha, ga⟩ := h.2 H en w fuel cs x hx hn; exact ⟨g a, by rw [he]; exact ha, hG a ga⟩⟩
variable {H : Type} {en : TypeId × Value → H} {W : World} {v : Value} {D : DataW H} {p : List MemPlace}
/-- A parameter. -/
theorem OpA.param {α : Type} {enc : α → List CV} {G : α → Prop} (ho : OpA P t enc G) (h : DataW.Trod en P W 0 (fun _ => true) true t v D p) {ts : List TypeId} {ds : List (DataW H)} {j : Nat}
    (hsz : (DataW.weightsEach P ts ds).all (· ≤ reachBytes) = true) (ht : ts[j]? = some t) (hd : ds[j]? = some D) : ∃ a, CellsR W (enc a) v.cells.toList ∧ G a := by
  obtain ⟨fuel, hf⟩ := h
  exact ho.2 H en W fuel _ _ hf (fun n hn => by simpa using List.all_eq_true.1 hsz _ (DataW.weights_mem_each ht hd n hn))
end
/-- Nothing is owned. -/
def E0 : Env := ⟨fun _ => none, fun _ => none⟩
theorem rd_agg {w : World} {l : List CV} {us : Array Value} {H : Hp} (h : CellsR w l us.toList) : RdV w E0 H (.ag (l.map .c)) (.agg us) := by
  refine .ag _ _ (by have := h.1; simpa using this) (fun i c u hc hu => ?_)
  rw [List.getElem?_map, Option.map_eq_some_iff] at hc
  obtain ⟨c', hc', rfl⟩ := hc
  exact .c _ _ ((h.2 i c' u hc' (by simpa using hu)).mono (fun b _ _ => ⟨rfl, rfl⟩))
/-- A law's call, by its contract. -/
theorem law_calls {P : Program} {f : Nat} {args : List AV} (h : CallOk P f [] args (fun r out => r = Bo true ∧ out = [])) (W : World) (vals : Array Value) (hs : vals.size = args.length)
    (hv : ∀ (i : Nat) x u, args[i]? = some x → vals[i]? = some u → RdV W E0 (HpS []) x u) : Calls P f vals W (fun e W' => e = .returned (.bool true) ∧ Below W.heap.size W W') := by
  refine (h.2 W E0 vals (fun k ob hk => by unfold HpS at hk; split at hk <;> simp at hk) (fun b ℓ hb => by cases hb) hs hv).mono fun e W' hh => ?_
  obtain ⟨u, r, out, E', rfl, ⟨rfl, rfl⟩, hr, _, _, _, _, hevo, _, _⟩ := hh
  refine ⟨?_, hevo.os, hevo.tape, hevo.output, hevo.size, fun k hk => hevo.block k hk (by rintro ⟨k', p, hp, _⟩; cases hp)⟩
  cases hr with
  | c _ _ h => cases h; rfl
end Go.Proofs.YtnnmpdanfeejbaaGreat.Abs

/- The laws' parameters, as they are read. -/
namespace Go.Proofs.YtnnmpdanfeejbaaGreat.Abs
open Go Go.Proofs
set_option linter.unusedVariables false
theorem oInt : OpA Tryz.prog 3 (fun n : Int => [CV.v (.int .i64 n)]) (fun n => -9223372036854775808 ≤ n ∧ n ≤ 9223372036854775807) := opA_int Tryz.underlying3 (by kernel_rfl)
theorem oByte : OpA Tryz.prog 5 (fun n : UInt8 => [CV.v (.int .u8 n.toNat)]) (fun _ => True) := opA_byte Tryz.underlying5 (by kernel_rfl)
theorem oByteS : OpA Tryz.prog 69 (fun l : List UInt8 => [CV.row false (eB l)]) (fun l => l.length ≤ 2^47) :=
  (opA_slice Tryz.underlying69 (by kernel_rfl) (m0 := 1) (by kernel_rfl) (by decide) (B := 1) (by kernel_rfl) (by decide) oByte).iso id (fun _ => rfl) (fun _ => by kernel_rfl) (fun _ h => h.1)
theorem oSheet : OpA Tryz.prog 132 (shC false) (fun l => l.length ≤ 2^47) :=
  (opA_struct Tryz.underlying132 (by kernel_rfl) (fsA_one (n := 1) oByteS (by rfl) (by rfl) (by kernel_rfl))).iso id (fun _ => rfl) (fun _ => by kernel_rfl) (fun _ h => h)
theorem oSheetS : OpA Tryz.prog 22 (fun xs : List (List UInt8) => [CV.row false (xs.map (shC false))]) (fun xs => xs.length ≤ 2^47 ∧ ∀ x ∈ xs, x.length ≤ 2^47) :=
  opA_slice Tryz.underlying22 (by kernel_rfl) (m0 := 1) (by kernel_rfl) (by decide) (B := 24) (by kernel_rfl) (by decide) oSheet
theorem oWrite : OpA Tryz.prog 134 (wrC false) (fun x => x.2.length ≤ 2^47) :=
  (opA_struct Tryz.underlying134 (by kernel_rfl) (fsA_cons (n := 1) oInt (fsA_one (n := 1) oByteS (by rfl) (by rfl) (by kernel_rfl)) (by rfl) (by rfl) (by kernel_rfl) (by rfl))).iso id (fun _ => rfl) (fun _ => by kernel_rfl) (fun _ h => h.2)
theorem oWriteS : OpA Tryz.prog 23 (fun xs : List (Int × List UInt8) => [CV.row false (xs.map (wrC false))]) (fun xs => xs.length ≤ 2^47 ∧ ∀ x ∈ xs, x.2.length ≤ 2^47) :=
  opA_slice Tryz.underlying23 (by kernel_rfl) (m0 := 2) (by kernel_rfl) (by decide) (B := 32) (by kernel_rfl) (by decide) oWrite
theorem oDisk : OpA Tryz.prog 25 (fun d : Dk => [CV.row false (d.sh.map (shC false)), CV.row false (d.wr.map (wrC false))]) (Dk.fits (2^47)) :=
  (opA_struct Tryz.underlying25 (by kernel_rfl) (fsA_cons (n := 1) oSheetS (fsA_one (n := 1) oWriteS (by rfl) (by rfl) (by kernel_rfl)) (by rfl) (by rfl) (by kernel_rfl) (by rfl))).iso (fun x => ⟨x.1, x.2⟩) (fun _ => rfl) (fun _ => by kernel_rfl) (fun _ h => ⟨h.1.1, h.1.2, h.2.1, h.2.2⟩)
theorem rd_nil {W : World} {H : Hp} : ∀ (i : Nat) x u, ([] : List AV)[i]? = some x → (#[] : Array Value)[i]? = some u → RdV W E0 H x u := fun i x u h => by simp at h
theorem rd_cons {W : World} {H : Hp} {a : AV} {v : Value} {l : List AV} {vs : List Value} (h : RdV W E0 H a v) (hl : ∀ (i : Nat) x u, l[i]? = some x → (vs.toArray)[i]? = some u → RdV W E0 H x u) :
    ∀ (i : Nat) x u, (a :: l)[i]? = some x → ((v :: vs).toArray)[i]? = some u → RdV W E0 H x u := by
  intro i x u hx hu
  cases i with
  | zero => simp at hx hu; subst hx hu; exact h
  | succ i => exact hl i x u (by simpa using hx) (by simpa using hu)
end Go.Proofs.YtnnmpdanfeejbaaGreat.Abs

/- Parameters of operations, as they are read. -/
namespace Go.Proofs.YtnnmpdanfeejbaaGreat.Abs
open Go Go.Proofs
set_option linter.unusedVariables false
end Go.Proofs.YtnnmpdanfeejbaaGreat.Abs

/- Parameters of trees, as they are read. -/
namespace Go.Proofs.YtnnmpdanfeejbaaGreat.Abs
open Go Go.Proofs
set_option linter.unusedVariables false
theorem oStr : OpA Tryz.prog 9 stC (fun s => s.size ≤ 2^47) := opA_string Tryz.underlying9 (by kernel_rfl)
theorem oStrS : OpA Tryz.prog 105 (fun xs : List ByteArray => [CV.row false (xs.map stC)]) (fun xs => xs.length ≤ 2^47 ∧ ∀ x ∈ xs, x.size ≤ 2^47) :=
  opA_slice Tryz.underlying105 (by kernel_rfl) (m0 := 1) (by kernel_rfl) (by decide) (B := 16) (by kernel_rfl) (by decide) oStr
theorem oIntS : OpA Tryz.prog 34 (fun xs : List Int => [CV.row false (xs.map inC)]) (fun xs => xs.length ≤ 2^47) :=
  (opA_slice Tryz.underlying34 (by kernel_rfl) (m0 := 1) (by kernel_rfl) (by decide) (B := 8) (by kernel_rfl) (by decide) oInt).iso id (fun _ => rfl) (fun _ => by kernel_rfl) (fun _ h => h.1)
theorem oPair : OpA Tryz.prog 237 prC (fun p => p.k.size ≤ 2^47 ∧ p.v.size ≤ 2^47) :=
  (opA_struct Tryz.underlying237 (by kernel_rfl) (fsA_cons (n := 1) oStr (fsA_one (n := 1) oStr (by rfl) (by rfl) (by kernel_rfl)) (by rfl) (by rfl) (by kernel_rfl) (by rfl))).iso (fun x => ⟨x.1, x.2⟩) (fun _ => rfl) (fun _ => by kernel_rfl) (fun _ h => h)
theorem oPairS : OpA Tryz.prog 171 (fun xs : List Pr => [CV.row false (xs.map prC)]) (fun xs => xs.length ≤ 2^47 ∧ ∀ x ∈ xs, x.k.size ≤ 2^47 ∧ x.v.size ≤ 2^47) :=
  opA_slice Tryz.underlying171 (by kernel_rfl) (m0 := 2) (by kernel_rfl) (by decide) (B := 32) (by kernel_rfl) (by decide) oPair
theorem oNode : OpA Tryz.prog 173 (ndC false) (Nd.fits (2^47)) :=
  (opA_struct Tryz.underlying173 (by kernel_rfl) (fsA_cons (n := 1) oPairS (fsA_cons (n := 1) oStrS (fsA_one (n := 1) oIntS (by rfl) (by rfl) (by kernel_rfl)) (by rfl) (by rfl) (by kernel_rfl) (by rfl)) (by rfl) (by rfl) (by kernel_rfl) (by rfl))).iso (fun x => ⟨x.1, x.2.1, x.2.2⟩) (fun _ => rfl) (fun _ => by kernel_rfl) (fun _ h => ⟨h.1.1, h.2.1.1, h.2.2, h.1.2, h.2.1.2⟩)
theorem oNodeS : OpA Tryz.prog 45 (fun xs : List Nd => [CV.row false (xs.map (ndC false))]) (fun xs => xs.length ≤ 2^47 ∧ ∀ x ∈ xs, x.fits (2^47)) :=
  opA_slice Tryz.underlying45 (by kernel_rfl) (m0 := 3) (by kernel_rfl) (by decide) (B := 72) (by kernel_rfl) (by decide) oNode
theorem oTree : OpA Tryz.prog 47 (fun t : List Nd => [CV.row false (t.map (ndC false))]) (fun xs => xs.length ≤ 2^47 ∧ ∀ x ∈ xs, x.fits (2^47)) :=
  (opA_struct Tryz.underlying47 (by kernel_rfl) (fsA_one (n := 1) oNodeS (by rfl) (by rfl) (by kernel_rfl))).iso id (fun _ => rfl) (fun _ => by kernel_rfl) (fun _ h => h)
end Go.Proofs.YtnnmpdanfeejbaaGreat.Abs

/- Parameters of stores, as they are read. -/
namespace Go.Proofs.YtnnmpdanfeejbaaGreat.Abs
open Go Go.Proofs
set_option linter.unusedVariables false
theorem oStore : OpA Tryz.prog 49 (fun s : St => [CV.row false (s.d.sh.map (shC false)), CV.row false (s.d.wr.map (wrC false)), CV.v (.int .i64 s.g), CV.row false (s.t.map (ndC false)), CV.row false (s.ps.map inC)]) (St.fits (2^47)) :=
  (opA_struct Tryz.underlying49 (by kernel_rfl) (fsA_cons (n := 2) oDisk (fsA_cons (n := 1) oInt (fsA_cons (n := 1) oTree (fsA_one (n := 1) oIntS (by rfl) (by rfl) (by kernel_rfl)) (by rfl) (by rfl) (by kernel_rfl) (by rfl)) (by rfl) (by rfl) (by kernel_rfl) (by rfl)) (by rfl) (by rfl) (by kernel_rfl) (by rfl))).iso (fun x => ⟨x.1, x.2.1, x.2.2.1, x.2.2.2⟩) (fun _ => rfl) (fun _ => by kernel_rfl) (fun _ h => ⟨h.1, h.2.2.1.1, h.2.2.1.2, h.2.2.2⟩)
end Go.Proofs.YtnnmpdanfeejbaaGreat.Abs
