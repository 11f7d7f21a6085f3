import Derived.Test.YtnnmpdanfeejbaaGreatAbsG5
import Derived.Deep.Slices
import Derived.SizedLaws
import Derived.Lib.SmallJoins
/- Stores: the program's reading of a disk below a sheet. -/
namespace Go.Proofs.YtnnmpdanfeejbaaGreat.Abs
open Go Go.Proofs
set_option maxRecDepth 10000
set_option linter.unusedVariables false
set_option linter.unusedSimpArgs false
theorem slIndex_ok (l : List Int) (a : Int) (hl : l.length ≤ 2^40) : CallOk Tryz.prog 162 [] [Rw (l.map inC), In a] (fun r out => (∃ k : Int, r = In k ∧ (0 ≤ k ↔ a ∈ l)) ∧ out = []) := by
  refine callOk_z (np := 0) {} mixed Tryz.func162 (by rfl) Tryz.ntmps162 Tryz.results162 (by rfl) (Nat.le_of_ble_eq_true rfl) rfl rfl rfl (vc ?_)
  refine loopQ_of (fun i => [(0, Rw (l.map inC)), (1, In a), (7, In (l.length : Nat)), (8, In (i : Nat))]) (fun i => []) 1 (fun i => l.length - i) (fun i => i ≤ l.length ∧ a ∉ l.take i) 0 ⟨Nat.zero_le _, by simp⟩ [] (by rfl) (vc trivial) (vc trivial) (fun i hi N hN => vc (brB_intro (fun h => ?_) (fun h => ?_)))
  · obtain ⟨hi, hna⟩ := hi
    have h : i < l.length := by simpa using h
    have hx := List.getElem?_eq_getElem h
    rw [get_map hx, inC]
    refine vc (brB_intro (fun h2 => ?_) (fun h2 => ?_))
    · have h2 : a = l[i] := by simpa using h2
      refine EndQ.closed (.v _) ⟨⟨_, rfl, ?_⟩, rfl⟩
      exact ⟨fun _ => by rw [h2]; exact List.getElem_mem h, fun _ => by omega⟩
    · have h2 : a ≠ l[i] := by simpa using h2
      refine hN _ (i + 1) [] ⟨h, ?_⟩ (by omega) (by rfl) (vc ?_) (vc trivial)
      · rw [List.take_add_one, hx]
        simp only [Option.toList_some, List.mem_append, List.mem_singleton, not_or]
        exact ⟨hna, h2⟩
      · rw [w64 _ (by omega)]; simp
  · obtain ⟨hi, hna⟩ := hi
    have h : i = l.length := by simp at h; omega
    refine EndQ.closed (.v _) ⟨⟨_, rfl, ?_⟩, rfl⟩
    rw [h, List.take_length] at hna
    exact ⟨fun h => by simp at h, fun h => absurd h hna⟩
theorem slContains_ok (l : List Int) (a : Int) (hl : l.length ≤ 2^40) : CallOk Tryz.prog 107 [] [Rw (l.map inC), In a] (fun r out => r = Bo (tf (a ∈ l)) ∧ out = []) := by
  refine callOk_z (np := 0) {} mixed Tryz.func107 (by rfl) Tryz.ntmps107 Tryz.results107 (by rfl) (Nat.le_of_ble_eq_true rfl) rfl rfl rfl (vc ?_)
  refine callq_of false [] (slIndex_ok l a hl) rfl trivial (vc trivial) ?_
  rintro r out ⟨⟨k, rfl, hk⟩, rfl⟩
  refine vc4 (by simp) (by simp) (by simp) ?_
  refine EndQ.closed (.v _) ⟨?_, rfl⟩
  by_cases h : a ∈ l
  · rw [tf_true h, decide_eq_true (hk.2 h)]
  · rw [tf_false h, decide_eq_false (fun e => h (hk.1 e))]
def dkD (d : Dk) : List CV := [.row false (d.sh.map (shC false)), .row false (d.wr.map (wrC false))]
def rdrB (d : Dk) (n m : AV) (bad : Bool) : Ob := .box 90 [.c (.ptr (dkD d) 0), n, m, Bo bad]
def RdrR (d : Dk) (f : Nat) (a : Int) (s : LS) (bad : Bool) (r : AV) (out : List (Option Ob)) : Prop :=
  r = .tu [] ∧ ∃ (s' : LS) (bad' : Bool), out = [some (rdrB d (.sl 4 s'.1.length) (.sl 5 s'.2.length) bad'), none, none, some (.rw 111 3 (s'.1.map (ndC true))), some (.rw 3 1 (s'.2.map inC))] ∧
    (bad = true → bad' = true) ∧ (bad = false → match loadL d f a s with | some s1 => bad' = false ∧ s' = s1 | none => bad' = true) ∧ Ldd s s'
theorem Ldd.refl {s : LS} (h : s.1.length ≤ 400) : Ldd s s := ⟨List.prefix_refl _, List.prefix_refl _, rfl, h, fun _ h => .inl h⟩
theorem Ldd.trans {a b c : LS} (h : Ldd a b) (k : Ldd b c) : Ldd a c :=
  ⟨h.pre.trans k.pre, h.pre2.trans k.pre2, by have := h.len; have := k.len; omega, k.most, fun x hx => (k.few x hx).elim (h.few x) .inr⟩
theorem readerRead_ok (d : Dk) (hok : d.ok) : ∀ (f : Nat) (a : Int) (s : LS) (bad : Bool), s.1.length = s.2.length → s.1.length ≤ 400 → 400 < f + s.1.length →
    CallOk Tryz.prog 49 [rdrB d (.sl 2 s.1.length) (.sl 3 s.2.length) bad, .rw 111 3 (s.1.map (ndC true)), .rw 3 1 (s.2.map inC)] [.pt 1 0 0, In a] (RdrR d f a s bad)
  | 0, a, s, bad, h1, h2, h3 => by omega
  | f + 1, a, s, bad, h1, h2, h3 => by
    obtain ⟨ns, ps⟩ := s
    simp only at h1 h2 h3
    have hfit := hok.fits
    have hd0 := hok.1
    unfold rdrB dkD
    refine callOk_z (np := 3) { js := [9, 14], op := [(19, 4)] } mixed Tryz.func49 (by rfl) Tryz.ntmps49 Tryz.results49 (by rfl) (Nat.le_of_ble_eq_true rfl) rfl rfl rfl (vc ?_)
    have hends : ∀ (H : Hp), outP (gS [(4, 2), (5, 3)]) H 1 [some (rdrB d (.sl 4 ns.length) (.sl 5 ps.length) true), none, none, some (.rw 111 3 (ns.map (ndC true))), some (.rw 3 1 (ps.map inC))] → (bad = true ∨ loadL d (f + 1) a (ns, ps) = none) → EndQ 3 H (.tu []) (RdrR d (f + 1) a (ns, ps) bad) := fun H hh hb => by
      refine endQ_of [(4, 2), (5, 3)] (.tu []) [some (rdrB d (.sl 4 ns.length) (.sl 5 ps.length) true), none, none, some (.rw 111 3 (ns.map (ndC true))), some (.rw 3 1 (ps.map inC))] (by rfl) (vc trivial) hh ⟨rfl, (ns, ps), true, rfl, fun _ => rfl, fun hb2 => ?_, Ldd.refl h2⟩
      rcases hb with hb | hb
      · rw [hb] at hb2; cases hb2
      · rw [hb]
    cases bad with
    | true =>
      refine vc ?_
      exact hends _ (by unfold rdrB dkD; exact vc trivial) (.inl rfl)
    | false =>
      refine vc ?_
      rw [w64 _ (by omega)]
      refine callq_of false [] (within_ok a 0 ((d.sh.length : Int) - 1)) rfl trivial (vc trivial) ?_
      rintro r out ⟨rfl, rfl⟩
      refine vc4 (by simp) (by simp) (by simp) ?_
      have hno : pgAt d a = none → loadL d (f + 1) a (ns, ps) = none := fun hp => by unfold loadL; rw [hp]
      by_cases hr : 0 ≤ a ∧ a ≤ (d.sh.length : Int) - 1
      case neg =>
        rw [decide_eq_false hr]
        refine vc ?_
        refine hends _ (by unfold rdrB dkD; exact vc trivial) (.inr (hno ?_))
        unfold pgAt dkO
        rw [if_neg (fun h => hr ⟨h.2.1, by omega⟩)]; rfl
      rw [decide_eq_true hr]
      refine vc ?_
      refine callq_of true [] (slContains_ok ps a (by omega)) rfl trivial (vc trivial) ?_
      rintro r out ⟨rfl, rfl⟩
      refine ⟨by simp, by simp, fun _ => ⟨.v _, by simp⟩, vc ?_⟩
      by_cases hin : a ∈ ps
      · rw [tf_true hin]
        refine vc ?_
        refine hends _ (by unfold rdrB dkD; exact vc trivial) (.inr ?_)
        unfold loadL
        split
        · rfl
        · exact if_pos (.inl hin)
      rw [tf_false hin]
      refine vc (brB_intro (fun h => ?_) (fun h => ?_))
      · have h : ns.length = 400 := by simp at h; omega
        refine hends _ (by unfold rdrB dkD; exact vc trivial) (.inr ?_)
        unfold loadL
        split
        · rfl
        · exact if_pos (.inr (by simp only; omega))
      have h : ns.length ≠ 400 := by simp at h; omega
      obtain ⟨m, rfl⟩ : ∃ m : Nat, a = m := ⟨a.toNat, by omega⟩
      have hc := diskRead_ok d hfit m (by omega)
      refine callq_of false [] hc rfl trivial (vc trivial) ?_
      rintro r out ⟨rfl, rfl⟩
      refine vc4 (by simp) (by simp) (by simp) ?_
      have hrl : (rdD d m).length = 512 := rdD_len hok (by omega)
      have hpg : pgAt d m = pgOf (rdD d m) := by
        unfold pgAt dkO
        rw [if_pos ⟨hok, by omega, by omega⟩, Int.toNat_natCast]; rfl
      have hp := implPageRead_ok (rdD d m) (by omega)
      generalize pgOf (rdD d m) = q at hpg hp
      refine callq_of true [] hp rfl trivial (vc trivial) ?_
      rintro r out ⟨rfl, rfl⟩
      refine ⟨by simp [pgH], by simp [pgH], pgo_rs q, ?_⟩
      unfold pgR pgH pgP
      cases q with
      | none =>
        refine vc ?_
        exact hends _ (by unfold rdrB dkD; exact vc trivial) (.inr (hno hpg))
      | some p =>
        refine vc ?_
        have e : loadL d (f + 1) m (ns, ps) = loadK (loadL d f) ns.length p.cs (ns ++ [ndOf p], ps ++ [(m : Int)]) := by
          conv => lhs; unfold loadL
          rw [hpg]; exact if_neg (by rintro (h1 | h1); exact hin h1; simp only at h1; omega)
        have hpk := (pgAt_ok hpg).1
        clear hends hno hc hp
        have hkl : p.ks.length ≤ 4 := by
          rcases hpk.2.2.2 with ⟨_, _, g, _⟩ | ⟨_, g, g', _⟩ <;> omega
        have hcl : p.cs.length ≤ 4 := by
          rcases hpk.2.2.2 with ⟨g, _, _, _⟩ | ⟨_, g, g', _⟩
          · rw [g]; simp
          · exact g
        have hvl : p.cs = [] → p.vs.length = p.ks.length := fun h5 => by
          rcases hpk.2.2.2 with ⟨_, _, _, g⟩ | ⟨g, _⟩
          · exact g
          · rw [h5] at g; simp at g
        have hvn : p.cs ≠ [] → p.vs = [] := fun h5 => by
          rcases hpk.2.2.2 with ⟨g, _⟩ | ⟨_, _, _, g⟩
          · exact absurd g h5
          · exact g
        refine joinQ_of (ι := Bool) (fun _ => [(0, .pt 1 0 0), (1, In m), (4, .pt 6 0 0), (6, In ns.length), (7, .pt 8 0 0)])
          (fun b => [(1, .box 90 [.c (.ptr [.row false (d.sh.map (shC false)), .row false (d.wr.map (wrC false))] 0), .sl 2 ns.length, .sl 3 ps.length, Bo false]), (2, .rw 111 3 (ns.map (ndC true))), (3, .rw 3 1 (ps.map inC)), (4, .rw 9 1 (p.ks.map stC)), (5, .rw 9 1 (p.vs.map stC)), (6, .box 107 [.sl 4 p.ks.length, .sl 5 p.vs.length, .sl 7 p.cs.length]), (7, .rw 3 1 (p.cs.map inC)), (8, .box 111 [.nul, if b then .sl 4 p.ks.length else .nul, .nul])]) 9 (fun b => b = true ↔ p.cs ≠ []) (fun N hN => vc ?_) (fun b hb => ?_)
        · refine brB_intro (fun h5 => ?_) (fun h5 => ?_)
          · have h5 : p.cs ≠ [] := by intro e; rw [e] at h5; simp at h5
            exact hN _ true [(4, 324), (5, 325), (6, 356), (7, 326), (8, 452)] ⟨fun _ => h5, fun _ => rfl⟩ (by rfl) (vc trivial) (vc trivial)
          · have h5 : p.cs = [] := by cases hcs : p.cs with
              | nil => rfl
              | cons x r => rw [hcs] at h5; simp at h5
            exact hN _ false [(4, 324), (5, 325), (6, 356), (7, 326), (8, 452)] ⟨fun h => (by cases h), fun h => absurd h5 h⟩ (by rfl) (vc trivial) (vc trivial)
        refine joinQ_of (ι := Unit) (fun _ => [(0, .pt 1 0 0), (1, In m), (4, .pt 6 0 0), (6, In ns.length), (7, .pt 8 0 0)])
          (fun _ => [(1, .box 90 [.c (.ptr [.row false (d.sh.map (shC false)), .row false (d.wr.map (wrC false))] 0), .sl 2 ns.length, .sl 3 ps.length, Bo false]), (2, .rw 111 3 (ns.map (ndC true))), (3, .rw 3 1 (ps.map inC)), (4, .rw 141 2 ((ndOf p).ps.map prC)), (5, .rw 9 1 ((ndOf p).ks.map stC)), (6, .box 107 [.any, .any, .sl 7 p.cs.length]), (7, .rw 3 1 (p.cs.map inC)), (8, .box 111 [.sl 4 (ndOf p).ps.length, .sl 5 (ndOf p).ks.length, .nul])]) 9 (fun _ => True) (fun N hN => ?_) (fun _ _ => ?_)
        · cases b with
          | true =>
            have h5 := hb.1 rfl
            have en : ndOf p = ⟨[], p.ks, []⟩ := by unfold ndOf; rw [if_neg h5]
            rw [en] at hN
            have hv0 := hvn h5
            refine vc ?_
            refine loopQ_of (fun i : Nat => [(0, .pt 1 0 0), (1, In m), (4, .pt 6 0 0), (6, In ns.length), (7, .pt 8 0 0), (79, In (0 : Nat)), (80, In (0 : Nat))])
              (fun i => [(1, .box 90 [.c (.ptr [.row false (d.sh.map (shC false)), .row false (d.wr.map (wrC false))] 0), .sl 2 ns.length, .sl 3 ps.length, Bo false]), (2, .rw 111 3 (ns.map (ndC true))), (3, .rw 3 1 (ps.map inC)), (4, .rw 9 1 (p.ks.map stC)), (6, .box 107 [.any, .any, .sl 7 p.cs.length]), (7, .rw 3 1 (p.cs.map inC)), (8, .box 111 [.nul, .sl 4 p.ks.length, .nul])]) 9 (fun _ => 0) (fun _ => True) 0 trivial [] (by rfl) (by refine vc ?_; rw [hv0]; rfl) (vc trivial) (fun i hi M hM => ?_)
            refine vc ?_
            exact hN _ () [(4, 0), (5, 4), (6, 6), (7, 7), (8, 8)] trivial (by rfl) (vc trivial) (vc trivial)
          | false =>
            have h5 : p.cs = [] := Classical.byContradiction fun e => by have := hb.2 e; cases this
            have en : ndOf p = ⟨prsOf p.ks p.vs, [], []⟩ := by unfold ndOf; rw [if_pos h5]
            rw [en] at hN
            have hvl := hvl h5
            refine vc ?_
            refine loopQ_of (fun i => [(0, .pt 1 0 0), (1, In m), (4, .pt 6 0 0), (6, In ns.length), (7, .pt 8 0 0), (78, .sl 5 p.vs.length), (79, In p.vs.length), (80, In (i : Nat))])
              (fun i => [(1, .box 90 [.c (.ptr [.row false (d.sh.map (shC false)), .row false (d.wr.map (wrC false))] 0), .sl 2 ns.length, .sl 3 ps.length, Bo false]), (2, .rw 111 3 (ns.map (ndC true))), (3, .rw 3 1 (ps.map inC)), (4, .rw 9 1 (p.ks.map stC)), (5, .rw 9 1 (p.vs.map stC)), (6, .box 107 [.sl 4 p.ks.length, .sl 5 p.vs.length, .sl 7 p.cs.length]), (7, .rw 3 1 (p.cs.map inC)), (8, .box 111 [.sl 9 (prsOf (p.ks.take i) (p.vs.take i)).length, .nul, .nul]), (9, .rw 141 2 ((prsOf (p.ks.take i) (p.vs.take i)).map prC))]) 10 (fun i => p.vs.length - i) (fun i => i ≤ p.vs.length) 0 (Nat.zero_le _) [(9, 0)] (by rfl) (vc trivial) (by refine vc ?_; exact ⟨rfl, rfl⟩) (fun i hi M hM => vc (brB_intro (fun h6 => ?_) (fun h6 => ?_)))
            · have h6 : i < p.vs.length := by simpa using h6
              have hk := List.getElem?_eq_getElem (show i < p.ks.length by omega)
              have hv := List.getElem?_eq_getElem h6
              refine ⟨h6, ?_⟩
              rw [get_map hv, stC]
              refine vc ?_
              refine drawQ_of false (by rfl) (by simp) (vc ?_)
              refine ⟨by omega, ?_⟩
              rw [get_map hk, stC]
              have hpl : (prsOf (p.ks.take i) (p.vs.take i)).length = i := by rw [prsOf_len _ _ (by simp; omega)]; simp; omega
              refine vc ?_
              refine ⟨⟨by rw [hpl]; unfold maxLen; omega, by rw [hpl]; omega⟩, ?_⟩
              repeat refine ⟨rfl, ?_⟩
              refine hM _ (i + 1) [(9, 138)] (by omega) (by omega) (by rfl) (vc ?_) (vc ?_)
              · rw [w64 _ (by omega)]; simp
              · rw [prsOf_take _ _ i _ _ hk hv]; simp [prC]
            · have h6 : i = p.vs.length := by simp at h6; omega
              subst h6
              rw [List.take_length, show List.take p.vs.length p.ks = p.ks from List.take_of_length_le (by omega)]
              exact hN _ () [(4, 9), (5, 0), (6, 6), (7, 7), (8, 8)] trivial (by rfl) (vc trivial) (vc trivial)
        · refine vc ?_
          obtain ⟨g1, g2⟩ := ndOf_few hpk
          have hm0 : ns.map (ndC true) ++ [[CV.row true ((ndOf p).ps.map prC), CV.row true ((ndOf p).ks.map stC), CV.row true []]] = (ns ++ [ndOf p]).map (ndC true) := by
            rw [List.map_append, List.map_cons, List.map_nil, ndC, g2]; rfl
          have hm1 : ps.map inC ++ [[CV.v (.int .i64 m)]] = (ps ++ [(m : Int)]).map inC := by rw [List.map_append]; rfl
          refine drawQ_of false (by rfl) (by simp) (vc ?_)
          refine ⟨⟨by simp, by unfold maxLen; omega, by omega⟩, ?_⟩
          repeat refine ⟨rfl, ?_⟩
          refine ⟨⟨by unfold maxLen; omega, by omega⟩, ?_⟩
          rw [hm0, hm1]
          have hbase : ∀ x ∈ ns ++ [ndOf p], x ∈ ns ∨ ndFew x := fun x hx => by
            rcases List.mem_append.1 hx with hx | hx
            · exact .inl hx
            · rw [List.mem_singleton] at hx; subst hx; exact .inr g1
          refine loopQ_of (ι := Nat × LS × Bool) (fun x => [(0, .pt 1 0 0), (6, In ns.length), (119, .sl 6 p.cs.length), (120, In p.cs.length), (121, In (x.1 : Nat))])
            (fun x => [(1, .box 90 [.c (.ptr [.row false (d.sh.map (shC false)), .row false (d.wr.map (wrC false))] 0), .sl 4 x.2.1.1.length, .sl 5 x.2.1.2.length, Bo x.2.2]), (4, .rw 111 3 (x.2.1.1.map (ndC true))), (5, .rw 3 1 (x.2.1.2.map inC)), (6, .rw 3 1 (p.cs.map inC))]) 7 (fun x => p.cs.length - x.1)
            (fun x => x.1 ≤ p.cs.length ∧ (x.2.2 = false → loadK (loadL d f) ns.length (p.cs.drop x.1) x.2.1 = loadL d (f + 1) m (ns, ps)) ∧ (x.2.2 = true → loadL d (f + 1) m (ns, ps) = none) ∧ (∃ n, x.2.1.1[ns.length]? = some n ∧ n.ps = (ndOf p).ps ∧ n.ks = (ndOf p).ks ∧ n.cs.length ≤ x.1) ∧ Ldd (ns, ps) x.2.1) (0, (ns ++ [ndOf p], ps ++ [(m : Int)]), false)
            ⟨Nat.zero_le _, fun _ => e.symm, fun h => (by cases h), ⟨ndOf p, by simp, rfl, rfl, by rw [g2]; simp⟩, ⟨List.prefix_append _ _, List.prefix_append _ _, by simp; omega, by simp; omega, hbase⟩⟩ [(4, 65), (5, 153), (6, 7)] (by rfl) (vc trivial) (vc ?_) (fun x hx M hM => ?_)
          · exact ⟨by simp, by simp⟩
          obtain ⟨i, ⟨ns1, ps1⟩, bad⟩ := x
          obtain ⟨hi, ht1, ht2, ⟨n, hn, hn1, hn2, hnc⟩, hL⟩ := hx
          simp only at hi ht1 ht2 hn hn1 hn2 hnc hM
          have hl1 := hL.len
          have hl2 := hL.most
          have hl3 := hL.pre.length_le
          simp only at hl1 hl2 hl3
          have hl4 : ns.length < ns1.length := (List.getElem?_eq_some_iff.1 hn).1
          refine vc (brB_intro (fun h6 => ?_) (fun h6 => ?_))
          · have h6 : i < p.cs.length := by simpa using h6
            have hk := List.getElem?_eq_getElem h6
            refine ⟨h6, ?_⟩
            rw [get_map hk, inC]
            refine vc ?_
            refine opnQ_of ns.length 2 3 1 (by rfl) (get_map hn) (by rfl) (in_one _) (vc ?_)
            refine drawQ_of false (by rfl) (by simp) (vc ?_)
            refine ⟨hl4, ?_⟩
            rw [List.getElem?_set_self (by simpa using hl4)]
            refine vc ?_
            refine ⟨⟨by unfold maxLen; omega, by omega⟩, rfl, hl4, ?_⟩
            rw [List.getElem?_set_self (by simpa using hl4), show (ndC true n).set 2 CV.hole = [CV.row true (n.ps.map prC), CV.row true (n.ks.map stC), CV.hole] from rfl, if_pos (by simp)]
            refine vc ?_
            refine ⟨by repeat' (first | rfl | refine ⟨?_, ?_⟩), ?_⟩
            have hset : (ns1.map (ndC true)).set ns.length [CV.row true (n.ps.map prC), CV.row true (n.ks.map stC), CV.row true (n.cs.map inC ++ [[CV.v (.int .i64 ns1.length)]])] = (addKid ns.length ns1).map (ndC true) := by
              rw [addKid_get hn, List.map_set]; simp [ndC, kidN, inC]
            have hal := addKid_len ns.length ns1
            have hak : (addKid ns.length ns1)[ns.length]? = some (kidN n ns1.length) := by rw [addKid_get hn, List.getElem?_set_self hl4]
            have hfew : ndFew (kidN n ns1.length) := by
              obtain ⟨q1, q2, q3, q4, q5⟩ := g1
              exact ⟨by show n.ps.length ≤ 4; rw [hn1]; exact q1, by show n.ks.length ≤ 4; rw [hn2]; exact q2, by simp [kidN]; omega, by show ∀ p ∈ n.ps, _; rw [hn1]; exact q4, by show ∀ k ∈ n.ks, _; rw [hn2]; exact q5⟩
            have hLk : Ldd (ns, ps) (addKid ns.length ns1, ps1) := by
              refine ⟨?_, hL.pre2, by simp only [hal]; omega, by simp only [hal]; omega, fun x hx => ?_⟩
              · obtain ⟨t, ht⟩ := hL.pre
                refine ⟨(addKid ns.length ns1).drop ns.length, ?_⟩
                have e1 : ns = ns1.take ns.length := by simp only at ht; rw [← ht, List.take_left']; rfl
                show ns ++ _ = addKid ns.length ns1
                conv => lhs; lhs; rw [e1]
                rw [addKid_pre n hn (Nat.le_refl _), List.take_append_drop]
              · simp only at hx
                rw [addKid_get hn] at hx
                rcases List.mem_or_eq_of_mem_set hx with hx | rfl
                · exact hL.few x hx
                · exact .inr hfew
            have hrec := readerRead_ok d hok f p.cs[i] (addKid ns.length ns1, ps1) bad (by simp only; omega) (by simp only; omega) (by simp only; omega)
            have hst : loadK (loadL d f) ns.length (p.cs.drop i) (ns1, ps1) = match loadL d f p.cs[i] (addKid ns.length ns1, ps1) with
              | some s' => loadK (loadL d f) ns.length (p.cs.drop (i + 1)) s'
              | none => none := by
              rw [List.drop_eq_getElem_cons h6]; rfl
            unfold rdrB dkD at hrec
            simp only at hrec
            rw [← hset, hal] at hrec
            refine callq_of false [1, 4, 5] hrec rfl (vc trivial) (vc trivial) ?_
            rintro r out ⟨rfl, ⟨ns2, ps2⟩, bad2, rfl, hb1, hb2, hL2⟩
            unfold rdrB dkD
            refine vc4 (by simp) (by simp) (by simp) ?_
            refine hM _ (i + 1, (ns2, ps2), bad2) [(4, 247), (5, 248)] ⟨by simp only; omega, fun hb => ?_, fun hb => ?_, ⟨kidN n ns1.length, pre_get hL2.pre hak, hn1, hn2, by simp [kidN]; omega⟩, hLk.trans hL2⟩ (by simp only; omega) (by rfl) (vc ?_) (vc trivial)
            · simp only at hb
              subst hb
              have hbf : bad = false := by cases bad with
                | false => rfl
                | true => have := hb1 rfl; cases this
              have h8 := hb2 hbf
              rw [← ht1 hbf, hst]
              generalize loadL d f p.cs[i] (addKid ns.length ns1, ps1) = q at h8 ⊢
              cases q with
              | none => cases h8
              | some s1 => rw [h8.2]
            · simp only at hb
              subst hb
              cases bad with
              | true => exact ht2 rfl
              | false =>
                have h8 := hb2 rfl
                rw [← ht1 rfl, hst]
                generalize loadL d f p.cs[i] (addKid ns.length ns1, ps1) = q at h8 ⊢
                cases q with
                | none => rfl
                | some s1 => exact absurd h8.1 (by simp)
            · rw [w64 _ (by omega)]; simp
          · have h6 : i = p.cs.length := by simp at h6; omega
            subst h6
            refine endQ_of [(4, 4), (5, 5)] (.tu []) [some (rdrB d (.sl 4 ns1.length) (.sl 5 ps1.length) bad), none, none, some (.rw 111 3 (ns1.map (ndC true))), some (.rw 3 1 (ps1.map inC))] (by rfl) (vc trivial) (by unfold rdrB dkD; exact vc trivial) ⟨rfl, (ns1, ps1), bad, rfl, fun h => (by cases h), fun _ => ?_, hL⟩
            cases bad with
            | true => rw [ht2 rfl]
            | false =>
              have h7 := ht1 rfl
              rw [List.drop_length, loadK] at h7
              rw [← h7]
              exact ⟨rfl, rfl⟩
end Go.Proofs.YtnnmpdanfeejbaaGreat.Abs

/- Stores opened: both sides. -/
namespace Go.Proofs.YtnnmpdanfeejbaaGreat.Abs
open Go Go.Proofs
set_option maxRecDepth 10000
set_option linter.unusedVariables false
set_option linter.unusedSimpArgs false
def St0 : St := ⟨⟨[], []⟩, 0, [], []⟩
open Classical in
/-- The nodes and places below a root. -/
noncomputable def treeC (rt : Nat) (q : Option LS) : Option LS := if rt = 0 then some ([], []) else match q with
  | some s => if specOk s.1 then some s else none
  | none => none
open Classical in
noncomputable def openC (d : Dk) (mm : Nat × Nat) (q : Option LS) : St × Int := if ¬ (d.ok ∧ d.wr = []) then (St0, (1 : Int)) else if mm.1 = 0 then (St0, 2) else match treeC mm.2 q with
  | some s => (⟨d, (mm.1 : Int), s.1, s.2⟩, 0)
  | none => (St0, 3)
noncomputable def openS (d : Dk) : St × Int := openC d (mtD d) (loadL d 401 ((mtD d).2 : Int) ([], []))
theorem openC_1 {d : Dk} {mm : Nat × Nat} {q : Option LS} (h : ¬ (d.ok ∧ d.wr = [])) : openC d mm q = (St0, 1) := by unfold openC; rw [if_pos h]
theorem openC_2 {d : Dk} {mm : Nat × Nat} {q : Option LS} (h : d.ok ∧ d.wr = []) (h2 : mm.1 = 0) : openC d mm q = (St0, 2) := by unfold openC; rw [if_neg (fun e => e h), if_pos h2]
theorem openC_3 {d : Dk} {mm : Nat × Nat} {q : Option LS} (h : d.ok ∧ d.wr = []) (h2 : mm.1 ≠ 0) (h3 : treeC mm.2 q = none) : openC d mm q = (St0, 3) := by unfold openC; rw [if_neg (fun e => e h), if_neg h2, h3]
theorem openC_0 {d : Dk} {mm : Nat × Nat} {q : Option LS} {s : LS} (h : d.ok ∧ d.wr = []) (h2 : mm.1 ≠ 0) (h3 : treeC mm.2 q = some s) : openC d mm q = (⟨d, (mm.1 : Int), s.1, s.2⟩, 0) := by unfold openC; rw [if_neg (fun e => e h), if_neg h2, h3]
def opR (x : St × Int) : AV := .tu [x.1.ow, In x.2]
theorem St0_end (k : Int) (H : Hp) (R : AV → List (Option Ob) → Prop) (h : R (opR (St0, k)) (St0.obs.map some)) : EndQ 0 H (.tu [.ag [.nul, .nul, In 0, .nul, .nul], In k]) R :=
  endQ_of [(1, 0), (2, 0), (3, 0), (4, 0)] (.tu [.ag [.sl 1 0, .sl 2 0, In 0, .sl 3 0, .sl 4 0], In k]) [some (.rw 135 1 []), some (.rw 113 2 []), some (.rw 111 3 []), some (.rw 3 1 [])] (by rfl) (vc trivial) (vc trivial) h
theorem Ldd.small {s : LS} (h : Ldd ([], []) s) : small s.1 := by
  have := h.most
  exact ⟨by omega, fun x hx => ((h.few x hx).resolve_left (by simp)).fits (by omega)⟩
theorem l06Load_nil (d : Dk) (hd : d.fits (2^40)) (a : Int) : CallOk Tryz.prog 43 [] [d.rd, In a, .nul, .nul] (fun r out => r = ldR (loadL d 401 a ([], [])) ∧ out = ldH (loadL d 401 a ([], []))) := by
  refine CallOk.nil (l06Load_ok d hd 401 a ([], []) rfl (by simp) (by simp)) (fun ob hob => ?_) ?_
  · simp at hob; rcases hob with rfl | rfl <;> exact ⟨_, _, rfl⟩
  · exact ⟨.inl ⟨rfl, rfl⟩, .inl ⟨rfl, rfl⟩, .inr ⟨rfl, 1, _, _, rfl, rfl⟩, .inr ⟨rfl, 2, _, _, rfl, rfl⟩, trivial⟩
theorem specOpen_ok (d : Dk) (hf : d.fits (2^40)) : CallOk Tryz.prog 9 [] [d.rd] (fun r out => r = opR (openS d) ∧ out = (openS d).1.obs.map some) := by
  have c1 := specDiskOk_ok d hf
  have c2 := specDiskMeta_ok d hf
  have c3 := l05Copy_ok d hf
  have c4 := l06Load_nil d hf ((mtD d).2 : Int)
  unfold openS
  have hLd := loadL_ok d 401 ((mtD d).2 : Int) ([], [])
  generalize loadL d 401 ((mtD d).2 : Int) ([], []) = q at c4 hLd ⊢
  generalize mtD d = mm at c2 c4 ⊢
  obtain ⟨g, rt⟩ := mm
  unfold mtE at c2
  obtain ⟨sh, wr⟩ := d
  unfold Dk.rd at *
  unfold Dk.ow Dk.obs at c3
  simp only at c2 c4 c1 c3 hf
  refine callOk_z (np := 0) {} mixed Tryz.func9 (by rfl) Tryz.ntmps9 Tryz.results9 (by rfl) (Nat.le_of_ble_eq_true rfl) rfl rfl rfl (vc ?_)
  refine callq_of false [] c1 rfl trivial (vc trivial) ?_
  rintro r out ⟨rfl, rfl⟩
  refine vc4 (by simp) (by simp) (by simp) ?_
  by_cases hok : Dk.ok ⟨sh, wr⟩
  case neg =>
    rw [tf_false hok]
    refine vc ?_
    rw [openC_1 (fun h => hok h.1)]
    exact St0_end 1 _ _ ⟨rfl, rfl⟩
  rw [tf_true hok]
  refine vc (brB_intro (fun h1 => ?_) (fun h1 => ?_))
  · rw [openC_1 (fun h => by have := h.2; simp only at this; rw [this] at h1; simp at h1)]
    exact St0_end 1 _ _ ⟨rfl, rfl⟩
  have hw : wr = [] := by
    cases wr with
    | nil => rfl
    | cons x r => simp at h1
  subst hw
  refine callq_of false [] c2 rfl trivial (vc trivial) ?_
  rintro r out ⟨rfl, rfl⟩
  refine vc4 (by simp) (by simp) (by simp) ?_
  refine brB_intro (fun h2 => ?_) (fun h2 => ?_)
  · rw [openC_2 ⟨hok, rfl⟩ (by simp at h2; simpa using h2)]
    exact St0_end 2 _ _ ⟨rfl, rfl⟩
  have hg : g ≠ 0 := by simp at h2; omega
  refine drawQ_of false (by rfl) (by simp) (vc ?_)
  refine calld_of [] false [] c3 rfl trivial (vc trivial) (by rfl) ⟨_, _, rfl, rfl⟩ ?_
  rintro r out ⟨rfl, rfl⟩
  refine vc4 (by simp) (by simp) (by simp) ?_
  repeat refine ⟨rfl, ?_⟩
  refine brB_intro (fun h3 => ?_) (fun h3 => ?_)
  · have h3 : rt = 0 := by simp at h3; omega
    rw [openC_0 ⟨hok, rfl⟩ hg (s := ([], [])) (by unfold treeC; rw [if_pos h3])]
    exact endQ_of [(1, 185), (2, 186), (3, 0), (4, 0)] (.tu [.ag [.sl 1 sh.length, .sl 2 0, In g, .sl 3 0, .sl 4 0], In 0]) [some (.rw 135 1 (sh.map (shC true))), some (.rw 113 2 []), some (.rw 111 3 []), some (.rw 3 1 [])] (by rfl) (vc trivial) (vc trivial) ⟨rfl, rfl⟩
  have h3 : rt ≠ 0 := by simp at h3; omega
  refine callq_of false [] c4 rfl trivial (vc trivial) ?_
  rintro r out ⟨rfl, rfl⟩
  cases q with
  | none =>
    unfold ldR ldH
    refine vc4 (by simp) (by simp) (by simp) ?_
    rw [openC_3 ⟨hok, rfl⟩ hg (by unfold treeC; rw [if_neg h3])]
    exact St0_end 3 _ _ ⟨rfl, rfl⟩
  | some s =>
    unfold ldR ldH
    refine vc4 (by simp) (by simp) (by simp) ?_
    have ct := specTreeOk_small (hLd s rfl).small
    unfold treeAg at ct
    refine callq_of true [] ct rfl trivial (vc trivial) ?_
    rintro r out ⟨rfl, rfl⟩
    refine ⟨by simp, by simp, fun _ => ⟨.v _, by simp⟩, vc ?_⟩
    by_cases ht : specOk s.1
    · rw [tf_true ht]
      refine vc ?_
      rw [openC_0 ⟨hok, rfl⟩ hg (s := s) (by unfold treeC; rw [if_neg h3]; simp only; rw [if_pos ht])]
      exact endQ_of [(1, 185), (2, 186), (3, 283), (4, 284)] (.tu [.ag [.sl 1 sh.length, .sl 2 0, In g, .sl 3 s.1.length, .sl 4 s.2.length], In 0]) [some (.rw 135 1 (sh.map (shC true))), some (.rw 113 2 []), some (.rw 111 3 (s.1.map (ndC true))), some (.rw 3 1 (s.2.map inC))] (by rfl) (vc trivial) (vc trivial) ⟨rfl, rfl⟩
    · rw [tf_false ht]
      refine vc ?_
      rw [openC_3 ⟨hok, rfl⟩ hg (by unfold treeC; rw [if_neg h3]; simp only; rw [if_neg ht])]
      exact St0_end 3 _ _ ⟨rfl, rfl⟩
end Go.Proofs.YtnnmpdanfeejbaaGreat.Abs

/- Stores opened: the program's side. -/
namespace Go.Proofs.YtnnmpdanfeejbaaGreat.Abs
open Go Go.Proofs
set_option maxRecDepth 10000
set_option linter.unusedVariables false
set_option linter.unusedSimpArgs false
theorem implOpen_ok (d : Dk) (hf : d.fits (2^40)) : CallOk Tryz.prog 11 [] [d.rd] (fun r out => r = opR (openS d) ∧ out = (openS d).1.obs.map some) := by
  have c1 := implDiskOk_ok d hf
  have c2 := implDiskMeta_ok d hf
  have c3 := copyDisk_ok d hf
  unfold openS
  have c4 : d.ok → CallOk Tryz.prog 49 [rdrB d (.sl 2 0) (.sl 3 0) false, .rw 111 3 [], .rw 3 1 []] [.pt 1 0 0, In ((mtD d).2 : Int)] (RdrR d 401 ((mtD d).2 : Int) ([], []) false) := fun hok => readerRead_ok d hok 401 ((mtD d).2 : Int) ([], []) false rfl (by simp) (by simp)
  unfold RdrR at c4
  generalize loadL d 401 ((mtD d).2 : Int) ([], []) = q at c4 ⊢
  generalize mtD d = mm at c2 c4 ⊢
  obtain ⟨g, rt⟩ := mm
  unfold mtE at c2
  obtain ⟨sh, wr⟩ := d
  unfold rdrB dkD at c4
  unfold Dk.rd at *
  unfold Dk.ow Dk.obs at c3
  simp only at c2 c4 c1 c3 hf
  refine callOk_z (np := 0) { js := [7, 9], fz := [(6, [1])] } mixed Tryz.func11 (by rfl) Tryz.ntmps11 Tryz.results11 (by rfl) (Nat.le_of_ble_eq_true rfl) rfl rfl rfl (vc ?_)
  refine callq_of false [] c1 rfl trivial (vc trivial) ?_
  rintro r out ⟨rfl, rfl⟩
  refine vc4 (by simp) (by simp) (by simp) ?_
  by_cases hok : Dk.ok ⟨sh, wr⟩
  case neg =>
    rw [tf_false hok]
    refine vc ?_
    rw [openC_1 (fun h => hok h.1)]
    exact St0_end 1 _ _ ⟨rfl, rfl⟩
  have c4 := c4 hok
  rw [tf_true hok]
  refine vc (brB_intro (fun h1 => ?_) (fun h1 => ?_))
  · rw [openC_1 (fun h => by have := h.2; simp only at this; rw [this] at h1; simp at h1)]
    exact St0_end 1 _ _ ⟨rfl, rfl⟩
  have hw : wr = [] := by
    cases wr with
    | nil => rfl
    | cons x r => simp at h1
  subst hw
  refine callq_of false [] c2 rfl trivial (vc trivial) ?_
  rintro r out ⟨rfl, rfl⟩
  refine vc4 (by simp) (by simp) (by simp) ?_
  refine brB_intro (fun h2 => ?_) (fun h2 => ?_)
  · rw [openC_2 ⟨hok, rfl⟩ (by simp at h2; simpa using h2)]
    exact St0_end 2 _ _ ⟨rfl, rfl⟩
  have hg : g ≠ 0 := by simp at h2; omega
  refine joinQ_of (ι := Unit) (fun _ => [(1, .c (.ptr [.row false (sh.map (shC false)), .row false []] 0)), (2, .pt 2 0 0), (4, .pt 3 0 0), (6, .pt 4 0 0)])
    (fun _ => [(2, .box 36 [.nul, .nul, In 0, .nul, .nul]), (3, .box 78 [In g, In rt]), (4, .box 90 [.c (.ptr [.row false (sh.map (shC false)), .row false []] 0), .sl 5 0, .sl 6 0, Bo false]), (5, .rw 111 3 []), (6, .rw 3 1 [])]) 7 (fun _ => True) (fun N hN => vc ?_) (fun _ _ => ?_)
  · exact hN _ () [(2, 9), (3, 137), (4, 185), (5, 0), (6, 0)] trivial (by rfl) (vc trivial) (vc trivial)
  refine joinQ_of (ι := LS × Bool) (fun x => [(1, .c (.ptr [.row false (sh.map (shC false)), .row false []] 0)), (2, .pt 2 0 0), (4, .pt 3 0 0), (6, .pt 4 0 0)])
    (fun x => [(2, .box 36 [.nul, .nul, In 0, .nul, .nul]), (3, .box 78 [In g, In rt]), (4, .box 90 [.c (.ptr [.row false (sh.map (shC false)), .row false []] 0), .sl 5 x.1.1.length, .sl 6 x.1.2.length, Bo x.2]), (5, .rw 111 3 (x.1.1.map (ndC true))), (6, .rw 3 1 (x.1.2.map inC))]) 7
    (fun x => small x.1.1 ∧ (x.2 = true → treeC rt q = none) ∧ (x.2 = false → (specOk x.1.1 → treeC rt q = some x.1) ∧ (¬ specOk x.1.1 → treeC rt q = none))) (fun N hN => vc ?_) (fun x hx => ?_)
  · refine brB_intro (fun h3 => ?_) (fun h3 => ?_)
    · have h3 : rt ≠ 0 := by simp at h3; omega
      refine callq_of false [4, 5, 6] c4 rfl (vc trivial) (vc trivial) ?_
      rintro r out ⟨rfl, s', bad', rfl, hb1, hb2, hL⟩
      refine vc4 (by simp) (by simp) (by simp) ?_
      refine hN _ (s', bad') [(5, 55), (6, 56)] ⟨hL.small, fun hb => ?_, fun hb => ?_⟩ (by rfl) (vc trivial) (vc trivial)
      · simp only at hb
        subst hb
        have h8 := hb2 trivial
        cases q with
        | none => unfold treeC; rw [if_neg h3]
        | some s1 => exact absurd h8.1 (by simp)
      · simp only at hb
        subst hb
        have h8 := hb2 trivial
        cases q with
        | none => cases h8
        | some s1 =>
          rw [h8.2]
          unfold treeC
          rw [if_neg h3]
          exact ⟨fun h => if_pos h, fun h => if_neg h⟩
    · have h3 : rt = 0 := by simp at h3; omega
      refine hN _ (([], []), false) [] ⟨⟨by simp, by simp⟩, fun hb => (by cases hb), fun _ => ⟨fun _ => ?_, fun h => absurd (.inl rfl) h⟩⟩ (by rfl) (vc trivial) (vc trivial)
      unfold treeC
      rw [if_pos h3]
  obtain ⟨⟨ns, ps⟩, bad⟩ := x
  obtain ⟨hsm, hb1, hb2⟩ := hx
  simp only at hsm hb1 hb2
  cases bad with
  | true =>
    refine vc ?_
    rw [openC_3 ⟨hok, rfl⟩ hg (hb1 rfl)]
    exact St0_end 3 _ _ ⟨rfl, rfl⟩
  | false =>
    obtain ⟨ht1, ht2⟩ := hb2 rfl
    have ct := implTreeOk_ok hsm
    unfold treeAg at ct
    refine vc ?_
    refine callq_of true [] ct rfl trivial (vc trivial) ?_
    rintro r out ⟨rfl, rfl⟩
    refine ⟨by simp, by simp, fun _ => ⟨.v _, by simp⟩, vc ?_⟩
    by_cases ht : specOk ns
    · rw [tf_true ht]
      refine vc ?_
      refine drawQ_of false (by rfl) (by simp) (vc ?_)
      refine calld_of [] false [] c3 rfl trivial (vc trivial) (by rfl) ⟨_, _, rfl, rfl⟩ ?_
      rintro r out ⟨rfl, rfl⟩
      refine vc4 (by simp) (by simp) (by simp) ?_
      repeat refine ⟨rfl, ?_⟩
      rw [openC_0 ⟨hok, rfl⟩ hg (ht1 ht)]
      exact endQ_of [(1, 143), (2, 144), (3, 5), (4, 6)] (.tu [.ag [.sl 1 sh.length, .sl 2 0, In g, .sl 3 ns.length, .sl 4 ps.length], In 0]) [some (.rw 135 1 (sh.map (shC true))), some (.rw 113 2 []), some (.rw 111 3 (ns.map (ndC true))), some (.rw 3 1 (ps.map inC))] (by rfl) (vc trivial) (vc trivial) ⟨rfl, rfl⟩
    · rw [tf_false ht]
      refine vc ?_
      rw [openC_3 ⟨hok, rfl⟩ hg (ht2 ht)]
      exact St0_end 3 _ _ ⟨rfl, rfl⟩
end Go.Proofs.YtnnmpdanfeejbaaGreat.Abs

/- The law on DiskWrite, walked. -/
namespace Go.Proofs.YtnnmpdanfeejbaaGreat.Abs
open Go Go.Proofs
set_option maxRecDepth 10000
set_option linter.unusedVariables false
set_option linter.unusedSimpArgs false
end Go.Proofs.YtnnmpdanfeejbaaGreat.Abs

/- The law FnExactStoreOpen. -/
namespace Go.Proofs.YtnnmpdanfeejbaaGreat.Abs
open Go Go.Proofs
set_option maxRecDepth 10000
set_option linter.unusedVariables false
set_option linter.unusedSimpArgs false
theorem ndFew.cnt {n : Nd} (h : ndFew n) : cntN n ≤ 16 := by
  have a := sumL_bound c2 2 n.ps (fun x _ => Nat.le_refl _)
  have b := sumL_bound c1 1 n.ks (fun x _ => Nat.le_refl _)
  have c := sumL_bound c1 1 n.cs (fun x _ => Nat.le_refl _)
  obtain ⟨h1, h2, h3, _⟩ := h
  unfold cntN
  omega
theorem Ldd.store {d : Dk} (hok : d.ok) {g : Int} {s : LS} (h : Ldd ([], []) s) : (⟨d, g, s.1, s.2⟩ : St).fits (2^40) ∧ (⟨d, g, s.1, s.2⟩ : St).cnt ≤ 2^40 := by
  have hl := h.len
  have hm := h.most
  simp at hl
  have hf : ∀ x ∈ s.1, ndFew x := fun x hx => (h.few x hx).resolve_left (by simp)
  have a := sumL_bound cntN 16 s.1 (fun x hx => (hf x hx).cnt)
  have b := sumL_bound c1 1 s.2 (fun x _ => Nat.le_refl _)
  have c := hok.cnt
  refine ⟨⟨hok.fits, by simp only; omega, fun n hn => (hf n hn).fits (by omega), by simp only; omega⟩, ?_⟩
  show d.cnt + sumL cntN s.1 + sumL c1 s.2 ≤ _
  omega
theorem openS_facts (d : Dk) : (openS d).1.fits (2^40) ∧ (openS d).1.cnt ≤ 2^40 := by
  have h0 : St0.fits (2^40) ∧ St0.cnt ≤ 2^40 := ⟨⟨⟨by simp [St0], by simp [St0], by simp [St0], by simp [St0]⟩, by simp [St0], by simp [St0], by simp [St0]⟩, by show Dk.cnt ⟨[], []⟩ + sumL cntN [] + sumL c1 [] ≤ _; simp [Dk.cnt, sumL_nil]⟩
  by_cases hd : d.ok ∧ d.wr = []
  case neg => unfold openS; rw [openC_1 hd]; exact h0
  by_cases hg : (mtD d).1 = 0
  · unfold openS; rw [openC_2 hd hg]; exact h0
  cases ht : treeC (mtD d).2 (loadL d 401 ((mtD d).2 : Int) ([], [])) with
  | none => unfold openS; rw [openC_3 hd hg ht]; exact h0
  | some s =>
    unfold openS; rw [openC_0 hd hg ht]
    refine Ldd.store hd.1 ?_
    unfold treeC at ht
    split at ht
    · cases ht; exact Ldd.refl (by simp)
    · split at ht
      · rename_i s' hs'
        split at ht
        · cases ht; exact loadL_ok d 401 _ _ _ hs'
        · cases ht
      · cases ht
theorem lawStoreOpen_ok (d : Dk) (hd : d.fits (2^47)) : CallOk Tryz.prog 3 [] [d.rd] (fun r out => r = Bo true ∧ out = []) := by
  unfold Dk.rd
  refine callOk_z (np := 0) {} mixed Tryz.func3 (by rfl) Tryz.ntmps3 Tryz.results3 (by rfl) (Nat.le_of_ble_eq_true rfl) rfl rfl rfl (vc ?_)
  refine callq_of false [] (szDisk_ok d 1048576 hd (by omega)) rfl trivial (by unfold Dk.rd; exact vc trivial) ?_
  rintro r out ⟨rfl, rfl⟩
  refine ⟨by simp, by simp, by simp, vc ?_⟩
  have hc := szB_cases d.size 1048576
  refine brB_intro (fun h => EndQ.closed (.v _) ⟨rfl, rfl⟩) (fun h => ?_)
  have hs : d.size ≤ 2^20 := by
    have h : ¬ szB d.size 1048576 < 0 := by simpa using h
    omega
  have hf : d.fits (2^40) := Dk.fits_of (by omega)
  obtain ⟨e1, e2⟩ := openS_facts d
  have cs := specOpen_ok d hf
  have ci := implOpen_ok d hf
  unfold opR at cs ci
  generalize (openS d).2 = B at cs ci
  generalize (openS d).1 = S at cs ci e1 e2
  have ce := eqStore_ok S e1
  have hl := mkS_lens S 1
  have hid := mkS_idem S 1
  have f60 : S.lens (2^60) := ⟨by have := e1.1.1; omega, by have := e1.1.2.2.1; omega, by have := e1.2.1; omega, by have := e1.2.2.2; omega⟩
  have cm := markStore_ok S 1 f60 (by omega)
  have g60 : (mkS S 1).lens (2^60) := by
    unfold St.lens
    rw [hl.1, hl.2.1, hl.2.2.1, hl.2.2.2]
    exact f60
  have ch := heldStore_mk (mkS S 1) 1 g60 (by rw [hid.2]; omega) hid.1
  rw [hid.2] at ch
  unfold St.ow St.obs at cs ci cm
  unfold St.rd at ce ch
  unfold Dk.rd at cs ci
  have hl1 := d.lens
  have hc1 := d.cnt_le
  have hR4 : ∀ {b : AV}, Rs true 4 b → true = true → Rs true 4 (.tu [.ag [.sl 1 S.d.sh.length, .sl 2 S.d.wr.length, In S.g, .sl 3 S.t.length, .sl 4 S.ps.length], b]) ∧ ∀ ob, some ob ∈ List.map some [Ob.rw 135 1 (S.d.sh.map (shC true)), .rw 113 2 (S.d.wr.map (wrC true)), .rw 111 3 (S.t.map (ndC true)), .rw 3 1 (S.ps.map inC)] → RsOb true 4 ob := fun hb => st_rs S _ hb
  refine callq_of false [] (toDisk_ok d hf) rfl trivial (by unfold Dk.rd; exact vc trivial) ?_
  rintro r out ⟨rfl, rfl⟩
  refine ⟨by simp, by simp [Dk.obs], by simp, ?_⟩
  unfold Dk.ow Dk.obs
  refine vc ?_
  refine callq_of true [] cs rfl trivial (vc trivial) ?_
  rintro r out ⟨rfl, rfl⟩
  refine ⟨by simp, by simp, hR4 (.v _), vc ?_⟩
  refine callq_of false [] (toDisk_ok d hf) rfl trivial (by unfold Dk.rd; exact vc trivial) ?_
  rintro r out ⟨rfl, rfl⟩
  refine ⟨by simp, by simp [Dk.obs], by simp, ?_⟩
  unfold Dk.ow Dk.obs
  refine vc ?_
  refine callq_of true [] ci rfl trivial (vc trivial) ?_
  rintro r out ⟨rfl, rfl⟩
  refine ⟨by simp, by simp, hR4 (.v _), vc ?_⟩
  refine callq_of true [] ce rfl trivial (vc trivial) ?_
  rintro r out ⟨rfl, rfl⟩
  refine ⟨by simp, by simp, fun _ => ⟨.v _, by simp⟩, vc ?_⟩
  refine drawQ_of false (by rfl) (by simp) (vc ?_)
  refine calld_of [] false [] (toDisk_ok d hf) rfl trivial (by unfold Dk.rd; exact vc trivial) (by rfl) ⟨_, _, rfl, rfl⟩ ?_
  rintro r out ⟨rfl, rfl⟩
  refine ⟨by simp, by simp [Dk.obs], by simp, ?_⟩
  unfold Dk.ow Dk.obs
  refine vc ?_
  refine calld_of [153, 154, 329, 330] true [] (eqDisk_ok d d hf) rfl trivial (by unfold Dk.rd; exact vc trivial) (by rfl) ⟨_, _, rfl, rfl⟩ ?_
  rintro r out ⟨rfl, rfl⟩
  refine ⟨by simp, by simp, fun _ => ⟨.v _, by simp⟩, vc ?_⟩
  refine callq_of false [153, 154] (markDisk_ok 135 113 d 1 (by omega) (by omega)) rfl (vc trivial) (by unfold Dk.ow; exact vc trivial) ?_
  rintro r out ⟨rfl, rfl⟩
  refine ⟨by simp, by simp, by simp, vc ?_⟩
  refine brB_intro (fun hb => by simp at hb; omega) (fun hb => ?_)
  refine callq_of true [] ce rfl trivial (vc trivial) ?_
  rintro r out ⟨rfl, rfl⟩
  refine ⟨by simp, by simp, fun _ => ⟨.v _, by simp⟩, vc ?_⟩
  refine callq_of false [185, 186, 187, 188] cm rfl (vc trivial) (vc trivial) ?_
  rintro r out ⟨rfl, rfl⟩
  refine ⟨by simp, by simp, by simp, vc ?_⟩
  refine callq_of true [] ch rfl trivial (by refine vc ?_; exact ⟨hl.1.symm, hl.2.1.symm, rfl, hl.2.2.1.symm, hl.2.2.2.symm⟩) ?_
  rintro r out ⟨rfl, rfl⟩
  refine ⟨by simp, by simp, fun _ => ⟨.v _, by simp⟩, vc ?_⟩
  refine brB_intro (fun hb => by simp at hb; omega) (fun hb => ?_)
  refine callq_of false [] (toDisk_ok d hf) rfl trivial (by unfold Dk.rd; exact vc trivial) ?_
  rintro r out ⟨rfl, rfl⟩
  refine ⟨by simp, by simp [Dk.obs], by simp, ?_⟩
  unfold Dk.ow Dk.obs
  refine vc ?_
  refine callq_of true [] ci rfl trivial (vc trivial) ?_
  rintro r out ⟨rfl, rfl⟩
  refine ⟨by simp, by simp, hR4 (.v _), vc ?_⟩
  refine callq_of true [] ce rfl trivial (vc trivial) ?_
  rintro r out ⟨rfl, rfl⟩
  refine ⟨by simp, by simp, fun _ => ⟨.v _, by simp⟩, vc ?_⟩
  refine callq_of true [] ch rfl trivial (by refine vc ?_; exact ⟨hl.1.symm, hl.2.1.symm, rfl, hl.2.2.1.symm, hl.2.2.2.symm⟩) ?_
  rintro r out ⟨rfl, rfl⟩
  refine ⟨by simp, by simp, fun _ => ⟨.v _, by simp⟩, vc ?_⟩
  refine brB_intro (fun hb => by simp at hb; omega) (fun hb => ?_)
  exact EndQ.closed (.v _) ⟨rfl, rfl⟩
end Go.Proofs.YtnnmpdanfeejbaaGreat.Abs

/- What a statement reads as data is what the contracts take. -/
namespace Go.Proofs.YtnnmpdanfeejbaaGreat.Abs
open Go Go.RowKit Go.ChangeShapes Go.WideShapes
set_option linter.unusedVariables false
set_option linter.unusedSimpArgs false
def CellsR (w : World) (l : List CV) (cs : List Value) : Prop := cs.length = l.length ∧ ∀ (j : Nat) c u, l[j]? = some c → cs[j]? = some u → RdR w (fun _ => True) c u
/-- What of type t can be read as data stands in these cells; G: its bounds. -/
def OpA (P : Program) (t : TypeId) {α : Type} (enc : α → List CV) (G : α → Prop) : Prop :=
  (∀ a, (enc a).length = P.cellsOf t) ∧ ∀ (H : Type) (en : TypeId × Value → H) (w : World) (fuel : Nat) (cs : List Value) (x : DataW H × List MemPlace),
    DataW.trod en P w 0 (fun _ => true) true fuel t cs = some x → (∀ n ∈ x.1.weights P t, n ≤ reachBytes) → ∃ a, CellsR w (enc a) cs ∧ G a
theorem cellsR_one {w : World} {c : CV} {u : Value} (h : RdR w (fun _ => True) c u) : CellsR w [c] [u] :=
  ⟨rfl, fun j c' u' hc hu => by cases j with | zero => simp at hc hu; subst hc hu; exact h | succ j => simp at hc⟩
theorem list_choose' {α : Type} (n : Nat) {p : Nat → α → Prop} (h : ∀ i, i < n → ∃ x, p i x) : ∃ xs : List α, xs.length = n ∧ ∀ i x, xs[i]? = some x → p i x := by
  induction n with
  | zero => exact ⟨[], rfl, fun i x hx => by simp at hx⟩
  | succ n ih =>
    obtain ⟨xs, hl, hx⟩ := ih (fun i hi => h i (by omega))
    obtain ⟨y, hy⟩ := h n (by omega)
    refine ⟨xs ++ [y], by simp [hl], fun i x hi => ?_⟩
    rcases Nat.lt_or_ge i xs.length with hlt | hge
    · rw [List.getElem?_append_left hlt] at hi
      exact hx i x hi
    · have : i = n := by
        have := (List.getElem?_eq_some_iff.1 hi).1
        simp at this; omega
      subst this
      rw [List.getElem?_append_right hge, ← hl, Nat.sub_self] at hi
      injection hi with hi
      rw [← hi]; exact hy
theorem weightsAll_mem' {H : Type} {P : Program} {e : TypeId} {D : DataW H} : ∀ {l : List (DataW H)}, D ∈ l → ∀ n ∈ D.weights P e, n ∈ DataW.weightsAll P e l
  | a :: l, h, n, hn => by
    rw [DataW.weightsAll, List.mem_append]
    rcases List.mem_cons.1 h with rfl | h
    · exact .inl hn
    · exact .inr (weightsAll_mem' h n hn)
section
variable {P : Program} {t e : TypeId}
theorem opA_int (h : P.underlying t = some (.int .i64)) (hc : P.cellsOf t = 1) : OpA P t (fun n : Int => [CV.v (.int .i64 n)]) (fun n => -9223372036854775808 ≤ n ∧ n ≤ 9223372036854775807) := by
  refine ⟨fun a => hc.symm, fun H en w fuel cs x hx _ => ?_⟩
  obtain ⟨n, rfl, _, hw⟩ := DataW.trod_int h hx
  refine ⟨n, cellsR_one (.v _ rfl), ?_⟩
  simp [Lit.wf, IntKind.min, IntKind.max, IntKind.bits, IntKind.signed] at hw
  omega
theorem opA_byte (h : P.underlying t = some (.int .u8)) (hc : P.cellsOf t = 1) : OpA P t (fun n : UInt8 => [CV.v (.int .u8 n.toNat)]) (fun _ => True) := by
  refine ⟨fun a => hc.symm, fun H en w fuel cs x hx _ => ?_⟩
  obtain ⟨n, rfl, _, hw⟩ := DataW.trod_int h hx
  simp [Lit.wf, IntKind.min, IntKind.max, IntKind.bits, IntKind.signed] at hw
  have he : n = (((UInt8.ofNat n.toNat).toNat : Nat) : Int) := by
    rw [UInt8.toNat_ofNat', Nat.mod_eq_of_lt (by omega)]; omega
  refine ⟨UInt8.ofNat n.toNat, ?_, trivial⟩
  show CellsR w [CV.v (.int .u8 (((UInt8.ofNat n.toNat).toNat : Nat) : Int))] _
  rw [← he]
  exact cellsR_one (.v _ rfl)
theorem opA_slice {α : Type} {enc : α → List CV} {G : α → Prop} (h : P.underlying t = some (.slice e)) (hc : P.cellsOf t = 1) {m0 : Nat} (he1 : P.cellsOf e = m0) (he2 : 0 < m0) {B : Nat} (hB : P.bytesOf e = B) (hB0 : 0 < B) (he : OpA P e enc G) :
    OpA P t (fun xs : List α => [CV.row false (xs.map enc)]) (fun xs => xs.length ≤ 2^47 ∧ ∀ x ∈ xs, G x) := by
  have he0 : 0 < P.cellsOf e := by omega
  refine ⟨fun a => hc.symm, fun H en w fuel cs x hx hn => ?_⟩
  rcases Go.Deep.open_slice h hx with ⟨rfl, rfl⟩ | ⟨a, len, cap, m, n, D, Pl, rfl, hb, hl, hm, hmm, rfl, hel⟩
  · exact ⟨[], cellsR_one (.nil _ _ _ (fun h => by cases h)), by simp, by simp⟩
  · have hm' : m = cap := by simpa using hmm
    subst hm'
    have hlen : len ≤ 2^47 := by
      have h1 := hn ((len + (m - len)) * B) (by simp [DataW.weights, h, hB])
      have h2 : reachBytes ≤ 2^47 := by decide
      have h3 : (len + (m - len)) * 1 ≤ (len + (m - len)) * B := Nat.mul_le_mul_left _ hB0
      omega
    have key : ∀ i, i < len → ∃ p : α, (∃ cs', w.cells? 0 (a.add (i * P.cellsOf e)) (P.cellsOf e) = some cs' ∧ CellsR w (enc p) cs') ∧ G p := by
      intro i hi
      obtain ⟨cs', h1, h2⟩ := hel i (by omega)
      obtain ⟨p, h3, h4⟩ := he.2 H en w n cs' _ h2 (fun q hq => hn q (by
        have h5 : q ∈ DataW.weightsAll P e ((List.range len).map D) := weightsAll_mem' (List.mem_map.2 ⟨i, List.mem_range.2 hi, rfl⟩) q hq
        simp only [DataW.weights, h]
        exact List.mem_cons_of_mem _ (List.mem_append_left _ h5)))
      exact ⟨p, ⟨cs', h1, h3⟩, h4⟩
    obtain ⟨xs, hxl, hxs⟩ := list_choose' len key
    refine ⟨xs, cellsR_one ?_, by rw [hxl]; exact hlen, fun x hx => ?_⟩
    · subst hxl
      by_cases h0 : xs = []
      · subst h0; exact .nil _ _ _ (fun h => by cases h)
      obtain ⟨x0, r0, hxr⟩ := List.exists_cons_of_ne_nil h0
      have hpos : 0 < xs.length := by rw [hxr]; simp
      have hcell : ∀ i j, i < xs.length → j < P.cellsOf e → ∃ u, w.cell? (a.add (i * P.cellsOf e + j)) = some u ∧ True := by
        intro i j hi hj
        obtain ⟨⟨cs', h1, h2⟩, _⟩ := hxs i _ (List.getElem?_eq_getElem hi)
        obtain ⟨_, h4, h5⟩ := World.cells?_some h1
        have := h5 j hj
        rw [Go.Deep.add_add, List.getElem?_eq_getElem (by omega)] at this
        exact ⟨_, this, trivial⟩
      have hnone : a.spot = none ∧ ∃ arr ty fz, w.heap[a.block]? = some (.cells arr ty fz) := by
        obtain ⟨u, hu, _⟩ := hcell 0 0 hpos he0
        rw [Nat.zero_mul, Nat.add_zero] at hu
        unfold Addr.add World.cell? at hu
        simp only [↓reduceIte] at hu
        split at hu
        · rename_i arr ty fz hh
          split at hu
          · cases hu
          · rename_i hs
            exact ⟨by simpa using hs, arr, ty, fz, hh⟩
        · cases hu
      obtain ⟨hs, arr, ty, fz, hh⟩ := hnone
      obtain ⟨bl, off, sp⟩ := a
      have hs : sp = none := hs
      subst hs
      have hadd : ∀ k, (⟨bl, off, none⟩ : Addr).add k = ⟨bl, off + k, none⟩ := fun k => by unfold Addr.add; split
                                                                                           · rename_i e; rw [e]; rfl
                                                                                           · rfl
      have hcell' : ∀ i j, i < xs.length → j < P.cellsOf e → arr[off + (i * P.cellsOf e + j)]? = some (arr.getD (off + (i * P.cellsOf e + j)) undef) := by
        intro i j hi hj
        obtain ⟨u, hu, _⟩ := hcell i j hi hj
        rw [hadd, cell_at hh] at hu
        have := (Array.getElem?_eq_some_iff.1 hu).1
        rw [Array.getElem?_eq_getElem this]
        simp [Array.getD, this]
      have := RdR.row (w := w) (T := fun _ => True) false bl off (P.cellsOf e) m (xs.map enc) arr ty fz (fun i j => arr.getD (off + (i * P.cellsOf e + j)) undef) trivial hh
        (fun c hc => by obtain ⟨x, _, rfl⟩ := List.mem_map.1 hc; exact he.1 x) (by rw [List.length_map]; unfold maxLen at hm ⊢; omega) (by rw [List.length_map]; omega) (fun h => by cases h) (fun i j hi hj => hcell' i j (by simpa using hi) hj) (fun i j c1 c2 h1 h2 => by
          rw [List.getElem?_map, Option.map_eq_some_iff] at h1
          obtain ⟨x, hx, rfl⟩ := h1
          have hi : i < xs.length := (List.getElem?_eq_some_iff.1 hx).1
          obtain ⟨⟨cs', h3, h4⟩, _⟩ := hxs i x hx
          obtain ⟨_, h5, h6⟩ := World.cells?_some h3
          have hj : j < P.cellsOf e := by
            have := (List.getElem?_eq_some_iff.1 h2).1
            rw [he.1] at this; exact this
          have h7 := h6 j hj
          rw [Go.Deep.add_add, hadd, cell_at hh, hcell' i j hi hj] at h7
          exact h4.2 j _ _ h2 h7.symm)
      rw [List.length_map] at this
      exact this
    · obtain ⟨j, hj, rfl⟩ := List.mem_iff_getElem.1 hx
      exact (hxs j _ (List.getElem?_eq_getElem hj)).2
/-- Fields in line, from offset o on. -/
def OpFs (P : Program) (fs : List Field) (o : Nat) {α : Type} (enc : α → List CV) (n : Nat) (G : α → Prop) : Prop :=
  (∀ a, (enc a).length = n) ∧ ∀ (H : Type) (en : TypeId × Value → H) (w : World) (k : Nat) (cs : List Value) (xs : List (DataW H × List MemPlace)), xs.length = fs.length →
    (∀ (i : Nat) (f : Field), fs[i]? = some f → DataW.trod en P w 0 (fun _ => true) true k f.type ((cs.drop f.offset).take (P.cellsOf f.type)) = xs[i]?) →
    (∀ q ∈ DataW.weightsEach P (fs.map (·.type)) (xs.map (·.1)), q ≤ reachBytes) → ∃ a, CellsR w (enc a) ((cs.drop o).take n) ∧ G a
theorem cellsR_app {w : World} {l l' : List CV} {cs cs' : List Value} (h : CellsR w l cs) (h' : CellsR w l' cs') : CellsR w (l ++ l') (cs ++ cs') := by
  refine ⟨by simp [h.1, h'.1], fun j c u hc hu => ?_⟩
  rcases Nat.lt_or_ge j l.length with hj | hj
  · rw [List.getElem?_append_left hj] at hc
    rw [List.getElem?_append_left (by rw [h.1]; exact hj)] at hu
    exact h.2 j c u hc hu
  · rw [List.getElem?_append_right hj] at hc
    rw [List.getElem?_append_right (by rw [h.1]; exact hj), h.1] at hu
    exact h'.2 _ c u hc hu
theorem fsA_one {α : Type} {enc : α → List CV} {G : α → Prop} {f : Field} {o n : Nat} (h : OpA P e enc G) (ht : f.type = e) (ho : f.offset = o) (hn : P.cellsOf e = n) : OpFs P [f] o enc n G := by
  subst ht; subst ho; subst hn
  refine ⟨h.1, fun H en w k cs xs hl hx hq => ?_⟩
  obtain ⟨x, rfl⟩ : ∃ x, xs = [x] := by
    match xs, hl with
    | [x], _ => exact ⟨x, rfl⟩
  exact h.2 H en w k _ x (hx 0 f rfl) (fun q hm => hq q (by simpa [DataW.weightsEach] using hm))
theorem fsA_cons {α β : Type} {enc : α → List CV} {enc' : β → List CV} {G : α → Prop} {G' : β → Prop} {f : Field} {fs : List Field} {o o' n n' : Nat} (h : OpA P e enc G) (h' : OpFs P fs o' enc' n' G') (ht : f.type = e) (ho : f.offset = o) (hn : P.cellsOf e = n) (hs : o + n = o') :
    OpFs P (f :: fs) o (fun x : α × β => enc x.1 ++ enc' x.2) (n + n') (fun x => G x.1 ∧ G' x.2) := by
  subst ht; subst ho; subst hn; subst hs
  refine ⟨fun a => by rw [List.length_append, h.1, h'.1], fun H en w k cs xs hl hx hq => ?_⟩
  obtain ⟨x, ys, rfl⟩ : ∃ x ys, xs = x :: ys := by
    match xs, hl with
    | x :: ys, _ => exact ⟨x, ys, rfl⟩
  obtain ⟨a, ha, ga⟩ := h.2 H en w k _ x (hx 0 f rfl) (fun q hm => hq q (by simp only [List.map_cons, DataW.weightsEach]; exact List.mem_append_left _ hm))
  obtain ⟨b, hb, gb⟩ := h'.2 H en w k cs ys (by simpa using hl) (fun i g hg => by have := hx (i + 1) g (by simpa using hg); simpa using this)
    (fun q hm => hq q (by simp only [List.map_cons, DataW.weightsEach]; exact List.mem_append_right _ hm))
  refine ⟨(a, b), ?_, ga, gb⟩
  rw [List.take_add, List.drop_drop]
  exact cellsR_app ha hb
theorem opA_struct {α : Type} {enc : α → List CV} {n : Nat} {G : α → Prop} {fs : Array Field} (h : P.underlying t = some (.struct fs)) (hc : P.cellsOf t = n) (hf : OpFs P fs.toList 0 enc n G) : OpA P t enc G := by
  subst hc
  refine ⟨hf.1, fun H en w fuel cs x hx hn => ?_⟩
  obtain ⟨xs, k, _, rfl, hl, hxl, hel⟩ := DataW.trod_struct h hx
  obtain ⟨a, ha, ga⟩ := hf.2 H en w k cs xs (by rw [hxl]; simp) (fun i f hi => hel i f (by simpa using hi)) (fun q hq => hn q (by simpa [DataW.weights, h] using hq))
  rw [List.drop_zero, List.take_of_length_le (by omega)] at ha
  exact ⟨a, ha, ga⟩
theorem OpA.iso {α β : Type} {enc : α → List CV} {enc' : β → List CV} {G : α → Prop} {G' : β → Prop} (h : OpA P t enc G) (g : α → β) (he : ∀ a, enc' (g a) = enc a) (hl : ∀ b, (enc' b).length = P.cellsOf t) (hG : ∀ a, G a → G' (g a)) : OpA P t enc' G' :=
  ⟨hl, fun H en w fuel cs x hx hn => by obtain ⟨a, ha, ga⟩ := h.2 H en w fuel cs x hx hn; exact ⟨g a, by rw [he]; exact ha, hG a ga⟩⟩
variable {H : Type} {en : TypeId × Value → H} {W : World} {v : Value} {D : DataW H} {p : List MemPlace}
/-- A parameter. -/
theorem OpA.param {α : Type} {enc : α → List CV} {G : α → Prop} (ho : OpA P t enc G) (h : DataW.Trod en P W 0 (fun _ => true) true t v D p) {ts : List TypeId} {ds : List (DataW H)} {j : Nat}
    (hsz : (DataW.weightsEach P ts ds).all (· ≤ reachBytes) = true) (ht : ts[j]? = some t) (hd : ds[j]? = some D) : ∃ a, CellsR W (enc a) v.cells.toList ∧ G a := by
  obtain ⟨fuel, hf⟩ := h
  exact ho.2 H en W fuel _ _ hf (fun n hn => by simpa using List.all_eq_true.1 hsz _ (DataW.weights_mem_each ht hd n hn))
end
/-- Nothing is owned. -/
def E0 : Env := ⟨fun _ => none, fun _ => none⟩
theorem rd_agg {w : World} {l : List CV} {us : Array Value} {H : Hp} (h : CellsR w l us.toList) : RdV w E0 H (.ag (l.map .c)) (.agg us) := by
  refine .ag _ _ (by have := h.1; simpa using this) (fun i c u hc hu => ?_)
  rw [List.getElem?_map, Option.map_eq_some_iff] at hc
  obtain ⟨c', hc', rfl⟩ := hc
  exact .c _ _ ((h.2 i c' u hc' (by simpa using hu)).mono (fun b _ _ => ⟨rfl, rfl⟩))
/-- A law's call, by its contract. -/
theorem law_calls {P : Program} {f : Nat} {args : List AV} (h : CallOk P f [] args (fun r out => r = Bo true ∧ out = [])) (W : World) (vals : Array Value) (hs : vals.size = args.length)
    (hv : ∀ (i : Nat) x u, args[i]? = some x → vals[i]? = some u → RdV W E0 (HpS []) x u) : Calls P f vals W (fun e W' => e = .returned (.bool true) ∧ Below W.heap.size W W') := by
  refine (h.2 W E0 vals (fun k ob hk => by unfold HpS at hk; split at hk <;> simp at hk) (fun b ℓ hb => by cases hb) hs hv).mono fun e W' hh => ?_
  obtain ⟨u, r, out, E', rfl, ⟨rfl, rfl⟩, hr, _, _, _, _, hevo, _, _⟩ := hh
  refine ⟨?_, hevo.os, hevo.tape, hevo.output, hevo.size, fun k hk => hevo.block k hk (by rintro ⟨k', p, hp, _⟩; cases hp)⟩
  cases hr with
  | c _ _ h => cases h; rfl
end Go.Proofs.YtnnmpdanfeejbaaGreat.Abs

/- The laws' parameters, as they are read. -/
namespace Go.Proofs.YtnnmpdanfeejbaaGreat.Abs
open Go Go.Proofs
set_option linter.unusedVariables false
theorem oInt : OpA Tryz.prog 3 (fun n : Int => [CV.v (.int .i64 n)]) (fun n => -9223372036854775808 ≤ n ∧ n ≤ 9223372036854775807) := opA_int Tryz.underlying3 (by kernel_rfl)
theorem oByte : OpA Tryz.prog 5 (fun n : UInt8 => [CV.v (.int .u8 n.toNat)]) (fun _ => True) := opA_byte Tryz.underlying5 (by kernel_rfl)
theorem oByteS : OpA Tryz.prog 69 (fun l : List UInt8 => [CV.row false (eB l)]) (fun l => l.length ≤ 2^47) :=
  (opA_slice Tryz.underlying69 (by kernel_rfl) (m0 := 1) (by kernel_rfl) (by decide) (B := 1) (by kernel_rfl) (by decide) oByte).iso id (fun _ => rfl) (fun _ => by kernel_rfl) (fun _ h => h.1)
theorem oSheet : OpA Tryz.prog 132 (shC false) (fun l => l.length ≤ 2^47) :=
  (opA_struct Tryz.underlying132 (by kernel_rfl) (fsA_one (n := 1) oByteS (by rfl) (by rfl) (by kernel_rfl))).iso id (fun _ => rfl) (fun _ => by kernel_rfl) (fun _ h => h)
theorem oSheetS : OpA Tryz.prog 22 (fun xs : List (List UInt8) => [CV.row false (xs.map (shC false))]) (fun xs => xs.length ≤ 2^47 ∧ ∀ x ∈ xs, x.length ≤ 2^47) :=
  opA_slice Tryz.underlying22 (by kernel_rfl) (m0 := 1) (by kernel_rfl) (by decide) (B := 24) (by kernel_rfl) (by decide) oSheet
theorem oWrite : OpA Tryz.prog 134 (wrC false) (fun x => x.2.length ≤ 2^47) :=
  (opA_struct Tryz.underlying134 (by kernel_rfl) (fsA_cons (n := 1) oInt (fsA_one (n := 1) oByteS (by rfl) (by rfl) (by kernel_rfl)) (by rfl) (by rfl) (by kernel_rfl) (by rfl))).iso id (fun _ => rfl) (fun _ => by kernel_rfl) (fun _ h => h.2)
theorem oWriteS : OpA Tryz.prog 23 (fun xs : List (Int × List UInt8) => [CV.row false (xs.map (wrC false))]) (fun xs => xs.length ≤ 2^47 ∧ ∀ x ∈ xs, x.2.length ≤ 2^47) :=
  opA_slice Tryz.underlying23 (by kernel_rfl) (m0 := 2) (by kernel_rfl) (by decide) (B := 32) (by kernel_rfl) (by decide) oWrite
theorem oDisk : OpA Tryz.prog 25 (fun d : Dk => [CV.row false (d.sh.map (shC false)), CV.row false (d.wr.map (wrC false))]) (Dk.fits (2^47)) :=
  (opA_struct Tryz.underlying25 (by kernel_rfl) (fsA_cons (n := 1) oSheetS (fsA_one (n := 1) oWriteS (by rfl) (by rfl) (by kernel_rfl)) (by rfl) (by rfl) (by kernel_rfl) (by rfl))).iso (fun x => ⟨x.1, x.2⟩) (fun _ => rfl) (fun _ => by kernel_rfl) (fun _ h => ⟨h.1.1, h.1.2, h.2.1, h.2.2⟩)
theorem rd_nil {W : World} {H : Hp} : ∀ (i : Nat) x u, ([] : List AV)[i]? = some x → (#[] : Array Value)[i]? = some u → RdV W E0 H x u := fun i x u h => by simp at h
theorem rd_cons {W : World} {H : Hp} {a : AV} {v : Value} {l : List AV} {vs : List Value} (h : RdV W E0 H a v) (hl : ∀ (i : Nat) x u, l[i]? = some x → (vs.toArray)[i]? = some u → RdV W E0 H x u) :
    ∀ (i : Nat) x u, (a :: l)[i]? = some x → ((v :: vs).toArray)[i]? = some u → RdV W E0 H x u := by
  intro i x u hx hu
  cases i with
  | zero => simp at hx hu; subst hx hu; exact h
  | succ i => exact hl i x u (by simpa using hx) (by simpa using hu)
end Go.Proofs.YtnnmpdanfeejbaaGreat.Abs
