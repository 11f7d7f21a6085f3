import Derived.Test.YtnnmpdanfeejbaaAbsG5
import Derived.Deep.Slices
import Derived.SizedLaws
import Derived.Lib.SmallJoins
/- The draws: disks. -/
namespace Go.Proofs.Ytnnmpdanfeejbaa.Abs
open Go Go.Proofs
set_option maxRecDepth 10000
set_option linter.unusedVariables false
set_option linter.unusedSimpArgs false
def dkN (n : Int) : Dk × Bool := if 2 ≤ n ∧ n ≤ 400 then (⟨List.replicate n.toNat [], []⟩, true) else (⟨[], []⟩, false)
theorem dkNo (H : Hp) (R : AV → List (Option Ob) → Prop) (h : R (.tu [(⟨[], []⟩ : Dk).ow, Bo false]) ((⟨[], []⟩ : Dk).obs.map some)) : EndQ 0 H (.tu [.ag [.nul, .nul], Bo false]) R :=
  endQ_of [(1, 0), (2, 0)] (.tu [.ag [.sl 1 0, .sl 2 0], Bo false]) [some (.rw 155 1 []), some (.rw 90 2 [])] (by rfl) (vc trivial) (vc trivial) h
theorem specDiskNew_ok (n : Int) : CallOk Try.prog 159 [] [In n] (fun r out => r = .tu [(dkN n).1.ow, Bo (dkN n).2] ∧ out = (dkN n).1.obs.map some) := by
  refine callOk_z (np := 0) {} mixed Try.func159 (by rfl) Try.ntmps159 Try.results159 (by rfl) (Nat.le_of_ble_eq_true rfl) rfl rfl rfl (vc ?_)
  refine brB_intro (fun h1 => ?_) (fun h1 => ?_)
  · have h1 : n < 2 := by simpa using h1
    rw [dkN, if_neg (by omega)]
    exact dkNo _ _ ⟨rfl, rfl⟩
  refine brB_intro (fun h2 => ?_) (fun h2 => ?_)
  · have h2 : n > 400 := by simpa using h2
    rw [dkN, if_neg (by omega)]
    exact dkNo _ _ ⟨rfl, rfl⟩
  · have h1 : 2 ≤ n := by simp at h1; omega
    have h2 : n ≤ 400 := by simp at h2; omega
    rw [dkN, if_pos ⟨h1, h2⟩]
    refine ⟨by omega, ?_⟩
    exact endQ_of [(1, 73), (2, 0)] (.tu [.ag [.sl 1 n.toNat, .sl 2 0], Bo true]) [some (.rw 155 1 (List.replicate n.toNat [.row true []])), some (.rw 90 2 [])] (by rfl) (vc trivial) (vc trivial) ⟨by simp [Dk.ow], by simp [Dk.obs, List.map_replicate, shC, eB_nil]⟩
theorem dkN_ok {n : Int} (h : 2 ≤ n ∧ n ≤ 400) : (dkN n).1.ok ∧ (dkN n).1.wr = [] ∧ (dkN n).2 = true := by
  rw [dkN, if_pos h]
  refine ⟨⟨by simp; omega, fun x hx => ?_, fun x hx => by cases hx⟩, rfl, rfl⟩
  have := List.eq_of_mem_replicate hx
  exact .inl (by rw [this]; rfl)
def DiskR (b : List UInt8) (r : AV) (out : List (Option Ob)) : Prop := ∃ d : Dk, d.ok ∧ r = .ag [.sl 2 d.sh.length, .sl 3 d.wr.length] ∧ ∃ (i : Nat) (h : Int), i ≤ b.length ∧ out = [some (curO b i h), some (.rw 155 1 (d.sh.map (shC true))), some (.rw 90 2 (d.wr.map (wrC true)))]
theorem rs_two (m n : Nat) {k : Nat} (h : 2 ≤ k) : Rs true k (.ag [.sl 1 m, .sl 2 n]) := .ag _ (by intro c hc; simp at hc; rcases hc with rfl | rfl; exact .sl 1 _ (by omega) (by omega); exact .sl 2 _ (by omega) h)
theorem l05Draw_ok (b : List UInt8) (hb : b.length ≤ 2^40) (i : Nat) (h : Int) (hi : i ≤ b.length) : CallOk Try.prog 143 [curO b i h] [.pt 1 0 0] (DiskR b) := by
  unfold curO
  refine callOk_z (np := 1) {} mixed Try.func143 (by rfl) Try.ntmps143 Try.results143 (by rfl) (Nat.le_of_ble_eq_true rfl) rfl rfl rfl (vc ?_)
  have hc := l01Below_ok b hb i h hi 6 (by omega)
  unfold curO at hc
  refine callq_of false [1] hc rfl (vc trivial) (vc trivial) ?_
  rintro r out ⟨⟨x, rfl, hx0, hx1⟩, i, h, hi, rfl⟩
  unfold curO
  refine vc4 (by simp) (by simp) (by simp) ?_
  rw [w64 (2 + x) (by omega)]
  obtain ⟨n1, n2, n3⟩ := dkN_ok (n := 2 + x) (by omega)
  have hc := specDiskNew_ok (2 + x)
  generalize dkN (2 + x) = D at hc n1 n2 n3
  obtain ⟨d, db⟩ := D
  simp only at hc n1 n2 n3
  unfold Dk.ow Dk.obs at hc
  refine callq_of false [] hc rfl trivial (vc trivial) ?_
  rintro r out ⟨rfl, rfl⟩
  refine vc4 (by simp) (by simp) (by simp) ?_
  have hc := l01Below_ok b hb i h hi 7 (by omega)
  unfold curO at hc
  refine callq_of false [1] hc rfl (vc trivial) (vc trivial) ?_
  rintro r out ⟨⟨n, rfl, hn0, hn1⟩, i, h, hi, rfl⟩
  unfold curO
  refine vc4 (by simp) (by simp) (by simp) ?_
  obtain ⟨n, rfl⟩ : ∃ m : Nat, n = m := ⟨n.toNat, by omega⟩
  refine loopQ_of (ι := Nat × Int × Nat × Dk) (fun k => [(0, .pt 1 0 0), (2, .pt 2 0 0), (3, .pt 3 0 0), (5, In (k.2.2.1 : Nat))]) (fun k => [(1, .box 179 [Rw (eB b), In (k.1 : Nat), In k.2.1]), (2, .box 31 [.nul, .nul]), (3, .box 31 [.sl 4 k.2.2.2.sh.length, .sl 5 k.2.2.2.wr.length]), (4, .rw 155 1 (k.2.2.2.sh.map (shC true))), (5, .rw 90 2 (k.2.2.2.wr.map (wrC true)))]) 6 (fun k => k.2.2.1) (fun k => k.1 ≤ b.length ∧ k.2.2.1 + k.2.2.2.wr.length ≤ 10 ∧ k.2.2.2.ok) (i, h, n, d) ⟨hi, by rw [n2]; simp; omega, n1⟩ [(3, 66), (4, 34), (5, 35)] (by rfl) (vc trivial) (vc trivial) (fun k hk N hN => ?_)
  clear n1 n2 n3
  obtain ⟨i, h, n, d⟩ := k
  obtain ⟨hi, hn, hd⟩ := hk
  simp only at hi hn hd hN
  refine vc (brB_intro (fun h1 => ?_) (fun h1 => ?_))
  · have h1 : 0 < n := by simpa using h1
    have hw : IntKind.i64.wrap (((n : Nat) : Int) - 1) = ((n - 1 : Nat) : Int) := by rw [w64 _ (by omega)]; omega
    have hc := l01Below_ok b hb i h hi 6 (by omega)
    unfold curO at hc
    refine callq_of false [1] hc rfl (vc trivial) (vc trivial) ?_
    rintro r out ⟨⟨k, rfl, hk0, hk1⟩, i, h, hi, rfl⟩
    unfold curO
    refine vc4 (by simp) (by simp) (by simp) ?_
    refine brB_intro (fun h2 => ?_) (fun h2 => ?_)
    · have hc := specDiskSync_ok d hd.fits
      have hs : d.sync.ok ∧ d.sync.wr = [] := ⟨hd.crash _, by unfold Dk.sync; rw [show d.crash _ = ⟨crashL d.sh d.wr _ d.wr.length, []⟩ from if_pos hd]⟩
      obtain ⟨s1, s2⟩ := hs
      refine callq_of true [] hc rfl trivial (by unfold Dk.rd; exact vc trivial) ?_
      rintro r out ⟨rfl, rfl⟩
      refine ⟨by simp, by simp [Dk.obs], fun _ => ⟨rs_ow _ (by simp [Dk.obs]), rso_ow _⟩, ?_⟩
      unfold Dk.ow Dk.obs
      refine vc ?_
      rw [hw]
      exact hN _ (i, h, n - 1, d.sync) [(4, 70), (5, 71)] ⟨hi, by show n - 1 + d.sync.wr.length ≤ 10; rw [s2]; simp; omega, s1⟩ (by show n - 1 < n; omega) (by rfl) (vc trivial) (vc trivial)
    refine brB_intro (fun h3 => ?_) (fun h3 => ?_)
    · refine drawQ_of true (by rfl) (by intro _; refine ⟨?_, ?_⟩; (repeat first | exact fun _ => rfl | exact fun _ => nbk_A _ | refine nb_upd rfl ?_); (repeat first | exact fun _ => rfl | exact fun _ => nbo_kill _ | exact nbo_HpS0 | refine nbo_upd rfl ?_)) (vc ?_)
      have hc := l01Below_ok b hb i h hi 600 (by omega)
      unfold curO at hc
      refine calld_of [1] false [1] hc rfl (vc trivial) (vc trivial) (by rfl) (NumP.inh b _) ?_
      rintro r out ⟨⟨x, rfl, hx0, hx1⟩, i, h, hi, rfl⟩
      unfold curO
      refine vc4 (by simp) (by simp) (by simp) ?_
      have hc := l01Below_ok b hb i h hi 600 (by omega)
      unfold curO at hc
      refine calld_of [1] false [1] hc rfl (vc trivial) (vc trivial) (by rfl) (NumP.inh b _) ?_
      rintro r out ⟨⟨y, rfl, hy0, hy1⟩, i, h, hi, rfl⟩
      unfold curO
      refine vc4 (by simp) (by simp) (by simp) ?_
      have hc := specDiskCrash_ok d hd.fits [x, y] (by simp)
      have hs : (d.crash [x, y]).ok ∧ (d.crash [x, y]).wr = [] := ⟨hd.crash _, by rw [show d.crash _ = ⟨crashL d.sh d.wr _ d.wr.length, []⟩ from if_pos hd]⟩
      generalize d.crash [x, y] = e at hc hs
      obtain ⟨s1, s2⟩ := hs
      refine calld_of [4, 5, 118] true [] hc rfl (vc trivial) (by unfold Dk.rd; refine vc ?_; exact sim_in [x, y] true false) (by rfl) ⟨_, _, rfl, rfl⟩ ?_
      rintro r out ⟨rfl, rfl⟩
      refine ⟨by simp, by simp [Dk.obs], fun _ => ⟨rs_ow _ (by simp [Dk.obs]), rso_ow _⟩, ?_⟩
      unfold Dk.ow Dk.obs
      refine vc ?_
      repeat refine ⟨rfl, ?_⟩
      rw [hw]
      exact hN _ (i, h, n - 1, e) [(4, 126), (5, 127)] ⟨hi, by show n - 1 + e.wr.length ≤ 10; rw [s2]; simp; omega, s1⟩ (by show n - 1 < n; omega) (by rfl) (vc trivial) (vc trivial)
    · refine drawQ_of true (by rfl) (by intro _; refine ⟨?_, ?_⟩; (repeat first | exact fun _ => rfl | exact fun _ => nbk_A _ | refine nb_upd rfl ?_); (repeat first | exact fun _ => rfl | exact fun _ => nbo_kill _ | exact nbo_HpS0 | refine nbo_upd rfl ?_)) (vc ?_)
      have hd0 := hd.1
      have hc := l01Below_ok b hb i h hi d.sh.length (by omega)
      unfold curO at hc
      refine calld_of [1] false [1] hc rfl (vc trivial) (vc trivial) (by rfl) (NumP.inh b _) ?_
      rintro r out ⟨⟨x, rfl, hx0, hx1⟩, i, h, hi, rfl⟩
      unfold curO
      refine vc4 (by simp) (by simp) (by simp) ?_
      repeat refine ⟨rfl, ?_⟩
      have hc := l05Bytes_ok b hb i h hi
      unfold curO at hc
      refine calld_of [1] false [1] hc rfl (vc trivial) (vc trivial) (by rfl) (SheetR.inh b) ?_
      rintro r out ⟨l, hl, rfl, i, h, hi, rfl⟩
      unfold curO
      refine vc4 (by simp) (by simp) (by simp) ?_
      repeat refine ⟨rfl, ?_⟩
      have hc := specDiskWrite_ok d hd.fits x l (by omega)
      have hwo : Dk.wrOk d.sh.length (x, l) := ⟨by show 0 ≤ x ∧ x < d.sh.length; omega, hl⟩
      have hwr : d.write x l = (⟨d.sh, d.wr ++ [(x, l)]⟩, true) := by unfold Dk.write; rw [if_pos ⟨hd, hwo, by omega⟩]
      have hok := hd.write hwo (by omega)
      rw [hwr] at hc
      unfold Dk.ow Dk.obs at hc
      refine calld_of [4, 5, 134] true [] hc rfl (vc trivial) (by unfold Dk.rd; exact vc trivial) (by rfl) ⟨_, _, rfl, rfl⟩ ?_
      rintro r out ⟨rfl, rfl⟩
      refine ⟨by simp, by simp, fun _ => ⟨.tu _ (by intro c hc; simp at hc; rcases hc with rfl | rfl; exact rs_two _ _ (Nat.le_refl 2); exact .v _), rso_ow (⟨d.sh, d.wr ++ [(x, l)]⟩ : Dk)⟩, ?_⟩
      refine vc ?_
      repeat refine ⟨rfl, ?_⟩
      rw [hw]
      exact hN _ (i, h, n - 1, ⟨d.sh, d.wr ++ [(x, l)]⟩) [(4, 142), (5, 143)] ⟨hi, by show n - 1 + (d.wr ++ [(x, l)]).length ≤ 10; simp; omega, hok⟩ (by show n - 1 < n; omega) (by rfl) (vc trivial) (vc trivial)
  · exact endQ_of [(2, 4), (3, 5)] (.ag [.sl 2 d.sh.length, .sl 3 d.wr.length]) [some (.box 179 [Rw (eB b), In i, In h]), some (.rw 155 1 (d.sh.map (shC true))), some (.rw 90 2 (d.wr.map (wrC true)))] (by rfl) (vc trivial) (vc trivial) ⟨d, hd, rfl, i, h, hi, rfl⟩
end Go.Proofs.Ytnnmpdanfeejbaa.Abs

/- The draws: any disk. -/
namespace Go.Proofs.Ytnnmpdanfeejbaa.Abs
open Go Go.Proofs
set_option maxRecDepth 10000
set_option linter.unusedVariables false
set_option linter.unusedSimpArgs false
theorem fits_sh {M : Nat} {d : Dk} (hf : d.fits M) (e : Dk) (hw : e.wr = d.wr) (hs : ∀ x ∈ e.sh, x ∈ d.sh ∨ x.length ≤ M) (hl : e.sh.length ≤ d.sh.length) : e.fits M := by
  obtain ⟨a, b, c, f⟩ := hf
  refine ⟨by omega, fun x hx => (hs x hx).elim (b x) id, by rw [hw]; exact c, by rw [hw]; exact f⟩
theorem fits_wr {M : Nat} {d : Dk} (hf : d.fits M) (e : Dk) (hw : e.sh = d.sh) (hs : ∀ x ∈ e.wr, ∃ y ∈ d.wr, x.2.length ≤ y.2.length) (hl : e.wr.length ≤ d.wr.length) : e.fits M := by
  obtain ⟨a, b, c, f⟩ := hf
  refine ⟨by rw [hw]; exact a, by rw [hw]; exact b, by omega, fun x hx => ?_⟩
  obtain ⟨y, hy, h⟩ := hs x hx
  exact Nat.le_trans h (f y hy)
def AnyDR (b : List UInt8) (r : AV) (out : List (Option Ob)) : Prop := (∃ d : Dk, d.fits (2^40) ∧ r = d.rd) ∧ CurP b out
theorem l05Any_ok (b : List UInt8) (hb : b.length ≤ 2^40) (i : Nat) (h : Int) (hi : i ≤ b.length) : CallOk Try.prog 114 [curO b i h] [.pt 1 0 0] (AnyDR b) := by
  unfold curO
  refine callOk_z (np := 1) { fz := [(6, [18]), (11, [18, 19])] } mixed Try.func114 (by rfl) Try.ntmps114 Try.results114 (by rfl) (Nat.le_of_ble_eq_true rfl) rfl rfl rfl (vc ?_)
  have hc := l05Draw_ok b hb i h hi
  unfold curO at hc
  refine callq_of false [1] hc rfl (vc trivial) (vc trivial) ?_
  rintro r out ⟨d, hd, rfl, i, h, hi, rfl⟩
  have hf := hd.fits
  have hd0 := hd.1
  unfold curO
  refine vc4 (by simp) (by simp) (by simp) ?_
  have hc := l01Below_ok b hb i h hi 14 (by omega)
  unfold curO at hc
  refine callq_of false [1] hc rfl (vc trivial) (vc trivial) ?_
  rintro r out ⟨⟨k, rfl, hk0, hk1⟩, i, h, hi, rfl⟩
  unfold curO
  refine vc4 (by simp) (by simp) (by simp) ?_
  have hfin : ∀ (e : Dk) (i : Nat) (h : Int), e.fits (2^40) → i ≤ b.length → AnyDR b e.rd [some (.box 179 [Rw (eB b), In i, In h])] := fun e i h hp hi => ⟨⟨e, hp, rfl⟩, i, h, hi, rfl⟩
  refine brB_intro (fun h1 => ?_) (fun h1 => ?_)
  · have h1 : k = 0 := by simpa using h1
    subst h1
    have h0 : 0 < d.sh.length := by omega
    have hx := List.getElem?_eq_getElem h0
    refine ⟨by omega, ?_⟩
    have hset : (List.map (shC true) d.sh).set 0 (.row true [[.v (.int .u8 1)]] :: List.drop 1 (shC true d.sh[0])) = (d.sh.set 0 [1]).map (shC true) := by
      rw [List.map_set]; rfl
    have hsl : (d.sh.set 0 [1]).length = d.sh.length := List.length_set
    rw [get_map hx, Option.bind_some, if_pos (by rw [shC_length]; omega), hset, ← hsl]
    refine vc ?_
    refine brB_intro (fun h9 => by simp at h9) (fun h9 => ?_)
    refine brB_intro (fun h9 => by simp at h9) (fun h9 => ?_)
    refine brB_intro (fun h9 => by simp at h9) (fun h9 => ?_)
    refine endQ_of [] (.ag [Rw ((d.sh.set 0 [1]).map (shC false)), Rw ((d.wr).map (wrC false))]) [some (.box 179 [Rw (eB b), In i, In h])] (by rfl) (vc trivial) (vc trivial) (hfin ⟨d.sh.set 0 [1], d.wr⟩ i h (fits_sh hf _ rfl (fun x hx => (List.mem_or_eq_of_mem_set hx).elim .inl (fun e => .inr (by rw [e]; simp))) (by simp)) hi)
  have h1 : ¬ k = 0 := by simpa using h1
  refine brB_intro (fun h2 => ?_) (fun h2 => ?_)
  · have h2 : k = 1 := by simpa using h2
    subst h2
    rw [if_pos (by omega), Option.bind_some]
    refine vc ?_
    refine brB_intro (fun h9 => by simp at h9) (fun h9 => ?_)
    refine brB_intro (fun h9 => by simp at h9) (fun h9 => ?_)
    refine endQ_of [] (.ag [Rw ((d.sh.take 1).map (shC false)), Rw ((d.wr).map (wrC false))]) [some (.box 179 [Rw (eB b), In i, In h])] (by rfl) (vc ?_) (vc trivial) (hfin ⟨d.sh.take 1, d.wr⟩ i h (fits_sh hf _ rfl (fun x hx => .inl (List.mem_of_mem_take hx)) (by simp; omega)) hi)
    rw [← List.map_take]; exact .inr (sim_sh _ _ _ _ _)
  have h2 : ¬ k = 1 := by simpa using h2
  refine brB_intro (fun h3 => ?_) (fun h3 => ?_)
  · have h3 : k = 2 := by simpa using h3
    subst h3
    refine brB_intro (fun h8 => ?_) (fun h8 => ?_)
    · have h0 : 0 < d.wr.length := by simp at h8; omega
      have hx := List.getElem?_eq_getElem h0
      refine drawQ_of true (by rfl) (by intro _; refine ⟨?_, ?_⟩; (repeat first | exact fun _ => rfl | exact fun _ => nbk_A _ | refine nb_upd rfl ?_); (repeat first | exact fun _ => rfl | exact fun _ => nbo_kill _ | exact nbo_HpS0 | refine nbo_upd rfl ?_)) (vc ?_)
      have hc := l01Raw_ok b hb i h hi
      unfold curO at hc
      refine calld_of [1] false [1] hc rfl (vc trivial) (vc trivial) (by rfl) ⟨In 0, [some (curO b 0 0)], ⟨0, rfl, by omega, by omega⟩, 0, 0, Nat.zero_le _, rfl⟩ ?_
      rintro r out ⟨⟨x, rfl, hx0, hx1⟩, i, h, hi, rfl⟩
      unfold curO
      refine vc4 (by simp) (by simp) (by simp) ?_
      refine ⟨by omega, ?_⟩
      have hset : (List.map (wrC true) d.wr).set 0 (.v (.int .i64 x) :: List.drop 1 (wrC true d.wr[0])) = (d.wr.set 0 (x, d.wr[0].2)).map (wrC true) := by
        rw [List.map_set]; rfl
      have hsl : (d.wr.set 0 (x, d.wr[0].2)).length = d.wr.length := List.length_set
      rw [get_map hx, Option.bind_some, if_pos (by rw [wrC_length]; omega), hset, ← hsl]
      refine vc ?_
      repeat refine ⟨rfl, ?_⟩
      refine brB_intro (fun h9 => by simp at h9) (fun h9 => ?_)
      refine endQ_of [] (.ag [Rw ((d.sh).map (shC false)), Rw ((d.wr.set 0 (x, d.wr[0].2)).map (wrC false))]) [some (.box 179 [Rw (eB b), In i, In h])] (by rfl) (vc trivial) (vc trivial) (hfin ⟨d.sh, d.wr.set 0 (x, d.wr[0].2)⟩ i h (fits_wr hf _ rfl (fun y hy => (List.mem_or_eq_of_mem_set hy).elim (fun h => ⟨y, h, Nat.le_refl _⟩) (fun e => ⟨_, List.getElem_mem h0, by rw [e]; exact Nat.le_refl _⟩)) (by simp)) hi)
    · refine brB_intro (fun h9 => by simp at h9) (fun h9 => ?_)
      refine endQ_of [] (.ag [Rw ((d.sh).map (shC false)), Rw ((d.wr).map (wrC false))]) [some (.box 179 [Rw (eB b), In i, In h])] (by rfl) (vc trivial) (vc trivial) (hfin ⟨d.sh, d.wr⟩ i h hf hi)
  have h3 : ¬ k = 2 := by simpa using h3
  refine brB_intro (fun h4 => ?_) (fun h4 => ?_)
  · have h4 : k = 3 := by simpa using h4
    subst h4
    refine brB_intro (fun h8 => ?_) (fun h8 => ?_)
    · have h0 : 0 < d.wr.length := by simp at h8; omega
      have hx := List.getElem?_eq_getElem h0
      refine ⟨by omega, ?_⟩
      have hset : (List.map (wrC true) d.wr).set 0 (List.take 1 (wrC true d.wr[0]) ++ [.row true []] ++ List.drop 2 (wrC true d.wr[0])) = (d.wr.set 0 (d.wr[0].1, [])).map (wrC true) := by
        rw [List.map_set]; rfl
      have hsl : (d.wr.set 0 (d.wr[0].1, [])).length = d.wr.length := List.length_set
      rw [get_map hx, Option.bind_some, if_pos (by rw [wrC_length]; omega), hset, ← hsl]
      refine vc ?_
      refine endQ_of [] (.ag [Rw ((d.sh).map (shC false)), Rw ((d.wr.set 0 (d.wr[0].1, [])).map (wrC false))]) [some (.box 179 [Rw (eB b), In i, In h])] (by rfl) (vc trivial) (vc trivial) (hfin ⟨d.sh, d.wr.set 0 (d.wr[0].1, [])⟩ i h (fits_wr hf _ rfl (fun y hy => (List.mem_or_eq_of_mem_set hy).elim (fun h => ⟨y, h, Nat.le_refl _⟩) (fun e => ⟨_, List.getElem_mem h0, by rw [e]; simp⟩)) (by simp)) hi)
    · refine endQ_of [] (.ag [Rw ((d.sh).map (shC false)), Rw ((d.wr).map (wrC false))]) [some (.box 179 [Rw (eB b), In i, In h])] (by rfl) (vc trivial) (vc trivial) (hfin ⟨d.sh, d.wr⟩ i h hf hi)
  refine endQ_of [] (.ag [Rw ((d.sh).map (shC false)), Rw ((d.wr).map (wrC false))]) [some (.box 179 [Rw (eB b), In i, In h])] (by rfl) (vc trivial) (vc trivial) (hfin ⟨d.sh, d.wr⟩ i h hf hi)
theorem drawDiskSync_ok (b : List UInt8) (hb : b.length ≤ 2^40) : CallOk Try.prog 52 [] [Rw (eB b)] (fun r out => ∃ d : Dk, d.fits (2^40) ∧ r = d.rd ∧ out = []) := by
  refine callOk_z (np := 0) {} mixed Try.func52 (by rfl) Try.ntmps52 Try.results52 (by rfl) (Nat.le_of_ble_eq_true rfl) rfl rfl rfl (vc ?_)
  have hc := l01New_ok b hb
  refine callq_of false [] hc rfl trivial (vc trivial) ?_
  rintro r out ⟨rfl, i, h, hi, rfl⟩
  unfold curO
  refine vc4 (by simp) (by simp) (by simp) ?_
  have hc := l05Any_ok b hb i h hi
  unfold curO at hc
  refine callq_of false [17] hc rfl (vc trivial) (vc trivial) ?_
  rintro r out ⟨⟨d, hd, rfl⟩, i, h, hi, rfl⟩
  unfold curO Dk.rd
  refine vc4 (by simp) (by simp) (by simp) ?_
  exact endQ_of [] (.ag [Rw (d.sh.map (shC false)), Rw (d.wr.map (wrC false))]) [] (by rfl) (vc trivial) (vc trivial) ⟨d, hd, rfl, rfl⟩
end Go.Proofs.Ytnnmpdanfeejbaa.Abs

/- The law FnSync. -/
namespace Go.Proofs.Ytnnmpdanfeejbaa.Abs
open Go Go.Proofs
set_option maxRecDepth 10000
set_option linter.unusedVariables false
set_option linter.unusedSimpArgs false
theorem implDiskRead_ok (d : Dk) (hd : d.fits (2^40)) (a : Int) : CallOk Try.prog 57 [] [d.rd, In a] (fun r out => r = byR (dkO d a) ∧ out = byH (dkO d a)) := by
  have hdk := implDiskOk_ok d hd
  unfold Dk.rd at hdk ⊢
  refine callOk_z (np := 0) {} mixed Try.func57 (by rfl) Try.ntmps57 Try.results57 (by rfl) (Nat.le_of_ble_eq_true rfl) rfl rfl rfl (vc ?_)
  have hno : ¬ (d.ok ∧ 0 ≤ a ∧ a < d.sh.length) → ∀ H : Hp, EndQ 0 H (.tu [.nul, Bo false]) (fun r out => r = byR (dkO d a) ∧ out = byH (dkO d a)) := fun e H => by
    unfold dkO
    rw [if_neg e]
    exact byNo _ _ ⟨rfl, rfl⟩
  refine callq_of false [] hdk rfl trivial (vc trivial) ?_
  rintro r out ⟨rfl, rfl⟩
  refine vc4 (by simp) (by simp) (by simp) ?_
  by_cases hok : d.ok
  case neg =>
    rw [tf_false hok]
    refine vc ?_
    exact hno (fun e => hok e.1) _
  rw [tf_true hok]
  have hd0 := hok.1
  refine vc ?_
  rw [w64 ((d.sh.length : Int) - 1) (by omega)]
  refine callq_of false [] (within_ok a 0 ((d.sh.length : Int) - 1)) rfl trivial (vc trivial) ?_
  rintro r out ⟨rfl, rfl⟩
  refine vc4 (by simp) (by simp) (by simp) ?_
  refine brB_intro (fun h => ?_) (fun h => ?_)
  · exact hno (fun e => by simp at h; omega) _
  have h : 0 ≤ a ∧ a ≤ (d.sh.length : Int) - 1 := by simpa using h
  obtain ⟨a, rfl⟩ : ∃ m : Nat, a = m := ⟨a.toNat, by omega⟩
  have hc := diskRead_ok d hd a (by omega)
  have hres : dkO d (a : Nat) = some (rdD d a) := by unfold dkO; rw [if_pos ⟨hok, by omega, by omega⟩, Int.toNat_natCast]
  rw [hres]
  refine callq_of true [] hc rfl trivial (vc ?_) ?_
  · exact .inr ⟨_, _, _, rfl, rfl, rfl, view_two _ _⟩
  rintro r out ⟨rfl, rfl⟩
  refine ⟨by simp, by simp, fun _ => ⟨.sl 1 _ (by omega) (by simp), by intro ob h; simp at h; subst h; exact .inr (own_eB _)⟩, vc ?_⟩
  exact endQ_of [(1, 129)] (.tu [.sl 1 (rdD d a).length, Bo true]) [some (.rw 5 1 (eB (rdD d a)))] (by rfl) (vc trivial) (vc trivial) ⟨rfl, rfl⟩
theorem crashL_last {sh : List (List UInt8)} {wr : List (Int × List UInt8)} (keep : List Int) (hs : ∀ x ∈ sh, Dk.shOk x) (hw : ∀ x ∈ wr, Dk.wrOk sh.length x) (hk : ∀ i, i < wr.length → keep[i]? = some 512) (a : Nat) (ha : a < sh.length) : ∀ i, i ≤ wr.length → (crashL sh wr keep i)[a]? = some (lastW a (wr.take i) (sh[a]?.getD []))
  | 0, _ => by rw [crashL, List.take_zero, lastW, List.getElem?_eq_getElem ha]; rfl
  | i + 1, hi => by
    have ih := crashL_last keep hs hw hk a ha i (by omega)
    have hwi := List.getElem?_eq_getElem (show i < wr.length by omega)
    have hwo := hw _ (List.getElem_mem (show i < wr.length by omega))
    rw [crashL, hwi]
    simp only
    rw [hk i (by omega), Option.getD_some, List.take_add_one, hwi, show (some wr[i]).toList = [wr[i]] from rfl, lastW_snoc]
    unfold crashStep
    rw [if_pos (by omega)]
    have hl := crashL_len sh wr keep i
    obtain ⟨⟨o1, o2⟩, o3⟩ := hwo
    by_cases e : wr[i].1 = a
    · rw [if_pos e, e, Int.toNat_natCast, List.getElem?_set_self (by omega)]
      congr 1
      have h1 : (sheet wr[i].2).length = 512 := by
        unfold sheet; split
        · simp
        · exact o3
      have h2 : (sheet ((crashL sh wr keep i)[a]?.getD [])).length = 512 := by
        rw [List.getElem?_eq_getElem (show a < (crashL sh wr keep i).length by omega), Option.getD_some]
        have := crashL_ok keep hs hw i _ (List.getElem_mem (show a < (crashL sh wr keep i).length by omega))
        unfold sheet; split
        · simp
        · rename_i hne
          rcases this with h | h
          · exact absurd (List.length_eq_zero_iff.1 h) hne
          · exact h
      unfold tear
      rw [if_pos ⟨h2, h1⟩, show (max 0 (min (512 : Int) 512)).toNat = 512 from rfl, List.take_of_length_le (by omega), List.drop_of_length_le (by omega), List.append_nil]
      unfold sheet
      rw [if_neg (by intro e; rw [e] at o3; simp at o3)]
    · rw [if_neg e, List.getElem?_set_ne (by omega)]
      exact ih
theorem sync_read {d : Dk} (hd : d.ok) {a : Nat} (ha : a < d.sh.length) (keep : List Int) : rdD (d.sync.crash keep) a = rdD d a := by
  have e1 : d.sync = ⟨crashL d.sh d.wr (List.replicate d.wr.length 512) d.wr.length, []⟩ := by unfold Dk.sync Dk.crash; rw [if_pos hd]
  have h2 : d.sync.ok := hd.crash _
  have e2 : d.sync.crash keep = ⟨crashL d.sync.sh d.sync.wr keep d.sync.wr.length, []⟩ := by unfold Dk.crash; rw [if_pos h2]
  rw [e2, e1]
  unfold rdD
  have := crashL_last (List.replicate d.wr.length 512) hd.2.1 hd.2.2 (fun i hi => by rw [List.getElem?_replicate, if_pos hi]) a ha d.wr.length (Nat.le_refl _)
  simp only [List.length_nil, crashL, lastW]
  rw [this, List.take_length]
  rfl
theorem sync_facts {d : Dk} (hd : d.ok) (keep : List Int) : d.sync.sh.length = d.sh.length ∧ d.sync.wr = [] ∧ (d.sync.crash keep).ok ∧ (d.sync.crash keep).sh.length = d.sh.length := by
  have e1 : d.sync = ⟨crashL d.sh d.wr (List.replicate d.wr.length 512) d.wr.length, []⟩ := by unfold Dk.sync Dk.crash; rw [if_pos hd]
  have h2 : d.sync.ok := hd.crash _
  have e2 : d.sync.crash keep = ⟨crashL d.sync.sh d.sync.wr keep d.sync.wr.length, []⟩ := by unfold Dk.crash; rw [if_pos h2]
  refine ⟨by rw [e1]; exact crashL_len _ _ _ _, by rw [e1], h2.crash _, by rw [e2]; simp only; rw [crashL_len, e1]; exact crashL_len _ _ _ _⟩
theorem lawSync_ok (b : List UInt8) (hb : b.length ≤ 2^47) : CallOk Try.prog 11 [] [Rw (eB b)] (fun r out => r = Bo true ∧ out = []) := by
  refine callOk_z (np := 0) {} mixed Try.func11 (by rfl) Try.ntmps11 Try.results11 (by rfl) (Nat.le_of_ble_eq_true rfl) rfl rfl rfl (vc ?_)
  refine brB_intro (fun h => EndQ.closed (.v _) ⟨rfl, rfl⟩) (fun h => ?_)
  have h20 : b.length ≤ 2^20 := by simp at h; omega
  refine callq_of false [] (drawDiskSync_ok b (by omega)) rfl trivial (vc trivial) ?_
  rintro r out ⟨d, hf, rfl, rfl⟩
  have hsy := implDiskSync_ok d hf
  have hdo := specDiskOk_ok d hf
  have hdi := implDiskOk_ok d hf
  unfold Dk.rd at hsy hdo hdi ⊢
  refine vc4 (by simp) (by simp) (by simp) ?_
  refine callq_of false [] hsy rfl trivial (vc trivial) ?_
  rintro r out ⟨rfl, rfl⟩
  unfold Dk.ow Dk.obs
  refine vc4 (by simp) (by simp) (by simp) ?_
  refine callq_of false [] hdo rfl trivial (vc trivial) ?_
  rintro r out ⟨rfl, rfl⟩
  refine vc4 (by simp) (by simp) (by simp) ?_
  by_cases hok : d.ok
  case neg =>
    rw [tf_false hok]
    have hs : d.sync = ⟨[], []⟩ := by unfold Dk.sync Dk.crash; rw [if_neg hok]
    rw [hs]
    refine vc ?_
    refine callq_of false [] hdi rfl trivial (vc trivial) ?_
    rintro r out ⟨rfl, rfl⟩
    refine vc4 (by simp) (by simp) (by simp) ?_
    rw [tf_false hok]
    exact EndQ.closed (.v _) ⟨rfl, rfl⟩
  rw [tf_true hok]
  obtain ⟨f1, f2, f3, f4⟩ := sync_facts hok [3, 512]
  have hse : d.sync.ok := hok.crash _
  have hcr := implDiskCrash_ok d.sync hse.fits [3, 512] (by simp)
  have hrd := fun a (h : a < d.sh.length) => sync_read hok h [3, 512]
  have hd0 := hok.1
  generalize d.sync.crash [3, 512] = f at hcr f3 f4 hrd
  generalize d.sync = e at hcr f1 f2 hse
  obtain ⟨esh, ewr⟩ := e
  simp only at f1 f2
  subst f2
  unfold Dk.rd Dk.ow Dk.obs at hcr
  refine vc ?_
  refine callq_of true [] hcr rfl trivial (vc ?_) ?_
  · exact sim_in [3, 512] true false
  rintro r out ⟨rfl, rfl⟩
  refine ⟨by simp, by simp, fun _ => ⟨rs_two _ _ (Nat.le_refl 2), rso_ow f⟩, ?_⟩
  refine vc ?_
  have hff := f3.fits
  refine loopQ_of (fun i => [(3, .pt 1 0 0), (4, .pt 2 0 0), (5, .pt 3 0 0), (34, Rw (d.sh.map (shC false))), (35, In d.sh.length), (36, In (i : Nat))]) (fun i => [(1, .box 31 [Rw (d.sh.map (shC false)), Rw (d.wr.map (wrC false))]), (2, .box 31 [.sl 4 esh.length, .sl 5 0]), (3, .box 31 [.sl 6 f.sh.length, .sl 7 f.wr.length]), (4, .rw 155 1 (esh.map (shC true))), (5, .rw 90 2 []), (6, .rw 155 1 (f.sh.map (shC true))), (7, .rw 90 2 (f.wr.map (wrC true)))]) 8 (fun i => d.sh.length - i) (fun i => i ≤ d.sh.length) 0 (Nat.zero_le _) [(1, 49), (2, 81), (3, 145), (4, 73), (5, 74), (6, 137), (7, 138)] (by rfl) (vc trivial) (vc trivial) (fun i hi N hN => vc (brB_intro (fun h1 => ?_) (fun h1 => ?_)))
  · have h1 : i < d.sh.length := by simpa using h1
    have r1 : dkO d (i : Nat) = some (rdD d i) := by unfold dkO; rw [if_pos ⟨hok, by omega, by omega⟩, Int.toNat_natCast]
    have r2 : dkO f (i : Nat) = some (rdD d i) := by unfold dkO; rw [if_pos ⟨f3, by omega, by omega⟩, Int.toNat_natCast, hrd i h1]
    have c1 := implDiskRead_ok d hf (i : Nat)
    have c2 := implDiskRead_ok f hff (i : Nat)
    rw [r1] at c1
    rw [r2] at c2
    generalize rdD d i = l at c1 c2
    unfold Dk.rd byR byH byO at c1 c2
    simp only [Option.isSome_some] at c1 c2
    refine callq_of false [] c1 rfl trivial (vc trivial) ?_
    rintro r out ⟨rfl, rfl⟩
    refine vc4 (by simp) (by simp) (by simp) ?_
    refine callq_of true [] c2 rfl trivial (vc trivial) ?_
    rintro r out ⟨rfl, rfl⟩
    refine vc4 (by simp) (by simp) (by_rs rfl true) ?_
    refine hN _ (i + 1) [] h1 (by omega) (by rfl) (vc ?_) (vc trivial)
    rw [w64 _ (by omega)]; simp
  · rw [f1]
    exact EndQ.closed (.v _) ⟨by simp [Bo], rfl⟩
end Go.Proofs.Ytnnmpdanfeejbaa.Abs

/- What a statement reads as data is what the contracts take. -/
namespace Go.Proofs.Ytnnmpdanfeejbaa.Abs
open Go Go.RowKit Go.ChangeShapes Go.WideShapes
set_option linter.unusedVariables false
set_option linter.unusedSimpArgs false
def CellsR (w : World) (l : List CV) (cs : List Value) : Prop := cs.length = l.length ∧ ∀ (j : Nat) c u, l[j]? = some c → cs[j]? = some u → RdR w (fun _ => True) c u
/-- What of type t can be read as data stands in these cells; G: its bounds. -/
def OpA (P : Program) (t : TypeId) {α : Type} (enc : α → List CV) (G : α → Prop) : Prop :=
  (∀ a, (enc a).length = P.cellsOf t) ∧ ∀ (H : Type) (en : TypeId × Value → H) (w : World) (fuel : Nat) (cs : List Value) (x : DataW H × List MemPlace),
    DataW.trod en P w 0 (fun _ => true) true fuel t cs = some x → (∀ n ∈ x.1.weights P t, n ≤ reachBytes) → ∃ a, CellsR w (enc a) cs ∧ G a
theorem cellsR_one {w : World} {c : CV} {u : Value} (h : RdR w (fun _ => True) c u) : CellsR w [c] [u] :=
  ⟨rfl, fun j c' u' hc hu => by cases j with | zero => simp at hc hu; subst hc hu; exact h | succ j => simp at hc⟩
theorem list_choose' {α : Type} (n : Nat) {p : Nat → α → Prop} (h : ∀ i, i < n → ∃ x, p i x) : ∃ xs : List α, xs.length = n ∧ ∀ i x, xs[i]? = some x → p i x := by
  induction n with
  | zero => exact ⟨[], rfl, fun i x hx => by simp at hx⟩
  | succ n ih =>
    obtain ⟨xs, hl, hx⟩ := ih (fun i hi => h i (by omega))
    obtain ⟨y, hy⟩ := h n (by omega)
    refine ⟨xs ++ [y], by simp [hl], fun i x hi => ?_⟩
    rcases Nat.lt_or_ge i xs.length with hlt | hge
    · rw [List.getElem?_append_left hlt] at hi
      exact hx i x hi
    · have : i = n := by
        have := (List.getElem?_eq_some_iff.1 hi).1
        simp at this; omega
      subst this
      rw [List.getElem?_append_right hge, ← hl, Nat.sub_self] at hi
      injection hi with hi
      rw [← hi]; exact hy
theorem weightsAll_mem' {H : Type} {P : Program} {e : TypeId} {D : DataW H} : ∀ {l : List (DataW H)}, D ∈ l → ∀ n ∈ D.weights P e, n ∈ DataW.weightsAll P e l
  | a :: l, h, n, hn => by
    rw [DataW.weightsAll, List.mem_append]
    rcases List.mem_cons.1 h with rfl | h
    · exact .inl hn
    · exact .inr (weightsAll_mem' h n hn)
section
variable {P : Program} {t e : TypeId}
theorem opA_int (h : P.underlying t = some (.int .i64)) (hc : P.cellsOf t = 1) : OpA P t (fun n : Int => [CV.v (.int .i64 n)]) (fun n => -9223372036854775808 ≤ n ∧ n ≤ 9223372036854775807) := by
  refine ⟨fun a => hc.symm, fun H en w fuel cs x hx _ => ?_⟩
  obtain ⟨n, rfl, _, hw⟩ := DataW.trod_int h hx
  refine ⟨n, cellsR_one (.v _ rfl), ?_⟩
  simp [Lit.wf, IntKind.min, IntKind.max, IntKind.bits, IntKind.signed] at hw
  omega
theorem opA_byte (h : P.underlying t = some (.int .u8)) (hc : P.cellsOf t = 1) : OpA P t (fun n : UInt8 => [CV.v (.int .u8 n.toNat)]) (fun _ => True) := by
  refine ⟨fun a => hc.symm, fun H en w fuel cs x hx _ => ?_⟩
  obtain ⟨n, rfl, _, hw⟩ := DataW.trod_int h hx
  simp [Lit.wf, IntKind.min, IntKind.max, IntKind.bits, IntKind.signed] at hw
  have he : n = (((UInt8.ofNat n.toNat).toNat : Nat) : Int) := by
    rw [UInt8.toNat_ofNat', Nat.mod_eq_of_lt (by omega)]; omega
  refine ⟨UInt8.ofNat n.toNat, ?_, trivial⟩
  show CellsR w [CV.v (.int .u8 (((UInt8.ofNat n.toNat).toNat : Nat) : Int))] _
  rw [← he]
  exact cellsR_one (.v _ rfl)
theorem opA_bool (h : P.underlying t = some .bool) (hc : P.cellsOf t = 1) : OpA P t (fun b : Bool => [CV.v (.bool b)]) (fun _ => True) := by
  refine ⟨fun a => hc.symm, fun H en w fuel cs x hx _ => ?_⟩
  obtain ⟨n, rfl, _⟩ := DataW.trod_bool h hx
  exact ⟨n, cellsR_one (.v _ rfl), trivial⟩
theorem opA_string (h : P.underlying t = some .string) (hc : P.cellsOf t = 1) : OpA P t stC (fun s => s.size ≤ 2^47) := by
  refine ⟨fun a => hc.symm, fun H en w fuel cs x hx hn => ?_⟩
  obtain ⟨s, rfl, rfl, _⟩ := DataW.trod_string h hx
  refine ⟨s, cellsR_one (.v _ rfl), ?_⟩
  have := hn s.data.toList.length (by simp [DataW.weights])
  rw [Array.length_toList] at this
  have h2 : reachBytes ≤ 2^47 := by decide
  have h3 : s.size = s.data.size := rfl
  omega
theorem opA_slice {α : Type} {enc : α → List CV} {G : α → Prop} (h : P.underlying t = some (.slice e)) (hc : P.cellsOf t = 1) {m0 : Nat} (he1 : P.cellsOf e = m0) (he2 : 0 < m0) {B : Nat} (hB : P.bytesOf e = B) (hB0 : 0 < B) (he : OpA P e enc G) :
    OpA P t (fun xs : List α => [CV.row false (xs.map enc)]) (fun xs => xs.length ≤ 2^47 ∧ ∀ x ∈ xs, G x) := by
  have he0 : 0 < P.cellsOf e := by omega
  refine ⟨fun a => hc.symm, fun H en w fuel cs x hx hn => ?_⟩
  rcases Go.Deep.open_slice h hx with ⟨rfl, rfl⟩ | ⟨a, len, cap, m, n, D, Pl, rfl, hb, hl, hm, hmm, rfl, hel⟩
  · exact ⟨[], cellsR_one (.nil _ _ _), by simp, by simp⟩
  · have hm' : m = cap := by simpa using hmm
    subst hm'
    have hlen : len ≤ 2^47 := by
      have h1 := hn ((len + (m - len)) * B) (by simp [DataW.weights, h, hB])
      have h2 : reachBytes ≤ 2^47 := by decide
      have h3 : (len + (m - len)) * 1 ≤ (len + (m - len)) * B := Nat.mul_le_mul_left _ hB0
      omega
    have key : ∀ i, i < len → ∃ p : α, (∃ cs', w.cells? 0 (a.add (i * P.cellsOf e)) (P.cellsOf e) = some cs' ∧ CellsR w (enc p) cs') ∧ G p := by
      intro i hi
      obtain ⟨cs', h1, h2⟩ := hel i (by omega)
      obtain ⟨p, h3, h4⟩ := he.2 H en w n cs' _ h2 (fun q hq => hn q (by
        have h5 : q ∈ DataW.weightsAll P e ((List.range len).map D) := weightsAll_mem' (List.mem_map.2 ⟨i, List.mem_range.2 hi, rfl⟩) q hq
        simp only [DataW.weights, h]
        exact List.mem_cons_of_mem _ (List.mem_append_left _ h5)))
      exact ⟨p, ⟨cs', h1, h3⟩, h4⟩
    obtain ⟨xs, hxl, hxs⟩ := list_choose' len key
    refine ⟨xs, cellsR_one ?_, by rw [hxl]; exact hlen, fun x hx => ?_⟩
    · subst hxl
      by_cases h0 : xs = []
      · subst h0; exact .nil _ _ _
      obtain ⟨x0, r0, hxr⟩ := List.exists_cons_of_ne_nil h0
      have hpos : 0 < xs.length := by rw [hxr]; simp
      have hcell : ∀ i j, i < xs.length → j < P.cellsOf e → ∃ u, w.cell? (a.add (i * P.cellsOf e + j)) = some u ∧ True := by
        intro i j hi hj
        obtain ⟨⟨cs', h1, h2⟩, _⟩ := hxs i _ (List.getElem?_eq_getElem hi)
        obtain ⟨_, h4, h5⟩ := World.cells?_some h1
        have := h5 j hj
        rw [Go.Deep.add_add, List.getElem?_eq_getElem (by omega)] at this
        exact ⟨_, this, trivial⟩
      have hnone : a.spot = none ∧ ∃ arr ty fz, w.heap[a.block]? = some (.cells arr ty fz) := by
        obtain ⟨u, hu, _⟩ := hcell 0 0 hpos he0
        rw [Nat.zero_mul, Nat.add_zero] at hu
        unfold Addr.add World.cell? at hu
        simp only [↓reduceIte] at hu
        split at hu
        · rename_i arr ty fz hh
          split at hu
          · cases hu
          · rename_i hs
            exact ⟨by simpa using hs, arr, ty, fz, hh⟩
        · cases hu
      obtain ⟨hs, arr, ty, fz, hh⟩ := hnone
      obtain ⟨bl, off, sp⟩ := a
      have hs : sp = none := hs
      subst hs
      have hadd : ∀ k, (⟨bl, off, none⟩ : Addr).add k = ⟨bl, off + k, none⟩ := fun k => by unfold Addr.add; split
                                                                                           · rename_i e; rw [e]; rfl
                                                                                           · rfl
      have hcell' : ∀ i j, i < xs.length → j < P.cellsOf e → arr[off + (i * P.cellsOf e + j)]? = some (arr.getD (off + (i * P.cellsOf e + j)) undef) := by
        intro i j hi hj
        obtain ⟨u, hu, _⟩ := hcell i j hi hj
        rw [hadd, cell_at hh] at hu
        have := (Array.getElem?_eq_some_iff.1 hu).1
        rw [Array.getElem?_eq_getElem this]
        simp [Array.getD, this]
      have := RdR.row (w := w) (T := fun _ => True) false bl off (P.cellsOf e) m (xs.map enc) arr ty fz (fun i j => arr.getD (off + (i * P.cellsOf e + j)) undef) trivial hh
        (fun c hc => by obtain ⟨x, _, rfl⟩ := List.mem_map.1 hc; exact he.1 x) (by rw [List.length_map]; unfold maxLen at hm ⊢; omega) (by rw [List.length_map]; omega) (fun i j hi hj => hcell' i j (by simpa using hi) hj) (fun i j c1 c2 h1 h2 => by
          rw [List.getElem?_map, Option.map_eq_some_iff] at h1
          obtain ⟨x, hx, rfl⟩ := h1
          have hi : i < xs.length := (List.getElem?_eq_some_iff.1 hx).1
          obtain ⟨⟨cs', h3, h4⟩, _⟩ := hxs i x hx
          obtain ⟨_, h5, h6⟩ := World.cells?_some h3
          have hj : j < P.cellsOf e := by
            have := (List.getElem?_eq_some_iff.1 h2).1
            rw [he.1] at this; exact this
          have h7 := h6 j hj
          rw [Go.Deep.add_add, hadd, cell_at hh, hcell' i j hi hj] at h7
          exact h4.2 j _ _ h2 h7.symm)
      rw [List.length_map] at this
      exact this
    · obtain ⟨j, hj, rfl⟩ := List.mem_iff_getElem.1 hx
      exact (hxs j _ (List.getElem?_eq_getElem hj)).2
/-- Fields in line, from offset o on. -/
def OpFs (P : Program) (fs : List Field) (o : Nat) {α : Type} (enc : α → List CV) (n : Nat) (G : α → Prop) : Prop :=
  (∀ a, (enc a).length = n) ∧ ∀ (H : Type) (en : TypeId × Value → H) (w : World) (k : Nat) (cs : List Value) (xs : List (DataW H × List MemPlace)), xs.length = fs.length →
    (∀ (i : Nat) (f : Field), fs[i]? = some f → DataW.trod en P w 0 (fun _ => true) true k f.type ((cs.drop f.offset).take (P.cellsOf f.type)) = xs[i]?) →
    (∀ q ∈ DataW.weightsEach P (fs.map (·.type)) (xs.map (·.1)), q ≤ reachBytes) → ∃ a, CellsR w (enc a) ((cs.drop o).take n) ∧ G a
theorem cellsR_app {w : World} {l l' : List CV} {cs cs' : List Value} (h : CellsR w l cs) (h' : CellsR w l' cs') : CellsR w (l ++ l') (cs ++ cs') := by
  refine ⟨by simp [h.1, h'.1], fun j c u hc hu => ?_⟩
  rcases Nat.lt_or_ge j l.length with hj | hj
  · rw [List.getElem?_append_left hj] at hc
    rw [List.getElem?_append_left (by rw [h.1]; exact hj)] at hu
    exact h.2 j c u hc hu
  · rw [List.getElem?_append_right hj] at hc
    rw [List.getElem?_append_right (by rw [h.1]; exact hj), h.1] at hu
    exact h'.2 _ c u hc hu
theorem fsA_one {α : Type} {enc : α → List CV} {G : α → Prop} {f : Field} {o n : Nat} (h : OpA P e enc G) (ht : f.type = e) (ho : f.offset = o) (hn : P.cellsOf e = n) : OpFs P [f] o enc n G := by
  subst ht; subst ho; subst hn
  refine ⟨h.1, fun H en w k cs xs hl hx hq => ?_⟩
  obtain ⟨x, rfl⟩ : ∃ x, xs = [x] := by
    match xs, hl with
    | [x], _ => exact ⟨x, rfl⟩
  exact h.2 H en w k _ x (hx 0 f rfl) (fun q hm => hq q (by simpa [DataW.weightsEach] using hm))
theorem fsA_cons {α β : Type} {enc : α → List CV} {enc' : β → List CV} {G : α → Prop} {G' : β → Prop} {f : Field} {fs : List Field} {o o' n n' : Nat} (h : OpA P e enc G) (h' : OpFs P fs o' enc' n' G') (ht : f.type = e) (ho : f.offset = o) (hn : P.cellsOf e = n) (hs : o + n = o') :
    OpFs P (f :: fs) o (fun x : α × β => enc x.1 ++ enc' x.2) (n + n') (fun x => G x.1 ∧ G' x.2) := by
  subst ht; subst ho; subst hn; subst hs
  refine ⟨fun a => by rw [List.length_append, h.1, h'.1], fun H en w k cs xs hl hx hq => ?_⟩
  obtain ⟨x, ys, rfl⟩ : ∃ x ys, xs = x :: ys := by
    match xs, hl with
    | x :: ys, _ => exact ⟨x, ys, rfl⟩
  obtain ⟨a, ha, ga⟩ := h.2 H en w k _ x (hx 0 f rfl) (fun q hm => hq q (by simp only [List.map_cons, DataW.weightsEach]; exact List.mem_append_left _ hm))
  obtain ⟨b, hb, gb⟩ := h'.2 H en w k cs ys (by simpa using hl) (fun i g hg => by have := hx (i + 1) g (by simpa using hg); simpa using this)
    (fun q hm => hq q (by simp only [List.map_cons, DataW.weightsEach]; exact List.mem_append_right _ hm))
  refine ⟨(a, b), ?_, ga, gb⟩
  rw [List.take_add, List.drop_drop]
  exact cellsR_app ha hb
theorem opA_struct {α : Type} {enc : α → List CV} {n : Nat} {G : α → Prop} {fs : Array Field} (h : P.underlying t = some (.struct fs)) (hc : P.cellsOf t = n) (hf : OpFs P fs.toList 0 enc n G) : OpA P t enc G := by
  subst hc
  refine ⟨hf.1, fun H en w fuel cs x hx hn => ?_⟩
  obtain ⟨xs, k, _, rfl, hl, hxl, hel⟩ := DataW.trod_struct h hx
  obtain ⟨a, ha, ga⟩ := hf.2 H en w k cs xs (by rw [hxl]; simp) (fun i f hi => hel i f (by simpa using hi)) (fun q hq => hn q (by simpa [DataW.weights, h] using hq))
  rw [List.drop_zero, List.take_of_length_le (by omega)] at ha
  exact ⟨a, ha, ga⟩
theorem OpA.iso {α β : Type} {enc : α → List CV} {enc' : β → List CV} {G : α → Prop} {G' : β → Prop} (h : OpA P t enc G) (g : α → β) (he : ∀ a, enc' (g a) = enc a) (hl : ∀ b, (enc' b).length = P.cellsOf t) (hG : ∀ a, G a → G' (g a)) : OpA P t enc' G' :=
  ⟨hl, fun H en w fuel cs x hx hn => by obtain ⟨a, ha, ga⟩ := h.2 H en w fuel cs x hx hn; exact ⟨g a, by rw [he]; exact ha, hG a ga⟩⟩
variable {H : Type} {en : TypeId × Value → H} {W : World} {v : Value} {D : DataW H} {p : List MemPlace}
/-- A parameter. -/
theorem OpA.param {α : Type} {enc : α → List CV} {G : α → Prop} (ho : OpA P t enc G) (h : DataW.Trod en P W 0 (fun _ => true) true t v D p) {ts : List TypeId} {ds : List (DataW H)} {j : Nat}
    (hsz : (DataW.weightsEach P ts ds).all (· ≤ reachBytes) = true) (ht : ts[j]? = some t) (hd : ds[j]? = some D) : ∃ a, CellsR W (enc a) v.cells.toList ∧ G a := by
  obtain ⟨fuel, hf⟩ := h
  exact ho.2 H en W fuel _ _ hf (fun n hn => by simpa using List.all_eq_true.1 hsz _ (DataW.weights_mem_each ht hd n hn))
end
/-- Nothing is owned. -/
def E0 : Env := ⟨fun _ => none, fun _ => none⟩
theorem rd_agg {w : World} {l : List CV} {us : Array Value} {H : Hp} (h : CellsR w l us.toList) : RdV w E0 H (.ag (l.map .c)) (.agg us) := by
  refine .ag _ _ (by have := h.1; simpa using this) (fun i c u hc hu => ?_)
  rw [List.getElem?_map, Option.map_eq_some_iff] at hc
  obtain ⟨c', hc', rfl⟩ := hc
  exact .c _ _ ((h.2 i c' u hc' (by simpa using hu)).mono (fun b _ _ => ⟨rfl, rfl⟩))
theorem rd_one {w : World} {c : CV} {u : Value} {H : Hp} (h : CellsR w [c] u.cells.toList) (hu : u.cells = #[u]) : RdV w E0 H (.c c) u := by
  rw [hu] at h
  exact .c _ _ ((h.2 0 c u rfl rfl).mono (fun b _ _ => ⟨rfl, rfl⟩))
/-- A law's call, by its contract. -/
theorem law_calls {P : Program} {f : Nat} {args : List AV} (h : CallOk P f [] args (fun r out => r = Bo true ∧ out = [])) (W : World) (vals : Array Value) (hs : vals.size = args.length)
    (hv : ∀ (i : Nat) x u, args[i]? = some x → vals[i]? = some u → RdV W E0 (HpS []) x u) : Calls P f vals W (fun e W' => e = .returned (.bool true) ∧ Below W.heap.size W W') := by
  refine (h.2 W E0 vals (fun k ob hk => by unfold HpS at hk; split at hk <;> simp at hk) (fun b ℓ hb => by cases hb) hs hv).mono fun e W' hh => ?_
  obtain ⟨u, r, out, E', rfl, ⟨rfl, rfl⟩, hr, _, _, _, _, hevo, _, _⟩ := hh
  refine ⟨?_, hevo.os, hevo.tape, hevo.output, hevo.size, fun k hk => hevo.block k hk (by rintro ⟨k', p, hp, _⟩; cases hp)⟩
  cases hr with
  | c _ _ h => cases h; rfl
end Go.Proofs.Ytnnmpdanfeejbaa.Abs

/- The laws' parameters, as they are read. -/
namespace Go.Proofs.Ytnnmpdanfeejbaa.Abs
open Go Go.Proofs
set_option linter.unusedVariables false
theorem oInt : OpA Try.prog 3 (fun n : Int => [CV.v (.int .i64 n)]) (fun n => -9223372036854775808 ≤ n ∧ n ≤ 9223372036854775807) := opA_int Try.underlying3 (by kernel_rfl)
theorem oByte : OpA Try.prog 5 (fun n : UInt8 => [CV.v (.int .u8 n.toNat)]) (fun _ => True) := opA_byte Try.underlying5 (by kernel_rfl)
theorem oByteS : OpA Try.prog 26 (fun l : List UInt8 => [CV.row false (eB l)]) (fun l => l.length ≤ 2^47) :=
  (opA_slice Try.underlying26 (by kernel_rfl) (m0 := 1) (by kernel_rfl) (by decide) (B := 1) (by kernel_rfl) (by decide) oByte).iso id (fun _ => rfl) (fun _ => by kernel_rfl) (fun _ h => h.1)
theorem oSheet : OpA Try.prog 160 (shC false) (fun l => l.length ≤ 2^47) :=
  (opA_struct Try.underlying160 (by kernel_rfl) (fsA_one (n := 1) oByteS (by rfl) (by rfl) (by kernel_rfl))).iso id (fun _ => rfl) (fun _ => by kernel_rfl) (fun _ h => h)
theorem oSheetS : OpA Try.prog 22 (fun xs : List (List UInt8) => [CV.row false (xs.map (shC false))]) (fun xs => xs.length ≤ 2^47 ∧ ∀ x ∈ xs, x.length ≤ 2^47) :=
  opA_slice Try.underlying22 (by kernel_rfl) (m0 := 1) (by kernel_rfl) (by decide) (B := 24) (by kernel_rfl) (by decide) oSheet
theorem oWrite : OpA Try.prog 135 (wrC false) (fun x => x.2.length ≤ 2^47) :=
  (opA_struct Try.underlying135 (by kernel_rfl) (fsA_cons (n := 1) oInt (fsA_one (n := 1) oByteS (by rfl) (by rfl) (by kernel_rfl)) (by rfl) (by rfl) (by kernel_rfl) (by rfl))).iso id (fun _ => rfl) (fun _ => by kernel_rfl) (fun _ h => h.2)
theorem oWriteS : OpA Try.prog 23 (fun xs : List (Int × List UInt8) => [CV.row false (xs.map (wrC false))]) (fun xs => xs.length ≤ 2^47 ∧ ∀ x ∈ xs, x.2.length ≤ 2^47) :=
  opA_slice Try.underlying23 (by kernel_rfl) (m0 := 2) (by kernel_rfl) (by decide) (B := 32) (by kernel_rfl) (by decide) oWrite
theorem oDisk : OpA Try.prog 25 (fun d : Dk => [CV.row false (d.sh.map (shC false)), CV.row false (d.wr.map (wrC false))]) (Dk.fits (2^47)) :=
  (opA_struct Try.underlying25 (by kernel_rfl) (fsA_cons (n := 1) oSheetS (fsA_one (n := 1) oWriteS (by rfl) (by rfl) (by kernel_rfl)) (by rfl) (by rfl) (by kernel_rfl) (by rfl))).iso (fun x => ⟨x.1, x.2⟩) (fun _ => rfl) (fun _ => by kernel_rfl) (fun _ h => ⟨h.1.1, h.1.2, h.2.1, h.2.2⟩)
theorem rd_nil {W : World} {H : Hp} : ∀ (i : Nat) x u, ([] : List AV)[i]? = some x → (#[] : Array Value)[i]? = some u → RdV W E0 H x u := fun i x u h => by simp at h
theorem rd_cons {W : World} {H : Hp} {a : AV} {v : Value} {l : List AV} {vs : List Value} (h : RdV W E0 H a v) (hl : ∀ (i : Nat) x u, l[i]? = some x → (vs.toArray)[i]? = some u → RdV W E0 H x u) :
    ∀ (i : Nat) x u, (a :: l)[i]? = some x → ((v :: vs).toArray)[i]? = some u → RdV W E0 H x u := by
  intro i x u hx hu
  cases i with
  | zero => simp at hx hu; subst hx hu; exact h
  | succ i => exact hl i x u (by simpa using hx) (by simpa using hu)
end Go.Proofs.Ytnnmpdanfeejbaa.Abs
