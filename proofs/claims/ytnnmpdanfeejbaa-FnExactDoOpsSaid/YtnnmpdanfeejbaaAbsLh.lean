/- Disks that are synced; operations done one by one: both by the same words. -/
import Derived.Test.YtnnmpdanfeejbaaAbsLg
namespace Go.Proofs.Ytnnmpdanfeejbaa.Abs
open Go Go.Proofs
set_option maxRecDepth 10000
set_option linter.unusedVariables false
set_option linter.unusedSimpArgs false
noncomputable def Dk.sync (d : Dk) : Dk := d.crash (List.replicate d.wr.length 512)
theorem Dk.ok.fits {d : Dk} (h : d.ok) : d.fits (2^40) := by
  obtain ⟨h1, h2, h3⟩ := h
  refine ⟨by omega, fun x hx => ?_, by omega, fun x hx => ?_⟩
  · rcases h2 x hx with e | e <;> omega
  · have := (h3 x hx).2; omega
theorem Dk.ok.crash {d : Dk} (h : d.ok) (keep : List Int) : (d.crash keep).ok := by
  rw [show d.crash keep = ⟨crashL d.sh d.wr keep d.wr.length, []⟩ from if_pos h]
  have := h.1
  exact ⟨by simp [crashL_len]; omega, crashL_ok keep h.2.1 h.2.2 _, fun x hx => by cases hx⟩
theorem Dk.ok.write {d : Dk} (h : d.ok) {a : Int} {b : List UInt8} (hw : Dk.wrOk d.sh.length (a, b)) (hl : d.wr.length < 500) : (⟨d.sh, d.wr ++ [(a, b)]⟩ : Dk).ok := by
  have := h.1
  refine ⟨by simp; omega, h.2.1, fun x hx => ?_⟩
  rcases List.mem_append.1 hx with hx | hx
  · exact h.2.2 x hx
  · simp at hx; subst hx; exact hw
theorem repl_next (n : Nat) : (List.replicate n (512 : Int)).map inC ++ [[CV.v (.int .i64 512)]] = (List.replicate (n + 1) (512 : Int)).map inC := by
  rw [List.replicate_succ', List.map_append]; rfl
theorem specDiskSync_ok (d : Dk) (hd : d.fits (2^40)) : CallOk Try.prog 97 [] [d.rd] (fun r out => r = d.sync.ow ∧ out = d.sync.obs.map some) := by
  have hc := specDiskCrash_ok d hd (List.replicate d.wr.length 512) (by rw [List.length_replicate]; exact hd.2.2.1)
  unfold Dk.rd at hc ⊢
  have hf2 := hd.2.2.1
  refine callOk_z (np := 0) {} mixed Try.func97 (by rfl) Try.ntmps97 Try.results97 (by rfl) (Nat.le_of_ble_eq_true rfl) rfl rfl rfl (vc ?_)
  refine loopQ_of (fun i => [(1, .pt 1 0 0), (2, .pt 2 0 0), (3, .sl 3 i), (7, In d.wr.length), (8, In (i : Nat))]) (fun i => [(1, .box 31 [Rw (d.sh.map (shC false)), Rw (d.wr.map (wrC false))]), (2, .box 31 [.nul, .nul]), (3, .rw 3 1 ((List.replicate i (512 : Int)).map inC))]) 4 (fun i => d.wr.length - i) (fun i => i ≤ d.wr.length) 0 (Nat.zero_le _) [(2, 9), (3, 17)] (by rfl) (vc trivial) (vc trivial) (fun i hi N hN => vc (brB_intro (fun h => ?_) (fun h => ?_)))
  · have h : i < d.wr.length := by simpa using h
    refine ⟨⟨by unfold maxLen; omega, by omega⟩, ?_⟩
    refine hN _ (i + 1) [(3, 28)] h (by omega) (by rfl) (vc ?_) (vc (repl_next i))
    rw [w64 _ (by omega)]; simp
  · have h : i = d.wr.length := by simp at h; omega
    subst h
    refine callq_of true [] hc rfl trivial (vc trivial) ?_
    rintro r out ⟨rfl, rfl⟩
    refine ⟨by simp, by simp [Dk.obs], fun _ => ⟨rs_ow _ (by simp [Dk.obs]), rso_ow _⟩, ?_⟩
    rw [show d.crash (List.replicate d.wr.length 512) = d.sync from rfl]
    unfold Dk.ow Dk.obs
    refine vc ?_
    exact endQ_of [(1, 28), (2, 29)] d.sync.ow (d.sync.obs.map some) (by rfl) (by unfold Dk.ow; exact vc trivial) (by unfold Dk.obs; exact vc trivial) ⟨rfl, rfl⟩
theorem implDiskSync_ok (d : Dk) (hd : d.fits (2^40)) : CallOk Try.prog 53 [] [d.rd] (fun r out => r = d.sync.ow ∧ out = d.sync.obs.map some) := by
  have hc := implDiskCrash_ok d hd (List.replicate d.wr.length 512) (by rw [List.length_replicate]; exact hd.2.2.1)
  unfold Dk.rd at hc ⊢
  have hf2 := hd.2.2.1
  refine callOk_z (np := 0) {} mixed Try.func53 (by rfl) Try.ntmps53 Try.results53 (by rfl) (Nat.le_of_ble_eq_true rfl) rfl rfl rfl (vc ?_)
  refine loopQ_of (fun i => [(1, .pt 1 0 0), (2, .pt 2 0 0), (3, .sl 3 i), (7, In d.wr.length), (8, In (i : Nat))]) (fun i => [(1, .box 31 [Rw (d.sh.map (shC false)), Rw (d.wr.map (wrC false))]), (2, .box 31 [.nul, .nul]), (3, .rw 3 1 ((List.replicate i (512 : Int)).map inC))]) 4 (fun i => d.wr.length - i) (fun i => i ≤ d.wr.length) 0 (Nat.zero_le _) [(2, 9), (3, 17)] (by rfl) (vc trivial) (vc trivial) (fun i hi N hN => vc (brB_intro (fun h => ?_) (fun h => ?_)))
  · have h : i < d.wr.length := by simpa using h
    refine ⟨⟨by unfold maxLen; omega, by omega⟩, ?_⟩
    refine hN _ (i + 1) [(3, 28)] h (by omega) (by rfl) (vc ?_) (vc (repl_next i))
    rw [w64 _ (by omega)]; simp
  · have h : i = d.wr.length := by simp at h; omega
    subst h
    refine callq_of true [] hc rfl trivial (vc trivial) ?_
    rintro r out ⟨rfl, rfl⟩
    refine ⟨by simp, by simp [Dk.obs], fun _ => ⟨rs_ow _ (by simp [Dk.obs]), rso_ow _⟩, ?_⟩
    rw [show d.crash (List.replicate d.wr.length 512) = d.sync from rfl]
    unfold Dk.ow Dk.obs
    refine vc ?_
    exact endQ_of [(1, 28), (2, 29)] d.sync.ow (d.sync.obs.map some) (by rfl) (by unfold Dk.ow; exact vc trivial) (by unfold Dk.obs; exact vc trivial) ⟨rfl, rfl⟩
open Classical in
noncomputable def opStep (d : Dk) (o : Bool × Int × List UInt8) : Option Dk :=
  if o.1 = true then some d.sync else if (d.write o.2.1 o.2.2).2 = true then some (d.write o.2.1 o.2.2).1 else none
noncomputable def opsL (d : Dk) : List (Bool × Int × List UInt8) → Option Dk
  | [] => some d
  | o :: r => (opStep d o).bind fun d' => opsL d' r
open Classical in
noncomputable def Dk.doOps (d : Dk) (l : List (Bool × Int × List UInt8)) : Dk := if d.ok then (opsL d l).getD ⟨[], []⟩ else ⟨[], []⟩
theorem opsL_app (d : Dk) (a b : List (Bool × Int × List UInt8)) : opsL d (a ++ b) = (opsL d a).bind fun d' => opsL d' b := by
  induction a generalizing d with
  | nil => rfl
  | cons o r ih =>
    rw [List.cons_append, opsL, opsL]
    cases opStep d o with
    | none => rfl
    | some d' => exact ih d'
theorem opsL_next {d d' : Dk} {l : List (Bool × Int × List UInt8)} {i : Nat} {o : Bool × Int × List UInt8} (h : opsL d (l.take i) = some d') (ho : l[i]? = some o) : opsL d (l.take (i + 1)) = opStep d' o := by
  rw [List.take_add_one, ho, opsL_app, h]
  show opsL d' [o] = _
  rw [opsL]
  cases opStep d' o <;> rfl
theorem opsL_fail {d d' : Dk} {l : List (Bool × Int × List UInt8)} {i : Nat} {o : Bool × Int × List UInt8} (h : opsL d (l.take i) = some d') (ho : l[i]? = some o) (hn : opStep d' o = none) : opsL d l = none := by
  have h1 := opsL_next h ho
  rw [hn] at h1
  rw [← List.take_append_drop (i + 1) l, opsL_app, h1]; rfl
theorem opStep_ok {d d' : Dk} {o : Bool × Int × List UInt8} (hd : d.ok) (h : opStep d o = some d') : d'.ok := by
  unfold opStep at h
  split at h
  · cases h; exact hd.crash _
  · split at h
    · rename_i hw
      cases h
      unfold Dk.write at hw ⊢
      split
      · rename_i hc; exact hd.write hc.2.1 hc.2.2
      · rename_i hc; rw [if_neg hc] at hw; cases hw
    · cases h
theorem specDoOps_ok (d : Dk) (hd : d.fits (2^40)) (l : List (Bool × Int × List UInt8)) (hl : l.length ≤ 2^40) (hs : ∀ x ∈ l, x.2.2.length ≤ 2^40) : CallOk Try.prog 37 [] [d.rd, Rw (l.map (opC false))] (fun r out => r = (d.doOps l).ow ∧ out = (d.doOps l).obs.map some) := by
  unfold Dk.rd
  refine callOk_z (np := 0) {} mixed Try.func37 (by rfl) Try.ntmps37 Try.results37 (by rfl) (Nat.le_of_ble_eq_true rfl) rfl rfl rfl (vc ?_)
  have hnil : ∀ H : Hp, d.doOps l = ⟨[], []⟩ → EndQ 0 H (.ag [.nul, .nul]) (fun r out => r = (d.doOps l).ow ∧ out = (d.doOps l).obs.map some) := fun H hk => by
    rw [hk]
    exact endQ_of [(1, 0), (2, 0)] (⟨[], []⟩ : Dk).ow ((⟨[], []⟩ : Dk).obs.map some) (by rfl) (by unfold Dk.ow; exact vc trivial) (by unfold Dk.obs; exact vc trivial) ⟨rfl, rfl⟩
  refine callq_of false [] (specDiskOk_ok d hd) rfl trivial (by unfold Dk.rd; exact vc trivial) ?_
  rintro r out ⟨rfl, rfl⟩
  refine ⟨by simp, by simp, by simp, vc ?_⟩
  refine brB_intro (fun h => ?_) (fun h => ?_)
  · exact hnil _ (if_neg (fun e => by rw [tf_true e] at h; simp at h))
  have hok : d.ok := by
    by_cases e : d.ok
    · exact e
    · rw [tf_false e] at h; simp at h
  have hdo : d.doOps l = (opsL d l).getD ⟨[], []⟩ := if_pos hok
  refine callq_of false [] (l05Copy_ok d hd) rfl trivial (by unfold Dk.rd; exact vc trivial) ?_
  rintro r out ⟨rfl, rfl⟩
  refine ⟨by simp, by simp [Dk.obs], by simp, ?_⟩
  unfold Dk.ow Dk.obs
  refine vc ?_
  refine loopQ_of (ι := Nat × Dk) (fun i => [(4, .pt 2 0 0), (5, .pt 3 0 0), (16, Rw (l.map (opC false))), (17, In l.length), (18, In (i.1 : Nat))]) (fun i => [(2, .box 31 [.nul, .nul]), (3, .box 31 [.sl 4 i.2.sh.length, .sl 5 i.2.wr.length]), (4, .rw 155 1 (i.2.sh.map (shC true))), (5, .rw 90 2 (i.2.wr.map (wrC true)))]) 6 (fun i => l.length - i.1) (fun i => i.1 ≤ l.length ∧ opsL d (l.take i.1) = some i.2 ∧ i.2.ok) (0, d) ⟨Nat.zero_le _, rfl, hok⟩ [(2, 9), (3, 57), (4, 49), (5, 50)] (by rfl) (vc trivial) (vc trivial) (fun i hi N hN => ?_)
  obtain ⟨i, e⟩ := i
  obtain ⟨hi, hL, heo⟩ := hi
  simp only at hi hL heo hN
  refine vc (brB_intro (fun h => ?_) (fun h => ?_))
  · have h : i < l.length := by simpa using h
    have hx := List.getElem?_eq_getElem h
    have hfx := hs _ (List.getElem_mem h)
    generalize hW : l[i] = wi at hx hfx ⊢
    obtain ⟨ws, wa, wb⟩ := wi
    rw [get_map hx, opC]
    refine vc ?_
    refine brB_intro (fun hs1 => ?_) (fun hs1 => ?_)
    · have hst : opStep e (ws, wa, wb) = some e.sync := if_pos hs1
      refine callq_of true [] (specDiskSync_ok e heo.fits) rfl trivial (by unfold Dk.rd; exact vc trivial) ?_
      rintro r out ⟨rfl, rfl⟩
      refine ⟨by simp, by simp [Dk.obs], fun _ => ⟨rs_ow _ (by simp [Dk.obs]), rso_ow _⟩, ?_⟩
      unfold Dk.ow Dk.obs
      refine vc ?_
      refine hN _ (i + 1, e.sync) [(4, 70), (5, 71)] ⟨h, (opsL_next hL hx).trans hst, opStep_ok heo hst⟩ (by show l.length - (i + 1) < l.length - i; omega) (by rfl) (vc ?_) (vc trivial)
      rw [w64 _ (by omega)]; simp
    · have hst : opStep e (ws, wa, wb) = if (e.write wa wb).2 = true then some (e.write wa wb).1 else none := if_neg (by simp [hs1])
      refine callq_of true [] (specDiskWrite_ok e heo.fits wa wb hfx) rfl trivial (by unfold Dk.rd; exact vc trivial) ?_
      generalize hR : e.write wa wb = R at hst ⊢
      obtain ⟨R1, R2⟩ := R
      rintro r out ⟨rfl, rfl⟩
      refine ⟨by simp, by simp [Dk.obs], fun _ => ⟨.tu _ (by intro c hc; simp at hc; rcases hc with rfl | rfl; exact rs_ow _ (by simp [Dk.obs]); exact .v _), rso_ow _⟩, ?_⟩
      unfold Dk.ow Dk.obs
      refine vc ?_
      cases R2
      · refine vc ?_
        exact hnil _ (by rw [hdo, opsL_fail hL hx hst]; rfl)
      · refine vc ?_
        refine hN _ (i + 1, R1) [(4, 118), (5, 119)] ⟨h, (opsL_next hL hx).trans hst, opStep_ok heo hst⟩ (by show l.length - (i + 1) < l.length - i; omega) (by rfl) (vc ?_) (vc trivial)
        rw [w64 _ (by omega)]; simp
  · have h : i = l.length := by simp at h; omega
    rw [h, List.take_length] at hL
    rw [show d.doOps l = e by rw [hdo, hL]; rfl]
    exact endQ_of [(1, 4), (2, 5)] (.ag [.sl 1 e.sh.length, .sl 2 e.wr.length]) [some (.rw 155 1 (e.sh.map (shC true))), some (.rw 90 2 (e.wr.map (wrC true)))] (by rfl) (vc trivial) (vc trivial) ⟨rfl, rfl⟩
theorem implDoOps_ok (d : Dk) (hd : d.fits (2^40)) (l : List (Bool × Int × List UInt8)) (hl : l.length ≤ 2^40) (hs : ∀ x ∈ l, x.2.2.length ≤ 2^40) : CallOk Try.prog 39 [] [d.rd, Rw (l.map (opC false))] (fun r out => r = (d.doOps l).ow ∧ out = (d.doOps l).obs.map some) := by
  unfold Dk.rd
  refine callOk_z (np := 0) {} mixed Try.func39 (by rfl) Try.ntmps39 Try.results39 (by rfl) (Nat.le_of_ble_eq_true rfl) rfl rfl rfl (vc ?_)
  have hnil : ∀ H : Hp, d.doOps l = ⟨[], []⟩ → EndQ 0 H (.ag [.nul, .nul]) (fun r out => r = (d.doOps l).ow ∧ out = (d.doOps l).obs.map some) := fun H hk => by
    rw [hk]
    exact endQ_of [(1, 0), (2, 0)] (⟨[], []⟩ : Dk).ow ((⟨[], []⟩ : Dk).obs.map some) (by rfl) (by unfold Dk.ow; exact vc trivial) (by unfold Dk.obs; exact vc trivial) ⟨rfl, rfl⟩
  refine callq_of false [] (implDiskOk_ok d hd) rfl trivial (by unfold Dk.rd; exact vc trivial) ?_
  rintro r out ⟨rfl, rfl⟩
  refine ⟨by simp, by simp, by simp, vc ?_⟩
  refine brB_intro (fun h => ?_) (fun h => ?_)
  · exact hnil _ (if_neg (fun e => by rw [tf_true e] at h; simp at h))
  have hok : d.ok := by
    by_cases e : d.ok
    · exact e
    · rw [tf_false e] at h; simp at h
  have hdo : d.doOps l = (opsL d l).getD ⟨[], []⟩ := if_pos hok
  refine callq_of false [] (copyDisk_ok d hd) rfl trivial (by unfold Dk.rd; exact vc trivial) ?_
  rintro r out ⟨rfl, rfl⟩
  refine ⟨by simp, by simp [Dk.obs], by simp, ?_⟩
  unfold Dk.ow Dk.obs
  refine vc ?_
  refine loopQ_of (ι := Nat × Dk) (fun i => [(4, .pt 2 0 0), (5, .pt 3 0 0), (14, Rw (l.map (opC false))), (15, In l.length), (16, In (i.1 : Nat))]) (fun i => [(2, .box 31 [.nul, .nul]), (3, .box 31 [.sl 4 i.2.sh.length, .sl 5 i.2.wr.length]), (4, .rw 155 1 (i.2.sh.map (shC true))), (5, .rw 90 2 (i.2.wr.map (wrC true)))]) 6 (fun i => l.length - i.1) (fun i => i.1 ≤ l.length ∧ opsL d (l.take i.1) = some i.2 ∧ i.2.ok) (0, d) ⟨Nat.zero_le _, rfl, hok⟩ [(2, 9), (3, 57), (4, 49), (5, 50)] (by rfl) (vc trivial) (vc trivial) (fun i hi N hN => ?_)
  obtain ⟨i, e⟩ := i
  obtain ⟨hi, hL, heo⟩ := hi
  simp only at hi hL heo hN
  refine vc (brB_intro (fun h => ?_) (fun h => ?_))
  · have h : i < l.length := by simpa using h
    have hx := List.getElem?_eq_getElem h
    have hfx := hs _ (List.getElem_mem h)
    generalize hW : l[i] = wi at hx hfx ⊢
    obtain ⟨ws, wa, wb⟩ := wi
    rw [get_map hx, opC]
    refine vc ?_
    refine brB_intro (fun hs1 => ?_) (fun hs1 => ?_)
    · have hst : opStep e (ws, wa, wb) = some e.sync := if_pos hs1
      refine callq_of true [] (implDiskSync_ok e heo.fits) rfl trivial (by unfold Dk.rd; exact vc trivial) ?_
      rintro r out ⟨rfl, rfl⟩
      refine ⟨by simp, by simp [Dk.obs], fun _ => ⟨rs_ow _ (by simp [Dk.obs]), rso_ow _⟩, ?_⟩
      unfold Dk.ow Dk.obs
      refine vc ?_
      refine hN _ (i + 1, e.sync) [(4, 70), (5, 71)] ⟨h, (opsL_next hL hx).trans hst, opStep_ok heo hst⟩ (by show l.length - (i + 1) < l.length - i; omega) (by rfl) (vc ?_) (vc trivial)
      rw [w64 _ (by omega)]; simp
    · have hst : opStep e (ws, wa, wb) = if (e.write wa wb).2 = true then some (e.write wa wb).1 else none := if_neg (by simp [hs1])
      have hno : ¬ (Dk.wrOk e.sh.length (wa, wb) ∧ e.wr.length < 500) → d.doOps l = ⟨[], []⟩ := fun hn => by
        have hw : (e.write wa wb).2 = false := by unfold Dk.write; rw [if_neg (fun hh => hn hh.2)]
        rw [hw] at hst
        rw [hdo, opsL_fail hL hx hst]; rfl
      have hef := heo.1
      rw [w64 _ (by omega)]
      refine callq_of false [] (within_ok wa 0 (e.sh.length - 1)) rfl trivial (vc trivial) ?_
      rintro r out ⟨rfl, rfl⟩
      refine ⟨by simp, by simp, by simp, vc ?_⟩
      refine brB_intro (fun h1 => ?_) (fun h1 => ?_)
      · exact hnil _ (hno (fun hh => by have := hh.1.1; simp at h1 this; omega))
      refine brB_intro (fun h2 => ?_) (fun h2 => ?_)
      · exact hnil _ (hno (fun hh => by have := hh.1.2; simp at h2 this; omega))
      refine brB_intro (fun h3 => ?_) (fun h3 => ?_)
      · exact hnil _ (hno (fun hh => by have := hh.2; simp at h3; omega))
      have hwo : Dk.wrOk e.sh.length (wa, wb) := ⟨by simp at h1 ⊢; omega, by simp at h2 ⊢; omega⟩
      have hlt : e.wr.length < 500 := by simp at h3; omega
      have hw : e.write wa wb = (⟨e.sh, e.wr ++ [(wa, wb)]⟩, true) := if_pos ⟨heo, hwo, hlt⟩
      rw [hw] at hst
      have hst : opStep e (ws, wa, wb) = some ⟨e.sh, e.wr ++ [(wa, wb)]⟩ := hst
      refine drawQ_of false (by rfl) (by simp) (vc ?_)
      refine calld_of [] false [] (copyBytes_ok wb hfx) rfl trivial (vc trivial) (by rfl) ⟨_, _, rfl, rfl⟩ ?_
      rintro r out ⟨rfl, rfl⟩
      refine ⟨by simp, by simp, by simp, vc ?_⟩
      repeat refine ⟨rfl, ?_⟩
      refine ⟨⟨by simp, by unfold maxLen; omega, by omega⟩, ?_⟩
      repeat refine ⟨rfl, ?_⟩
      refine hN _ (i + 1, ⟨e.sh, e.wr ++ [(wa, wb)]⟩) [(5, 326)] ⟨h, (opsL_next hL hx).trans hst, opStep_ok heo hst⟩ (by show l.length - (i + 1) < l.length - i; omega) (by rfl) (vc ?_) (vc ?_)
      · rw [w64 _ (by omega)]; simp
      · simp [wrC]
  · have h : i = l.length := by simp at h; omega
    rw [h, List.take_length] at hL
    rw [show d.doOps l = e by rw [hdo, hL]; rfl]
    exact endQ_of [(1, 4), (2, 5)] (.ag [.sl 1 e.sh.length, .sl 2 e.wr.length]) [some (.rw 155 1 (e.sh.map (shC true))), some (.rw 90 2 (e.wr.map (wrC true)))] (by rfl) (vc trivial) (vc trivial) ⟨rfl, rfl⟩
end Go.Proofs.Ytnnmpdanfeejbaa.Abs
