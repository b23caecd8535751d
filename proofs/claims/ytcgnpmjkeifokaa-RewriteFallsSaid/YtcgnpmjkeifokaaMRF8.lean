/- RewriteFalls: each step makes a lesser term, and what is normal stays as it is: for every input. Part 8: the walks and plain laws that it uses. -/
import Derived.Test.YtcgnpmjkeifokaaRows
import Derived.Test.YtcgnpmjkeifokaaChecked
import Derived.ChangeAt
import Derived.Test.YtcgnpmjkeifokaaMRF7
-- K105
/- superposelaw.RewriteFalls, its walk. -/
namespace Go.Proofs.Ytcgnpmjkeifokaa
open Go.RowKit Go.Proofs.YtcgnpmjkeifokaaW.PrintWords
set_option linter.unusedVariables false
set_option linter.unusedSimpArgs false
theorem falls_err {g : List Int} {l : List Rl} {t : Tm} (h : (stpV g l t).2.2 ≠ 0) : (normV g l t).2.2 ≠ 0 := by
  unfold stpV at h
  unfold normV
  by_cases h0 : rdyE g l t = 0
  · rw [if_pos h0] at h ⊢; exact nrm_err h
  · rw [if_neg h0]; exact h0
set_option maxHeartbeats 4000000 in
set_option maxRecDepth 100000 in
theorem rewriteFalls_any (g : List Int) (Ag : Option Addr) (cg : Nat) (l : List Rl) (Al : Option Addr) (cl : Nat) (okl : Nat → Prop) (t : Tm) (A : Option Addr) (c : Nat) (okt : Nat → Prop) (w : World) (hG : Kd.C (Kd.int .i64) w Ag g.length g) (hL : Kd.F kRl w okl Al l.length l) (hF : Kd.F kTm w okt A t.f2.length t.f2) (hc : t.f2.length ≤ c) :
    Calls Try.prog 6 #[.agg #[.slice Ag g.length cg], .slice Al l.length cl, .agg #[.int .i64 t.f0, .int .i64 t.f1, .slice A t.f2.length c]] w fun e w' => e = .returned (.bool true) ∧ Below w.heap.size w w' := by
  have HG := Aside0.mk hG
  have HL := Aside0.mk hL
  have HF := Aside0.mk (Kd.F_mono (Kd.F_bound hF) (ok' := fun k => k < w.heap.size) (fun _ h => h.2))
  clear hG hL hF
  have ST : Aside0 (∀ W', Below w.heap.size w W' → Calls Try.prog 22 #[.agg #[.slice Ag g.length cg], .slice Al l.length cl, .agg #[.int .i64 t.f0, .int .i64 t.f1, .slice A t.f2.length c]] W' fun e w' => ∃ A' c', e = .returned (.tuple #[.agg #[.int .i64 (stpV g l t).1.f0, .int .i64 (stpV g l t).1.f1, .slice A' (stpV g l t).1.f2.length c'], .bool (stpV g l t).2.1, .int .i64 (stpV g l t).2.2]) ∧ (stpV g l t).1.f2.length ≤ c' ∧ Kd.F kTm w' (fun k => W'.heap.size ≤ k) A' (stpV g l t).1.f2.length (stpV g l t).1.f2 ∧ Below W'.heap.size W' w') := ⟨fun W' h => stepS_any g Ag cg l Al cl _ t A c _ W' (Kd.C_below HG.out h) (Kd.F_below HL.out h) (Kd.F_below HF.out h) hc⟩
  have NO : Aside0 (∀ W', Below w.heap.size w W' → Calls Try.prog 23 #[.agg #[.slice Ag g.length cg], .slice Al l.length cl, .agg #[.int .i64 t.f0, .int .i64 t.f1, .slice A t.f2.length c]] W' fun e w' => ∃ A' c', e = .returned (.tuple #[.agg #[.int .i64 (normV g l t).1.f0, .int .i64 (normV g l t).1.f1, .slice A' (normV g l t).1.f2.length c'], .int .i64 (normV g l t).2.1, .int .i64 (normV g l t).2.2]) ∧ (normV g l t).1.f2.length ≤ c' ∧ Kd.F kTm w' (fun k => W'.heap.size ≤ k) A' (normV g l t).1.f2.length (normV g l t).1.f2 ∧ Below W'.heap.size W' w') := ⟨fun W' h => normal_any g Ag cg l Al cl _ t A c _ W' (Kd.C_below HG.out h) (Kd.F_below HL.out h) (Kd.F_below HF.out h) hc⟩
  have CM : Aside0 (∀ W' A' c', Below w.heap.size w W' → Kd.F kTm W' (fun _ => True) A' (stpV g l t).1.f2.length (stpV g l t).1.f2 → (stpV g l t).1.f2.length ≤ c' → Calls Try.prog 32 #[.agg #[.slice Ag g.length cg], .agg #[.int .i64 t.f0, .int .i64 t.f1, .slice A t.f2.length c], .agg #[.int .i64 (stpV g l t).1.f0, .int .i64 (stpV g l t).1.f1, .slice A' (stpV g l t).1.f2.length c']] W' fun e w' => e = .returned (.tuple #[.int .i64 (cmpV g t (stpV g l t).1), .int .i64 (chkTs g [t, (stpV g l t).1])]) ∧ Below W'.heap.size W' w') := ⟨fun W' A' c' h hF' hc' => compare_any g Ag cg t (stpV g l t).1 A A' c c' _ _ W' (Kd.C_below HG.out h) (Kd.F_below HF.out h) hc hF' hc'⟩
  have ST2 : Aside0 (∀ W' A' c', Below w.heap.size w W' → Kd.F kTm W' (fun _ => True) A' (normV g l t).1.f2.length (normV g l t).1.f2 → (normV g l t).1.f2.length ≤ c' → Calls Try.prog 22 #[.agg #[.slice Ag g.length cg], .slice Al l.length cl, .agg #[.int .i64 (normV g l t).1.f0, .int .i64 (normV g l t).1.f1, .slice A' (normV g l t).1.f2.length c']] W' fun e w' => ∃ A2 c2, e = .returned (.tuple #[.agg #[.int .i64 (stpV g l (normV g l t).1).1.f0, .int .i64 (stpV g l (normV g l t).1).1.f1, .slice A2 (stpV g l (normV g l t).1).1.f2.length c2], .bool (stpV g l (normV g l t).1).2.1, .int .i64 (stpV g l (normV g l t).1).2.2]) ∧ (stpV g l (normV g l t).1).1.f2.length ≤ c2 ∧ Kd.F kTm w' (fun k => W'.heap.size ≤ k) A2 (stpV g l (normV g l t).1).1.f2.length (stpV g l (normV g l t).1).1.f2 ∧ Below W'.heap.size W' w') := ⟨fun W' A' c' h hF' hc' => stepS_any g Ag cg l Al cl _ (normV g l t).1 A' c' _ W' (Kd.C_below HG.out h) (Kd.F_below HL.out h) hF' hc'⟩
  have LW1 : Aside0 ((stpV g l t).2.2 = 0 → chkTs g [t, (stpV g l t).1] = 0 ∧ ((stpV g l t).2.1 = true → cmpV g t (stpV g l t).1 = 1) ∧ ((stpV g l t).2.1 = false → eqT (stpV g l t).1 t = true)) := ⟨falls_one⟩
  have LW2 : Aside0 ((normV g l t).2.2 = 0 → stpV g l (normV g l t).1 = ((normV g l t).1, false, 0) ∧ (decide ((0 : Int) < ((normV g l t).2.1 : Int)) = (stpV g l t).2.1)) := ⟨falls_two⟩
  have LW3 : Aside0 ((stpV g l t).2.2 ≠ 0 → (normV g l t).2.2 ≠ 0) := ⟨falls_err⟩
  generalize stpV g l t = sv at *
  obtain ⟨Y, bv, E1⟩ := sv
  generalize normV g l t = nv at *
  obtain ⟨Z, N, E2⟩ := nv
  simp only at ST NO CM ST2 LW1 LW2 LW3
  generalize cmpV g t Y = V1 at *
  generalize chkTs g [t, Y] = V2 at *
  have g0 := blk_alloc (newAt (w := w) (o := .cells #[.slice Ag g.length cg] 24) rfl) (.cells #[.int .i64 t.f0, .int .i64 t.f1, .slice A t.f2.length c] 46)
  have g1 := newAt (w := w.alloc (.cells #[.slice Ag g.length cg] 24)) (o := .cells #[.int .i64 t.f0, .int .i64 t.f1, .slice A t.f2.length c] 46) (k := w.heap.size + 1) (by simp)
  have HB := Aside0.mk (below_alloc (below_alloc (Below.refl w.heap.size w) (.cells #[.slice Ag g.length cg] 24)) (.cells #[.int .i64 t.f0, .int .i64 t.f1, .slice A t.f2.length c] 46))
  go_enter Try.func6, Try.ntmps6
  go_upto_region 1 with (fail)
  generalize (w.alloc (.cells #[.slice Ag g.length cg] 24)).alloc (.cells #[.int .i64 t.f0, .int .i64 t.f1, .slice A t.f2.length c] 46) = W at *
  have HS := Aside0.mk g0
  have HT := Aside0.mk g1
  clear g0 g1
  go_upto_region 3 with (first | (go_at_call 28; refine (rewriteBegun_any _).mono ?_; rintro e w1 ⟨rfl, hb1⟩; have HB1 := Aside0.mk hb1; clear hb1) | (go_at_call 31; refine (orderBegun_any _).mono ?_; rintro e w2 ⟨rfl, hb2⟩; have HB2 := Aside0.mk (hbT HB1.out hb2); clear hb2))
  have HW2 := Aside0.mk (hbT HB.out HB2.out)
  have s0 := sg_cell ((HB2.out.block _ (blk_lt HS.out)).trans HS.out)
  obtain ⟨t0, t1, t2⟩ := tm_cells ((HB2.out.block _ (blk_lt HT.out)).trans HT.out)
  go_upto_region 4 with (first | (go_at_call 22; refine (ST.out w2 HW2.out).mono ?_; rintro e w3 ⟨A3, c3, rfl, h3, hF3, hb3⟩; have HF3 := Aside0.mk (Kd.F_mono (Kd.F_bound hF3) (ok' := fun k => k < w3.heap.size) (fun _ h => h.2)); have HB3 := Aside0.mk (hbT HB2.out hb3); have HC3 := Aside0.mk h3; clear hF3 hb3 h3 s0 t0 t1 t2) | (((with_reducible refine gate_store (t := 46) (p := 7) rfl ?_); refine st_tm 7 rfl rfl rfl rfl rfl (heap_alloc_new _ _) ?_); intro w4 hs4 hG4 hz4; have HY := Aside0.mk hs4; have HB34 := Aside0.mk (gbS (below_alloc (Below.refl w3.heap.size w3) _) hG4 (Nat.le_refl _)); clear hs4 hG4 hz4))
  have HB4 := Aside0.mk (hbT HB3.out HB34.out)
  have HW4 := Aside0.mk (hbT HB.out HB4.out)
  have HF4 := Aside0.mk (Kd.F_below HF3.out HB34.out)
  clear ST
  by_cases he : E1 = 0
  · have heb : (E1 == 0) = true := by rw [he]; rfl
    obtain ⟨rfl, L1, L2⟩ := LW1.out he
    clear he LW3 LW1
    have s0 := sg_cell ((HB4.out.block _ (blk_lt HS.out)).trans HS.out)
    obtain ⟨t0, t1, t2⟩ := tm_cells ((HB4.out.block _ (blk_lt HT.out)).trans HT.out)
    obtain ⟨y0, y1, y2⟩ := tm_cells HY.out
    cases bv with
    | true =>
      obtain rfl := L1 rfl
      clear L1 L2
      go_upto_region 8 with (go_at_call 32; refine (CM.out w4 A3 c3 HW4.out (Kd.F_mono HF4.out (fun _ _ => trivial)) HC3.out).mono ?_; rintro e w5 ⟨rfl, hb5⟩; have HB5 := Aside0.mk (hbT HB4.out hb5); clear hb5 s0 t0 t1 t2 y0 y1 y2)
      clear CM
      have HW5 := Aside0.mk (hbT HB.out HB5.out)
      have s0 := sg_cell ((HB5.out.block _ (blk_lt HS.out)).trans HS.out)
      obtain ⟨t0, t1, t2⟩ := tm_cells ((HB5.out.block _ (blk_lt HT.out)).trans HT.out)
      go_upto_region 9 with (first | (go_at_call 23; refine (NO.out w5 HW5.out).mono ?_; rintro e w20 ⟨A20, c20, rfl, h20, hF20, hb20⟩; have HF20 := Aside0.mk (Kd.F_mono (Kd.F_bound hF20) (ok' := fun k => k < w20.heap.size) (fun _ h => h.2)); have HB20 := Aside0.mk (hbT HB5.out hb20); have HC20 := Aside0.mk h20; clear hF20 hb20 h20 s0 t0 t1 t2) | (((with_reducible refine gate_store (t := 46) (p := 12) rfl ?_); refine st_tm 12 rfl rfl rfl rfl rfl (heap_alloc_new _ _) ?_); intro w21 hs21 hG21 hz21; have HZ := Aside0.mk hs21; have HB201 := Aside0.mk (gbS (below_alloc (Below.refl w20.heap.size w20) _) hG21 (Nat.le_refl _)); clear hs21 hG21 hz21))
      have HB21 := Aside0.mk (hbT HB20.out HB201.out)
      have HW21 := Aside0.mk (hbT HB.out HB21.out)
      have HF21 := Aside0.mk (Kd.F_mono (Kd.F_below HF20.out HB201.out) (ok' := fun _ => True) (fun _ _ => trivial))
      by_cases he2 : E2 = 0
      · have he2b := bneF he2
        obtain ⟨L21, L22⟩ := LW2.out he2
        have LS := Aside0.mk L21
        have hd := L22
        have hdn : decide (0 < N) = true := by simpa using hd
        clear L21 L22 LW2
        have HS2 := Aside0.mk (ST2.out w21 A20 c20 HW21.out HF21.out HC20.out)
        rw [LS.out] at HS2
        clear he2 ST2 NO
        have s0 := sg_cell ((HB21.out.block _ (blk_lt HS.out)).trans HS.out)
        obtain ⟨z0, z1, z2⟩ := tm_cells HZ.out
        go_upto_region 12 with (first | (go_at_call 22; refine HS2.out.mono ?_; rintro e w22 ⟨A22, c22, rfl, h22, hF22, hb22⟩; have HF22 := Aside0.mk (Kd.F_bound hF22); have HB22 := Aside0.mk hb22; have HC22 := Aside0.mk h22; clear hF22 hb22 h22 s0 z0 z1 z2) | (((with_reducible refine gate_store (t := 46) (p := 14) rfl ?_); refine st_tm 14 rfl rfl rfl rfl rfl (heap_alloc_new _ _) ?_); intro w23 hs23 hG23 hz23; have HU := Aside0.mk hs23; have HB223 := Aside0.mk (gbS (below_alloc (Below.refl w22.heap.size w22) _) hG23 (Nat.le_refl _)); clear hs23 hG23 hz23))
        have HB2123 := Aside0.mk (hbT HB22.out HB223.out)
        have HW23 := Aside0.mk (hbT HW21.out HB2123.out)
        obtain ⟨u0, u1, u2⟩ := tm_cells HU.out
        obtain ⟨z0, z1, z2⟩ := tm_cells ((HB2123.out.block _ (blk_lt HZ.out)).trans HZ.out)
        have SM : Aside0 (Calls Try.prog 33 #[.agg #[.int .i64 Z.f0, .int .i64 Z.f1, .slice A22 Z.f2.length c22], .agg #[.int .i64 Z.f0, .int .i64 Z.f1, .slice A20 Z.f2.length c20]] w23 fun e w' => e = .returned (.bool true) ∧ Below w23.heap.size w23 w') := ⟨by
          have := sameTerm_any (szT Z) Z Z A22 A20 c22 c20 _ _ w23 (Nat.le_refl _) (Kd.F_below HF22.out HB223.out) HC22.out (Kd.F_below HF21.out HB2123.out) HC20.out
          rw [eqT_refl] at this
          exact this⟩
        go_wp2_with (go_at_call 33; refine SM.out.mono ?_; rintro e w24 ⟨rfl, hb24⟩; have HW24 := Aside0.mk (hbT HW23.out hb24); clear hb24 u0 u1 u2 z0 z1 z2)
        go_ret
        exact ⟨rfl, HW24.out⟩
      · have he2b := bneT he2
        clear he2 LW2 ST2 NO
        go_wp2
        go_ret
        exact ⟨rfl, HW21.out⟩
    | false =>
      have HEQ := Aside0.mk (L2 rfl)
      clear L1 L2
      go_upto_region 6 with (go_at_call 32; refine (CM.out w4 A3 c3 HW4.out (Kd.F_mono HF4.out (fun _ _ => trivial)) HC3.out).mono ?_; rintro e w5 ⟨rfl, hb5⟩; have HB45 := Aside0.mk hb5; have HB5 := Aside0.mk (hbT HB4.out hb5); clear hb5 s0 t0 t1 t2 y0 y1 y2)
      clear CM
      have HW5 := Aside0.mk (hbT HB.out HB5.out)
      obtain ⟨t0, t1, t2⟩ := tm_cells ((HB5.out.block _ (blk_lt HT.out)).trans HT.out)
      obtain ⟨y0, y1, y2⟩ := tm_cells ((HB45.out.block _ (blk_lt HY.out)).trans HY.out)
      have SN : Aside0 (Calls Try.prog 33 #[.agg #[.int .i64 Y.f0, .int .i64 Y.f1, .slice A3 Y.f2.length c3], .agg #[.int .i64 t.f0, .int .i64 t.f1, .slice A t.f2.length c]] w5 fun e w' => e = .returned (.bool true) ∧ Below w5.heap.size w5 w') := ⟨by
        have := sameTerm_any (szT Y) Y t A3 A c3 c _ _ w5 (Nat.le_refl _) (Kd.F_below HF4.out HB45.out) HC3.out (Kd.F_below HF.out HW5.out) hc
        rw [HEQ.out] at this
        exact this⟩
      go_upto_region 8 with (go_at_call 33; refine SN.out.mono ?_; rintro e w6 ⟨rfl, hb6⟩; have HB6 := Aside0.mk (hbT HB5.out hb6); clear hb6 t0 t1 t2 y0 y1 y2)
      have HW6 := Aside0.mk (hbT HB.out HB6.out)
      have s0 := sg_cell ((HB6.out.block _ (blk_lt HS.out)).trans HS.out)
      obtain ⟨t0, t1, t2⟩ := tm_cells ((HB6.out.block _ (blk_lt HT.out)).trans HT.out)
      go_upto_region 9 with (first | (go_at_call 23; refine (NO.out w6 HW6.out).mono ?_; rintro e w20 ⟨A20, c20, rfl, h20, hF20, hb20⟩; have HF20 := Aside0.mk (Kd.F_mono (Kd.F_bound hF20) (ok' := fun k => k < w20.heap.size) (fun _ h => h.2)); have HB20 := Aside0.mk (hbT HB6.out hb20); have HC20 := Aside0.mk h20; clear hF20 hb20 h20 s0 t0 t1 t2) | (((with_reducible refine gate_store (t := 46) (p := 12) rfl ?_); refine st_tm 12 rfl rfl rfl rfl rfl (heap_alloc_new _ _) ?_); intro w21 hs21 hG21 hz21; have HZ := Aside0.mk hs21; have HB201 := Aside0.mk (gbS (below_alloc (Below.refl w20.heap.size w20) _) hG21 (Nat.le_refl _)); clear hs21 hG21 hz21))
      have HB21 := Aside0.mk (hbT HB20.out HB201.out)
      have HW21 := Aside0.mk (hbT HB.out HB21.out)
      have HF21 := Aside0.mk (Kd.F_mono (Kd.F_below HF20.out HB201.out) (ok' := fun _ => True) (fun _ _ => trivial))
      by_cases he2 : E2 = 0
      · have he2b := bneF he2
        obtain ⟨L21, L22⟩ := LW2.out he2
        have LS := Aside0.mk L21
        have hd := L22
        have hdn : decide (0 < N) = false := by simpa using hd
        clear L21 L22 LW2
        have HS2 := Aside0.mk (ST2.out w21 A20 c20 HW21.out HF21.out HC20.out)
        rw [LS.out] at HS2
        clear he2 ST2 NO
        have s0 := sg_cell ((HB21.out.block _ (blk_lt HS.out)).trans HS.out)
        obtain ⟨z0, z1, z2⟩ := tm_cells HZ.out
        go_upto_region 12 with (first | (go_at_call 22; refine HS2.out.mono ?_; rintro e w22 ⟨A22, c22, rfl, h22, hF22, hb22⟩; have HF22 := Aside0.mk (Kd.F_bound hF22); have HB22 := Aside0.mk hb22; have HC22 := Aside0.mk h22; clear hF22 hb22 h22 s0 z0 z1 z2) | (((with_reducible refine gate_store (t := 46) (p := 14) rfl ?_); refine st_tm 14 rfl rfl rfl rfl rfl (heap_alloc_new _ _) ?_); intro w23 hs23 hG23 hz23; have HU := Aside0.mk hs23; have HB223 := Aside0.mk (gbS (below_alloc (Below.refl w22.heap.size w22) _) hG23 (Nat.le_refl _)); clear hs23 hG23 hz23))
        have HB2123 := Aside0.mk (hbT HB22.out HB223.out)
        have HW23 := Aside0.mk (hbT HW21.out HB2123.out)
        obtain ⟨u0, u1, u2⟩ := tm_cells HU.out
        obtain ⟨z0, z1, z2⟩ := tm_cells ((HB2123.out.block _ (blk_lt HZ.out)).trans HZ.out)
        have SM : Aside0 (Calls Try.prog 33 #[.agg #[.int .i64 Z.f0, .int .i64 Z.f1, .slice A22 Z.f2.length c22], .agg #[.int .i64 Z.f0, .int .i64 Z.f1, .slice A20 Z.f2.length c20]] w23 fun e w' => e = .returned (.bool true) ∧ Below w23.heap.size w23 w') := ⟨by
          have := sameTerm_any (szT Z) Z Z A22 A20 c22 c20 _ _ w23 (Nat.le_refl _) (Kd.F_below HF22.out HB223.out) HC22.out (Kd.F_below HF21.out HB2123.out) HC20.out
          rw [eqT_refl] at this
          exact this⟩
        go_wp2_with (go_at_call 33; refine SM.out.mono ?_; rintro e w24 ⟨rfl, hb24⟩; have HW24 := Aside0.mk (hbT HW23.out hb24); clear hb24 u0 u1 u2 z0 z1 z2)
        go_ret
        exact ⟨rfl, HW24.out⟩
      · have he2b := bneT he2
        clear he2 LW2 ST2 NO
        go_wp2
        go_ret
        exact ⟨rfl, HW21.out⟩
  · have heb : (E1 == 0) = false := by simpa using he
    have he2b := bneT (LW3.out he)
    clear he LW1 LW2 LW3 ST2 CM
    have s0 := sg_cell ((HB4.out.block _ (blk_lt HS.out)).trans HS.out)
    obtain ⟨t0, t1, t2⟩ := tm_cells ((HB4.out.block _ (blk_lt HT.out)).trans HT.out)
    go_upto_region 9 with (first | (go_at_call 23; refine (NO.out w4 HW4.out).mono ?_; rintro e w20 ⟨A20, c20, rfl, h20, hF20, hb20⟩; have HB20 := Aside0.mk (hbT HB4.out hb20); clear hF20 hb20 h20 s0 t0 t1 t2) | (((with_reducible refine gate_store (t := 46) (p := 12) rfl ?_); refine st_tm 12 rfl rfl rfl rfl rfl (heap_alloc_new _ _) ?_); intro w21 hs21 hG21 hz21; have HB201 := Aside0.mk (gbS (below_alloc (Below.refl w20.heap.size w20) _) hG21 (Nat.le_refl _)); clear hs21 hG21 hz21))
    have HW21 := Aside0.mk (hbT HB.out (hbT HB20.out HB201.out))
    go_wp2
    go_ret
    exact ⟨rfl, HW21.out⟩
end Go.Proofs.Ytcgnpmjkeifokaa
-- KRowR
/- The opening of rules that were handed in. -/
namespace Go.Proofs.Ytcgnpmjkeifokaa
open Go.RowKit Go.WideShapes Go.ChangeShapes Go.Proofs.YtcgnpmjkeifokaaW.PrintWords
set_option linter.unusedVariables false
set_option linter.unusedSimpArgs false
section
variable {H : Type} {enc : TypeId × Value → H} {w : World} {spare : Nat → Bool} {held : Bool}
theorem list6 {α : Type} {cs : List α} (h : cs.length = 6) : ∃ a b c d e f, cs = [a, b, c, d, e, f] := by
  match cs, h with
  | [a, b, c, d, e, f], _ => exact ⟨a, b, c, d, e, f, rfl⟩
theorem c_rl : Try.prog.cellsOf 100 = 6 := by kernel_rfl
theorem op_rl : ∀ n, Op enc Try.prog w spare held n kRl 100 := by
  intro n fuel cs x hf hx
  obtain ⟨xs, m, rfl, _, hl, hlen, hfs⟩ := DataW.trod_struct Try.underlying100 hx
  have hl3 : cs.length = 6 := hl.trans c_rl
  have hx3 : xs.length = 2 := hlen
  obtain ⟨c1, c2, c3, c4, c5, c6, rfl⟩ := list6 hl3
  have h1 : DataW.trod enc Try.prog w 0 spare held m 46 ((([c1, c2, c3, c4, c5, c6] : List Value).drop 0).take (Try.prog.cellsOf 46)) = xs[0]? := hfs 0 _ rfl
  have h2 : DataW.trod enc Try.prog w 0 spare held m 46 ((([c1, c2, c3, c4, c5, c6] : List Value).drop 3).take (Try.prog.cellsOf 46)) = xs[1]? := hfs 1 _ rfl
  rw [c_tm] at h1 h2
  obtain ⟨z1, e1⟩ := op_fld (op_tm (m + 1)) (by omega) h1 (List.getElem?_eq_getElem (by omega)) (c := [c1, c2, c3]) rfl
  obtain ⟨z2, e2⟩ := op_fld (op_tm (m + 1)) (by omega) h2 (List.getElem?_eq_getElem (by omega)) (c := [c4, c5, c6]) rfl
  exact ⟨⟨z1, z2⟩, [c1, c2, c3], [c4, c5, c6], rfl, e1, e2⟩
variable {W : World} {base : Nat} {v : Value} {d : DataW H} {p : List MemPlace} {sp : Nat → Bool}
set_option maxRecDepth 100000 in
theorem arg_rules (hval : Value.okWide Try.prog W .any base 43 v) (h : DataW.Trod enc Try.prog W 0 sp held 43 v d p) : ∃ (g : List Rl) (A : Option Addr) (c : Nat), v = .slice A g.length c ∧ g.length ≤ c ∧ Kd.F kRl W (fun _ => True) A g.length g := by
  obtain ⟨a, len, cap, rfl⟩ := okWide_slice Try.underlying43 hval
  obtain ⟨fuel, hf⟩ := h
  obtain ⟨x, A, c, e, hl, hC⟩ := op_slice (n := fuel) Try.underlying43 c_rl.symm (op_rl fuel) fuel _ _ (Nat.lt_succ_self _) hf
  have e' : [Value.slice a len cap] = [.slice A x.length c] := e
  injection e' with e' _
  injection e' with h1 h2 h3
  subst h1 h2 h3
  exact ⟨x, a, cap, rfl, hl, Kd.F_mono (Kd.C_F kRl_heap hC) (fun _ _ => trivial)⟩
end
end Go.Proofs.Ytcgnpmjkeifokaa
-- LRewriteFalls
/- RewriteFalls: each step makes a lesser term, and what is normal stays as it is: for every input. -/
namespace Go.Proofs.Ytcgnpmjkeifokaa
open Go.RowKit Go.WideShapes Go.ChangeShapes Go.ChangeAt Go.Proofs.YtcgnpmjkeifokaaW.PrintWords
set_option linter.unusedVariables false
set_option linter.unusedSimpArgs false
namespace RewriteFallsRow
theorem own_ : ownKnob Try.prog.godebug = none := by kernel_rfl
theorem laidOut_ : laidOutB Try.prog = true := by kernel_rfl
set_option maxRecDepth 100000 in
theorem lifted (os : Os) (started : os.Started) (H : Type) (enc : TypeId × Value → H) :
    ReturnsInHanded {} Try.checked os 6 .any (Rows.rewriteFallsSpec.pre6 enc Try.prog Try.f6 Rows.rewriteFallsRow.domain false) (Rows.rewriteFallsSpec.post enc Try.prog Try.f6 false true false false) := by
  refine returnsInHanded_of_change_sized (C := Try.checked) own_ started (by kernel_rfl) Try.func6
    (ChangeSpec.witness6 (enc := enc) (C := Try.checked) false ⟨#[], #[.agg #[.slice none 0 0], .slice none 0 0, .agg #[.int .i64 0, .int .i64 0, .slice none 0 0]], []⟩ 8 (by kernel_rfl) (by kernel_rfl) (by kernel_rfl) (by kernel_rfl)) ?_
  intro W base args ds gs before hval0 hW hcnd hsz0 _
  have hval : ∀ (j : Nat) t v, Try.f6.params[j]? = some t → args[j]? = some v → Value.okWide Try.prog W .any base t v := hval0
  have hW' := hW
  obtain ⟨p, q, hA0, hV, rfl, hfz, hnd⟩ := hW
  have hA : DataW.TrodAll enc Try.prog W 0 (fun _ => true) true Try.f6.params.toList args.toList ds p := hA0
  rw [Try.params6] at hA hval
  obtain ⟨v0, vs0, d0, ds0, p0, q0, hargs, rfl, rfl, h0, r0⟩ := trodAll_cons hA
  obtain ⟨v1, vs1, d1, ds1, p1, q1, rfl, rfl, rfl, h1, r1⟩ := trodAll_cons r0
  obtain ⟨v2, vs2, d2, ds2, p2, q2, rfl, rfl, rfl, h2, r2⟩ := trodAll_cons r1
  obtain ⟨rfl, rfl, rfl⟩ := trodAll_nil r2
  obtain rfl : args = #[v0, v1, v2] := by cases args; simp_all
  obtain ⟨rfl, rfl⟩ := trodVars_none hV
  obtain ⟨x0, A0, c0, rfl, l0, G0⟩ := arg_sg (hval 0 24 v0 rfl rfl) h0
  obtain ⟨x1, A1, c1, rfl, l1, G1⟩ := arg_rules (hval 1 43 v1 rfl rfl) h1
  obtain ⟨x2, A2, c2, rfl, l2, G2⟩ := arg_tm (hval 2 46 v2 rfl rfl) h2
  have lt0 : ∀ x ∈ p0, x.block < W.heap.size := by obtain ⟨m, hm⟩ := h0; exact DataW.trod_lt m _ _ _ hm
  have lt1 : ∀ x ∈ p1, x.block < W.heap.size := by obtain ⟨m, hm⟩ := h1; exact DataW.trod_lt m _ _ _ hm
  have lt2 : ∀ x ∈ p2, x.block < W.heap.size := by obtain ⟨m, hm⟩ := h2; exact DataW.trod_lt m _ _ _ hm
  clear hA0 hval0 hsz0
  refine (rewriteFalls_any x0 A0 c0 x1 A1 c1 _ x2 A2 c2 _ W G0 G1 G2 l2).mono fun e W' ⟨he, bel⟩ => ?_
  subst he
  exact ⟨_, rfl, _, _, _, [], _, [], hW', trodAll_mk1 (shut_bool Try.underlying4 _), (trodAll_cons_mk (Below.trod laidOut_ (by kernel_rfl) (of_decide_eq_true (by kernel_rfl)) h0 bel lt0) (trodAll_cons_mk (Below.trod laidOut_ (by kernel_rfl) (of_decide_eq_true (by kernel_rfl)) h1 bel lt1) (trodAll_cons_mk (Below.trod laidOut_ (by kernel_rfl) (of_decide_eq_true (by kernel_rfl)) h2 bel lt2) trodAll_mk0))), rfl, bel.frame _, fun h => by cases h⟩
theorem over : Rows.rewriteFallsRow.holds Try.pinned (OpenSpec.ofChange Rows.rewriteFallsSpec) :=
  OpenClaim.holds_of_wide 6 Try.f6 rfl rfl rfl rfl rfl rfl rfl ⟨rfl, rfl, rfl, rfl, rfl⟩ rfl rfl rfl rfl rfl (by kernel_rfl) Try.func6 (by kernel_rfl)
    (of_decide_eq_true (by kernel_rfl)) (by unfold Func.isWrapper; first | (rw [if_pos (by decide +kernel)]; kernel_rfl) | (rw [if_neg (by decide +kernel)]; exact ⟨rfl, rfl⟩))
    (fun os started H enc _ => lifted os started H enc)
end RewriteFallsRow
/-- The statement. -/
theorem rewriteFalls_holds : Rows.RewriteFallsSaid := RewriteFallsRow.over
#print axioms rewriteFalls_holds
end Go.Proofs.Ytcgnpmjkeifokaa
