/- TermBack: what is put is there, and what was there put back makes what it was: for every input. -/
import Derived.Test.YtcgnpmjkeifokaaMC
import Derived.Test.YtcgnpmjkeifokaaRows
import Derived.Test.YtcgnpmjkeifokaaChecked
import Derived.ChangeAt
-- K30
/- superposelaw.TermPuts, its walk. -/
namespace Go.Proofs.Ytcgnpmjkeifokaa
open Go.RowKit Go.Proofs.YtcgnpmjkeifokaaW.PrintWords
set_option linter.unusedVariables false
set_option linter.unusedSimpArgs false

theorem cut_T {G : Prop} {α β γ : Type} (S : α → β → γ → Prop) (T : α → β → γ → Prop) (main : (∀ a b c, S a b c → T a b c) → G) (key : ∀ a b c, S a b c → T a b c) : G := main key
theorem use_T {T G : Prop} (h : T) (e : T = G) : G := e ▸ h
theorem chkTs_two {g : List Int} {t u : Tm} (h : chkTs g [t] ≠ 0) : chkTs g [t, u] = chkTs g [t] := by
  unfold chkTs at h ⊢
  by_cases hs : sigE g = 0
  · simp only [hs, ne_eq, not_true_eq_false, if_false, fe] at h ⊢
    by_cases ht : chkT g t = 0
    · simp [ht] at h
    · simp [ht]
  · simp only [ne_eq, hs, not_false_eq_true, if_true] at h ⊢
theorem chkTs_one {g : List Int} {t u : Tm} (h : chkTs g [t, u] = 0) : chkTs g [t] = 0 := by
  by_cases h1 : chkTs g [t] = 0
  · exact h1
  · rw [chkTs_two h1] at h; exact h

set_option maxHeartbeats 4000000 in
set_option maxRecDepth 100000 in
theorem termPuts_any (g : List Int) (Ag : Option Addr) (cg : Nat) (t u : Tm) (A B : Option Addr) (c d : Nat) (p : List Int) (Ap : Option Addr) (cp : Nat) (ok : Nat → Prop) (w : World) (hG : Kd.C (Kd.int .i64) w Ag g.length g) (hF : Kd.F kTm w ok A t.f2.length t.f2) (hc : t.f2.length ≤ c) (hU : Kd.F kTm w ok B u.f2.length u.f2) (hd : u.f2.length ≤ d) (hP : Kd.C (Kd.int .i64) w Ap p.length p) (hpc : p.length ≤ cp) :
    Calls Try.prog 9 #[.agg #[.slice Ag g.length cg], .agg #[.int .i64 t.f0, .int .i64 t.f1, .slice A t.f2.length c], .slice Ap p.length cp, .agg #[.int .i64 u.f0, .int .i64 u.f1, .slice B u.f2.length d]] w fun e w' => e = .returned (.bool true) ∧ Below w.heap.size w w' := by
  have HF := Aside0.mk (Kd.F_bound hF)
  have HU := Aside0.mk (Kd.F_bound hU)
  have HG := Aside0.mk hG
  have HP := Aside0.mk hP
  have HPC := Aside0.mk hpc
  clear hF hG hP hU hpc
  have g1 := blk_alloc (newAt (w := w.alloc (.cells #[.slice Ag g.length cg] 24)) (o := .cells #[.int .i64 t.f0, .int .i64 t.f1, .slice A t.f2.length c] 46) (k := w.heap.size + 1) (by simp)) (.cells #[.int .i64 u.f0, .int .i64 u.f1, .slice B u.f2.length d] 46)
  have g0 := blk_alloc (blk_alloc (newAt (w := w) (o := .cells #[.slice Ag g.length cg] 24) rfl) (.cells #[.int .i64 t.f0, .int .i64 t.f1, .slice A t.f2.length c] 46)) (.cells #[.int .i64 u.f0, .int .i64 u.f1, .slice B u.f2.length d] 46)
  have g3 := newAt (w := (w.alloc (.cells #[.slice Ag g.length cg] 24)).alloc (.cells #[.int .i64 t.f0, .int .i64 t.f1, .slice A t.f2.length c] 46)) (o := .cells #[.int .i64 u.f0, .int .i64 u.f1, .slice B u.f2.length d] 46) (k := w.heap.size + 2) (by simp)
  have HB := Aside0.mk (below_alloc (below_alloc (below_alloc (Below.refl w.heap.size w) (.cells #[.slice Ag g.length cg] 24)) (.cells #[.int .i64 t.f0, .int .i64 t.f1, .slice A t.f2.length c] 46)) (.cells #[.int .i64 u.f0, .int .i64 u.f1, .slice B u.f2.length d] 46))
  go_enter Try.func9, Try.ntmps9
  go_upto_region 1 with (fail)
  generalize ((w.alloc (.cells #[.slice Ag g.length cg] 24)).alloc (.cells #[.int .i64 t.f0, .int .i64 t.f1, .slice A t.f2.length c] 46)).alloc (.cells #[.int .i64 u.f0, .int .i64 u.f1, .slice B u.f2.length d] 46) = W at *
  have HS := Aside0.mk g0
  have HT := Aside0.mk g1
  have HV := Aside0.mk g3
  clear g0 g1 g3
  have s0 := sg_cell HS.out
  obtain ⟨t0, t1, t2⟩ := tm_cells HT.out
  go_upto_region 2 with (first | (go_at_call 47; refine (at_any g Ag cg t A c p Ap cp _ W (Kd.C_below HG.out HB.out) (Kd.F_below HF.out HB.out) hc (Kd.C_below HP.out HB.out)).mono ?_; rintro e w1 ⟨A1, c1, rfl, h1, hF1, hb1⟩; have HF1 := Aside0.mk (Kd.F_bound hF1); have HB1 := Aside0.mk hb1; clear hF1 hb1) | (((with_reducible refine gate_store (t := 46) (p := 9) rfl ?_); refine st_tm 9 rfl rfl rfl rfl rfl (heap_alloc_new _ _) ?_); intro w2 hs2 hG2 hz2; have HX := Aside0.mk hs2; have HB2 := Aside0.mk (hbT HB1.out (gbS (below_alloc (Below.refl w1.heap.size w1) _) hG2 (Nat.le_refl _))); have HF2 := Aside0.mk (Kd.F_below HF1.out (gbS (below_alloc (Below.refl w1.heap.size w1) _) hG2 (Nat.le_refl _))); clear hs2 hG2 hz2))
  clear HF1 HB1 s0 t0 t1 t2
  have s0 := sg_cell ((HB2.out.block _ (blk_lt HS.out)).trans HS.out)
  obtain ⟨t0, t1, t2⟩ := tm_cells ((HB2.out.block _ (blk_lt HT.out)).trans HT.out)
  obtain ⟨u0, u1, u2⟩ := tm_cells ((HB2.out.block _ (blk_lt HV.out)).trans HV.out)
  have HB02 := Aside0.mk (hbT HB.out HB2.out)
  go_upto_region 3 with (first | (go_at_call 48; refine (put_any g Ag cg t u A B c d p Ap cp _ w2 (Kd.C_below HG.out HB02.out) (Kd.F_below HF.out HB02.out) hc (Kd.F_below HU.out HB02.out) hd (Kd.C_below HP.out HB02.out) HPC.out).mono ?_; rintro e w3 ⟨A3, c3, rfl, h3, hF3, hb3⟩; have HF3 := Aside0.mk (Kd.F_bound hF3); have HB3 := Aside0.mk hb3; clear hF3 hb3) | (((with_reducible refine gate_store (t := 46) (p := 11) rfl ?_); refine st_tm 11 rfl rfl rfl rfl rfl (heap_alloc_new _ _) ?_); intro w4 hs4 hG4 hz4; have HY := Aside0.mk hs4; have HB4 := Aside0.mk (hbT HB3.out (gbS (below_alloc (Below.refl w3.heap.size w3) _) hG4 (Nat.le_refl _))); have HF4 := Aside0.mk (Kd.F_below HF3.out (gbS (below_alloc (Below.refl w3.heap.size w3) _) hG4 (Nat.le_refl _))); clear hs4 hG4 hz4))
  clear HF3 HB3 s0 t0 t1 t2 u0 u1 u2
  have HX4 := Aside0.mk ((HB4.out.block _ (blk_lt HX.out)).trans HX.out)
  have HFX := Aside0.mk (Kd.F_below HF2.out HB4.out)
  have HB24 := Aside0.mk (hbT HB2.out HB4.out)
  have HB04 := Aside0.mk (hbT HB.out HB24.out)
  have s0 := sg_cell ((HB24.out.block _ (blk_lt HS.out)).trans HS.out)
  obtain ⟨t0, t1, t2⟩ := tm_cells ((HB24.out.block _ (blk_lt HT.out)).trans HT.out)
  obtain ⟨u0, u1, u2⟩ := tm_cells ((HB24.out.block _ (blk_lt HV.out)).trans HV.out)
  have k0 := fun (w' : World) (h : Below w4.heap.size w4 w') => oldc h s0
  have k1 := fun (w' : World) (h : Below w4.heap.size w4 w') => oldc h t0
  have k2 := fun (w' : World) (h : Below w4.heap.size w4 w') => oldc h t1
  have k3 := fun (w' : World) (h : Below w4.heap.size w4 w') => oldc h t2
  have k4 := fun (w' : World) (h : Below w4.heap.size w4 w') => oldc h u0
  have k5 := fun (w' : World) (h : Below w4.heap.size w4 w') => oldc h u1
  have k6 := fun (w' : World) (h : Below w4.heap.size w4 w') => oldc h u2
  clear s0 t0 t1 t2 u0 u1 u2
  refine cut_T (fun (b1 b2 : Nat) (w8 : World) => Below w4.heap.size w4 w8) ?T ?main ?key
  case main =>
    intro key
    refine hd_region 11 0 (fun w' => Below w4.heap.size w4 w') (by kernel_rfl) rfl ?_ (fun _ h => h)
    intro W5 hb5 hz5 hHeld
    clear hb5 hz5
    (refine hd_take (i := 0) (oi := ?oi3) (v := ?v3) ?hi3 (by kernel_rfl) (by kernel_rfl) (by kernel_rfl) (by kernel_rfl) (by decide) ?hq3 ?hw3 ?hy3 hHeld ?hr3; (case hi3 => (simp only [List.getElem?_toArray, List.getElem?_cons_succ, List.getElem?_cons_zero]; rfl)); (case hw3 => rfl); (case hy3 => (intro w hSw; go_simp; try with_reducible rfl)); (case hq3 => exact fun _ _ _ h => h); simp only [Act.put, List.setIfInBounds_toArray, List.set_cons_zero, List.set_cons_succ])
    (refine hd_take (i := 1) (oi := ?oi5) (v := ?v5) ?hi5 (by kernel_rfl) (by kernel_rfl) (by kernel_rfl) (by kernel_rfl) (by decide) ?hq5 ?hw5 ?hy5 hHeld ?hr5; (case hi5 => (simp only [List.getElem?_toArray, List.getElem?_cons_succ, List.getElem?_cons_zero]; rfl)); (case hw5 => rfl); (case hy5 => (intro w hSw; go_simp; try with_reducible rfl)); (case hq5 => exact fun _ _ _ h => h); simp only [Act.put, List.setIfInBounds_toArray, List.set_cons_zero, List.set_cons_succ])
    (refine hd_take (i := 4) (oi := ?oi7) (v := ?v7) ?hi7 (by kernel_rfl) (by kernel_rfl) (by kernel_rfl) (by kernel_rfl) (by decide) ?hq7 ?hw7 ?hy7 hHeld ?hr7; (case hi7 => (simp only [List.getElem?_toArray, List.getElem?_cons_succ, List.getElem?_cons_zero]; rfl)); (case hw7 => rfl); (case hy7 => (intro w hSw; go_simp; try with_reducible rfl)); (case hq7 => exact fun _ _ _ h => h); simp only [Act.put, List.setIfInBounds_toArray, List.set_cons_zero, List.set_cons_succ])
    (refine hd_take (i := 5) (oi := ?oi9) (v := ?v9) ?hi9 (by kernel_rfl) (by kernel_rfl) (by kernel_rfl) (by kernel_rfl) (by decide) ?hq9 ?hw9 ?hy9 hHeld ?hr9; (case hi9 => (simp only [List.getElem?_toArray, List.getElem?_cons_succ, List.getElem?_cons_zero]; rfl)); (case hw9 => rfl); (case hy9 => (intro w hSw; go_simp; try with_reducible rfl)); (case hq9 => exact fun _ _ _ h => h); simp only [Act.put, List.setIfInBounds_toArray, List.set_cons_zero, List.set_cons_succ])
    (refine hd_take (i := 6) (oi := ?oi11) (v := ?v11) ?hi11 (by kernel_rfl) (by kernel_rfl) (by kernel_rfl) (by kernel_rfl) (by decide) ?hq11 ?hw11 ?hy11 hHeld ?hr11; (case hi11 => (simp only [List.getElem?_toArray, List.getElem?_cons_succ, List.getElem?_cons_zero]; rfl)); (case hw11 => rfl); (case hy11 => (intro w hSw; go_simp; try with_reducible rfl)); (case hq11 => exact fun _ _ _ h => h); simp only [Act.put, List.setIfInBounds_toArray, List.set_cons_zero, List.set_cons_succ])
    refine hd_two (i := 2) (j := 7) (oi := ?oiA) (oj := ?ojA) ?hiA ?hjA (by kernel_rfl) (by decide) (by decide) ?haA ?hbA
    case hiA => (simp only [List.getElem?_toArray, List.getElem?_cons_succ, List.getElem?_cons_zero]; rfl)
    case hjA => (simp only [List.getElem?_toArray, List.getElem?_cons_succ, List.getElem?_cons_zero]; rfl)
    case haA =>
      intro K hK
      go_simp
      (refine hK.out _ _ ?hS15 (fun hHeld => ?hr15); (case hS15 => exact below_alloc hHeld _); clear hK K; try simp only [Act.put, List.setIfInBounds_toArray, List.set_cons_zero, List.set_cons_succ])
      have N1 := Aside0.mk (heap_alloc_new W5 (.cells #[.int .i64 t.f0, .int .i64 t.f1, .slice A t.f2.length c] 46))
      refine hd_two (i := 3) (j := 7) (oi := ?oiB) (oj := ?ojB) ?hiB ?hjB (by kernel_rfl) (by decide) (by decide) ?haB ?hbB
      case hiB => (simp only [List.getElem?_toArray, List.getElem?_cons_succ, List.getElem?_cons_zero]; rfl)
      case hjB => (simp only [List.getElem?_toArray, List.getElem?_cons_succ, List.getElem?_cons_zero]; rfl)
      case haB =>
        intro K hK
        go_simp
        go_at_call 38
        refine (checkTerms_any g Ag cg [t] _ _ _ _ (Kd.C_below HG.out (hbT HB04.out hHeld)) (F_lit1 N1.out (Kd.F_below HF.out (hbT HB04.out hHeld)) hc)).mono ?_
        rintro e w6 ⟨rfl, hbw6⟩
        go_simp
        (refine hK.out _ _ ?hS18 (fun hHeld => ?hr18); (case hS18 => exact hbT hHeld hbw6); clear hK K; try simp only [Act.put, List.setIfInBounds_toArray, List.set_cons_zero, List.set_cons_succ])
        (refine hd_one (i := 7) (oi := ?oi19) ?hi19 (by kernel_rfl) (by decide) ?hr19; (case hi19 => (simp only [List.getElem?_toArray, List.getElem?_cons_succ, List.getElem?_cons_zero]; rfl)); intro K hK)
        go_simp
        (refine hK.out _ _ ?hS21 (fun hHeld => ?hr21); (case hS21 => exact below_alloc hHeld _); clear hK K; try simp only [Act.put, List.setIfInBounds_toArray, List.set_cons_zero, List.set_cons_succ])
        have N2 := Aside0.mk (heap_alloc_new w6 (.cells #[.int .i64 t.f0, .int .i64 t.f1, .slice A t.f2.length c, .int .i64 u.f0, .int .i64 u.f1, .slice B u.f2.length d] 46))
        (refine hd_one (i := 8) (oi := ?oi22) ?hi22 (by kernel_rfl) (by decide) ?hr22; (case hi22 => (simp only [List.getElem?_toArray, List.getElem?_cons_succ, List.getElem?_cons_zero]; rfl)); intro K hK)
        go_simp
        go_at_call 38
        refine (checkTerms_any g Ag cg [t, u] _ _ _ _ (Kd.C_below HG.out (hbT HB04.out hHeld)) (F_lit2 N2.out (Kd.F_below HF.out (hbT HB04.out hHeld)) hc (Kd.F_below HU.out (hbT HB04.out hHeld)) hd)).mono ?_
        rintro e w8 ⟨rfl, hbw8⟩
        go_simp
        (refine hK.out _ _ ?hS24 (fun hHeld => ?hr24); (case hS24 => exact hbT hHeld hbw8); clear hK K; try simp only [Act.put, List.setIfInBounds_toArray, List.set_cons_zero, List.set_cons_succ])
        (refine hd_one (i := 9) (oi := ?oi25) ?hi25 (by kernel_rfl) (by decide) ?hr25; (case hi25 => (simp only [List.getElem?_toArray, List.getElem?_cons_succ, List.getElem?_cons_zero]; rfl)); intro K hK)
        go_simp
        (refine hK.out _ _ ?hS27 (fun hHeld => ?hr27); (case hS27 => exact hHeld); clear hK K; try simp only [Act.put, List.setIfInBounds_toArray, List.set_cons_zero, List.set_cons_succ])
        (refine hd_one (i := 10) (oi := ?oi28) ?hi28 (by kernel_rfl) (by decide) ?hr28; (case hi28 => (simp only [List.getElem?_toArray, List.getElem?_cons_succ, List.getElem?_cons_zero]; rfl)); intro K hK)
        go_simp
        (refine hK.out _ _ ?hS30 (fun hHeld => ?hr30); (case hS30 => exact hHeld); clear hK K; try simp only [Act.put, List.setIfInBounds_toArray, List.set_cons_zero, List.set_cons_succ])
        (refine hd_done (by kernel_rfl) ?_; simp only [List.drop_succ_cons, List.drop_zero])
        have hEnd := hHeld
        clear hHeld
        generalize W5.heap.size = x1
        generalize w6.heap.size = x2
        refine use_T (key x1 x2 w8 hEnd) ?_
        rfl
      case hbB =>
        intro K hK
        go_simp
        (refine hK.out _ _ ?hS32 (fun hHeld => ?hr32); (case hS32 => exact below_alloc hHeld _); clear hK K; try simp only [Act.put, List.setIfInBounds_toArray, List.set_cons_zero, List.set_cons_succ])
        have N2 := Aside0.mk (newAt (w := (W5.alloc (.cells #[.int .i64 t.f0, .int .i64 t.f1, .slice A t.f2.length c] 46))) (o := .cells #[.int .i64 t.f0, .int .i64 t.f1, .slice A t.f2.length c, .int .i64 u.f0, .int .i64 u.f1, .slice B u.f2.length d] 46) (k := W5.heap.size + 1) (by simp))
        have M1 := Aside0.mk (blk_alloc N1.out (.cells #[.int .i64 t.f0, .int .i64 t.f1, .slice A t.f2.length c, .int .i64 u.f0, .int .i64 u.f1, .slice B u.f2.length d] 46))
        (refine hd_one (i := 3) (oi := ?oi33) ?hi33 (by kernel_rfl) (by decide) ?hr33; (case hi33 => (simp only [List.getElem?_toArray, List.getElem?_cons_succ, List.getElem?_cons_zero]; rfl)); intro K hK)
        go_simp
        go_at_call 38
        refine (checkTerms_any g Ag cg [t] _ _ _ _ (Kd.C_below HG.out (hbT HB04.out hHeld)) (F_lit1 M1.out (Kd.F_below HF.out (hbT HB04.out hHeld)) hc)).mono ?_
        rintro e w6 ⟨rfl, hbw6⟩
        go_simp
        (refine hK.out _ _ ?hS35 (fun hHeld => ?hr35); (case hS35 => exact hbT hHeld hbw6); clear hK K; try simp only [Act.put, List.setIfInBounds_toArray, List.set_cons_zero, List.set_cons_succ])
        have M2 := Aside0.mk ((hbw6.block _ (blk_lt N2.out)).trans N2.out)
        (refine hd_one (i := 8) (oi := ?oi36) ?hi36 (by kernel_rfl) (by decide) ?hr36; (case hi36 => (simp only [List.getElem?_toArray, List.getElem?_cons_succ, List.getElem?_cons_zero]; rfl)); intro K hK)
        go_simp
        go_at_call 38
        refine (checkTerms_any g Ag cg [t, u] _ _ _ _ (Kd.C_below HG.out (hbT HB04.out hHeld)) (F_lit2 M2.out (Kd.F_below HF.out (hbT HB04.out hHeld)) hc (Kd.F_below HU.out (hbT HB04.out hHeld)) hd)).mono ?_
        rintro e w8 ⟨rfl, hbw8⟩
        go_simp
        (refine hK.out _ _ ?hS38 (fun hHeld => ?hr38); (case hS38 => exact hbT hHeld hbw8); clear hK K; try simp only [Act.put, List.setIfInBounds_toArray, List.set_cons_zero, List.set_cons_succ])
        (refine hd_one (i := 9) (oi := ?oi39) ?hi39 (by kernel_rfl) (by decide) ?hr39; (case hi39 => (simp only [List.getElem?_toArray, List.getElem?_cons_succ, List.getElem?_cons_zero]; rfl)); intro K hK)
        go_simp
        (refine hK.out _ _ ?hS41 (fun hHeld => ?hr41); (case hS41 => exact hHeld); clear hK K; try simp only [Act.put, List.setIfInBounds_toArray, List.set_cons_zero, List.set_cons_succ])
        (refine hd_one (i := 10) (oi := ?oi42) ?hi42 (by kernel_rfl) (by decide) ?hr42; (case hi42 => (simp only [List.getElem?_toArray, List.getElem?_cons_succ, List.getElem?_cons_zero]; rfl)); intro K hK)
        go_simp
        (refine hK.out _ _ ?hS44 (fun hHeld => ?hr44); (case hS44 => exact hHeld); clear hK K; try simp only [Act.put, List.setIfInBounds_toArray, List.set_cons_zero, List.set_cons_succ])
        (refine hd_done (by kernel_rfl) ?_; simp only [List.drop_succ_cons, List.drop_zero])
        have hEnd := hHeld
        clear hHeld
        refine use_T (key (W5.heap.size) (W5.heap.size + 1) w8 hEnd) ?_
        rfl
    case hbA =>
      intro K hK
      go_simp
      (refine hK.out _ _ ?hS46 (fun hHeld => ?hr46); (case hS46 => exact below_alloc hHeld _); clear hK K; try simp only [Act.put, List.setIfInBounds_toArray, List.set_cons_zero, List.set_cons_succ])
      have N2 := Aside0.mk (heap_alloc_new W5 (.cells #[.int .i64 t.f0, .int .i64 t.f1, .slice A t.f2.length c, .int .i64 u.f0, .int .i64 u.f1, .slice B u.f2.length d] 46))
      (refine hd_one (i := 2) (oi := ?oi47) ?hi47 (by kernel_rfl) (by decide) ?hr47; (case hi47 => (simp only [List.getElem?_toArray, List.getElem?_cons_succ, List.getElem?_cons_zero]; rfl)); intro K hK)
      go_simp
      (refine hK.out _ _ ?hS49 (fun hHeld => ?hr49); (case hS49 => exact below_alloc hHeld _); clear hK K; try simp only [Act.put, List.setIfInBounds_toArray, List.set_cons_zero, List.set_cons_succ])
      have N1 := Aside0.mk (newAt (w := (W5.alloc (.cells #[.int .i64 t.f0, .int .i64 t.f1, .slice A t.f2.length c, .int .i64 u.f0, .int .i64 u.f1, .slice B u.f2.length d] 46))) (o := .cells #[.int .i64 t.f0, .int .i64 t.f1, .slice A t.f2.length c] 46) (k := W5.heap.size + 1) (by simp))
      have M2 := Aside0.mk (blk_alloc N2.out (.cells #[.int .i64 t.f0, .int .i64 t.f1, .slice A t.f2.length c] 46))
      (refine hd_one (i := 3) (oi := ?oi50) ?hi50 (by kernel_rfl) (by decide) ?hr50; (case hi50 => (simp only [List.getElem?_toArray, List.getElem?_cons_succ, List.getElem?_cons_zero]; rfl)); intro K hK)
      go_simp
      go_at_call 38
      refine (checkTerms_any g Ag cg [t] _ _ _ _ (Kd.C_below HG.out (hbT HB04.out hHeld)) (F_lit1 N1.out (Kd.F_below HF.out (hbT HB04.out hHeld)) hc)).mono ?_
      rintro e w6 ⟨rfl, hbw6⟩
      go_simp
      (refine hK.out _ _ ?hS52 (fun hHeld => ?hr52); (case hS52 => exact hbT hHeld hbw6); clear hK K; try simp only [Act.put, List.setIfInBounds_toArray, List.set_cons_zero, List.set_cons_succ])
      have L2 := Aside0.mk ((hbw6.block _ (blk_lt M2.out)).trans M2.out)
      (refine hd_one (i := 8) (oi := ?oi53) ?hi53 (by kernel_rfl) (by decide) ?hr53; (case hi53 => (simp only [List.getElem?_toArray, List.getElem?_cons_succ, List.getElem?_cons_zero]; rfl)); intro K hK)
      go_simp
      go_at_call 38
      refine (checkTerms_any g Ag cg [t, u] _ _ _ _ (Kd.C_below HG.out (hbT HB04.out hHeld)) (F_lit2 L2.out (Kd.F_below HF.out (hbT HB04.out hHeld)) hc (Kd.F_below HU.out (hbT HB04.out hHeld)) hd)).mono ?_
      rintro e w8 ⟨rfl, hbw8⟩
      go_simp
      (refine hK.out _ _ ?hS55 (fun hHeld => ?hr55); (case hS55 => exact hbT hHeld hbw8); clear hK K; try simp only [Act.put, List.setIfInBounds_toArray, List.set_cons_zero, List.set_cons_succ])
      (refine hd_one (i := 9) (oi := ?oi56) ?hi56 (by kernel_rfl) (by decide) ?hr56; (case hi56 => (simp only [List.getElem?_toArray, List.getElem?_cons_succ, List.getElem?_cons_zero]; rfl)); intro K hK)
      go_simp
      (refine hK.out _ _ ?hS58 (fun hHeld => ?hr58); (case hS58 => exact hHeld); clear hK K; try simp only [Act.put, List.setIfInBounds_toArray, List.set_cons_zero, List.set_cons_succ])
      (refine hd_one (i := 10) (oi := ?oi59) ?hi59 (by kernel_rfl) (by decide) ?hr59; (case hi59 => (simp only [List.getElem?_toArray, List.getElem?_cons_succ, List.getElem?_cons_zero]; rfl)); intro K hK)
      go_simp
      (refine hK.out _ _ ?hS61 (fun hHeld => ?hr61); (case hS61 => exact hHeld); clear hK K; try simp only [Act.put, List.setIfInBounds_toArray, List.set_cons_zero, List.set_cons_succ])
      (refine hd_done (by kernel_rfl) ?_; simp only [List.drop_succ_cons, List.drop_zero])
      have hEnd := hHeld
      clear hHeld
      refine use_T (key (W5.heap.size + 1) (W5.heap.size) w8 hEnd) ?_
      rfl
  case key =>
    intro b1 b2 w8 hB8
    have HB8 := Aside0.mk hB8
    have hz48 := hB8.size
    clear hB8 k0 k1 k2 k3 k4 k5 k6
    have gA := blk_alloc (newAt (w := w8) (o := .cells #[.int .i64 0, .int .i64 0, .slice none 0 0] 46) rfl) (.cells #[.int .i64 0, .int .i64 0, .slice none 0 0] 46)
    have gP := newAt (w := w8.alloc (.cells #[.int .i64 0, .int .i64 0, .slice none 0 0] 46)) (o := .cells #[.int .i64 0, .int .i64 0, .slice none 0 0] 46) (k := w8.heap.size + 1) (by simp)
    have HB9 := Aside0.mk (hbT HB8.out (below_alloc (below_alloc (Below.refl w8.heap.size w8) (.cells #[.int .i64 0, .int .i64 0, .slice none 0 0] 46)) (.cells #[.int .i64 0, .int .i64 0, .slice none 0 0] 46)))
    have hz4 := HB04.out.size
    go_upto_region 5 with (fail)
    generalize hW9 : (w8.alloc (.cells #[.int .i64 0, .int .i64 0, .slice none 0 0] 46)).alloc (.cells #[.int .i64 0, .int .i64 0, .slice none 0 0] 46) = W9 at *
    have hz9 : W9.heap.size = w8.heap.size + 2 := by rw [← hW9]; simp
    clear hW9
    have GA := Aside0.mk gA
    have GP := Aside0.mk gP
    have HZ9 := Aside0.mk hz9
    clear gA gP hz9
    by_cases hv : chkTs g [t] = 0
    · have hve := beqT hv
      have hvn := bneF hv
      obtain ⟨t0, t1, t2⟩ := tm_cells (((hbT HB24.out HB9.out).block _ (blk_lt HT.out)).trans HT.out)
      have HB09 := Aside0.mk (hbT HB04.out HB9.out)
      have HV0 := Aside0.mk hv
      clear hv
      go_upto_region 7 with (first | (go_at_call 49; refine (atOf_any p t A c Ap cp _ W9 (Kd.F_below HF.out HB09.out) hc (Kd.C_below HP.out HB09.out) HPC.out).mono ?_; rintro e w10 ⟨A10, c10, rfl, h10, hF10, hb10⟩; have HF10 := Aside0.mk hF10; have HB10 := Aside0.mk hb10; clear hF10 hb10) | (((with_reducible refine gate_store (t := 46) (p := 17) rfl ?_); refine st_tm 17 rfl rfl rfl rfl rfl (heap_alloc_new _ _) ?_); intro w11 hs11 hG11 hz11; have HZ := Aside0.mk hs11; have HB1011 := Aside0.mk (gbS (below_alloc (Below.refl w10.heap.size w10) _) hG11 (Nat.le_refl _)); clear hs11 hG11 hz11))
      clear t0 t1 t2
      have HF11 := Aside0.mk (Kd.F_below HF10.out HB1011.out)
      have HB911 := Aside0.mk (hbT HB10.out HB1011.out)
      have hzz := HB911.out.size
      have HB11 := Aside0.mk (hbT HB9.out HB911.out)
      have GA11 := Aside0.mk ((HB911.out.block _ (blk_lt GA.out)).trans GA.out)
      have GP11 := Aside0.mk ((HB911.out.block _ (blk_lt GP.out)).trans GP.out)
      obtain ⟨z0, z1, z2⟩ := tm_cells HZ.out
      clear HF10 HZ HB1011 HB10
      have STEP : ∀ (w12 : World), w11.grownBy w12 (some w8.heap.size) → Below w4.heap.size w4 w12 ∧ w12.heap[w8.heap.size + 1]? = some (.cells #[.int .i64 0, .int .i64 0, .slice none 0 0] 46 (0, 0)) ∧ Kd.F kTm w12 (fun k => ok k ∧ k < w.heap.size) A10 (atT t p).f2.length (atT t p).f2 := fun w12 hg => ⟨gbS HB11.out hg hz48, (hg.block _ (blk_lt GP11.out) (by intro e; injection e with e; omega)).trans GP11.out, Kd.F_grown HF11.out hg (fun k hk => by intro e; injection e with e; have := hk.2; omega)⟩
      have STEP := Aside0.mk STEP
      by_cases hb : atB t p = true
      · rw [hb]
        have HAB := Aside0.mk hb
        clear hb
        go_upto_region 10 with (((with_reducible refine gate_store (t := 46) (p := 15) rfl ?_); refine st_tm 15 rfl rfl rfl rfl rfl GA11.out ?_); intro w12 hs12 hG12 hz12; have HA12 := Aside0.mk hs12; have HS12 := Aside0.mk (STEP.out w12 hG12); clear hs12 hG12 hz12 z0 z1 z2)
        have HB12 := Aside0.mk HS12.out.1
        have GP12 := Aside0.mk HS12.out.2.1
        have HF12 := Aside0.mk HS12.out.2.2
        have he1 : Aside0 (atE g t p = chkTs g [t]) := ⟨by unfold atE; rw [if_neg (by simp [HV0.out]), if_pos HAB.out, HV0.out]⟩
        have hv1 : Aside0 (atR g t p = if chkTs g [t] ≠ 0 then zTm else atT t p) := ⟨rfl⟩
        by_cases hw : chkTs g [t, u] = 0
        · have hwe := beqT hw
          have hwn := bneF hw
          have HW0 := Aside0.mk hw
          clear hw
          obtain ⟨t0, t1, t2⟩ := tm_cells (((hbT HB24.out HB12.out).block _ (blk_lt HT.out)).trans HT.out)
          obtain ⟨u0, u1, u2⟩ := tm_cells (((hbT HB24.out HB12.out).block _ (blk_lt HV.out)).trans HV.out)
          have HB012 := Aside0.mk (hbT HB04.out HB12.out)
          have hz12 := HB12.out.size
          have hl12 := blk_lt GP12.out
          have hSZ : Aside0 (szT t * 40 ≤ 140737488355328) := ⟨by have := ((chkTs_ok HW0.out).2 t (by simp)).1; omega⟩
          go_upto_region 14 with (first | (go_at_call 50; refine (putOf_any p t u A B c d Ap cp (fun k => ok k ∧ k < w.heap.size) w12 HAB.out hSZ.out (Kd.F_below HF.out HB012.out) hc (Kd.F_below HU.out HB012.out) hd (Kd.C_below HP.out HB012.out) HPC.out).mono ?_; rintro e w13 ⟨A13, c13, rfl, h13, hF13, hb13⟩; have HF13 := Aside0.mk hF13; have HB13 := Aside0.mk hb13; clear hF13 hb13) | (((with_reducible refine gate_store (t := 46) (p := 16) rfl ?_); refine st_tm 16 rfl rfl rfl rfl rfl ((HB13.out.block _ (blk_lt GP12.out)).trans GP12.out) ?_); intro w14 hs14 hG14 hz14; have HP14 := Aside0.mk hs14; have HG14 := Aside0.mk hG14; clear hs14 hG14 hz14))
          clear t0 t1 t2 u0 u1 u2
          have hz13 := HB13.out.size
          have HB14 := Aside0.mk (gbS (hbT HB12.out HB13.out) HG14.out (by omega))
          have HF14 := Aside0.mk (Kd.F_grown HF13.out HG14.out (fun k hk => by intro e; injection e with e; rcases hk with hk | hk; have := hk.2; omega; omega))
          have HA14 := Aside0.mk ((HG14.out.block _ (by have := blk_lt HA12.out; omega) (by intro e; injection e with e; omega)).trans ((HB13.out.block _ (blk_lt HA12.out)).trans HA12.out))
          have HFA14 := Aside0.mk (Kd.F_grown (Kd.F_below HF12.out HB13.out) HG14.out (fun k hk => by intro e; injection e with e; have := hk.2; omega))
          obtain ⟨q0, q1, q2⟩ := tm_cells HP14.out
          by_cases hs : 120 < szT (putP t p u)
          · have HS2 : Aside0 (min (szT (putP t p u) : Int) (120 + 1) = 121) := ⟨by omega⟩
            have he2 : Aside0 (putE g t u p = 2) := ⟨by unfold putE; rw [if_neg (by simp [HW0.out]), if_pos HAB.out, if_pos hs]⟩
            clear hs
            go_upto_region 16 with (go_at_call 39; refine (sizeOf_any (szT (putP t p u)) (putP t p u) A13 c13 w14 120 (Nat.le_refl _) (Kd.F_now HF14.out) (by omega) (by omega)).mono ?_; rintro e w15 ⟨rfl, hb15⟩; have HB15 := Aside0.mk hb15; clear hb15 q0 q1 q2; simp only [HS2.out])
            go_wp2_with (fail)
            refine (termBegun_any _).mono ?_
            rintro e w17 ⟨rfl, hb17⟩
            have HB17 := Aside0.mk (hbT (hbT HB14.out HB15.out) hb17)
            have H17 := Aside0.mk hb17
            clear hb17
            obtain ⟨x0, x1, x2⟩ := tm_cells ((HB17.out.block _ (blk_lt HX4.out)).trans HX4.out)
            obtain ⟨a0, a1, a2⟩ := tm_cells ((H17.out.block _ (blk_lt ((HB15.out.block _ (blk_lt HA14.out)).trans HA14.out))).trans ((HB15.out.block _ (blk_lt HA14.out)).trans HA14.out))
            go_wp2_with (fail)
            refine (termIs_any (atR g t p) (atT t p) A1 A10 c1 c10 _ _ _ _ w17 (Kd.F_below HFX.out HB17.out) h1 (Kd.F_below (Kd.F_below HFA14.out HB15.out) H17.out) h10 he1.out hv1.out).mono ?_
            rintro e w18 ⟨rfl, hb18⟩
            have HB18 := Aside0.mk (hbT HB17.out hb18)
            have H18 := Aside0.mk (hbT H17.out hb18)
            clear hb18 x0 x1 x2 a0 a1 a2
            obtain ⟨y0, y1, y2⟩ := tm_cells ((HB18.out.block _ (blk_lt HY.out)).trans HY.out)
            obtain ⟨q0, q1, q2⟩ := tm_cells ((H18.out.block _ (blk_lt ((HB15.out.block _ (blk_lt HP14.out)).trans HP14.out))).trans ((HB15.out.block _ (blk_lt HP14.out)).trans HP14.out))
            go_wp2_with (fail)
            refine (termIs_any (putR g t u p) (putP t p u) A3 A13 c3 c13 _ _ _ _ w18 (Kd.F_below HF4.out HB18.out) h3 (Kd.F_below (Kd.F_below HF14.out HB15.out) H18.out) h13 he2.out (by unfold putR; rw [he2.out])).mono ?_
            rintro e w19 ⟨rfl, hb19⟩
            clear y0 y1 y2 q0 q1 q2
            go_wp2
            go_ret
            exact ⟨rfl, hbT HB04.out (hbT HB18.out hb19)⟩
          · have HS2 : Aside0 (min (szT (putP t p u) : Int) (120 + 1) = szT (putP t p u)) := ⟨by omega⟩
            have hs2 : (szT (putP t p u) : Int) ≤ 120 := by omega
            have he2 : Aside0 (putE g t u p = chkTs g [t, u]) := ⟨by unfold putE; rw [if_neg (by simp [HW0.out]), if_pos HAB.out, if_neg hs, HW0.out]⟩
            clear hs
            go_upto_region 16 with (go_at_call 39; refine (sizeOf_any (szT (putP t p u)) (putP t p u) A13 c13 w14 120 (Nat.le_refl _) (Kd.F_now HF14.out) (by omega) (by omega)).mono ?_; rintro e w15 ⟨rfl, hb15⟩; have HB15 := Aside0.mk hb15; clear hb15 q0 q1 q2; simp only [HS2.out])
            go_wp2_with (fail)
            refine (termBegun_any _).mono ?_
            rintro e w17 ⟨rfl, hb17⟩
            have HB17 := Aside0.mk (hbT (hbT HB14.out HB15.out) hb17)
            have H17 := Aside0.mk hb17
            clear hb17
            obtain ⟨x0, x1, x2⟩ := tm_cells ((HB17.out.block _ (blk_lt HX4.out)).trans HX4.out)
            obtain ⟨a0, a1, a2⟩ := tm_cells ((H17.out.block _ (blk_lt ((HB15.out.block _ (blk_lt HA14.out)).trans HA14.out))).trans ((HB15.out.block _ (blk_lt HA14.out)).trans HA14.out))
            go_wp2_with (fail)
            refine (termIs_any (atR g t p) (atT t p) A1 A10 c1 c10 _ _ _ _ w17 (Kd.F_below HFX.out HB17.out) h1 (Kd.F_below (Kd.F_below HFA14.out HB15.out) H17.out) h10 he1.out hv1.out).mono ?_
            rintro e w18 ⟨rfl, hb18⟩
            have HB18 := Aside0.mk (hbT HB17.out hb18)
            have H18 := Aside0.mk (hbT H17.out hb18)
            clear hb18 x0 x1 x2 a0 a1 a2
            obtain ⟨y0, y1, y2⟩ := tm_cells ((HB18.out.block _ (blk_lt HY.out)).trans HY.out)
            obtain ⟨q0, q1, q2⟩ := tm_cells ((H18.out.block _ (blk_lt ((HB15.out.block _ (blk_lt HP14.out)).trans HP14.out))).trans ((HB15.out.block _ (blk_lt HP14.out)).trans HP14.out))
            go_wp2_with (fail)
            refine (termIs_any (putR g t u p) (putP t p u) A3 A13 c3 c13 _ _ _ _ w18 (Kd.F_below HF4.out HB18.out) h3 (Kd.F_below (Kd.F_below HF14.out HB15.out) H18.out) h13 he2.out (by unfold putR; rw [he2.out])).mono ?_
            rintro e w19 ⟨rfl, hb19⟩
            clear y0 y1 y2 q0 q1 q2
            go_wp2
            go_ret
            exact ⟨rfl, hbT HB04.out (hbT HB18.out hb19)⟩
        · have hwe := beqF hw
          have hwn := bneT hw
          have HW0 := Aside0.mk hw
          have he2 : Aside0 (putE g t u p = chkTs g [t, u]) := ⟨by unfold putE; rw [if_pos hw]⟩
          clear hw
          go_upto_region 16 with (fail)
          go_wp2_with (fail)
          refine (termBegun_any _).mono ?_
          rintro e w17 ⟨rfl, hb17⟩
          have HB17 := Aside0.mk (hbT HB12.out hb17)
          have H17 := Aside0.mk hb17
          clear hb17
          obtain ⟨x0, x1, x2⟩ := tm_cells ((HB17.out.block _ (blk_lt HX4.out)).trans HX4.out)
          obtain ⟨a0, a1, a2⟩ := tm_cells ((H17.out.block _ (blk_lt HA12.out)).trans HA12.out)
          go_wp2_with (fail)
          refine (termIs_any (atR g t p) (atT t p) A1 A10 c1 c10 _ _ _ _ w17 (Kd.F_below HFX.out HB17.out) h1 (Kd.F_below HF12.out H17.out) h10 he1.out hv1.out).mono ?_
          rintro e w18 ⟨rfl, hb18⟩
          have HB18 := Aside0.mk (hbT HB17.out hb18)
          have H18 := Aside0.mk (hbT H17.out hb18)
          clear hb18 x0 x1 x2 a0 a1 a2
          obtain ⟨y0, y1, y2⟩ := tm_cells ((HB18.out.block _ (blk_lt HY.out)).trans HY.out)
          obtain ⟨q0, q1, q2⟩ := tm_cells ((H18.out.block _ (blk_lt GP12.out)).trans GP12.out)
          go_wp2_with (fail)
          refine (termIs_any (putR g t u p) zTm A3 none c3 0 _ _ _ _ w18 (Kd.F_below HF4.out HB18.out) h3 (Kd.F_below (F_none w12 (fun _ => True)) H18.out) (Nat.le_refl _) he2.out (by unfold putR; rw [he2.out, if_pos HW0.out]; simp)).mono ?_
          rintro e w19 ⟨rfl, hb19⟩
          clear y0 y1 y2 q0 q1 q2
          go_wp2
          go_ret
          exact ⟨rfl, hbT HB04.out (hbT HB18.out hb19)⟩
      · have hbf : atB t p = false := by simpa using hb
        rw [hbf]
        have HAB := Aside0.mk hbf
        clear hb hbf
        have he1 : Aside0 (atE g t p = 5) := ⟨by unfold atE; rw [if_neg (by simp [HV0.out]), if_neg (by simp [HAB.out])]⟩
        have hv1 : Aside0 (atR g t p = if (5 : Int) ≠ 0 then zTm else atT t p) := ⟨by unfold atR; rw [if_neg (by simp [HV0.out]), atT_none HAB.out]; simp⟩
        go_upto_region 10 with (((with_reducible refine gate_store (t := 46) (p := 15) rfl ?_); refine st_tm 15 rfl rfl rfl rfl rfl GA11.out ?_); intro w12 hs12 hG12 hz12; have HA12 := Aside0.mk hs12; have HS12 := Aside0.mk (STEP.out w12 hG12); clear hs12 hG12 hz12 z0 z1 z2)
        have HB12 := Aside0.mk HS12.out.1
        have GP12 := Aside0.mk HS12.out.2.1
        have HF12 := Aside0.mk HS12.out.2.2
        by_cases hw : chkTs g [t, u] = 0
        · have hwe := beqT hw
          have hwn := bneF hw
          have he2 : Aside0 (putE g t u p = 5) := ⟨by unfold putE; rw [if_neg (by simp [hw]), if_neg (by simp [HAB.out])]⟩
          clear hw
          go_upto_region 16 with (fail)
          go_wp2_with (fail)
          refine (termBegun_any _).mono ?_
          rintro e w17 ⟨rfl, hb17⟩
          have HB17 := Aside0.mk (hbT HB12.out hb17)
          have H17 := Aside0.mk hb17
          clear hb17
          obtain ⟨x0, x1, x2⟩ := tm_cells ((HB17.out.block _ (blk_lt HX4.out)).trans HX4.out)
          obtain ⟨a0, a1, a2⟩ := tm_cells ((H17.out.block _ (blk_lt HA12.out)).trans HA12.out)
          go_wp2_with (fail)
          refine (termIs_any (atR g t p) (atT t p) A1 A10 c1 c10 _ _ _ _ w17 (Kd.F_below HFX.out HB17.out) h1 (Kd.F_below HF12.out H17.out) h10 he1.out hv1.out).mono ?_
          rintro e w18 ⟨rfl, hb18⟩
          have HB18 := Aside0.mk (hbT HB17.out hb18)
          have H18 := Aside0.mk (hbT H17.out hb18)
          clear hb18 x0 x1 x2 a0 a1 a2
          obtain ⟨y0, y1, y2⟩ := tm_cells ((HB18.out.block _ (blk_lt HY.out)).trans HY.out)
          obtain ⟨q0, q1, q2⟩ := tm_cells ((H18.out.block _ (blk_lt GP12.out)).trans GP12.out)
          go_wp2_with (fail)
          refine (termIs_any (putR g t u p) zTm A3 none c3 0 _ _ _ _ w18 (Kd.F_below HF4.out HB18.out) h3 (Kd.F_below (F_none w12 (fun _ => True)) H18.out) (Nat.le_refl _) he2.out (by unfold putR; rw [he2.out]; simp)).mono ?_
          rintro e w19 ⟨rfl, hb19⟩
          clear y0 y1 y2 q0 q1 q2
          go_wp2
          go_ret
          exact ⟨rfl, hbT HB04.out (hbT HB18.out hb19)⟩
        · have hwe := beqF hw
          have hwn := bneT hw
          have HW0 := Aside0.mk hw
          have he2 : Aside0 (putE g t u p = chkTs g [t, u]) := ⟨by unfold putE; rw [if_pos hw]⟩
          clear hw
          go_upto_region 16 with (fail)
          go_wp2_with (fail)
          refine (termBegun_any _).mono ?_
          rintro e w17 ⟨rfl, hb17⟩
          have HB17 := Aside0.mk (hbT HB12.out hb17)
          have H17 := Aside0.mk hb17
          clear hb17
          obtain ⟨x0, x1, x2⟩ := tm_cells ((HB17.out.block _ (blk_lt HX4.out)).trans HX4.out)
          obtain ⟨a0, a1, a2⟩ := tm_cells ((H17.out.block _ (blk_lt HA12.out)).trans HA12.out)
          go_wp2_with (fail)
          refine (termIs_any (atR g t p) (atT t p) A1 A10 c1 c10 _ _ _ _ w17 (Kd.F_below HFX.out HB17.out) h1 (Kd.F_below HF12.out H17.out) h10 he1.out hv1.out).mono ?_
          rintro e w18 ⟨rfl, hb18⟩
          have HB18 := Aside0.mk (hbT HB17.out hb18)
          have H18 := Aside0.mk (hbT H17.out hb18)
          clear hb18 x0 x1 x2 a0 a1 a2
          obtain ⟨y0, y1, y2⟩ := tm_cells ((HB18.out.block _ (blk_lt HY.out)).trans HY.out)
          obtain ⟨q0, q1, q2⟩ := tm_cells ((H18.out.block _ (blk_lt GP12.out)).trans GP12.out)
          go_wp2_with (fail)
          refine (termIs_any (putR g t u p) zTm A3 none c3 0 _ _ _ _ w18 (Kd.F_below HF4.out HB18.out) h3 (Kd.F_below (F_none w12 (fun _ => True)) H18.out) (Nat.le_refl _) he2.out (by unfold putR; rw [he2.out, if_pos HW0.out]; simp)).mono ?_
          rintro e w19 ⟨rfl, hb19⟩
          clear y0 y1 y2 q0 q1 q2
          go_wp2
          go_ret
          exact ⟨rfl, hbT HB04.out (hbT HB18.out hb19)⟩
    · have hve := beqF hv
      have hvn := bneT hv
      have hw : chkTs g [t, u] ≠ 0 := by rw [chkTs_two hv]; exact hv
      have hwe := beqF hw
      have hwn := bneT hw
      have HW0 := Aside0.mk hw
      have he1 : Aside0 (atE g t p = chkTs g [t]) := ⟨by unfold atE; rw [if_pos hv]⟩
      have hv1 : Aside0 (atR g t p = if chkTs g [t] ≠ 0 then zTm else zTm) := ⟨by unfold atR; rw [if_pos hv, if_pos hv]⟩
      have he2 : Aside0 (putE g t u p = chkTs g [t, u]) := ⟨by unfold putE; rw [if_pos hw]⟩
      clear hv hw
      go_upto_region 16 with (fail)
      go_wp2_with (fail)
      refine (termBegun_any _).mono ?_
      rintro e w17 ⟨rfl, hb17⟩
      have HB17 := Aside0.mk (hbT HB9.out hb17)
      have H17 := Aside0.mk hb17
      clear hb17
      obtain ⟨x0, x1, x2⟩ := tm_cells ((HB17.out.block _ (blk_lt HX4.out)).trans HX4.out)
      obtain ⟨a0, a1, a2⟩ := tm_cells ((H17.out.block _ (blk_lt GA.out)).trans GA.out)
      go_wp2_with (fail)
      refine (termIs_any (atR g t p) zTm A1 none c1 0 _ _ _ _ w17 (Kd.F_below HFX.out HB17.out) h1 (Kd.F_below (F_none W9 (fun _ => True)) H17.out) (Nat.le_refl _) he1.out hv1.out).mono ?_
      rintro e w18 ⟨rfl, hb18⟩
      have HB18 := Aside0.mk (hbT HB17.out hb18)
      have H18 := Aside0.mk (hbT H17.out hb18)
      clear hb18 x0 x1 x2 a0 a1 a2
      obtain ⟨y0, y1, y2⟩ := tm_cells ((HB18.out.block _ (blk_lt HY.out)).trans HY.out)
      obtain ⟨q0, q1, q2⟩ := tm_cells ((H18.out.block _ (blk_lt GP.out)).trans GP.out)
      go_wp2_with (fail)
      refine (termIs_any (putR g t u p) zTm A3 none c3 0 _ _ _ _ w18 (Kd.F_below HF4.out HB18.out) h3 (Kd.F_below (F_none W9 (fun _ => True)) H18.out) (Nat.le_refl _) he2.out (by unfold putR; rw [he2.out, if_pos HW0.out]; simp)).mono ?_
      rintro e w19 ⟨rfl, hb19⟩
      clear y0 y1 y2 q0 q1 q2
      go_wp2
      go_ret
      exact ⟨rfl, hbT HB04.out (hbT HB18.out hb19)⟩
end Go.Proofs.Ytcgnpmjkeifokaa
-- KBack
/- Plain laws of what is put at a place. -/
namespace Go.Proofs.Ytcgnpmjkeifokaa
open Go.RowKit Go.Proofs.YtcgnpmjkeifokaaW.PrintWords
set_option linter.unusedVariables false
set_option linter.unusedSimpArgs false

theorem rd_set (l : List Tm) (i : Nat) (r : Tm) (h : i < l.length) : rd_Tm (l.set i r) i = r := by
  rw [rd_get _ _ (by simpa using h)]; simp
theorem rd_set' (l : List Tm) (y : Int) (r : Tm) (h0 : 0 ≤ y) (h1 : y < l.length) : rd_Tm (l.set y.toNat r) y = r := by
  have := rd_set l y.toNat r (by omega)
  rwa [show ((y.toNat : Nat) : Int) = y by omega] at this
theorem set_rd (l : List Tm) (y : Int) (h0 : 0 ≤ y) (h1 : y < l.length) : l.set y.toNat (rd_Tm l y) = l := by
  have := rd_get l y.toNat (by omega)
  rw [show ((y.toNat : Nat) : Int) = y by omega] at this
  rw [this]; simp
theorem form_v {g : List Int} {t : Tm} (hf : formE g t = 0) (h : 0 < t.f2.length) : t.f0 = 0 := by
  rw [formE_eq] at hf
  by_cases hl : formEL g t.f2 = 0
  · rw [if_neg (by simpa using hl)] at hf
    by_cases hv : t.f0 = 0
    · exact hv
    · unfold partE at hf
      rw [if_pos hv] at hf
      split at hf
      · split at hf
        · omega
        · cases hf
      · cases hf
  · rw [if_pos hl] at hf; exact absurd hf hl
theorem form_args {g : List Int} {t : Tm} (hf : formE g t = 0) : formEL g t.f2 = 0 ∧ partE g t = 0 := by
  rw [formE_eq] at hf
  by_cases hl : formEL g t.f2 = 0
  · rw [if_neg (by simpa using hl)] at hf; exact ⟨hl, hf⟩
  · rw [if_pos hl] at hf; exact absurd hf hl
theorem at_put (u : Tm) : ∀ (p : List Int) (t : Tm), atB t p = true → atP (putP t p u) p = some u
  | [], t, _ => by rw [putP, atP]
  | y :: p, t, h => by
    obtain ⟨h0, h1, h2⟩ := atB_cons h
    rw [putP, atP]
    have hl : (t.f2.set y.toNat (putP (rd_Tm t.f2 y) p u)).length = t.f2.length := by simp
    simp only [hl]
    rw [if_pos ⟨h0, h1⟩, rd_set' _ _ _ h0 h1]
    exact at_put u p _ h2
theorem put_back (g : List Int) (u : Tm) : ∀ (p : List Int) (t : Tm), formE g t = 0 → atB t p = true → putP (putP t p u) p (atT t p) = t
  | [], t, _, _ => by rw [putP]; rfl
  | y :: p, t, hf, h => by
    obtain ⟨h0, h1, h2⟩ := atB_cons h
    have hv := form_v hf (by omega)
    have hr := put_back g u p (rd_Tm t.f2 y) (formEL_mem (form_args hf).1 _ (rd_mem' t.f2 y h0 h1)) h2
    have ha : atT t (y :: p) = atT (rd_Tm t.f2 y) p := by unfold atT; rw [atP, if_pos ⟨h0, h1⟩]
    rw [putP, putP]
    simp only [rd_set' _ _ _ h0 h1, ha, hr, List.set_set, set_rd _ _ h0 h1]
    obtain ⟨v, f, l⟩ := t
    simp only at hv
    rw [hv]
theorem put_form (g : List Int) (u : Tm) (hu : formE g u = 0) : ∀ (p : List Int) (t : Tm), formE g t = 0 → atB t p = true → formE g (putP t p u) = 0
  | [], t, _, _ => by rw [putP]; exact hu
  | y :: p, t, hf, h => by
    obtain ⟨h0, h1, h2⟩ := atB_cons h
    have hv := form_v hf (by omega)
    obtain ⟨ha, hp⟩ := form_args hf
    have hr := put_form g u hu p (rd_Tm t.f2 y) (formEL_mem ha _ (rd_mem' t.f2 y h0 h1)) h2
    have hl : formEL g (t.f2.set y.toNat (putP (rd_Tm t.f2 y) p u)) = 0 := formEL_of (fun x hx => by
      rcases List.mem_or_eq_of_mem_set hx with h | h
      · exact formEL_mem ha x h
      · rw [h]; exact hr)
    rw [putP, formE_eq]
    simp only [hl, ne_eq, not_true_eq_false, if_false]
    unfold partE at hp ⊢
    simpa [hv] using hp
theorem at_form (g : List Int) : ∀ (p : List Int) (t : Tm), formE g t = 0 → atB t p = true → formE g (atT t p) = 0
  | [], t, hf, _ => hf
  | y :: p, t, hf, h => by
    obtain ⟨h0, h1, h2⟩ := atB_cons h
    have ha : atT t (y :: p) = atT (rd_Tm t.f2 y) p := by unfold atT; rw [atP, if_pos ⟨h0, h1⟩]
    rw [ha]
    exact at_form g p _ (formEL_mem (form_args hf).1 _ (rd_mem' t.f2 y h0 h1)) h2
theorem chkTs_of {g : List Int} {l : List Tm} (hs : sigE g = 0) (h : ∀ x ∈ l, okT g x) : chkTs g l = 0 := by
  unfold chkTs
  rw [if_neg (by simpa using hs)]
  exact fe_of (fun x hx => chkT_ok.2 (h x hx))
/-- What was put is there; what was there, put back, makes what it was. -/
theorem back_all {g : List Int} {t u : Tm} {p : List Int} (h1 : atE g t p = 0) (h2 : putE g t u p = 0) :
    atR g (putR g t u p) p = u ∧ atE g (putR g t u p) p = 0 ∧ putR g (putR g t u p) (atR g t p) p = t ∧ putE g (putR g t u p) (atR g t p) p = 0 := by
  have hc2 : chkTs g [t, u] = 0 := by
    by_cases h : chkTs g [t, u] = 0
    · exact h
    · unfold putE at h2; rw [if_pos h] at h2; exact absurd h2 h
  have hc1 := chkTs_one hc2
  have hb : atB t p = true := by
    by_cases h : atB t p = true
    · exact h
    · unfold atE at h1; rw [if_neg (by simp [hc1]), if_neg h] at h1; cases h1
  have hz : szT (putP t p u) ≤ 120 := by
    unfold putE at h2
    rw [if_neg (by simp [hc2]), if_pos hb] at h2
    split at h2
    · cases h2
    · omega
  have hx : putR g t u p = putP t p u := by unfold putR; rw [if_neg (by simp [h2])]
  have hw : atR g t p = atT t p := by unfold atR; rw [if_neg (by simp [hc1])]
  obtain ⟨hs, hok⟩ := chkTs_ok hc2
  obtain ⟨ht1, ht2⟩ := hok t (by simp)
  obtain ⟨hu1, hu2⟩ := hok u (by simp)
  have hap := at_put u p t hb
  have hab : atB (putP t p u) p = true := by unfold atB; rw [hap]; rfl
  have hxok : okT g (putP t p u) := ⟨hz, put_form g u hu2 p t ht2 hb⟩
  have hwok : okT g (atT t p) := ⟨by have := atT_sz t p; omega, at_form g p t ht2 hb⟩
  have c1 : chkTs g [putP t p u] = 0 := chkTs_of hs (fun x hx => by simp at hx; rw [hx]; exact hxok)
  have c2 : chkTs g [putP t p u, atT t p] = 0 := chkTs_of hs (fun x hx => by
    simp at hx
    rcases hx with hx | hx
    · rw [hx]; exact hxok
    · rw [hx]; exact hwok)
  have hback := put_back g u p t ht2 hb
  have e4 : putE g (putP t p u) (atT t p) p = 0 := by
    unfold putE
    rw [if_neg (by simp [c2]), if_pos hab, hback, if_neg (by omega)]
  rw [hx, hw]
  refine ⟨?_, ?_, ?_, e4⟩
  · unfold atR; rw [if_neg (by simp [c1])]; unfold atT; rw [hap]; rfl
  · unfold atE; rw [if_neg (by simp [c1]), if_pos hab]
  · unfold putR; rw [if_neg (by simp [e4]), hback]
end Go.Proofs.Ytcgnpmjkeifokaa
-- K31
/- superposelaw.TermBack, its walk. -/
namespace Go.Proofs.Ytcgnpmjkeifokaa
open Go.RowKit Go.Proofs.YtcgnpmjkeifokaaW.PrintWords
set_option linter.unusedVariables false
set_option linter.unusedSimpArgs false

set_option maxHeartbeats 4000000 in
set_option maxRecDepth 100000 in
theorem termBack_any (g : List Int) (Ag : Option Addr) (cg : Nat) (t u : Tm) (A B : Option Addr) (c d : Nat) (p : List Int) (Ap : Option Addr) (cp : Nat) (ok : Nat → Prop) (w : World) (hG : Kd.C (Kd.int .i64) w Ag g.length g) (hF : Kd.F kTm w ok A t.f2.length t.f2) (hc : t.f2.length ≤ c) (hU : Kd.F kTm w ok B u.f2.length u.f2) (hd : u.f2.length ≤ d) (hP : Kd.C (Kd.int .i64) w Ap p.length p) (hpc : p.length ≤ cp) :
    Calls Try.prog 10 #[.agg #[.slice Ag g.length cg], .agg #[.int .i64 t.f0, .int .i64 t.f1, .slice A t.f2.length c], .slice Ap p.length cp, .agg #[.int .i64 u.f0, .int .i64 u.f1, .slice B u.f2.length d]] w fun e w' => e = .returned (.bool true) ∧ Below w.heap.size w w' := by
  have HF := Aside0.mk (Kd.F_bound hF)
  have HU := Aside0.mk (Kd.F_bound hU)
  have HG := Aside0.mk hG
  have HP := Aside0.mk hP
  have HPC := Aside0.mk hpc
  clear hF hG hP hU hpc
  have g1 := blk_alloc (newAt (w := w.alloc (.cells #[.slice Ag g.length cg] 24)) (o := .cells #[.int .i64 t.f0, .int .i64 t.f1, .slice A t.f2.length c] 46) (k := w.heap.size + 1) (by simp)) (.cells #[.int .i64 u.f0, .int .i64 u.f1, .slice B u.f2.length d] 46)
  have g0 := blk_alloc (blk_alloc (newAt (w := w) (o := .cells #[.slice Ag g.length cg] 24) rfl) (.cells #[.int .i64 t.f0, .int .i64 t.f1, .slice A t.f2.length c] 46)) (.cells #[.int .i64 u.f0, .int .i64 u.f1, .slice B u.f2.length d] 46)
  have g3 := newAt (w := (w.alloc (.cells #[.slice Ag g.length cg] 24)).alloc (.cells #[.int .i64 t.f0, .int .i64 t.f1, .slice A t.f2.length c] 46)) (o := .cells #[.int .i64 u.f0, .int .i64 u.f1, .slice B u.f2.length d] 46) (k := w.heap.size + 2) (by simp)
  have HB := Aside0.mk (below_alloc (below_alloc (below_alloc (Below.refl w.heap.size w) (.cells #[.slice Ag g.length cg] 24)) (.cells #[.int .i64 t.f0, .int .i64 t.f1, .slice A t.f2.length c] 46)) (.cells #[.int .i64 u.f0, .int .i64 u.f1, .slice B u.f2.length d] 46))
  go_enter Try.func10, Try.ntmps10
  go_upto_region 1 with (fail)
  generalize ((w.alloc (.cells #[.slice Ag g.length cg] 24)).alloc (.cells #[.int .i64 t.f0, .int .i64 t.f1, .slice A t.f2.length c] 46)).alloc (.cells #[.int .i64 u.f0, .int .i64 u.f1, .slice B u.f2.length d] 46) = W at *
  have HS := Aside0.mk g0
  have HT := Aside0.mk g1
  have HV := Aside0.mk g3
  clear g0 g1 g3
  go_upto_region 3 with (go_at_call 42; refine (termBegun_any _).mono ?_; rintro e w0 ⟨rfl, hb0⟩; have HB0 := Aside0.mk hb0; clear hb0)
  have HB00 := Aside0.mk (hbT HB.out HB0.out)
  have s0 := sg_cell ((HB0.out.block _ (blk_lt HS.out)).trans HS.out)
  obtain ⟨t0, t1, t2⟩ := tm_cells ((HB0.out.block _ (blk_lt HT.out)).trans HT.out)
  go_upto_region 4 with (first | (go_at_call 47; refine (at_any g Ag cg t A c p Ap cp _ w0 (Kd.C_below HG.out HB00.out) (Kd.F_below HF.out HB00.out) hc (Kd.C_below HP.out HB00.out)).mono ?_; rintro e w1 ⟨A1, c1, rfl, h1, hF1, hb1⟩; have HF1 := Aside0.mk (Kd.F_bound hF1); have HB1 := Aside0.mk hb1; clear hF1 hb1) | (((with_reducible refine gate_store (t := 46) (p := 9) rfl ?_); refine st_tm 9 rfl rfl rfl rfl rfl (heap_alloc_new _ _) ?_); intro w2 hs2 hG2 hz2; have HX := Aside0.mk hs2; have HB2 := Aside0.mk (hbT HB1.out (gbS (below_alloc (Below.refl w1.heap.size w1) _) hG2 (Nat.le_refl _))); have HF2 := Aside0.mk (Kd.F_below HF1.out (gbS (below_alloc (Below.refl w1.heap.size w1) _) hG2 (Nat.le_refl _))); clear hs2 hG2 hz2))
  clear HF1 HB1 s0 t0 t1 t2
  have HB02 := Aside0.mk (hbT HB0.out HB2.out)
  have HBw2 := Aside0.mk (hbT HB.out HB02.out)
  have s0 := sg_cell ((HB02.out.block _ (blk_lt HS.out)).trans HS.out)
  obtain ⟨t0, t1, t2⟩ := tm_cells ((HB02.out.block _ (blk_lt HT.out)).trans HT.out)
  obtain ⟨u0, u1, u2⟩ := tm_cells ((HB02.out.block _ (blk_lt HV.out)).trans HV.out)
  go_upto_region 5 with (first | (go_at_call 48; refine (put_any g Ag cg t u A B c d p Ap cp _ w2 (Kd.C_below HG.out HBw2.out) (Kd.F_below HF.out HBw2.out) hc (Kd.F_below HU.out HBw2.out) hd (Kd.C_below HP.out HBw2.out) HPC.out).mono ?_; rintro e w3 ⟨A3, c3, rfl, h3, hF3, hb3⟩; have HF3 := Aside0.mk (Kd.F_bound hF3); have HB3 := Aside0.mk hb3; clear hF3 hb3) | (((with_reducible refine gate_store (t := 46) (p := 11) rfl ?_); refine st_tm 11 rfl rfl rfl rfl rfl (heap_alloc_new _ _) ?_); intro w4 hs4 hG4 hz4; have HY := Aside0.mk hs4; have HB4 := Aside0.mk (hbT HB3.out (gbS (below_alloc (Below.refl w3.heap.size w3) _) hG4 (Nat.le_refl _))); have HF4 := Aside0.mk (Kd.F_below HF3.out (gbS (below_alloc (Below.refl w3.heap.size w3) _) hG4 (Nat.le_refl _))); clear hs4 hG4 hz4))
  clear HF3 HB3 s0 t0 t1 t2 u0 u1 u2
  have HBw4 := Aside0.mk (hbT HBw2.out HB4.out)
  have HB04 := Aside0.mk (hbT HB02.out HB4.out)
  by_cases h1e : atE g t p = 0
  · have h1n := bneF h1e
    by_cases h2e : putE g t u p = 0
    · have h2n := bneF h2e
      have HBA := Aside0.mk (back_all h1e h2e)
      clear h1e h2e
      have HX4 := Aside0.mk ((HB4.out.block _ (blk_lt HX.out)).trans HX.out)
      have HFX := Aside0.mk (Kd.F_below HF2.out HB4.out)
      have s0 := sg_cell ((HB04.out.block _ (blk_lt HS.out)).trans HS.out)
      obtain ⟨y0, y1, y2⟩ := tm_cells HY.out
      go_upto_region 8 with (first | (go_at_call 47; refine (at_any g Ag cg (putR g t u p) A3 c3 p Ap cp _ w4 (Kd.C_below HG.out HBw4.out) HF4.out h3 (Kd.C_below HP.out HBw4.out)).mono ?_; rintro e w5 ⟨A5, c5, rfl, h5, hF5, hb5⟩; rw [HBA.out.1] at h5 hF5; simp only [HBA.out.1, HBA.out.2.1]; have HF5 := Aside0.mk (Kd.F_bound hF5); have HB5 := Aside0.mk hb5; clear hF5 hb5) | (((with_reducible refine gate_store (t := 46) (p := 13) rfl ?_); refine st_tm 13 rfl rfl rfl rfl rfl (heap_alloc_new _ _) ?_); intro w6 hs6 hG6 hz6; have HI := Aside0.mk hs6; have HB6 := Aside0.mk (hbT HB5.out (gbS (below_alloc (Below.refl w5.heap.size w5) _) hG6 (Nat.le_refl _))); have HF6 := Aside0.mk (Kd.F_below HF5.out (gbS (below_alloc (Below.refl w5.heap.size w5) _) hG6 (Nat.le_refl _))); clear hs6 hG6 hz6))
      clear HF5 HB5 s0 y0 y1 y2
      have HBw6 := Aside0.mk (hbT HBw4.out HB6.out)
      have HB06 := Aside0.mk (hbT HB04.out HB6.out)
      have s0 := sg_cell ((HB06.out.block _ (blk_lt HS.out)).trans HS.out)
      obtain ⟨y0, y1, y2⟩ := tm_cells ((HB6.out.block _ (blk_lt HY.out)).trans HY.out)
      obtain ⟨x0, x1, x2⟩ := tm_cells ((HB6.out.block _ (blk_lt HX4.out)).trans HX4.out)
      have hP2 := put_any g Ag cg (putR g t u p) (atR g t p) A3 A1 c3 c1 p Ap cp (fun _ => True) w6 (Kd.C_below HG.out HBw6.out) (Kd.F_mono (Kd.F_below HF4.out HB6.out) (fun _ _ => trivial)) h3 (Kd.F_mono (Kd.F_below HFX.out HB6.out) (fun _ _ => trivial)) h1 (Kd.C_below HP.out HBw6.out) HPC.out
      rw [HBA.out.2.2.1, HBA.out.2.2.2] at hP2
      have HP2 := Aside0.mk hP2
      clear hP2
      go_upto_region 9 with (first | (go_at_call 48; refine HP2.out.mono ?_; rintro e w7 ⟨A7, c7, rfl, h7, hF7, hb7⟩; have HF7 := Aside0.mk (Kd.F_bound hF7); have HB7 := Aside0.mk hb7; clear hF7 hb7) | (((with_reducible refine gate_store (t := 46) (p := 14) rfl ?_); refine st_tm 14 rfl rfl rfl rfl rfl (heap_alloc_new _ _) ?_); intro w8 hs8 hG8 hz8; have HJ := Aside0.mk hs8; have HB8 := Aside0.mk (hbT HB7.out (gbS (below_alloc (Below.refl w7.heap.size w7) _) hG8 (Nat.le_refl _))); have HF8 := Aside0.mk (Kd.F_below HF7.out (gbS (below_alloc (Below.refl w7.heap.size w7) _) hG8 (Nat.le_refl _))); clear hs8 hG8 hz8))
      clear HF7 HB7 s0 y0 y1 y2 x0 x1 x2 HP2
      have HBw8 := Aside0.mk (hbT HBw6.out HB8.out)
      have HB08 := Aside0.mk (hbT HB06.out HB8.out)
      obtain ⟨i0, i1, i2⟩ := tm_cells ((HB8.out.block _ (blk_lt HI.out)).trans HI.out)
      obtain ⟨u0, u1, u2⟩ := tm_cells ((HB08.out.block _ (blk_lt HV.out)).trans HV.out)
      have HS1 : Aside0 (Calls Try.prog 33 #[.agg #[.int .i64 u.f0, .int .i64 u.f1, .slice A5 u.f2.length c5], .agg #[.int .i64 u.f0, .int .i64 u.f1, .slice B u.f2.length d]] w8 fun e w' => e = .returned (.bool true) ∧ Below w8.heap.size w8 w') := ⟨by
        have := sameTerm_any (szT u) u u A5 B c5 d _ _ w8 (Nat.le_refl _) (Kd.F_below HF6.out HB8.out) h5 (Kd.F_below HU.out HBw8.out) hd
        rw [eqT_refl] at this
        exact this⟩
      go_wp2_with (fail)
      refine HS1.out.mono ?_
      rintro e w9 ⟨rfl, hb9⟩
      have HB9 := Aside0.mk hb9
      have HBw9 := Aside0.mk (hbT HBw8.out hb9)
      clear hb9 i0 i1 i2 u0 u1 u2
      obtain ⟨j0, j1, j2⟩ := tm_cells ((HB9.out.block _ (blk_lt HJ.out)).trans HJ.out)
      obtain ⟨t0, t1, t2⟩ := tm_cells (((hbT HB08.out HB9.out).block _ (blk_lt HT.out)).trans HT.out)
      have HS2 : Aside0 (Calls Try.prog 33 #[.agg #[.int .i64 t.f0, .int .i64 t.f1, .slice A7 t.f2.length c7], .agg #[.int .i64 t.f0, .int .i64 t.f1, .slice A t.f2.length c]] w9 fun e w' => e = .returned (.bool true) ∧ Below w9.heap.size w9 w') := ⟨by
        have := sameTerm_any (szT t) t t A7 A c7 c _ _ w9 (Nat.le_refl _) (Kd.F_below HF8.out HB9.out) h7 (Kd.F_below HF.out HBw9.out) hc
        rw [eqT_refl] at this
        exact this⟩
      go_wp2_with (fail)
      refine HS2.out.mono ?_
      rintro e w10 ⟨rfl, hb10⟩
      clear j0 j1 j2 t0 t1 t2
      go_wp2
      go_ret
      exact ⟨rfl, hbT HBw9.out hb10⟩
    · have h2n := bneT h2e
      clear h2e h1e
      go_wp2
      go_ret
      exact ⟨rfl, HBw4.out⟩
  · have h1n := bneT h1e
    clear h1e
    go_wp2
    go_ret
    exact ⟨rfl, HBw4.out⟩
end Go.Proofs.Ytcgnpmjkeifokaa
-- LTermBack
/- TermBack: what is put is there, and what was there put back makes what it was. -/
namespace Go.Proofs.Ytcgnpmjkeifokaa
open Go.RowKit Go.WideShapes Go.ChangeShapes Go.ChangeAt Go.Proofs.YtcgnpmjkeifokaaW.PrintWords
set_option linter.unusedVariables false
set_option linter.unusedSimpArgs false
theorem own_ : ownKnob Try.prog.godebug = none := by kernel_rfl
theorem laidOut_ : laidOutB Try.prog = true := by kernel_rfl
namespace TermBackRow
set_option maxRecDepth 100000 in
theorem lifted (os : Os) (started : os.Started) (H : Type) (enc : TypeId × Value → H) :
    ReturnsInHanded {} Try.checked os 10 .any (Rows.termBackSpec.pre6 enc Try.prog Try.f10 Rows.termBackRow.domain false) (Rows.termBackSpec.post enc Try.prog Try.f10 false true false false) := by
  refine returnsInHanded_of_change_sized (C := Try.checked) own_ started (by kernel_rfl) Try.func10
    (ChangeSpec.witness6 (enc := enc) (C := Try.checked) false ⟨#[], #[.agg #[.slice none 0 0], .agg #[.int .i64 0, .int .i64 0, .slice none 0 0], .slice none 0 0, .agg #[.int .i64 0, .int .i64 0, .slice none 0 0]], []⟩ 8 (by kernel_rfl) (by kernel_rfl) (by kernel_rfl) (by kernel_rfl)) ?_
  intro W base args ds gs before hval0 hW hcnd hsz0 _
  have hval : ∀ (j : Nat) t v, Try.f10.params[j]? = some t → args[j]? = some v → Value.okWide Try.prog W .any base t v := hval0
  have hW' := hW
  obtain ⟨p, q, hA0, hV, rfl, hfz, hnd⟩ := hW
  have hA : DataW.TrodAll enc Try.prog W 0 (fun _ => true) true Try.f10.params.toList args.toList ds p := hA0
  rw [Try.params10] at hA hval
  obtain ⟨v0, vs0, d0, ds0, p0, q0, hargs, rfl, rfl, h0, r0⟩ := trodAll_cons hA
  obtain ⟨v1, vs1, d1, ds1, p1, q1, rfl, rfl, rfl, h1, r1⟩ := trodAll_cons r0
  obtain ⟨v2, vs2, d2, ds2, p2, q2, rfl, rfl, rfl, h2, r2⟩ := trodAll_cons r1
  obtain ⟨v3, vs3, d3, ds3, p3, q3, rfl, rfl, rfl, h3, r3⟩ := trodAll_cons r2
  obtain ⟨rfl, rfl, rfl⟩ := trodAll_nil r3
  obtain rfl : args = #[v0, v1, v2, v3] := by cases args; simp_all
  obtain ⟨rfl, rfl⟩ := trodVars_none hV
  obtain ⟨g, Ag, cg, rfl, _, G0⟩ := arg_sg (hval 0 24 v0 rfl rfl) h0
  obtain ⟨t, A, c, rfl, hc, G1⟩ := arg_tm (hval 1 46 v1 rfl rfl) h1
  obtain ⟨pl, Ap, cp, rfl, hcp, G2⟩ := arg_ints (hval 2 22 v2 rfl rfl) h2
  obtain ⟨u, B, d, rfl, hd, G3⟩ := arg_tm (hval 3 46 v3 rfl rfl) h3
  have lt0 : ∀ x ∈ p0, x.block < W.heap.size := by obtain ⟨m, hm⟩ := h0; exact DataW.trod_lt m _ _ _ hm
  have lt1 : ∀ x ∈ p1, x.block < W.heap.size := by obtain ⟨m, hm⟩ := h1; exact DataW.trod_lt m _ _ _ hm
  have lt2 : ∀ x ∈ p2, x.block < W.heap.size := by obtain ⟨m, hm⟩ := h2; exact DataW.trod_lt m _ _ _ hm
  have lt3 : ∀ x ∈ p3, x.block < W.heap.size := by obtain ⟨m, hm⟩ := h3; exact DataW.trod_lt m _ _ _ hm
  clear hA0 hval0 hsz0
  refine (termBack_any g Ag cg t u A B c d pl Ap cp _ W G0 G1 hc G3 hd G2 hcp).mono fun e W' ⟨he, bel⟩ => ?_
  subst he
  exact ⟨_, rfl, _, _, _, [], _, [], hW', trodAll_mk1 (shut_bool Try.underlying4 _), (trodAll_cons_mk (Below.trod laidOut_ (by kernel_rfl) (of_decide_eq_true (by kernel_rfl)) h0 bel lt0) (trodAll_cons_mk (Below.trod laidOut_ (by kernel_rfl) (of_decide_eq_true (by kernel_rfl)) h1 bel lt1) (trodAll_cons_mk (Below.trod laidOut_ (by kernel_rfl) (of_decide_eq_true (by kernel_rfl)) h2 bel lt2) (trodAll_cons_mk (Below.trod laidOut_ (by kernel_rfl) (of_decide_eq_true (by kernel_rfl)) h3 bel lt3) trodAll_mk0)))), rfl, bel.frame _, fun h => by cases h⟩
theorem over : Rows.termBackRow.holds Try.pinned (OpenSpec.ofChange Rows.termBackSpec) :=
  OpenClaim.holds_of_wide 10 Try.f10 rfl rfl rfl rfl rfl rfl rfl ⟨rfl, rfl, rfl, rfl, rfl⟩ rfl rfl rfl rfl rfl (by kernel_rfl) Try.func10 (by kernel_rfl)
    (of_decide_eq_true (by kernel_rfl)) (by unfold Func.isWrapper; first | (rw [if_pos (by decide +kernel)]; kernel_rfl) | (rw [if_neg (by decide +kernel)]; exact ⟨rfl, rfl⟩))
    (fun os started H enc _ => lifted os started H enc)
end TermBackRow
/-- The statement. -/
theorem termBack_holds : Rows.TermBackSaid := TermBackRow.over
#print axioms termBack_holds
end Go.Proofs.Ytcgnpmjkeifokaa
