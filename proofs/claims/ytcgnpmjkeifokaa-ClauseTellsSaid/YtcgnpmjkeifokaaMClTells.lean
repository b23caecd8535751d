/- ClauseTells: all calls of clauses answer just what the document says, errors too, whatever they are handed: for every input. -/
import Derived.Test.YtcgnpmjkeifokaaMCl3
import Derived.Test.YtcgnpmjkeifokaaMCl1
import Derived.Test.YtcgnpmjkeifokaaRows
import Derived.Test.YtcgnpmjkeifokaaChecked
import Derived.ChangeAt
-- K60
/- superposelaw.ClauseTells, its walk. -/
namespace Go.Proofs.Ytcgnpmjkeifokaa
open Go.RowKit Go.Proofs.YtcgnpmjkeifokaaW.PrintWords
set_option linter.unusedVariables false
set_option linter.unusedSimpArgs false

set_option maxHeartbeats 4000000 in
set_option maxRecDepth 100000 in
theorem clauseTells_any (g : List Int) (Ag : Option Addr) (cg : Nat) (c : List Li) (Ac : Option Addr) (cc : Nat) (okc : Nat → Prop) (d : List Li) (Ad : Option Addr) (cd : Nat) (okd : Nat → Prop) (w : World) (hG : Kd.C (Kd.int .i64) w Ag g.length g) (hF0 : Kd.F kLi w okc Ac c.length c) (hc : c.length ≤ cc) (hD0 : Kd.F kLi w okd Ad d.length d) (hd : d.length ≤ cd) :
    Calls Try.prog 3 #[.agg #[.slice Ag g.length cg], .slice Ac c.length cc, .slice Ad d.length cd] w fun e w' => e = .returned (.bool true) ∧ Below w.heap.size w w' := by
  have hlenc := Kd.F_max hF0
  have hlend := Kd.F_max hD0
  have HG := Aside0.mk hG
  have HF := Aside0.mk (Kd.F_mono (Kd.F_bound hF0) (ok' := fun k => k < w.heap.size) (fun _ h => h.2))
  have HD := Aside0.mk (Kd.F_mono (Kd.F_bound hD0) (ok' := fun k => k < w.heap.size) (fun _ h => h.2))
  clear hG hF0 hD0
  have TI : Aside0 (∀ W', Below w.heap.size w W' → Calls Try.prog 11 #[.agg #[.slice Ag g.length cg], .slice Ac c.length cc] W' fun e w' => ∃ A' c', e = .returned (.tuple #[.slice A' (tidR g c).length c', .int .i64 (chkCs g [c])]) ∧ (tidR g c).length ≤ c' ∧ Kd.F kLi w' (fun k => W'.heap.size ≤ k) A' (tidR g c).length (tidR g c) ∧ Below W'.heap.size W' w') := ⟨fun W' hb => tidy_any g Ag cg c Ac cc _ W' (Kd.C_below HG.out hb) (Kd.F_below HF.out hb) hc⟩
  have AL : Aside0 (∀ W', Below w.heap.size w W' → Calls Try.prog 12 #[.agg #[.slice Ag g.length cg], .slice Ac c.length cc] W' fun e w' => e = .returned (.tuple #[.bool (alwR g c), .int .i64 (chkCs g [c])]) ∧ Below W'.heap.size W' w') := ⟨fun W' hb => always_any g Ag cg c Ac cc _ W' (Kd.C_below HG.out hb) (Kd.F_below HF.out hb) hc⟩
  have SU : Aside0 (∀ W', Below w.heap.size w W' → Calls Try.prog 13 #[.agg #[.slice Ag g.length cg], .slice Ac c.length cc, .slice Ad d.length cd] W' fun e w' => e = .returned (.tuple #[.bool (subB g c d), .int .i64 (chkCs g [c, d])]) ∧ Below W'.heap.size W' w') := ⟨fun W' hb => subsumes_any g Ag cg c d Ac Ad cc cd _ W' (Kd.C_below HG.out hb) (Kd.F_below HF.out hb) hc (Kd.F_below HD.out hb) hd⟩
  have CK1 : Aside0 (∀ (W' : World) (gb : Nat), Below w.heap.size w W' → W'.heap[gb]? = some (.cells #[.slice Ac c.length cc] 26 (0, 0)) → Calls Try.prog 14 #[.agg #[.slice Ag g.length cg], .slice (some ⟨gb, 0, none⟩) 1 1] W' fun e w' => e = .returned (.int .i64 (chkCs g [c])) ∧ Below W'.heap.size W' w') := ⟨fun W' gb hb h => checkClauses_any g Ag cg [c] _ 1 _ W' (Kd.C_below HG.out hb) (F_cl1 h (Kd.F_below HF.out hb) hc)⟩
  have CK2 : Aside0 (∀ (W' : World) (gb : Nat), Below w.heap.size w W' → W'.heap[gb]? = some (.cells #[.slice Ac c.length cc, .slice Ad d.length cd] 26 (0, 0)) → Calls Try.prog 14 #[.agg #[.slice Ag g.length cg], .slice (some ⟨gb, 0, none⟩) 2 2] W' fun e w' => e = .returned (.int .i64 (chkCs g [c, d])) ∧ Below W'.heap.size W' w') := ⟨fun W' gb hb h => checkClauses_any g Ag cg [c, d] _ 2 _ W' (Kd.C_below HG.out hb) (F_cl2 h (Kd.F_below HF.out hb) hc (Kd.F_below HD.out hb) hd)⟩
  have CK3 : Aside0 (∀ (W' : World) (gb : Nat), Below w.heap.size w W' → W'.heap[gb]? = some (.cells #[.slice Ac c.length cc, .slice Ad d.length cd] 26 (0, 0)) → Calls Try.prog 19 #[.agg #[.slice Ag g.length cg], .slice (some ⟨gb, 0, none⟩) 2 2] W' fun e w' => e = .returned (.int .i64 (chkCs g [c, d])) ∧ Below W'.heap.size W' w') := ⟨fun W' gb hb h => clauseCheck_any g Ag cg [c, d] _ 2 _ W' (Kd.C_below HG.out hb) (F_cl2 h (Kd.F_below HF.out hb) hc (Kd.F_below HD.out hb) hd)⟩
  have V0 : Aside0 (chkCs g [c] = 0 → tidR g c = tidyL c ∧ alwR g c = alwB c ∧ c.length ≤ 8 ∧ ∀ x ∈ c, okT g x.f1 ∧ okT g x.f2) := ⟨fun h => ⟨by unfold tidR; rw [if_pos h], by unfold alwR; rw [if_pos h], chkCs_ok h c (by simp)⟩⟩
  have V1 : Aside0 (chkCs g [c] ≠ 0 → tidR g c = [] ∧ alwR g c = false) := ⟨fun h => ⟨by unfold tidR; rw [if_neg h], by unfold alwR; rw [if_neg h]⟩⟩
  have W0 : Aside0 (chkCs g [c, d] = 0 → subB g c d = covB c d [] ∧ (c.length ≤ 8 ∧ ∀ x ∈ c, okT g x.f1 ∧ okT g x.f2) ∧ ∀ x ∈ d, formE g x.f1 = 0 ∧ formE g x.f2 = 0) := ⟨fun h => ⟨by unfold subB; rw [if_pos h], chkCs_ok h c (by simp), fun x hx => have h2 := (chkCs_ok h d (by simp)).2 x hx; ⟨h2.1.2, h2.2.2⟩⟩⟩
  have W1 : Aside0 (chkCs g [c, d] ≠ 0 → subB g c d = false) := ⟨fun h => by unfold subB; rw [if_neg h]⟩
  generalize chkCs g [c] = V at *
  generalize chkCs g [c, d] = U at *
  generalize tidR g c = td at *
  generalize alwR g c = al at *
  generalize subB g c d = sb at *
  have g0 := newAt (w := w) (o := .cells #[.slice Ag g.length cg] 24) rfl
  have HB := Aside0.mk (below_alloc (Below.refl w.heap.size w) (.cells #[.slice Ag g.length cg] 24))
  go_enter Try.func3, Try.ntmps3
  go_upto_region 1 with (fail)
  generalize w.alloc (.cells #[.slice Ag g.length cg] 24) = W at *
  have HS := Aside0.mk g0
  have s0 := sg_cell g0
  clear g0
  go_upto_region 2 with (go_at_call 11; refine (TI.out W HB.out).mono ?_; rintro e w1 ⟨A1, c1, rfl, hc1, hF1, hb1⟩; have HF1 := Aside0.mk (Kd.F_bound hF1); have HB1 := Aside0.mk hb1; clear hF1 hb1 s0)
  have HW1 := Aside0.mk (hbT HB.out HB1.out)
  have s0 := sg_cell ((HB1.out.block _ (blk_lt HS.out)).trans HS.out)
  go_upto_region 3 with (go_at_call 12; refine (AL.out w1 HW1.out).mono ?_; rintro e w2 ⟨rfl, hb2⟩; have HB12 := Aside0.mk hb2; clear hb2 s0)
  have HB2 := Aside0.mk (hbT HB1.out HB12.out)
  have HW2 := Aside0.mk (hbT HB.out HB2.out)
  have s0 := sg_cell ((HB2.out.block _ (blk_lt HS.out)).trans HS.out)
  go_upto_region 4 with (go_at_call 13; refine (SU.out w2 HW2.out).mono ?_; rintro e w3 ⟨rfl, hb3⟩; have HB23 := Aside0.mk hb3; clear hb3 s0)
  have HB3 := Aside0.mk (hbT HB2.out HB23.out)
  have HB13 := Aside0.mk (hbT HB12.out HB23.out)
  have HW3 := Aside0.mk (hbT HB.out HB3.out)
  have s0 := sg_cell ((HB3.out.block _ (blk_lt HS.out)).trans HS.out)
  have ks0 := fun (w' : World) (h : Below w3.heap.size w3 w') => oldc h s0
  clear s0 TI AL SU
  refine cutT2 (fun (v39 v44 : Value) (w9 : World) => Below w3.heap.size w3 w9) ?T ?main ?key
  case main =>
    intro key
    refine hd_region 11 0 (fun w' => Below w3.heap.size w3 w') (by kernel_rfl) rfl ?_ (fun _ h => h)
    intro W4 hb4 hz4 hHeld
    clear hb4 hz4
    (refine hd_take (i := 0) (oi := ?oi1) (v := ?v1) ?hi1 (by kernel_rfl) (by kernel_rfl) (by kernel_rfl) (by kernel_rfl) (by decide) ?hq1 ?hw1 ?hy1 hHeld ?hr1; (case hi1 => (simp only [List.getElem?_toArray, List.getElem?_cons_succ, List.getElem?_cons_zero]; rfl)); (case hw1 => rfl); (case hy1 => (intro w hSw; go_simp; try with_reducible rfl)); (case hq1 => exact fun _ _ _ h => h); simp only [Act.put, List.setIfInBounds_toArray, List.set_cons_zero, List.set_cons_succ])
    (refine hd_take (i := 1) (oi := ?oi3) (v := ?v3) ?hi3 (by kernel_rfl) (by kernel_rfl) (by kernel_rfl) (by kernel_rfl) (by decide) ?hq3 ?hw3 ?hy3 hHeld ?hr3; (case hi3 => (simp only [List.getElem?_toArray, List.getElem?_cons_succ, List.getElem?_cons_zero]; rfl)); (case hw3 => rfl); (case hy3 => (intro w hSw; go_simp; try with_reducible rfl)); (case hq3 => exact fun _ _ _ h => h); simp only [Act.put, List.setIfInBounds_toArray, List.set_cons_zero, List.set_cons_succ])
    (refine hd_take (i := 4) (oi := ?oi5) (v := ?v5) ?hi5 (by kernel_rfl) (by kernel_rfl) (by kernel_rfl) (by kernel_rfl) (by decide) ?hq5 ?hw5 ?hy5 hHeld ?hr5; (case hi5 => (simp only [List.getElem?_toArray, List.getElem?_cons_succ, List.getElem?_cons_zero]; rfl)); (case hw5 => rfl); (case hy5 => (intro w hSw; go_simp; try with_reducible rfl)); (case hq5 => exact fun _ _ _ h => h); simp only [Act.put, List.setIfInBounds_toArray, List.set_cons_zero, List.set_cons_succ])
    (refine hd_take (i := 5) (oi := ?oi7) (v := ?v7) ?hi7 (by kernel_rfl) (by kernel_rfl) (by kernel_rfl) (by kernel_rfl) (by decide) ?hq7 ?hw7 ?hy7 hHeld ?hr7; (case hi7 => (simp only [List.getElem?_toArray, List.getElem?_cons_succ, List.getElem?_cons_zero]; rfl)); (case hw7 => rfl); (case hy7 => (intro w hSw; go_simp; try with_reducible rfl)); (case hq7 => exact fun _ _ _ h => h); simp only [Act.put, List.setIfInBounds_toArray, List.set_cons_zero, List.set_cons_succ])
    (refine hd_take (i := 6) (oi := ?oi9) (v := ?v9) ?hi9 (by kernel_rfl) (by kernel_rfl) (by kernel_rfl) (by kernel_rfl) (by decide) ?hq9 ?hw9 ?hy9 hHeld ?hr9; (case hi9 => (simp only [List.getElem?_toArray, List.getElem?_cons_succ, List.getElem?_cons_zero]; rfl)); (case hw9 => rfl); (case hy9 => (intro w hSw; go_simp; try with_reducible rfl)); (case hq9 => exact fun _ _ _ h => h); simp only [Act.put, List.setIfInBounds_toArray, List.set_cons_zero, List.set_cons_succ])
    refine hd_two (i := 2) (j := 7) (oi := ?oiA) (oj := ?ojA) ?hiA ?hjA (by kernel_rfl) (by decide) (by decide) ?haA ?hbA
    case hiA => (simp only [List.getElem?_toArray, List.getElem?_cons_succ, List.getElem?_cons_zero]; rfl)
    case hjA => (simp only [List.getElem?_toArray, List.getElem?_cons_succ, List.getElem?_cons_zero]; rfl)
    case haA =>
      intro K hK
      go_simp
      (refine hK.out _ _ ?hS13 (fun hHeld => ?hr13); (case hS13 => exact below_alloc hHeld _); clear hK K; try simp only [Act.put, List.setIfInBounds_toArray, List.set_cons_zero, List.set_cons_succ])
      have N1 := Aside0.mk (heap_alloc_new W4 (.cells #[.slice Ac c.length cc] 26))
      refine hd_two (i := 3) (j := 7) (oi := ?oiB) (oj := ?ojB) ?hiB ?hjB (by kernel_rfl) (by decide) (by decide) ?haB ?hbB
      case hiB => (simp only [List.getElem?_toArray, List.getElem?_cons_succ, List.getElem?_cons_zero]; rfl)
      case hjB => (simp only [List.getElem?_toArray, List.getElem?_cons_succ, List.getElem?_cons_zero]; rfl)
      case haB =>
        intro K hK
        go_simp
        go_at_call 14
        refine (CK1.out _ _ (hbT HW3.out hHeld) N1.out).mono ?_
        rintro e w6 ⟨rfl, hbw6⟩
        go_simp
        (refine hK.out _ _ ?hS16 (fun hHeld => ?hr16); (case hS16 => exact hbT hHeld hbw6); clear hK K; try simp only [Act.put, List.setIfInBounds_toArray, List.set_cons_zero, List.set_cons_succ])
        (refine hd_one (i := 7) (oi := ?oi17) ?hi17 (by kernel_rfl) (by decide) ?hr17; (case hi17 => (simp only [List.getElem?_toArray, List.getElem?_cons_succ, List.getElem?_cons_zero]; rfl)); intro K hK)
        go_simp
        (refine hK.out _ _ ?hS19 (fun hHeld => ?hr19); (case hS19 => exact below_alloc hHeld _); clear hK K; try simp only [Act.put, List.setIfInBounds_toArray, List.set_cons_zero, List.set_cons_succ])
        have N2 := Aside0.mk (heap_alloc_new w6 (.cells #[.slice Ac c.length cc, .slice Ad d.length cd] 26))
        (refine hd_one (i := 8) (oi := ?oi20) ?hi20 (by kernel_rfl) (by decide) ?hr20; (case hi20 => (simp only [List.getElem?_toArray, List.getElem?_cons_succ, List.getElem?_cons_zero]; rfl)); intro K hK)
        go_simp
        go_at_call 14
        refine (CK2.out _ _ (hbT HW3.out hHeld) N2.out).mono ?_
        rintro e w7 ⟨rfl, hbw7⟩
        go_simp
        (refine hK.out _ _ ?hS22 (fun hHeld => ?hr22); (case hS22 => exact hbT hHeld hbw7); clear hK K; try simp only [Act.put, List.setIfInBounds_toArray, List.set_cons_zero, List.set_cons_succ])
        (refine hd_one (i := 9) (oi := ?oi23) ?hi23 (by kernel_rfl) (by decide) ?hr23; (case hi23 => (simp only [List.getElem?_toArray, List.getElem?_cons_succ, List.getElem?_cons_zero]; rfl)); intro K hK)
        go_simp
        (refine hK.out _ _ ?hS25 (fun hHeld => ?hr25); (case hS25 => exact hHeld); clear hK K; try simp only [Act.put, List.setIfInBounds_toArray, List.set_cons_zero, List.set_cons_succ])
        (refine hd_one (i := 10) (oi := ?oi26) ?hi26 (by kernel_rfl) (by decide) ?hr26; (case hi26 => (simp only [List.getElem?_toArray, List.getElem?_cons_succ, List.getElem?_cons_zero]; rfl)); intro K hK)
        go_simp
        (refine hK.out _ _ ?hS28 (fun hHeld => ?hr28); (case hS28 => exact hHeld); clear hK K; try simp only [Act.put, List.setIfInBounds_toArray, List.set_cons_zero, List.set_cons_succ])
        (refine hd_done (by kernel_rfl) ?_; simp only [List.drop_succ_cons, List.drop_zero])
        have hEnd := hHeld
        clear hHeld
        generalize Value.slice (some ⟨W4.heap.size, 0, none⟩) 1 1 = v39
        generalize Value.slice (some ⟨w6.heap.size, 0, none⟩) 2 2 = v44
        refine useT (key v39 v44 w7 hEnd) ?_
        rfl
      case hbB =>
        intro K hK
        go_simp
        (refine hK.out _ _ ?hS30 (fun hHeld => ?hr30); (case hS30 => exact below_alloc hHeld _); clear hK K; try simp only [Act.put, List.setIfInBounds_toArray, List.set_cons_zero, List.set_cons_succ])
        have M1 := Aside0.mk ((below_alloc (Below.refl _ _) (.cells #[.slice Ac c.length cc, .slice Ad d.length cd] 26)).block _ (blk_lt N1.out) |>.trans N1.out)
        have hzz : (W4.alloc (.cells #[.slice Ac c.length cc] 26)).heap.size = W4.heap.size + 1 := by simp
        have M2 := Aside0.mk (heap_alloc_new (W4.alloc (.cells #[.slice Ac c.length cc] 26)) (.cells #[.slice Ac c.length cc, .slice Ad d.length cd] 26))
        rw [hzz] at M2
        clear hzz
        (refine hd_one (i := 3) (oi := ?oi31) ?hi31 (by kernel_rfl) (by decide) ?hr31; (case hi31 => (simp only [List.getElem?_toArray, List.getElem?_cons_succ, List.getElem?_cons_zero]; rfl)); intro K hK)
        go_simp
        go_at_call 14
        refine (CK1.out _ _ (hbT HW3.out hHeld) M1.out).mono ?_
        rintro e w6 ⟨rfl, hbw6⟩
        have M3 := Aside0.mk ((hbw6.block _ (blk_lt M2.out)).trans M2.out)
        go_simp
        (refine hK.out _ _ ?hS33 (fun hHeld => ?hr33); (case hS33 => exact hbT hHeld hbw6); clear hK K; try simp only [Act.put, List.setIfInBounds_toArray, List.set_cons_zero, List.set_cons_succ])
        (refine hd_one (i := 8) (oi := ?oi34) ?hi34 (by kernel_rfl) (by decide) ?hr34; (case hi34 => (simp only [List.getElem?_toArray, List.getElem?_cons_succ, List.getElem?_cons_zero]; rfl)); intro K hK)
        go_simp
        go_at_call 14
        refine (CK2.out _ _ (hbT HW3.out hHeld) M3.out).mono ?_
        rintro e w7 ⟨rfl, hbw7⟩
        go_simp
        (refine hK.out _ _ ?hS36 (fun hHeld => ?hr36); (case hS36 => exact hbT hHeld hbw7); clear hK K; try simp only [Act.put, List.setIfInBounds_toArray, List.set_cons_zero, List.set_cons_succ])
        (refine hd_one (i := 9) (oi := ?oi37) ?hi37 (by kernel_rfl) (by decide) ?hr37; (case hi37 => (simp only [List.getElem?_toArray, List.getElem?_cons_succ, List.getElem?_cons_zero]; rfl)); intro K hK)
        go_simp
        (refine hK.out _ _ ?hS39 (fun hHeld => ?hr39); (case hS39 => exact hHeld); clear hK K; try simp only [Act.put, List.setIfInBounds_toArray, List.set_cons_zero, List.set_cons_succ])
        (refine hd_one (i := 10) (oi := ?oi40) ?hi40 (by kernel_rfl) (by decide) ?hr40; (case hi40 => (simp only [List.getElem?_toArray, List.getElem?_cons_succ, List.getElem?_cons_zero]; rfl)); intro K hK)
        go_simp
        (refine hK.out _ _ ?hS42 (fun hHeld => ?hr42); (case hS42 => exact hHeld); clear hK K; try simp only [Act.put, List.setIfInBounds_toArray, List.set_cons_zero, List.set_cons_succ])
        (refine hd_done (by kernel_rfl) ?_; simp only [List.drop_succ_cons, List.drop_zero])
        have hEnd := hHeld
        clear hHeld
        refine useT (key (Value.slice (some ⟨W4.heap.size, 0, none⟩) 1 1) (Value.slice (some ⟨W4.heap.size + 1, 0, none⟩) 2 2) w7 hEnd) ?_
        rfl
    case hbA =>
      intro K hK
      go_simp
      (refine hK.out _ _ ?hS44 (fun hHeld => ?hr44); (case hS44 => exact below_alloc hHeld _); clear hK K; try simp only [Act.put, List.setIfInBounds_toArray, List.set_cons_zero, List.set_cons_succ])
      have N2 := Aside0.mk (heap_alloc_new W4 (.cells #[.slice Ac c.length cc, .slice Ad d.length cd] 26))
      (refine hd_one (i := 2) (oi := ?oi45) ?hi45 (by kernel_rfl) (by decide) ?hr45; (case hi45 => (simp only [List.getElem?_toArray, List.getElem?_cons_succ, List.getElem?_cons_zero]; rfl)); intro K hK)
      go_simp
      (refine hK.out _ _ ?hS47 (fun hHeld => ?hr47); (case hS47 => exact below_alloc hHeld _); clear hK K; try simp only [Act.put, List.setIfInBounds_toArray, List.set_cons_zero, List.set_cons_succ])
      have M2 := Aside0.mk ((below_alloc (Below.refl _ _) (.cells #[.slice Ac c.length cc] 26)).block _ (blk_lt N2.out) |>.trans N2.out)
      have hzz : (W4.alloc (.cells #[.slice Ac c.length cc, .slice Ad d.length cd] 26)).heap.size = W4.heap.size + 1 := by simp
      have M1 := Aside0.mk (heap_alloc_new (W4.alloc (.cells #[.slice Ac c.length cc, .slice Ad d.length cd] 26)) (.cells #[.slice Ac c.length cc] 26))
      rw [hzz] at M1
      clear hzz
      (refine hd_one (i := 3) (oi := ?oi48) ?hi48 (by kernel_rfl) (by decide) ?hr48; (case hi48 => (simp only [List.getElem?_toArray, List.getElem?_cons_succ, List.getElem?_cons_zero]; rfl)); intro K hK)
      go_simp
      go_at_call 14
      refine (CK1.out _ _ (hbT HW3.out hHeld) M1.out).mono ?_
      rintro e w6 ⟨rfl, hbw6⟩
      have M3 := Aside0.mk ((hbw6.block _ (blk_lt M2.out)).trans M2.out)
      go_simp
      (refine hK.out _ _ ?hS50 (fun hHeld => ?hr50); (case hS50 => exact hbT hHeld hbw6); clear hK K; try simp only [Act.put, List.setIfInBounds_toArray, List.set_cons_zero, List.set_cons_succ])
      (refine hd_one (i := 8) (oi := ?oi51) ?hi51 (by kernel_rfl) (by decide) ?hr51; (case hi51 => (simp only [List.getElem?_toArray, List.getElem?_cons_succ, List.getElem?_cons_zero]; rfl)); intro K hK)
      go_simp
      go_at_call 14
      refine (CK2.out _ _ (hbT HW3.out hHeld) M3.out).mono ?_
      rintro e w7 ⟨rfl, hbw7⟩
      go_simp
      (refine hK.out _ _ ?hS53 (fun hHeld => ?hr53); (case hS53 => exact hbT hHeld hbw7); clear hK K; try simp only [Act.put, List.setIfInBounds_toArray, List.set_cons_zero, List.set_cons_succ])
      (refine hd_one (i := 9) (oi := ?oi54) ?hi54 (by kernel_rfl) (by decide) ?hr54; (case hi54 => (simp only [List.getElem?_toArray, List.getElem?_cons_succ, List.getElem?_cons_zero]; rfl)); intro K hK)
      go_simp
      (refine hK.out _ _ ?hS56 (fun hHeld => ?hr56); (case hS56 => exact hHeld); clear hK K; try simp only [Act.put, List.setIfInBounds_toArray, List.set_cons_zero, List.set_cons_succ])
      (refine hd_one (i := 10) (oi := ?oi57) ?hi57 (by kernel_rfl) (by decide) ?hr57; (case hi57 => (simp only [List.getElem?_toArray, List.getElem?_cons_succ, List.getElem?_cons_zero]; rfl)); intro K hK)
      go_simp
      (refine hK.out _ _ ?hS59 (fun hHeld => ?hr59); (case hS59 => exact hHeld); clear hK K; try simp only [Act.put, List.setIfInBounds_toArray, List.set_cons_zero, List.set_cons_succ])
      (refine hd_done (by kernel_rfl) ?_; simp only [List.drop_succ_cons, List.drop_zero])
      have hEnd := hHeld
      clear hHeld
      refine useT (key (Value.slice (some ⟨W4.heap.size + 1, 0, none⟩) 1 1) (Value.slice (some ⟨W4.heap.size, 0, none⟩) 2 2) w7 hEnd) ?_
      rfl
  case key =>
    intro v39 v44 w9 hB9
    have HB39 := Aside0.mk hB9
    have HW9 := Aside0.mk (hbT HW3.out hB9)
    have HB19 := Aside0.mk (hbT HB13.out hB9)
    have HBS9 := Aside0.mk (hbT HB3.out hB9)
    clear hB9 ks0 CK1 CK2
    have heU : (U == U) = true := by simp
    have heV : (V == V) = true := by simp
    have hea : (al == al) = true := by simp
    have hes : (sb == sb) = true := by simp
    by_cases hV : V = 0
    · have hVb := beqT hV
      obtain ⟨htd, hal, hcl, hok⟩ := V0.out hV
      have hsz := okC_sz hok
      have TO := Aside0.mk (tidyOf_any c Ac cc _ w9 (by omega) (by omega) (Kd.F_below HF.out HW9.out))
      rw [← htd] at TO
      have HCI : Aside0 (clIs td V V td = true) := ⟨by unfold clIs; rw [if_pos hV, samC_refl]; simp⟩
      have AO : Aside0 (∀ W', Below w.heap.size w W' → Calls Try.prog 16 #[.slice Ac c.length cc] W' fun e w' => e = .returned (.bool al) ∧ Below W'.heap.size W' w') := ⟨fun W' hb => by rw [hal]; exact alwaysOf_any c Ac cc _ W' (Kd.F_below HF.out hb)⟩
      clear htd hal hcl hok hsz hV
      go_upto_region 9 with (first | (go_at_call 15; refine TO.out.mono ?_; rintro e w10 ⟨A10, c10, rfl, hc10, hF10, hb10⟩; have HF10 := Aside0.mk hF10; have HB10 := Aside0.mk hb10; clear hF10 hb10) | (go_at_call 16; refine (AO.out w10 (hbT HW9.out HB10.out)).mono ?_; rintro e w11 ⟨rfl, hb11⟩; have HB11 := Aside0.mk hb11; clear hb11))
      have HB911 := Aside0.mk (hbT HB10.out HB11.out)
      have HF11 := Aside0.mk (Kd.F_below HF10.out HB11.out)
      clear TO AO
      have HW11 := Aside0.mk (hbT HW9.out HB911.out)
      by_cases hU : U = 0
      · have hUb := beqT hU
        obtain ⟨hsb, ⟨hcl, hok⟩, hfd⟩ := W0.out hU
        have hsz := okC_sz hok
        have CO := Aside0.mk (coversOf_any g c d [] Ac Ad none cc cd 0 _ _ (fun _ => False) w11 hfd (by simp; omega) (fun W' _ => Kd.C_nil _ _) (Nat.le_refl _) (Kd.F_below HF.out HW11.out) hc (Kd.F_below HD.out HW11.out))
        rw [show bds [] = [] from rfl, ← hsb] at CO
        simp only [List.length_nil] at CO
        clear hsb hcl hok hfd hsz hU
        go_upto_region 11 with (go_at_call 17; refine CO.out.mono ?_; rintro e w12 ⟨rfl, hb12⟩; have HB12' := Aside0.mk hb12; clear hb12)
        have HB912 := Aside0.mk (hbT HB911.out HB12'.out)
        clear CO
        have HW12 := Aside0.mk (hbT HW9.out HB912.out)
        go_wp2_with (fail)
        refine (clauseBegun_any _).mono ?_
        rintro e w13 ⟨rfl, hb13⟩
        have HB913 := Aside0.mk (hbT HB912.out hb13)
        have HW13 := Aside0.mk (hbT HW9.out HB913.out)
        have HB1213 := Aside0.mk (hbT HB12'.out hb13)
        clear hb13
        have s0 := sg_cell (((hbT HBS9.out HB913.out).block _ (blk_lt HS.out)).trans HS.out)
        have HN := Aside0.mk (heap_alloc_new w13 (.cells #[.slice Ac c.length cc, .slice Ad d.length cd] 26))
        have HBn := Aside0.mk (below_alloc (Below.refl w13.heap.size w13) (.cells #[.slice Ac c.length cc, .slice Ad d.length cd] 26))
        go_wp2_with (fail)
        refine (CK3.out _ _ (hbT HW13.out HBn.out) HN.out).mono ?_
        rintro e w14 ⟨rfl, hb14⟩
        have HB1314 := Aside0.mk (hbT HBn.out hb14)
        have HW14 := Aside0.mk (hbT HW13.out HB1314.out)
        clear hb14 s0
        have CI := Aside0.mk (clauseIs_any td V V td A1 A10 c1 c10 _ _ w14 (Kd.F_below HF1.out (hbT HB19.out (hbT HB913.out HB1314.out))) (Kd.F_below HF11.out (hbT HB1213.out HB1314.out)))
        rw [HCI.out] at CI

        go_wp2_with (fail)
        refine CI.out.mono ?_
        rintro e w15 ⟨rfl, hb15⟩
        have HW15 := Aside0.mk (hbT HW14.out hb15)
        clear hb15
        go_wp2
        go_ret
        exact ⟨rfl, HW15.out⟩
      · have hUb := beqF hU
        obtain rfl := W1.out hU
        have HB12' := Aside0.mk (Below.refl w11.heap.size w11)
        have HB912 := Aside0.mk (hbT HB911.out HB12'.out)
        clear hU
        go_upto_region 11 with (fail)
        have HW12 := Aside0.mk (hbT HW9.out HB912.out)
        go_wp2_with (fail)
        refine (clauseBegun_any _).mono ?_
        rintro e w13 ⟨rfl, hb13⟩
        have HB913 := Aside0.mk (hbT HB912.out hb13)
        have HW13 := Aside0.mk (hbT HW9.out HB913.out)
        have HB1213 := Aside0.mk (hbT HB12'.out hb13)
        clear hb13
        have s0 := sg_cell (((hbT HBS9.out HB913.out).block _ (blk_lt HS.out)).trans HS.out)
        have HN := Aside0.mk (heap_alloc_new w13 (.cells #[.slice Ac c.length cc, .slice Ad d.length cd] 26))
        have HBn := Aside0.mk (below_alloc (Below.refl w13.heap.size w13) (.cells #[.slice Ac c.length cc, .slice Ad d.length cd] 26))
        go_wp2_with (fail)
        refine (CK3.out _ _ (hbT HW13.out HBn.out) HN.out).mono ?_
        rintro e w14 ⟨rfl, hb14⟩
        have HB1314 := Aside0.mk (hbT HBn.out hb14)
        have HW14 := Aside0.mk (hbT HW13.out HB1314.out)
        clear hb14 s0
        have CI := Aside0.mk (clauseIs_any td V V td A1 A10 c1 c10 _ _ w14 (Kd.F_below HF1.out (hbT HB19.out (hbT HB913.out HB1314.out))) (Kd.F_below HF11.out (hbT HB1213.out HB1314.out)))
        rw [HCI.out] at CI

        go_wp2_with (fail)
        refine CI.out.mono ?_
        rintro e w15 ⟨rfl, hb15⟩
        have HW15 := Aside0.mk (hbT HW14.out hb15)
        clear hb15
        go_wp2
        go_ret
        exact ⟨rfl, HW15.out⟩
    · have hVb := beqF hV
      obtain ⟨rfl, rfl⟩ := V1.out hV
      have HCI : Aside0 (clIs [] V V [] = true) := ⟨by unfold clIs; rw [if_neg hV]; simp [samC, eqF]⟩
      have HF11 : Aside0 (Kd.F kLi w9 (fun _ => True) none ([] : List Li).length []) := ⟨fun W' _ => Kd.C_nil _ _⟩
      have HB911 := Aside0.mk (Below.refl w9.heap.size w9)
      clear hV
      go_upto_region 9 with (fail)
      have HW11 := Aside0.mk (hbT HW9.out HB911.out)
      by_cases hU : U = 0
      · have hUb := beqT hU
        obtain ⟨hsb, ⟨hcl, hok⟩, hfd⟩ := W0.out hU
        have hsz := okC_sz hok
        have CO := Aside0.mk (coversOf_any g c d [] Ac Ad none cc cd 0 _ _ (fun _ => False) w9 hfd (by simp; omega) (fun W' _ => Kd.C_nil _ _) (Nat.le_refl _) (Kd.F_below HF.out HW11.out) hc (Kd.F_below HD.out HW11.out))
        rw [show bds [] = [] from rfl, ← hsb] at CO
        simp only [List.length_nil] at CO
        clear hsb hcl hok hfd hsz hU
        go_upto_region 11 with (go_at_call 17; refine CO.out.mono ?_; rintro e w12 ⟨rfl, hb12⟩; have HB12' := Aside0.mk hb12; clear hb12)
        have HB912 := Aside0.mk (hbT HB911.out HB12'.out)
        clear CO
        have HW12 := Aside0.mk (hbT HW9.out HB912.out)
        go_wp2_with (fail)
        refine (clauseBegun_any _).mono ?_
        rintro e w13 ⟨rfl, hb13⟩
        have HB913 := Aside0.mk (hbT HB912.out hb13)
        have HW13 := Aside0.mk (hbT HW9.out HB913.out)
        have HB1213 := Aside0.mk (hbT HB12'.out hb13)
        clear hb13
        have s0 := sg_cell (((hbT HBS9.out HB913.out).block _ (blk_lt HS.out)).trans HS.out)
        have HN := Aside0.mk (heap_alloc_new w13 (.cells #[.slice Ac c.length cc, .slice Ad d.length cd] 26))
        have HBn := Aside0.mk (below_alloc (Below.refl w13.heap.size w13) (.cells #[.slice Ac c.length cc, .slice Ad d.length cd] 26))
        go_wp2_with (fail)
        refine (CK3.out _ _ (hbT HW13.out HBn.out) HN.out).mono ?_
        rintro e w14 ⟨rfl, hb14⟩
        have HB1314 := Aside0.mk (hbT HBn.out hb14)
        have HW14 := Aside0.mk (hbT HW13.out HB1314.out)
        clear hb14 s0
        have CI := Aside0.mk (clauseIs_any [] V V [] A1 none c1 0 _ _ w14 (Kd.F_below HF1.out (hbT HB19.out (hbT HB913.out HB1314.out))) (Kd.F_below HF11.out (hbT HB1213.out HB1314.out)))
        rw [HCI.out] at CI
        simp only [List.length_nil] at CI
        go_wp2_with (fail)
        refine CI.out.mono ?_
        rintro e w15 ⟨rfl, hb15⟩
        have HW15 := Aside0.mk (hbT HW14.out hb15)
        clear hb15
        go_wp2
        go_ret
        exact ⟨rfl, HW15.out⟩
      · have hUb := beqF hU
        obtain rfl := W1.out hU
        have HB12' := Aside0.mk (Below.refl w9.heap.size w9)
        have HB912 := Aside0.mk (hbT HB911.out HB12'.out)
        clear hU
        go_upto_region 11 with (fail)
        have HW12 := Aside0.mk (hbT HW9.out HB912.out)
        go_wp2_with (fail)
        refine (clauseBegun_any _).mono ?_
        rintro e w13 ⟨rfl, hb13⟩
        have HB913 := Aside0.mk (hbT HB912.out hb13)
        have HW13 := Aside0.mk (hbT HW9.out HB913.out)
        have HB1213 := Aside0.mk (hbT HB12'.out hb13)
        clear hb13
        have s0 := sg_cell (((hbT HBS9.out HB913.out).block _ (blk_lt HS.out)).trans HS.out)
        have HN := Aside0.mk (heap_alloc_new w13 (.cells #[.slice Ac c.length cc, .slice Ad d.length cd] 26))
        have HBn := Aside0.mk (below_alloc (Below.refl w13.heap.size w13) (.cells #[.slice Ac c.length cc, .slice Ad d.length cd] 26))
        go_wp2_with (fail)
        refine (CK3.out _ _ (hbT HW13.out HBn.out) HN.out).mono ?_
        rintro e w14 ⟨rfl, hb14⟩
        have HB1314 := Aside0.mk (hbT HBn.out hb14)
        have HW14 := Aside0.mk (hbT HW13.out HB1314.out)
        clear hb14 s0
        have CI := Aside0.mk (clauseIs_any [] V V [] A1 none c1 0 _ _ w14 (Kd.F_below HF1.out (hbT HB19.out (hbT HB913.out HB1314.out))) (Kd.F_below HF11.out (hbT HB1213.out HB1314.out)))
        rw [HCI.out] at CI
        simp only [List.length_nil] at CI
        go_wp2_with (fail)
        refine CI.out.mono ?_
        rintro e w15 ⟨rfl, hb15⟩
        have HW15 := Aside0.mk (hbT HW14.out hb15)
        clear hb15
        go_wp2
        go_ret
        exact ⟨rfl, HW15.out⟩
end Go.Proofs.Ytcgnpmjkeifokaa
-- LClauseTells
/- ClauseTells: all calls of clauses answer just what the document says, errors too, whatever they are handed: for every input. -/
namespace Go.Proofs.Ytcgnpmjkeifokaa
open Go.RowKit Go.WideShapes Go.ChangeShapes Go.ChangeAt Go.Proofs.YtcgnpmjkeifokaaW.PrintWords
set_option linter.unusedVariables false
set_option linter.unusedSimpArgs false
namespace ClauseTellsRow
theorem own_ : ownKnob Try.prog.godebug = none := by kernel_rfl
theorem laidOut_ : laidOutB Try.prog = true := by kernel_rfl
set_option maxRecDepth 100000 in
theorem lifted (os : Os) (started : os.Started) (H : Type) (enc : TypeId × Value → H) :
    ReturnsInHanded {} Try.checked os 3 .any (Rows.clauseTellsSpec.pre6 enc Try.prog Try.f3 Rows.clauseTellsRow.domain false) (Rows.clauseTellsSpec.post enc Try.prog Try.f3 false true false false) := by
  refine returnsInHanded_of_change_sized (C := Try.checked) own_ started (by kernel_rfl) Try.func3
    (ChangeSpec.witness6 (enc := enc) (C := Try.checked) false ⟨#[], #[.agg #[.slice none 0 0], .slice none 0 0, .slice none 0 0], []⟩ 8 (by kernel_rfl) (by kernel_rfl) (by kernel_rfl) (by kernel_rfl)) ?_
  intro W base args ds gs before hval0 hW hcnd hsz0 _
  have hval : ∀ (j : Nat) t v, Try.f3.params[j]? = some t → args[j]? = some v → Value.okWide Try.prog W .any base t v := hval0
  have hW' := hW
  obtain ⟨p, q, hA0, hV, rfl, hfz, hnd⟩ := hW
  have hA : DataW.TrodAll enc Try.prog W 0 (fun _ => true) true Try.f3.params.toList args.toList ds p := hA0
  rw [Try.params3] at hA hval
  obtain ⟨v0, vs0, d0, ds0, p0, q0, hargs, rfl, rfl, h0, r0⟩ := trodAll_cons hA
  obtain ⟨v1, vs1, d1, ds1, p1, q1, rfl, rfl, rfl, h1, r1⟩ := trodAll_cons r0
  obtain ⟨v2, vs2, d2, ds2, p2, q2, rfl, rfl, rfl, h2, r2⟩ := trodAll_cons r1
  obtain ⟨rfl, rfl, rfl⟩ := trodAll_nil r2
  obtain rfl : args = #[v0, v1, v2] := by cases args; simp_all
  obtain ⟨rfl, rfl⟩ := trodVars_none hV
  obtain ⟨x0, A0, c0, rfl, l0, G0⟩ := arg_sg (hval 0 24 v0 rfl rfl) h0
  obtain ⟨x1, A1, c1, rfl, l1, G1⟩ := arg_cl (hval 1 26 v1 rfl rfl) h1
  obtain ⟨x2, A2, c2, rfl, l2, G2⟩ := arg_cl (hval 2 26 v2 rfl rfl) h2
  have lt0 : ∀ x ∈ p0, x.block < W.heap.size := by obtain ⟨m, hm⟩ := h0; exact DataW.trod_lt m _ _ _ hm
  have lt1 : ∀ x ∈ p1, x.block < W.heap.size := by obtain ⟨m, hm⟩ := h1; exact DataW.trod_lt m _ _ _ hm
  have lt2 : ∀ x ∈ p2, x.block < W.heap.size := by obtain ⟨m, hm⟩ := h2; exact DataW.trod_lt m _ _ _ hm
  clear hA0 hval0 hsz0
  refine (clauseTells_any x0 A0 c0 x1 A1 c1 _ x2 A2 c2 _ W G0 G1 l1 G2 l2).mono fun e W' ⟨he, bel⟩ => ?_
  subst he
  exact ⟨_, rfl, _, _, _, [], _, [], hW', trodAll_mk1 (shut_bool Try.underlying4 _), (trodAll_cons_mk (Below.trod laidOut_ (by kernel_rfl) (of_decide_eq_true (by kernel_rfl)) h0 bel lt0) (trodAll_cons_mk (Below.trod laidOut_ (by kernel_rfl) (of_decide_eq_true (by kernel_rfl)) h1 bel lt1) (trodAll_cons_mk (Below.trod laidOut_ (by kernel_rfl) (of_decide_eq_true (by kernel_rfl)) h2 bel lt2) trodAll_mk0))), rfl, bel.frame _, fun h => by cases h⟩
theorem over : Rows.clauseTellsRow.holds Try.pinned (OpenSpec.ofChange Rows.clauseTellsSpec) :=
  OpenClaim.holds_of_wide 3 Try.f3 rfl rfl rfl rfl rfl rfl rfl ⟨rfl, rfl, rfl, rfl, rfl⟩ rfl rfl rfl rfl rfl (by kernel_rfl) Try.func3 (by kernel_rfl)
    (of_decide_eq_true (by kernel_rfl)) (by unfold Func.isWrapper; first | (rw [if_pos (by decide +kernel)]; kernel_rfl) | (rw [if_neg (by decide +kernel)]; exact ⟨rfl, rfl⟩))
    (fun os started H enc _ => lifted os started H enc)
end ClauseTellsRow
/-- The statement. -/
theorem clauseTells_holds : Rows.ClauseTellsSaid := ClauseTellsRow.over
#print axioms clauseTells_holds
end Go.Proofs.Ytcgnpmjkeifokaa
