/- ModelHangs: in a model in which a clause holds all hold that it subsumes, and those that are always hold in all; a clause tidied holds just if it did: for every input. Part 5: the walks and plain laws that it uses. -/
import Derived.Test.YtcgnpmjkeifokaaRows
import Derived.Test.YtcgnpmjkeifokaaChecked
import Derived.ChangeAt
import Derived.Test.YtcgnpmjkeifokaaMMH4
-- K82
/- model.Value, where nothing is wrong. -/
namespace Go.Proofs.Ytcgnpmjkeifokaa
open Go.RowKit Go.Proofs.YtcgnpmjkeifokaaW.PrintWords
set_option linter.unusedVariables false
set_option linter.unusedSimpArgs false
def gtL (n v : Int) : Bool := decide (n < v)
set_option maxHeartbeats 4000000 in
set_option maxRecDepth 100000 in
theorem value1_any (vars : List Int) (v : Int) (A : Option Addr) (c b : Nat) (W : World) (hb : W.heap[b]? = some (.cells #[.slice A vars.length c] 22 (0, 0))) (hl : vars.length ≤ 9223372036854775807) :
    Calls Try.prog 112 #[.int .i64 v, .pointer (some ⟨b, 0, none⟩)] W fun e w' => e = .returned (.bool (gtL vars.length v)) ∧ Below W.heap.size W w' := by
  have s0 := sg_cell hb
  clear hb
  go_enter Try.func112, Try.ntmps112
  go_wp2
  go_ret
  exact ⟨rfl, Below.refl _ _⟩
set_option maxHeartbeats 4000000 in
set_option maxRecDepth 100000 in
theorem value2_any (sz n : Int) (A : Option Addr) (k c b : Nat) (W : World) (hb : W.heap[b]? = some (.cells #[.int .i64 sz, .slice A k c] 62 (0, 0))) :
    Calls Try.prog 113 #[.int .i64 n, .pointer (some ⟨b, 0, none⟩)] W fun e w' => e = .returned (.bool (offB sz n)) ∧ Below W.heap.size W w' := by
  obtain ⟨s0, s1⟩ := md_cells hb
  clear hb
  by_cases h1 : n < 0
  · have HR : Aside0 (offB sz n = true) := ⟨decide_eq_true (.inl h1)⟩
    go_enter Try.func113, Try.ntmps113
    go_wp2
    go_ret
    exact ⟨ret_bool HR.out.symm, Below.refl _ _⟩
  · by_cases h2 : sz ≤ n
    · have HR : Aside0 (offB sz n = true) := ⟨decide_eq_true (.inr h2)⟩
      go_enter Try.func113, Try.ntmps113
      go_wp2
      go_ret
      exact ⟨ret_bool HR.out.symm, Below.refl _ _⟩
    · have HR : Aside0 (offB sz n = false) := ⟨decide_eq_false (by omega)⟩
      go_enter Try.func113, Try.ntmps113
      go_wp2
      go_ret
      exact ⟨ret_bool HR.out.symm, Below.refl _ _⟩
def varF (vars : List Int) (v : Int) : Int := vars.getD (v.toNat - 1) 0
set_option maxHeartbeats 4000000 in
set_option maxRecDepth 100000 in
theorem value3_any (vars : List Int) (v : Int) (A : Option Addr) (c b : Nat) (W : World) (hb : W.heap[b]? = some (.cells #[.slice A vars.length c] 22 (0, 0))) (hC : Kd.C (Kd.int .i64) W A vars.length vars) (h1 : 1 ≤ v) (h2 : v ≤ vars.length) :
    Calls Try.prog 114 #[.int .i64 v, .pointer (some ⟨b, 0, none⟩)] W fun e w' => e = .returned (.int .i64 (varF vars v)) ∧ Below W.heap.size W w' := by
  have hlen := hC.2.1
  have s0 := sg_cell hb
  obtain ⟨ad, rfl, E0⟩ := at_Int hC (v - 1) (by omega) (by omega)
  have HR : Aside0 (vars.getD (v.toNat - 1) 0 = varF vars v) := ⟨rfl⟩
  rw [show (v - 1).toNat = v.toNat - 1 by omega] at E0
  clear hb hC
  rw [HR.out] at E0
  generalize varF vars v = r at *
  have hw1 : IntKind.i64.wrap (v - 1) = v - 1 := IntWalk.i64_in _ (by omega)
  go_enter Try.func114, Try.ntmps114
  go_wp2
  go_ret
  exact ⟨rfl, Below.refl _ _⟩
set_option maxHeartbeats 4000000 in
set_option maxRecDepth 100000 in
theorem valueOk_any (g : List Int) (Ag : Option Addr) (cg : Nat) (sz : Int) (tabs : List (List Int)) (At : Option Addr) (ct : Nat) (okm : Nat → Prop) (t : Tm) (A : Option Addr) (c : Nat) (okt : Nat → Prop) (vars : List Int) (Av : Option Addr) (cv : Nat) (w : World) (hG : Kd.C (Kd.int .i64) w Ag g.length g) (hFm : Kd.F kIs w okm At tabs.length tabs) (hF : Kd.F kTm w okt A t.f2.length t.f2) (hc : t.f2.length ≤ c) (hV : Kd.C (Kd.int .i64) w Av vars.length vars)
    (hm : mdE g sz tabs = 0) (ht : chkT g t = 0) (hv : ∀ v ∈ stL [] [t], v ≤ vars.length) (hn : ∀ n ∈ vars, 0 ≤ n ∧ n < sz) :
    Calls Try.prog 78 #[.agg #[.slice Ag g.length cg], .agg #[.int .i64 sz, .slice At tabs.length ct], .agg #[.int .i64 t.f0, .int .i64 t.f1, .slice A t.f2.length c], .slice Av vars.length cv] w fun e w' => e = .returned (.tuple #[.int .i64 (valT sz tabs (varF vars) t), .int .i64 0]) ∧ Below w.heap.size w w' := by
  have hlenc := Kd.F_max hF
  have hlv := hV.2.1
  have HF := Aside0.mk hF
  have HG := Aside0.mk hG
  have HFM := Aside0.mk hFm
  have HV := Aside0.mk hV
  clear hF hG hFm hV
  have g0 := blk_alloc (blk_alloc (blk_alloc (newAt (w := w) (o := .cells #[.slice Ag g.length cg] 24) rfl) (.cells #[.int .i64 sz, .slice At tabs.length ct] 62)) (.cells #[.int .i64 t.f0, .int .i64 t.f1, .slice A t.f2.length c] 46)) (.cells #[.slice Av vars.length cv] 22)
  have g1 := blk_alloc (blk_alloc (newAt (w := w.alloc (.cells #[.slice Ag g.length cg] 24)) (o := .cells #[.int .i64 sz, .slice At tabs.length ct] 62) (k := w.heap.size + 1) (by simp)) (.cells #[.int .i64 t.f0, .int .i64 t.f1, .slice A t.f2.length c] 46)) (.cells #[.slice Av vars.length cv] 22)
  have g2 := blk_alloc (newAt (w := (w.alloc (.cells #[.slice Ag g.length cg] 24)).alloc (.cells #[.int .i64 sz, .slice At tabs.length ct] 62)) (o := .cells #[.int .i64 t.f0, .int .i64 t.f1, .slice A t.f2.length c] 46) (k := w.heap.size + 2) (by simp)) (.cells #[.slice Av vars.length cv] 22)
  have g3 := newAt (w := ((w.alloc (.cells #[.slice Ag g.length cg] 24)).alloc (.cells #[.int .i64 sz, .slice At tabs.length ct] 62)).alloc (.cells #[.int .i64 t.f0, .int .i64 t.f1, .slice A t.f2.length c] 46)) (o := .cells #[.slice Av vars.length cv] 22) (k := w.heap.size + 3) (by simp)
  have HB := Aside0.mk (below_alloc (below_alloc (below_alloc (below_alloc (Below.refl w.heap.size w) (.cells #[.slice Ag g.length cg] 24)) (.cells #[.int .i64 sz, .slice At tabs.length ct] 62)) (.cells #[.int .i64 t.f0, .int .i64 t.f1, .slice A t.f2.length c] 46)) (.cells #[.slice Av vars.length cv] 22))
  go_enter Try.func78, Try.ntmps78
  go_upto_region 1 with (fail)
  generalize (((w.alloc (.cells #[.slice Ag g.length cg] 24)).alloc (.cells #[.int .i64 sz, .slice At tabs.length ct] 62)).alloc (.cells #[.int .i64 t.f0, .int .i64 t.f1, .slice A t.f2.length c] 46)).alloc (.cells #[.slice Av vars.length cv] 22) = W at *
  have HS := Aside0.mk g0
  have HM := Aside0.mk g1
  have HT := Aside0.mk g2
  have HVb := Aside0.mk g3
  clear g0 g1 g2 g3
  have MC := Aside0.mk (mdCheck_any g Ag cg sz tabs At ct _ W (Kd.C_below HG.out HB.out) (Kd.F_below HFM.out HB.out))
  rw [hm] at MC
  have s0 := sg_cell HS.out
  obtain ⟨m0, m1⟩ := md_cells HM.out
  go_upto_region 2 with (go_at_call 79; refine MC.out.mono ?_; rintro e w2 ⟨rfl, hb2⟩; have HB2 := Aside0.mk hb2; clear hb2 s0 m0 m1)
  have HW2 := Aside0.mk (hbT HB.out HB2.out)
  have s0 := sg_cell ((HB2.out.block _ (blk_lt HS.out)).trans HS.out)
  obtain ⟨t0, t1, t2⟩ := tm_cells ((HB2.out.block _ (blk_lt HT.out)).trans HT.out)
  have OC := Aside0.mk (own_any g Ag cg t A c w2 (Kd.C_below HG.out HW2.out) (Kd.F_now (Kd.F_below HF.out HW2.out)))
  rw [ht] at OC
  go_upto_region 4 with (go_at_call 74; refine OC.out.mono ?_; rintro e w3 ⟨rfl, hb3⟩; have HB3 := Aside0.mk (hbT HB2.out hb3); clear hb3 s0 t0 t1 t2)
  have HW3 := Aside0.mk (hbT HB.out HB3.out)
  obtain ⟨t0, t1, t2⟩ := tm_cells ((HB3.out.block _ (blk_lt HT.out)).trans HT.out)
  have hok := chkT_ok.1 ht
  have HMD := Aside0.mk (md_ok hm)
  have HHV := Aside0.mk hv
  have HHN := Aside0.mk hn
  have HOK := Aside0.mk hok
  clear MC OC hm ht hv hn hok
  have HL := Aside0.mk (F_lit1 (heap_alloc_new w3 (.cells #[.int .i64 t.f0, .int .i64 t.f1, .slice A t.f2.length c] 46)) (Kd.F_below HF.out (below_alloc HW3.out _)) hc)
  have HSZ : Aside0 (szL [t] ≤ 1000000) := ⟨by have := HOK.out.1; simp [szL]; omega⟩
  have ST := Aside0.mk (stands_any [t] (some ⟨w3.heap.size, 0, none⟩) 1 _ _ HSZ.out HL.out)
  have HBn := Aside0.mk (below_alloc (Below.refl w3.heap.size w3) (.cells #[.int .i64 t.f0, .int .i64 t.f1, .slice A t.f2.length c] 46))
  go_upto_region 6 with (fail)
  go_wp2_with (go_at_call 80; refine ST.out.mono ?_; rintro e w4 ⟨v7, rfl, hN7, hb4⟩; obtain ⟨A7, c7, rfl⟩ := Kd.N_slice hN7; have HN7 := Aside0.mk (Kd.F_now (Kd.N_F hN7)); have HB34 := Aside0.mk (hbT HBn.out hb4); clear hN7 hb4 t0 t1 t2)
  have HB4 := Aside0.mk (hbT HB3.out HB34.out)
  have HVb4 := Aside0.mk ((HB4.out.block _ (blk_lt HVb.out)).trans HVb.out)
  have C1 := Aside0.mk (containsFunc_int 112 #[.pointer (some ⟨w.heap.size + 3, 0, none⟩)] (gtL vars.length) (enters_of Try.func112 (by kernel_rfl) rfl) (stL [] [t]) A7 c7 w4 HN7.out (fun x _ W' hb => value1_any vars x Av cv (w.heap.size + 3) W' ((hb.block _ (blk_lt HVb4.out)).trans HVb4.out) hlv))
  have hany1 : anyB (gtL vars.length) (stL [] [t]) = false := by
    unfold anyB
    cases h : (stL [] [t]).any (gtL vars.length) with
    | false => rfl
    | true =>
      obtain ⟨v, hv, h2⟩ := List.any_eq_true.1 h
      have := HHV.out v hv
      have := of_decide_eq_true h2
      omega
  rw [hany1] at C1
  refine C1.out.mono ?_
  rintro e w5 ⟨rfl, hb5⟩
  have HB5 := Aside0.mk (hbT HB4.out hb5)
  clear hb5 C1 hany1
  have HW5 := Aside0.mk (hbT HB.out HB5.out)
  have s0 := sg_cell ((HB5.out.block _ (blk_lt HVb.out)).trans HVb.out)
  have HM5 := Aside0.mk ((HB5.out.block _ (blk_lt HM.out)).trans HM.out)
  have C2 := Aside0.mk (containsFunc_int 113 #[.pointer (some ⟨w.heap.size + 1, 0, none⟩)] (offB sz) (enters_of Try.func113 (by kernel_rfl) rfl) vars Av cv w5 (Kd.C_below HV.out HW5.out) (fun x _ W' hb => value2_any sz x At tabs.length ct (w.heap.size + 1) W' ((hb.block _ (blk_lt HM5.out)).trans HM5.out)))
  have hany2 : anyB (offB sz) vars = false := by
    unfold anyB
    cases h : vars.any (offB sz) with
    | false => rfl
    | true =>
      obtain ⟨v, hv, h2⟩ := List.any_eq_true.1 h
      have := HHN.out v hv
      have := of_decide_eq_true h2
      omega
  rw [hany2] at C2
  go_wp2_with (fail)
  refine C2.out.mono ?_
  rintro e w6 ⟨rfl, hb6⟩
  have HB6 := Aside0.mk (hbT HB5.out hb6)
  clear hb6 C2 hany2 s0
  have HW6 := Aside0.mk (hbT HB.out HB6.out)
  obtain ⟨m0, m1⟩ := md_cells ((HB6.out.block _ (blk_lt HM.out)).trans HM.out)
  obtain ⟨t0, t1, t2⟩ := tm_cells ((HB6.out.block _ (blk_lt HT.out)).trans HT.out)
  have HVb6 := Aside0.mk ((HB6.out.block _ (blk_lt HVb.out)).trans HVb.out)
  have HDV : Aside0 (DoV 114 #[.pointer (some ⟨w.heap.size + 3, 0, none⟩)] (varF vars) (fun v => 1 ≤ v ∧ v ≤ vars.length) w6) := ⟨fun v W' hv hb => value3_any vars v Av cv (w.heap.size + 3) W' ((hb.block _ (blk_lt HVb6.out)).trans HVb6.out) (Kd.C_below HV.out (hbT HW6.out hb)) hv.1 hv.2⟩
  have VA := Aside0.mk (value_any g sz tabs (varF vars) (fun v => 1 ≤ v ∧ v ≤ vars.length) 114 #[.pointer (some ⟨w.heap.size + 3, 0, none⟩)] (enters_of Try.func114 (by kernel_rfl) rfl) HMD.out (fun v hv => by
    unfold varF
    have hj : v.toNat - 1 < vars.length := by omega
    have e : vars.getD (v.toNat - 1) 0 = vars[v.toNat - 1] := by simp [List.getD_eq_getElem?_getD, hj]
    rw [e]
    exact HHN.out _ (List.getElem_mem _)) w6 HDV.out At ct _ (szT t) t A c _ w6 (Nat.le_refl _) HOK.out.2 (fun x hx hp => by
      refine ⟨by omega, HHV.out _ ?_⟩
      rw [stL_fvL g [t] (fun y hy => by have : y = t := by simpa using hy
                                        subst this; exact HOK.out.2)]
      exact fvL_has _ [] t (by simp) x hx hp) (Below.refl _ _) (Kd.F_below HFM.out HW6.out) (Kd.F_below HF.out HW6.out) hc)
  have HR : Aside0 (∃ r, r = valT sz tabs (varF vars) t) := ⟨_, rfl⟩
  obtain ⟨r, hr⟩ := HR.out
  rw [← hr] at VA
  have HRr := Aside0.mk hr
  clear hr HR
  go_wp2_with (fail)
  refine VA.out.mono ?_
  rintro e w7 ⟨rfl, hb7⟩
  go_wp2
  go_ret2
  exact ⟨by rw [← HRr.out]; rfl, hbT HW6.out hb7⟩
end Go.Proofs.Ytcgnpmjkeifokaa
-- K83
/- superposelaw.modelBegun. -/
namespace Go.Proofs.Ytcgnpmjkeifokaa
open Go.RowKit Go.Proofs.YtcgnpmjkeifokaaW.PrintWords
set_option linter.unusedVariables false
set_option linter.unusedSimpArgs false
def tabS : List (List Int) := [[0], [1, 0]]
def tmS : Tm := ⟨0, 1, [⟨1, 0, []⟩]⟩
def clS : List Li := [⟨false, ⟨0, 1, [⟨1, 0, []⟩]⟩, ⟨1, 0, []⟩⟩]
theorem md_S : mdE [0, 1] 2 tabS = 0 := by rfl
theorem chk_S : chkT [0, 1] tmS = 0 := by rfl
theorem st_S : stL [] [tmS] = [1] := by rfl
theorem val_S : valT 2 tabS (varF [1]) tmS = 0 := by rfl
theorem hldE_S : hldE [0, 1] 2 tabS clS = 0 := by rfl
theorem hldB_S : hldB [0, 1] 2 tabS clS = true := by rfl
theorem FKi (W : World) (ok : Nat → Prop) (x : Int) : Kd.FK (Kd.int .i64) W ok x [.int .i64 x] := fun _ _ => rfl
theorem F_i1 {W : World} {b : Nat} {x : Int} (hb : W.heap[b]? = some (.cells #[.int .i64 x] 3 (0, 0))) : Kd.F (Kd.int .i64) W (fun k => k = b) (some ⟨b, 0, none⟩) 1 [x] :=
  Kd.F_mono (F_lit (d := Kd.int .i64) (ok := fun _ => False) [[.int .i64 x]] hb rfl (by simp) (fun j z c hz hc => by
    match j with
    | 0 => simp at hz hc; subst hz hc; exact FKi _ _ _
    | j + 1 => simp at hz)) (fun k hk => hk.elim False.elim id)
theorem F_i2 {W : World} {b : Nat} {x y : Int} (hb : W.heap[b]? = some (.cells #[.int .i64 x, .int .i64 y] 3 (0, 0))) : Kd.F (Kd.int .i64) W (fun k => k = b) (some ⟨b, 0, none⟩) 2 [x, y] :=
  Kd.F_mono (F_lit (d := Kd.int .i64) (ok := fun _ => False) [[.int .i64 x], [.int .i64 y]] hb rfl (by simp) (fun j z c hz hc => by
    match j with
    | 0 => simp at hz hc; subst hz hc; exact FKi _ _ _
    | 1 => simp at hz hc; subst hz hc; exact FKi _ _ _
    | j + 2 => simp at hz)) (fun k hk => hk.elim False.elim id)
theorem FKis {W : World} {ok : Nat → Prop} {A : Option Addr} {c : Nat} {x : List Int} (hc : x.length ≤ c) (hF : Kd.F (Kd.int .i64) W ok A x.length x) : Kd.FK kIs W ok x [.slice A x.length c] := fun W' hW => ⟨A, c, rfl, hc, hF W' hW⟩
theorem F_tabS {W : World} {b0 b1 b2 : Nat} (h0 : W.heap[b0]? = some (.cells #[.int .i64 0] 3 (0, 0))) (h1 : W.heap[b1]? = some (.cells #[.int .i64 1, .int .i64 0] 3 (0, 0)))
    (h2 : W.heap[b2]? = some (.cells #[.slice (some ⟨b0, 0, none⟩) 1 1, .slice (some ⟨b1, 0, none⟩) 2 2] 22 (0, 0))) : Kd.F kIs W (fun _ => True) (some ⟨b2, 0, none⟩) tabS.length tabS :=
  Kd.F_mono (F_lit (d := kIs) (ok := fun _ => True) [[.slice (some ⟨b0, 0, none⟩) 1 1], [.slice (some ⟨b1, 0, none⟩) 2 2]] h2 rfl (by simp [tabS]) (fun j z c hz hc => by
    match j with
    | 0 => simp [tabS] at hz hc; subst hz hc; exact FKis (x := [0]) (Nat.le_refl _) (Kd.F_mono (F_i1 h0) (fun _ _ => trivial))
    | 1 => simp [tabS] at hz hc; subst hz hc; exact FKis (x := [1, 0]) (Nat.le_refl _) (Kd.F_mono (F_i2 h1) (fun _ _ => trivial))
    | j + 2 => simp [tabS] at hz)) (fun _ _ => trivial)
theorem F_vaS (W : World) : Kd.F kTm W (fun _ => False) none ([] : List Tm).length [] := fun W' _ => Kd.C_nil _ _
theorem value_s (A1 At : Option Addr) (bt bi : Nat) (w : World) (hG : Kd.C (Kd.int .i64) w A1 2 [0, 1]) (hM : Kd.F kIs w (fun _ => True) At tabS.length tabS) (hbt : w.heap[bt]? = some (.cells #[.int .i64 1, .int .i64 0, .slice none 0 0] 46 (0, 0))) (hbi : w.heap[bi]? = some (.cells #[.int .i64 1] 3 (0, 0))) :
    Calls Try.prog 78 #[.agg #[.slice A1 2 2], .agg #[.int .i64 2, .slice At 2 2], .agg #[.int .i64 0, .int .i64 1, .slice (some ⟨bt, 0, none⟩) 1 1], .slice (some ⟨bi, 0, none⟩) 1 1] w fun e w' => e = .returned (.tuple #[.int .i64 0, .int .i64 0]) ∧ Below w.heap.size w w' := by
  have h := valueOk_any [0, 1] A1 2 2 tabS At 2 _ tmS (some ⟨bt, 0, none⟩) 1 _ [1] (some ⟨bi, 0, none⟩) 1 w hG hM (F_lit1 (t := ⟨1, 0, []⟩) hbt (F_vaS w) (Nat.le_refl _)) (Nat.le_refl _) (Kd.F_now (F_i1 hbi)) md_S chk_S (fun v hv => by rw [st_S] at hv; simp at hv; subst hv; decide) (fun n hn => by simp at hn; subst hn; decide)
  rw [val_S] at h
  exact h
theorem check_S (A1 At : Option Addr) (w : World) (hG : Kd.C (Kd.int .i64) w A1 2 [0, 1]) (hM : Kd.F kIs w (fun _ => True) At tabS.length tabS) :
    Calls Try.prog 79 #[.agg #[.slice A1 2 2], .agg #[.int .i64 2, .slice At 2 2]] w fun e w' => e = .returned (.int .i64 0) ∧ Below w.heap.size w w' := by
  have h := mdCheck_any [0, 1] A1 2 2 tabS At 2 _ w hG hM
  rw [md_S] at h
  exact h
theorem holds_S (A1 At : Option Addr) (bt bl : Nat) (w : World) (hG : Kd.C (Kd.int .i64) w A1 2 [0, 1]) (hM : Kd.F kIs w (fun _ => True) At tabS.length tabS) (hbt : w.heap[bt]? = some (.cells #[.int .i64 1, .int .i64 0, .slice none 0 0] 46 (0, 0)))
    (hbl : w.heap[bl]? = some (.cells #[.bool false, .int .i64 0, .int .i64 1, .slice (some ⟨bt, 0, none⟩) 1 1, .int .i64 1, .int .i64 0, .slice none 0 0] 84 (0, 0))) :
    Calls Try.prog 35 #[.agg #[.slice A1 2 2], .agg #[.int .i64 2, .slice At 2 2], .slice (some ⟨bl, 0, none⟩) 1 1] w fun e w' => e = .returned (.tuple #[.bool true, .int .i64 0]) ∧ Below w.heap.size w w' := by
  have h := holds_any [0, 1] A1 2 2 tabS At 2 _ clS (some ⟨bl, 0, none⟩) 1 _ w hG hM (F_li1 (x := ⟨false, ⟨0, 1, [⟨1, 0, []⟩]⟩, ⟨1, 0, []⟩⟩) hbl ⟨Nat.le_refl _, F_lit1 (t := ⟨1, 0, []⟩) hbt (F_vaS w) (Nat.le_refl _), Nat.le_refl _, Kd.F_mono (F_vaS w) (fun _ h => h.elim)⟩) (Nat.le_refl _)
  rw [hldE_S, hldB_S] at h
  exact h
theorem sizeMd : (Try.prog.info? 62).map (·.size) = some 2 := by kernel_rfl
theorem one2 (a : Int) (A : Option Addr) (n c : Nat) : ∀ q ∈ [Value.int .i64 a, .slice A n c], q.oneCell' = true := by
  intro q hq; simp at hq; rcases hq with rfl | rfl <;> rfl
set_option maxHeartbeats 4000000 in
set_option maxRecDepth 100000 in
theorem modelBegun_any (w : World) : Calls Try.prog 34 #[] w fun e w' => e = .returned (.bool true) ∧ Below w.heap.size w w' := by
  have z0 := heap_alloc_new w (.cells #[.int .i64 0] 3)
  have z1 := newAt (w := w.alloc (.cells #[.int .i64 0] 3)) (o := .cells #[.int .i64 1, .int .i64 0] 3) (k := w.heap.size + 1) (by simp)
  have z2 := newAt (w := (w.alloc (.cells #[.int .i64 0] 3)).alloc (.cells #[.int .i64 1, .int .i64 0] 3)) (o := .cells #[.slice (some ⟨w.heap.size, 0, none⟩) 1 1, .slice (some ⟨w.heap.size + 1, 0, none⟩) 2 2] 22) (k := w.heap.size + 1 + 1) (by simp)
  have z3 := newAt (w := ((w.alloc (.cells #[.int .i64 0] 3)).alloc (.cells #[.int .i64 1, .int .i64 0] 3)).alloc (.cells #[.slice (some ⟨w.heap.size, 0, none⟩) 1 1, .slice (some ⟨w.heap.size + 1, 0, none⟩) 2 2] 22)) (o := .cells #[.int .i64 2, .slice (some ⟨w.heap.size + 1 + 1, 0, none⟩) 2 2] 62) (k := w.heap.size + 1 + 1 + 1) (by simp)
  have y0 := blk_alloc (blk_alloc (blk_alloc z0 (.cells #[.int .i64 1, .int .i64 0] 3)) (.cells #[.slice (some ⟨w.heap.size, 0, none⟩) 1 1, .slice (some ⟨w.heap.size + 1, 0, none⟩) 2 2] 22)) (.cells #[.int .i64 2, .slice (some ⟨w.heap.size + 1 + 1, 0, none⟩) 2 2] 62)
  have y1 := blk_alloc (blk_alloc z1 (.cells #[.slice (some ⟨w.heap.size, 0, none⟩) 1 1, .slice (some ⟨w.heap.size + 1, 0, none⟩) 2 2] 22)) (.cells #[.int .i64 2, .slice (some ⟨w.heap.size + 1 + 1, 0, none⟩) 2 2] 62)
  have y2 := blk_alloc z2 (.cells #[.int .i64 2, .slice (some ⟨w.heap.size + 1 + 1, 0, none⟩) 2 2] 62)
  have HF6 := Aside0.mk (F_tabS y0 y1 y2)
  have HS6 := Aside0.mk z3
  have HB6 := Aside0.mk (below_alloc (below_alloc (below_alloc (below_alloc (Below.refl w.heap.size w) (.cells #[.int .i64 0] 3)) (.cells #[.int .i64 1, .int .i64 0] 3)) (.cells #[.slice (some ⟨w.heap.size, 0, none⟩) 1 1, .slice (some ⟨w.heap.size + 1, 0, none⟩) 2 2] 22)) (.cells #[.int .i64 2, .slice (some ⟨w.heap.size + 1 + 1, 0, none⟩) 2 2] 62))
  clear z0 z1 z2 z3 y0 y1 y2
  go_enter Try.func34, Try.ntmps34
  go_upto_region 2 with (fail)
  generalize (((w.alloc (.cells #[.int .i64 0] 3)).alloc (.cells #[.int .i64 1, .int .i64 0] 3)).alloc (.cells #[.slice (some ⟨w.heap.size, 0, none⟩) 1 1, .slice (some ⟨w.heap.size + 1, 0, none⟩) 2 2] 22)).alloc (.cells #[.int .i64 2, .slice (some ⟨w.heap.size + 1 + 1, 0, none⟩) 2 2] 62) = w6 at *
  obtain ⟨m0, m1⟩ := md_cells HS6.out
  generalize w.heap.size + 1 + 1 + 1 = bm at *
  generalize w.heap.size + 1 + 1 = bt2 at *
  have k0 := fun (w' : World) (h : Below w6.heap.size w6 w') => oldc h m0
  have k1 := fun (w' : World) (h : Below w6.heap.size w6 w') => oldc h m1
  clear m0 m1
  refine cutT4 (fun (v11 v14 v15 v16 : Value) (w9 : World) => Below w6.heap.size w6 w9) ?T ?main ?key
  case main =>
    intro key
    refine hd_region 12 0 (fun w' => Below w6.heap.size w6 w') (by kernel_rfl) rfl ?_ (fun _ h => h)
    intro W7 hb7 hz7 hHeld
    clear hb7 hz7
    (refine hd_take (i := 1) (oi := ?oi1) (v := ?v1) ?hi1 (by kernel_rfl) (by kernel_rfl) (by kernel_rfl) (by kernel_rfl) (by decide) ?hq1 ?hw1 ?hy1 hHeld ?hr1; (case hi1 => (simp only [List.getElem?_toArray, List.getElem?_cons_succ, List.getElem?_cons_zero]; rfl)); (case hw1 => rfl); (case hy1 => (intro w hSw; go_simp; try with_reducible rfl)); (case hq1 => exact fun _ _ _ h => h); simp only [Act.put, List.setIfInBounds_toArray, List.set_cons_zero, List.set_cons_succ])
    refine hd_two (i := 0) (j := 5) (oi := ?oi1A) (oj := ?oj1A) ?hi1A ?hj1A (by kernel_rfl) (by decide) (by decide) ?ha1A ?hb1A
    case hi1A => (simp only [List.getElem?_toArray, List.getElem?_cons_succ, List.getElem?_cons_zero]; rfl)
    case hj1A => (simp only [List.getElem?_toArray, List.getElem?_cons_succ, List.getElem?_cons_zero]; rfl)
    case ha1A =>
      intro K hK
      go_simp
      go_at_call 63
      refine (small_any _).mono ?_
      rintro e x2 ⟨A8, rfl, hC8, hb_2⟩
      have Q3 := Aside0.mk hC8
      clear hC8
      have Ghb_2 := Aside0.mk hb_2
      go_simp
      (refine hK.out _ _ ?hS5 (fun hHeld => ?hr5); (case hS5 => exact hbT hHeld hb_2); clear hK K; try simp only [Act.put, List.setIfInBounds_toArray, List.set_cons_zero, List.set_cons_succ])
      refine hd_two (i := 2) (j := 5) (oi := ?oi2A) (oj := ?oj2A) ?hi2A ?hj2A (by kernel_rfl) (by decide) (by decide) ?ha2A ?hb2A
      case hi2A => (simp only [List.getElem?_toArray, List.getElem?_cons_succ, List.getElem?_cons_zero]; rfl)
      case hj2A => (simp only [List.getElem?_toArray, List.getElem?_cons_succ, List.getElem?_cons_zero]; rfl)
      case ha2A =>
        intro K hK
        go_simp
        go_at_call 61
        refine (va_any 1 _).mono ?_
        rintro e x4 ⟨rfl, hb_4⟩
        have Ghb_4 := Aside0.mk hb_4
        have Q5 := Aside0.mk (Kd.C_below Q3.out Ghb_4.out)
        go_simp
        (refine hK.out _ _ ?hS8 (fun hHeld => ?hr8); (case hS8 => exact hbT hHeld hb_4); clear hK K; try simp only [Act.put, List.setIfInBounds_toArray, List.set_cons_zero, List.set_cons_succ])
        refine hd_two (i := 3) (j := 5) (oi := ?oi3A) (oj := ?oj3A) ?hi3A ?hj3A (by kernel_rfl) (by decide) (by decide) ?ha3A ?hb3A
        case hi3A => (simp only [List.getElem?_toArray, List.getElem?_cons_succ, List.getElem?_cons_zero]; rfl)
        case hj3A => (simp only [List.getElem?_toArray, List.getElem?_cons_succ, List.getElem?_cons_zero]; rfl)
        case ha3A =>
          intro K hK
          go_simp
          (refine hK.out _ _ ?hS11 (fun hHeld => ?hr11); (case hS11 => exact below_alloc hHeld _); clear hK K; try simp only [Act.put, List.setIfInBounds_toArray, List.set_cons_zero, List.set_cons_succ])
          have Q7 := Aside0.mk (heap_alloc_new x4 (.cells #[.int .i64 1, .int .i64 0, .slice none 0 0] 46))
          have Gax6 := Aside0.mk (below_alloc (Below.refl x4.heap.size x4) (.cells #[.int .i64 1, .int .i64 0, .slice none 0 0] 46))
          have Q8 := Aside0.mk (Kd.C_below Q5.out Gax6.out)
          generalize x4.alloc (.cells #[.int .i64 1, .int .i64 0, .slice none 0 0] 46) = x6 at *
          skip
          refine hd_two (i := 4) (j := 5) (oi := ?oi4A) (oj := ?oj4A) ?hi4A ?hj4A (by kernel_rfl) (by decide) (by decide) ?ha4A ?hb4A
          case hi4A => (simp only [List.getElem?_toArray, List.getElem?_cons_succ, List.getElem?_cons_zero]; rfl)
          case hj4A => (simp only [List.getElem?_toArray, List.getElem?_cons_succ, List.getElem?_cons_zero]; rfl)
          case ha4A =>
            intro K hK
            go_simp
            go_at_call 62
            refine (fn_any 1 _ _ _ _).mono ?_
            rintro e x9 ⟨rfl, hb_9⟩
            have Ghb_9 := Aside0.mk hb_9
            have Q10 := Aside0.mk (Kd.C_below Q8.out Ghb_9.out)
            have Q11 := Aside0.mk ((Ghb_9.out.block _ (blk_lt Q7.out)).trans Q7.out)
            go_simp
            (refine hK.out _ _ ?hS14 (fun hHeld => ?hr14); (case hS14 => exact hbT hHeld hb_9); clear hK K; try simp only [Act.put, List.setIfInBounds_toArray, List.set_cons_zero, List.set_cons_succ])
            (refine hd_one (i := 5) (oi := ?oi15) ?hi15 (by kernel_rfl) (by decide) ?hr15; (case hi15 => (simp only [List.getElem?_toArray, List.getElem?_cons_succ, List.getElem?_cons_zero]; rfl)); intro K hK)
            go_simp
            (refine hK.out _ _ ?hS17 (fun hHeld => ?hr17); (case hS17 => exact below_alloc hHeld _); clear hK K; try simp only [Act.put, List.setIfInBounds_toArray, List.set_cons_zero, List.set_cons_succ])
            have Q13 := Aside0.mk (heap_alloc_new x9 (.cells #[.int .i64 1] 3))
            have Gax12 := Aside0.mk (below_alloc (Below.refl x9.heap.size x9) (.cells #[.int .i64 1] 3))
            have Q14 := Aside0.mk (Kd.C_below Q10.out Gax12.out)
            have Q15 := Aside0.mk ((Gax12.out.block _ (blk_lt Q11.out)).trans Q11.out)
            generalize x9.alloc (.cells #[.int .i64 1] 3) = x12 at *
            skip
            (refine hd_one (i := 6) (oi := ?oi18) ?hi18 (by kernel_rfl) (by decide) ?hr18; (case hi18 => (simp only [List.getElem?_toArray, List.getElem?_cons_succ, List.getElem?_cons_zero]; rfl)); intro K hK)
            go_simp
            go_at_call 78
            refine (value_s A8 (some ⟨bt2, 0, none⟩) _ _ _ Q14.out (Kd.F_below HF6.out hHeld) Q15.out Q13.out).mono ?_
            rintro e x16 ⟨rfl, hb_16⟩
            have Ghb_16 := Aside0.mk hb_16
            have Q17 := Aside0.mk (Kd.C_below Q14.out Ghb_16.out)
            have Q18 := Aside0.mk ((Ghb_16.out.block _ (blk_lt Q15.out)).trans Q15.out)
            have Q19 := Aside0.mk ((Ghb_16.out.block _ (blk_lt Q13.out)).trans Q13.out)
            go_simp
            (refine hK.out _ _ ?hS20 (fun hHeld => ?hr20); (case hS20 => exact hbT hHeld hb_16); clear hK K; try simp only [Act.put, List.setIfInBounds_toArray, List.set_cons_zero, List.set_cons_succ])
            (refine hd_take (i := 7) (oi := ?oi21) (v := ?v21) ?hi21 (by kernel_rfl) (by kernel_rfl) (by kernel_rfl) (by kernel_rfl) (by decide) ?hq21 ?hw21 ?hy21 hHeld ?hr21; (case hi21 => (simp only [List.getElem?_toArray, List.getElem?_cons_succ, List.getElem?_cons_zero]; rfl)); (case hw21 => rfl); (case hy21 => (intro w hSw; go_simp; try with_reducible rfl)); (case hq21 => exact fun _ _ _ h => h); simp only [Act.put, List.setIfInBounds_toArray, List.set_cons_zero, List.set_cons_succ])
            (refine hd_take (i := 8) (oi := ?oi23) (v := ?v23) ?hi23 (by kernel_rfl) (by kernel_rfl) (by kernel_rfl) (by kernel_rfl) (by decide) ?hq23 ?hw23 ?hy23 hHeld ?hr23; (case hi23 => (simp only [List.getElem?_toArray, List.getElem?_cons_succ, List.getElem?_cons_zero]; rfl)); (case hw23 => rfl); (case hy23 => (intro w hSw; go_simp; try with_reducible rfl)); (case hq23 => exact fun _ _ _ h => h); simp only [Act.put, List.setIfInBounds_toArray, List.set_cons_zero, List.set_cons_succ])
            (refine hd_take (i := 9) (oi := ?oi25) (v := ?v25) ?hi25 (by kernel_rfl) (by kernel_rfl) (by kernel_rfl) (by kernel_rfl) (by decide) ?hq25 ?hw25 ?hy25 hHeld ?hr25; (case hi25 => (simp only [List.getElem?_toArray, List.getElem?_cons_succ, List.getElem?_cons_zero]; rfl)); (case hw25 => rfl); (case hy25 => (intro w hSw; go_simp; try with_reducible rfl)); (case hq25 => exact fun _ _ _ h => h); simp only [Act.put, List.setIfInBounds_toArray, List.set_cons_zero, List.set_cons_succ])
            (refine hd_one (i := 10) (oi := ?oi27) ?hi27 (by kernel_rfl) (by decide) ?hr27; (case hi27 => (simp only [List.getElem?_toArray, List.getElem?_cons_succ, List.getElem?_cons_zero]; rfl)); intro K hK)
            go_simp
            (refine hK.out _ _ ?hS29 (fun hHeld => ?hr29); (case hS29 => exact hHeld); clear hK K; try simp only [Act.put, List.setIfInBounds_toArray, List.set_cons_zero, List.set_cons_succ])
            (refine hd_one (i := 11) (oi := ?oi30) ?hi30 (by kernel_rfl) (by decide) ?hr30; (case hi30 => (simp only [List.getElem?_toArray, List.getElem?_cons_succ, List.getElem?_cons_zero]; rfl)); intro K hK)
            go_simp
            (refine hK.out _ _ ?hS32 (fun hHeld => ?hr32); (case hS32 => exact hHeld); clear hK K; try simp only [Act.put, List.setIfInBounds_toArray, List.set_cons_zero, List.set_cons_succ])
            (refine hd_done (by kernel_rfl) ?_; simp only [List.drop_succ_cons, List.drop_zero])
            have hEnd := hHeld
            clear hHeld
            generalize Value.agg #[Value.slice A8 2 2] = v11
            generalize Value.agg #[Value.int .i64 0, Value.int .i64 1, Value.slice (some ⟨x4.heap.size, 0, none⟩) 1 1] = v15
            generalize Value.slice (some ⟨x4.heap.size, 0, none⟩) 1 1 = v14
            generalize Value.slice (some ⟨x9.heap.size, 0, none⟩) 1 1 = v16
            refine useT (key v11 v14 v15 v16 _ hEnd) ?_
            rfl
          case hb4A =>
            intro K hK
            go_simp
            (refine hK.out _ _ ?hS34 (fun hHeld => ?hr34); (case hS34 => exact below_alloc hHeld _); clear hK K; try simp only [Act.put, List.setIfInBounds_toArray, List.set_cons_zero, List.set_cons_succ])
            have Q10 := Aside0.mk (heap_alloc_new x6 (.cells #[.int .i64 1] 3))
            have Gax9 := Aside0.mk (below_alloc (Below.refl x6.heap.size x6) (.cells #[.int .i64 1] 3))
            have Q11 := Aside0.mk (Kd.C_below Q8.out Gax9.out)
            have Q12 := Aside0.mk ((Gax9.out.block _ (blk_lt Q7.out)).trans Q7.out)
            generalize x6.alloc (.cells #[.int .i64 1] 3) = x9 at *
            skip
            (refine hd_one (i := 4) (oi := ?oi35) ?hi35 (by kernel_rfl) (by decide) ?hr35; (case hi35 => (simp only [List.getElem?_toArray, List.getElem?_cons_succ, List.getElem?_cons_zero]; rfl)); intro K hK)
            go_simp
            go_at_call 62
            refine (fn_any 1 _ _ _ _).mono ?_
            rintro e x13 ⟨rfl, hb_13⟩
            have Ghb_13 := Aside0.mk hb_13
            have Q14 := Aside0.mk (Kd.C_below Q11.out Ghb_13.out)
            have Q15 := Aside0.mk ((Ghb_13.out.block _ (blk_lt Q12.out)).trans Q12.out)
            have Q16 := Aside0.mk ((Ghb_13.out.block _ (blk_lt Q10.out)).trans Q10.out)
            go_simp
            (refine hK.out _ _ ?hS37 (fun hHeld => ?hr37); (case hS37 => exact hbT hHeld hb_13); clear hK K; try simp only [Act.put, List.setIfInBounds_toArray, List.set_cons_zero, List.set_cons_succ])
            (refine hd_one (i := 6) (oi := ?oi38) ?hi38 (by kernel_rfl) (by decide) ?hr38; (case hi38 => (simp only [List.getElem?_toArray, List.getElem?_cons_succ, List.getElem?_cons_zero]; rfl)); intro K hK)
            go_simp
            go_at_call 78
            refine (value_s A8 (some ⟨bt2, 0, none⟩) _ _ _ Q14.out (Kd.F_below HF6.out hHeld) Q15.out Q16.out).mono ?_
            rintro e x17 ⟨rfl, hb_17⟩
            have Ghb_17 := Aside0.mk hb_17
            have Q18 := Aside0.mk (Kd.C_below Q14.out Ghb_17.out)
            have Q19 := Aside0.mk ((Ghb_17.out.block _ (blk_lt Q15.out)).trans Q15.out)
            have Q20 := Aside0.mk ((Ghb_17.out.block _ (blk_lt Q16.out)).trans Q16.out)
            go_simp
            (refine hK.out _ _ ?hS40 (fun hHeld => ?hr40); (case hS40 => exact hbT hHeld hb_17); clear hK K; try simp only [Act.put, List.setIfInBounds_toArray, List.set_cons_zero, List.set_cons_succ])
            (refine hd_take (i := 7) (oi := ?oi41) (v := ?v41) ?hi41 (by kernel_rfl) (by kernel_rfl) (by kernel_rfl) (by kernel_rfl) (by decide) ?hq41 ?hw41 ?hy41 hHeld ?hr41; (case hi41 => (simp only [List.getElem?_toArray, List.getElem?_cons_succ, List.getElem?_cons_zero]; rfl)); (case hw41 => rfl); (case hy41 => (intro w hSw; go_simp; try with_reducible rfl)); (case hq41 => exact fun _ _ _ h => h); simp only [Act.put, List.setIfInBounds_toArray, List.set_cons_zero, List.set_cons_succ])
            (refine hd_take (i := 8) (oi := ?oi43) (v := ?v43) ?hi43 (by kernel_rfl) (by kernel_rfl) (by kernel_rfl) (by kernel_rfl) (by decide) ?hq43 ?hw43 ?hy43 hHeld ?hr43; (case hi43 => (simp only [List.getElem?_toArray, List.getElem?_cons_succ, List.getElem?_cons_zero]; rfl)); (case hw43 => rfl); (case hy43 => (intro w hSw; go_simp; try with_reducible rfl)); (case hq43 => exact fun _ _ _ h => h); simp only [Act.put, List.setIfInBounds_toArray, List.set_cons_zero, List.set_cons_succ])
            (refine hd_take (i := 9) (oi := ?oi45) (v := ?v45) ?hi45 (by kernel_rfl) (by kernel_rfl) (by kernel_rfl) (by kernel_rfl) (by decide) ?hq45 ?hw45 ?hy45 hHeld ?hr45; (case hi45 => (simp only [List.getElem?_toArray, List.getElem?_cons_succ, List.getElem?_cons_zero]; rfl)); (case hw45 => rfl); (case hy45 => (intro w hSw; go_simp; try with_reducible rfl)); (case hq45 => exact fun _ _ _ h => h); simp only [Act.put, List.setIfInBounds_toArray, List.set_cons_zero, List.set_cons_succ])
            (refine hd_one (i := 10) (oi := ?oi47) ?hi47 (by kernel_rfl) (by decide) ?hr47; (case hi47 => (simp only [List.getElem?_toArray, List.getElem?_cons_succ, List.getElem?_cons_zero]; rfl)); intro K hK)
            go_simp
            (refine hK.out _ _ ?hS49 (fun hHeld => ?hr49); (case hS49 => exact hHeld); clear hK K; try simp only [Act.put, List.setIfInBounds_toArray, List.set_cons_zero, List.set_cons_succ])
            (refine hd_one (i := 11) (oi := ?oi50) ?hi50 (by kernel_rfl) (by decide) ?hr50; (case hi50 => (simp only [List.getElem?_toArray, List.getElem?_cons_succ, List.getElem?_cons_zero]; rfl)); intro K hK)
            go_simp
            (refine hK.out _ _ ?hS52 (fun hHeld => ?hr52); (case hS52 => exact hHeld); clear hK K; try simp only [Act.put, List.setIfInBounds_toArray, List.set_cons_zero, List.set_cons_succ])
            (refine hd_done (by kernel_rfl) ?_; simp only [List.drop_succ_cons, List.drop_zero])
            have hEnd := hHeld
            clear hHeld
            refine useT (key (Value.agg #[Value.slice A8 2 2]) (Value.slice (some ⟨x4.heap.size, 0, none⟩) 1 1) (Value.agg #[Value.int .i64 0, Value.int .i64 1, Value.slice (some ⟨x4.heap.size, 0, none⟩) 1 1]) (Value.slice (some ⟨x6.heap.size, 0, none⟩) 1 1) _ hEnd) ?_
            rfl
        case hb3A =>
          intro K hK
          go_simp
          (refine hK.out _ _ ?hS54 (fun hHeld => ?hr54); (case hS54 => exact below_alloc hHeld _); clear hK K; try simp only [Act.put, List.setIfInBounds_toArray, List.set_cons_zero, List.set_cons_succ])
          have Q7 := Aside0.mk (heap_alloc_new x4 (.cells #[.int .i64 1] 3))
          have Gax6 := Aside0.mk (below_alloc (Below.refl x4.heap.size x4) (.cells #[.int .i64 1] 3))
          have Q8 := Aside0.mk (Kd.C_below Q5.out Gax6.out)
          generalize x4.alloc (.cells #[.int .i64 1] 3) = x6 at *
          skip
          (refine hd_one (i := 3) (oi := ?oi55) ?hi55 (by kernel_rfl) (by decide) ?hr55; (case hi55 => (simp only [List.getElem?_toArray, List.getElem?_cons_succ, List.getElem?_cons_zero]; rfl)); intro K hK)
          go_simp
          (refine hK.out _ _ ?hS57 (fun hHeld => ?hr57); (case hS57 => exact below_alloc hHeld _); clear hK K; try simp only [Act.put, List.setIfInBounds_toArray, List.set_cons_zero, List.set_cons_succ])
          have Q10 := Aside0.mk (heap_alloc_new x6 (.cells #[.int .i64 1, .int .i64 0, .slice none 0 0] 46))
          have Gax9 := Aside0.mk (below_alloc (Below.refl x6.heap.size x6) (.cells #[.int .i64 1, .int .i64 0, .slice none 0 0] 46))
          have Q11 := Aside0.mk (Kd.C_below Q8.out Gax9.out)
          have Q12 := Aside0.mk ((Gax9.out.block _ (blk_lt Q7.out)).trans Q7.out)
          generalize x6.alloc (.cells #[.int .i64 1, .int .i64 0, .slice none 0 0] 46) = x9 at *
          skip
          (refine hd_one (i := 4) (oi := ?oi58) ?hi58 (by kernel_rfl) (by decide) ?hr58; (case hi58 => (simp only [List.getElem?_toArray, List.getElem?_cons_succ, List.getElem?_cons_zero]; rfl)); intro K hK)
          go_simp
          go_at_call 62
          refine (fn_any 1 _ _ _ _).mono ?_
          rintro e x13 ⟨rfl, hb_13⟩
          have Ghb_13 := Aside0.mk hb_13
          have Q14 := Aside0.mk (Kd.C_below Q11.out Ghb_13.out)
          have Q15 := Aside0.mk ((Ghb_13.out.block _ (blk_lt Q12.out)).trans Q12.out)
          have Q16 := Aside0.mk ((Ghb_13.out.block _ (blk_lt Q10.out)).trans Q10.out)
          go_simp
          (refine hK.out _ _ ?hS60 (fun hHeld => ?hr60); (case hS60 => exact hbT hHeld hb_13); clear hK K; try simp only [Act.put, List.setIfInBounds_toArray, List.set_cons_zero, List.set_cons_succ])
          (refine hd_one (i := 6) (oi := ?oi61) ?hi61 (by kernel_rfl) (by decide) ?hr61; (case hi61 => (simp only [List.getElem?_toArray, List.getElem?_cons_succ, List.getElem?_cons_zero]; rfl)); intro K hK)
          go_simp
          go_at_call 78
          refine (value_s A8 (some ⟨bt2, 0, none⟩) _ _ _ Q14.out (Kd.F_below HF6.out hHeld) Q16.out Q15.out).mono ?_
          rintro e x17 ⟨rfl, hb_17⟩
          have Ghb_17 := Aside0.mk hb_17
          have Q18 := Aside0.mk (Kd.C_below Q14.out Ghb_17.out)
          have Q19 := Aside0.mk ((Ghb_17.out.block _ (blk_lt Q15.out)).trans Q15.out)
          have Q20 := Aside0.mk ((Ghb_17.out.block _ (blk_lt Q16.out)).trans Q16.out)
          go_simp
          (refine hK.out _ _ ?hS63 (fun hHeld => ?hr63); (case hS63 => exact hbT hHeld hb_17); clear hK K; try simp only [Act.put, List.setIfInBounds_toArray, List.set_cons_zero, List.set_cons_succ])
          (refine hd_take (i := 7) (oi := ?oi64) (v := ?v64) ?hi64 (by kernel_rfl) (by kernel_rfl) (by kernel_rfl) (by kernel_rfl) (by decide) ?hq64 ?hw64 ?hy64 hHeld ?hr64; (case hi64 => (simp only [List.getElem?_toArray, List.getElem?_cons_succ, List.getElem?_cons_zero]; rfl)); (case hw64 => rfl); (case hy64 => (intro w hSw; go_simp; try with_reducible rfl)); (case hq64 => exact fun _ _ _ h => h); simp only [Act.put, List.setIfInBounds_toArray, List.set_cons_zero, List.set_cons_succ])
          (refine hd_take (i := 8) (oi := ?oi66) (v := ?v66) ?hi66 (by kernel_rfl) (by kernel_rfl) (by kernel_rfl) (by kernel_rfl) (by decide) ?hq66 ?hw66 ?hy66 hHeld ?hr66; (case hi66 => (simp only [List.getElem?_toArray, List.getElem?_cons_succ, List.getElem?_cons_zero]; rfl)); (case hw66 => rfl); (case hy66 => (intro w hSw; go_simp; try with_reducible rfl)); (case hq66 => exact fun _ _ _ h => h); simp only [Act.put, List.setIfInBounds_toArray, List.set_cons_zero, List.set_cons_succ])
          (refine hd_take (i := 9) (oi := ?oi68) (v := ?v68) ?hi68 (by kernel_rfl) (by kernel_rfl) (by kernel_rfl) (by kernel_rfl) (by decide) ?hq68 ?hw68 ?hy68 hHeld ?hr68; (case hi68 => (simp only [List.getElem?_toArray, List.getElem?_cons_succ, List.getElem?_cons_zero]; rfl)); (case hw68 => rfl); (case hy68 => (intro w hSw; go_simp; try with_reducible rfl)); (case hq68 => exact fun _ _ _ h => h); simp only [Act.put, List.setIfInBounds_toArray, List.set_cons_zero, List.set_cons_succ])
          (refine hd_one (i := 10) (oi := ?oi70) ?hi70 (by kernel_rfl) (by decide) ?hr70; (case hi70 => (simp only [List.getElem?_toArray, List.getElem?_cons_succ, List.getElem?_cons_zero]; rfl)); intro K hK)
          go_simp
          (refine hK.out _ _ ?hS72 (fun hHeld => ?hr72); (case hS72 => exact hHeld); clear hK K; try simp only [Act.put, List.setIfInBounds_toArray, List.set_cons_zero, List.set_cons_succ])
          (refine hd_one (i := 11) (oi := ?oi73) ?hi73 (by kernel_rfl) (by decide) ?hr73; (case hi73 => (simp only [List.getElem?_toArray, List.getElem?_cons_succ, List.getElem?_cons_zero]; rfl)); intro K hK)
          go_simp
          (refine hK.out _ _ ?hS75 (fun hHeld => ?hr75); (case hS75 => exact hHeld); clear hK K; try simp only [Act.put, List.setIfInBounds_toArray, List.set_cons_zero, List.set_cons_succ])
          (refine hd_done (by kernel_rfl) ?_; simp only [List.drop_succ_cons, List.drop_zero])
          have hEnd := hHeld
          clear hHeld
          refine useT (key (Value.agg #[Value.slice A8 2 2]) (Value.slice (some ⟨x6.heap.size, 0, none⟩) 1 1) (Value.agg #[Value.int .i64 0, Value.int .i64 1, Value.slice (some ⟨x6.heap.size, 0, none⟩) 1 1]) (Value.slice (some ⟨x4.heap.size, 0, none⟩) 1 1) _ hEnd) ?_
          rfl
      case hb2A =>
        intro K hK
        go_simp
        (refine hK.out _ _ ?hS77 (fun hHeld => ?hr77); (case hS77 => exact below_alloc hHeld _); clear hK K; try simp only [Act.put, List.setIfInBounds_toArray, List.set_cons_zero, List.set_cons_succ])
        have Q5 := Aside0.mk (heap_alloc_new x2 (.cells #[.int .i64 1] 3))
        have Gax4 := Aside0.mk (below_alloc (Below.refl x2.heap.size x2) (.cells #[.int .i64 1] 3))
        have Q6 := Aside0.mk (Kd.C_below Q3.out Gax4.out)
        generalize x2.alloc (.cells #[.int .i64 1] 3) = x4 at *
        skip
        (refine hd_one (i := 2) (oi := ?oi78) ?hi78 (by kernel_rfl) (by decide) ?hr78; (case hi78 => (simp only [List.getElem?_toArray, List.getElem?_cons_succ, List.getElem?_cons_zero]; rfl)); intro K hK)
        go_simp
        go_at_call 61
        refine (va_any 1 _).mono ?_
        rintro e x7 ⟨rfl, hb_7⟩
        have Ghb_7 := Aside0.mk hb_7
        have Q8 := Aside0.mk (Kd.C_below Q6.out Ghb_7.out)
        have Q9 := Aside0.mk ((Ghb_7.out.block _ (blk_lt Q5.out)).trans Q5.out)
        go_simp
        (refine hK.out _ _ ?hS80 (fun hHeld => ?hr80); (case hS80 => exact hbT hHeld hb_7); clear hK K; try simp only [Act.put, List.setIfInBounds_toArray, List.set_cons_zero, List.set_cons_succ])
        (refine hd_one (i := 3) (oi := ?oi81) ?hi81 (by kernel_rfl) (by decide) ?hr81; (case hi81 => (simp only [List.getElem?_toArray, List.getElem?_cons_succ, List.getElem?_cons_zero]; rfl)); intro K hK)
        go_simp
        (refine hK.out _ _ ?hS83 (fun hHeld => ?hr83); (case hS83 => exact below_alloc hHeld _); clear hK K; try simp only [Act.put, List.setIfInBounds_toArray, List.set_cons_zero, List.set_cons_succ])
        have Q11 := Aside0.mk (heap_alloc_new x7 (.cells #[.int .i64 1, .int .i64 0, .slice none 0 0] 46))
        have Gax10 := Aside0.mk (below_alloc (Below.refl x7.heap.size x7) (.cells #[.int .i64 1, .int .i64 0, .slice none 0 0] 46))
        have Q12 := Aside0.mk (Kd.C_below Q8.out Gax10.out)
        have Q13 := Aside0.mk ((Gax10.out.block _ (blk_lt Q9.out)).trans Q9.out)
        generalize x7.alloc (.cells #[.int .i64 1, .int .i64 0, .slice none 0 0] 46) = x10 at *
        skip
        (refine hd_one (i := 4) (oi := ?oi84) ?hi84 (by kernel_rfl) (by decide) ?hr84; (case hi84 => (simp only [List.getElem?_toArray, List.getElem?_cons_succ, List.getElem?_cons_zero]; rfl)); intro K hK)
        go_simp
        go_at_call 62
        refine (fn_any 1 _ _ _ _).mono ?_
        rintro e x14 ⟨rfl, hb_14⟩
        have Ghb_14 := Aside0.mk hb_14
        have Q15 := Aside0.mk (Kd.C_below Q12.out Ghb_14.out)
        have Q16 := Aside0.mk ((Ghb_14.out.block _ (blk_lt Q13.out)).trans Q13.out)
        have Q17 := Aside0.mk ((Ghb_14.out.block _ (blk_lt Q11.out)).trans Q11.out)
        go_simp
        (refine hK.out _ _ ?hS86 (fun hHeld => ?hr86); (case hS86 => exact hbT hHeld hb_14); clear hK K; try simp only [Act.put, List.setIfInBounds_toArray, List.set_cons_zero, List.set_cons_succ])
        (refine hd_one (i := 6) (oi := ?oi87) ?hi87 (by kernel_rfl) (by decide) ?hr87; (case hi87 => (simp only [List.getElem?_toArray, List.getElem?_cons_succ, List.getElem?_cons_zero]; rfl)); intro K hK)
        go_simp
        go_at_call 78
        refine (value_s A8 (some ⟨bt2, 0, none⟩) _ _ _ Q15.out (Kd.F_below HF6.out hHeld) Q17.out Q16.out).mono ?_
        rintro e x18 ⟨rfl, hb_18⟩
        have Ghb_18 := Aside0.mk hb_18
        have Q19 := Aside0.mk (Kd.C_below Q15.out Ghb_18.out)
        have Q20 := Aside0.mk ((Ghb_18.out.block _ (blk_lt Q16.out)).trans Q16.out)
        have Q21 := Aside0.mk ((Ghb_18.out.block _ (blk_lt Q17.out)).trans Q17.out)
        go_simp
        (refine hK.out _ _ ?hS89 (fun hHeld => ?hr89); (case hS89 => exact hbT hHeld hb_18); clear hK K; try simp only [Act.put, List.setIfInBounds_toArray, List.set_cons_zero, List.set_cons_succ])
        (refine hd_take (i := 7) (oi := ?oi90) (v := ?v90) ?hi90 (by kernel_rfl) (by kernel_rfl) (by kernel_rfl) (by kernel_rfl) (by decide) ?hq90 ?hw90 ?hy90 hHeld ?hr90; (case hi90 => (simp only [List.getElem?_toArray, List.getElem?_cons_succ, List.getElem?_cons_zero]; rfl)); (case hw90 => rfl); (case hy90 => (intro w hSw; go_simp; try with_reducible rfl)); (case hq90 => exact fun _ _ _ h => h); simp only [Act.put, List.setIfInBounds_toArray, List.set_cons_zero, List.set_cons_succ])
        (refine hd_take (i := 8) (oi := ?oi92) (v := ?v92) ?hi92 (by kernel_rfl) (by kernel_rfl) (by kernel_rfl) (by kernel_rfl) (by decide) ?hq92 ?hw92 ?hy92 hHeld ?hr92; (case hi92 => (simp only [List.getElem?_toArray, List.getElem?_cons_succ, List.getElem?_cons_zero]; rfl)); (case hw92 => rfl); (case hy92 => (intro w hSw; go_simp; try with_reducible rfl)); (case hq92 => exact fun _ _ _ h => h); simp only [Act.put, List.setIfInBounds_toArray, List.set_cons_zero, List.set_cons_succ])
        (refine hd_take (i := 9) (oi := ?oi94) (v := ?v94) ?hi94 (by kernel_rfl) (by kernel_rfl) (by kernel_rfl) (by kernel_rfl) (by decide) ?hq94 ?hw94 ?hy94 hHeld ?hr94; (case hi94 => (simp only [List.getElem?_toArray, List.getElem?_cons_succ, List.getElem?_cons_zero]; rfl)); (case hw94 => rfl); (case hy94 => (intro w hSw; go_simp; try with_reducible rfl)); (case hq94 => exact fun _ _ _ h => h); simp only [Act.put, List.setIfInBounds_toArray, List.set_cons_zero, List.set_cons_succ])
        (refine hd_one (i := 10) (oi := ?oi96) ?hi96 (by kernel_rfl) (by decide) ?hr96; (case hi96 => (simp only [List.getElem?_toArray, List.getElem?_cons_succ, List.getElem?_cons_zero]; rfl)); intro K hK)
        go_simp
        (refine hK.out _ _ ?hS98 (fun hHeld => ?hr98); (case hS98 => exact hHeld); clear hK K; try simp only [Act.put, List.setIfInBounds_toArray, List.set_cons_zero, List.set_cons_succ])
        (refine hd_one (i := 11) (oi := ?oi99) ?hi99 (by kernel_rfl) (by decide) ?hr99; (case hi99 => (simp only [List.getElem?_toArray, List.getElem?_cons_succ, List.getElem?_cons_zero]; rfl)); intro K hK)
        go_simp
        (refine hK.out _ _ ?hS101 (fun hHeld => ?hr101); (case hS101 => exact hHeld); clear hK K; try simp only [Act.put, List.setIfInBounds_toArray, List.set_cons_zero, List.set_cons_succ])
        (refine hd_done (by kernel_rfl) ?_; simp only [List.drop_succ_cons, List.drop_zero])
        have hEnd := hHeld
        clear hHeld
        refine useT (key (Value.agg #[Value.slice A8 2 2]) (Value.slice (some ⟨x7.heap.size, 0, none⟩) 1 1) (Value.agg #[Value.int .i64 0, Value.int .i64 1, Value.slice (some ⟨x7.heap.size, 0, none⟩) 1 1]) (Value.slice (some ⟨x2.heap.size, 0, none⟩) 1 1) _ hEnd) ?_
        rfl
    case hb1A =>
      intro K hK
      go_simp
      (refine hK.out _ _ ?hS103 (fun hHeld => ?hr103); (case hS103 => exact below_alloc hHeld _); clear hK K; try simp only [Act.put, List.setIfInBounds_toArray, List.set_cons_zero, List.set_cons_succ])
      have Q2 := Aside0.mk (heap_alloc_new W7 (.cells #[.int .i64 1] 3))
      have Gax1 := Aside0.mk (below_alloc (Below.refl W7.heap.size W7) (.cells #[.int .i64 1] 3))
      generalize W7.alloc (.cells #[.int .i64 1] 3) = x1 at *
      skip
      (refine hd_one (i := 0) (oi := ?oi104) ?hi104 (by kernel_rfl) (by decide) ?hr104; (case hi104 => (simp only [List.getElem?_toArray, List.getElem?_cons_succ, List.getElem?_cons_zero]; rfl)); intro K hK)
      go_simp
      go_at_call 63
      refine (small_any _).mono ?_
      rintro e x4 ⟨A8, rfl, hC8, hb_4⟩
      have Q6 := Aside0.mk hC8
      clear hC8
      have Ghb_4 := Aside0.mk hb_4
      have Q5 := Aside0.mk ((Ghb_4.out.block _ (blk_lt Q2.out)).trans Q2.out)
      go_simp
      (refine hK.out _ _ ?hS106 (fun hHeld => ?hr106); (case hS106 => exact hbT hHeld hb_4); clear hK K; try simp only [Act.put, List.setIfInBounds_toArray, List.set_cons_zero, List.set_cons_succ])
      (refine hd_one (i := 2) (oi := ?oi107) ?hi107 (by kernel_rfl) (by decide) ?hr107; (case hi107 => (simp only [List.getElem?_toArray, List.getElem?_cons_succ, List.getElem?_cons_zero]; rfl)); intro K hK)
      go_simp
      go_at_call 61
      refine (va_any 1 _).mono ?_
      rintro e x7 ⟨rfl, hb_7⟩
      have Ghb_7 := Aside0.mk hb_7
      have Q8 := Aside0.mk ((Ghb_7.out.block _ (blk_lt Q5.out)).trans Q5.out)
      have Q9 := Aside0.mk (Kd.C_below Q6.out Ghb_7.out)
      go_simp
      (refine hK.out _ _ ?hS109 (fun hHeld => ?hr109); (case hS109 => exact hbT hHeld hb_7); clear hK K; try simp only [Act.put, List.setIfInBounds_toArray, List.set_cons_zero, List.set_cons_succ])
      (refine hd_one (i := 3) (oi := ?oi110) ?hi110 (by kernel_rfl) (by decide) ?hr110; (case hi110 => (simp only [List.getElem?_toArray, List.getElem?_cons_succ, List.getElem?_cons_zero]; rfl)); intro K hK)
      go_simp
      (refine hK.out _ _ ?hS112 (fun hHeld => ?hr112); (case hS112 => exact below_alloc hHeld _); clear hK K; try simp only [Act.put, List.setIfInBounds_toArray, List.set_cons_zero, List.set_cons_succ])
      have Q11 := Aside0.mk (heap_alloc_new x7 (.cells #[.int .i64 1, .int .i64 0, .slice none 0 0] 46))
      have Gax10 := Aside0.mk (below_alloc (Below.refl x7.heap.size x7) (.cells #[.int .i64 1, .int .i64 0, .slice none 0 0] 46))
      have Q12 := Aside0.mk ((Gax10.out.block _ (blk_lt Q8.out)).trans Q8.out)
      have Q13 := Aside0.mk (Kd.C_below Q9.out Gax10.out)
      generalize x7.alloc (.cells #[.int .i64 1, .int .i64 0, .slice none 0 0] 46) = x10 at *
      skip
      (refine hd_one (i := 4) (oi := ?oi113) ?hi113 (by kernel_rfl) (by decide) ?hr113; (case hi113 => (simp only [List.getElem?_toArray, List.getElem?_cons_succ, List.getElem?_cons_zero]; rfl)); intro K hK)
      go_simp
      go_at_call 62
      refine (fn_any 1 _ _ _ _).mono ?_
      rintro e x14 ⟨rfl, hb_14⟩
      have Ghb_14 := Aside0.mk hb_14
      have Q15 := Aside0.mk ((Ghb_14.out.block _ (blk_lt Q12.out)).trans Q12.out)
      have Q16 := Aside0.mk (Kd.C_below Q13.out Ghb_14.out)
      have Q17 := Aside0.mk ((Ghb_14.out.block _ (blk_lt Q11.out)).trans Q11.out)
      go_simp
      (refine hK.out _ _ ?hS115 (fun hHeld => ?hr115); (case hS115 => exact hbT hHeld hb_14); clear hK K; try simp only [Act.put, List.setIfInBounds_toArray, List.set_cons_zero, List.set_cons_succ])
      (refine hd_one (i := 6) (oi := ?oi116) ?hi116 (by kernel_rfl) (by decide) ?hr116; (case hi116 => (simp only [List.getElem?_toArray, List.getElem?_cons_succ, List.getElem?_cons_zero]; rfl)); intro K hK)
      go_simp
      go_at_call 78
      refine (value_s A8 (some ⟨bt2, 0, none⟩) _ _ _ Q16.out (Kd.F_below HF6.out hHeld) Q17.out Q15.out).mono ?_
      rintro e x18 ⟨rfl, hb_18⟩
      have Ghb_18 := Aside0.mk hb_18
      have Q19 := Aside0.mk ((Ghb_18.out.block _ (blk_lt Q15.out)).trans Q15.out)
      have Q20 := Aside0.mk (Kd.C_below Q16.out Ghb_18.out)
      have Q21 := Aside0.mk ((Ghb_18.out.block _ (blk_lt Q17.out)).trans Q17.out)
      go_simp
      (refine hK.out _ _ ?hS118 (fun hHeld => ?hr118); (case hS118 => exact hbT hHeld hb_18); clear hK K; try simp only [Act.put, List.setIfInBounds_toArray, List.set_cons_zero, List.set_cons_succ])
      (refine hd_take (i := 7) (oi := ?oi119) (v := ?v119) ?hi119 (by kernel_rfl) (by kernel_rfl) (by kernel_rfl) (by kernel_rfl) (by decide) ?hq119 ?hw119 ?hy119 hHeld ?hr119; (case hi119 => (simp only [List.getElem?_toArray, List.getElem?_cons_succ, List.getElem?_cons_zero]; rfl)); (case hw119 => rfl); (case hy119 => (intro w hSw; go_simp; try with_reducible rfl)); (case hq119 => exact fun _ _ _ h => h); simp only [Act.put, List.setIfInBounds_toArray, List.set_cons_zero, List.set_cons_succ])
      (refine hd_take (i := 8) (oi := ?oi121) (v := ?v121) ?hi121 (by kernel_rfl) (by kernel_rfl) (by kernel_rfl) (by kernel_rfl) (by decide) ?hq121 ?hw121 ?hy121 hHeld ?hr121; (case hi121 => (simp only [List.getElem?_toArray, List.getElem?_cons_succ, List.getElem?_cons_zero]; rfl)); (case hw121 => rfl); (case hy121 => (intro w hSw; go_simp; try with_reducible rfl)); (case hq121 => exact fun _ _ _ h => h); simp only [Act.put, List.setIfInBounds_toArray, List.set_cons_zero, List.set_cons_succ])
      (refine hd_take (i := 9) (oi := ?oi123) (v := ?v123) ?hi123 (by kernel_rfl) (by kernel_rfl) (by kernel_rfl) (by kernel_rfl) (by decide) ?hq123 ?hw123 ?hy123 hHeld ?hr123; (case hi123 => (simp only [List.getElem?_toArray, List.getElem?_cons_succ, List.getElem?_cons_zero]; rfl)); (case hw123 => rfl); (case hy123 => (intro w hSw; go_simp; try with_reducible rfl)); (case hq123 => exact fun _ _ _ h => h); simp only [Act.put, List.setIfInBounds_toArray, List.set_cons_zero, List.set_cons_succ])
      (refine hd_one (i := 10) (oi := ?oi125) ?hi125 (by kernel_rfl) (by decide) ?hr125; (case hi125 => (simp only [List.getElem?_toArray, List.getElem?_cons_succ, List.getElem?_cons_zero]; rfl)); intro K hK)
      go_simp
      (refine hK.out _ _ ?hS127 (fun hHeld => ?hr127); (case hS127 => exact hHeld); clear hK K; try simp only [Act.put, List.setIfInBounds_toArray, List.set_cons_zero, List.set_cons_succ])
      (refine hd_one (i := 11) (oi := ?oi128) ?hi128 (by kernel_rfl) (by decide) ?hr128; (case hi128 => (simp only [List.getElem?_toArray, List.getElem?_cons_succ, List.getElem?_cons_zero]; rfl)); intro K hK)
      go_simp
      (refine hK.out _ _ ?hS130 (fun hHeld => ?hr130); (case hS130 => exact hHeld); clear hK K; try simp only [Act.put, List.setIfInBounds_toArray, List.set_cons_zero, List.set_cons_succ])
      (refine hd_done (by kernel_rfl) ?_; simp only [List.drop_succ_cons, List.drop_zero])
      have hEnd := hHeld
      clear hHeld
      refine useT (key (Value.agg #[Value.slice A8 2 2]) (Value.slice (some ⟨x7.heap.size, 0, none⟩) 1 1) (Value.agg #[Value.int .i64 0, Value.int .i64 1, Value.slice (some ⟨x7.heap.size, 0, none⟩) 1 1]) (Value.slice (some ⟨W7.heap.size, 0, none⟩) 1 1) _ hEnd) ?_
      rfl
  case key =>
    intro v11 v14 v15 v16 w9 hB9
    clear k0 k1
    have HB69 := Aside0.mk hB9
    clear hB9
    go_upto_region 3 with (fail)
    obtain ⟨m0, m1⟩ := md_cells ((HB69.out.block _ (blk_lt HS6.out)).trans HS6.out)
    have k0 := fun (w' : World) (h : Below w9.heap.size w9 w') => oldc h m0
    have k1 := fun (w' : World) (h : Below w9.heap.size w9 w') => oldc h m1
    have HF9 := Aside0.mk (Kd.F_below HF6.out HB69.out)
    clear m0 m1
    refine hd_region 14 0 (fun w' => Below w9.heap.size w9 w') (by kernel_rfl) rfl ?_ (fun _ h => h)
    intro W7 hb7 hz7 hHeld
    clear hb7 hz7
    (refine hd_take (i := 1) (oi := ?oi132) (v := ?v132) ?hi132 (by kernel_rfl) (by kernel_rfl) (by kernel_rfl) (by kernel_rfl) (by decide) ?hq132 ?hw132 ?hy132 hHeld ?hr132; (case hi132 => (simp only [List.getElem?_toArray, List.getElem?_cons_succ, List.getElem?_cons_zero]; rfl)); (case hw132 => rfl); (case hy132 => (intro w hSw; go_simp; try with_reducible rfl)); (case hq132 => exact fun _ _ _ h => h); simp only [Act.put, List.setIfInBounds_toArray, List.set_cons_zero, List.set_cons_succ])
    (refine hd_one (i := 0) (oi := ?oi134) ?hi134 (by kernel_rfl) (by decide) ?hr134; (case hi134 => (simp only [List.getElem?_toArray, List.getElem?_cons_succ, List.getElem?_cons_zero]; rfl)); intro K hK)
    go_simp
    go_at_call 63
    refine (small_any _).mono ?_
    rintro e w10 ⟨A10, rfl, hC10, hb10⟩
    have HC10 := Aside0.mk hC10
    clear hC10
    go_simp
    (refine hK.out _ _ ?hS136 (fun hHeld => ?hr136); (case hS136 => exact hbT hHeld hb10); clear hK K; try simp only [Act.put, List.setIfInBounds_toArray, List.set_cons_zero, List.set_cons_succ])
    (refine hd_one (i := 2) (oi := ?oi137) ?hi137 (by kernel_rfl) (by decide) ?hr137; (case hi137 => (simp only [List.getElem?_toArray, List.getElem?_cons_succ, List.getElem?_cons_zero]; rfl)); intro K hK)
    go_simp
    go_at_call 61
    refine (va_any 1 _).mono ?_
    rintro e w11 ⟨rfl, hb11⟩
    have HC11 := Aside0.mk (Kd.C_below HC10.out hb11)
    go_simp
    (refine hK.out _ _ ?hS139 (fun hHeld => ?hr139); (case hS139 => exact hbT hHeld hb11); clear hK K; try simp only [Act.put, List.setIfInBounds_toArray, List.set_cons_zero, List.set_cons_succ])
    (refine hd_one (i := 3) (oi := ?oi140) ?hi140 (by kernel_rfl) (by decide) ?hr140; (case hi140 => (simp only [List.getElem?_toArray, List.getElem?_cons_succ, List.getElem?_cons_zero]; rfl)); intro K hK)
    go_simp
    (refine hK.out _ _ ?hS142 (fun hHeld => ?hr142); (case hS142 => exact below_alloc hHeld _); clear hK K; try simp only [Act.put, List.setIfInBounds_toArray, List.set_cons_zero, List.set_cons_succ])
    have HN11 := Aside0.mk (heap_alloc_new w11 (.cells #[.int .i64 1, .int .i64 0, .slice none 0 0] 46))
    (refine hd_one (i := 4) (oi := ?oi143) ?hi143 (by kernel_rfl) (by decide) ?hr143; (case hi143 => (simp only [List.getElem?_toArray, List.getElem?_cons_succ, List.getElem?_cons_zero]; rfl)); intro K hK)
    go_simp
    go_at_call 62
    refine (fn_any 1 _ _ _ _).mono ?_
    rintro e w12 ⟨rfl, hb12⟩
    have HN12 := Aside0.mk ((hb12.block _ (blk_lt HN11.out)).trans HN11.out)
    have HC12 := Aside0.mk (Kd.C_below HC11.out (hbA (Below.refl _ w11) _ hb12))
    go_simp
    (refine hK.out _ _ ?hS145 (fun hHeld => ?hr145); (case hS145 => exact hbT hHeld hb12); clear hK K; try simp only [Act.put, List.setIfInBounds_toArray, List.set_cons_zero, List.set_cons_succ])
    (refine hd_one (i := 5) (oi := ?oi146) ?hi146 (by kernel_rfl) (by decide) ?hr146; (case hi146 => (simp only [List.getElem?_toArray, List.getElem?_cons_succ, List.getElem?_cons_zero]; rfl)); intro K hK)
    go_simp
    go_at_call 61
    refine (va_any 1 _).mono ?_
    rintro e w13 ⟨rfl, hb13⟩
    have HN13 := Aside0.mk ((hb13.block _ (blk_lt HN12.out)).trans HN12.out)
    have HC13 := Aside0.mk (Kd.C_below HC12.out hb13)
    go_simp
    (refine hK.out _ _ ?hS148 (fun hHeld => ?hr148); (case hS148 => exact hbT hHeld hb13); clear hK K; try simp only [Act.put, List.setIfInBounds_toArray, List.set_cons_zero, List.set_cons_succ])
    (refine hd_take (i := 6) (oi := ?oi149) (v := ?v149) ?hi149 (by kernel_rfl) (by kernel_rfl) (by kernel_rfl) (by kernel_rfl) (by decide) ?hq149 ?hw149 ?hy149 hHeld ?hr149; (case hi149 => (simp only [List.getElem?_toArray, List.getElem?_cons_succ, List.getElem?_cons_zero]; rfl)); (case hw149 => rfl); (case hy149 => (intro w hSw; go_simp; try with_reducible rfl)); (case hq149 => exact fun _ _ _ h => h); simp only [Act.put, List.setIfInBounds_toArray, List.set_cons_zero, List.set_cons_succ])
    (refine hd_one (i := 7) (oi := ?oi151) ?hi151 (by kernel_rfl) (by decide) ?hr151; (case hi151 => (simp only [List.getElem?_toArray, List.getElem?_cons_succ, List.getElem?_cons_zero]; rfl)); intro K hK)
    go_simp
    (refine hK.out _ _ ?hS153 (fun hHeld => ?hr153); (case hS153 => exact below_alloc hHeld _); clear hK K; try simp only [Act.put, List.setIfInBounds_toArray, List.set_cons_zero, List.set_cons_succ])
    have HL13 := Aside0.mk (heap_alloc_new w13 (.cells #[.bool false, .int .i64 0, .int .i64 1, .slice (some ⟨w11.heap.size, 0, none⟩) 1 1, .int .i64 1, .int .i64 0, .slice none 0 0] 84))
    have HBl := Aside0.mk (below_alloc (Below.refl w13.heap.size w13) (.cells #[.bool false, .int .i64 0, .int .i64 1, .slice (some ⟨w11.heap.size, 0, none⟩) 1 1, .int .i64 1, .int .i64 0, .slice none 0 0] 84))
    (refine hd_one (i := 8) (oi := ?oi154) ?hi154 (by kernel_rfl) (by decide) ?hr154; (case hi154 => (simp only [List.getElem?_toArray, List.getElem?_cons_succ, List.getElem?_cons_zero]; rfl)); intro K hK)
    go_simp
    go_at_call 35
    refine (holds_S A10 (some ⟨bt2, 0, none⟩) w11.heap.size w13.heap.size _ (Kd.C_below HC13.out HBl.out) (Kd.F_below HF9.out hHeld) ((HBl.out.block _ (blk_lt HN13.out)).trans HN13.out) HL13.out).mono ?_
    rintro e w14 ⟨rfl, hb14⟩
    go_simp
    (refine hK.out _ _ ?hS156 (fun hHeld => ?hr156); (case hS156 => exact hbT hHeld hb14); clear hK K; try simp only [Act.put, List.setIfInBounds_toArray, List.set_cons_zero, List.set_cons_succ])
    (refine hd_take (i := 9) (oi := ?oi157) (v := ?v157) ?hi157 (by kernel_rfl) (by kernel_rfl) (by kernel_rfl) (by kernel_rfl) (by decide) ?hq157 ?hw157 ?hy157 hHeld ?hr157; (case hi157 => (simp only [List.getElem?_toArray, List.getElem?_cons_succ, List.getElem?_cons_zero]; rfl)); (case hw157 => rfl); (case hy157 => (intro w hSw; go_simp; try with_reducible rfl)); (case hq157 => exact fun _ _ _ h => h); simp only [Act.put, List.setIfInBounds_toArray, List.set_cons_zero, List.set_cons_succ])
    (refine hd_take (i := 10) (oi := ?oi159) (v := ?v159) ?hi159 (by kernel_rfl) (by kernel_rfl) (by kernel_rfl) (by kernel_rfl) (by decide) ?hq159 ?hw159 ?hy159 hHeld ?hr159; (case hi159 => (simp only [List.getElem?_toArray, List.getElem?_cons_succ, List.getElem?_cons_zero]; rfl)); (case hw159 => rfl); (case hy159 => (intro w hSw; go_simp; try with_reducible rfl)); (case hq159 => exact fun _ _ _ h => h); simp only [Act.put, List.setIfInBounds_toArray, List.set_cons_zero, List.set_cons_succ])
    (refine hd_take (i := 11) (oi := ?oi161) (v := ?v161) ?hi161 (by kernel_rfl) (by kernel_rfl) (by kernel_rfl) (by kernel_rfl) (by decide) ?hq161 ?hw161 ?hy161 hHeld ?hr161; (case hi161 => (simp only [List.getElem?_toArray, List.getElem?_cons_succ, List.getElem?_cons_zero]; rfl)); (case hw161 => rfl); (case hy161 => (intro w hSw; go_simp; try with_reducible rfl)); (case hq161 => exact fun _ _ _ h => h); simp only [Act.put, List.setIfInBounds_toArray, List.set_cons_zero, List.set_cons_succ])
    (refine hd_one (i := 12) (oi := ?oi163) ?hi163 (by kernel_rfl) (by decide) ?hr163; (case hi163 => (simp only [List.getElem?_toArray, List.getElem?_cons_succ, List.getElem?_cons_zero]; rfl)); intro K hK)
    go_simp
    (refine hK.out _ _ ?hS165 (fun hHeld => ?hr165); (case hS165 => exact hHeld); clear hK K; try simp only [Act.put, List.setIfInBounds_toArray, List.set_cons_zero, List.set_cons_succ])
    (refine hd_one (i := 13) (oi := ?oi166) ?hi166 (by kernel_rfl) (by decide) ?hr166; (case hi166 => (simp only [List.getElem?_toArray, List.getElem?_cons_succ, List.getElem?_cons_zero]; rfl)); intro K hK)
    go_simp
    (refine hK.out _ _ ?hS168 (fun hHeld => ?hr168); (case hS168 => exact hHeld); clear hK K; try simp only [Act.put, List.setIfInBounds_toArray, List.set_cons_zero, List.set_cons_succ])
    (refine hd_done (by kernel_rfl) ?_; simp only [List.drop_succ_cons, List.drop_zero])
    have HB914 := Aside0.mk hHeld
    clear hHeld k0 k1
    have HB614 := Aside0.mk (hbT HB69.out HB914.out)
    have HF14 := Aside0.mk (Kd.F_below HF6.out HB614.out)
    go_upto_region 4 with (fail)
    obtain ⟨m0, m1⟩ := md_cells ((HB614.out.block _ (blk_lt HS6.out)).trans HS6.out)
    have k0 := fun (w' : World) (h : Below w14.heap.size w14 w') => oldc h m0
    have k1 := fun (w' : World) (h : Below w14.heap.size w14 w') => oldc h m1
    clear m0 m1
    refine hd_region 19 1 (fun w' => Below w14.heap.size w14 w') (by kernel_rfl) rfl ?_ (fun _ h => h)
    intro W7 hb7 hz7 hHeld
    clear hb7 hz7
    (refine hd_take (i := 1) (oi := ?oi170) (v := ?v170) ?hi170 (by kernel_rfl) (by kernel_rfl) (by kernel_rfl) (by kernel_rfl) (by decide) ?hq170 ?hw170 ?hy170 hHeld ?hr170; (case hi170 => (simp only [List.getElem?_toArray, List.getElem?_cons_succ, List.getElem?_cons_zero]; rfl)); (case hw170 => rfl); (case hy170 => (intro w hSw; go_simp; try with_reducible rfl)); (case hq170 => exact fun _ _ _ h => h); simp only [Act.put, List.setIfInBounds_toArray, List.set_cons_zero, List.set_cons_succ])
    (refine hd_one (i := 0) (oi := ?oi172) ?hi172 (by kernel_rfl) (by decide) ?hr172; (case hi172 => (simp only [List.getElem?_toArray, List.getElem?_cons_succ, List.getElem?_cons_zero]; rfl)); intro K hK)
    go_simp
    go_at_call 63
    refine (small_any _).mono ?_
    rintro e w15 ⟨A15, rfl, hC15, hb15⟩
    have HC15 := Aside0.mk hC15
    clear hC15
    go_simp
    (refine hK.out _ _ ?hS174 (fun hHeld => ?hr174); (case hS174 => exact hbT hHeld hb15); clear hK K; try simp only [Act.put, List.setIfInBounds_toArray, List.set_cons_zero, List.set_cons_succ])
    (refine hd_one (i := 2) (oi := ?oi175) ?hi175 (by kernel_rfl) (by decide) ?hr175; (case hi175 => (simp only [List.getElem?_toArray, List.getElem?_cons_succ, List.getElem?_cons_zero]; rfl)); intro K hK)
    go_simp
    go_at_call 79
    refine (check_S A15 (some ⟨bt2, 0, none⟩) _ HC15.out (Kd.F_below HF14.out hHeld)).mono ?_
    rintro e w16 ⟨rfl, hb16⟩
    go_simp
    (refine hK.out _ _ ?hS177 (fun hHeld => ?hr177); (case hS177 => exact hbT hHeld hb16); clear hK K; try simp only [Act.put, List.setIfInBounds_toArray, List.set_cons_zero, List.set_cons_succ])
    (refine hd_take (i := 3) (oi := ?oi178) (v := ?v178) ?hi178 (by kernel_rfl) (by kernel_rfl) (by kernel_rfl) (by kernel_rfl) (by decide) ?hq178 ?hw178 ?hy178 hHeld ?hr178; (case hi178 => (simp only [List.getElem?_toArray, List.getElem?_cons_succ, List.getElem?_cons_zero]; rfl)); (case hw178 => rfl); (case hy178 => (intro w hSw; go_simp; try with_reducible rfl)); (case hq178 => exact fun _ _ _ h => h); simp only [Act.put, List.setIfInBounds_toArray, List.set_cons_zero, List.set_cons_succ])
    (refine hd_take (i := 4) (oi := ?oi180) (v := ?v180) ?hi180 (by kernel_rfl) (by kernel_rfl) (by kernel_rfl) (by kernel_rfl) (by decide) ?hq180 ?hw180 ?hy180 hHeld ?hr180; (case hi180 => (simp only [List.getElem?_toArray, List.getElem?_cons_succ, List.getElem?_cons_zero]; rfl)); (case hw180 => rfl); (case hy180 => (intro w hSw; go_simp; try with_reducible rfl)); (case hq180 => exact fun _ _ _ h => h); simp only [Act.put, List.setIfInBounds_toArray, List.set_cons_zero, List.set_cons_succ])
    (refine hd_take (i := 5) (oi := ?oi182) (v := ?v182) ?hi182 (by kernel_rfl) (by kernel_rfl) (by kernel_rfl) (by kernel_rfl) (by decide) ?hq182 ?hw182 ?hy182 hHeld ?hr182; (case hi182 => (simp only [List.getElem?_toArray, List.getElem?_cons_succ, List.getElem?_cons_zero]; rfl)); (case hw182 => rfl); (case hy182 => (intro w hSw; go_simp; try with_reducible rfl)); (case hq182 => exact fun _ _ _ h => h); simp only [Act.put, List.setIfInBounds_toArray, List.set_cons_zero, List.set_cons_succ])
    (refine hd_take (i := 6) (oi := ?oi184) (v := ?v184) ?hi184 (by kernel_rfl) (by kernel_rfl) (by kernel_rfl) (by kernel_rfl) (by decide) ?hq184 ?hw184 ?hy184 hHeld ?hr184; (case hi184 => (simp only [List.getElem?_toArray, List.getElem?_cons_succ, List.getElem?_cons_zero]; rfl)); (case hw184 => rfl); (case hy184 => (intro w hSw; go_simp; try with_reducible rfl)); (case hq184 => exact fun _ _ _ h => h); simp only [Act.put, List.setIfInBounds_toArray, List.set_cons_zero, List.set_cons_succ])
    (refine hd_take (i := 7) (oi := ?oi186) (v := ?v186) ?hi186 (by kernel_rfl) (by kernel_rfl) (by kernel_rfl) (by kernel_rfl) (by decide) ?hq186 ?hw186 ?hy186 hHeld ?hr186; (case hi186 => (simp only [List.getElem?_toArray, List.getElem?_cons_succ, List.getElem?_cons_zero]; rfl)); (case hw186 => rfl); (case hy186 => (intro w hSw; go_simp; try with_reducible rfl)); (case hq186 => exact fun _ _ _ h => h); simp only [Act.put, List.setIfInBounds_toArray, List.set_cons_zero, List.set_cons_succ])
    (refine hd_take (i := 8) (oi := ?oi188) (v := ?v188) ?hi188 (by kernel_rfl) (by kernel_rfl) (by kernel_rfl) (by kernel_rfl) (by decide) ?hq188 ?hw188 ?hy188 hHeld ?hr188; (case hi188 => (simp only [List.getElem?_toArray, List.getElem?_cons_succ, List.getElem?_cons_zero]; rfl)); (case hw188 => rfl); (case hy188 => (intro w hSw; go_simp; try with_reducible rfl)); (case hq188 => exact fun _ _ _ h => h); simp only [Act.put, List.setIfInBounds_toArray, List.set_cons_zero, List.set_cons_succ])
    (refine hd_take (i := 9) (oi := ?oi190) (v := ?v190) ?hi190 (by kernel_rfl) (by kernel_rfl) (by kernel_rfl) (by kernel_rfl) (by decide) ?hq190 ?hw190 ?hy190 hHeld ?hr190; (case hi190 => (simp only [List.getElem?_toArray, List.getElem?_cons_succ, List.getElem?_cons_zero]; rfl)); (case hw190 => rfl); (case hy190 => (intro w hSw; go_simp; try with_reducible rfl)); (case hq190 => exact fun _ _ _ h => h); simp only [Act.put, List.setIfInBounds_toArray, List.set_cons_zero, List.set_cons_succ])
    (refine hd_take (i := 10) (oi := ?oi192) (v := ?v192) ?hi192 (by kernel_rfl) (by kernel_rfl) (by kernel_rfl) (by kernel_rfl) (by decide) ?hq192 ?hw192 ?hy192 hHeld ?hr192; (case hi192 => (simp only [List.getElem?_toArray, List.getElem?_cons_succ, List.getElem?_cons_zero]; rfl)); (case hw192 => rfl); (case hy192 => (intro w hSw; go_simp; try with_reducible rfl)); (case hq192 => exact fun _ _ _ h => h); simp only [Act.put, List.setIfInBounds_toArray, List.set_cons_zero, List.set_cons_succ])
    (refine hd_take (i := 11) (oi := ?oi194) (v := ?v194) ?hi194 (by kernel_rfl) (by kernel_rfl) (by kernel_rfl) (by kernel_rfl) (by decide) ?hq194 ?hw194 ?hy194 hHeld ?hr194; (case hi194 => (simp only [List.getElem?_toArray, List.getElem?_cons_succ, List.getElem?_cons_zero]; rfl)); (case hw194 => rfl); (case hy194 => (intro w hSw; go_simp; try with_reducible rfl)); (case hq194 => exact fun _ _ _ h => h); simp only [Act.put, List.setIfInBounds_toArray, List.set_cons_zero, List.set_cons_succ])
    (refine hd_take (i := 12) (oi := ?oi196) (v := ?v196) ?hi196 (by kernel_rfl) (by kernel_rfl) (by kernel_rfl) (by kernel_rfl) (by decide) ?hq196 ?hw196 ?hy196 hHeld ?hr196; (case hi196 => (simp only [List.getElem?_toArray, List.getElem?_cons_succ, List.getElem?_cons_zero]; rfl)); (case hw196 => rfl); (case hy196 => (intro w hSw; go_simp; try with_reducible rfl)); (case hq196 => exact fun _ _ _ h => h); simp only [Act.put, List.setIfInBounds_toArray, List.set_cons_zero, List.set_cons_succ])
    (refine hd_take (i := 13) (oi := ?oi198) (v := ?v198) ?hi198 (by kernel_rfl) (by kernel_rfl) (by kernel_rfl) (by kernel_rfl) (by decide) ?hq198 ?hw198 ?hy198 hHeld ?hr198; (case hi198 => (simp only [List.getElem?_toArray, List.getElem?_cons_succ, List.getElem?_cons_zero]; rfl)); (case hw198 => rfl); (case hy198 => (intro w hSw; go_simp; try with_reducible rfl)); (case hq198 => exact fun _ _ _ h => h); simp only [Act.put, List.setIfInBounds_toArray, List.set_cons_zero, List.set_cons_succ])
    (refine hd_take (i := 14) (oi := ?oi200) (v := ?v200) ?hi200 (by kernel_rfl) (by kernel_rfl) (by kernel_rfl) (by kernel_rfl) (by decide) ?hq200 ?hw200 ?hy200 hHeld ?hr200; (case hi200 => (simp only [List.getElem?_toArray, List.getElem?_cons_succ, List.getElem?_cons_zero]; rfl)); (case hw200 => rfl); (case hy200 => (intro w hSw; go_simp; try with_reducible rfl)); (case hq200 => exact fun _ _ _ h => h); simp only [Act.put, List.setIfInBounds_toArray, List.set_cons_zero, List.set_cons_succ])
    (refine hd_take (i := 15) (oi := ?oi202) (v := ?v202) ?hi202 (by kernel_rfl) (by kernel_rfl) (by kernel_rfl) (by kernel_rfl) (by decide) ?hq202 ?hw202 ?hy202 hHeld ?hr202; (case hi202 => (simp only [List.getElem?_toArray, List.getElem?_cons_succ, List.getElem?_cons_zero]; rfl)); (case hw202 => rfl); (case hy202 => (intro w hSw; go_simp; try with_reducible rfl)); (case hq202 => exact fun _ _ _ h => h); simp only [Act.put, List.setIfInBounds_toArray, List.set_cons_zero, List.set_cons_succ])
    (refine hd_take (i := 16) (oi := ?oi204) (v := ?v204) ?hi204 (by kernel_rfl) (by kernel_rfl) (by kernel_rfl) (by kernel_rfl) (by decide) ?hq204 ?hw204 ?hy204 hHeld ?hr204; (case hi204 => (simp only [List.getElem?_toArray, List.getElem?_cons_succ, List.getElem?_cons_zero]; rfl)); (case hw204 => rfl); (case hy204 => (intro w hSw; go_simp; try with_reducible rfl)); (case hq204 => exact fun _ _ _ h => h); simp only [Act.put, List.setIfInBounds_toArray, List.set_cons_zero, List.set_cons_succ])
    (refine hd_take (i := 17) (oi := ?oi206) (v := ?v206) ?hi206 (by kernel_rfl) (by kernel_rfl) (by kernel_rfl) (by kernel_rfl) (by decide) ?hq206 ?hw206 ?hy206 hHeld ?hr206; (case hi206 => (simp only [List.getElem?_toArray, List.getElem?_cons_succ, List.getElem?_cons_zero]; rfl)); (case hw206 => rfl); (case hy206 => (intro w hSw; go_simp; try with_reducible rfl)); (case hq206 => exact fun _ _ _ h => h); simp only [Act.put, List.setIfInBounds_toArray, List.set_cons_zero, List.set_cons_succ])
    (refine hd_take (i := 18) (oi := ?oi208) (v := ?v208) ?hi208 (by kernel_rfl) (by kernel_rfl) (by kernel_rfl) (by kernel_rfl) (by decide) ?hq208 ?hw208 ?hy208 hHeld ?hr208; (case hi208 => (simp only [List.getElem?_toArray, List.getElem?_cons_succ, List.getElem?_cons_zero]; rfl)); (case hw208 => rfl); (case hy208 => (intro w hSw; go_simp; try with_reducible rfl)); (case hq208 => exact fun _ _ _ h => h); simp only [Act.put, List.setIfInBounds_toArray, List.set_cons_zero, List.set_cons_succ])
    (refine hd_done (by kernel_rfl) ?_; simp only [List.drop_succ_cons, List.drop_zero])
    have HBF := Aside0.mk (hbT (hbT HB6.out HB614.out) hHeld)
    clear hHeld k0 k1
    go_wp2
    go_ret
    exact ⟨rfl, HBF.out⟩
end Go.Proofs.Ytcgnpmjkeifokaa
-- K84
/- superposelaw.ModelHangs, its walk. -/
namespace Go.Proofs.Ytcgnpmjkeifokaa
open Go.RowKit Go.Proofs.YtcgnpmjkeifokaaW.PrintWords
set_option linter.unusedVariables false
set_option linter.unusedSimpArgs false
set_option maxHeartbeats 4000000 in
set_option maxRecDepth 100000 in
theorem modelHangs_any (g : List Int) (Ag : Option Addr) (cg : Nat) (sz : Int) (tabs : List (List Int)) (At : Option Addr) (ct : Nat) (okm : Nat → Prop) (c : List Li) (Ac : Option Addr) (cc : Nat) (okc : Nat → Prop) (d : List Li) (Ad : Option Addr) (cd : Nat) (okd : Nat → Prop) (w : World)
    (hG : Kd.C (Kd.int .i64) w Ag g.length g) (hM0 : Kd.F kIs w okm At tabs.length tabs) (hC0 : Kd.F kLi w okc Ac c.length c) (hc : c.length ≤ cc) (hD0 : Kd.F kLi w okd Ad d.length d) (hd : d.length ≤ cd) :
    Calls Try.prog 7 #[.agg #[.slice Ag g.length cg], .agg #[.int .i64 sz, .slice At tabs.length ct], .slice Ac c.length cc, .slice Ad d.length cd] w fun e w' => e = .returned (.bool true) ∧ Below w.heap.size w w' := by
  have HG := Aside0.mk hG
  have HM := Aside0.mk hM0
  have HC := Aside0.mk (Kd.F_mono (Kd.F_bound hC0) (ok' := fun k => k < w.heap.size) (fun _ h => h.2))
  have HD := Aside0.mk (Kd.F_mono (Kd.F_bound hD0) (ok' := fun k => k < w.heap.size) (fun _ h => h.2))
  clear hG hM0 hC0 hD0
  have H1 : Aside0 (∀ W', Below w.heap.size w W' → Calls Try.prog 35 #[.agg #[.slice Ag g.length cg], .agg #[.int .i64 sz, .slice At tabs.length ct], .slice Ac c.length cc] W' fun e w' => e = .returned (.tuple #[.bool (hldB g sz tabs c), .int .i64 (hldE g sz tabs c)]) ∧ Below W'.heap.size W' w') := ⟨fun W' hb => holds_any g Ag cg sz tabs At ct _ c Ac cc _ W' (Kd.C_below HG.out hb) (Kd.F_below HM.out hb) (Kd.F_below HC.out hb) hc⟩
  have H2 : Aside0 (∀ W', Below w.heap.size w W' → Calls Try.prog 35 #[.agg #[.slice Ag g.length cg], .agg #[.int .i64 sz, .slice At tabs.length ct], .slice Ad d.length cd] W' fun e w' => e = .returned (.tuple #[.bool (hldB g sz tabs d), .int .i64 (hldE g sz tabs d)]) ∧ Below W'.heap.size W' w') := ⟨fun W' hb => holds_any g Ag cg sz tabs At ct _ d Ad cd _ W' (Kd.C_below HG.out hb) (Kd.F_below HM.out hb) (Kd.F_below HD.out hb) hd⟩
  have H3 : Aside0 (∀ W' A' c', Below w.heap.size w W' → Kd.F kLi W' (fun _ => True) A' (tidR g c).length (tidR g c) → (tidR g c).length ≤ c' → Calls Try.prog 35 #[.agg #[.slice Ag g.length cg], .agg #[.int .i64 sz, .slice At tabs.length ct], .slice A' (tidR g c).length c'] W' fun e w' => e = .returned (.tuple #[.bool (hldB g sz tabs (tidR g c)), .int .i64 (hldE g sz tabs (tidR g c))]) ∧ Below W'.heap.size W' w') := ⟨fun W' A' c' hb hF hc' => holds_any g Ag cg sz tabs At ct _ (tidR g c) A' c' _ W' (Kd.C_below HG.out hb) (Kd.F_below HM.out hb) hF hc'⟩
  have SU : Aside0 (∀ W', Below w.heap.size w W' → Calls Try.prog 13 #[.agg #[.slice Ag g.length cg], .slice Ac c.length cc, .slice Ad d.length cd] W' fun e w' => e = .returned (.tuple #[.bool (subB g c d), .int .i64 (chkCs g [c, d])]) ∧ Below W'.heap.size W' w') := ⟨fun W' h => subsumes_any g Ag cg c d Ac Ad cc cd _ W' (Kd.C_below HG.out h) (Kd.F_below HC.out h) hc (Kd.F_below HD.out h) hd⟩
  have AL : Aside0 (∀ W', Below w.heap.size w W' → Calls Try.prog 12 #[.agg #[.slice Ag g.length cg], .slice Ac c.length cc] W' fun e w' => e = .returned (.tuple #[.bool (alwR g c), .int .i64 (chkCs g [c])]) ∧ Below W'.heap.size W' w') := ⟨fun W' hb => always_any g Ag cg c Ac cc _ W' (Kd.C_below HG.out hb) (Kd.F_below HC.out hb) hc⟩
  have TI : Aside0 (∀ W', Below w.heap.size w W' → Calls Try.prog 11 #[.agg #[.slice Ag g.length cg], .slice Ac c.length cc] W' fun e w' => ∃ A' c', e = .returned (.tuple #[.slice A' (tidR g c).length c', .int .i64 (chkCs g [c])]) ∧ (tidR g c).length ≤ c' ∧ Kd.F kLi w' (fun k => W'.heap.size ≤ k) A' (tidR g c).length (tidR g c) ∧ Below W'.heap.size W' w') := ⟨fun W' hb => tidy_any g Ag cg c Ac cc _ W' (Kd.C_below HG.out hb) (Kd.F_below HC.out hb) hc⟩
  have LW : Aside0 (hldE g sz tabs c = 0 → hldE g sz tabs d = 0 → chkCs g [c, d] = 0 ∧ chkCs g [c] = 0 ∧ hldE g sz tabs (tidR g c) = 0 ∧ (hldB g sz tabs c = true → subB g c d = true → hldB g sz tabs d = true) ∧ (alwR g c = true → hldB g sz tabs c = true) ∧ hldB g sz tabs (tidR g c) = hldB g sz tabs c) := ⟨fun h1 h2 => hang_all h1 h2⟩
  generalize hldE g sz tabs c = E1 at *
  generalize hldE g sz tabs d = E2 at *
  generalize hldB g sz tabs c = X at *
  generalize hldB g sz tabs d = Y at *
  generalize hldE g sz tabs (tidR g c) = E3 at *
  generalize hldB g sz tabs (tidR g c) = Z at *
  generalize tidR g c = T at *
  generalize subB g c d = S at *
  generalize alwR g c = A at *
  generalize chkCs g [c, d] = U at *
  generalize chkCs g [c] = V at *
  have g0 := blk_alloc (newAt (w := w) (o := .cells #[.slice Ag g.length cg] 24) rfl) (.cells #[.int .i64 sz, .slice At tabs.length ct] 62)
  have g1 := newAt (w := w.alloc (.cells #[.slice Ag g.length cg] 24)) (o := .cells #[.int .i64 sz, .slice At tabs.length ct] 62) (k := w.heap.size + 1) (by simp)
  have HB := Aside0.mk (below_alloc (below_alloc (Below.refl w.heap.size w) (.cells #[.slice Ag g.length cg] 24)) (.cells #[.int .i64 sz, .slice At tabs.length ct] 62))
  go_enter Try.func7, Try.ntmps7
  go_upto_region 1 with (fail)
  generalize (w.alloc (.cells #[.slice Ag g.length cg] 24)).alloc (.cells #[.int .i64 sz, .slice At tabs.length ct] 62) = W at *
  have HS := Aside0.mk g0
  have HMb := Aside0.mk g1
  clear g0 g1
  go_upto_region 3 with (first | (go_at_call 34; refine (modelBegun_any _).mono ?_; rintro e w1 ⟨rfl, hb1⟩; have HB1 := Aside0.mk hb1; clear hb1) | (go_at_call 18; refine (clauseBegun_any _).mono ?_; rintro e w2 ⟨rfl, hb2⟩; have HB2 := Aside0.mk (hbT HB1.out hb2); clear hb2))
  have HW2 := Aside0.mk (hbT HB.out HB2.out)
  have s0 := sg_cell ((HB2.out.block _ (blk_lt HS.out)).trans HS.out)
  obtain ⟨m0, m1⟩ := md_cells ((HB2.out.block _ (blk_lt HMb.out)).trans HMb.out)
  go_upto_region 4 with (go_at_call 35; refine (H1.out w2 HW2.out).mono ?_; rintro e w3 ⟨rfl, hb3⟩; have HB3 := Aside0.mk (hbT HB2.out hb3); clear hb3 s0 m0 m1)
  have HW3 := Aside0.mk (hbT HB.out HB3.out)
  have s0 := sg_cell ((HB3.out.block _ (blk_lt HS.out)).trans HS.out)
  obtain ⟨m0, m1⟩ := md_cells ((HB3.out.block _ (blk_lt HMb.out)).trans HMb.out)
  go_upto_region 5 with (go_at_call 35; refine (H2.out w3 HW3.out).mono ?_; rintro e w4 ⟨rfl, hb4⟩; have HB4 := Aside0.mk (hbT HB3.out hb4); clear hb4 s0 m0 m1)
  have HW4 := Aside0.mk (hbT HB.out HB4.out)
  clear H1 H2
  by_cases h1 : E1 = 0
  · have h1b := bneF h1
    by_cases h2 : E2 = 0
    · have h2b := bneF h2
      obtain ⟨rfl, rfl, rfl, L1, L2, rfl⟩ := LW.out h1 h2
      have LL1 := Aside0.mk L1
      have LL2 := Aside0.mk L2
      clear h1 h2 LW L1 L2
      have s0 := sg_cell ((HB4.out.block _ (blk_lt HS.out)).trans HS.out)
      go_upto_region 8 with (go_at_call 13; refine (SU.out w4 HW4.out).mono ?_; rintro e w5 ⟨rfl, hb5⟩; have HB5 := Aside0.mk (hbT HB4.out hb5); clear hb5 s0)
      have HW5 := Aside0.mk (hbT HB.out HB5.out)
      have s0 := sg_cell ((HB5.out.block _ (blk_lt HS.out)).trans HS.out)
      go_upto_region 9 with (go_at_call 12; refine (AL.out w5 HW5.out).mono ?_; rintro e w6 ⟨rfl, hb6⟩; have HB6 := Aside0.mk (hbT HB5.out hb6); clear hb6 s0)
      have HW6 := Aside0.mk (hbT HB.out HB6.out)
      have s0 := sg_cell ((HB6.out.block _ (blk_lt HS.out)).trans HS.out)
      go_upto_region 10 with (go_at_call 11; refine (TI.out w6 HW6.out).mono ?_; rintro e w7 ⟨A7, c7, rfl, hc7, hF7, hb7⟩; have HF7 := Aside0.mk (Kd.F_mono hF7 (ok' := fun _ => True) (fun _ _ => trivial)); have HB7 := Aside0.mk (hbT HB6.out hb7); clear hF7 hb7 s0)
      have HW7 := Aside0.mk (hbT HB.out HB7.out)
      have s0 := sg_cell ((HB7.out.block _ (blk_lt HS.out)).trans HS.out)
      obtain ⟨m0, m1⟩ := md_cells ((HB7.out.block _ (blk_lt HMb.out)).trans HMb.out)
      go_upto_region 11 with (go_at_call 35; refine (H3.out w7 A7 c7 HW7.out HF7.out hc7).mono ?_; rintro e w8 ⟨rfl, hb8⟩; have HB8 := Aside0.mk (hbT HB7.out hb8); clear hb8 s0 m0 m1)
      have HW8 := Aside0.mk (hbT HB.out HB8.out)
      clear SU AL TI H3
      cases Z with
      | true =>
        cases S with
        | true =>
          obtain rfl := LL1.out rfl rfl
          cases A <;> (go_wp2; go_ret; exact ⟨rfl, HW8.out⟩)
        | false => cases A <;> (go_wp2; go_ret; exact ⟨rfl, HW8.out⟩)
      | false =>
        cases A with
        | true => exact absurd (LL2.out rfl) (by decide)
        | false => go_wp2; go_ret; exact ⟨rfl, HW8.out⟩
    · have h2b := bneT h2
      clear h1 h2 LW
      go_wp2
      go_ret
      exact ⟨rfl, HW4.out⟩
  · have h1b := bneT h1
    clear h1 LW
    go_wp2
    go_ret
    exact ⟨rfl, HW4.out⟩
end Go.Proofs.Ytcgnpmjkeifokaa
-- KRowM
/- The opening of a model that was handed in. -/
namespace Go.Proofs.Ytcgnpmjkeifokaa
open Go.RowKit Go.WideShapes Go.ChangeShapes Go.Proofs.YtcgnpmjkeifokaaW.PrintWords
set_option linter.unusedVariables false
set_option linter.unusedSimpArgs false
section
variable {H : Type} {enc : TypeId × Value → H} {w : World} {spare : Nat → Bool} {held : Bool}
theorem list2 {α : Type} {cs : List α} (h : cs.length = 2) : ∃ a b, cs = [a, b] := by
  match cs, h with
  | [a, b], _ => exact ⟨a, b, rfl⟩
theorem c_tabs : Try.prog.cellsOf 60 = 1 := by kernel_rfl
theorem c_md : Try.prog.cellsOf 62 = 2 := by kernel_rfl
theorem kIs_heap : Kd.Heap kIs := Kd.heap_slice _ (Kd.heap_int .i64)
def kTabs : Kd (List (List Int)) := Kd.slice 22 kIs
def kMd : Kd (Int × List (List Int)) := Kd.pair (Kd.int .i64) kTabs
theorem op_md (n : Nat) : Op enc Try.prog w spare held n kMd 62 := by
  intro fuel cs x hf hx
  obtain ⟨xs, m, rfl, _, hl, hlen, hfs⟩ := DataW.trod_struct Try.underlying62 hx
  have hl3 : cs.length = 2 := hl.trans c_md
  have hx3 : xs.length = 2 := hlen
  obtain ⟨c0, c1, rfl⟩ := list2 hl3
  have h0 : DataW.trod enc Try.prog w 0 spare held m 3 ((([c0, c1] : List Value).drop 0).take (Try.prog.cellsOf 3)) = xs[0]? := hfs 0 _ rfl
  have h1 : DataW.trod enc Try.prog w 0 spare held m 60 ((([c0, c1] : List Value).drop 1).take (Try.prog.cellsOf 60)) = xs[1]? := hfs 1 _ rfl
  rw [c_int] at h0
  rw [c_tabs] at h1
  obtain ⟨z0, e0⟩ := op_fld (op_int (n := m + 1) Try.underlying3) (by omega) h0 (List.getElem?_eq_getElem (by omega)) (c := [c0]) rfl
  obtain ⟨z1, e1⟩ := op_fld (op_slice (n := m + 1) Try.underlying60 c_ints.symm (op_slice (n := m) Try.underlying22 c_int.symm (op_int Try.underlying3))) (m := m) (by omega) h1 (List.getElem?_eq_getElem (by omega)) (c := [c1]) rfl
  exact ⟨(z0, z1), [c0], [c1], rfl, e0, e1⟩
variable {W : World} {base : Nat} {v : Value} {d : DataW H} {p : List MemPlace} {sp : Nat → Bool}
set_option maxRecDepth 100000 in
theorem arg_md (hval : Value.okWide Try.prog W .any base 62 v) (h : DataW.Trod enc Try.prog W 0 sp held 62 v d p) : ∃ (g : Int × List (List Int)) (A : Option Addr) (c : Nat), v = .agg #[.int .i64 g.1, .slice A g.2.length c] ∧ g.2.length ≤ c ∧ Kd.F kIs W (fun _ => True) A g.2.length g.2 := by
  obtain ⟨cs, rfl⟩ := wide_struct Try.underlying62 hval
  obtain ⟨fuel, hf⟩ := h
  obtain ⟨x, a, b, e, h0, A, c, e1, hl, hC⟩ := op_md (fuel + 1) fuel _ _ (Nat.lt_succ_self _) hf
  have h0' : a = [.int .i64 x.1] := h0
  have e' : cs = a ++ b := e
  subst h0' e1 e'
  exact ⟨x, A, c, rfl, hl, Kd.F_mono (Kd.C_F kIs_heap hC) (fun _ _ => trivial)⟩
end
end Go.Proofs.Ytcgnpmjkeifokaa
-- LModelHangs
/- ModelHangs: in a model in which a clause holds all hold that it subsumes, and those that are always hold in all; a clause tidied holds just if it did: for every input. -/
namespace Go.Proofs.Ytcgnpmjkeifokaa
open Go.RowKit Go.WideShapes Go.ChangeShapes Go.ChangeAt Go.Proofs.YtcgnpmjkeifokaaW.PrintWords
set_option linter.unusedVariables false
set_option linter.unusedSimpArgs false
namespace ModelHangsRow
theorem own_ : ownKnob Try.prog.godebug = none := by kernel_rfl
theorem laidOut_ : laidOutB Try.prog = true := by kernel_rfl
set_option maxRecDepth 100000 in
theorem lifted (os : Os) (started : os.Started) (H : Type) (enc : TypeId × Value → H) :
    ReturnsInHanded {} Try.checked os 7 .any (Rows.modelHangsSpec.pre6 enc Try.prog Try.f7 Rows.modelHangsRow.domain false) (Rows.modelHangsSpec.post enc Try.prog Try.f7 false true false false) := by
  refine returnsInHanded_of_change_sized (C := Try.checked) own_ started (by kernel_rfl) Try.func7
    (ChangeSpec.witness6 (enc := enc) (C := Try.checked) false ⟨#[], #[.agg #[.slice none 0 0], .agg #[.int .i64 0, .slice none 0 0], .slice none 0 0, .slice none 0 0], []⟩ 8 (by kernel_rfl) (by kernel_rfl) (by kernel_rfl) (by kernel_rfl)) ?_
  intro W base args ds gs before hval0 hW hcnd hsz0 _
  have hval : ∀ (j : Nat) t v, Try.f7.params[j]? = some t → args[j]? = some v → Value.okWide Try.prog W .any base t v := hval0
  have hW' := hW
  obtain ⟨p, q, hA0, hV, rfl, hfz, hnd⟩ := hW
  have hA : DataW.TrodAll enc Try.prog W 0 (fun _ => true) true Try.f7.params.toList args.toList ds p := hA0
  rw [Try.params7] at hA hval
  obtain ⟨v0, vs0, d0, ds0, p0, q0, hargs, rfl, rfl, h0, r0⟩ := trodAll_cons hA
  obtain ⟨v1, vs1, d1, ds1, p1, q1, rfl, rfl, rfl, h1, r1⟩ := trodAll_cons r0
  obtain ⟨v2, vs2, d2, ds2, p2, q2, rfl, rfl, rfl, h2, r2⟩ := trodAll_cons r1
  obtain ⟨v3, vs3, d3, ds3, p3, q3, rfl, rfl, rfl, h3, r3⟩ := trodAll_cons r2
  obtain ⟨rfl, rfl, rfl⟩ := trodAll_nil r3
  obtain rfl : args = #[v0, v1, v2, v3] := by cases args; simp_all
  obtain ⟨rfl, rfl⟩ := trodVars_none hV
  obtain ⟨x0, A0, c0, rfl, l0, G0⟩ := arg_sg (hval 0 24 v0 rfl rfl) h0
  obtain ⟨x1, A1, c1, rfl, l1, G1⟩ := arg_md (hval 1 62 v1 rfl rfl) h1
  obtain ⟨x2, A2, c2, rfl, l2, G2⟩ := arg_cl (hval 2 26 v2 rfl rfl) h2
  obtain ⟨x3, A3, c3, rfl, l3, G3⟩ := arg_cl (hval 3 26 v3 rfl rfl) h3
  have lt0 : ∀ x ∈ p0, x.block < W.heap.size := by obtain ⟨m, hm⟩ := h0; exact DataW.trod_lt m _ _ _ hm
  have lt1 : ∀ x ∈ p1, x.block < W.heap.size := by obtain ⟨m, hm⟩ := h1; exact DataW.trod_lt m _ _ _ hm
  have lt2 : ∀ x ∈ p2, x.block < W.heap.size := by obtain ⟨m, hm⟩ := h2; exact DataW.trod_lt m _ _ _ hm
  have lt3 : ∀ x ∈ p3, x.block < W.heap.size := by obtain ⟨m, hm⟩ := h3; exact DataW.trod_lt m _ _ _ hm
  clear hA0 hval0 hsz0
  refine (modelHangs_any x0 A0 c0 x1.1 x1.2 A1 c1 _ x2 A2 c2 _ x3 A3 c3 _ W G0 G1 G2 l2 G3 l3).mono fun e W' ⟨he, bel⟩ => ?_
  subst he
  exact ⟨_, rfl, _, _, _, [], _, [], hW', trodAll_mk1 (shut_bool Try.underlying4 _), (trodAll_cons_mk (Below.trod laidOut_ (by kernel_rfl) (of_decide_eq_true (by kernel_rfl)) h0 bel lt0) (trodAll_cons_mk (Below.trod laidOut_ (by kernel_rfl) (of_decide_eq_true (by kernel_rfl)) h1 bel lt1) (trodAll_cons_mk (Below.trod laidOut_ (by kernel_rfl) (of_decide_eq_true (by kernel_rfl)) h2 bel lt2) (trodAll_cons_mk (Below.trod laidOut_ (by kernel_rfl) (of_decide_eq_true (by kernel_rfl)) h3 bel lt3) trodAll_mk0)))), rfl, bel.frame _, fun h => by cases h⟩
theorem over : Rows.modelHangsRow.holds Try.pinned (OpenSpec.ofChange Rows.modelHangsSpec) :=
  OpenClaim.holds_of_wide 7 Try.f7 rfl rfl rfl rfl rfl rfl rfl ⟨rfl, rfl, rfl, rfl, rfl⟩ rfl rfl rfl rfl rfl (by kernel_rfl) Try.func7 (by kernel_rfl)
    (of_decide_eq_true (by kernel_rfl)) (by unfold Func.isWrapper; first | (rw [if_pos (by decide +kernel)]; kernel_rfl) | (rw [if_neg (by decide +kernel)]; exact ⟨rfl, rfl⟩))
    (fun os started H enc _ => lifted os started H enc)
end ModelHangsRow
/-- The statement. -/
theorem modelHangs_holds : Rows.ModelHangsSaid := ModelHangsRow.over
#print axioms modelHangs_holds
end Go.Proofs.Ytcgnpmjkeifokaa
