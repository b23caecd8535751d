/- The walks of tidying, both the document's and the program's. -/
import Derived.Test.YtcgnpmjkeifokaaMCl2
import Derived.Test.YtcgnpmjkeifokaaMCl1
-- K53
/- superposeref.TidyOf. -/
namespace Go.Proofs.Ytcgnpmjkeifokaa
open Go.RowKit Go.Proofs.YtcgnpmjkeifokaaW.PrintWords
set_option linter.unusedVariables false
set_option linter.unusedSimpArgs false

def dupQ (l x : Li) : Bool := x.f0 == l.f0 && sidesB x l
def trivN (l : Li) : Bool := !l.f0 && eqT l.f1 l.f2
def dropB (pre : List Li) (l : Li) : Bool := trivN l || pre.any (dupQ l)
/-- Of the first k literals those that stay. -/
def kpt (c : List Li) : Nat → List Li
  | 0 => []
  | k + 1 => if dropB (c.take k) (rd_Li c k) then kpt c k else kpt c k ++ [rd_Li c k]
theorem kpt_t {c : List Li} {k : Nat} (h : dropB (c.take k) (rd_Li c k) = true) : kpt c (k+1) = kpt c k := by rw [kpt, h]; rfl
theorem kpt_f {c : List Li} {k : Nat} (h : dropB (c.take k) (rd_Li c k) = false) : kpt c (k+1) = kpt c k ++ [rd_Li c k] := by rw [kpt, h]; rfl
theorem kpt_len (c : List Li) (k : Nat) : (kpt c k).length ≤ k := by
  induction k with
  | zero => simp [kpt]
  | succ k ih => rw [kpt]; split <;> (try simp) <;> omega
theorem szTms_append (a b : List Li) : szL (tmsL (a ++ b)) = szL (tmsL a) + szL (tmsL b) := by rw [tmsL_append, szL_append]
theorem kpt_sz (c : List Li) (k : Nat) (hk : k ≤ c.length) : szL (tmsL (kpt c k)) ≤ szL (tmsL (c.take k)) := by
  induction k with
  | zero => exact Nat.le_refl _
  | succ k ih =>
    have := ih (by omega)
    rw [List.take_succ_eq_append_getElem (by omega), szTms_append, kpt]
    split
    · omega
    · rw [szTms_append, rdLi_get c k (by omega)]; omega
theorem tms_take_le (c : List Li) (k : Nat) : szL (tmsL (c.take k)) ≤ szL (tmsL c) := by
  have := szTms_append (c.take k) (c.drop k); rw [List.take_append_drop] at this; omega
/-- The variables numbered anew. -/
def numK (vs : List Int) : Nat → List Bd
  | 0 => []
  | k + 1 => numK vs k ++ [⟨vs.getD k 0, ⟨(k : Int) + 1, 0, []⟩⟩]
theorem numK_len (vs : List Int) (k : Nat) : (numK vs k).length = k := by
  induction k with
  | zero => rfl
  | succ k ih => rw [numK, List.length_append, ih]; rfl
def numB (vs : List Int) : List Bd := numK vs vs.length
def tidyK (c : List Li) : List Li := appC (bds (numB (fvL [] (tmsL c)))) c
def tidyL (c : List Li) : List Li := tidyK (kpt c c.length)
theorem or_step {d0 bj : Bool} {c : List Li} {j : Nat} {q : Li → Bool} (hj : j < c.length) (h : bj = (d0 || (c.take j).any q)) : (d0 || (c.take (j+1)).any q) = (bj || q (rd_Li c j)) := by
  rw [h, List.take_succ_eq_append_getElem hj, List.any_append, rdLi_get c j hj]; simp [Bool.or_assoc]

set_option maxHeartbeats 4000000 in
set_option maxRecDepth 100000 in
theorem tidyOf_any (c : List Li) (Ac : Option Addr) (cc : Nat) (okc : Nat → Prop) (w : World) (hbd : szL (tmsL c) ≤ 1000000) (hcl : c.length ≤ 1000000) (hC : Kd.F kLi w okc Ac c.length c) :
    Calls Try.prog 15 #[.slice Ac c.length cc] w fun e w' => ∃ A' c', e = .returned (.slice A' (tidyL c).length c') ∧ (tidyL c).length ≤ c' ∧ Kd.F kLi w' (fun _ => True) A' (tidyL c).length (tidyL c) ∧ Below w.heap.size w w' := by
  have hlen := Kd.F_max hC
  have HC := Aside0.mk (Kd.F_bound hC)
  have HBD := Aside0.mk hbd
  have HCL := Aside0.mk hcl
  clear hC hbd hcl
  go_enter Try.func15, Try.ntmps15
  go_wp2
  go_loopw [3, 4] (fun v0 i wr => ∃ (k : Nat) (vk : Value), k ≤ c.length ∧ i = .int .i64 k ∧ vk = v0 ∧ Aside0 (Kd.N kLi 84 wr w.heap.size (fun k => (okc k ∧ k < w.heap.size) ∨ w.heap.size ≤ k) vk (kpt c k)) ∧ Aside0 (Below w.heap.size w wr)) (fun _ i _ => c.length - (intOf i).toNat)
  case atStart => exact ⟨0, _, by omega, rfl, rfl, ⟨Kd.N_nil _ _ _ _ _⟩, ⟨Below.refl _ _⟩⟩
  case round =>
    rename World => wo
    obtain ⟨k, vk, hk, rfl, rfl, HN, HB⟩ := hrel
    have hzr := HB.out.size
    have HZR := Aside0.mk hzr
    by_cases hlt : k < c.length
    · obtain ⟨ad, A3, c3, A6, c6, rfl, E0, E1, E2, E3, E4, E5, E6, hL, hok0⟩ := at_Lit (Kd.F_below HC.out HB.out) k hlt
      have HL := Aside0.mk hL
      have HKt := Aside0.mk (kpt_t (c := c) (k := k))
      have HKf := Aside0.mk (kpt_f (c := c) (k := k))
      have HKL := Aside0.mk (kpt_len c k)
      have hki : (k : Int) < c.length := by omega
      clear hL hzr
      generalize hl : rd_Li c k = l at *
      have HLL := Aside0.mk hl
      clear hl
      have X0 := Aside0.mk E0
      have X1 := Aside0.mk E1
      have X2 := Aside0.mk E2
      have X3 := Aside0.mk E3
      have X4 := Aside0.mk E4
      have X5 := Aside0.mk E5
      have X6 := Aside0.mk E6
      have r1 := fun d os => cell_regrown E1 d os
      have r2 := fun d os => cell_regrown E2 d os
      have r3 := fun d os => cell_regrown E3 d os
      have r4 := fun d os => cell_regrown E4 d os
      have r5 := fun d os => cell_regrown E5 d os
      have r6 := fun d os => cell_regrown E6 d os
      have SS : Aside0 (∀ W', Below wo.heap.size wo W' → Calls Try.prog 33 #[.agg #[.int .i64 l.f1.f0, .int .i64 l.f1.f1, .slice A3 l.f1.f2.length c3], .agg #[.int .i64 l.f2.f0, .int .i64 l.f2.f1, .slice A6 l.f2.f2.length c6]] W' fun e w' => e = .returned (.bool (eqT l.f1 l.f2)) ∧ Below W'.heap.size W' w') := ⟨fun W' hb => sameTerm_any (szT l.f1) l.f1 l.f2 A3 A6 c3 c6 _ _ W' (Nat.le_refl _) (Kd.F_below HL.out.F3 hb) HL.out.l3 (Kd.F_below HL.out.F6 hb) HL.out.l6⟩
-- GEN
      cases hy : l.f0 with
      | true =>
        have HTV : Aside0 (trivN l = false) := ⟨by unfold trivN; rw [hy]; rfl⟩
        rw [hy] at E0
        have r0 := fun d os => cell_regrown E0 d os
        clear hy
        go_upto_region 5 with (fail)
        clear E0 E1 E2 E3 E4 E5 E6
        (refine wq_draws (by kernel_rfl) (by kernel_rfl) ?_; (repeat (refine wq_step (fun K hK => ?_); go_simp; first | (refine hK _ ?_; clear hK K) | (apply Exists.intro; refine ⟨fun _ => ?_, hK _ ?_⟩; ((fail)); clear hK K))); refine wq_nil ?_; intro W2 hbW2)
        have HBW := Aside0.mk hbW2
        clear hbW2 r0 r1 r2 r3 r4 r5 r6 SS
        have HB0W := Aside0.mk (hbT HB.out HBW.out)
        go_wp2
        go_loopw [5, 6] (fun v5 i wr => ∃ (j : Nat) (bj : Bool), j ≤ k ∧ i = .int .i64 j ∧ v5 = .bool bj ∧ Aside0 (bj = (trivN l || (c.take j).any (dupQ l))) ∧ Aside0 (Below wo.heap.size wo wr)) (fun _ i _ => k - (intOf i).toNat)
        case atStart => exact ⟨0, _, by omega, rfl, rfl, ⟨by rw [HTV.out]; simp⟩, HBW⟩
        case round =>
          obtain ⟨j, bj, hj, rfl, rfl, HJ, HBj⟩ := hrel
          have HBwj := Aside0.mk (hbT HB.out HBj.out)
          by_cases hjk : j < k
          · have hjl : j < c.length := by omega
            obtain ⟨ad2, B3, d3, B6, d6, hA2, G0, G1, G2, G3, G4, G5, G6, hX, _⟩ := at_Lit (Kd.F_below HC.out HBwj.out) j hjl
            injection hA2 with hA2
            subst hA2
            have HX := Aside0.mk hX
            have HST := Aside0.mk (or_step hjl HJ.out)
            have hji : (j : Int) < c.length := by omega
            have hjk2 : (j : Int) < k := by omega
            clear hX
            generalize rd_Li c j = x at *
            have hq0 := G0
            have q0 := fun d os => cell_regrown G0 d os
            have q1 := fun d os => cell_regrown G1 d os
            have q2 := fun d os => cell_regrown G2 d os
            have q3 := fun d os => cell_regrown G3 d os
            have q4 := fun d os => cell_regrown G4 d os
            have q5 := fun d os => cell_regrown G5 d os
            have q6 := fun d os => cell_regrown G6 d os
            have r0 := fun d os => cell_regrown (oldc HBj.out X0.out) d os
            have r1 := fun d os => cell_regrown (oldc HBj.out X1.out) d os
            have r2 := fun d os => cell_regrown (oldc HBj.out X2.out) d os
            have r3 := fun d os => cell_regrown (oldc HBj.out X3.out) d os
            have r4 := fun d os => cell_regrown (oldc HBj.out X4.out) d os
            have r5 := fun d os => cell_regrown (oldc HBj.out X5.out) d os
            have r6 := fun d os => cell_regrown (oldc HBj.out X6.out) d os
            clear hq0 G0 G1 G2 G3 G4 G5 G6
            cases bj with
            | true =>
              go_upto_region 9 with (fail)
              (refine wq_draws (by kernel_rfl) (by kernel_rfl) ?_; (repeat (refine wq_step (fun K hK => ?_); go_simp; first | (refine hK _ ?_; clear hK K) | (apply Exists.intro; refine ⟨fun _ => ?_, hK _ ?_⟩; ((fail)); clear hK K))); refine wq_nil ?_; intro W2 hbW2)
              have HB9 := Aside0.mk (hbT HBj.out hbW2)
              clear hbW2 r0 r1 r2 r3 r4 r5 r6 q0 q1 q2 q3 q4 q5 q6
              have HR : Aside0 (true = (trivN l || (c.take (j+1)).any (dupQ l))) := ⟨by rw [HST.out]; rfl⟩
              go_wp2
              go_roundw
              case rel => exact ⟨j + 1, true, by omega, by go_num, rfl, HR, HB9⟩
              case measure => simp [intOf]; omega
            | false =>
              cases hq : x.f0 == l.f0 with
              | false =>
                have HR : Aside0 (false = (trivN l || (c.take (j+1)).any (dupQ l))) := ⟨by rw [HST.out]; unfold dupQ; rw [hq]; rfl⟩
                go_upto_region 9 with (fail)
                (refine wq_draws (by kernel_rfl) (by kernel_rfl) ?_; (repeat (refine wq_step (fun K hK => ?_); go_simp; first | (refine hK _ ?_; clear hK K) | (apply Exists.intro; refine ⟨fun _ => ?_, hK _ ?_⟩; ((fail)); clear hK K))); refine wq_nil ?_; intro W2 hbW2)
                have HB9 := Aside0.mk (hbT HBj.out hbW2)
                clear hbW2 r0 r1 r2 r3 r4 r5 r6 q0 q1 q2 q3 q4 q5 q6 hq
                go_wp2
                go_roundw
                case rel => exact ⟨j + 1, false, by omega, by go_num, rfl, HR, HB9⟩
                case measure => simp [intOf]; omega
              | true =>
                have HR : Aside0 (sidesB x l = (trivN l || (c.take (j+1)).any (dupQ l))) := ⟨by rw [HST.out]; unfold dupQ; rw [hq]; rfl⟩
                have HL2 := Aside0.mk (HL.out.below HBj.out)
                have S2 : Aside0 (∀ W', Below wr.heap.size wr W' → Calls Try.prog 56 #[.agg #[.bool x.f0, .int .i64 x.f1.f0, .int .i64 x.f1.f1, .slice B3 x.f1.f2.length d3, .int .i64 x.f2.f0, .int .i64 x.f2.f1, .slice B6 x.f2.f2.length d6], .agg #[.bool l.f0, .int .i64 l.f1.f0, .int .i64 l.f1.f1, .slice A3 l.f1.f2.length c3, .int .i64 l.f2.f0, .int .i64 l.f2.f1, .slice A6 l.f2.f2.length c6]] W' fun e w' => e = .returned (.bool (sidesB x l)) ∧ Below W'.heap.size W' w') := ⟨fun W' hb => sameSides_any x l B3 B6 A3 A6 d3 d6 c3 c6 _ _ W' (Kd.F_below HX.out.F3 hb) HX.out.l3 (Kd.F_below HX.out.F6 hb) HX.out.l6 (Kd.F_below HL2.out.F3 hb) HL2.out.l3 (Kd.F_below HL2.out.F6 hb) HL2.out.l6⟩
                go_upto_region 9 with (fail)
                (refine wq_draws (by kernel_rfl) (by kernel_rfl) ?_; (repeat (refine wq_step (fun K hK => ?_); go_simp; first | (refine hK _ ?_; clear hK K) | (apply Exists.intro; refine ⟨fun _ => ?_, hK _ ?_⟩; (((with_reducible refine Calls.regrown_of (S2.out _ (below_regrown _ _ _))))); clear hK K))); refine wq_nil ?_; intro W2 hbW2)
                have HB9 := Aside0.mk (hbT HBj.out hbW2)
                clear hbW2 r0 r1 r2 r3 r4 r5 r6 q0 q1 q2 q3 q4 q5 q6 hq S2
                go_wp2
                go_roundw
                case rel => exact ⟨j + 1, _, by omega, by go_num, rfl, HR, HB9⟩
                case measure => simp [intOf]; omega
          · obtain rfl : j = k := by omega
            have HJD : Aside0 (bj = dropB (c.take j) l) := ⟨HJ.out⟩
            have hjj : ¬ ((j : Int) < j) := by omega
            cases bj with
            | true =>
              have HR : Aside0 (kpt c (j+1) = kpt c j) := ⟨HKt.out HJD.out.symm⟩
              go_wp2
              go_roundw
              case rel => exact ⟨j + 1, _, by omega, by go_num, rfl, ⟨by rw [HR.out]; exact Kd.N_below HN.out HBj.out⟩, HBwj⟩
              case measure => simp [intOf]; omega
            | false =>
              have HR : Aside0 (kpt c (j+1) = kpt c j ++ [l]) := ⟨HKf.out HJD.out.symm⟩
              obtain ⟨Av, cv, rfl⟩ := Kd.N_slice HN.out
              have HNr := Aside0.mk (Kd.N_below HN.out HBj.out)
              have HLr := Aside0.mk (HL.out.below HBj.out)
              have HNB := Aside0.mk (Kd.N_base HN.out)
              have e0 := oldc HBj.out X0.out
              have e1 := oldc HBj.out X1.out
              have e2 := oldc HBj.out X2.out
              have e3 := oldc HBj.out X3.out
              have e4 := oldc HBj.out X4.out
              have e5 := oldc HBj.out X5.out
              have e6 := oldc HBj.out X6.out
              generalize kpt c j = s at *
              go_wp2_with (at_builtin; refine Kd.N_append kLi (w0 := wr) w.heap.size rfl _ _ 26 84 _ 88 rfl Try.underlying26 infoLi rfl (by decide) (by decide) (.slice Av s.length cv) s l _ (fun k => (okc k ∧ k < w.heap.size) ∨ w.heap.size ≤ k) (fun k => okc k ∧ k < w.heap.size) rfl rfl (kLi_mkF wr _ _ HLr.out.l3 HLr.out.F3 HLr.out.l6 HLr.out.F6) (fun q hq => ⟨.inl hq, fun e => by have := HNB.out q e.symm; have := hq.2; omega⟩) (fun q hq => .inr (Nat.le_trans HBwj.out.size hq)) HNr.out (Below.refl _ _) HBwj.out.size ?_ ?_; (have := HKL.out; have := HCL.out; omega); intro v7 w7 hN7 hB7 hG7 hI7; have HN7 := Aside0.mk hN7; have HB7 := Aside0.mk hB7; clear hN7 hB7 hG7 hI7)
              go_roundw
              case rel => exact ⟨j + 1, v7, by omega, by go_num, rfl, ⟨by rw [HR.out]; exact HN7.out⟩, ⟨HBwj.out.trans HB7.out⟩⟩
              case measure => simp [intOf]; omega
      | false =>
        have HTV : Aside0 (trivN l = eqT l.f1 l.f2) := ⟨by unfold trivN; rw [hy]; rfl⟩
        rw [hy] at E0
        have r0 := fun d os => cell_regrown E0 d os
        clear hy
        go_upto_region 5 with (fail)
        clear E0 E1 E2 E3 E4 E5 E6
        (refine wq_draws (by kernel_rfl) (by kernel_rfl) ?_; (repeat (refine wq_step (fun K hK => ?_); go_simp; first | (refine hK _ ?_; clear hK K) | (apply Exists.intro; refine ⟨fun _ => ?_, hK _ ?_⟩; (((with_reducible refine Calls.regrown_of (SS.out _ (below_regrown _ _ _))))); clear hK K))); refine wq_nil ?_; intro W2 hbW2)
        have HBW := Aside0.mk hbW2
        clear hbW2 r0 r1 r2 r3 r4 r5 r6 SS
        have HB0W := Aside0.mk (hbT HB.out HBW.out)
        go_wp2
        go_loopw [5, 6] (fun v5 i wr => ∃ (j : Nat) (bj : Bool), j ≤ k ∧ i = .int .i64 j ∧ v5 = .bool bj ∧ Aside0 (bj = (trivN l || (c.take j).any (dupQ l))) ∧ Aside0 (Below wo.heap.size wo wr)) (fun _ i _ => k - (intOf i).toNat)
        case atStart => exact ⟨0, _, by omega, rfl, rfl, ⟨by rw [HTV.out]; simp⟩, HBW⟩
        case round =>
          obtain ⟨j, bj, hj, rfl, rfl, HJ, HBj⟩ := hrel
          have HBwj := Aside0.mk (hbT HB.out HBj.out)
          by_cases hjk : j < k
          · have hjl : j < c.length := by omega
            obtain ⟨ad2, B3, d3, B6, d6, hA2, G0, G1, G2, G3, G4, G5, G6, hX, _⟩ := at_Lit (Kd.F_below HC.out HBwj.out) j hjl
            injection hA2 with hA2
            subst hA2
            have HX := Aside0.mk hX
            have HST := Aside0.mk (or_step hjl HJ.out)
            have hji : (j : Int) < c.length := by omega
            have hjk2 : (j : Int) < k := by omega
            clear hX
            generalize rd_Li c j = x at *
            have hq0 := G0
            have q0 := fun d os => cell_regrown G0 d os
            have q1 := fun d os => cell_regrown G1 d os
            have q2 := fun d os => cell_regrown G2 d os
            have q3 := fun d os => cell_regrown G3 d os
            have q4 := fun d os => cell_regrown G4 d os
            have q5 := fun d os => cell_regrown G5 d os
            have q6 := fun d os => cell_regrown G6 d os
            have r0 := fun d os => cell_regrown (oldc HBj.out X0.out) d os
            have r1 := fun d os => cell_regrown (oldc HBj.out X1.out) d os
            have r2 := fun d os => cell_regrown (oldc HBj.out X2.out) d os
            have r3 := fun d os => cell_regrown (oldc HBj.out X3.out) d os
            have r4 := fun d os => cell_regrown (oldc HBj.out X4.out) d os
            have r5 := fun d os => cell_regrown (oldc HBj.out X5.out) d os
            have r6 := fun d os => cell_regrown (oldc HBj.out X6.out) d os
            clear hq0 G0 G1 G2 G3 G4 G5 G6
            cases bj with
            | true =>
              go_upto_region 9 with (fail)
              (refine wq_draws (by kernel_rfl) (by kernel_rfl) ?_; (repeat (refine wq_step (fun K hK => ?_); go_simp; first | (refine hK _ ?_; clear hK K) | (apply Exists.intro; refine ⟨fun _ => ?_, hK _ ?_⟩; ((fail)); clear hK K))); refine wq_nil ?_; intro W2 hbW2)
              have HB9 := Aside0.mk (hbT HBj.out hbW2)
              clear hbW2 r0 r1 r2 r3 r4 r5 r6 q0 q1 q2 q3 q4 q5 q6
              have HR : Aside0 (true = (trivN l || (c.take (j+1)).any (dupQ l))) := ⟨by rw [HST.out]; rfl⟩
              go_wp2
              go_roundw
              case rel => exact ⟨j + 1, true, by omega, by go_num, rfl, HR, HB9⟩
              case measure => simp [intOf]; omega
            | false =>
              cases hq : x.f0 == l.f0 with
              | false =>
                have HR : Aside0 (false = (trivN l || (c.take (j+1)).any (dupQ l))) := ⟨by rw [HST.out]; unfold dupQ; rw [hq]; rfl⟩
                go_upto_region 9 with (fail)
                (refine wq_draws (by kernel_rfl) (by kernel_rfl) ?_; (repeat (refine wq_step (fun K hK => ?_); go_simp; first | (refine hK _ ?_; clear hK K) | (apply Exists.intro; refine ⟨fun _ => ?_, hK _ ?_⟩; ((fail)); clear hK K))); refine wq_nil ?_; intro W2 hbW2)
                have HB9 := Aside0.mk (hbT HBj.out hbW2)
                clear hbW2 r0 r1 r2 r3 r4 r5 r6 q0 q1 q2 q3 q4 q5 q6 hq
                go_wp2
                go_roundw
                case rel => exact ⟨j + 1, false, by omega, by go_num, rfl, HR, HB9⟩
                case measure => simp [intOf]; omega
              | true =>
                have HR : Aside0 (sidesB x l = (trivN l || (c.take (j+1)).any (dupQ l))) := ⟨by rw [HST.out]; unfold dupQ; rw [hq]; rfl⟩
                have HL2 := Aside0.mk (HL.out.below HBj.out)
                have S2 : Aside0 (∀ W', Below wr.heap.size wr W' → Calls Try.prog 56 #[.agg #[.bool x.f0, .int .i64 x.f1.f0, .int .i64 x.f1.f1, .slice B3 x.f1.f2.length d3, .int .i64 x.f2.f0, .int .i64 x.f2.f1, .slice B6 x.f2.f2.length d6], .agg #[.bool l.f0, .int .i64 l.f1.f0, .int .i64 l.f1.f1, .slice A3 l.f1.f2.length c3, .int .i64 l.f2.f0, .int .i64 l.f2.f1, .slice A6 l.f2.f2.length c6]] W' fun e w' => e = .returned (.bool (sidesB x l)) ∧ Below W'.heap.size W' w') := ⟨fun W' hb => sameSides_any x l B3 B6 A3 A6 d3 d6 c3 c6 _ _ W' (Kd.F_below HX.out.F3 hb) HX.out.l3 (Kd.F_below HX.out.F6 hb) HX.out.l6 (Kd.F_below HL2.out.F3 hb) HL2.out.l3 (Kd.F_below HL2.out.F6 hb) HL2.out.l6⟩
                go_upto_region 9 with (fail)
                (refine wq_draws (by kernel_rfl) (by kernel_rfl) ?_; (repeat (refine wq_step (fun K hK => ?_); go_simp; first | (refine hK _ ?_; clear hK K) | (apply Exists.intro; refine ⟨fun _ => ?_, hK _ ?_⟩; (((with_reducible refine Calls.regrown_of (S2.out _ (below_regrown _ _ _))))); clear hK K))); refine wq_nil ?_; intro W2 hbW2)
                have HB9 := Aside0.mk (hbT HBj.out hbW2)
                clear hbW2 r0 r1 r2 r3 r4 r5 r6 q0 q1 q2 q3 q4 q5 q6 hq S2
                go_wp2
                go_roundw
                case rel => exact ⟨j + 1, _, by omega, by go_num, rfl, HR, HB9⟩
                case measure => simp [intOf]; omega
          · obtain rfl : j = k := by omega
            have HJD : Aside0 (bj = dropB (c.take j) l) := ⟨HJ.out⟩
            have hjj : ¬ ((j : Int) < j) := by omega
            cases bj with
            | true =>
              have HR : Aside0 (kpt c (j+1) = kpt c j) := ⟨HKt.out HJD.out.symm⟩
              go_wp2
              go_roundw
              case rel => exact ⟨j + 1, _, by omega, by go_num, rfl, ⟨by rw [HR.out]; exact Kd.N_below HN.out HBj.out⟩, HBwj⟩
              case measure => simp [intOf]; omega
            | false =>
              have HR : Aside0 (kpt c (j+1) = kpt c j ++ [l]) := ⟨HKf.out HJD.out.symm⟩
              obtain ⟨Av, cv, rfl⟩ := Kd.N_slice HN.out
              have HNr := Aside0.mk (Kd.N_below HN.out HBj.out)
              have HLr := Aside0.mk (HL.out.below HBj.out)
              have HNB := Aside0.mk (Kd.N_base HN.out)
              have e0 := oldc HBj.out X0.out
              have e1 := oldc HBj.out X1.out
              have e2 := oldc HBj.out X2.out
              have e3 := oldc HBj.out X3.out
              have e4 := oldc HBj.out X4.out
              have e5 := oldc HBj.out X5.out
              have e6 := oldc HBj.out X6.out
              generalize kpt c j = s at *
              go_wp2_with (at_builtin; refine Kd.N_append kLi (w0 := wr) w.heap.size rfl _ _ 26 84 _ 88 rfl Try.underlying26 infoLi rfl (by decide) (by decide) (.slice Av s.length cv) s l _ (fun k => (okc k ∧ k < w.heap.size) ∨ w.heap.size ≤ k) (fun k => okc k ∧ k < w.heap.size) rfl rfl (kLi_mkF wr _ _ HLr.out.l3 HLr.out.F3 HLr.out.l6 HLr.out.F6) (fun q hq => ⟨.inl hq, fun e => by have := HNB.out q e.symm; have := hq.2; omega⟩) (fun q hq => .inr (Nat.le_trans HBwj.out.size hq)) HNr.out (Below.refl _ _) HBwj.out.size ?_ ?_; (have := HKL.out; have := HCL.out; omega); intro v7 w7 hN7 hB7 hG7 hI7; have HN7 := Aside0.mk hN7; have HB7 := Aside0.mk hB7; clear hN7 hB7 hG7 hI7)
              go_roundw
              case rel => exact ⟨j + 1, v7, by omega, by go_num, rfl, ⟨by rw [HR.out]; exact HN7.out⟩, ⟨HBwj.out.trans HB7.out⟩⟩
              case measure => simp [intOf]; omega
    · obtain rfl : k = c.length := by omega
      obtain ⟨Av, cv, rfl⟩ := Kd.N_slice HN.out
      have HKZ : Aside0 (szL (tmsL (kpt c c.length)) ≤ 1000000) := ⟨by have := kpt_sz c c.length (Nat.le_refl _); have := tms_take_le c c.length; have := HBD.out; omega⟩
      have HKL : Aside0 ((kpt c c.length).length ≤ 1000000) := ⟨by have := kpt_len c c.length; have := HCL.out; omega⟩
      have HTD : Aside0 (tidyL c = tidyK (kpt c c.length)) := ⟨rfl⟩
      generalize kpt c c.length = s at *
      have HFS := Aside0.mk (Kd.N_F HN.out)
      have HCS := Aside0.mk (Kd.N_reads' HN.out).2.1
      go_upto_region 13 with (first | (go_at_call 57; refine (termsOf_any s Av cv _ wo HKL.out HFS.out).mono ?_; rintro e w3 ⟨A3, c3, rfl, h3, hF3, hb3⟩; have HF3 := Aside0.mk hF3; have HB3 := Aside0.mk hb3; clear hF3 hb3) | (go_at_call 41; refine (firstVars_any (tmsL s) A3 c3 _ w3 HKZ.out HF3.out (fun x hx => by have h1 := szT_mem hx; have h2 := HKZ.out; omega)).mono ?_; rintro e w4 ⟨v7, rfl, hN7, hb4⟩; obtain ⟨A7, c7, rfl⟩ := Kd.N_slice hN7; have HN7 := Aside0.mk hN7; have HB4 := Aside0.mk hb4; clear hN7 hb4))
      have HVL : Aside0 ((fvL [] (tmsL s)).length ≤ 1000000) := ⟨by have := fvL_len (tmsL s) []; have := HKZ.out; simp at *; omega⟩
      have HTK : Aside0 (tidyK s = appC (bds (numK (fvL [] (tmsL s)) (fvL [] (tmsL s)).length)) s) := ⟨rfl⟩
      generalize fvL [] (tmsL s) = vs at *
      have hvl : vs.length ≤ 9223372036854775807 := by have := HVL.out; omega
      have HBo4 := Aside0.mk (hbT HB3.out HB4.out)
      have HBw4 := Aside0.mk (hbT HB.out HBo4.out)
      have HFV := Aside0.mk (Kd.N_F HN7.out)
      go_wp2
      go_loopw [8, 9] (fun v0 i wr => ∃ (k : Nat) (vk : Value), k ≤ vs.length ∧ i = .int .i64 k ∧ vk = v0 ∧ Aside0 (Kd.N kBd 89 wr w4.heap.size (fun _ => True) vk (numK vs k)) ∧ Aside0 (Below w4.heap.size w4 wr)) (fun _ i _ => vs.length - (intOf i).toNat)
      case atStart => exact ⟨0, _, by omega, rfl, rfl, ⟨Kd.N_nil _ _ _ _ _⟩, ⟨Below.refl _ _⟩⟩
      case round =>
        obtain ⟨k, vk, hk, rfl, rfl, HNb, HBr⟩ := hrel
        obtain ⟨Ab, cb, rfl⟩ := Kd.N_slice HNb.out
        by_cases hlt : k < vs.length
        · obtain ⟨ad, rfl, E0⟩ := at_Int (Kd.F_now (Kd.F_below HFV.out HBr.out)) (k : Int) (by omega) (by omega)
          simp only [Int.toNat_natCast] at E0
          have HNM : Aside0 (numK vs (k+1) = numK vs k ++ [⟨vs.getD k 0, ⟨(k : Int) + 1, 0, []⟩⟩]) := ⟨rfl⟩
          have HNL := Aside0.mk (numK_len vs k)
          have hki : (k : Int) < vs.length := by omega
          have hwk : IntKind.i64.wrap ((k : Int) + 1) = (k : Int) + 1 := IntWalk.i64_in _ (by omega)
          generalize vs.getD k 0 = v at *
          generalize numK vs k = nb at *
          go_wp2_with (at_builtin; refine Kd.N_append kBd (w0 := wr) w4.heap.size rfl _ _ 87 89 _ 48 rfl Try.underlying87 infoBd rfl (by decide) (by decide) (.slice Ab nb.length cb) nb ⟨v, ⟨(k : Int) + 1, 0, []⟩⟩ [.int .i64 v, .int .i64 ((k : Int) + 1), .int .i64 0, .slice none 0 0] (fun _ => True) (fun _ => False) rfl rfl (kBd_mkF wr _ ⟨v, ⟨(k : Int) + 1, 0, []⟩⟩ (Nat.le_refl _) (fun W' _ => Kd.C_nil _ _)) (fun _ h => h.elim) (fun _ _ => trivial) HNb.out (Below.refl _ _) HBr.out.size ?_ ?_; (have := HNL.out; have := HVL.out; omega); intro v7 w7 hN7 hB7 hG7 hI7; have HN7 := Aside0.mk hN7; have HB7 := Aside0.mk hB7; clear hN7 hB7 hG7 hI7)
          go_roundw
          case rel => exact ⟨k + 1, v7, by omega, by go_num, rfl, ⟨by rw [HNM.out]; exact HN7.out⟩, ⟨HBr.out.trans HB7.out⟩⟩
          case measure => simp [intOf]; omega
        · obtain rfl : k = vs.length := by omega
          have HBor := Aside0.mk (hbT HBo4.out HBr.out)
          have HBwr := Aside0.mk (hbT HB.out HBor.out)
          have HAP := Aside0.mk (applyClause_any s (numK vs vs.length) Av Ab cv cb (fun _ => True) wr (by have := HKZ.out; omega) HKL.out (Kd.N_F HNb.out) (Kd.F_mono (Kd.F_below HFS.out HBor.out) (fun _ _ => trivial)))
          rw [← HTK.out, ← HTD.out] at HAP
          generalize numK vs vs.length = nb at *
          go_wp2_with (go_at_call 58; refine HAP.out.mono ?_; rintro e w9 ⟨A9, c9, rfl, h9, hF9, hb9⟩; have HF9 := Aside0.mk hF9; have HB9 := Aside0.mk hb9; clear hF9 hb9)
          go_ret
          have h2 := Kd.F_mono HF9.out (ok' := fun _ => True) (fun _ _ => trivial)
          first | exact ⟨A9, c9, rfl, h9, h2, hbT HBwr.out HB9.out⟩ | exact ⟨rfl, A9, c9, h9, h2, hbT HBwr.out HB9.out⟩
end Go.Proofs.Ytcgnpmjkeifokaa
-- K54
/- subst.Made. -/
namespace Go.Proofs.Ytcgnpmjkeifokaa
open Go.RowKit Go.Proofs.YtcgnpmjkeifokaaW.PrintWords
set_option linter.unusedVariables false
set_option linter.unusedSimpArgs false

def dlt (m : List (Int × Tm)) (x : Tm) : Option Tm := if 0 < x.f0 then mget m x.f0 else none
theorem map_app (g : List Int) (m : List (Int × Tm)) (t : Tm) : formE g t = 0 → mapT (dlt m) t = appT m t := by
  refine Tm.rec (motive_1 := fun t => formE g t = 0 → mapT (dlt m) t = appT m t) (motive_2 := fun l => formEL g l = 0 → mapL (dlt m) l = appL m l) ?_ ?_ ?_ t
  · intro v f l ih hf
    obtain ⟨ha, hp⟩ : formEL g l = 0 ∧ partE g ⟨v, f, l⟩ = 0 := by
      rw [formE] at hf
      by_cases hl : formEL g l = 0
      · rw [if_neg (by simpa using hl)] at hf; exact ⟨hl, hf⟩
      · rw [if_pos hl] at hf; exact absurd hf hl
    rw [appT]
    by_cases hv : 0 < v
    · rw [if_pos hv]
      have hd : dlt m ⟨v, f, l⟩ = mget m v := by unfold dlt; exact if_pos hv
      cases hg : mget m v with
      | some u => rw [mapT_some (hd.trans hg)]; rfl
      | none =>
        have hl : l = [] := by
          unfold partE at hp
          rw [if_pos (show v ≠ 0 by omega)] at hp
          split at hp
          · split at hp
            · rename_i h; exact List.length_eq_zero_iff.1 h.1
            · cases hp
          · cases hp
        subst hl
        rw [mapT_none (hd.trans hg)]
        rfl
    · have hv0 : v = 0 := by have := (formE_parts hf).2; show v = 0; have h2 : 0 ≤ v := this; omega
      have hd : dlt m ⟨v, f, l⟩ = none := by unfold dlt; exact if_neg hv
      rw [if_neg hv, mapT_none hd]
      show Tm.mk v f (mapL (dlt m) l) = _
      rw [ih ha, hv0]
  · intro _; rw [mapL, appL]
  · intro t ts h1 h2 hf
    rw [formEL] at hf
    by_cases hl : formE g t = 0
    · rw [if_neg (by simpa using hl)] at hf
      rw [mapL, appL, h1 hl, h2 hf]
    · rw [if_pos hl] at hf; exact absurd hf hl

set_option maxHeartbeats 4000000 in
set_option maxRecDepth 100000 in
theorem made1_any (m : List (Int × Tm)) (b g : Nat) (okm : Nat → Prop) (hsz : ∀ v u, mget m v = some u → szT u * 40 ≤ 140737488355328) (x : Tm) (A : Option Addr) (c : Nat) (W : World) (hM : MapT W b okm m) (hg : W.heap[g]? = some (.cells #[.map (some b)] 121 (0, 0))) (hc : x.f2.length ≤ c) :
    Calls Try.prog 127 (#[.agg #[.int .i64 x.f0, .int .i64 x.f1, .slice A x.f2.length c]] ++ #[.pointer (some ⟨g, 0, none⟩)]) W fun e w' => ∃ (r : Tm) (A' : Option Addr) (c' : Nat), e = .returned (.tuple #[.agg #[.int .i64 r.f0, .int .i64 r.f1, .slice A' r.f2.length c'], .bool (dlt m x).isSome]) ∧ r.f2.length ≤ c' ∧
      (∀ u, dlt m x = some u → r = u ∧ Kd.F kTm w' (fun k => W.heap.size ≤ k) A' r.f2.length r.f2) ∧ Below W.heap.size W w' := by
  have a0 := blk_alloc (newAt (w := W) (o := .cells #[.int .i64 x.f0, .int .i64 x.f1, .slice A x.f2.length c] 46) rfl) (.cells #[.int .i64 0, .int .i64 0, .slice none 0 0] 46)
  have a1 := newAt (w := W.alloc (.cells #[.int .i64 x.f0, .int .i64 x.f1, .slice A x.f2.length c] 46)) (o := .cells #[.int .i64 0, .int .i64 0, .slice none 0 0] 46) (k := W.heap.size + 1) (by simp)
  have a2 := blk_alloc (blk_alloc hg (.cells #[.int .i64 x.f0, .int .i64 x.f1, .slice A x.f2.length c] 46)) (.cells #[.int .i64 0, .int .i64 0, .slice none 0 0] 46)
  have HB := Aside0.mk (below_alloc (below_alloc (Below.refl W.heap.size W) (.cells #[.int .i64 x.f0, .int .i64 x.f1, .slice A x.f2.length c] 46)) (.cells #[.int .i64 0, .int .i64 0, .slice none 0 0] 46))
  have HSZ := Aside0.mk hsz
  have HM := Aside0.mk (MapT.below hM HB.out)
  clear hM hg hsz
  show Calls Try.prog 127 #[.agg #[.int .i64 x.f0, .int .i64 x.f1, .slice A x.f2.length c], .pointer (some ⟨g, 0, none⟩)] W _
  go_enter Try.func127, Try.ntmps127
  go_upto_region 1 with (fail)
  generalize (W.alloc (.cells #[.int .i64 x.f0, .int .i64 x.f1, .slice A x.f2.length c] 46)).alloc (.cells #[.int .i64 0, .int .i64 0, .slice none 0 0] 46) = W1 at *
  have G0 := Aside0.mk a0
  have G1 := Aside0.mk a1
  have m0 := map_cell a2
  clear a0 a1 a2
  obtain ⟨p0, p1, p2⟩ := tm_cells G0.out
  go_upto_region 2 with (first | (at_lookup; refine wp_lookT rfl _ _ rfl rfl HM.out x.f0 rfl ?_; intro A3 c3 h3 hF3; have HF3 := Aside0.mk hF3; have H3 := Aside0.mk h3; clear hF3 h3) | (((with_reducible refine gate_store (t := 46) (p := 5) rfl ?_); refine st_tm 5 rfl rfl rfl rfl rfl (heap_alloc_new _ _) ?_); intro w3 hs3 hG3 hz3; have HU := Aside0.mk hs3; have HB3 := Aside0.mk (gbS (below_alloc (Below.refl W1.heap.size W1) _) hG3 (Nat.le_refl _)); clear hs3 hG3 hz3))
  have HB03 := Aside0.mk (hbT HB.out HB3.out)
  obtain ⟨q0, q1, q2⟩ := tm_cells ((HB3.out.block _ (blk_lt G0.out)).trans G0.out)
  have GR := Aside0.mk ((HB3.out.block _ (blk_lt G1.out)).trans G1.out)
  clear p0 p1 p2 m0
  by_cases hv : 0 < x.f0
  · cases hgt : mget m x.f0 with
    | some u =>
      have hh : mhas m x.f0 = true := by unfold mhas; rw [hgt]; rfl
      have HU2 : Aside0 (mgetT m x.f0 = u) := ⟨by unfold mgetT; rw [hgt]; rfl⟩
      have HD : Aside0 (dlt m x = some u) := ⟨by unfold dlt; rw [if_pos hv, hgt]⟩
      have HSU := Aside0.mk (HSZ.out _ _ hgt)
      have hu := HU.out
      rw [HU2.out] at hu HF3 H3
      obtain ⟨s0, s1, s2⟩ := tm_cells hu
      clear hgt hu
      simp only [hh]
      clear hh
      try simp only [HU2.out]
      have HF33 := Aside0.mk (Kd.F_below HF3.out HB3.out)
      have hvb : 0 < x.f0 := hv
      go_wp2_with (first | (go_at_call 67; refine (copied_any u A3 c3 _ w3 HSU.out HF33.out H3.out).mono ?_; rintro e w4 ⟨A4, c4, rfl, h4, hF4, hb4⟩; have HF4 := Aside0.mk hF4; have HB4 := Aside0.mk hb4; have GR4 := Aside0.mk ((hb4.block _ (blk_lt GR.out)).trans GR.out); clear hF4 hb4 q0 q1 q2 s0 s1 s2) | (((with_reducible refine gate_store (t := 46) (p := 3) rfl ?_); refine st_tm 3 rfl rfl rfl rfl rfl GR4.out ?_); intro w5 hs5 hG5 hz5; have HS5 := Aside0.mk hs5; have HG5 := Aside0.mk hG5; clear hs5 hG5))
      ((try simp only [Exit.inBlock, Exit.then]); refine bodyPost_ret (results_ct rfl _ _ _ 46 _ (0, 0) _ rfl HS5.out Try.underlying46 rfl (by kernel_rfl)) rfl ?_)
      refine ⟨u, A4, c4, by rw [HD.out]; rfl, h4, fun u' hu' => ?_, gbS (hbT HB03.out HB4.out) HG5.out (by omega)⟩
      rw [HD.out] at hu'
      injection hu' with hu'
      refine ⟨hu', Kd.F_mono (Kd.F_grown HF4.out HG5.out (fun k hk => ?_)) (fun k hk => ?_)⟩
      · intro e; injection e with e; have := blk_lt G1.out; have := HB3.out.size; omega
      · have := HB03.out.size; omega
    | none =>
      have hh : mhas m x.f0 = false := by unfold mhas; rw [hgt]; rfl
      have HD : Aside0 (dlt m x = none) := ⟨by unfold dlt; rw [if_pos hv, hgt]⟩
      clear hgt
      simp only [hh]
      clear hh
      go_wp2_with (((with_reducible refine gate_store (t := 46) (p := 3) rfl ?_); refine st_tm 3 rfl rfl rfl rfl rfl GR.out ?_); intro w5 hs5 hG5 hz5; have HS5 := Aside0.mk hs5; have HG5 := Aside0.mk hG5; clear hs5 hG5 q0 q1 q2)
      ((try simp only [Exit.inBlock, Exit.then]); refine bodyPost_ret (results_ct rfl _ _ _ 46 _ (0, 0) _ rfl HS5.out Try.underlying46 rfl (by kernel_rfl)) rfl ?_)
      exact ⟨x, A, c, by rw [HD.out]; rfl, hc, fun u' hu' => (by rw [HD.out] at hu'; cases hu'), gbS HB03.out HG5.out (by omega)⟩
  · have HD : Aside0 (dlt m x = none) := ⟨by unfold dlt; rw [if_neg hv]⟩
    cases hh : mhas m x.f0 with
    | true =>
      go_wp2_with (((with_reducible refine gate_store (t := 46) (p := 3) rfl ?_); refine st_tm 3 rfl rfl rfl rfl rfl GR.out ?_); intro w5 hs5 hG5 hz5; have HS5 := Aside0.mk hs5; have HG5 := Aside0.mk hG5; clear hs5 hG5 q0 q1 q2)
      ((try simp only [Exit.inBlock, Exit.then]); refine bodyPost_ret (results_ct rfl _ _ _ 46 _ (0, 0) _ rfl HS5.out Try.underlying46 rfl (by kernel_rfl)) rfl ?_)
      exact ⟨x, A, c, by rw [HD.out]; rfl, hc, fun u' hu' => (by rw [HD.out] at hu'; cases hu'), gbS HB03.out HG5.out (by omega)⟩
    | false =>
      go_wp2_with (((with_reducible refine gate_store (t := 46) (p := 3) rfl ?_); refine st_tm 3 rfl rfl rfl rfl rfl GR.out ?_); intro w5 hs5 hG5 hz5; have HS5 := Aside0.mk hs5; have HG5 := Aside0.mk hG5; clear hs5 hG5 q0 q1 q2)
      ((try simp only [Exit.inBlock, Exit.then]); refine bodyPost_ret (results_ct rfl _ _ _ 46 _ (0, 0) _ rfl HS5.out Try.underlying46 rfl (by kernel_rfl)) rfl ?_)
      exact ⟨x, A, c, by rw [HD.out]; rfl, hc, fun u' hu' => (by rw [HD.out] at hu'; cases hu'), gbS HB03.out HG5.out (by omega)⟩

set_option maxHeartbeats 4000000 in
set_option maxRecDepth 100000 in
theorem made_any (m : List (Int × Tm)) (b : Nat) (okm okt : Nat → Prop) (hsz : ∀ v u, mget m v = some u → szT u * 40 ≤ 140737488355328) (t : Tm) (A : Option Addr) (c : Nat) (w : World) (hbd : szT t * 40 ≤ 140737488355328) (hM : MapT w b okm m) (hF : Kd.F kTm w okt A t.f2.length t.f2) (hc : t.f2.length ≤ c) :
    Calls Try.prog 99 #[.map (some b), .agg #[.int .i64 t.f0, .int .i64 t.f1, .slice A t.f2.length c]] w fun e w' => ∃ A' c', e = .returned (.agg #[.int .i64 (mapT (dlt m) t).f0, .int .i64 (mapT (dlt m) t).f1, .slice A' (mapT (dlt m) t).f2.length c']) ∧ (mapT (dlt m) t).f2.length ≤ c' ∧ Kd.F kTm w' (fun k => w.heap.size ≤ k) A' (mapT (dlt m) t).f2.length (mapT (dlt m) t).f2 ∧ Below w.heap.size w w' := by
  have a0 := blk_alloc (blk_alloc (newAt (w := w) (o := .cells #[.map (some b)] 121) rfl) (.cells #[.int .i64 t.f0, .int .i64 t.f1, .slice A t.f2.length c] 46)) (.cells #[.int .i64 0, .int .i64 0, .slice none 0 0] 46)
  have a1 := blk_alloc (newAt (w := w.alloc (.cells #[.map (some b)] 121)) (o := .cells #[.int .i64 t.f0, .int .i64 t.f1, .slice A t.f2.length c] 46) (k := w.heap.size + 1) (by simp)) (.cells #[.int .i64 0, .int .i64 0, .slice none 0 0] 46)
  have a2 := newAt (w := (w.alloc (.cells #[.map (some b)] 121)).alloc (.cells #[.int .i64 t.f0, .int .i64 t.f1, .slice A t.f2.length c] 46)) (o := .cells #[.int .i64 0, .int .i64 0, .slice none 0 0] 46) (k := w.heap.size + 2) (by simp)
  have HB := Aside0.mk (below_alloc (below_alloc (below_alloc (Below.refl w.heap.size w) (.cells #[.map (some b)] 121)) (.cells #[.int .i64 t.f0, .int .i64 t.f1, .slice A t.f2.length c] 46)) (.cells #[.int .i64 0, .int .i64 0, .slice none 0 0] 46))
  have HF := Aside0.mk (Kd.F_below (Kd.F_bound hF) HB.out)
  have HM := Aside0.mk (MapT.below hM HB.out)
  have hlen := Kd.F_max hF
  clear hF hM
  go_enter Try.func99, Try.ntmps99
  go_upto_region 1 with (fail)
  generalize ((w.alloc (.cells #[.map (some b)] 121)).alloc (.cells #[.int .i64 t.f0, .int .i64 t.f1, .slice A t.f2.length c] 46)).alloc (.cells #[.int .i64 0, .int .i64 0, .slice none 0 0] 46) = W at *
  have G0 := Aside0.mk a0
  have G2 := Aside0.mk a2
  obtain ⟨p0, p1, p2⟩ := tm_cells a1
  have hlg := blk_lt a2
  clear a0 a1 a2
  have HMP := Aside0.mk (mapped_any 127 #[.pointer (some ⟨w.heap.size, 0, none⟩)] (dlt m) (fun _ => True) W (enters_of Try.func127 (by kernel_rfl) rfl) (fun x A c W' hB hF hc => made1_any m b w.heap.size okm hsz x A c W' (MapT.below HM.out hB) ((hB.block _ (blk_lt G0.out)).trans G0.out) hc) (szT t) t A c W (Nat.le_refl _) hbd (Below.refl _ _) (Kd.F_mono (Kd.F_bound HF.out) (fun k hk => ⟨trivial, hk.2⟩)) hc)
  go_wp2_with (first | (go_at_call 106; refine HMP.out.mono ?_; rintro e w2 ⟨A', c', rfl, hc', hF2, hb2⟩; have HF2 := Aside0.mk hF2; have HB2 := Aside0.mk hb2; have HR2 := Aside0.mk ((hb2.block _ hlg).trans G2.out); clear hF2 hb2 p0 p1 p2) | (((with_reducible refine gate_store (t := 46) (p := 4) rfl ?_); refine st_tm 4 rfl rfl rfl rfl rfl HR2.out ?_); intro w1 hs1 hG1 hz1; have HS1 := Aside0.mk hs1; have HG1 := Aside0.mk hG1; clear hs1 hG1))
  ((try simp only [Exit.inBlock, Exit.then]); refine bodyPost_ret (results_cell_row rfl _ _ _ 46 _ (0, 0) _ rfl HS1.out Try.underlying46 rfl (by kernel_rfl)) rfl ?_)
  exact ⟨A', c', rfl, hc', Kd.F_mono (Kd.F_grown HF2.out HG1.out (fun k hk => by intro e; injection e with e; omega)) (fun k hk => by have := HB.out.size; omega), gbS (hbT HB.out HB2.out) HG1.out (by omega)⟩
end Go.Proofs.Ytcgnpmjkeifokaa
-- K55
/- clause.Each. -/
namespace Go.Proofs.Ytcgnpmjkeifokaa
open Go.RowKit Go.Proofs.YtcgnpmjkeifokaaW.PrintWords
set_option linter.unusedVariables false
set_option linter.unusedSimpArgs false

def eachC (f : Tm → Tm) (c : List Li) : List Li := c.map fun l => ⟨l.f0, f l.f1, f l.f2⟩
theorem eachC_take (f : Tm → Tm) (c : List Li) (k : Nat) (hk : k < c.length) : eachC f (c.take (k+1)) = eachC f (c.take k) ++ [⟨(rd_Li c k).f0, f (rd_Li c k).f1, f (rd_Li c k).f2⟩] := by
  rw [List.take_succ_eq_append_getElem hk, rdLi_get c k hk]; unfold eachC; rw [List.map_append]; rfl
theorem eachC_len (f : Tm → Tm) (c : List Li) : (eachC f c).length = c.length := by unfold eachC; simp
theorem tms_mem1 {c : List Li} {l : Li} (h : l ∈ c) : l.f1 ∈ tmsL c ∧ l.f2 ∈ tmsL c := by
  induction c with
  | nil => cases h
  | cons x xs ih =>
    simp only [tmsL, List.mem_cons]
    cases h with
    | head => exact ⟨.inl rfl, .inr (.inl rfl)⟩
    | tail _ h => exact ⟨.inr (.inr (ih h).1), .inr (.inr (ih h).2)⟩

/-- A function value that makes terms anew. -/
def DoE (g : Nat) (lb : Array Value) (f : Tm → Tm) (ts : List Tm) (w0 : World) : Prop :=
  ∀ (x : Tm) (A : Option Addr) (c : Nat) (W : World), x ∈ ts → Below w0.heap.size w0 W → Kd.F kTm W (fun _ => True) A x.f2.length x.f2 → x.f2.length ≤ c →
    Calls Try.prog g (#[.agg #[.int .i64 x.f0, .int .i64 x.f1, .slice A x.f2.length c]] ++ lb) W fun e w' => ∃ (A' : Option Addr) (c' : Nat), e = .returned (.agg #[.int .i64 (f x).f0, .int .i64 (f x).f1, .slice A' (f x).f2.length c']) ∧ (f x).f2.length ≤ c' ∧ Kd.F kTm w' (fun k => W.heap.size ≤ k) A' (f x).f2.length (f x).f2 ∧ Below W.heap.size W w'

set_option maxHeartbeats 4000000 in
set_option maxRecDepth 100000 in
theorem each_any (g : Nat) (lb : Array Value) (f : Tm → Tm) (eg : ∀ args w, (callFunc g args).run Try.prog w = .ok (.enter g args) w) (c : List Li) (Ac : Option Addr) (cc : Nat) (okc : Nat → Prop) (w : World) (hcl : c.length ≤ 1000000) (hd : DoE g lb f (tmsL c) w) (hC : Kd.F kLi w okc Ac c.length c) :
    Calls Try.prog 97 #[.slice Ac c.length cc, .func (.func g) #[] lb] w fun e w' => ∃ A' c', e = .returned (.slice A' (eachC f c).length c') ∧ (eachC f c).length ≤ c' ∧ Kd.F kLi w' (fun k => w.heap.size ≤ k) A' (eachC f c).length (eachC f c) ∧ Below w.heap.size w w' := by
  have hlen := Kd.F_max hC
  have HC := Aside0.mk (Kd.F_bound hC)
  have HCL := Aside0.mk hcl
  have HD := Aside0.mk hd
  clear hC hcl hd
  go_enter Try.func97, Try.ntmps97
  go_wp2
  go_loopw [5, 10] (fun v0 i wr => ∃ (k : Nat) (vk : Value), k ≤ c.length ∧ i = .int .i64 k ∧ vk = v0 ∧ Aside0 (Kd.N kLi 84 wr w.heap.size (fun k => w.heap.size ≤ k) vk (eachC f (c.take k))) ∧ Aside0 (Below w.heap.size w wr)) (fun _ i _ => c.length - (intOf i).toNat)
  case atStart => exact ⟨0, _, by omega, rfl, rfl, ⟨Kd.N_nil _ _ _ _ _⟩, ⟨Below.refl _ _⟩⟩
  case round =>
    rename World => wo
    obtain ⟨k, vk, hk, rfl, rfl, HN, HB⟩ := hrel
    have hzr := HB.out.size
    by_cases hlt : k < c.length
    · obtain ⟨ad, A3, c3, A6, c6, rfl, E0, E1, E2, E3, E4, E5, E6, hL, hok0⟩ := at_Lit (Kd.F_below HC.out HB.out) k hlt
      have HL := Aside0.mk hL
      have HTK := Aside0.mk (eachC_take f c k hlt)
      have HTL : Aside0 ((eachC f (c.take k)).length ≤ c.length) := ⟨by rw [eachC_len, List.length_take]; omega⟩
      have HME := Aside0.mk (tms_mem1 (rdLi_mem c k hlt))
      have HNL := Aside0.mk (Kd.N_lt HN.out)
      have HNB := Aside0.mk (Kd.N_base HN.out)
      have hki : (k : Int) < c.length := by omega
      have HZR := Aside0.mk hzr
      clear hL hzr
      generalize rd_Li c k = l at *
      generalize hs : eachC f (c.take k) = s at *
      obtain ⟨Av, cv, rfl⟩ := Kd.N_slice HN.out
      have HNE : ∀ j, j < w.heap.size → some j ≠ (Value.slice Av s.length cv).ownBlock := fun j hj e => by have := HNB.out j e.symm; omega
      go_upto_region 5 with (((with_reducible refine gate_store (t := 84) (p := 7) rfl ?_); refine st_li 7 rfl rfl rfl rfl rfl (heap_alloc_new _ _) ?_); intro w4 hs4 hG4 hz4; have HX4 := Aside0.mk hs4; have HB4 := Aside0.mk (gbS (below_alloc (Below.refl wo.heap.size wo) _) hG4 (Nat.le_refl _)); clear hs4 hG4 hz4 E0 E1 E2 E3 E4 E5 E6)
      have HL4 := Aside0.mk (HL.out.below HB4.out)
      have HNE4 : some wo.heap.size ≠ (Value.slice Av s.length cv).ownBlock := fun e => by have := HNL.out _ e.symm; omega
      have HN4 := Aside0.mk (Kd.N_below HN.out HB4.out)
      obtain ⟨x0, x1, x2, x3, x4, x5, x6⟩ := li_cells HX4.out
      have k0 := fun (w' : World) (h : w4.grownBy w' (Value.slice Av s.length cv).ownBlock) => oldg h x0 HNE4
      have k1 := fun (w' : World) (h : w4.grownBy w' (Value.slice Av s.length cv).ownBlock) => oldg h x1 HNE4
      have k2 := fun (w' : World) (h : w4.grownBy w' (Value.slice Av s.length cv).ownBlock) => oldg h x2 HNE4
      have k3 := fun (w' : World) (h : w4.grownBy w' (Value.slice Av s.length cv).ownBlock) => oldg h x3 HNE4
      have k4 := fun (w' : World) (h : w4.grownBy w' (Value.slice Av s.length cv).ownBlock) => oldg h x4 HNE4
      have k5 := fun (w' : World) (h : w4.grownBy w' (Value.slice Av s.length cv).ownBlock) => oldg h x5 HNE4
      have k6 := fun (w' : World) (h : w4.grownBy w' (Value.slice Av s.length cv).ownBlock) => oldg h x6 HNE4
      clear x0 x1 x2 x3 x4 x5 x6
      refine hd_region 14 1 (fun w' => w4.grownBy w' (Value.slice Av s.length cv).ownBlock) (by kernel_rfl) rfl ?_ (fun _ h => grown_of_below h _)
      intro W3 hb3 hz3 hHeld
      have HB3 := Aside0.mk hb3
      clear hb3 hz3
      have HL3 := Aside0.mk (HL4.out.below HB3.out)
      have HBw3 := Aside0.mk (hbT HB.out (hbT HB4.out HB3.out))
      (refine hd_take (i := 0) (oi := ?oi2) (v := ?v2) ?hi2 (by kernel_rfl) (by kernel_rfl) (by kernel_rfl) (by kernel_rfl) (by decide) ?hq2 ?hw2 ?hy2 hHeld ?hr2; (case hi2 => (simp only [List.getElem?_toArray, List.getElem?_cons_succ, List.getElem?_cons_zero]; rfl)); (case hw2 => rfl); (case hy2 => (intro w hSw; go_simp; try with_reducible rfl)); (case hq2 => exact fun _ _ _ h => h); simp only [Act.put, List.setIfInBounds_toArray, List.set_cons_zero, List.set_cons_succ])
      (refine hd_take (i := 1) (oi := ?oi4) (v := ?v4) ?hi4 (by kernel_rfl) (by kernel_rfl) (by kernel_rfl) (by kernel_rfl) (by decide) ?hq4 ?hw4 ?hy4 hHeld ?hr4; (case hi4 => (simp only [List.getElem?_toArray, List.getElem?_cons_succ, List.getElem?_cons_zero]; rfl)); (case hw4 => rfl); (case hy4 => (intro w hSw; go_simp; try with_reducible rfl)); (case hq4 => exact fun _ _ _ h => h); simp only [Act.put, List.setIfInBounds_toArray, List.set_cons_zero, List.set_cons_succ])
      (refine hd_take (i := 2) (oi := ?oi6) (v := ?v6) ?hi6 (by kernel_rfl) (by kernel_rfl) (by kernel_rfl) (by kernel_rfl) (by decide) ?hq6 ?hw6 ?hy6 hHeld ?hr6; (case hi6 => (simp only [List.getElem?_toArray, List.getElem?_cons_succ, List.getElem?_cons_zero]; rfl)); (case hw6 => rfl); (case hy6 => (intro w hSw; go_simp; try with_reducible rfl)); (case hq6 => exact fun _ _ _ h => h); simp only [Act.put, List.setIfInBounds_toArray, List.set_cons_zero, List.set_cons_succ])
      (refine hd_take (i := 3) (oi := ?oi8) (v := ?v8) ?hi8 (by kernel_rfl) (by kernel_rfl) (by kernel_rfl) (by kernel_rfl) (by decide) ?hq8 ?hw8 ?hy8 hHeld ?hr8; (case hi8 => (simp only [List.getElem?_toArray, List.getElem?_cons_succ, List.getElem?_cons_zero]; rfl)); (case hw8 => rfl); (case hy8 => (intro w hSw; go_simp; try with_reducible rfl)); (case hq8 => exact fun _ _ _ h => h); simp only [Act.put, List.setIfInBounds_toArray, List.set_cons_zero, List.set_cons_succ])
      (refine hd_take (i := 4) (oi := ?oi10) (v := ?v10) ?hi10 (by kernel_rfl) (by kernel_rfl) (by kernel_rfl) (by kernel_rfl) (by decide) ?hq10 ?hw10 ?hy10 hHeld ?hr10; (case hi10 => (simp only [List.getElem?_toArray, List.getElem?_cons_succ, List.getElem?_cons_zero]; rfl)); (case hw10 => rfl); (case hy10 => (intro w hSw; go_simp; try with_reducible rfl)); (case hq10 => exact fun _ _ _ h => h); simp only [Act.put, List.setIfInBounds_toArray, List.set_cons_zero, List.set_cons_succ])
      (refine hd_take (i := 5) (oi := ?oi12) (v := ?v12) ?hi12 (by kernel_rfl) (by kernel_rfl) (by kernel_rfl) (by kernel_rfl) (by decide) ?hq12 ?hw12 ?hy12 hHeld ?hr12; (case hi12 => (simp only [List.getElem?_toArray, List.getElem?_cons_succ, List.getElem?_cons_zero]; rfl)); (case hw12 => rfl); (case hy12 => (intro w hSw; go_simp; try with_reducible rfl)); (case hq12 => exact fun _ _ _ h => h); simp only [Act.put, List.setIfInBounds_toArray, List.set_cons_zero, List.set_cons_succ])
      (refine hd_take (i := 7) (oi := ?oi14) (v := ?v14) ?hi14 (by kernel_rfl) (by kernel_rfl) (by kernel_rfl) (by kernel_rfl) (by decide) ?hq14 ?hw14 ?hy14 hHeld ?hr14; (case hi14 => (simp only [List.getElem?_toArray, List.getElem?_cons_succ, List.getElem?_cons_zero]; rfl)); (case hw14 => rfl); (case hy14 => (intro w hSw; go_simp; try with_reducible rfl)); (case hq14 => exact fun _ _ _ h => h); simp only [Act.put, List.setIfInBounds_toArray, List.set_cons_zero, List.set_cons_succ])
      (refine hd_take (i := 8) (oi := ?oi16) (v := ?v16) ?hi16 (by kernel_rfl) (by kernel_rfl) (by kernel_rfl) (by kernel_rfl) (by decide) ?hq16 ?hw16 ?hy16 hHeld ?hr16; (case hi16 => (simp only [List.getElem?_toArray, List.getElem?_cons_succ, List.getElem?_cons_zero]; rfl)); (case hw16 => rfl); (case hy16 => (intro w hSw; go_simp; try with_reducible rfl)); (case hq16 => exact fun _ _ _ h => h); simp only [Act.put, List.setIfInBounds_toArray, List.set_cons_zero, List.set_cons_succ])
      (refine hd_take (i := 9) (oi := ?oi18) (v := ?v18) ?hi18 (by kernel_rfl) (by kernel_rfl) (by kernel_rfl) (by kernel_rfl) (by decide) ?hq18 ?hw18 ?hy18 hHeld ?hr18; (case hi18 => (simp only [List.getElem?_toArray, List.getElem?_cons_succ, List.getElem?_cons_zero]; rfl)); (case hw18 => rfl); (case hy18 => (intro w hSw; go_simp; try with_reducible rfl)); (case hq18 => exact fun _ _ _ h => h); simp only [Act.put, List.setIfInBounds_toArray, List.set_cons_zero, List.set_cons_succ])
      (refine hd_one (i := 6) (oi := ?oi20) ?hi20 (by kernel_rfl) (by decide) ?hr20; (case hi20 => (simp only [List.getElem?_toArray, List.getElem?_cons_succ, List.getElem?_cons_zero]; rfl)); intro K hK)
      go_simp
      refine (HD.out l.f1 A3 c3 W3 HME.out.1 HBw3.out (Kd.F_mono HL3.out.F3 (fun _ _ => trivial)) HL3.out.l3).mono ?_
      rintro e w5 ⟨A5, c5, rfl, h5, hF5, hb5⟩
      have HF5 := Aside0.mk hF5
      have HB5 := Aside0.mk hb5
      have HH5 := Aside0.mk (gbT hHeld (gbOf hb5 _) (.inl rfl))
      clear hF5
      go_simp
      (refine hK.out _ _ ?hS22 (fun hHeld => ?hr22); (case hS22 => exact HH5.out); clear hK K; try simp only [Act.put, List.setIfInBounds_toArray, List.set_cons_zero, List.set_cons_succ])
      clear hb5
      (refine hd_one (i := 10) (oi := ?oi23) ?hi23 (by kernel_rfl) (by decide) ?hr23; (case hi23 => (simp only [List.getElem?_toArray, List.getElem?_cons_succ, List.getElem?_cons_zero]; rfl)); intro K hK)
      go_simp
      refine (HD.out l.f2 A6 c6 w5 HME.out.2 (hbT HBw3.out HB5.out) (Kd.F_mono (Kd.F_below HL3.out.F6 HB5.out) (fun _ _ => trivial)) HL3.out.l6).mono ?_
      rintro e w6 ⟨A8, c8, rfl, h8, hF8, hb6⟩
      have HF8 := Aside0.mk hF8
      have HB6 := Aside0.mk hb6
      have HF56 := Aside0.mk (Kd.F_below HF5.out hb6)
      have HH6 := Aside0.mk (gbT hHeld (gbOf hb6 _) (.inl rfl))
      have HN6 := Aside0.mk (Kd.N_below (Kd.N_below (Kd.N_below HN4.out HB3.out) HB5.out) hb6)
      have HZ6 : Aside0 (w.heap.size ≤ W3.heap.size ∧ wo.heap.size ≤ W3.heap.size ∧ W3.heap.size ≤ w5.heap.size ∧ w5.heap.size ≤ w6.heap.size) := ⟨by have := HZR.out; have := HB4.out.size; have := HB3.out.size; have := HB5.out.size; have := HB6.out.size; omega⟩
      clear hF8
      go_simp
      (refine hK.out _ _ ?hS25 (fun hHeld => ?hr25); (case hS25 => exact HH6.out); clear hK K; try simp only [Act.put, List.setIfInBounds_toArray, List.set_cons_zero, List.set_cons_succ])
      clear hb6
      (refine hd_take (i := 11) (oi := ?oi26) (v := ?v26) ?hi26 (by kernel_rfl) (by kernel_rfl) (by kernel_rfl) (by kernel_rfl) (by decide) ?hq26 ?hw26 ?hy26 hHeld ?hr26; (case hi26 => (simp only [List.getElem?_toArray, List.getElem?_cons_succ, List.getElem?_cons_zero]; rfl)); (case hw26 => rfl); (case hy26 => (intro w hSw; go_simp; try with_reducible rfl)); (case hq26 => exact fun _ _ _ h => h); simp only [Act.put, List.setIfInBounds_toArray, List.set_cons_zero, List.set_cons_succ])
      (refine hd_one (i := 12) (oi := ?oi28) ?hi28 (by kernel_rfl) (by decide) ?hr28; (case hi28 => (simp only [List.getElem?_toArray, List.getElem?_cons_succ, List.getElem?_cons_zero]; rfl)); intro K hK)
      go_simp
      (refine hK.out _ _ ?hS30 (fun hHeld => ?hr30); (case hS30 => exact gbT HH6.out (gbOf (below_alloc (Below.refl _ _) _) _) (.inl rfl)); clear hK K; try simp only [Act.put, List.setIfInBounds_toArray, List.set_cons_zero, List.set_cons_succ])
      (refine hd_one (i := 13) (oi := ?oi31) ?hi31 (by kernel_rfl) (by decide) ?hr31; (case hi31 => (simp only [List.getElem?_toArray, List.getElem?_cons_succ, List.getElem?_cons_zero]; rfl)); intro K hK)
      refine Kd.N_append_step kLi (w0 := w6) w.heap.size rfl _ _ 26 84 _ 88 rfl Try.underlying26 infoLi rfl (by decide) (by decide) (.slice Av s.length cv) s ⟨l.f0, f l.f1, f l.f2⟩ _ (fun k => w.heap.size ≤ k) (fun k => W3.heap.size ≤ k) rfl rfl (kLi_mkF w6 _ _ h5 (Kd.F_mono HF56.out (fun _ h => h)) h8 (Kd.F_mono HF8.out (fun q hq => by have := HZ6.out; omega))) ?_ (fun k hk => by have := HZ6.out; omega) HN6.out (Below.refl _ _) (by have := HZ6.out; omega) ?_ ?_
      · intro k' hk'
        exact ⟨by have := HZ6.out; omega, fun e => by have := HNL.out k' e.symm; have := HB4.out.size; have := HB3.out.size; omega⟩
      · have := HTL.out; have := HCL.out; omega
      intro v1 w7 hN1 hB1 hG1 hI1
      have HN1 := Aside0.mk hN1
      clear hN1 hB1 hI1
      (refine hK.out _ _ ?hS33 (fun hHeld => ?hr33); (case hS33 => exact gbT HH6.out hG1 (.inl rfl)); clear hK K; try simp only [Act.put, List.setIfInBounds_toArray, List.set_cons_zero, List.set_cons_succ])
      (refine hd_done (by kernel_rfl) ?_; simp only [List.drop_succ_cons, List.drop_zero])
      have HH7 := Aside0.mk hHeld
      clear hHeld k0 k1 k2 k3 k4 k5 k6
      go_wp2
      go_roundw
      case rel => exact ⟨k + 1, v1, by omega, by go_num, rfl, ⟨by rw [HTK.out]; exact HN1.out⟩, ⟨gbU (hbT HB.out HB4.out) HH7.out HNE⟩⟩
      case measure => simp [intOf]; omega
    · obtain rfl : k = c.length := by omega
      have HN2 := HN.out
      rw [List.take_length] at HN2
      obtain ⟨Av, cv, rfl⟩ := Kd.N_slice HN2
      have HN2 := Aside0.mk HN2
      go_wp2
      go_ret
      have h := Kd.N_reads' HN2.out
      first | exact ⟨Av, cv, rfl, h.2.1, Kd.N_F HN2.out, HB.out⟩ | exact ⟨rfl, Av, cv, h.2.1, Kd.N_F HN2.out, HB.out⟩
end Go.Proofs.Ytcgnpmjkeifokaa
-- K56
/- Plain laws of tidying: what stays; the variables numbered anew; clause.Neat$1, Neat$2. -/
namespace Go.Proofs.Ytcgnpmjkeifokaa
open Go.RowKit Go.Proofs.YtcgnpmjkeifokaaW.PrintWords
set_option linter.unusedVariables false
set_option linter.unusedSimpArgs false

/-! ### sides -/
def sidP (a b : Li) : Prop := (a.f1 = b.f1 ∧ a.f2 = b.f2) ∨ (a.f1 = b.f2 ∧ a.f2 = b.f1)
theorem sidesB_iff (a b : Li) : sidesB a b = true ↔ sidP a b := by
  unfold sidesB sidP
  simp only [Bool.or_eq_true, Bool.and_eq_true, eqT_iff]
theorem dupQ_iff (l x : Li) : dupQ l x = true ↔ x.f0 = l.f0 ∧ sidP x l := by
  unfold dupQ
  rw [Bool.and_eq_true, beq_iff_eq, sidesB_iff]
theorem dupQ_trans {x y l : Li} (h1 : dupQ x y = true) (h2 : dupQ l x = true) : dupQ l y = true := by
  rw [dupQ_iff] at *
  obtain ⟨a1, b1⟩ := h1
  obtain ⟨a2, b2⟩ := h2
  refine ⟨a1.trans a2, ?_⟩
  unfold sidP at *
  rcases b1 with ⟨p, q⟩ | ⟨p, q⟩ <;> rcases b2 with ⟨r, s⟩ | ⟨r, s⟩
  · exact .inl ⟨p.trans r, q.trans s⟩
  · exact .inr ⟨p.trans r, q.trans s⟩
  · exact .inr ⟨p.trans s, q.trans r⟩
  · exact .inl ⟨p.trans s, q.trans r⟩
theorem dupQ_triv {x l : Li} (h : dupQ l x = true) (ht : trivN x = true) : trivN l = true := by
  rw [dupQ_iff] at h
  obtain ⟨a, b⟩ := h
  unfold trivN at *
  rw [Bool.and_eq_true, eqT_iff] at *
  refine ⟨by rw [← a]; exact ht.1, ?_⟩
  rcases b with ⟨p, q⟩ | ⟨p, q⟩
  · rw [← p, ← q]; exact ht.2
  · rw [← p, ← q]; exact ht.2.symm
/-- What stays, told by what has stayed. -/
def nkp (c : List Li) : Nat → List Li
  | 0 => []
  | k + 1 => if trivN (rd_Li c k) || (nkp c k).any (dupQ (rd_Li c k)) then nkp c k else nkp c k ++ [rd_Li c k]
theorem nkp_kpt (c : List Li) : ∀ k, k ≤ c.length → nkp c k = kpt c k ∧ (∀ x ∈ c.take k, trivN x = true ∨ ∃ y ∈ kpt c k, dupQ x y = true) ∧ (∀ y ∈ kpt c k, y ∈ c.take k) := by
  intro k
  induction k with
  | zero => intro _; exact ⟨rfl, fun x hx => by simp at hx, fun y hy => by simp [kpt] at hy⟩
  | succ k ih =>
    intro hk
    obtain ⟨h1, h2, h3⟩ := ih (by omega)
    have hl : rd_Li c k = c[k] := rdLi_get c k (by omega)
    have hany : (nkp c k).any (dupQ (rd_Li c k)) = true ∨ trivN (rd_Li c k) = true ↔ dropB (c.take k) (rd_Li c k) = true := by
      unfold dropB
      rw [Bool.or_eq_true, h1]
      constructor
      · rintro (h | h)
        · obtain ⟨y, hy, hq⟩ := List.any_eq_true.1 h
          exact .inr (List.any_eq_true.2 ⟨y, h3 y hy, hq⟩)
        · exact .inl h
      · rintro (h | h)
        · exact .inr h
        · obtain ⟨x, hx, hq⟩ := List.any_eq_true.1 h
          rcases h2 x hx with ht | ⟨y, hy, hq2⟩
          · exact .inr (dupQ_triv hq ht)
          · exact .inl (List.any_eq_true.2 ⟨y, hy, dupQ_trans hq2 hq⟩)
    have hE : (trivN (rd_Li c k) || (nkp c k).any (dupQ (rd_Li c k))) = dropB (c.take k) (rd_Li c k) := by
      rw [Bool.eq_iff_iff, ← hany, Bool.or_eq_true, or_comm]
    have htk : c.take (k+1) = c.take k ++ [rd_Li c k] := by rw [List.take_succ_eq_append_getElem (by omega), hl]
    refine ⟨by rw [nkp, kpt, hE, h1], ?_, ?_⟩
    · intro x hx
      rw [htk, List.mem_append] at hx
      rw [kpt]
      rcases hx with hx | hx
      · rcases h2 x hx with h | ⟨y, hy, hq⟩
        · exact .inl h
        · refine .inr ⟨y, ?_, hq⟩
          split
          · exact hy
          · exact List.mem_append.2 (.inl hy)
      · obtain rfl : x = rd_Li c k := by simpa using hx
        cases hd : dropB (c.take k) (rd_Li c k) with
        | true =>
          rw [if_pos rfl]
          rcases hany.2 hd with h | h
          · obtain ⟨y, hy, hq⟩ := List.any_eq_true.1 h
            exact .inr ⟨y, by rw [← h1]; exact hy, hq⟩
          · exact .inl h
        | false =>
          refine .inr ⟨rd_Li c k, by simp, ?_⟩
          rw [dupQ_iff]; exact ⟨rfl, .inl ⟨rfl, rfl⟩⟩
    · intro y hy
      rw [htk, List.mem_append]
      rw [kpt] at hy
      split at hy
      · exact .inl (h3 y hy)
      · rw [List.mem_append] at hy; exact hy.imp (h3 y) id
theorem nkp_all (c : List Li) : nkp c c.length = kpt c c.length := (nkp_kpt c c.length (Nat.le_refl _)).1
theorem kpt_mem {c : List Li} {y : Li} (h : y ∈ kpt c c.length) : y ∈ c := by
  have := (nkp_kpt c c.length (Nat.le_refl _)).2.2 y h
  rwa [List.take_length] at this
theorem tms_kpt {c : List Li} {t : Tm} (h : t ∈ tmsL (kpt c c.length)) : t ∈ tmsL c := by
  obtain ⟨l, hl, ht⟩ := tmsL_mem h
  have := tms_mem1 (kpt_mem hl)
  rcases ht with rfl | rfl
  · exact this.1
  · exact this.2

/-! ### the variables' numbers -/
theorem fvP_nodup (l : List Tm) : ∀ s : List Int, s.Nodup → (fvP s l).Nodup := by
  induction l with
  | nil => intro s h; exact h
  | cons t ts ih =>
    intro s h
    have e : fvP s (t :: ts) = fvP (stepV s t) ts := rfl
    rw [e]
    refine ih _ ?_
    unfold stepV
    split
    · rename_i hh
      rw [List.nodup_append]
      refine ⟨h, by simp, ?_⟩
      intro a ha b hb
      simp at hb
      subst hb
      rintro rfl
      have h2 := hh.2
      rw [hasB_iff.2 ha] at h2
      cases h2
    · exact h
theorem fvL_nodup (l : List Tm) : ∀ s : List Int, s.Nodup → (fvL s l).Nodup := by
  induction l with
  | nil => intro s h; exact h
  | cons t ts ih => intro s h; rw [fvL]; exact ih _ (fvP_nodup _ _ h)
theorem numK_none {vs : List Int} {v : Int} : ∀ k, k ≤ vs.length → v ∉ vs.take k → mget (bds (numK vs k)) v = none := by
  intro k
  induction k with
  | zero => intro _ _; rfl
  | succ k ih =>
    intro hk hv
    rw [List.take_succ_eq_append_getElem (by omega), List.mem_append] at hv
    rw [numK, bds_append, mget_append (ih (by omega) (fun h => hv (.inl h))), bds_one, mget, if_neg ?_]
    · rfl
    · intro e
      refine hv (.inr ?_)
      rw [← e]
      simp [List.getD_eq_getElem?_getD, show k < vs.length by omega]
theorem numK_new {vs : List Int} (hn : vs.Nodup) {k : Nat} (hk : k < vs.length) : mget (bds (numK vs k)) (vs.getD k 0) = none := by
  refine numK_none k (by omega) ?_
  have e : vs.getD k 0 = vs[k] := by simp [List.getD_eq_getElem?_getD, hk]
  rw [e]
  intro hm
  obtain ⟨i, hi, he⟩ := List.getElem_of_mem hm
  rw [List.length_take] at hi
  rw [List.getElem_take] at he
  have := (List.getElem_inj hn).1 he
  omega
theorem numK_var {vs : List Int} {v : Int} {u : Tm} : ∀ k, mget (bds (numK vs k)) v = some u → ∃ i, u = ⟨i, 0, []⟩ := by
  intro k
  induction k with
  | zero => intro h; cases h
  | succ k ih =>
    intro h
    rw [numK, bds_append] at h
    cases hg : mget (bds (numK vs k)) v with
    | some u2 =>
      rw [mget_prefix hg] at h
      injection h with h
      subst h
      exact ih hg
    | none =>
      rw [mget_append hg, bds_one, mget] at h
      split at h
      · injection h with h; exact ⟨_, h.symm⟩
      · cases h
theorem numK_step {vs : List Int} (hn : vs.Nodup) {k : Nat} (hk : k < vs.length) : mset (bds (numK vs k)) (vs.getD k 0) ⟨(k : Int) + 1, 0, []⟩ = bds (numK vs (k+1)) := by
  rw [mset_new (numK_new hn hk), numK, bds_append, bds_one]
theorem each_app (g : List Int) (m : List (Int × Tm)) : ∀ c : List Li, (∀ t ∈ tmsL c, formE g t = 0) → eachC (mapT (dlt m)) c = appC m c := by
  intro c
  induction c with
  | nil => intro _; rfl
  | cons l c ih =>
    intro h
    have e1 : eachC (mapT (dlt m)) (l :: c) = ⟨l.f0, mapT (dlt m) l.f1, mapT (dlt m) l.f2⟩ :: eachC (mapT (dlt m)) c := rfl
    have e2 : appC m (l :: c) = ⟨l.f0, appT m l.f1, appT m l.f2⟩ :: appC m c := rfl
    rw [e1, e2, ih (fun t ht => h t (by simp [tmsL, ht])), map_app g m _ (h _ (by simp [tmsL])), map_app g m _ (h _ (by simp [tmsL]))]

set_option maxHeartbeats 4000000 in
set_option maxRecDepth 100000 in
theorem neat1_any (l x : Li) (A3 A6 B3 B6 : Option Addr) (c3 c6 d3 d6 b : Nat) (okl okx : Nat → Prop) (W : World) (hb : W.heap[b]? = some (.cells #[.bool l.f0, .int .i64 l.f1.f0, .int .i64 l.f1.f1, .slice A3 l.f1.f2.length c3, .int .i64 l.f2.f0, .int .i64 l.f2.f1, .slice A6 l.f2.f2.length c6] 84 (0, 0))) (hL : LiF W okl l A3 c3 A6 c6) (hX : LiF W okx x B3 d3 B6 d6) :
    Calls Try.prog 95 #[.agg #[.bool x.f0, .int .i64 x.f1.f0, .int .i64 x.f1.f1, .slice B3 x.f1.f2.length d3, .int .i64 x.f2.f0, .int .i64 x.f2.f1, .slice B6 x.f2.f2.length d6], .pointer (some ⟨b, 0, none⟩)] W fun e w' => e = .returned (.bool (dupQ l x)) ∧ Below W.heap.size W w' := by
  have HB := Aside0.mk (below_alloc (Below.refl W.heap.size W) (.cells #[.bool x.f0, .int .i64 x.f1.f0, .int .i64 x.f1.f1, .slice B3 x.f1.f2.length d3, .int .i64 x.f2.f0, .int .i64 x.f2.f1, .slice B6 x.f2.f2.length d6] 84))
  have g0 := newAt (w := W) (o := .cells #[.bool x.f0, .int .i64 x.f1.f0, .int .i64 x.f1.f1, .slice B3 x.f1.f2.length d3, .int .i64 x.f2.f0, .int .i64 x.f2.f1, .slice B6 x.f2.f2.length d6] 84) rfl
  have g1 := blk_alloc hb (.cells #[.bool x.f0, .int .i64 x.f1.f0, .int .i64 x.f1.f1, .slice B3 x.f1.f2.length d3, .int .i64 x.f2.f0, .int .i64 x.f2.f1, .slice B6 x.f2.f2.length d6] 84)
  have HL := Aside0.mk (hL.below HB.out)
  have HX := Aside0.mk (hX.below HB.out)
  clear hb hL hX
  go_enter Try.func95, Try.ntmps95
  go_upto_region 1 with (fail)
  generalize W.alloc (.cells #[.bool x.f0, .int .i64 x.f1.f0, .int .i64 x.f1.f1, .slice B3 x.f1.f2.length d3, .int .i64 x.f2.f0, .int .i64 x.f2.f1, .slice B6 x.f2.f2.length d6] 84) = W1 at *
  obtain ⟨x0, x1, x2, x3, x4, x5, x6⟩ := li_cells g0
  obtain ⟨l0, l1, l2, l3, l4, l5, l6⟩ := li_cells g1
  clear g0 g1
  cases hq : x.f0 == l.f0 with
  | false =>
    have HR : Aside0 (dupQ l x = false) := ⟨by unfold dupQ; rw [hq]; rfl⟩
    go_wp2
    go_ret
    exact ⟨ret_bool HR.out.symm, HB.out⟩
  | true =>
    have HR : Aside0 (dupQ l x = sidesB x l) := ⟨by unfold dupQ; rw [hq]; rfl⟩
    have HC := Aside0.mk (sides_any x l B3 B6 A3 A6 d3 d6 c3 c6 _ _ W1 HX.out.F3 HX.out.l3 HX.out.F6 HX.out.l6 HL.out.F3 HL.out.l3 HL.out.F6 HL.out.l6)
    go_wp2_with (fail)
    refine HC.out.mono ?_
    rintro e w2 ⟨rfl, hb2⟩
    have HB2 := Aside0.mk (hbT HB.out hb2)
    clear hb2 x0 x1 x2 x3 x4 x5 x6 l0 l1 l2 l3 l4 l5 l6
    go_wp2
    go_ret
    exact ⟨ret_bool HR.out.symm, HB2.out⟩

set_option maxHeartbeats 4000000 in
set_option maxRecDepth 100000 in
theorem neat2_any (m : List (Int × Tm)) (b g : Nat) (okm : Nat → Prop) (hsz : ∀ v u, mget m v = some u → szT u * 40 ≤ 140737488355328) (x : Tm) (A : Option Addr) (c : Nat) (W : World) (hbd : szT x * 40 ≤ 140737488355328) (hM : MapT W b okm m) (hg : W.heap[g]? = some (.cells #[.map (some b)] 121 (0, 0))) (hF : Kd.F kTm W (fun _ => True) A x.f2.length x.f2) (hc : x.f2.length ≤ c) :
    Calls Try.prog 98 (#[.agg #[.int .i64 x.f0, .int .i64 x.f1, .slice A x.f2.length c]] ++ #[.pointer (some ⟨g, 0, none⟩)]) W fun e w' => ∃ (A' : Option Addr) (c' : Nat), e = .returned (.agg #[.int .i64 (mapT (dlt m) x).f0, .int .i64 (mapT (dlt m) x).f1, .slice A' (mapT (dlt m) x).f2.length c']) ∧ (mapT (dlt m) x).f2.length ≤ c' ∧ Kd.F kTm w' (fun k => W.heap.size ≤ k) A' (mapT (dlt m) x).f2.length (mapT (dlt m) x).f2 ∧ Below W.heap.size W w' := by
  have a0 := blk_alloc (newAt (w := W) (o := .cells #[.int .i64 x.f0, .int .i64 x.f1, .slice A x.f2.length c] 46) rfl) (.cells #[.int .i64 0, .int .i64 0, .slice none 0 0] 46)
  have a1 := newAt (w := W.alloc (.cells #[.int .i64 x.f0, .int .i64 x.f1, .slice A x.f2.length c] 46)) (o := .cells #[.int .i64 0, .int .i64 0, .slice none 0 0] 46) (k := W.heap.size + 1) (by simp)
  have a2 := blk_alloc (blk_alloc hg (.cells #[.int .i64 x.f0, .int .i64 x.f1, .slice A x.f2.length c] 46)) (.cells #[.int .i64 0, .int .i64 0, .slice none 0 0] 46)
  have HB := Aside0.mk (below_alloc (below_alloc (Below.refl W.heap.size W) (.cells #[.int .i64 x.f0, .int .i64 x.f1, .slice A x.f2.length c] 46)) (.cells #[.int .i64 0, .int .i64 0, .slice none 0 0] 46))
  have HM := Aside0.mk (MapT.below hM HB.out)
  have HF := Aside0.mk (Kd.F_below hF HB.out)
  have hlen := Kd.F_max hF
  clear hM hg hF
  show Calls Try.prog 98 #[.agg #[.int .i64 x.f0, .int .i64 x.f1, .slice A x.f2.length c], .pointer (some ⟨g, 0, none⟩)] W _
  go_enter Try.func98, Try.ntmps98
  go_upto_region 1 with (fail)
  generalize (W.alloc (.cells #[.int .i64 x.f0, .int .i64 x.f1, .slice A x.f2.length c] 46)).alloc (.cells #[.int .i64 0, .int .i64 0, .slice none 0 0] 46) = W1 at *
  have G1 := Aside0.mk a1
  have m0 := map_cell a2
  obtain ⟨p0, p1, p2⟩ := tm_cells a0
  have hlg := blk_lt a1
  clear a0 a1 a2
  have HMP := Aside0.mk (made_any m b okm _ hsz x A c W1 hbd HM.out HF.out hc)
  go_wp2_with (first | (go_at_call 99; refine HMP.out.mono ?_; rintro e w2 ⟨A', c', rfl, hc', hF2, hb2⟩; have HF2 := Aside0.mk hF2; have HB2 := Aside0.mk hb2; have HR2 := Aside0.mk ((hb2.block _ hlg).trans G1.out); clear hF2 hb2 p0 p1 p2 m0) | (((with_reducible refine gate_store (t := 46) (p := 3) rfl ?_); refine st_tm 3 rfl rfl rfl rfl rfl HR2.out ?_); intro w1 hs1 hG1 hz1; have HS1 := Aside0.mk hs1; have HG1 := Aside0.mk hG1; clear hs1 hG1))
  ((try simp only [Exit.inBlock, Exit.then]); refine bodyPost_ret (results_cell_row rfl _ _ _ 46 _ (0, 0) _ rfl HS1.out Try.underlying46 rfl (by kernel_rfl)) rfl ?_)
  exact ⟨A', c', rfl, hc', Kd.F_mono (Kd.F_grown HF2.out HG1.out (fun k hk => by intro e; injection e with e; omega)) (fun k hk => by have := HB.out.size; omega), gbS (hbT HB.out HB2.out) HG1.out (by omega)⟩
end Go.Proofs.Ytcgnpmjkeifokaa
-- K57
/- clause.Neat, Tidy. -/
namespace Go.Proofs.Ytcgnpmjkeifokaa
open Go.RowKit Go.Proofs.YtcgnpmjkeifokaaW.PrintWords
set_option linter.unusedVariables false
set_option linter.unusedSimpArgs false

theorem nkp_t {c : List Li} {k : Nat} {l : Li} (hl : rd_Li c k = l) (h : (trivN l || (nkp c k).any (dupQ l)) = true) : nkp c (k+1) = nkp c k := by rw [nkp, hl, h]; rfl
theorem nkp_f {c : List Li} {k : Nat} {l : Li} (hl : rd_Li c k = l) (h : (trivN l || (nkp c k).any (dupQ l)) = false) : nkp c (k+1) = nkp c k ++ [l] := by rw [nkp, hl, h]; rfl
theorem nkp_len (c : List Li) (k : Nat) : (nkp c k).length ≤ k := by
  induction k with
  | zero => simp [nkp]
  | succ k ih => rw [nkp]; split <;> (try simp) <;> omega

set_option maxHeartbeats 4000000 in
set_option maxRecDepth 100000 in
theorem neat_any (g : List Int) (c : List Li) (Ac : Option Addr) (cc : Nat) (okc : Nat → Prop) (w : World) (hbd : szL (tmsL c) ≤ 1000000) (hcl : c.length ≤ 1000000) (hr : ∀ t ∈ tmsL c, formE g t = 0) (hC : Kd.F kLi w okc Ac c.length c) :
    Calls Try.prog 52 #[.slice Ac c.length cc] w fun e w' => ∃ A' c', e = .returned (.slice A' (tidyL c).length c') ∧ (tidyL c).length ≤ c' ∧ Kd.F kLi w' (fun k => w.heap.size ≤ k) A' (tidyL c).length (tidyL c) ∧ Below w.heap.size w w' := by
  have hlen := Kd.F_max hC
  have HC := Aside0.mk (Kd.F_bound hC)
  have HBD := Aside0.mk hbd
  have HCL := Aside0.mk hcl
  have HRT := Aside0.mk hr
  have hmm := @run_makeMap Try.prog
  clear hC hbd hcl hr
  go_enter Try.func52, Try.ntmps52
  go_wp2
  go_loopw [3, 11] (fun v0 i wr => ∃ (k : Nat) (vk : Value), k ≤ c.length ∧ i = .int .i64 k ∧ vk = v0 ∧ Aside0 (Kd.N kLi 84 wr w.heap.size (fun k => (okc k ∧ k < w.heap.size) ∨ w.heap.size ≤ k) vk (nkp c k)) ∧ Aside0 (Below w.heap.size w wr)) (fun _ i _ => c.length - (intOf i).toNat)
  case atStart => exact ⟨0, _, by omega, rfl, rfl, ⟨Kd.N_nil _ _ _ _ _⟩, ⟨Below.refl _ _⟩⟩
  case round =>
    rename World => wo
    obtain ⟨k, vk, hk, rfl, rfl, HN, HB⟩ := hrel
    have hzr := HB.out.size
    have HZR := Aside0.mk hzr
    by_cases hlt : k < c.length
    · obtain ⟨ad, A3, c3, A6, c6, rfl, E0, E1, E2, E3, E4, E5, E6, hL, hok0⟩ := at_Lit (Kd.F_below HC.out HB.out) k hlt
      have HL := Aside0.mk hL
      have HKL := Aside0.mk (nkp_len c k)
      have hki : (k : Int) < c.length := by omega
      clear hL hzr
      generalize hl : rd_Li c k = l at *
      have HKt := Aside0.mk (nkp_t hl)
      have HKf := Aside0.mk (nkp_f hl)
      clear hl
      obtain ⟨Av, cv, rfl⟩ := Kd.N_slice HN.out
      have HNB := Aside0.mk (Kd.N_base HN.out)
      generalize nkp c k = s at *
      go_upto_region 5 with (((with_reducible refine gate_store (t := 84) (p := 5) rfl ?_); refine st_li 5 rfl rfl rfl rfl rfl (heap_alloc_new _ _) ?_); intro w4 hs4 hG4 hz4; have HX4 := Aside0.mk hs4; have HB4 := Aside0.mk (gbS (below_alloc (Below.refl wo.heap.size wo) _) hG4 (Nat.le_refl _)); clear hs4 hG4 hz4 E0 E1 E2 E3 E4 E5 E6)
      have HBw4 := Aside0.mk (hbT HB.out HB4.out)
      have HL4 := Aside0.mk (HL.out.below HB4.out)
      have HN4 := Aside0.mk (Kd.N_below HN.out HB4.out)
      obtain ⟨x0, x1, x2, x3, x4, x5, x6⟩ := li_cells HX4.out
      cases hy : l.f0 with
      | true =>
        have HTV : Aside0 (trivN l = false) := ⟨by unfold trivN; rw [hy]; rfl⟩
        rw [hy] at x0
        have HBq := Aside0.mk (Below.refl w4.heap.size w4)
        have HCF := Aside0.mk (containsFuncL 95 #[.pointer (some ⟨wo.heap.size, 0, none⟩)] (dupQ l) (enters_of Try.func95 (by kernel_rfl) rfl) s Av cv _ w4 (Kd.N_F (Kd.N_below HN4.out HBq.out)) (fun x _ B3 d3 B6 d6 W3 hb3 hX3 => neat1_any l x A3 A6 B3 B6 c3 c6 d3 d6 wo.heap.size _ _ W3 ((hb3.block _ (blk_lt HX4.out)).trans HX4.out) (HL4.out.below hb3) hX3))
        clear hy
        go_wp2_with (fail)
        refine HCF.out.mono ?_
        rintro e w5 ⟨rfl, hb5⟩
        have HB5 := Aside0.mk hb5
        clear hb5 HCF x0 x1 x2 x3 x4 x5 x6
        have HBw5 := Aside0.mk (hbT (hbT HBw4.out HBq.out) HB5.out)
        have HN5 := Aside0.mk (Kd.N_below (Kd.N_below HN4.out HBq.out) HB5.out)
        cases hd : s.any (dupQ l) with
        | true =>
          have HR : Aside0 (nkp c (k+1) = s) := ⟨HKt.out (by rw [HTV.out, hd]; rfl)⟩
          clear hd
          go_wp2
          go_roundw
          case rel => exact ⟨k + 1, _, by omega, by go_num, rfl, ⟨by rw [HR.out]; exact HN5.out⟩, HBw5⟩
          case measure => simp [intOf]; omega
        | false =>
          have HR : Aside0 (nkp c (k+1) = s ++ [l]) := ⟨HKf.out (by rw [HTV.out, hd]; rfl)⟩
          obtain ⟨x0, x1, x2, x3, x4, x5, x6⟩ := li_cells ((HB5.out.block _ (Nat.lt_of_lt_of_le (blk_lt HX4.out) HBq.out.size)).trans ((HBq.out.block _ (blk_lt HX4.out)).trans HX4.out))
          have HL5 := Aside0.mk ((HL.out.below HB4.out).below (hbT HBq.out HB5.out))
          clear hd
          go_wp2_with (at_builtin; refine Kd.N_append kLi (w0 := w5) w.heap.size rfl _ _ 26 84 _ 88 rfl Try.underlying26 infoLi rfl (by decide) (by decide) (.slice Av s.length cv) s l _ (fun k => (okc k ∧ k < w.heap.size) ∨ w.heap.size ≤ k) (fun k => okc k ∧ k < w.heap.size) rfl rfl (kLi_mkF w5 _ _ HL5.out.l3 HL5.out.F3 HL5.out.l6 HL5.out.F6) (fun q hq => ⟨.inl hq, fun e => by have := HNB.out q e.symm; have := hq.2; omega⟩) (fun q hq => .inr (Nat.le_trans HBw5.out.size hq)) HN5.out (Below.refl _ _) HBw5.out.size ?_ ?_; (have := HKL.out; have := HCL.out; omega); intro v7 w7 hN7 hB7 hG7 hI7; have HN7 := Aside0.mk hN7; have HB7 := Aside0.mk hB7; clear hN7 hB7 hG7 hI7)
          go_roundw
          case rel => exact ⟨k + 1, v7, by omega, by go_num, rfl, ⟨by rw [HR.out]; exact HN7.out⟩, ⟨HBw5.out.trans HB7.out⟩⟩
          case measure => simp [intOf]; omega
      | false =>
        have HTV : Aside0 (trivN l = eqT l.f1 l.f2) := ⟨by unfold trivN; rw [hy]; rfl⟩
        rw [hy] at x0
        clear hy
        go_wp2_with (fail)
        refine (same_any (szT l.f1) l.f1 l.f2 A3 A6 c3 c6 _ _ w4 (Nat.le_refl _) HL4.out.F3 HL4.out.l3 HL4.out.F6 HL4.out.l6).mono ?_
        rintro e w45 ⟨rfl, hbq⟩
        have HBq := Aside0.mk hbq
        clear hbq x0 x1 x2 x3 x4 x5 x6
        cases he : eqT l.f1 l.f2 with
        | true =>
          have HR : Aside0 (nkp c (k+1) = s) := ⟨HKt.out (by rw [HTV.out, he]; rfl)⟩
          clear he
          go_wp2
          go_roundw
          case rel => exact ⟨k + 1, _, by omega, by go_num, rfl, ⟨by rw [HR.out]; exact Kd.N_below HN4.out HBq.out⟩, ⟨hbT HBw4.out HBq.out⟩⟩
          case measure => simp [intOf]; omega
        | false =>
          have HTV : Aside0 (trivN l = false) := ⟨by rw [HTV.out, he]⟩
          have HX45 := Aside0.mk ((HBq.out.block _ (blk_lt HX4.out)).trans HX4.out)
          have HCF := Aside0.mk (containsFuncL 95 #[.pointer (some ⟨wo.heap.size, 0, none⟩)] (dupQ l) (enters_of Try.func95 (by kernel_rfl) rfl) s Av cv _ w45 (Kd.N_F (Kd.N_below HN4.out HBq.out)) (fun x _ B3 d3 B6 d6 W3 hb3 hX3 => neat1_any l x A3 A6 B3 B6 c3 c6 d3 d6 wo.heap.size _ _ W3 ((hb3.block _ (blk_lt HX45.out)).trans HX45.out) ((HL4.out.below HBq.out).below hb3) hX3))
          clear he
          go_wp2_with (fail)
          refine HCF.out.mono ?_
          rintro e w5 ⟨rfl, hb5⟩
          have HB5 := Aside0.mk hb5
          clear hb5 HCF
          have HBw5 := Aside0.mk (hbT (hbT HBw4.out HBq.out) HB5.out)
          have HN5 := Aside0.mk (Kd.N_below (Kd.N_below HN4.out HBq.out) HB5.out)
          cases hd : s.any (dupQ l) with
          | true =>
            have HR : Aside0 (nkp c (k+1) = s) := ⟨HKt.out (by rw [HTV.out, hd]; rfl)⟩
            clear hd
            go_wp2
            go_roundw
            case rel => exact ⟨k + 1, _, by omega, by go_num, rfl, ⟨by rw [HR.out]; exact HN5.out⟩, HBw5⟩
            case measure => simp [intOf]; omega
          | false =>
            have HR : Aside0 (nkp c (k+1) = s ++ [l]) := ⟨HKf.out (by rw [HTV.out, hd]; rfl)⟩
            obtain ⟨x0, x1, x2, x3, x4, x5, x6⟩ := li_cells ((HB5.out.block _ (Nat.lt_of_lt_of_le (blk_lt HX4.out) HBq.out.size)).trans ((HBq.out.block _ (blk_lt HX4.out)).trans HX4.out))
            have HL5 := Aside0.mk ((HL.out.below HB4.out).below (hbT HBq.out HB5.out))
            clear hd
            go_wp2_with (at_builtin; refine Kd.N_append kLi (w0 := w5) w.heap.size rfl _ _ 26 84 _ 88 rfl Try.underlying26 infoLi rfl (by decide) (by decide) (.slice Av s.length cv) s l _ (fun k => (okc k ∧ k < w.heap.size) ∨ w.heap.size ≤ k) (fun k => okc k ∧ k < w.heap.size) rfl rfl (kLi_mkF w5 _ _ HL5.out.l3 HL5.out.F3 HL5.out.l6 HL5.out.F6) (fun q hq => ⟨.inl hq, fun e => by have := HNB.out q e.symm; have := hq.2; omega⟩) (fun q hq => .inr (Nat.le_trans HBw5.out.size hq)) HN5.out (Below.refl _ _) HBw5.out.size ?_ ?_; (have := HKL.out; have := HCL.out; omega); intro v7 w7 hN7 hB7 hG7 hI7; have HN7 := Aside0.mk hN7; have HB7 := Aside0.mk hB7; clear hN7 hB7 hG7 hI7)
            go_roundw
            case rel => exact ⟨k + 1, v7, by omega, by go_num, rfl, ⟨by rw [HR.out]; exact HN7.out⟩, ⟨HBw5.out.trans HB7.out⟩⟩
            case measure => simp [intOf]; omega
    · obtain rfl : k = c.length := by omega
      obtain ⟨Av, cv, rfl⟩ := Kd.N_slice HN.out
      rw [nkp_all] at HN
      have HKZ : Aside0 (szL (tmsL (kpt c c.length)) ≤ 1000000) := ⟨by have := kpt_sz c c.length (Nat.le_refl _); have := tms_take_le c c.length; have := HBD.out; omega⟩
      have HKL : Aside0 ((kpt c c.length).length ≤ 1000000) := ⟨by have := kpt_len c c.length; have := HCL.out; omega⟩
      have HTD : Aside0 (tidyL c = tidyK (kpt c c.length)) := ⟨rfl⟩
      have HRK : Aside0 (∀ t ∈ tmsL (kpt c c.length), formE g t = 0) := ⟨fun t ht => HRT.out t (tms_kpt ht)⟩
      simp only [nkp_all] at *
      generalize kpt c c.length = s at *
      have HFS := Aside0.mk (Kd.F_bound (Kd.N_F HN.out))
      have HBm := Aside0.mk (below_alloc (below_alloc (Below.refl wo.heap.size wo) (.map #[] 0)) (.cells #[.map (some wo.heap.size)] 121))
      have HM0 := Aside0.mk (MapT.below (MapT.made wo (fun _ => False)) (below_alloc (Below.refl _ _) (.cells #[.map (some wo.heap.size)] 121)))
      have HG6 := Aside0.mk (newAt (w := wo.alloc (.map #[] 0)) (o := .cells #[.map (some wo.heap.size)] 121) (k := wo.heap.size + 1) (by simp))
      have HFV : Aside0 (stL [] (tmsL s) = fvL [] (tmsL s)) := ⟨stL_fvL g _ HRK.out []⟩
      have HVL : Aside0 ((fvL [] (tmsL s)).length ≤ 1000000) := ⟨by have := fvL_len (tmsL s) []; have := HKZ.out; simp at *; omega⟩
      have HND : Aside0 ((fvL [] (tmsL s)).Nodup) := ⟨fvL_nodup _ _ List.nodup_nil⟩
      have HTK : Aside0 (tidyK s = appC (bds (numK (fvL [] (tmsL s)) (fvL [] (tmsL s)).length)) s) := ⟨rfl⟩
      clear hzr
      go_upto_region 9 with (fail)
      generalize (wo.alloc (.map #[] 0)).alloc (.cells #[.map (some wo.heap.size)] 121) = W2 at *
      have HF2 := Aside0.mk (Kd.F_below HFS.out HBm.out)
      go_wp2_with (first | (go_at_call 81; refine (terms_any s Av cv _ W2 HKL.out HF2.out).mono ?_; rintro e w3 ⟨A3, c3, rfl, h3, hF3, hb3⟩; have HF3 := Aside0.mk hF3; have HB3 := Aside0.mk hb3; clear hF3 hb3) | (go_at_call 80; refine (stands_any (tmsL s) A3 c3 _ w3 HKZ.out HF3.out).mono ?_; rintro e w4 ⟨v7, rfl, hN7, hb4⟩; rw [HFV.out] at hN7; obtain ⟨A7, c7, rfl⟩ := Kd.N_slice hN7; have HN7 := Aside0.mk (Kd.N_F hN7); have HB4 := Aside0.mk hb4; clear hN7 hb4))
      generalize fvL [] (tmsL s) = vs at *
      have hvl : vs.length ≤ 9223372036854775807 := by have := HVL.out; omega
      have HB24 := Aside0.mk (hbT HB3.out HB4.out)
      have HBo4 := Aside0.mk (hbT HBm.out HB24.out)
      have HBw4 := Aside0.mk (hbT HB.out HBo4.out)
      have HM4 := Aside0.mk (MapT.below HM0.out HB24.out)
      have HG4 := Aside0.mk ((HB24.out.block _ (blk_lt HG6.out)).trans HG6.out)
      have HZ3 : Aside0 (wo.heap.size < w3.heap.size) := ⟨by have := HB3.out.size; have := blk_lt HG6.out; omega⟩
      go_loopw [40] (fun i wr => ∃ k : Nat, k ≤ vs.length ∧ i = .int .i64 k ∧ Aside0 (MapT wr wo.heap.size (fun _ => False) (bds (numK vs k))) ∧ Aside0 (w4.grownBy wr (some wo.heap.size))) (fun i _ => vs.length - (intOf i).toNat)
      case atStart => exact ⟨0, by omega, rfl, HM4, ⟨gbOf (Below.refl _ _) _⟩⟩
      case round =>
        obtain ⟨k, hk, rfl, HMk, HGk⟩ := hrel
        have HG6r := Aside0.mk ((HGk.out.block _ (blk_lt HG4.out) (fun e => by injection e with e; omega)).trans HG4.out)
        by_cases hlt : k < vs.length
        · obtain ⟨ad, rfl, E0⟩ := at_Int (Kd.F_now (Kd.F_grown HN7.out HGk.out (fun q hq => fun e => by injection e with e; have := HZ3.out; omega))) (k : Int) (by omega) (by omega)
          simp only [Int.toNat_natCast] at E0
          have HST := Aside0.mk (numK_step HND.out hlt)
          have hki : (k : Int) < vs.length := by omega
          have hwk : IntKind.i64.wrap ((k : Int) + 1) = (k : Int) + 1 := IntWalk.i64_in _ (by omega)
          have m0 := map_cell HG6r.out
          generalize vs.getD k 0 = v at *
          go_wp2_with (at_mapUpdate; refine wp_updT rfl _ _ _ rfl rfl HMk.out v rfl ⟨(k : Int) + 1, 0, []⟩ none 0 rfl (Nat.le_refl _) (fun W' _ => Kd.C_nil _ _) (fun _ h => h.elim) ?_; intro w5 hM5 hG5; have HM5 := Aside0.mk hM5; have HG5 := Aside0.mk hG5; clear hM5 hG5 m0 E0)
          go_roundw
          case rel => exact ⟨k + 1, by omega, by go_num, ⟨by rw [← HST.out]; exact HM5.out⟩, ⟨gbT HGk.out HG5.out (.inl rfl)⟩⟩
          case measure => simp [intOf]; omega
        · obtain rfl : k = vs.length := by omega
          have HBwr := Aside0.mk (gbS HBw4.out HGk.out HZR.out)
          have HFr := Aside0.mk (Kd.F_grown (Kd.F_below HF2.out HB24.out) HGk.out (fun q hq => fun e => by injection e with e; have := hq.2; omega))
          have HEA : Aside0 (eachC (mapT (dlt (bds (numK vs vs.length)))) s = tidyL c) := ⟨by rw [HTD.out, HTK.out]; exact each_app g _ s HRK.out⟩
          have HEC := Aside0.mk (each_any 98 #[.pointer (some ⟨wo.heap.size + 1, 0, none⟩)] (mapT (dlt (bds (numK vs vs.length)))) (enters_of Try.func98 (by kernel_rfl) rfl) s Av cv _ wr HKL.out (fun x A c W hx hB hF hc => neat2_any _ wo.heap.size (wo.heap.size + 1) (fun _ => False) (fun v u hu => by obtain ⟨i, rfl⟩ := numK_var _ hu; simp [szT, szL]) x A c W (by have := szT_mem hx; have := HKZ.out; omega) (MapT.below HMk.out hB) ((hB.block _ (blk_lt HG6r.out)).trans HG6r.out) hF hc) HFr.out)
          rw [HEA.out] at HEC
          generalize numK vs vs.length = nb at *
          go_wp2_with (go_at_call 97; refine HEC.out.mono ?_; rintro e w9 ⟨A9, c9, rfl, h9, hF9, hb9⟩; have HF9 := Aside0.mk hF9; have HB9 := Aside0.mk hb9; clear hF9 hb9)
          go_ret
          have h2 := Kd.F_mono HF9.out (ok' := fun k => w.heap.size ≤ k) (fun q hq => by have := HBwr.out.size; omega)
          first | exact ⟨A9, c9, rfl, h9, h2, hbT HBwr.out HB9.out⟩ | exact ⟨rfl, A9, c9, h9, h2, hbT HBwr.out HB9.out⟩
end Go.Proofs.Ytcgnpmjkeifokaa
-- K58
/- clause.Tidy; what a list of clauses that is right holds. -/
namespace Go.Proofs.Ytcgnpmjkeifokaa
open Go.RowKit Go.Proofs.YtcgnpmjkeifokaaW.PrintWords
set_option linter.unusedVariables false
set_option linter.unusedSimpArgs false

theorem chkLi_ok {g : List Int} {x : Li} (h : chkLi g x = 0) : okT g x.f1 ∧ okT g x.f2 := by
  unfold chkLi at h
  by_cases h1 : chkT g x.f1 = 0
  · rw [if_neg (by simpa using h1)] at h; exact ⟨chkT_ok.1 h1, chkT_ok.1 h⟩
  · rw [if_pos h1] at h; exact absurd h h1
theorem chkC_ok {g : List Int} {c : List Li} (h : chkC g c = 0) : c.length ≤ 8 ∧ ∀ x ∈ c, okT g x.f1 ∧ okT g x.f2 := by
  unfold chkC at h
  by_cases h1 : 8 < c.length
  · rw [if_pos h1] at h; cases h
  · rw [if_neg h1] at h; exact ⟨by omega, fun x hx => chkLi_ok (fe_mem h x hx)⟩
theorem chkCs_ok {g : List Int} {l : List (List Li)} (h : chkCs g l = 0) : ∀ c ∈ l, c.length ≤ 8 ∧ ∀ x ∈ c, okT g x.f1 ∧ okT g x.f2 := by
  unfold chkCs at h
  by_cases h1 : sigE g = 0
  · rw [if_neg (by simpa using h1)] at h
    by_cases h2 : 60 < l.length
    · rw [if_pos h2] at h; cases h
    · rw [if_neg h2] at h; exact fun c hc => chkC_ok (fe_mem h c hc)
  · rw [if_pos h1] at h; exact absurd h h1
theorem okC_tms {g : List Int} {c : List Li} (h : ∀ x ∈ c, okT g x.f1 ∧ okT g x.f2) : ∀ t ∈ tmsL c, formE g t = 0 := by
  intro t ht
  obtain ⟨l, hl, h2⟩ := tmsL_mem ht
  rcases h2 with rfl | rfl
  · exact (h l hl).1.2
  · exact (h l hl).2.2
theorem okC_sz {g : List Int} : ∀ {c : List Li}, (∀ x ∈ c, okT g x.f1 ∧ okT g x.f2) → szL (tmsL c) ≤ c.length * 240
  | [], _ => by simp [tmsL, szL]
  | l :: c, h => by
    have h1 := okC_sz (c := c) (fun x hx => h x (by simp [hx]))
    have h2 := h l (by simp)
    have h3 := h2.1.1
    have h4 := h2.2.1
    simp only [tmsL, szL, List.length_cons]; omega

def tidR (g : List Int) (c : List Li) : List Li := if chkCs g [c] = 0 then tidyL c else []
set_option maxHeartbeats 4000000 in
set_option maxRecDepth 100000 in
theorem tidy_any (g : List Int) (Ag : Option Addr) (cg : Nat) (c : List Li) (Ac : Option Addr) (cc : Nat) (okc : Nat → Prop) (w : World) (hG : Kd.C (Kd.int .i64) w Ag g.length g) (hF : Kd.F kLi w okc Ac c.length c) (hc : c.length ≤ cc) :
    Calls Try.prog 11 #[.agg #[.slice Ag g.length cg], .slice Ac c.length cc] w fun e w' => ∃ A' c', e = .returned (.tuple #[.slice A' (tidR g c).length c', .int .i64 (chkCs g [c])]) ∧ (tidR g c).length ≤ c' ∧ Kd.F kLi w' (fun k => w.heap.size ≤ k) A' (tidR g c).length (tidR g c) ∧ Below w.heap.size w w' := by
  have HF := Aside0.mk hF
  have HG := Aside0.mk hG
  clear hF hG
  have g0 := newAt (w := w) (o := .cells #[.slice Ag g.length cg] 24) rfl
  have HB := Aside0.mk (below_alloc (Below.refl w.heap.size w) (.cells #[.slice Ag g.length cg] 24))
  go_enter Try.func11, Try.ntmps11
  go_upto_region 1 with (fail)
  generalize w.alloc (.cells #[.slice Ag g.length cg] 24) = W at *
  have s0 := sg_cell g0
  clear g0
  go_upto_region 2 with (go_at_call 51; refine (clauseOne_any g Ag cg c Ac cc _ _ (Kd.C_below HG.out HB.out) (Kd.F_below HF.out HB.out) hc).mono ?_; rintro e w2 ⟨rfl, hb2⟩; have HB2 := Aside0.mk hb2; clear hb2 s0)
  have HB02 := Aside0.mk (hbT HB.out HB2.out)
  by_cases h0 : chkCs g [c] = 0
  · have h0b := bneF h0
    have HR : Aside0 (tidR g c = tidyL c) := ⟨by unfold tidR; rw [if_pos h0]⟩
    have hk := chkCs_ok h0 c (by simp)
    have hs := okC_sz hk.2
    have hl := hk.1
    have HN := Aside0.mk (neat_any g c Ac cc _ w2 (by omega) (by omega) (okC_tms hk.2) (Kd.F_below HF.out HB02.out))
    have H0 := Aside0.mk h0
    clear h0 hk hs hl
    go_wp2_with (go_at_call 52; refine HN.out.mono ?_; rintro e w3 ⟨A', c', rfl, hc', hF3, hb3⟩; have HF3 := Aside0.mk hF3; have HB3 := Aside0.mk hb3; clear hb3 hF3)
    go_ret2
    refine ⟨A', c', by rw [HR.out, H0.out]; rfl, by rw [HR.out]; exact hc', ?_, hbT HB02.out HB3.out⟩
    rw [HR.out]
    exact Kd.F_mono HF3.out (fun q hq => by have := HB02.out.size; omega)
  · have h0b := bneT h0
    have HR : Aside0 (tidR g c = []) := ⟨by unfold tidR; rw [if_neg h0]⟩
    clear h0
    go_wp2
    go_ret2
    refine ⟨none, 0, by rw [HR.out]; rfl, by rw [HR.out]; exact Nat.le_refl _, ?_, HB02.out⟩
    rw [HR.out]
    exact fun W' _ => Kd.C_nil _ _

/-! ### clauseBegun's clauses -/
def cS : List Li := [⟨true, ⟨7, 0, []⟩, ⟨0, 0, []⟩⟩, ⟨false, ⟨3, 0, []⟩, ⟨3, 0, []⟩⟩]
def dS : List Li := [⟨true, ⟨0, 0, []⟩, ⟨0, 1, [⟨0, 0, []⟩]⟩⟩]
def tS1 : List Li := [⟨true, ⟨1, 0, []⟩, ⟨0, 0, []⟩⟩]
theorem chk_cS : chkCs [0, 1] [cS] = 0 := by rfl
theorem tid_cS : tidR [0, 1] cS = tS1 := by rfl
theorem chk_dS : chkCs [0, 1] [tS1, dS] = 0 := by rfl
theorem sub_dS : subB [0, 1] tS1 dS = true := by rfl
theorem alw_cS : alwR [0, 1] cS = false := by rfl
end Go.Proofs.Ytcgnpmjkeifokaa
-- K59
/- superposelaw.clauseBegun. -/
namespace Go.Proofs.Ytcgnpmjkeifokaa
open Go.RowKit Go.Proofs.YtcgnpmjkeifokaaW.PrintWords
set_option linter.unusedVariables false
set_option linter.unusedSimpArgs false

theorem LiF_v (W : World) (y : Bool) (a b a' b' : Int) : LiF W (fun _ => False) ⟨y, ⟨a, b, []⟩, ⟨a', b', []⟩⟩ none 0 none 0 := ⟨Nat.le_refl _, fun W' _ => Kd.C_nil _ _, Nat.le_refl _, fun W' _ => Kd.C_nil _ _⟩
/-- A row of one literal that was just laid. -/
theorem F_li1 {W : World} {ok : Nat → Prop} {gb : Nat} {x : Li} {A3 A6 : Option Addr} {c3 c6 : Nat} (hb : W.heap[gb]? = some (.cells #[.bool x.f0, .int .i64 x.f1.f0, .int .i64 x.f1.f1, .slice A3 x.f1.f2.length c3, .int .i64 x.f2.f0, .int .i64 x.f2.f1, .slice A6 x.f2.f2.length c6] 84 (0, 0)))
    (hx : LiF W ok x A3 c3 A6 c6) : Kd.F kLi W (fun k => ok k ∨ k = gb) (some ⟨gb, 0, none⟩) [x].length [x] :=
  F_lit (d := kLi) [[.bool x.f0, .int .i64 x.f1.f0, .int .i64 x.f1.f1, .slice A3 x.f1.f2.length c3, .int .i64 x.f2.f0, .int .i64 x.f2.f1, .slice A6 x.f2.f2.length c6]] hb rfl (by simp) (fun j z c' hz hc' => by
    match j with
    | 0 => simp at hz hc'; subst hz hc'; exact hx.FK
    | j + 1 => simp at hz)
/-- The first clause, laid. -/
theorem F_cS {W : World} {gb : Nat} (hb : W.heap[gb]? = some (.cells #[.bool true, .int .i64 7, .int .i64 0, .slice none 0 0, .int .i64 0, .int .i64 0, .slice none 0 0, .bool false, .int .i64 3, .int .i64 0, .slice none 0 0, .int .i64 3, .int .i64 0, .slice none 0 0] 84 (0, 0))) :
    Kd.F kLi W (fun _ => True) (some ⟨gb, 0, none⟩) 2 cS :=
  Kd.F_mono (F_li2 (x := ⟨true, ⟨7, 0, []⟩, ⟨0, 0, []⟩⟩) (y := ⟨false, ⟨3, 0, []⟩, ⟨3, 0, []⟩⟩) (ok := fun _ => False) hb (LiF_v W _ _ _ _ _) (LiF_v W _ _ _ _ _)) (fun _ _ => trivial)
theorem F_dS {W : World} {gb bt : Nat} (ht : W.heap[bt]? = some (.cells #[.int .i64 0, .int .i64 0, .slice none 0 0] 46 (0, 0))) (hb : W.heap[gb]? = some (.cells #[.bool true, .int .i64 0, .int .i64 0, .slice none 0 0, .int .i64 0, .int .i64 1, .slice (some ⟨bt, 0, none⟩) 1 1] 84 (0, 0))) :
    Kd.F kLi W (fun _ => True) (some ⟨gb, 0, none⟩) 1 dS :=
  Kd.F_mono (F_li1 (x := ⟨true, ⟨0, 0, []⟩, ⟨0, 1, [⟨0, 0, []⟩]⟩⟩) (ok := fun k => k = bt) hb ⟨Nat.le_refl _, fun W' _ => Kd.C_nil _ _, Nat.le_refl _, F_va 0 ht⟩) (fun _ _ => trivial)
theorem tidy_s (A1 Ac : Option Addr) (w : World) (hG : Kd.C (Kd.int .i64) w A1 2 [0, 1]) (hF : Kd.F kLi w (fun _ => True) Ac 2 cS) :
    Calls Try.prog 11 #[.agg #[.slice A1 2 2], .slice Ac 2 2] w fun e w' => ∃ A' c', e = .returned (.tuple #[.slice A' 1 c', .int .i64 0]) ∧ 1 ≤ c' ∧ Kd.F kLi w' (fun k => w.heap.size ≤ k) A' 1 tS1 ∧ Below w.heap.size w w' := by
  have h := tidy_any [0, 1] A1 2 cS Ac 2 _ w hG hF (Nat.le_refl _)
  rw [tid_cS, chk_cS] at h
  exact h
theorem subs_s (A1 Ac Ad : Option Addr) (c1 c2 : Nat) (w : World) (hG : Kd.C (Kd.int .i64) w A1 2 [0, 1]) (hF : Kd.F kLi w (fun _ => True) Ac 1 tS1) (hc : 1 ≤ c1) (hF2 : Kd.F kLi w (fun _ => True) Ad 1 dS) (hd : 1 ≤ c2) :
    Calls Try.prog 13 #[.agg #[.slice A1 2 2], .slice Ac 1 c1, .slice Ad 1 c2] w fun e w' => e = .returned (.tuple #[.bool true, .int .i64 0]) ∧ Below w.heap.size w w' := by
  have h := subsumes_any [0, 1] A1 2 tS1 dS Ac Ad c1 c2 _ w hG hF hc hF2 hd
  rw [sub_dS, chk_dS] at h
  exact h
theorem alw_s (A1 Ac : Option Addr) (w : World) (hG : Kd.C (Kd.int .i64) w A1 2 [0, 1]) (hF : Kd.F kLi w (fun _ => True) Ac 2 cS) :
    Calls Try.prog 12 #[.agg #[.slice A1 2 2], .slice Ac 2 2] w fun e w' => e = .returned (.tuple #[.bool false, .int .i64 0]) ∧ Below w.heap.size w w' := by
  have h := always_any [0, 1] A1 2 cS Ac 2 _ w hG hF (Nat.le_refl _)
  rw [alw_cS, chk_cS] at h
  exact h
theorem chkc_s (A1 : Option Addr) (b gb : Nat) (w : World) (hG : Kd.C (Kd.int .i64) w A1 2 [0, 1]) (hF : Kd.F kLi w (fun _ => True) (some ⟨b, 0, none⟩) 2 cS) (hb : w.heap[gb]? = some (.cells #[.slice (some ⟨b, 0, none⟩) 2 2] 26 (0, 0))) :
    Calls Try.prog 19 #[.agg #[.slice A1 2 2], .slice (some ⟨gb, 0, none⟩) 1 1] w fun e w' => e = .returned (.int .i64 0) ∧ Below w.heap.size w w' := by
  have h := clauseCheck_any [0, 1] A1 2 [cS] (some ⟨gb, 0, none⟩) 1 _ w hG (F_cl1 (t := cS) hb hF (Nat.le_refl _))
  rw [chk_cS] at h
  exact h

set_option maxHeartbeats 4000000 in
set_option maxRecDepth 100000 in
theorem clauseBegun_any (w : World) : Calls Try.prog 18 #[] w fun e w' => e = .returned (.bool true) ∧ Below w.heap.size w w' := by
  go_enter Try.func18, Try.ntmps18
  go_wp2_with (fail)
  refine (va_any 7 _).mono ?_
  rintro e w1 ⟨rfl, hb1⟩
  have HB1 := Aside0.mk hb1
  clear hb1
  go_wp2_with (fail)
  refine (fn_any 0 _ _ _ _).mono ?_
  rintro e w2 ⟨rfl, hb2⟩
  have HB2 := Aside0.mk (hbT HB1.out hb2)
  clear hb2
  go_wp2_with (fail)
  refine (va_any 3 _).mono ?_
  rintro e w3 ⟨rfl, hb3⟩
  have HB3 := Aside0.mk (hbT HB2.out hb3)
  clear hb3
  go_wp2_with (fail)
  refine (va_any 3 _).mono ?_
  rintro e w4 ⟨rfl, hb4⟩
  have HB4 := Aside0.mk (hbT HB3.out hb4)
  clear hb4
  have HN := Aside0.mk (heap_alloc_new w4 (.cells #[.bool true, .int .i64 7, .int .i64 0, .slice none 0 0, .int .i64 0, .int .i64 0, .slice none 0 0, .bool false, .int .i64 3, .int .i64 0, .slice none 0 0, .int .i64 3, .int .i64 0, .slice none 0 0] 84))
  have HBn := Aside0.mk (hbT HB4.out (below_alloc (Below.refl w4.heap.size w4) (.cells #[.bool true, .int .i64 7, .int .i64 0, .slice none 0 0, .int .i64 0, .int .i64 0, .slice none 0 0, .bool false, .int .i64 3, .int .i64 0, .slice none 0 0, .int .i64 3, .int .i64 0, .slice none 0 0] 84)))
  go_wp2_with (fail)
  generalize w4.alloc (.cells #[.bool true, .int .i64 7, .int .i64 0, .slice none 0 0, .int .i64 0, .int .i64 0, .slice none 0 0, .bool false, .int .i64 3, .int .i64 0, .slice none 0 0, .int .i64 3, .int .i64 0, .slice none 0 0] 84) = W at *
  have HFC := Aside0.mk (F_cS HN.out)
  refine (small_any _).mono ?_
  rintro e w5 ⟨A5, rfl, hC5, hb5⟩
  have HB5 := Aside0.mk hb5
  have HC5 := Aside0.mk hC5
  clear hC5 hb5
  go_wp2_with (fail)
  refine (tidy_s A5 _ _ HC5.out (Kd.F_below HFC.out HB5.out)).mono ?_
  rintro e w6 ⟨A6, c6, rfl, hc6, hF6, hb6⟩
  have HF6 := Aside0.mk (Kd.F_mono hF6 (ok' := fun _ => True) (fun _ _ => trivial))
  have HB6 := Aside0.mk (hbT HB5.out hb6)
  clear hF6 hb6
  go_wp2_with (fail)
  refine (small_any _).mono ?_
  rintro e w7 ⟨A7, rfl, hC7, hb7⟩
  have HB67 := Aside0.mk hb7
  have HC7 := Aside0.mk hC7
  clear hC7 hb7
  go_wp2_with (fail)
  refine (fn_any 0 _ _ _ _).mono ?_
  rintro e w8 ⟨rfl, hb8⟩
  have HB68 := Aside0.mk (hbT HB67.out hb8)
  have HC8 := Aside0.mk (Kd.C_below HC7.out hb8)
  clear hb8
  go_wp2_with (fail)
  refine (fn_any 0 _ _ _ _).mono ?_
  rintro e w9 ⟨rfl, hb9⟩
  have HB69 := Aside0.mk (hbT HB68.out hb9)
  have HC9 := Aside0.mk (Kd.C_below HC8.out hb9)
  clear hb9
  go_wp2_with (fail)
  refine (fn_any 1 _ _ _ _).mono ?_
  rintro e w10 ⟨rfl, hb10⟩
  have HB910 := Aside0.mk (hbA (Below.refl _ w9) _ hb10)
  have HN10 := Aside0.mk ((hb10.block w9.heap.size (by simp)).trans (heap_alloc_new w9 (.cells #[.int .i64 0, .int .i64 0, .slice none 0 0] 46)))
  clear hb10
  have HBa := Aside0.mk (below_alloc (Below.refl w10.heap.size w10) (.cells #[.bool true, .int .i64 0, .int .i64 0, .slice none 0 0, .int .i64 0, .int .i64 1, .slice (some ⟨w9.heap.size, 0, none⟩) 1 1] 84))
  have HNa := Aside0.mk (heap_alloc_new w10 (.cells #[.bool true, .int .i64 0, .int .i64 0, .slice none 0 0, .int .i64 0, .int .i64 1, .slice (some ⟨w9.heap.size, 0, none⟩) 1 1] 84))
  go_wp2_with (fail)
  generalize w10.alloc (.cells #[.bool true, .int .i64 0, .int .i64 0, .slice none 0 0, .int .i64 0, .int .i64 1, .slice (some ⟨w9.heap.size, 0, none⟩) 1 1] 84) = W11 at *
  have HB911 := Aside0.mk (hbT HB910.out HBa.out)
  have HB611 := Aside0.mk (hbT HB69.out HB911.out)
  refine (subs_s A7 _ _ _ _ _ (Kd.C_below HC9.out HB911.out) (Kd.F_below HF6.out HB611.out) hc6 (F_dS ((HBa.out.block _ (blk_lt HN10.out)).trans HN10.out) HNa.out) (Nat.le_refl _)).mono ?_
  rintro e w12 ⟨rfl, hb12⟩
  have HB612 := Aside0.mk (hbT HB611.out hb12)
  clear hb12
  go_wp2_with (fail)
  refine (small_any _).mono ?_
  rintro e w13 ⟨A13, rfl, hC13, hb13⟩
  have HB613 := Aside0.mk (hbT HB612.out hb13)
  have HC13 := Aside0.mk hC13
  clear hC13 hb13
  go_wp2_with (fail)
  refine (alw_s A13 _ _ HC13.out (Kd.F_below HFC.out (hbT HB6.out HB613.out))).mono ?_
  rintro e w14 ⟨rfl, hb14⟩
  have HB614 := Aside0.mk (hbT HB613.out hb14)
  have HBW14 := Aside0.mk (hbT HB6.out HB614.out)
  clear hb14
  obtain ⟨ad, A3, c3, A6', c6', rfl, E0, E1, E2, E3, E4, E5, E6, _, _⟩ := at_Lit (Kd.F_below HF6.out HB614.out) 0 (by omega)
  have e1 : w14.cell? ⟨ad.block, ad.off + 1, none⟩ = some (.int .i64 1) := E1
  clear E0 E1 E2 E3 E4 E5 E6
  go_wp2_with (fail)
  refine (small_any _).mono ?_
  rintro e w15 ⟨A15, rfl, hC15, hb15⟩
  have HBW15 := Aside0.mk (hbT HBW14.out hb15)
  have HC15 := Aside0.mk hC15
  clear hC15 hb15 e1
  have HBb := Aside0.mk (below_alloc (Below.refl w15.heap.size w15) (.cells #[.slice (some ⟨w4.heap.size, 0, none⟩) 2 2] 26))
  have HNb := Aside0.mk (heap_alloc_new w15 (.cells #[.slice (some ⟨w4.heap.size, 0, none⟩) 2 2] 26))
  go_wp2_with (fail)
  refine (chkc_s A15 w4.heap.size _ _ (Kd.C_below HC15.out HBb.out) (Kd.F_below HFC.out (hbT HBW15.out HBb.out)) HNb.out).mono ?_
  rintro e w16 ⟨rfl, hb16⟩
  have HB16 := Aside0.mk (hbT (hbT HBn.out (hbT HBW15.out HBb.out)) hb16)
  clear hb16
  go_wp2
  go_ret
  exact ⟨rfl, HB16.out⟩
end Go.Proofs.Ytcgnpmjkeifokaa
