/- The walks of the document's answer for clauses: what grows, covers, is put in. -/
import Derived.Test.YtcgnpmjkeifokaaMCl1
-- K46
/- superposeref.SameClause, superposelaw.clauseIs. -/
namespace Go.Proofs.Ytcgnpmjkeifokaa
open Go.RowKit Go.Proofs.YtcgnpmjkeifokaaW.PrintWords
set_option linter.unusedVariables false
set_option linter.unusedSimpArgs false

def samLi (x y : Li) : Bool := x.f0 == y.f0 && (eqT x.f1 y.f1 && eqT x.f2 y.f2)
theorem samLi_iff (x y : Li) : samLi x y = true ↔ x = y := by
  obtain ⟨a, b, c⟩ := x
  obtain ⟨a', b', c'⟩ := y
  unfold samLi
  simp only [Bool.and_eq_true, beq_iff_eq, eqT_iff, Li.mk.injEq]
def samC (a b : List Li) : Bool := eqF samLi a b
theorem samC_iff : ∀ a b : List Li, samC a b = true ↔ a = b
  | [], [] => by simp [samC, eqF]
  | [], _ :: _ => by simp [samC, eqF]
  | _ :: _, [] => by simp [samC, eqF]
  | x :: a, y :: b => by
    have := samC_iff a b
    unfold samC at this ⊢
    rw [eqF, Bool.and_eq_true, samLi_iff, this, List.cons.injEq]
theorem samC_refl (a : List Li) : samC a a = true := (samC_iff a a).2 rfl
theorem samC_len {a b : List Li} (h : a.length ≠ b.length) : samC a b = false := eqF_len h
theorem samLi_0 {x y : Li} (h : (x.f0 == y.f0) = false) : samLi x y = false := by unfold samLi; rw [h]; rfl
theorem samLi_1 {x y : Li} (h : eqT x.f1 y.f1 = false) : samLi x y = false := by unfold samLi; rw [h]; cases x.f0 == y.f0 <;> rfl
theorem samLi_2 {x y : Li} (h : (x.f0 == y.f0) = true) (h1 : eqT x.f1 y.f1 = true) : samLi x y = eqT x.f2 y.f2 := by unfold samLi; rw [h, h1]; rfl

set_option maxHeartbeats 4000000 in
set_option maxRecDepth 100000 in
theorem sameClause_any (a b : List Li) (Aa Ab : Option Addr) (ca cb : Nat) (oka okb : Nat → Prop) (w : World) (hA : Kd.F kLi w oka Aa a.length a) (hB : Kd.F kLi w okb Ab b.length b) :
    Calls Try.prog 21 #[.slice Aa a.length ca, .slice Ab b.length cb] w fun e w' => e = .returned (.bool (samC a b)) ∧ Below w.heap.size w w' := by
  have hlen := Kd.F_max hA
  have hlen2 := Kd.F_max hB
  have HA := Aside0.mk hA
  have HB := Aside0.mk hB
  clear hA hB
  by_cases hn : a.length = b.length
  · have hB := bneF (a := (a.length : Int)) (b := (b.length : Int)) (by omega)
    have HN := Aside0.mk hn
    have hle : a.length ≤ b.length := by omega
    have hB' : (a.length != b.length) = false := by simp [hn]
    clear hn
    go_enter Try.func21, Try.ntmps21
    go_wp2
    go_loopw [5] (fun i wr => ∃ k : Nat, k ≤ a.length ∧ i = .int .i64 k ∧ Aside0 (samC a b = eqF samLi (a.drop k) (b.drop k)) ∧ Aside0 (Below w.heap.size w wr)) (fun i _ => a.length - (intOf i).toNat)
    case atStart => exact ⟨0, by omega, rfl, ⟨by simp [samC]⟩, ⟨Below.refl _ _⟩⟩
    case round =>
      obtain ⟨k, hk, rfl, h0, hb⟩ := hrel
      by_cases hlt : k < a.length
      · have hlt2 : k < b.length := by omega
        obtain ⟨ad, A3, c3, A6, c6, rfl, E0, E1, E2, E3, E4, E5, E6, hL, _⟩ := at_Lit (Kd.F_below HA.out hb.out) k hlt
        obtain ⟨bd, B3, d3, B6, d6, rfl, G0, G1, G2, G3, G4, G5, G6, hX, _⟩ := at_Lit (Kd.F_below HB.out hb.out) k hlt2
        have HL := Aside0.mk hL
        have HX := Aside0.mk hX
        have HE := Aside0.mk (eqF_drop (p := samLi) hlt hlt2)
        rw [← rdLi_get a k hlt, ← rdLi_get b k hlt2] at HE
        have hki : (k : Int) < a.length := by omega
        have hki2 : (k : Int) < b.length := by omega
        clear hL hX
        generalize rd_Li a k = x at *
        generalize rd_Li b k = y at *
        have r0 := fun d os => cell_regrown E0 d os
        have r1 := fun d os => cell_regrown E1 d os
        have r2 := fun d os => cell_regrown E2 d os
        have r3 := fun d os => cell_regrown E3 d os
        have r4 := fun d os => cell_regrown E4 d os
        have r5 := fun d os => cell_regrown E5 d os
        have r6 := fun d os => cell_regrown E6 d os
        have q0 := fun d os => cell_regrown G0 d os
        have q1 := fun d os => cell_regrown G1 d os
        have q2 := fun d os => cell_regrown G2 d os
        have q3 := fun d os => cell_regrown G3 d os
        have q4 := fun d os => cell_regrown G4 d os
        have q5 := fun d os => cell_regrown G5 d os
        have q6 := fun d os => cell_regrown G6 d os
        clear E0 E1 E2 E3 E4 E5 E6 G0 G1 G2 G3 G4 G5 G6
        have SS : Aside0 (∀ W', Below wr.heap.size wr W' → Calls Try.prog 33 #[.agg #[.int .i64 x.f1.f0, .int .i64 x.f1.f1, .slice A3 x.f1.f2.length c3], .agg #[.int .i64 y.f1.f0, .int .i64 y.f1.f1, .slice B3 y.f1.f2.length d3]] W' fun e w' => e = .returned (.bool (eqT x.f1 y.f1)) ∧ Below W'.heap.size W' w') := ⟨fun W' hb => sameTerm_any (szT x.f1) x.f1 y.f1 A3 B3 c3 d3 _ _ W' (Nat.le_refl _) (Kd.F_below HL.out.F3 hb) HL.out.l3 (Kd.F_below HX.out.F3 hb) HX.out.l3⟩
        have S2 : Aside0 (∀ W', Below wr.heap.size wr W' → Calls Try.prog 33 #[.agg #[.int .i64 x.f2.f0, .int .i64 x.f2.f1, .slice A6 x.f2.f2.length c6], .agg #[.int .i64 y.f2.f0, .int .i64 y.f2.f1, .slice B6 y.f2.f2.length d6]] W' fun e w' => e = .returned (.bool (eqT x.f2 y.f2)) ∧ Below W'.heap.size W' w') := ⟨fun W' hb => sameTerm_any (szT x.f2) x.f2 y.f2 A6 B6 c6 d6 _ _ W' (Nat.le_refl _) (Kd.F_below HL.out.F6 hb) HL.out.l6 (Kd.F_below HX.out.F6 hb) HX.out.l6⟩
        cases hx : x.f0 == y.f0 with
        | false =>
          have HR : Aside0 (samC a b = false) := ⟨by rw [h0.out, HE.out, samLi_0 hx]; rfl⟩
          clear HE SS S2
          go_upto_region 6 with (fail)
          (refine wq_draws (by kernel_rfl) (by kernel_rfl) ?_; (repeat (refine wq_step (fun K hK => ?_); go_simp; first | (refine hK _ ?_; clear hK K) | (apply Exists.intro; refine ⟨fun _ => ?_, hK _ ?_⟩; ((fail)); clear hK K))); refine wq_nil ?_; intro W2 hbW2)
          have HBW := Aside0.mk (hbT hb.out hbW2)
          clear hbW2 r0 r1 r2 r3 r4 r5 r6 q0 q1 q2 q3 q4 q5 q6
          go_wp2
          go_ret
          exact ⟨ret_bool HR.out.symm, HBW.out⟩
        | true =>
          cases he : eqT x.f1 y.f1 with
          | false =>
            have HR : Aside0 (samC a b = false) := ⟨by rw [h0.out, HE.out, samLi_1 he]; rfl⟩
            rw [he] at SS
            clear HE S2 he
            go_upto_region 6 with (fail)
            (refine wq_draws (by kernel_rfl) (by kernel_rfl) ?_; (repeat (refine wq_step (fun K hK => ?_); go_simp; first | (refine hK _ ?_; clear hK K) | (apply Exists.intro; refine ⟨fun _ => ?_, hK _ ?_⟩; (((with_reducible refine Calls.regrown_of (SS.out _ (below_regrown _ _ _))))); clear hK K))); refine wq_nil ?_; intro W2 hbW2)
            have HBW := Aside0.mk (hbT hb.out hbW2)
            clear hbW2 r0 r1 r2 r3 r4 r5 r6 q0 q1 q2 q3 q4 q5 q6 SS
            go_wp2
            go_ret
            exact ⟨ret_bool HR.out.symm, HBW.out⟩
          | true =>
            have HY := Aside0.mk (samLi_2 hx he)
            rw [he] at SS
            clear he
            go_upto_region 6 with (fail)
            (refine wq_draws (by kernel_rfl) (by kernel_rfl) ?_; (repeat (refine wq_step (fun K hK => ?_); go_simp; first | (refine hK _ ?_; clear hK K) | (apply Exists.intro; refine ⟨fun _ => ?_, hK _ ?_⟩; ((first | (with_reducible refine Calls.regrown_of (SS.out _ (below_regrown _ _ _))) | (with_reducible refine Calls.regrown_of (S2.out _ (below_regrown _ _ _))))); clear hK K))); refine wq_nil ?_; intro W2 hbW2)
            have HBW := Aside0.mk (hbT hb.out hbW2)
            clear hbW2 r0 r1 r2 r3 r4 r5 r6 q0 q1 q2 q3 q4 q5 q6 SS S2
            cases hs : eqT x.f2 y.f2 with
            | true =>
              have HR : Aside0 (samC a b = eqF samLi (a.drop (k+1)) (b.drop (k+1))) := ⟨by rw [h0.out, HE.out, HY.out, hs]; rfl⟩
              clear hs HE HY
              go_wp2
              go_roundw
              case rel => exact ⟨k + 1, by omega, by go_num, HR, HBW⟩
              case measure => simp [intOf]; omega
            | false =>
              have HR : Aside0 (samC a b = false) := ⟨by rw [h0.out, HE.out, HY.out, hs]; rfl⟩
              clear hs HE HY
              go_wp2
              go_ret
              exact ⟨ret_bool HR.out.symm, HBW.out⟩
      · obtain rfl : k = a.length := by omega
        have HR := Aside0.mk (show samC a b = true by rw [h0.out]; exact eqF_end HN.out)
        clear h0
        go_wp2
        go_ret
        exact ⟨ret_bool HR.out.symm, hb.out⟩
  · have hB := bneT (a := (a.length : Int)) (b := (b.length : Int)) (by omega)
    have hB' : (a.length != b.length) = true := by simp [hn]
    have HR := Aside0.mk (samC_len hn)
    clear hn
    go_enter Try.func21, Try.ntmps21
    go_wp2
    go_ret
    exact ⟨ret_bool HR.out.symm, Below.refl _ _⟩

/-- What clauseIs answers. -/
def clIs (c : List Li) (e v : Int) (want : List Li) : Bool := e == v && samC c (if v = 0 then want else [])
set_option maxHeartbeats 4000000 in
set_option maxRecDepth 100000 in
theorem clauseIs_any (c : List Li) (e0 v : Int) (want : List Li) (Ac Aw : Option Addr) (cc cw : Nat) (okc okw : Nat → Prop) (w : World) (hC : Kd.F kLi w okc Ac c.length c) (hW : Kd.F kLi w okw Aw want.length want) :
    Calls Try.prog 20 #[.slice Ac c.length cc, .int .i64 e0, .int .i64 v, .slice Aw want.length cw] w fun e w' => e = .returned (.bool (clIs c e0 v want)) ∧ Below w.heap.size w w' := by
  have HC := Aside0.mk hC
  have HW := Aside0.mk hW
  clear hC hW
  by_cases h0 : v = 0
  · have h0b := bneF h0
    cases he : e0 == v with
    | false =>
      have HR : Aside0 (clIs c e0 v want = false) := ⟨by unfold clIs; rw [he]; rfl⟩
      clear h0
      go_enter Try.func20, Try.ntmps20
      go_wp2
      go_ret
      exact ⟨ret_bool HR.out.symm, Below.refl _ _⟩
    | true =>
      have HR : Aside0 (clIs c e0 v want = samC c want) := ⟨by unfold clIs; rw [he, if_pos h0]; rfl⟩
      have HS := Aside0.mk (sameClause_any c want Ac Aw cc cw okc okw w HC.out HW.out)
      clear h0
      go_enter Try.func20, Try.ntmps20
      go_wp2_with (fail)
      refine HS.out.mono ?_
      rintro e w2 ⟨rfl, hb2⟩
      go_wp2
      go_ret
      exact ⟨ret_bool HR.out.symm, hb2⟩
  · have h0b := bneT h0
    cases he : e0 == v with
    | false =>
      have HR : Aside0 (clIs c e0 v want = false) := ⟨by unfold clIs; rw [he]; rfl⟩
      clear h0
      go_enter Try.func20, Try.ntmps20
      go_wp2
      go_ret
      exact ⟨ret_bool HR.out.symm, Below.refl _ _⟩
    | true =>
      have HR : Aside0 (clIs c e0 v want = samC c []) := ⟨by unfold clIs; rw [he, if_neg h0]; rfl⟩
      have HS := Aside0.mk (sameClause_any c [] Ac none cc 0 okc (fun _ => False) w HC.out (fun W' _ => Kd.C_nil _ _))
      clear h0
      go_enter Try.func20, Try.ntmps20
      go_wp2_with (fail)
      refine HS.out.mono ?_
      rintro e w2 ⟨rfl, hb2⟩
      go_wp2
      go_ret
      exact ⟨ret_bool HR.out.symm, hb2⟩
end Go.Proofs.Ytcgnpmjkeifokaa
-- K47
/- superposeref.TermsOf, clause.Terms. -/
namespace Go.Proofs.Ytcgnpmjkeifokaa
open Go.RowKit Go.Proofs.YtcgnpmjkeifokaaW.PrintWords
set_option linter.unusedVariables false
set_option linter.unusedSimpArgs false

def tmsL : List Li → List Tm
  | [] => []
  | l :: c => l.f1 :: l.f2 :: tmsL c
theorem tmsL_append (a b : List Li) : tmsL (a ++ b) = tmsL a ++ tmsL b := by
  induction a with
  | nil => rfl
  | cons x xs ih => simp only [List.cons_append, tmsL, ih]
theorem tmsL_take (c : List Li) (k : Nat) (hk : k < c.length) : tmsL (c.take (k+1)) = tmsL (c.take k) ++ [(rd_Li c k).f1, (rd_Li c k).f2] := by
  rw [List.take_succ_eq_append_getElem hk, tmsL_append, rdLi_get c k hk]; rfl
theorem tmsL_len (c : List Li) : (tmsL c).length = 2 * c.length := by
  induction c with
  | nil => rfl
  | cons x xs ih => simp only [tmsL, List.length_cons, ih]; omega
theorem tmsL_mem {c : List Li} {t : Tm} (h : t ∈ tmsL c) : ∃ l ∈ c, t = l.f1 ∨ t = l.f2 := by
  induction c with
  | nil => cases h
  | cons x xs ih =>
    simp only [tmsL, List.mem_cons] at h
    rcases h with rfl | rfl | h
    · exact ⟨x, by simp, .inl rfl⟩
    · exact ⟨x, by simp, .inr rfl⟩
    · obtain ⟨l, hl, h2⟩ := ih h; exact ⟨l, by simp [hl], h2⟩

set_option maxHeartbeats 4000000 in
set_option maxRecDepth 100000 in
theorem termsOf_any (c : List Li) (Ac : Option Addr) (cc : Nat) (okc : Nat → Prop) (w : World) (hbd : c.length ≤ 1000000) (hC : Kd.F kLi w okc Ac c.length c) :
    Calls Try.prog 57 #[.slice Ac c.length cc] w fun e w' => ∃ A' c', e = .returned (.slice A' (tmsL c).length c') ∧ (tmsL c).length ≤ c' ∧ Kd.F kTm w' (fun _ => True) A' (tmsL c).length (tmsL c) ∧ Below w.heap.size w w' := by
  have hlen := Kd.F_max hC
  have HC := Aside0.mk (Kd.F_bound hC)
  have HBD := Aside0.mk hbd
  clear hC hbd
  go_enter Try.func57, Try.ntmps57
  go_wp2
  go_loopw [3, 4] (fun v0 i wr => ∃ (k : Nat) (vk : Value), k ≤ c.length ∧ i = .int .i64 k ∧ vk = v0 ∧ Aside0 (Kd.N kTm 46 wr w.heap.size (fun _ => True) vk (tmsL (c.take k))) ∧ Aside0 (Below w.heap.size w wr)) (fun _ i _ => c.length - (intOf i).toNat)
  case atStart => exact ⟨0, _, by omega, rfl, rfl, ⟨Kd.N_nil _ _ _ _ _⟩, ⟨Below.refl _ _⟩⟩
  case round =>
    rename World => wo
    obtain ⟨k, vk, hk, rfl, rfl, HN, HB⟩ := hrel
    have hzr := HB.out.size
    by_cases hlt : k < c.length
    · obtain ⟨ad, A3, c3, A6, c6, rfl, E0, E1, E2, E3, E4, E5, E6, hL, hok0⟩ := at_Lit (Kd.F_below HC.out HB.out) k hlt
      have HL := Aside0.mk hL
      have HTK := Aside0.mk (tmsL_take c k hlt)
      have HTL := Aside0.mk (tmsL_len (c.take k))
      have HTE := Aside0.mk (List.length_take_le k c)
      have HNL := Aside0.mk (Kd.N_lt HN.out)
      have HNB := Aside0.mk (Kd.N_base HN.out)
      have hki : (k : Int) < c.length := by omega
      have HZR := Aside0.mk hzr
      clear hL hzr
      generalize rd_Li c k = l at *
      generalize hs : tmsL (c.take k) = s at *
      obtain ⟨Av, cv, rfl⟩ := Kd.N_slice HN.out
      have HNE : ∀ j, j < w.heap.size → some j ≠ (Value.slice Av s.length cv).ownBlock := fun j hj e => by have := HNB.out j e.symm; omega
      have hok : (ad.add (k * 7)).block < w.heap.size := by rw [addB]; exact hok0.2
      have k1 := fun (w' : World) (h : wo.grownBy w' (Value.slice Av s.length cv).ownBlock) => oldg h E1 (HNE _ hok)
      have k2 := fun (w' : World) (h : wo.grownBy w' (Value.slice Av s.length cv).ownBlock) => oldg h E2 (HNE _ hok)
      have k3 := fun (w' : World) (h : wo.grownBy w' (Value.slice Av s.length cv).ownBlock) => oldg h E3 (HNE _ hok)
      have k4 := fun (w' : World) (h : wo.grownBy w' (Value.slice Av s.length cv).ownBlock) => oldg h E4 (HNE _ hok)
      have k5 := fun (w' : World) (h : wo.grownBy w' (Value.slice Av s.length cv).ownBlock) => oldg h E5 (HNE _ hok)
      have k6 := fun (w' : World) (h : wo.grownBy w' (Value.slice Av s.length cv).ownBlock) => oldg h E6 (HNE _ hok)
      clear E0 E1 E2 E3 E4 E5 E6 hok
      go_upto_region 5 with (fail)
      refine hd_region 13 1 (fun w' => wo.grownBy w' (Value.slice Av s.length cv).ownBlock) (by kernel_rfl) rfl ?_ (fun _ h => grown_of_below h _)
      intro W3 hb3 hz3 hHeld
      clear hz3
      have HB3 := Aside0.mk hb3
      clear hb3
      (refine hd_take (i := 0) (oi := ?oi1) (v := ?v1) ?hi1 (by kernel_rfl) (by kernel_rfl) (by kernel_rfl) (by kernel_rfl) (by decide) ?hq1 ?hw1 ?hy1 hHeld ?hr1; (case hi1 => (simp only [List.getElem?_toArray, List.getElem?_cons_succ, List.getElem?_cons_zero]; rfl)); (case hw1 => rfl); (case hy1 => (intro w hSw; go_simp; try with_reducible rfl)); (case hq1 => exact fun _ _ _ h => h); simp only [Act.put, List.setIfInBounds_toArray, List.set_cons_zero, List.set_cons_succ])
      (refine hd_take (i := 1) (oi := ?oi3) (v := ?v3) ?hi3 (by kernel_rfl) (by kernel_rfl) (by kernel_rfl) (by kernel_rfl) (by decide) ?hq3 ?hw3 ?hy3 hHeld ?hr3; (case hi3 => (simp only [List.getElem?_toArray, List.getElem?_cons_succ, List.getElem?_cons_zero]; rfl)); (case hw3 => rfl); (case hy3 => (intro w hSw; go_simp; try with_reducible rfl)); (case hq3 => exact fun _ _ _ h => h); simp only [Act.put, List.setIfInBounds_toArray, List.set_cons_zero, List.set_cons_succ])
      (refine hd_take (i := 2) (oi := ?oi5) (v := ?v5) ?hi5 (by kernel_rfl) (by kernel_rfl) (by kernel_rfl) (by kernel_rfl) (by decide) ?hq5 ?hw5 ?hy5 hHeld ?hr5; (case hi5 => (simp only [List.getElem?_toArray, List.getElem?_cons_succ, List.getElem?_cons_zero]; rfl)); (case hw5 => rfl); (case hy5 => (intro w hSw; go_simp; try with_reducible rfl)); (case hq5 => exact fun _ _ _ h => h); simp only [Act.put, List.setIfInBounds_toArray, List.set_cons_zero, List.set_cons_succ])
      (refine hd_take (i := 3) (oi := ?oi7) (v := ?v7) ?hi7 (by kernel_rfl) (by kernel_rfl) (by kernel_rfl) (by kernel_rfl) (by decide) ?hq7 ?hw7 ?hy7 hHeld ?hr7; (case hi7 => (simp only [List.getElem?_toArray, List.getElem?_cons_succ, List.getElem?_cons_zero]; rfl)); (case hw7 => rfl); (case hy7 => (intro w hSw; go_simp; try with_reducible rfl)); (case hq7 => exact fun _ _ _ h => h); simp only [Act.put, List.setIfInBounds_toArray, List.set_cons_zero, List.set_cons_succ])
      (refine hd_take (i := 4) (oi := ?oi9) (v := ?v9) ?hi9 (by kernel_rfl) (by kernel_rfl) (by kernel_rfl) (by kernel_rfl) (by decide) ?hq9 ?hw9 ?hy9 hHeld ?hr9; (case hi9 => (simp only [List.getElem?_toArray, List.getElem?_cons_succ, List.getElem?_cons_zero]; rfl)); (case hw9 => rfl); (case hy9 => (intro w hSw; go_simp; try with_reducible rfl)); (case hq9 => exact fun _ _ _ h => h); simp only [Act.put, List.setIfInBounds_toArray, List.set_cons_zero, List.set_cons_succ])
      (refine hd_take (i := 5) (oi := ?oi11) (v := ?v11) ?hi11 (by kernel_rfl) (by kernel_rfl) (by kernel_rfl) (by kernel_rfl) (by decide) ?hq11 ?hw11 ?hy11 hHeld ?hr11; (case hi11 => (simp only [List.getElem?_toArray, List.getElem?_cons_succ, List.getElem?_cons_zero]; rfl)); (case hw11 => rfl); (case hy11 => (intro w hSw; go_simp; try with_reducible rfl)); (case hq11 => exact fun _ _ _ h => h); simp only [Act.put, List.setIfInBounds_toArray, List.set_cons_zero, List.set_cons_succ])
      (refine hd_take (i := 6) (oi := ?oi13) (v := ?v13) ?hi13 (by kernel_rfl) (by kernel_rfl) (by kernel_rfl) (by kernel_rfl) (by decide) ?hq13 ?hw13 ?hy13 hHeld ?hr13; (case hi13 => (simp only [List.getElem?_toArray, List.getElem?_cons_succ, List.getElem?_cons_zero]; rfl)); (case hw13 => rfl); (case hy13 => (intro w hSw; go_simp; try with_reducible rfl)); (case hq13 => exact fun _ _ _ h => h); simp only [Act.put, List.setIfInBounds_toArray, List.set_cons_zero, List.set_cons_succ])
      (refine hd_take (i := 7) (oi := ?oi15) (v := ?v15) ?hi15 (by kernel_rfl) (by kernel_rfl) (by kernel_rfl) (by kernel_rfl) (by decide) ?hq15 ?hw15 ?hy15 hHeld ?hr15; (case hi15 => (simp only [List.getElem?_toArray, List.getElem?_cons_succ, List.getElem?_cons_zero]; rfl)); (case hw15 => rfl); (case hy15 => (intro w hSw; go_simp; try with_reducible rfl)); (case hq15 => exact fun _ _ _ h => h); simp only [Act.put, List.setIfInBounds_toArray, List.set_cons_zero, List.set_cons_succ])
      (refine hd_take (i := 8) (oi := ?oi17) (v := ?v17) ?hi17 (by kernel_rfl) (by kernel_rfl) (by kernel_rfl) (by kernel_rfl) (by decide) ?hq17 ?hw17 ?hy17 hHeld ?hr17; (case hi17 => (simp only [List.getElem?_toArray, List.getElem?_cons_succ, List.getElem?_cons_zero]; rfl)); (case hw17 => rfl); (case hy17 => (intro w hSw; go_simp; try with_reducible rfl)); (case hq17 => exact fun _ _ _ h => h); simp only [Act.put, List.setIfInBounds_toArray, List.set_cons_zero, List.set_cons_succ])
      (refine hd_take (i := 9) (oi := ?oi19) (v := ?v19) ?hi19 (by kernel_rfl) (by kernel_rfl) (by kernel_rfl) (by kernel_rfl) (by decide) ?hq19 ?hw19 ?hy19 hHeld ?hr19; (case hi19 => (simp only [List.getElem?_toArray, List.getElem?_cons_succ, List.getElem?_cons_zero]; rfl)); (case hw19 => rfl); (case hy19 => (intro w hSw; go_simp; try with_reducible rfl)); (case hq19 => exact fun _ _ _ h => h); simp only [Act.put, List.setIfInBounds_toArray, List.set_cons_zero, List.set_cons_succ])
      (refine hd_take (i := 10) (oi := ?oi21) (v := ?v21) ?hi21 (by kernel_rfl) (by kernel_rfl) (by kernel_rfl) (by kernel_rfl) (by decide) ?hq21 ?hw21 ?hy21 hHeld ?hr21; (case hi21 => (simp only [List.getElem?_toArray, List.getElem?_cons_succ, List.getElem?_cons_zero]; rfl)); (case hw21 => rfl); (case hy21 => (intro w hSw; go_simp; try with_reducible rfl)); (case hq21 => exact fun _ _ _ h => h); simp only [Act.put, List.setIfInBounds_toArray, List.set_cons_zero, List.set_cons_succ])
      have HL3 := Aside0.mk (HL.out.below HB3.out)
      (refine hd_one (i := 11) (oi := ?oi23) ?hi23 (by kernel_rfl) (by decide) ?hr23; (case hi23 => (simp only [List.getElem?_toArray, List.getElem?_cons_succ, List.getElem?_cons_zero]; rfl)); intro K hK)
      go_simp
      (refine hK.out _ _ ?hS25 (fun hHeld => ?hr25); (case hS25 => exact gbT hHeld (gbOf (below_alloc (Below.refl _ _) _) _) (.inl rfl)); clear hK K; try simp only [Act.put, List.setIfInBounds_toArray, List.set_cons_zero, List.set_cons_succ])
      (refine hd_one (i := 12) (oi := ?oi26) ?hi26 (by kernel_rfl) (by decide) ?hr26; (case hi26 => (simp only [List.getElem?_toArray, List.getElem?_cons_succ, List.getElem?_cons_zero]; rfl)); intro K hK)
      refine Kd.N_append_rows_step kTm (w0 := W3) w.heap.size rfl _ _ 44 46 _ 40 rfl Try.underlying44 infoTm rfl (by decide) (by decide) (.slice Av s.length cv) s [l.f1, l.f2] (some ⟨W3.heap.size, 0, none⟩) 2 2 (fun _ => True) (fun j => (okc j ∧ j < w.heap.size) ∨ j = W3.heap.size) rfl rfl (Kd.N_below (Kd.N_below HN.out HB3.out) (below_alloc (Below.refl _ _) _)) (F_lit2 (heap_alloc_new _ _) (Kd.F_below HL3.out.F3 (below_alloc (Below.refl _ _) _)) HL3.out.l3 (Kd.F_below HL3.out.F6 (below_alloc (Below.refl _ _) _)) HL3.out.l6) (fun j hj => ⟨trivial, fun e => by
        have h1 := HNB.out j e.symm
        have h2 := HNL.out j e.symm
        have h3 := HB3.out.size
        rcases hj with hj | hj
        · omega
        · omega⟩) (fun _ _ => trivial) (hbW (below_alloc (Below.refl _ _) _) (by have := HZR.out; have := HB3.out.size; omega)) (by have := HZR.out; have := HB3.out.size; simp; omega) (by have := HTL.out; have := HTE.out; have := HBD.out; omega) ?_
      intro v1 w6 hN1 hB1 hG1 hI1
      have HN1 := Aside0.mk hN1
      clear hN1 hB1 hI1
      (refine hK.out _ _ ?hS28 (fun hHeld => ?hr28); (case hS28 => exact gbT hHeld hG1 (.inl rfl)); clear hK K; try simp only [Act.put, List.setIfInBounds_toArray, List.set_cons_zero, List.set_cons_succ])
      (refine hd_done (by kernel_rfl) ?_; simp only [List.drop_succ_cons, List.drop_zero])
      have HH6 := Aside0.mk hHeld
      clear hHeld k1 k2 k3 k4 k5 k6
      go_wp2
      go_roundw
      case rel => exact ⟨k + 1, v1, by omega, by go_num, rfl, ⟨by rw [HTK.out]; exact HN1.out⟩, ⟨gbU HB.out HH6.out HNE⟩⟩
      case measure => simp [intOf]; omega
    · obtain rfl : k = c.length := by omega
      have HN2 := HN.out
      rw [List.take_length] at HN2
      obtain ⟨Av, cv, rfl⟩ := Kd.N_slice HN2
      have HN2 := Aside0.mk HN2
      go_wp2
      go_ret
      have h := Kd.N_reads' HN2.out
      first | exact ⟨Av, cv, rfl, h.2.1, Kd.N_F HN2.out, HB.out⟩ | exact ⟨rfl, Av, cv, h.2.1, Kd.N_F HN2.out, HB.out⟩

set_option maxHeartbeats 4000000 in
set_option maxRecDepth 100000 in
theorem terms_any (c : List Li) (Ac : Option Addr) (cc : Nat) (okc : Nat → Prop) (w : World) (hbd : c.length ≤ 1000000) (hC : Kd.F kLi w okc Ac c.length c) :
    Calls Try.prog 81 #[.slice Ac c.length cc] w fun e w' => ∃ A' c', e = .returned (.slice A' (tmsL c).length c') ∧ (tmsL c).length ≤ c' ∧ Kd.F kTm w' (fun _ => True) A' (tmsL c).length (tmsL c) ∧ Below w.heap.size w w' := by
  have hlen := Kd.F_max hC
  have HC := Aside0.mk (Kd.F_bound hC)
  have HBD := Aside0.mk hbd
  clear hC hbd
  go_enter Try.func81, Try.ntmps81
  go_wp2
  go_loopw [3, 8] (fun v0 i wr => ∃ (k : Nat) (vk : Value), k ≤ c.length ∧ i = .int .i64 k ∧ vk = v0 ∧ Aside0 (Kd.N kTm 46 wr w.heap.size (fun _ => True) vk (tmsL (c.take k))) ∧ Aside0 (Below w.heap.size w wr)) (fun _ i _ => c.length - (intOf i).toNat)
  case atStart => exact ⟨0, _, by omega, rfl, rfl, ⟨Kd.N_nil _ _ _ _ _⟩, ⟨Below.refl _ _⟩⟩
  case round =>
    rename World => wo
    obtain ⟨k, vk, hk, rfl, rfl, HN, HB⟩ := hrel
    have hzr := HB.out.size
    by_cases hlt : k < c.length
    · obtain ⟨ad, A3, c3, A6, c6, rfl, E0, E1, E2, E3, E4, E5, E6, hL, hok0⟩ := at_Lit (Kd.F_below HC.out HB.out) k hlt
      have HL := Aside0.mk hL
      have HTK := Aside0.mk (tmsL_take c k hlt)
      have HTL := Aside0.mk (tmsL_len (c.take k))
      have HTE := Aside0.mk (List.length_take_le k c)
      have HNL := Aside0.mk (Kd.N_lt HN.out)
      have HNB := Aside0.mk (Kd.N_base HN.out)
      have hki : (k : Int) < c.length := by omega
      have HZR := Aside0.mk hzr
      clear hL hzr
      generalize rd_Li c k = l at *
      generalize hs : tmsL (c.take k) = s at *
      obtain ⟨Av, cv, rfl⟩ := Kd.N_slice HN.out
      go_wp2_with (first | (((with_reducible refine gate_store (t := 84) (p := 5) rfl ?_); refine st_li 5 rfl rfl rfl rfl rfl (heap_alloc_new _ _) ?_); intro w4 hs4 hG4 hz4; obtain ⟨x0, x1, x2, x3, x4, x5, x6⟩ := li_cells hs4; have HB4 := Aside0.mk (gbS (below_alloc (Below.refl wo.heap.size wo) _) hG4 (Nat.le_refl _)); clear hs4 hG4 hz4 E0 E1 E2 E3 E4 E5 E6) | (at_builtin; refine Kd.N_append_rows kTm (w0 := w4) w.heap.size rfl _ _ 44 46 _ 40 rfl Try.underlying44 infoTm rfl (by decide) (by decide) (.slice Av s.length cv) s [l.f1, l.f2] (some ⟨w4.heap.size, 0, none⟩) 2 2 (fun _ => True) (fun j => (okc j ∧ j < w.heap.size) ∨ j = w4.heap.size) rfl rfl (Kd.N_below (Kd.N_below HN.out HB4.out) (below_alloc (Below.refl _ _) _)) (F_lit2 (heap_alloc_new _ _) (Kd.F_below (HL.out.below HB4.out).F3 (below_alloc (Below.refl _ _) _)) HL.out.l3 (Kd.F_below (HL.out.below HB4.out).F6 (below_alloc (Below.refl _ _) _)) HL.out.l6) (fun j hj => ⟨trivial, fun e => by have h1 := HNB.out j e.symm; have h2 := HNL.out j e.symm; have h3 := HB4.out.size; rcases hj with hj | hj <;> omega⟩) (fun _ _ => trivial) (hbW (below_alloc (Below.refl _ _) _) (by have := HZR.out; have := HB4.out.size; omega)) (by have := HZR.out; have := HB4.out.size; simp; omega) (by have := HTL.out; have := HTE.out; have := HBD.out; omega) ?_; intro v1 w6 hN1 hB1 hG1 hI1; have HN1 := Aside0.mk hN1; have HB1 := Aside0.mk hB1; clear hN1 hG1 hI1 hB1))
      go_roundw
      case rel => exact ⟨k + 1, v1, by omega, by go_num, rfl, ⟨by rw [HTK.out]; exact HN1.out⟩, ⟨(hbT HB.out HB4.out).trans HB1.out⟩⟩
      case measure => simp [intOf]; omega
    · obtain rfl : k = c.length := by omega
      have HN2 := HN.out
      rw [List.take_length] at HN2
      obtain ⟨Av, cv, rfl⟩ := Kd.N_slice HN2
      have HN2 := Aside0.mk HN2
      go_wp2
      go_ret
      have h := Kd.N_reads' HN2.out
      first | exact ⟨Av, cv, rfl, h.2.1, Kd.N_F HN2.out, HB.out⟩ | exact ⟨rfl, Av, cv, h.2.1, Kd.N_F HN2.out, HB.out⟩
end Go.Proofs.Ytcgnpmjkeifokaa
-- K48
/- Bindings in a row, told as entries of a map; superposeref.BoundTo, Turned. -/
namespace Go.Proofs.Ytcgnpmjkeifokaa
open Go.RowKit Go.Proofs.YtcgnpmjkeifokaaW.PrintWords
set_option linter.unusedVariables false
set_option linter.unusedSimpArgs false

theorem at_Bdd {w : World} {ok : Nat → Prop} {A : Option Addr} {n : Nat} {xs : List Bd} (h : Kd.F kBd w ok A n xs) (i : Nat) (h1 : i < n) : ∃ ad A3 c3, A = some ad ∧ w.cell? (ad.add (i * 4)) = some (.int .i64 (rd_Bd xs i).f0) ∧
    w.cell? ⟨(ad.add (i * 4)).block, (ad.add (i * 4)).off + 1, none⟩ = some (.int .i64 (rd_Bd xs i).f1.f0) ∧ w.cell? ⟨(ad.add (i * 4)).block, (ad.add (i * 4)).off + 2, none⟩ = some (.int .i64 (rd_Bd xs i).f1.f1) ∧ w.cell? ⟨(ad.add (i * 4)).block, (ad.add (i * 4)).off + 3, none⟩ = some (.slice A3 (rd_Bd xs i).f1.f2.length c3) ∧
    (rd_Bd xs i).f1.f2.length ≤ c3 ∧ Kd.F kTm w ok A3 (rd_Bd xs i).f1.f2.length (rd_Bd xs i).f1.f2 ∧ ok ad.block := by
  obtain ⟨ad, c, e, _, hK, hc0, hin⟩ := Kd.F_get h zBd (i : Int) (by omega) (by omega)
  have hc : ∀ j u, c[j]? = some u → w.cell? (ad.add (i * 4 + j)) = some u := hc0
  obtain ⟨A3, c3, rfl, l3, g3⟩ := kBd_openF hK
  exact ⟨ad, A3, c3, e, hc 0 _ rfl, by rw [← add_field _ _ 1 (by omega)]; exact hc 1 _ rfl, by rw [← add_field _ _ 2 (by omega)]; exact hc 2 _ rfl, by rw [← add_field _ _ 3 (by omega)]; exact hc 3 _ rfl, l3, g3, hin (by decide)⟩
theorem rdBd_get (l : List Bd) (i : Nat) (h : i < l.length) : rd_Bd l i = l[i] := by unfold rd_Bd; simp [List.getD_eq_getElem?_getD, h]
/-- A row of one binding that was just laid. -/
theorem F_bd1 {W : World} {ok : Nat → Prop} {gb : Nat} {x : Bd} {A3 : Option Addr} {c3 : Nat} (hb : W.heap[gb]? = some (.cells #[.int .i64 x.f0, .int .i64 x.f1.f0, .int .i64 x.f1.f1, .slice A3 x.f1.f2.length c3] 89 (0, 0)))
    (h3 : x.f1.f2.length ≤ c3) (hF : Kd.F kTm W ok A3 x.f1.f2.length x.f1.f2) : Kd.F kBd W (fun k => ok k ∨ k = gb) (some ⟨gb, 0, none⟩) [x].length [x] :=
  F_lit (d := kBd) [[.int .i64 x.f0, .int .i64 x.f1.f0, .int .i64 x.f1.f1, .slice A3 x.f1.f2.length c3]] hb rfl (by simp) (fun j z c' hz hc' => by
    match j with
    | 0 => simp at hz hc'; subst hz hc'; exact kBd_mkF W ok x h3 hF
    | j + 1 => simp at hz)
/-- Bindings as entries. -/
def bds (b : List Bd) : List (Int × Tm) := b.map fun x => (x.f0, x.f1)
theorem bds_append (a b : List Bd) : bds (a ++ b) = bds a ++ bds b := by unfold bds; rw [List.map_append]
theorem bds_one (x : Bd) : bds [x] = [(x.f0, x.f1)] := rfl
theorem mget_append {m n : List (Int × Tm)} {v : Int} (h : mget m v = none) : mget (m ++ n) v = mget n v := by
  induction m with
  | nil => rfl
  | cons p m ih =>
    rw [mget] at h
    by_cases hk : p.1 = v
    · rw [if_pos hk] at h; cases h
    · rw [if_neg hk] at h; rw [List.cons_append, mget, if_neg hk, ih h]
theorem bds_step {b : List Bd} {k : Nat} {v : Int} (hk : k < b.length) (h : mget (bds (b.take k)) v = none) : mget (bds (b.take (k+1))) v = if (rd_Bd b k).f0 = v then some (rd_Bd b k).f1 else none := by
  rw [List.take_succ_eq_append_getElem hk, bds_append, mget_append h, bds_one, rdBd_get b k hk]; rfl
theorem mget_prefix {m n : List (Int × Tm)} {v : Int} {t : Tm} (h : mget m v = some t) : mget (m ++ n) v = some t := by
  induction m with
  | nil => cases h
  | cons p m ih =>
    rw [mget] at h
    rw [List.cons_append, mget]
    by_cases hk : p.1 = v
    · rw [if_pos hk] at h ⊢; exact h
    · rw [if_neg hk] at h ⊢; exact ih h
theorem bds_at {b : List Bd} {k : Nat} {v : Int} (hk : k < b.length) (h : mget (bds (b.take k)) v = none) (hv : (rd_Bd b k).f0 = v) : mget (bds b) v = some (rd_Bd b k).f1 := by
  have h1 := bds_step hk h
  rw [if_pos hv] at h1
  have h2 := mget_prefix (n := bds (b.drop (k+1))) h1
  rwa [← bds_append, List.take_append_drop] at h2

set_option maxHeartbeats 4000000 in
set_option maxRecDepth 100000 in
theorem boundTo_any (b : List Bd) (v : Int) (Ab : Option Addr) (cb : Nat) (okb : Nat → Prop) (w : World) (hF : Kd.F kBd w okb Ab b.length b) :
    Calls Try.prog 103 #[.slice Ab b.length cb, .int .i64 v] w fun e w' => ∃ r : Int, e = .returned (.int .i64 r) ∧ ((r = -1 ∧ mget (bds b) v = none) ∨ (∃ k : Nat, r = k ∧ k < b.length ∧ mget (bds b) v = some (rd_Bd b k).f1)) ∧ Below w.heap.size w w' := by
  have hlen := Kd.F_max hF
  have HF := Aside0.mk hF
  clear hF
  go_enter Try.func103, Try.ntmps103
  go_wp2
  go_loopw [5] (fun i wr => ∃ k : Nat, k ≤ b.length ∧ i = .int .i64 k ∧ Aside0 (mget (bds (b.take k)) v = none) ∧ Aside0 (Below w.heap.size w wr)) (fun i _ => b.length - (intOf i).toNat)
  case atStart => exact ⟨0, by omega, rfl, ⟨rfl⟩, ⟨Below.refl _ _⟩⟩
  case round =>
    obtain ⟨k, hk, rfl, h0, hb⟩ := hrel
    by_cases hlt : k < b.length
    · obtain ⟨ad, A3, c3, rfl, E0, E1, E2, E3, _, _, _⟩ := at_Bdd (Kd.F_below HF.out hb.out) k hlt
      have H1 := Aside0.mk (bds_step hlt h0.out)
      have H2 := Aside0.mk (bds_at hlt h0.out)
      have hki : (k : Int) < b.length := by omega
      clear E1 E2 E3
      by_cases hv : (rd_Bd b k).f0 = v
      · have hvb := beqT hv
        have HR := Aside0.mk (H2.out hv)
        clear H1 H2 hv
        go_wp2
        go_ret
        first | exact ⟨_, rfl, .inr ⟨k, rfl, hlt, HR.out⟩, hb.out⟩ | exact ⟨rfl, .inr ⟨k, rfl, hlt, HR.out⟩, hb.out⟩
      · have hvb := beqF hv
        have HR := Aside0.mk (H1.out.trans (if_neg hv))
        clear H1 H2 hv
        go_wp2
        go_roundw
        case rel => exact ⟨k + 1, by omega, by go_num, HR, hb⟩
        case measure => simp [intOf]; omega
    · obtain rfl : k = b.length := by omega
      have HR := h0.out
      rw [List.take_length] at HR
      have HR := Aside0.mk HR
      go_wp2
      go_ret
      first | exact ⟨_, rfl, .inl ⟨rfl, HR.out⟩, hb.out⟩ | exact ⟨rfl, .inl ⟨rfl, HR.out⟩, hb.out⟩

set_option maxHeartbeats 4000000 in
set_option maxRecDepth 100000 in
theorem turned_any (x : Li) (A3 A6 : Option Addr) (c3 c6 : Nat) (w : World) :
    Calls Try.prog 59 #[.agg #[.bool x.f0, .int .i64 x.f1.f0, .int .i64 x.f1.f1, .slice A3 x.f1.f2.length c3, .int .i64 x.f2.f0, .int .i64 x.f2.f1, .slice A6 x.f2.f2.length c6]] w fun e w' => e = .returned (.agg #[.bool (turnL x).f0, .int .i64 (turnL x).f1.f0, .int .i64 (turnL x).f1.f1, .slice A6 (turnL x).f1.f2.length c6, .int .i64 (turnL x).f2.f0, .int .i64 (turnL x).f2.f1, .slice A3 (turnL x).f2.f2.length c3]) ∧ Below w.heap.size w w' := by
  have HB := Aside0.mk (below_alloc (Below.refl w.heap.size w) (.cells #[.bool x.f0, .int .i64 x.f1.f0, .int .i64 x.f1.f1, .slice A3 x.f1.f2.length c3, .int .i64 x.f2.f0, .int .i64 x.f2.f1, .slice A6 x.f2.f2.length c6] 84))
  have g0 := newAt (w := w) (o := .cells #[.bool x.f0, .int .i64 x.f1.f0, .int .i64 x.f1.f1, .slice A3 x.f1.f2.length c3, .int .i64 x.f2.f0, .int .i64 x.f2.f1, .slice A6 x.f2.f2.length c6] 84) rfl
  go_enter Try.func59, Try.ntmps59
  have g1 := blk_alloc g0 (.cells #[.bool false, .int .i64 0, .int .i64 0, .slice none 0 0, .int .i64 0, .int .i64 0, .slice none 0 0] 84)
  have g2 := newAt (w := w.alloc (.cells #[.bool x.f0, .int .i64 x.f1.f0, .int .i64 x.f1.f1, .slice A3 x.f1.f2.length c3, .int .i64 x.f2.f0, .int .i64 x.f2.f1, .slice A6 x.f2.f2.length c6] 84)) (o := .cells #[.bool false, .int .i64 0, .int .i64 0, .slice none 0 0, .int .i64 0, .int .i64 0, .slice none 0 0] 84) (k := w.heap.size + 1) (by simp)
  have HB2 := Aside0.mk (hbT HB.out (below_alloc (Below.refl _ _) (.cells #[.bool false, .int .i64 0, .int .i64 0, .slice none 0 0, .int .i64 0, .int .i64 0, .slice none 0 0] 84)))
  clear g0 HB
  go_upto_region 1 with (fail)
  generalize (w.alloc (.cells #[.bool x.f0, .int .i64 x.f1.f0, .int .i64 x.f1.f1, .slice A3 x.f1.f2.length c3, .int .i64 x.f2.f0, .int .i64 x.f2.f1, .slice A6 x.f2.f2.length c6] 84)).alloc (.cells #[.bool false, .int .i64 0, .int .i64 0, .slice none 0 0, .int .i64 0, .int .i64 0, .slice none 0 0] 84) = W at *
  obtain ⟨x0, x1, x2, x3, x4, x5, x6⟩ := li_cells g1
  have G2 := Aside0.mk g2
  clear g1 g2
  go_wp2_with (((with_reducible refine gate_store (t := 84) (p := 2) rfl ?_); refine st_li 2 rfl rfl rfl rfl rfl G2.out ?_); intro w3 hs3 hG3 hz3; have HS3 := Aside0.mk hs3; have HG3 := Aside0.mk hG3; clear hs3 hG3 x0 x1 x2 x3 x4 x5 x6)
  ((try simp only [Exit.inBlock, Exit.then]); refine bodyPost_ret (results_cell_row rfl _ _ _ 84 _ (0, 0) _ rfl HS3.out Try.underlying84 rfl (by kernel_rfl)) rfl ?_)
  exact ⟨rfl, gbS HB2.out HG3.out (by omega)⟩
end Go.Proofs.Ytcgnpmjkeifokaa
-- K49
/- superposeref.Grow. -/
namespace Go.Proofs.Ytcgnpmjkeifokaa
open Go.RowKit Go.Proofs.YtcgnpmjkeifokaaW.PrintWords
set_option linter.unusedVariables false
set_option linter.unusedSimpArgs false

theorem formE_parts {g : List Int} {t : Tm} (h : formE g t = 0) : formEL g t.f2 = 0 ∧ 0 ≤ t.f0 := by
  obtain ⟨v, f, l⟩ := t
  rw [formE] at h
  by_cases hl : formEL g l = 0
  · rw [if_neg (by simpa using hl)] at h
    refine ⟨hl, ?_⟩
    unfold partE at h
    by_cases hv : v = 0
    · show 0 ≤ v; omega
    · rw [if_pos (by exact hv)] at h
      show 0 ≤ v
      by_cases h1 : 1 ≤ v ∧ v ≤ 1000
      · omega
      · rw [if_neg h1] at h; cases h
  · rw [if_pos hl] at h; exact absurd h hl
theorem zip_at {a b : List Tm} {k : Nat} (h1 : k < a.length) (h2 : k < b.length) : (a.zip b)[k]'(by simp; omega) = (rd_Tm a k, rd_Tm b k) := by rw [rd_get a k h1, rd_get b k h2]; simp

/-- What Grow answers. -/
def GrowA (mp : List (Int × Tm)) (p t : Tm) (n : Nat) (e : Ending) (w' : World) : Prop :=
  ∃ (b2 : List Bd) (A' : Option Addr) (c' : Nat), e = .returned (.tuple #[.slice A' b2.length c', .bool (growT mp p t).2]) ∧ ((growT mp p t).2 = true → bds b2 = (growT mp p t).1) ∧ b2.length ≤ c' ∧ b2.length ≤ n ∧ Kd.F kBd w' (fun _ => True) A' b2.length b2

set_option maxHeartbeats 4000000 in
set_option maxRecDepth 100000 in
theorem grow_any (g : List Int) (m : Nat) : ∀ (p t : Tm) (b : List Bd) (A B Ab : Option Addr) (c d cb : Nat) (okp okt okb : Nat → Prop) (w : World), szT p ≤ m → formE g t = 0 → b.length + szT p ≤ 1000000 → Kd.F kBd w okb Ab b.length b → b.length ≤ cb → Kd.F kTm w okp A p.f2.length p.f2 → p.f2.length ≤ c → Kd.F kTm w okt B t.f2.length t.f2 → t.f2.length ≤ d →
    Calls Try.prog 60 #[.slice Ab b.length cb, .agg #[.int .i64 p.f0, .int .i64 p.f1, .slice A p.f2.length c], .agg #[.int .i64 t.f0, .int .i64 t.f1, .slice B t.f2.length d]] w fun e w' => GrowA (bds b) p t (b.length + szT p) e w' ∧ Below w.heap.size w w' := by
  induction m with
  | zero => intro p t b A B Ab c d cb okp okt okb w h; have := szT_pos p; omega
  | succ n ih =>
  intro p t b A B Ab c d cb okp okt okb w hm hg hsz hFb hcb hF hc hF2 hd
  have hlen := Kd.F_max hF
  have hlen2 := Kd.F_max hF2
  have hlenb := Kd.F_max hFb
  obtain ⟨hgl, hg0⟩ := formE_parts hg
  have HF := Aside0.mk (Kd.F_bound hF)
  have HF2 := Aside0.mk (Kd.F_bound hF2)
  have HFB := Aside0.mk (Kd.F_bound hFb)
  have HM := Aside0.mk hm
  have HSZ := Aside0.mk hsz
  have HS := Aside0.mk (szT_eq p)
  have HSP := Aside0.mk (szT_pos p)
  have HGL := Aside0.mk hgl
  have IH := Aside0.mk ih
  have HE := Aside0.mk (growT_eq (bds b) p t)
  clear hF hF2 hFb hm hsz hgl ih hg
  have a0 := blk_alloc (newAt (w := w) (o := .cells #[.int .i64 p.f0, .int .i64 p.f1, .slice A p.f2.length c] 46) rfl) (.cells #[.int .i64 t.f0, .int .i64 t.f1, .slice B t.f2.length d] 46)
  have a1 := newAt (w := w.alloc (.cells #[.int .i64 p.f0, .int .i64 p.f1, .slice A p.f2.length c] 46)) (o := .cells #[.int .i64 t.f0, .int .i64 t.f1, .slice B t.f2.length d] 46) (k := w.heap.size + 1) (by simp)
  have HB := Aside0.mk (below_alloc (below_alloc (Below.refl w.heap.size w) (.cells #[.int .i64 p.f0, .int .i64 p.f1, .slice A p.f2.length c] 46)) (.cells #[.int .i64 t.f0, .int .i64 t.f1, .slice B t.f2.length d] 46))
  go_enter Try.func60, Try.ntmps60
  go_upto_region 1 with (fail)
  generalize (w.alloc (.cells #[.int .i64 p.f0, .int .i64 p.f1, .slice A p.f2.length c] 46)).alloc (.cells #[.int .i64 t.f0, .int .i64 t.f1, .slice B t.f2.length d] 46) = W at *
  have GP := Aside0.mk a0
  have GT := Aside0.mk a1
  clear a0 a1
  obtain ⟨p0, p1, p2⟩ := tm_cells GP.out
  obtain ⟨t0, t1, t2⟩ := tm_cells GT.out
  have HFW := Aside0.mk (Kd.F_below HF.out HB.out)
  have HFW2 := Aside0.mk (Kd.F_below HF2.out HB.out)
  have HFWb := Aside0.mk (Kd.F_below HFB.out HB.out)
  by_cases hv : 0 < p.f0
  · go_upto_region 3 with (go_at_call 103; refine (boundTo_any b p.f0 Ab cb _ W HFWb.out).mono ?_; rintro e w2 ⟨r, rfl, hr, hb2⟩; have HB2 := Aside0.mk hb2; clear hb2)
    have HB02 := Aside0.mk (hbT HB.out HB2.out)
    obtain ⟨q0, q1, q2⟩ := tm_cells ((HB2.out.block _ (blk_lt GP.out)).trans GP.out)
    obtain ⟨s0, s1, s2⟩ := tm_cells ((HB2.out.block _ (blk_lt GT.out)).trans GT.out)
    clear p0 p1 p2 t0 t1 t2
    rcases hr with ⟨rfl, hnone⟩ | ⟨k, rfl, hk, hsome⟩
    · have HR : Aside0 (growT (bds b) p t = (bds (b ++ [⟨p.f0, t⟩]), true)) := ⟨by rw [HE.out, if_pos hv, hnone, bds_append, bds_one]⟩
      clear hnone
      have k0 := fun (w' : World) (h : Below w2.heap.size w2 w') => oldc h q0
      have k3 := fun (w' : World) (h : Below w2.heap.size w2 w') => oldc h s0
      have k4 := fun (w' : World) (h : Below w2.heap.size w2 w') => oldc h s1
      have k5 := fun (w' : World) (h : Below w2.heap.size w2 w') => oldc h s2
      have HF3 := Aside0.mk (Kd.F_below HFWb.out HB2.out)
      have HT3 := Aside0.mk (Kd.F_below HFW2.out HB2.out)
      have HZ2 := Aside0.mk HB02.out.size
      clear q0 q1 q2 s0 s1 s2
      go_upto_region 5 with (fail)
      refine cutT4 (fun (v29 v31 v36 v37 : Value) (w9 : World) => Kd.N kBd 89 w9 w2.heap.size (fun _ => True) v37 ([] ++ b ++ [⟨p.f0, t⟩]) ∧ Below w2.heap.size w2 w9) ?T ?main ?key
      case main =>
        intro key
        refine hd_region 9 2 (fun w' => Below w2.heap.size w2 w') (by kernel_rfl) rfl ?_ (fun _ h => h)
        intro W9 hb9 hz9 hHeld
        clear hb9 hz9
        (refine hd_take (i := 1) (oi := ?oi1) (v := ?v1) ?hi1 (by kernel_rfl) (by kernel_rfl) (by kernel_rfl) (by kernel_rfl) (by decide) ?hq1 ?hw1 ?hy1 hHeld ?hr1; (case hi1 => (simp only [List.getElem?_toArray, List.getElem?_cons_succ, List.getElem?_cons_zero]; rfl)); (case hw1 => rfl); (case hy1 => (intro w hSw; go_simp; try with_reducible rfl)); (case hq1 => exact fun _ _ _ h => h); simp only [Act.put, List.setIfInBounds_toArray, List.set_cons_zero, List.set_cons_succ])
        (refine hd_take (i := 3) (oi := ?oi3) (v := ?v3) ?hi3 (by kernel_rfl) (by kernel_rfl) (by kernel_rfl) (by kernel_rfl) (by decide) ?hq3 ?hw3 ?hy3 hHeld ?hr3; (case hi3 => (simp only [List.getElem?_toArray, List.getElem?_cons_succ, List.getElem?_cons_zero]; rfl)); (case hw3 => rfl); (case hy3 => (intro w hSw; go_simp; try with_reducible rfl)); (case hq3 => exact fun _ _ _ h => h); simp only [Act.put, List.setIfInBounds_toArray, List.set_cons_zero, List.set_cons_succ])
        (refine hd_take (i := 4) (oi := ?oi5) (v := ?v5) ?hi5 (by kernel_rfl) (by kernel_rfl) (by kernel_rfl) (by kernel_rfl) (by decide) ?hq5 ?hw5 ?hy5 hHeld ?hr5; (case hi5 => (simp only [List.getElem?_toArray, List.getElem?_cons_succ, List.getElem?_cons_zero]; rfl)); (case hw5 => rfl); (case hy5 => (intro w hSw; go_simp; try with_reducible rfl)); (case hq5 => exact fun _ _ _ h => h); simp only [Act.put, List.setIfInBounds_toArray, List.set_cons_zero, List.set_cons_succ])
        (refine hd_take (i := 5) (oi := ?oi7) (v := ?v7) ?hi7 (by kernel_rfl) (by kernel_rfl) (by kernel_rfl) (by kernel_rfl) (by decide) ?hq7 ?hw7 ?hy7 hHeld ?hr7; (case hi7 => (simp only [List.getElem?_toArray, List.getElem?_cons_succ, List.getElem?_cons_zero]; rfl)); (case hw7 => rfl); (case hy7 => (intro w hSw; go_simp; try with_reducible rfl)); (case hq7 => exact fun _ _ _ h => h); simp only [Act.put, List.setIfInBounds_toArray, List.set_cons_zero, List.set_cons_succ])
        (refine hd_take (i := 6) (oi := ?oi9) (v := ?v9) ?hi9 (by kernel_rfl) (by kernel_rfl) (by kernel_rfl) (by kernel_rfl) (by decide) ?hq9 ?hw9 ?hy9 hHeld ?hr9; (case hi9 => (simp only [List.getElem?_toArray, List.getElem?_cons_succ, List.getElem?_cons_zero]; rfl)); (case hw9 => rfl); (case hy9 => (intro w hSw; go_simp; try with_reducible rfl)); (case hq9 => exact fun _ _ _ h => h); simp only [Act.put, List.setIfInBounds_toArray, List.set_cons_zero, List.set_cons_succ])
        refine hd_two (i := 0) (j := 7) (oi := ?oiP) (oj := ?ojP) ?hiP ?hjP (by kernel_rfl) (by decide) (by decide) ?haP ?hbP
        case hiP => (simp only [List.getElem?_toArray, List.getElem?_cons_succ, List.getElem?_cons_zero]; rfl)
        case hjP => (simp only [List.getElem?_toArray, List.getElem?_cons_succ, List.getElem?_cons_zero]; rfl)
        case haP =>
          intro K hK
          refine Kd.N_lit_step kBd (w0 := w2) w2.heap.size 89 rfl rfl (xs := []) (inner := []) (ok := fun _ => True) (okp := fun _ => False) ?hra ⟨rfl, fun j y hy => by simp at hy⟩ (fun _ h => h.elim) trivial hHeld hHeld.size (by decide) ?_
          case hra => first | (go_simp; done) | (go_simp; rfl)
          intro v36 w36 hN36 hB36 hG36 hI36
          have HN36 := Aside0.mk hN36
          clear hN36 hG36 hI36
          (refine hK.out _ _ ?hS13 (fun hHeld => ?hr13); (case hS13 => exact hB36); clear hK K; try simp only [Act.put, List.setIfInBounds_toArray, List.set_cons_zero, List.set_cons_succ])
          clear hB36
          refine hd_two (i := 2) (j := 7) (oi := ?oiQ) (oj := ?ojQ) ?hiQ ?hjQ (by kernel_rfl) (by decide) (by decide) ?haQ ?hbQ
          case hiQ => (simp only [List.getElem?_toArray, List.getElem?_cons_succ, List.getElem?_cons_zero]; rfl)
          case hjQ => (simp only [List.getElem?_toArray, List.getElem?_cons_succ, List.getElem?_cons_zero]; rfl)
          case haQ =>
            intro K hK
            refine Kd.N_append_rows_step kBd (w0 := w2) w2.heap.size rfl _ _ 87 89 _ 48 rfl Try.underlying87 infoBd rfl (by decide) (by decide) v36 [] b Ab b.length cb (fun _ => True) (fun j => okb j ∧ j < w.heap.size) rfl rfl HN36.out (Kd.F_below HF3.out hHeld) (fun q hq => ⟨trivial, fun e => by have := Kd.N_base HN36.out q e.symm; have := HZ2.out; omega⟩) (fun _ _ => trivial) hHeld hHeld.size (by have := HSZ.out; simp <;> omega) ?_
            intro v40 w40 hNv40 hBv40 hGv40 hIv40
            have HNv40 := Aside0.mk hNv40
            clear hNv40 hGv40 hIv40
            (refine hK.out _ _ ?hS16 (fun hHeld => ?hr16); (case hS16 => exact hBv40); clear hK K; try simp only [Act.put, List.setIfInBounds_toArray, List.set_cons_zero, List.set_cons_succ])
            clear hBv40
            (refine hd_one (i := 7) (oi := ?oi17) ?hi17 (by kernel_rfl) (by decide) ?hr17; (case hi17 => (simp only [List.getElem?_toArray, List.getElem?_cons_succ, List.getElem?_cons_zero]; rfl)); intro K hK)
            go_simp
            (refine hK.out _ _ ?hS19 (fun hHeld => ?hr19); (case hS19 => exact below_alloc hHeld _); clear hK K; try simp only [Act.put, List.setIfInBounds_toArray, List.set_cons_zero, List.set_cons_succ])
            have HX45 := Aside0.mk (heap_alloc_new w40 (.cells #[.int .i64 p.f0, .int .i64 t.f0, .int .i64 t.f1, .slice B t.f2.length d] 89))
            (refine hd_one (i := 8) (oi := ?oi20) ?hi20 (by kernel_rfl) (by decide) ?hr20; (case hi20 => (simp only [List.getElem?_toArray, List.getElem?_cons_succ, List.getElem?_cons_zero]; rfl)); intro K hK)
            refine Kd.N_append_rows_step kBd (w0 := w2) w2.heap.size rfl _ _ 87 89 _ 48 rfl Try.underlying87 infoBd rfl (by decide) (by decide) v40 ([] ++ b) [⟨p.f0, t⟩] (some ⟨w40.heap.size, 0, none⟩) 1 1 (fun _ => True) (fun j => (okt j ∧ j < w.heap.size) ∨ j = w40.heap.size) rfl rfl (Kd.N_below HNv40.out (below_alloc (Below.refl _ _) _)) (F_bd1 (x := ⟨p.f0, t⟩) HX45.out hd (Kd.F_below HT3.out hHeld)) (fun q hq => ⟨trivial, fun e => by have h1 := Kd.N_lt HNv40.out q e.symm; have h2 := Kd.N_base HNv40.out q e.symm; have := HZ2.out; rcases hq with hq | hq <;> omega⟩) (fun _ _ => trivial) hHeld hHeld.size (by have := HSZ.out; simp <;> omega) ?_
            intro v46 w46 hNv46 hBv46 hGv46 hIv46
            have HNv46 := Aside0.mk hNv46
            clear hNv46 hGv46 hIv46
            (refine hK.out _ _ ?hS22 (fun hHeld => ?hr22); (case hS22 => exact hBv46); clear hK K; try simp only [Act.put, List.setIfInBounds_toArray, List.set_cons_zero, List.set_cons_succ])
            clear hBv46
            (refine hd_done (by kernel_rfl) ?_; simp only [List.drop_succ_cons, List.drop_zero])
            have hEnd := hHeld
            have hNE := HNv46.out
            clear hHeld
            generalize Value.slice (some ⟨w40.heap.size, 0, none⟩) 1 1 = v45
            refine useT (key v36 v40 v45 v46 w46 ⟨hNE, hEnd⟩) ?_
            rfl
          case hbQ =>
            intro K hK
            go_simp
            (refine hK.out _ _ ?hS24 (fun hHeld => ?hr24); (case hS24 => exact below_alloc hHeld _); clear hK K; try simp only [Act.put, List.setIfInBounds_toArray, List.set_cons_zero, List.set_cons_succ])
            have HX45 := Aside0.mk (heap_alloc_new w36 (.cells #[.int .i64 p.f0, .int .i64 t.f0, .int .i64 t.f1, .slice B t.f2.length d] 89))
            (refine hd_one (i := 2) (oi := ?oi25) ?hi25 (by kernel_rfl) (by decide) ?hr25; (case hi25 => (simp only [List.getElem?_toArray, List.getElem?_cons_succ, List.getElem?_cons_zero]; rfl)); intro K hK)
            refine Kd.N_append_rows_step kBd (w0 := w2) w2.heap.size rfl _ _ 87 89 _ 48 rfl Try.underlying87 infoBd rfl (by decide) (by decide) v36 [] b Ab b.length cb (fun _ => True) (fun j => okb j ∧ j < w.heap.size) rfl rfl (Kd.N_below HN36.out (below_alloc (Below.refl _ _) _)) (Kd.F_below HF3.out hHeld) (fun q hq => ⟨trivial, fun e => by have := Kd.N_base HN36.out q e.symm; have := HZ2.out; omega⟩) (fun _ _ => trivial) hHeld hHeld.size (by have := HSZ.out; simp <;> omega) ?_
            intro v40 w40 hNv40 hBv40 hGv40 hIv40
            have HNv40 := Aside0.mk hNv40
            have HGv40 := Aside0.mk hGv40
            have HIv40 := Aside0.mk hIv40
            clear hNv40 hGv40 hIv40
            (refine hK.out _ _ ?hS27 (fun hHeld => ?hr27); (case hS27 => exact hBv40); clear hK K; try simp only [Act.put, List.setIfInBounds_toArray, List.set_cons_zero, List.set_cons_succ])
            clear hBv40
            (refine hd_one (i := 8) (oi := ?oi28) ?hi28 (by kernel_rfl) (by decide) ?hr28; (case hi28 => (simp only [List.getElem?_toArray, List.getElem?_cons_succ, List.getElem?_cons_zero]; rfl)); intro K hK)
            refine Kd.N_append_rows_step kBd (w0 := w2) w2.heap.size rfl _ _ 87 89 _ 48 rfl Try.underlying87 infoBd rfl (by decide) (by decide) v40 ([] ++ b) [⟨p.f0, t⟩] (some ⟨w36.heap.size, 0, none⟩) 1 1 (fun _ => True) (fun j => (okt j ∧ j < w.heap.size) ∨ j = w36.heap.size) rfl rfl HNv40.out (F_bd1 (x := ⟨p.f0, t⟩) ((HGv40.out.block _ (by simp) (fun e => by have := Kd.N_lt HN36.out _ e.symm; omega)).trans HX45.out) hd (Kd.F_below HT3.out hHeld)) (fun q hq => ⟨trivial, fun e => by
                have h2 := Kd.N_base HNv40.out q e.symm
                have := HZ2.out
                rcases hq with hq | hq
                · omega
                · rcases HIv40.out with h | ⟨b, h, hb⟩
                  · rw [h] at e; have := Kd.N_lt HN36.out _ e.symm; omega
                  · rw [h] at e; injection e with e; simp at hb; omega⟩) (fun _ _ => trivial) hHeld hHeld.size (by have := HSZ.out; simp <;> omega) ?_
            intro v46 w46 hNv46 hBv46 hGv46 hIv46
            have HNv46 := Aside0.mk hNv46
            clear hNv46 hGv46 hIv46
            (refine hK.out _ _ ?hS30 (fun hHeld => ?hr30); (case hS30 => exact hBv46); clear hK K; try simp only [Act.put, List.setIfInBounds_toArray, List.set_cons_zero, List.set_cons_succ])
            clear hBv46
            (refine hd_done (by kernel_rfl) ?_; simp only [List.drop_succ_cons, List.drop_zero])
            have hEnd := hHeld
            have hNE := HNv46.out
            clear hHeld
            refine useT (key v36 v40 (Value.slice (some ⟨w36.heap.size, 0, none⟩) 1 1) v46 w46 ⟨hNE, hEnd⟩) ?_
            rfl
        case hbP =>
          intro K hK
          go_simp
          (refine hK.out _ _ ?hS32 (fun hHeld => ?hr32); (case hS32 => exact below_alloc hHeld _); clear hK K; try simp only [Act.put, List.setIfInBounds_toArray, List.set_cons_zero, List.set_cons_succ])
          have HX45 := Aside0.mk (heap_alloc_new W9 (.cells #[.int .i64 p.f0, .int .i64 t.f0, .int .i64 t.f1, .slice B t.f2.length d] 89))
          (refine hd_one (i := 0) (oi := ?oi33) ?hi33 (by kernel_rfl) (by decide) ?hr33; (case hi33 => (simp only [List.getElem?_toArray, List.getElem?_cons_succ, List.getElem?_cons_zero]; rfl)); intro K hK)
          refine Kd.N_lit_step kBd (w0 := w2) w2.heap.size 89 rfl rfl (xs := []) (inner := []) (ok := fun _ => True) (okp := fun _ => False) ?hrb ⟨rfl, fun j y hy => by simp at hy⟩ (fun _ h => h.elim) trivial hHeld hHeld.size (by decide) ?_
          case hrb => first | (go_simp; done) | (go_simp; rfl)
          intro v36 w36 hN36 hB36 hG36 hI36
          have HN36 := Aside0.mk hN36
          have HI36 := Aside0.mk hI36
          have HGx := Aside0.mk hG36
          clear hN36 hG36 hI36
          (refine hK.out _ _ ?hS35 (fun hHeld => ?hr35); (case hS35 => exact hB36); clear hK K; try simp only [Act.put, List.setIfInBounds_toArray, List.set_cons_zero, List.set_cons_succ])
          clear hB36
          (refine hd_one (i := 2) (oi := ?oi36) ?hi36 (by kernel_rfl) (by decide) ?hr36; (case hi36 => (simp only [List.getElem?_toArray, List.getElem?_cons_succ, List.getElem?_cons_zero]; rfl)); intro K hK)
          refine Kd.N_append_rows_step kBd (w0 := w2) w2.heap.size rfl _ _ 87 89 _ 48 rfl Try.underlying87 infoBd rfl (by decide) (by decide) v36 [] b Ab b.length cb (fun _ => True) (fun j => okb j ∧ j < w.heap.size) rfl rfl HN36.out (Kd.F_below HF3.out hHeld) (fun q hq => ⟨trivial, fun e => by have := Kd.N_base HN36.out q e.symm; have := HZ2.out; omega⟩) (fun _ _ => trivial) hHeld hHeld.size (by have := HSZ.out; simp <;> omega) ?_
          intro v40 w40 hNv40 hBv40 hGv40 hIv40
          have HNv40 := Aside0.mk hNv40
          have HGv40 := Aside0.mk hGv40
          have HIv40 := Aside0.mk hIv40
          clear hNv40 hGv40 hIv40
          (refine hK.out _ _ ?hS38 (fun hHeld => ?hr38); (case hS38 => exact hBv40); clear hK K; try simp only [Act.put, List.setIfInBounds_toArray, List.set_cons_zero, List.set_cons_succ])
          clear hBv40
          have HNE36 : Aside0 (∀ q, some q = v36.ownBlock → W9.heap.size < q) := ⟨fun q e => by
            obtain ⟨b, h, hb⟩ := HI36.out
            rw [h] at e; injection e with e; simp at hb; omega⟩
          (refine hd_one (i := 8) (oi := ?oi39) ?hi39 (by kernel_rfl) (by decide) ?hr39; (case hi39 => (simp only [List.getElem?_toArray, List.getElem?_cons_succ, List.getElem?_cons_zero]; rfl)); intro K hK)
          refine Kd.N_append_rows_step kBd (w0 := w2) w2.heap.size rfl _ _ 87 89 _ 48 rfl Try.underlying87 infoBd rfl (by decide) (by decide) v40 ([] ++ b) [⟨p.f0, t⟩] (some ⟨W9.heap.size, 0, none⟩) 1 1 (fun _ => True) (fun j => (okt j ∧ j < w.heap.size) ∨ j = W9.heap.size) rfl rfl HNv40.out (F_bd1 (x := ⟨p.f0, t⟩) ((HGv40.out.block _ (by have := HGx.out.size; simp at this; omega) (fun e => by have := HNE36.out _ e; omega)).trans ((HGx.out.block _ (by simp) (by simp)).trans HX45.out)) hd (Kd.F_below HT3.out hHeld)) (fun q hq => ⟨trivial, fun e => by
              have h2 := Kd.N_base HNv40.out q e.symm
              have := HZ2.out
              rcases hq with hq | hq
              · omega
              · rcases HIv40.out with h | ⟨b, h, hb⟩
                · rw [h] at e; have := HNE36.out _ e; omega
                · rw [h] at e; injection e with e; have := HGx.out.size; simp at this; omega⟩) (fun _ _ => trivial) hHeld hHeld.size (by have := HSZ.out; simp <;> omega) ?_
          intro v46 w46 hNv46 hBv46 hGv46 hIv46
          have HNv46 := Aside0.mk hNv46
          clear hNv46 hGv46 hIv46
          (refine hK.out _ _ ?hS41 (fun hHeld => ?hr41); (case hS41 => exact hBv46); clear hK K; try simp only [Act.put, List.setIfInBounds_toArray, List.set_cons_zero, List.set_cons_succ])
          clear hBv46
          (refine hd_done (by kernel_rfl) ?_; simp only [List.drop_succ_cons, List.drop_zero])
          have hEnd := hHeld
          have hNE := HNv46.out
          clear hHeld
          refine useT (key v36 v40 (Value.slice (some ⟨W9.heap.size, 0, none⟩) 1 1) v46 w46 ⟨hNE, hEnd⟩) ?_
          rfl
      case key =>
        rintro v29 v31 v36 v37 w9 ⟨hN, hB9⟩
        have HN := Aside0.mk hN
        have HB9 := Aside0.mk hB9
        obtain ⟨A9, c9, rfl⟩ := Kd.N_slice hN
        clear hN hB9 k0 k3 k4 k5
        simp only [List.nil_append] at HN ⊢
        go_wp2
        go_ret2
        exact ⟨⟨b ++ [⟨p.f0, t⟩], A9, c9, by rw [HR.out]; rfl, fun _ => by rw [HR.out], (Kd.N_reads' HN.out).2.1, by have := HSP.out; simp; omega, Kd.N_F HN.out⟩, hbT HB02.out HB9.out⟩
    · have HR : Aside0 (growT (bds b) p t = (bds b, eqT (rd_Bd b k).f1 t)) := ⟨by rw [HE.out, if_pos hv, hsome]⟩
      clear hsome
      obtain ⟨ad, A3, c3, rfl, E0, E1, E2, E3, h3, hF3, _⟩ := at_Bdd (Kd.F_below HFWb.out HB2.out) k hk
      have HF3 := Aside0.mk hF3
      clear hF3
      generalize rd_Bd b k = u at *
      have r1 := fun d os => cell_regrown E1 d os
      have r2 := fun d os => cell_regrown E2 d os
      have r3 := fun d os => cell_regrown E3 d os
      have q4 := fun d os => cell_regrown s0 d os
      have q5 := fun d os => cell_regrown s1 d os
      have q6 := fun d os => cell_regrown s2 d os
      have SS : Aside0 (∀ W', Below w2.heap.size w2 W' → Calls Try.prog 33 #[.agg #[.int .i64 u.f1.f0, .int .i64 u.f1.f1, .slice A3 u.f1.f2.length c3], .agg #[.int .i64 t.f0, .int .i64 t.f1, .slice B t.f2.length d]] W' fun e w' => e = .returned (.bool (eqT u.f1 t)) ∧ Below W'.heap.size W' w') := ⟨fun W' hb => sameTerm_any (szT u.f1) u.f1 t A3 B c3 d _ _ W' (Nat.le_refl _) (Kd.F_below HF3.out hb) h3 (Kd.F_below HFW2.out (hbT HB2.out hb)) hd⟩
      clear E0 E1 E2 E3 q0 q1 q2 s0 s1 s2
      have hki : (k : Int) < b.length := by omega
      have hk0 : (0 : Int) ≤ k := by omega
      go_upto_region 4 with (fail)
      (refine wq_draws (by kernel_rfl) (by kernel_rfl) ?_; (repeat (refine wq_step (fun K hK => ?_); go_simp; first | (refine hK _ ?_; clear hK K) | (apply Exists.intro; refine ⟨fun _ => ?_, hK _ ?_⟩; (((with_reducible refine Calls.regrown_of (SS.out _ (below_regrown _ _ _))))); clear hK K))); refine wq_nil ?_; intro W2 hbW2)
      have HBW := Aside0.mk hbW2
      clear hbW2 r1 r2 r3 q4 q5 q6 SS
      go_wp2
      go_ret2
      exact ⟨⟨b, some ad, cb, by rw [HR.out]; rfl, fun _ => by rw [HR.out], hcb, by omega, Kd.F_mono (Kd.F_below HFWb.out (hbT HB2.out HBW.out)) (fun _ _ => trivial)⟩, hbT HB02.out HBW.out⟩
  · have HE2 : Aside0 (growT (bds b) p t = if t.f0 = 0 ∧ p.f1 = t.f1 ∧ p.f2.length = t.f2.length then growL (bds b) p.f2 t.f2 else (bds b, false)) := ⟨by rw [HE.out, if_neg hv]⟩
    have HFB1 := Aside0.mk (Kd.F_mono HFWb.out (ok' := fun _ => True) (fun _ _ => trivial))
    by_cases h1 : t.f0 = 0
    · have h1b : ¬ (0 < t.f0) := by omega
      by_cases h2 : p.f1 = t.f1
      · have h2b := bneF h2
        by_cases h3 : p.f2.length = t.f2.length
        · have h3b := bneF (a := (p.f2.length : Int)) (b := (t.f2.length : Int)) (by omega)
          have h3c : (p.f2.length != t.f2.length) = false := by simp [h3]
          have HR : Aside0 (growT (bds b) p t = goS growT (bds b) (p.f2.zip t.f2)) := ⟨by rw [HE2.out, if_pos ⟨h1, h2, h3⟩, growL_go _ _ _ h3]⟩
          have HZL : Aside0 ((p.f2.zip t.f2).length = p.f2.length) := ⟨by simp; omega⟩
          have hle : p.f2.length ≤ t.f2.length := by omega
          clear h1 h2 h3
          clear HE HE2
          go_wp2
          clear p0 p1 p2 t0 t1 t2
          go_loopw [0, 9] (fun v0 i wr => ∃ (k : Nat) (bk : List Bd) (Ak : Option Addr) (ck : Nat), k ≤ p.f2.length ∧ i = .int .i64 k ∧ v0 = .slice Ak bk.length ck ∧ bk.length ≤ ck ∧ Aside0 (goS growT (bds b) ((p.f2.zip t.f2).take k) = (bds bk, true)) ∧ Aside0 (bk.length ≤ b.length + szL (p.f2.take k)) ∧ Aside0 (Kd.F kBd wr (fun _ => True) Ak bk.length bk) ∧ Aside0 (Below W.heap.size W wr)) (fun _ i _ => p.f2.length - (intOf i).toNat)
          case atStart => exact ⟨0, b, Ab, cb, by omega, rfl, rfl, hcb, ⟨rfl⟩, ⟨by simp [szL]⟩, HFB1, ⟨Below.refl _ _⟩⟩
          case round =>
            obtain ⟨k, bk, Ak, ck, hk, rfl, rfl, hck, HGo, HLn, HFk, HBr⟩ := hrel
            obtain ⟨q0, q1, q2⟩ := tm_cells ((HBr.out.block _ (blk_lt GP.out)).trans GP.out)
            obtain ⟨s0, s1, s2⟩ := tm_cells ((HBr.out.block _ (blk_lt GT.out)).trans GT.out)
            by_cases hlt : k < p.f2.length
            · have hlt2 : k < t.f2.length := by omega
              obtain ⟨ad, A2, c2, rfl, E0, E1, E2, hl2, hG, _⟩ := at_TmF (Kd.F_below HFW.out HBr.out) (k : Int) (by omega) (by omega)
              obtain ⟨bd, B2, d2, rfl, G0, G1, G2, gl2, hG2, _⟩ := at_TmF (Kd.F_below HFW2.out HBr.out) (k : Int) (by omega) (by omega)
              simp only [Int.toNat_natCast] at E0 E1 E2 G0 G1 G2
              have HZK := Aside0.mk (goS_take_succ growT (bds b) (p.f2.zip t.f2) k (by rw [HZL.out]; exact hlt) (bds bk) HGo.out)
              rw [zip_at hlt hlt2] at HZK
              have HST := Aside0.mk (szL_take_succ p.f2 k hlt)
              have HSE := Aside0.mk (szL_take_le p.f2 (k+1))
              have HFy := Aside0.mk (formEL_mem HGL.out _ (rd_mem t.f2 k hlt2))
              have HG := Aside0.mk hG
              have HG2 := Aside0.mk hG2
              have hki : (k : Int) < p.f2.length := by omega
              have hki2 : (k : Int) < t.f2.length := by omega
              clear hG hG2
              generalize rd_Tm p.f2 k = x at *
              generalize rd_Tm t.f2 k = y at *
              have k1 := fun (w' : World) (h : Below wr.heap.size wr w') => oldc h q2
              have k2 := fun (w' : World) (h : Below wr.heap.size wr w') => oldc h s2
              have k3 := fun (w' : World) (h : Below wr.heap.size wr w') => oldc h E0
              have k4 := fun (w' : World) (h : Below wr.heap.size wr w') => oldc h E1
              have k5 := fun (w' : World) (h : Below wr.heap.size wr w') => oldc h E2
              have k6 := fun (w' : World) (h : Below wr.heap.size wr w') => oldc h G0
              have k7 := fun (w' : World) (h : Below wr.heap.size wr w') => oldc h G1
              have k8 := fun (w' : World) (h : Below wr.heap.size wr w') => oldc h G2
              go_upto_region 11 with (fail)
              clear q0 q1 q2 s0 s1 s2 E0 E1 E2 G0 G1 G2
              refine hd_region 17 0 (fun w' => Below wr.heap.size wr w') (by kernel_rfl) rfl ?_ (fun _ h => h)
              intro W4 hb4 hz4 hHeld
              clear hb4 hz4
              (refine hd_take (i := 0) (oi := ?oi44) (v := ?v44) ?hi44 (by kernel_rfl) (by kernel_rfl) (by kernel_rfl) (by kernel_rfl) (by decide) ?hq44 ?hw44 ?hy44 hHeld ?hr44; (case hi44 => (simp only [List.getElem?_toArray, List.getElem?_cons_succ, List.getElem?_cons_zero]; rfl)); (case hw44 => rfl); (case hy44 => (intro w hSw; go_simp; try with_reducible rfl)); (case hq44 => exact fun _ _ _ h => h); simp only [Act.put, List.setIfInBounds_toArray, List.set_cons_zero, List.set_cons_succ])
              (refine hd_take (i := 1) (oi := ?oi46) (v := ?v46) ?hi46 (by kernel_rfl) (by kernel_rfl) (by kernel_rfl) (by kernel_rfl) (by decide) ?hq46 ?hw46 ?hy46 hHeld ?hr46; (case hi46 => (simp only [List.getElem?_toArray, List.getElem?_cons_succ, List.getElem?_cons_zero]; rfl)); (case hw46 => rfl); (case hy46 => (intro w hSw; go_simp; try with_reducible rfl)); (case hq46 => exact fun _ _ _ h => h); simp only [Act.put, List.setIfInBounds_toArray, List.set_cons_zero, List.set_cons_succ])
              (refine hd_take (i := 2) (oi := ?oi48) (v := ?v48) ?hi48 (by kernel_rfl) (by kernel_rfl) (by kernel_rfl) (by kernel_rfl) (by decide) ?hq48 ?hw48 ?hy48 hHeld ?hr48; (case hi48 => (simp only [List.getElem?_toArray, List.getElem?_cons_succ, List.getElem?_cons_zero]; rfl)); (case hw48 => rfl); (case hy48 => (intro w hSw; go_simp; try with_reducible rfl)); (case hq48 => exact fun _ _ _ h => h); simp only [Act.put, List.setIfInBounds_toArray, List.set_cons_zero, List.set_cons_succ])
              (refine hd_take (i := 3) (oi := ?oi50) (v := ?v50) ?hi50 (by kernel_rfl) (by kernel_rfl) (by kernel_rfl) (by kernel_rfl) (by decide) ?hq50 ?hw50 ?hy50 hHeld ?hr50; (case hi50 => (simp only [List.getElem?_toArray, List.getElem?_cons_succ, List.getElem?_cons_zero]; rfl)); (case hw50 => rfl); (case hy50 => (intro w hSw; go_simp; try with_reducible rfl)); (case hq50 => exact fun _ _ _ h => h); simp only [Act.put, List.setIfInBounds_toArray, List.set_cons_zero, List.set_cons_succ])
              (refine hd_take (i := 4) (oi := ?oi52) (v := ?v52) ?hi52 (by kernel_rfl) (by kernel_rfl) (by kernel_rfl) (by kernel_rfl) (by decide) ?hq52 ?hw52 ?hy52 hHeld ?hr52; (case hi52 => (simp only [List.getElem?_toArray, List.getElem?_cons_succ, List.getElem?_cons_zero]; rfl)); (case hw52 => rfl); (case hy52 => (intro w hSw; go_simp; try with_reducible rfl)); (case hq52 => exact fun _ _ _ h => h); simp only [Act.put, List.setIfInBounds_toArray, List.set_cons_zero, List.set_cons_succ])
              (refine hd_take (i := 5) (oi := ?oi54) (v := ?v54) ?hi54 (by kernel_rfl) (by kernel_rfl) (by kernel_rfl) (by kernel_rfl) (by decide) ?hq54 ?hw54 ?hy54 hHeld ?hr54; (case hi54 => (simp only [List.getElem?_toArray, List.getElem?_cons_succ, List.getElem?_cons_zero]; rfl)); (case hw54 => rfl); (case hy54 => (intro w hSw; go_simp; try with_reducible rfl)); (case hq54 => exact fun _ _ _ h => h); simp only [Act.put, List.setIfInBounds_toArray, List.set_cons_zero, List.set_cons_succ])
              (refine hd_take (i := 6) (oi := ?oi56) (v := ?v56) ?hi56 (by kernel_rfl) (by kernel_rfl) (by kernel_rfl) (by kernel_rfl) (by decide) ?hq56 ?hw56 ?hy56 hHeld ?hr56; (case hi56 => (simp only [List.getElem?_toArray, List.getElem?_cons_succ, List.getElem?_cons_zero]; rfl)); (case hw56 => rfl); (case hy56 => (intro w hSw; go_simp; try with_reducible rfl)); (case hq56 => exact fun _ _ _ h => h); simp only [Act.put, List.setIfInBounds_toArray, List.set_cons_zero, List.set_cons_succ])
              (refine hd_take (i := 7) (oi := ?oi58) (v := ?v58) ?hi58 (by kernel_rfl) (by kernel_rfl) (by kernel_rfl) (by kernel_rfl) (by decide) ?hq58 ?hw58 ?hy58 hHeld ?hr58; (case hi58 => (simp only [List.getElem?_toArray, List.getElem?_cons_succ, List.getElem?_cons_zero]; rfl)); (case hw58 => rfl); (case hy58 => (intro w hSw; go_simp; try with_reducible rfl)); (case hq58 => exact fun _ _ _ h => h); simp only [Act.put, List.setIfInBounds_toArray, List.set_cons_zero, List.set_cons_succ])
              (refine hd_take (i := 8) (oi := ?oi60) (v := ?v60) ?hi60 (by kernel_rfl) (by kernel_rfl) (by kernel_rfl) (by kernel_rfl) (by decide) ?hq60 ?hw60 ?hy60 hHeld ?hr60; (case hi60 => (simp only [List.getElem?_toArray, List.getElem?_cons_succ, List.getElem?_cons_zero]; rfl)); (case hw60 => rfl); (case hy60 => (intro w hSw; go_simp; try with_reducible rfl)); (case hq60 => exact fun _ _ _ h => h); simp only [Act.put, List.setIfInBounds_toArray, List.set_cons_zero, List.set_cons_succ])
              (refine hd_take (i := 9) (oi := ?oi62) (v := ?v62) ?hi62 (by kernel_rfl) (by kernel_rfl) (by kernel_rfl) (by kernel_rfl) (by decide) ?hq62 ?hw62 ?hy62 hHeld ?hr62; (case hi62 => (simp only [List.getElem?_toArray, List.getElem?_cons_succ, List.getElem?_cons_zero]; rfl)); (case hw62 => rfl); (case hy62 => (intro w hSw; go_simp; try with_reducible rfl)); (case hq62 => exact fun _ _ _ h => h); simp only [Act.put, List.setIfInBounds_toArray, List.set_cons_zero, List.set_cons_succ])
              (refine hd_take (i := 10) (oi := ?oi64) (v := ?v64) ?hi64 (by kernel_rfl) (by kernel_rfl) (by kernel_rfl) (by kernel_rfl) (by decide) ?hq64 ?hw64 ?hy64 hHeld ?hr64; (case hi64 => (simp only [List.getElem?_toArray, List.getElem?_cons_succ, List.getElem?_cons_zero]; rfl)); (case hw64 => rfl); (case hy64 => (intro w hSw; go_simp; try with_reducible rfl)); (case hq64 => exact fun _ _ _ h => h); simp only [Act.put, List.setIfInBounds_toArray, List.set_cons_zero, List.set_cons_succ])
              (refine hd_one (i := 11) (oi := ?oi66) ?hi66 (by kernel_rfl) (by decide) ?hr66; (case hi66 => (simp only [List.getElem?_toArray, List.getElem?_cons_succ, List.getElem?_cons_zero]; rfl)); intro K hK)
              go_simp
              go_at_call 60
              refine (IH.out x y bk _ _ _ _ _ _ _ _ _ W4 (by have := HM.out; have := HS.out; have := HST.out; have := HSE.out; omega) HFy.out (by have := HSZ.out; have := HS.out; have := HST.out; have := HSE.out; have := HLn.out; omega) (Kd.F_below HFk.out hHeld) hck (Kd.F_below HG.out hHeld) hl2 (Kd.F_below HG2.out hHeld) gl2).mono ?_
              rintro e w5 ⟨⟨b2, A5, c5, rfl, h5, h6, h7, hF5⟩, hb5⟩
              have HF5 := Aside0.mk hF5
              have H5 := Aside0.mk h5
              have H7 := Aside0.mk h7
              clear hF5 h5 h7
              go_simp
              (refine hK.out _ _ ?hS68 (fun hHeld => ?hr68); (case hS68 => exact hbT hHeld hb5); clear hK K; try simp only [Act.put, List.setIfInBounds_toArray, List.set_cons_zero, List.set_cons_succ])
              clear hb5
              (refine hd_take (i := 12) (oi := ?oi69) (v := ?v69) ?hi69 (by kernel_rfl) (by kernel_rfl) (by kernel_rfl) (by kernel_rfl) (by decide) ?hq69 ?hw69 ?hy69 hHeld ?hr69; (case hi69 => (simp only [List.getElem?_toArray, List.getElem?_cons_succ, List.getElem?_cons_zero]; rfl)); (case hw69 => rfl); (case hy69 => (intro w hSw; go_simp; try with_reducible rfl)); (case hq69 => exact fun _ _ _ h => h); simp only [Act.put, List.setIfInBounds_toArray, List.set_cons_zero, List.set_cons_succ])
              (refine hd_take (i := 13) (oi := ?oi71) (v := ?v71) ?hi71 (by kernel_rfl) (by kernel_rfl) (by kernel_rfl) (by kernel_rfl) (by decide) ?hq71 ?hw71 ?hy71 hHeld ?hr71; (case hi71 => (simp only [List.getElem?_toArray, List.getElem?_cons_succ, List.getElem?_cons_zero]; rfl)); (case hw71 => rfl); (case hy71 => (intro w hSw; go_simp; try with_reducible rfl)); (case hq71 => exact fun _ _ _ h => h); simp only [Act.put, List.setIfInBounds_toArray, List.set_cons_zero, List.set_cons_succ])
              (refine hd_take (i := 14) (oi := ?oi73) (v := ?v73) ?hi73 (by kernel_rfl) (by kernel_rfl) (by kernel_rfl) (by kernel_rfl) (by decide) ?hq73 ?hw73 ?hy73 hHeld ?hr73; (case hi73 => (simp only [List.getElem?_toArray, List.getElem?_cons_succ, List.getElem?_cons_zero]; rfl)); (case hw73 => rfl); (case hy73 => (intro w hSw; go_simp; try with_reducible rfl)); (case hq73 => exact fun _ _ _ h => h); simp only [Act.put, List.setIfInBounds_toArray, List.set_cons_zero, List.set_cons_succ])
              (refine hd_one (i := 15) (oi := ?oi75) ?hi75 (by kernel_rfl) (by decide) ?hr75; (case hi75 => (simp only [List.getElem?_toArray, List.getElem?_cons_succ, List.getElem?_cons_zero]; rfl)); intro K hK)
              go_simp
              (refine hK.out _ _ ?hS77 (fun hHeld => ?hr77); (case hS77 => exact hHeld); clear hK K; try simp only [Act.put, List.setIfInBounds_toArray, List.set_cons_zero, List.set_cons_succ])
              (refine hd_one (i := 16) (oi := ?oi78) ?hi78 (by kernel_rfl) (by decide) ?hr78; (case hi78 => (simp only [List.getElem?_toArray, List.getElem?_cons_succ, List.getElem?_cons_zero]; rfl)); intro K hK)
              go_simp
              (refine hK.out _ _ ?hS80 (fun hHeld => ?hr80); (case hS80 => exact hHeld); clear hK K; try simp only [Act.put, List.setIfInBounds_toArray, List.set_cons_zero, List.set_cons_succ])
              (refine hd_done (by kernel_rfl) ?_; simp only [List.drop_succ_cons, List.drop_zero])
              have HB5 := Aside0.mk (hbT HBr.out hHeld)
              have HFk5 := Aside0.mk (Kd.F_below HFk.out hHeld)
              clear hHeld k1 k2 k3 k4 k5 k6 k7 k8
              cases hgx : (growT (bds bk) x y).2 with
              | true =>
                have HN : Aside0 (goS growT (bds b) ((p.f2.zip t.f2).take (k+1)) = (bds b2, true)) := ⟨by rw [HZK.out, hgx, H5.out hgx]⟩
                have HL2 : Aside0 (b2.length ≤ b.length + szL (p.f2.take (k+1))) := ⟨by have := H7.out; have := HST.out; have := HLn.out; omega⟩
                clear hgx H5 H7
                go_wp2
                go_roundw
                case rel => exact ⟨k + 1, b2, A5, c5, by omega, by go_num, rfl, h6, HN, HL2, HF5, HB5⟩
                case measure => simp [intOf]; omega
              | false =>
                have HN : Aside0 ((growT (bds b) p t).2 = false) := ⟨by
                  rw [HR.out]
                  have h1 := goS_append growT ((p.f2.zip t.f2).take (k+1)) ((p.f2.zip t.f2).drop (k+1)) (bds b)
                  rw [List.take_append_drop, HZK.out, hgx] at h1
                  rw [h1]; rfl⟩
                clear hgx H5 H7
                go_wp2
                go_ret2
                exact ⟨⟨bk, Ak, ck, by rw [HN.out]; rfl, fun h => (by rw [HN.out] at h; cases h), hck, (by have := HLn.out; have := HS.out; have := HST.out; have := HSE.out; omega), HFk5.out⟩, hbT HB.out HB5.out⟩
            · obtain rfl : k = p.f2.length := by omega
              have HN : Aside0 (growT (bds b) p t = (bds bk, true)) := ⟨by
                rw [HR.out]
                have := HGo.out
                rwa [show (p.f2.zip t.f2).take p.f2.length = p.f2.zip t.f2 by rw [List.take_of_length_le (by rw [HZL.out]; exact Nat.le_refl _)]] at this⟩
              have HL3 : Aside0 (bk.length ≤ b.length + szT p) := ⟨by have h1 := HLn.out; have h2 := HS.out; rw [List.take_length] at h1; omega⟩
              go_wp2
              go_ret2
              exact ⟨⟨bk, Ak, ck, by rw [HN.out]; rfl, fun _ => by rw [HN.out], hck, HL3.out, HFk.out⟩, hbT HB.out HBr.out⟩
        · have h3b := bneT (a := (p.f2.length : Int)) (b := (t.f2.length : Int)) (by omega)
          have h3c : (p.f2.length != t.f2.length) = true := by simp [h3]
          have HR : Aside0 (growT (bds b) p t = (bds b, false)) := ⟨by rw [HE2.out, if_neg (fun h => h3 h.2.2)]⟩
          clear h3 h1 h2
          go_wp2
          go_ret2
          exact ⟨⟨b, Ab, cb, by rw [HR.out]; rfl, fun h => (by rw [HR.out] at h; cases h), hcb, by omega, HFB1.out⟩, HB.out⟩
      · have h2b := bneT h2
        have HR : Aside0 (growT (bds b) p t = (bds b, false)) := ⟨by rw [HE2.out, if_neg (fun h => h2 h.2.1)]⟩
        clear h1 h2
        go_wp2
        go_ret2
        exact ⟨⟨b, Ab, cb, by rw [HR.out]; rfl, fun h => (by rw [HR.out] at h; cases h), hcb, by omega, HFB1.out⟩, HB.out⟩
    · have h1b : 0 < t.f0 := by omega
      have HR : Aside0 (growT (bds b) p t = (bds b, false)) := ⟨by rw [HE2.out, if_neg (fun h => h1 h.1)]⟩
      clear h1
      go_wp2
      go_ret2
      exact ⟨⟨b, Ab, cb, by rw [HR.out]; rfl, fun h => (by rw [HR.out] at h; cases h), hcb, by omega, HFB1.out⟩, HB.out⟩
end Go.Proofs.Ytcgnpmjkeifokaa
-- K50
/- superposeref.CoversOf. -/
namespace Go.Proofs.Ytcgnpmjkeifokaa
open Go.RowKit Go.Proofs.YtcgnpmjkeifokaaW.PrintWords
set_option linter.unusedVariables false
set_option linter.unusedSimpArgs false

def covR (m : List (Int × Tm)) (l : Li) (R : List (Int × Tm) → Bool) (y : Li) : Bool := y.f0 == l.f0 && covQ m l y R
theorem covR_any (m : List (Int × Tm)) (l x : Li) (R : List (Int × Tm) → Bool) : (x.f0 == l.f0 && [x, turnL x].any fun y => covQ m l y R) = [x, turnL x].any (covR m l R) := by
  simp only [List.any_cons, List.any_nil, covR]
  have : (turnL x).f0 = x.f0 := rfl
  rw [this]
  cases x.f0 == l.f0 <;> simp
theorem covB_cons (l : Li) (ls d : List Li) (m : List (Int × Tm)) : covB (l :: ls) d m = d.any fun x => [x, turnL x].any (covR m l (covB ls d)) := by
  rw [covB]
  congr 1
  funext x
  exact covR_any m l x _
theorem covR_f {m : List (Int × Tm)} {l y : Li} {R : List (Int × Tm) → Bool} (h : (y.f0 == l.f0) = false) : covR m l R y = false := by unfold covR; rw [h]; rfl
theorem covR_1 {m : List (Int × Tm)} {l y : Li} {R : List (Int × Tm) → Bool} (h : (y.f0 == l.f0) = true) (h2 : (growT m l.f1 y.f1).2 = false) : covR m l R y = false := by unfold covR covQ; rw [h, h2]; rfl
theorem covR_2 {m m1 : List (Int × Tm)} {l y : Li} {R : List (Int × Tm) → Bool} (h : (y.f0 == l.f0) = true) (h2 : (growT m l.f1 y.f1).2 = true) (h3 : m1 = (growT m l.f1 y.f1).1) : covR m l R y = ((growT m1 l.f2 y.f2).2 && R (growT m1 l.f2 y.f2).1) := by unfold covR covQ; rw [h, h2, h3]; rfl

set_option maxHeartbeats 4000000 in
set_option maxRecDepth 100000 in
theorem coversOf_any (g : List Int) : ∀ (cl d : List Li) (b : List Bd) (Ac Ad Ab : Option Addr) (cc cd cb : Nat) (okc okd okb : Nat → Prop) (w : World), (∀ x ∈ d, formE g x.f1 = 0 ∧ formE g x.f2 = 0) → b.length + szL (tmsL cl) ≤ 1000000 → Kd.F kBd w okb Ab b.length b → b.length ≤ cb → Kd.F kLi w okc Ac cl.length cl → cl.length ≤ cc → Kd.F kLi w okd Ad d.length d →
    Calls Try.prog 17 #[.slice Ab b.length cb, .slice Ac cl.length cc, .slice Ad d.length cd] w fun e w' => e = .returned (.bool (covB cl d (bds b))) ∧ Below w.heap.size w w' := by
  intro cl
  induction cl with
  | nil =>
    intro d b Ac Ad Ab cc cd cb okc okd okb w hr hsz hFb hcb hF hc hF2
    clear hF hF2 hFb hr
    simp only [List.length_nil]
    go_enter Try.func17, Try.ntmps17
    go_wp2
    go_ret
    exact ⟨rfl, Below.refl _ _⟩
  | cons l ls ih =>
    intro d b Ac Ad Ab cc cd cb okc okd okb w hr hsz hFb hcb hF hc hF2
    have hlen := Kd.F_max hF
    have hlen2 := Kd.F_max hF2
    have hlenb := Kd.F_max hFb
    obtain ⟨ac, A3, c3, A6, c6, rfl, E0, E1, E2, E3, E4, E5, E6, hLF, _⟩ := at_Lit hF 0 (by simp)
    have e0 : Aside0 (w.cell? ac = some (.bool l.f0)) := ⟨E0⟩
    have e1 : Aside0 (w.cell? ⟨ac.block, ac.off + 1, none⟩ = some (.int .i64 l.f1.f0)) := ⟨E1⟩
    have e2 : Aside0 (w.cell? ⟨ac.block, ac.off + 2, none⟩ = some (.int .i64 l.f1.f1)) := ⟨E2⟩
    have e3 : Aside0 (w.cell? ⟨ac.block, ac.off + 3, none⟩ = some (.slice A3 l.f1.f2.length c3)) := ⟨E3⟩
    have e4 : Aside0 (w.cell? ⟨ac.block, ac.off + 4, none⟩ = some (.int .i64 l.f2.f0)) := ⟨E4⟩
    have e5 : Aside0 (w.cell? ⟨ac.block, ac.off + 5, none⟩ = some (.int .i64 l.f2.f1)) := ⟨E5⟩
    have e6 : Aside0 (w.cell? ⟨ac.block, ac.off + 6, none⟩ = some (.slice A6 l.f2.f2.length c6)) := ⟨E6⟩
    have hLF2 : LiF w okc l A3 c3 A6 c6 := hLF
    have HL := Aside0.mk hLF2
    have HFD := Aside0.mk hF2
    have HFC := Aside0.mk (dropLi hF hc)
    have HFB := Aside0.mk hFb
    have HRT := Aside0.mk hr
    have HSZ : Aside0 (b.length + (szT l.f1 + (szT l.f2 + szL (tmsL ls))) ≤ 1000000) := ⟨hsz⟩
    have IH := Aside0.mk ih
    have HE := Aside0.mk (covB_cons l ls d (bds b))
    clear hF hF2 hFb hr hsz E0 E1 E2 E3 E4 E5 E6 hLF hLF2 ih
    simp only [List.length_cons] at *
    have h01 : ((ls.length + 1 : Nat) == 0) = false := by simp
    have h02 : (((ls.length + 1 : Nat) : Int) == 0) = false := beqF (by omega)
    have h03 : ((ls.length : Int) + 1 == 0) = false := beqF (by omega)
    have h04 : (0 : Int) < (ls.length : Int) + 1 := by omega
    have h05 : (1 : Int) ≤ (ls.length : Int) + 1 := by omega
    have h06 : (ls.length : Int) + 1 ≤ cc := by omega
    have h07 : (1 : Int) ≤ cc := by omega
    have h08 : (0 : Int) < ((ls.length + 1 : Nat) : Int) := by omega
    obtain ⟨Ac2, hAc2⟩ : ∃ Ac2, (if cc = 1 then some ac else some { block := ac.block, off := ac.off + 7 : Addr }) = Ac2 := ⟨_, rfl⟩
    rw [hAc2] at HFC
    generalize hQQ : covR (bds b) l (covB ls d) = QQ at *
    have HQQ := Aside0.mk hQQ
    clear hQQ
    go_enter Try.func17, Try.ntmps17
    go_wp2
    go_loopw [7] (fun i wr => ∃ k : Nat, k ≤ d.length ∧ i = .int .i64 k ∧ Aside0 ((d.take k).any (fun x => [x, turnL x].any QQ) = false) ∧ Aside0 (Below w.heap.size w wr)) (fun i _ => d.length - (intOf i).toNat)
    case atStart => exact ⟨0, by omega, rfl, ⟨rfl⟩, ⟨Below.refl _ _⟩⟩
    case round =>
      obtain ⟨k, hk, rfl, HA, HBo⟩ := hrel
      rename World => wo
      by_cases hlt : k < d.length
      · obtain ⟨ad, B3, d3, B6, d6, rfl, E0, E1, E2, E3, E4, E5, E6, hX, _⟩ := at_Lit (Kd.F_below HFD.out HBo.out) k hlt
        have HX := Aside0.mk hX
        have H1 := Aside0.mk (anyL_take (p := fun x => [x, turnL x].any QQ) hlt HA.out)
        have H2 := Aside0.mk (anyL_at (p := fun x => [x, turnL x].any QQ) hlt)
        rw [← rdLi_get d k hlt] at H1 H2
        have HRX := Aside0.mk (HRT.out _ (rdLi_mem d k hlt))
        have hki : (k : Int) < d.length := by omega
        clear hX
        generalize rd_Li d k = x at *
        have X0 := Aside0.mk E0
        have X1 := Aside0.mk E1
        have X2 := Aside0.mk E2
        have X3 := Aside0.mk E3
        have X4 := Aside0.mk E4
        have X5 := Aside0.mk E5
        have X6 := Aside0.mk E6
        clear E0 E1 E2 E3 E4 E5 E6
        go_wp2
        go_loopw [8] (fun i wr => ∃ k2 : Nat, k2 ≤ 2 ∧ i = .int .i64 k2 ∧ Aside0 (([x, turnL x].take k2).any QQ = false) ∧ Aside0 (Below wo.heap.size wo wr)) (fun i _ => 2 - (intOf i).toNat)
        case atStart => exact ⟨0, by omega, rfl, ⟨rfl⟩, ⟨Below.refl _ _⟩⟩
        case round =>
          obtain ⟨k2, hk2, rfl, HA2, HB4r⟩ := hrel
          have HBwr := Aside0.mk (hbT HBo.out HB4r.out)
          have hzwr := HBwr.out.size
          by_cases hlt2 : k2 < 2
          · have hl2 : k2 < [x, turnL x].length := hlt2
            have G1 := Aside0.mk (anyL_take (p := QQ) hl2 HA2.out)
            have G2 := Aside0.mk (anyL_at (p := QQ) hl2)
            have hk2i : (k2 : Int) < 2 := by omega
            have E0 := oldc HB4r.out X0.out
            have E1 := oldc HB4r.out X1.out
            have E2 := oldc HB4r.out X2.out
            have E3 := oldc HB4r.out X3.out
            have E4 := oldc HB4r.out X4.out
            have E5 := oldc HB4r.out X5.out
            have E6 := oldc HB4r.out X6.out
            by_cases hk1 : k2 = 1
            · have hk1b : ((k2 : Int) == 1) = true := beqT (by omega)
              have HG12 : Aside0 (([x, turnL x])[k2] = turnL x) := ⟨by subst hk1; rfl⟩
              rw [HG12.out] at G1 G2
              go_upto_region 10 with (((with_reducible refine gate_store (t := 84) (p := 9) rfl ?_); refine st_li 9 rfl rfl rfl rfl rfl (heap_alloc_new _ _) ?_); intro w5 hs5 hG5 hz5; have HX5 := Aside0.mk hs5; have HB5 := Aside0.mk (gbS (below_alloc (Below.refl wr.heap.size wr) _) hG5 (Nat.le_refl _)); clear hs5 hG5 hz5 E0 E1 E2 E3 E4 E5 E6)
              obtain ⟨x0, x1, x2, x3, x4, x5, x6⟩ := li_cells HX5.out
              have hT := turned_any x B3 B6 d3 d6 w5
              have HRXt : Aside0 (formE g (turnL x).f1 = 0 ∧ formE g (turnL x).f2 = 0) := ⟨⟨HRX.out.2, HRX.out.1⟩⟩
              have HYt := Aside0.mk (LiF.turn (HX.out.bound.below (hbT HB4r.out HB5.out)))
              generalize hyt : turnL x = y at *
              have HTU := Aside0.mk hT
              clear hT
              go_upto_region 12 with (first | (go_at_call 59; refine HTU.out.mono ?_; rintro e w7 ⟨rfl, hb7⟩; have HB7 := Aside0.mk hb7; clear hb7 x0 x1 x2 x3 x4 x5 x6) | (((with_reducible refine gate_store (t := 84) (p := 9) rfl ?_); refine st_li 9 rfl rfl rfl rfl rfl ((HB7.out.block _ (blk_lt HX5.out)).trans HX5.out) ?_); go_loud (intro w6 hs6 hG6 hz6; have HY6 := Aside0.mk hs6; have HB6 := Aside0.mk (gbS (hbT HB5.out HB7.out) hG6 (Nat.le_refl _)); have HYF : Aside0 (LiF w6 _ y B6 d6 B3 d3) := ⟨(HYt.out.below HB7.out).grown hG6 (fun q hq => by have := hq.2; have := HB4r.out.size; omega)⟩; clear hs6 hG6 hz6)))
              have HB06 := Aside0.mk (hbT HB4r.out HB6.out)
              have HBw6 := Aside0.mk (hbT HBo.out HB06.out)
              obtain ⟨y0, y1, y2, y3, y4, y5, y6⟩ := li_cells HY6.out
              have l0 := oldc HBw6.out e0.out
              have l1 := oldc HBw6.out e1.out
              have l2 := oldc HBw6.out e2.out
              have l3 := oldc HBw6.out e3.out
              have l4 := oldc HBw6.out e4.out
              have l5 := oldc HBw6.out e5.out
              have l6 := oldc HBw6.out e6.out
              have q0 := fun d os => cell_regrown y0 d os
              have r0 := fun d os => cell_regrown l0 d os
              cases hq : y.f0 == l.f0 with
              | false =>
                have HR : Aside0 (([x, y].take (k2+1)).any QQ = false) := ⟨by rw [G1.out, ← HQQ.out]; exact covR_f hq⟩
                clear y0 y1 y2 y3 y4 y5 y6 l0 l1 l2 l3 l4 l5 l6
                (refine wq_draws (by kernel_rfl) (by kernel_rfl) ?_; (repeat (refine wq_step (fun K hK => ?_); go_simp; first | (refine hK _ ?_; clear hK K) | (apply Exists.intro; refine ⟨fun _ => ?_, hK _ ?_⟩; ((fail)); clear hK K))); refine wq_nil ?_; intro W2 hbW2)
                have HBW := Aside0.mk hbW2
                clear hbW2 q0 r0
                go_wp2
                go_roundw
                case rel => exact ⟨k2 + 1, by omega, by go_num, ⟨by rw [hyt]; exact HR.out⟩, ⟨hbT HB06.out HBW.out⟩⟩
                case measure => simp [intOf]; omega
              | true =>
                clear y0 y1 y2 y3 y4 y5 y6 l0 l1 l2 l3 l4 l5 l6
                (refine wq_draws (by kernel_rfl) (by kernel_rfl) ?_; (repeat (refine wq_step (fun K hK => ?_); go_simp; first | (refine hK _ ?_; clear hK K) | (apply Exists.intro; refine ⟨fun _ => ?_, hK _ ?_⟩; ((fail)); clear hK K))); refine wq_nil ?_; intro W2 hbW2)
                have HBW := Aside0.mk hbW2
                clear hbW2 q0 r0
                have HB0W := Aside0.mk (hbT HB06.out HBW.out)
                have HBwW := Aside0.mk (hbT HBo.out HB0W.out)
                have HQ := Aside0.mk hq
                clear hq
                go_upto_region 13 with (fail)
                obtain ⟨y0, y1, y2, y3, y4, y5, y6⟩ := li_cells ((HBW.out.block _ (blk_lt HY6.out)).trans HY6.out)
                have l1 := oldc HBwW.out e1.out
                have l2 := oldc HBwW.out e2.out
                have l3 := oldc HBwW.out e3.out
                have k1 := fun (w' : World) (h : Below W2.heap.size W2 w') => oldc h y1
                have k2_ := fun (w' : World) (h : Below W2.heap.size W2 w') => oldc h y2
                have k3 := fun (w' : World) (h : Below W2.heap.size W2 w') => oldc h y3
                have k4 := fun (w' : World) (h : Below W2.heap.size W2 w') => oldc h l1
                have k5 := fun (w' : World) (h : Below W2.heap.size W2 w') => oldc h l2
                have k6 := fun (w' : World) (h : Below W2.heap.size W2 w') => oldc h l3
                clear y0 y1 y2 y3 y4 y5 y6 l1 l2 l3 hzwr
                refine hd_region 13 0 (fun w' => Below W2.heap.size W2 w') (by kernel_rfl) rfl ?_ (fun _ h => h)
                intro W4 hb4 hz4 hHeld
                clear hb4 hz4
                (refine hd_take (i := 0) (oi := ?oi5) (v := ?v5) ?hi5 (by kernel_rfl) (by kernel_rfl) (by kernel_rfl) (by kernel_rfl) (by decide) ?hq5 ?hw5 ?hy5 hHeld ?hr5; (case hi5 => (simp only [List.getElem?_toArray, List.getElem?_cons_succ, List.getElem?_cons_zero]; rfl)); (case hw5 => rfl); (case hy5 => (intro w hSw; go_simp; try with_reducible rfl)); (case hq5 => exact fun _ _ _ h => h); simp only [Act.put, List.setIfInBounds_toArray, List.set_cons_zero, List.set_cons_succ])
                (refine hd_take (i := 1) (oi := ?oi7) (v := ?v7) ?hi7 (by kernel_rfl) (by kernel_rfl) (by kernel_rfl) (by kernel_rfl) (by decide) ?hq7 ?hw7 ?hy7 hHeld ?hr7; (case hi7 => (simp only [List.getElem?_toArray, List.getElem?_cons_succ, List.getElem?_cons_zero]; rfl)); (case hw7 => rfl); (case hy7 => (intro w hSw; go_simp; try with_reducible rfl)); (case hq7 => exact fun _ _ _ h => h); simp only [Act.put, List.setIfInBounds_toArray, List.set_cons_zero, List.set_cons_succ])
                (refine hd_take (i := 2) (oi := ?oi9) (v := ?v9) ?hi9 (by kernel_rfl) (by kernel_rfl) (by kernel_rfl) (by kernel_rfl) (by decide) ?hq9 ?hw9 ?hy9 hHeld ?hr9; (case hi9 => (simp only [List.getElem?_toArray, List.getElem?_cons_succ, List.getElem?_cons_zero]; rfl)); (case hw9 => rfl); (case hy9 => (intro w hSw; go_simp; try with_reducible rfl)); (case hq9 => exact fun _ _ _ h => h); simp only [Act.put, List.setIfInBounds_toArray, List.set_cons_zero, List.set_cons_succ])
                (refine hd_take (i := 3) (oi := ?oi11) (v := ?v11) ?hi11 (by kernel_rfl) (by kernel_rfl) (by kernel_rfl) (by kernel_rfl) (by decide) ?hq11 ?hw11 ?hy11 hHeld ?hr11; (case hi11 => (simp only [List.getElem?_toArray, List.getElem?_cons_succ, List.getElem?_cons_zero]; rfl)); (case hw11 => rfl); (case hy11 => (intro w hSw; go_simp; try with_reducible rfl)); (case hq11 => exact fun _ _ _ h => h); simp only [Act.put, List.setIfInBounds_toArray, List.set_cons_zero, List.set_cons_succ])
                (refine hd_take (i := 4) (oi := ?oi13) (v := ?v13) ?hi13 (by kernel_rfl) (by kernel_rfl) (by kernel_rfl) (by kernel_rfl) (by decide) ?hq13 ?hw13 ?hy13 hHeld ?hr13; (case hi13 => (simp only [List.getElem?_toArray, List.getElem?_cons_succ, List.getElem?_cons_zero]; rfl)); (case hw13 => rfl); (case hy13 => (intro w hSw; go_simp; try with_reducible rfl)); (case hq13 => exact fun _ _ _ h => h); simp only [Act.put, List.setIfInBounds_toArray, List.set_cons_zero, List.set_cons_succ])
                (refine hd_take (i := 5) (oi := ?oi15) (v := ?v15) ?hi15 (by kernel_rfl) (by kernel_rfl) (by kernel_rfl) (by kernel_rfl) (by decide) ?hq15 ?hw15 ?hy15 hHeld ?hr15; (case hi15 => (simp only [List.getElem?_toArray, List.getElem?_cons_succ, List.getElem?_cons_zero]; rfl)); (case hw15 => rfl); (case hy15 => (intro w hSw; go_simp; try with_reducible rfl)); (case hq15 => exact fun _ _ _ h => h); simp only [Act.put, List.setIfInBounds_toArray, List.set_cons_zero, List.set_cons_succ])
                (refine hd_take (i := 6) (oi := ?oi17) (v := ?v17) ?hi17 (by kernel_rfl) (by kernel_rfl) (by kernel_rfl) (by kernel_rfl) (by decide) ?hq17 ?hw17 ?hy17 hHeld ?hr17; (case hi17 => (simp only [List.getElem?_toArray, List.getElem?_cons_succ, List.getElem?_cons_zero]; rfl)); (case hw17 => rfl); (case hy17 => (intro w hSw; go_simp; try with_reducible rfl)); (case hq17 => exact fun _ _ _ h => h); simp only [Act.put, List.setIfInBounds_toArray, List.set_cons_zero, List.set_cons_succ])
                (refine hd_one (i := 7) (oi := ?oi19) ?hi19 (by kernel_rfl) (by decide) ?hr19; (case hi19 => (simp only [List.getElem?_toArray, List.getElem?_cons_succ, List.getElem?_cons_zero]; rfl)); intro K hK)
                go_simp
                go_at_call 60
                refine (grow_any g _ l.f1 y.f1 b _ _ _ _ _ _ _ _ _ W4 (Nat.le_refl _) HRXt.out.1 (by have := HSZ.out; omega) (Kd.F_below HFB.out (hbT HBwW.out hHeld)) hcb (Kd.F_below HL.out.F3 (hbT HBwW.out hHeld)) HL.out.l3 (Kd.F_below HYF.out.F3 (hbT HBW.out hHeld)) HYF.out.l3).mono ?_
                rintro e w5 ⟨⟨b2, A5, c5, rfl, h5, h6, h7, hF5⟩, hb5⟩
                have HF5 := Aside0.mk hF5
                have H5 := Aside0.mk h5
                have H7 := Aside0.mk h7
                clear hF5 h5 h7
                go_simp
                (refine hK.out _ _ ?hS21 (fun hHeld => ?hr21); (case hS21 => exact hbT hHeld hb5); clear hK K; try simp only [Act.put, List.setIfInBounds_toArray, List.set_cons_zero, List.set_cons_succ])
                clear hb5
                (refine hd_take (i := 8) (oi := ?oi22) (v := ?v22) ?hi22 (by kernel_rfl) (by kernel_rfl) (by kernel_rfl) (by kernel_rfl) (by decide) ?hq22 ?hw22 ?hy22 hHeld ?hr22; (case hi22 => (simp only [List.getElem?_toArray, List.getElem?_cons_succ, List.getElem?_cons_zero]; rfl)); (case hw22 => rfl); (case hy22 => (intro w hSw; go_simp; try with_reducible rfl)); (case hq22 => exact fun _ _ _ h => h); simp only [Act.put, List.setIfInBounds_toArray, List.set_cons_zero, List.set_cons_succ])
                (refine hd_take (i := 9) (oi := ?oi24) (v := ?v24) ?hi24 (by kernel_rfl) (by kernel_rfl) (by kernel_rfl) (by kernel_rfl) (by decide) ?hq24 ?hw24 ?hy24 hHeld ?hr24; (case hi24 => (simp only [List.getElem?_toArray, List.getElem?_cons_succ, List.getElem?_cons_zero]; rfl)); (case hw24 => rfl); (case hy24 => (intro w hSw; go_simp; try with_reducible rfl)); (case hq24 => exact fun _ _ _ h => h); simp only [Act.put, List.setIfInBounds_toArray, List.set_cons_zero, List.set_cons_succ])
                (refine hd_take (i := 10) (oi := ?oi26) (v := ?v26) ?hi26 (by kernel_rfl) (by kernel_rfl) (by kernel_rfl) (by kernel_rfl) (by decide) ?hq26 ?hw26 ?hy26 hHeld ?hr26; (case hi26 => (simp only [List.getElem?_toArray, List.getElem?_cons_succ, List.getElem?_cons_zero]; rfl)); (case hw26 => rfl); (case hy26 => (intro w hSw; go_simp; try with_reducible rfl)); (case hq26 => exact fun _ _ _ h => h); simp only [Act.put, List.setIfInBounds_toArray, List.set_cons_zero, List.set_cons_succ])
                (refine hd_one (i := 11) (oi := ?oi28) ?hi28 (by kernel_rfl) (by decide) ?hr28; (case hi28 => (simp only [List.getElem?_toArray, List.getElem?_cons_succ, List.getElem?_cons_zero]; rfl)); intro K hK)
                go_simp
                (refine hK.out _ _ ?hS30 (fun hHeld => ?hr30); (case hS30 => exact hHeld); clear hK K; try simp only [Act.put, List.setIfInBounds_toArray, List.set_cons_zero, List.set_cons_succ])
                (refine hd_one (i := 12) (oi := ?oi31) ?hi31 (by kernel_rfl) (by decide) ?hr31; (case hi31 => (simp only [List.getElem?_toArray, List.getElem?_cons_succ, List.getElem?_cons_zero]; rfl)); intro K hK)
                go_simp
                (refine hK.out _ _ ?hS33 (fun hHeld => ?hr33); (case hS33 => exact hHeld); clear hK K; try simp only [Act.put, List.setIfInBounds_toArray, List.set_cons_zero, List.set_cons_succ])
                (refine hd_done (by kernel_rfl) ?_; simp only [List.drop_succ_cons, List.drop_zero])
                have HB5 := Aside0.mk hHeld
                have HB05 := Aside0.mk (hbT HB0W.out HB5.out)
                have HBw5 := Aside0.mk (hbT HBo.out HB05.out)
                clear hHeld k1 k2_ k3 k4 k5 k6
                cases hgx : (growT (bds b) l.f1 y.f1).2 with
                | false =>
                  have HR : Aside0 (([x, y].take (k2+1)).any QQ = false) := ⟨by rw [G1.out, ← HQQ.out]; exact covR_1 HQ.out hgx⟩
                  clear hgx H5 H7
                  go_wp2
                  go_roundw
                  case rel => exact ⟨k2 + 1, by omega, by go_num, ⟨by rw [hyt]; exact HR.out⟩, HB05⟩
                  case measure => simp [intOf]; omega
                | true =>
                  have HQ2 := Aside0.mk (covR_2 (R := covB ls d) HQ.out hgx (H5.out hgx))
                  clear hgx
                  obtain ⟨y0, y1, y2, y3, y4, y5, y6⟩ := li_cells ((HB5.out.block _ (Nat.lt_of_lt_of_le (blk_lt HY6.out) HBW.out.size)).trans ((HBW.out.block _ (blk_lt HY6.out)).trans HY6.out))
                  have l4 := oldc HBw5.out e4.out
                  have l5 := oldc HBw5.out e5.out
                  have l6 := oldc HBw5.out e6.out
                  have k1 := fun (w' : World) (h : Below w5.heap.size w5 w') => oldc h y4
                  have k2_ := fun (w' : World) (h : Below w5.heap.size w5 w') => oldc h y5
                  have k3 := fun (w' : World) (h : Below w5.heap.size w5 w') => oldc h y6
                  have k4 := fun (w' : World) (h : Below w5.heap.size w5 w') => oldc h l4
                  have k5 := fun (w' : World) (h : Below w5.heap.size w5 w') => oldc h l5
                  have k6 := fun (w' : World) (h : Below w5.heap.size w5 w') => oldc h l6
                  clear y0 y1 y2 y3 y4 y5 y6 l4 l5 l6
                  go_upto_region 15 with (fail)
                  refine hd_region 13 0 (fun w' => Below w5.heap.size w5 w') (by kernel_rfl) rfl ?_ (fun _ h => h)
                  intro W14 hb4 hz4 hHeld
                  clear hb4 hz4
                  (refine hd_take (i := 0) (oi := ?oi35) (v := ?v35) ?hi35 (by kernel_rfl) (by kernel_rfl) (by kernel_rfl) (by kernel_rfl) (by decide) ?hq35 ?hw35 ?hy35 hHeld ?hr35; (case hi35 => (simp only [List.getElem?_toArray, List.getElem?_cons_succ, List.getElem?_cons_zero]; rfl)); (case hw35 => rfl); (case hy35 => (intro w hSw; go_simp; try with_reducible rfl)); (case hq35 => exact fun _ _ _ h => h); simp only [Act.put, List.setIfInBounds_toArray, List.set_cons_zero, List.set_cons_succ])
                  (refine hd_take (i := 1) (oi := ?oi37) (v := ?v37) ?hi37 (by kernel_rfl) (by kernel_rfl) (by kernel_rfl) (by kernel_rfl) (by decide) ?hq37 ?hw37 ?hy37 hHeld ?hr37; (case hi37 => (simp only [List.getElem?_toArray, List.getElem?_cons_succ, List.getElem?_cons_zero]; rfl)); (case hw37 => rfl); (case hy37 => (intro w hSw; go_simp; try with_reducible rfl)); (case hq37 => exact fun _ _ _ h => h); simp only [Act.put, List.setIfInBounds_toArray, List.set_cons_zero, List.set_cons_succ])
                  (refine hd_take (i := 2) (oi := ?oi39) (v := ?v39) ?hi39 (by kernel_rfl) (by kernel_rfl) (by kernel_rfl) (by kernel_rfl) (by decide) ?hq39 ?hw39 ?hy39 hHeld ?hr39; (case hi39 => (simp only [List.getElem?_toArray, List.getElem?_cons_succ, List.getElem?_cons_zero]; rfl)); (case hw39 => rfl); (case hy39 => (intro w hSw; go_simp; try with_reducible rfl)); (case hq39 => exact fun _ _ _ h => h); simp only [Act.put, List.setIfInBounds_toArray, List.set_cons_zero, List.set_cons_succ])
                  (refine hd_take (i := 3) (oi := ?oi41) (v := ?v41) ?hi41 (by kernel_rfl) (by kernel_rfl) (by kernel_rfl) (by kernel_rfl) (by decide) ?hq41 ?hw41 ?hy41 hHeld ?hr41; (case hi41 => (simp only [List.getElem?_toArray, List.getElem?_cons_succ, List.getElem?_cons_zero]; rfl)); (case hw41 => rfl); (case hy41 => (intro w hSw; go_simp; try with_reducible rfl)); (case hq41 => exact fun _ _ _ h => h); simp only [Act.put, List.setIfInBounds_toArray, List.set_cons_zero, List.set_cons_succ])
                  (refine hd_take (i := 4) (oi := ?oi43) (v := ?v43) ?hi43 (by kernel_rfl) (by kernel_rfl) (by kernel_rfl) (by kernel_rfl) (by decide) ?hq43 ?hw43 ?hy43 hHeld ?hr43; (case hi43 => (simp only [List.getElem?_toArray, List.getElem?_cons_succ, List.getElem?_cons_zero]; rfl)); (case hw43 => rfl); (case hy43 => (intro w hSw; go_simp; try with_reducible rfl)); (case hq43 => exact fun _ _ _ h => h); simp only [Act.put, List.setIfInBounds_toArray, List.set_cons_zero, List.set_cons_succ])
                  (refine hd_take (i := 5) (oi := ?oi45) (v := ?v45) ?hi45 (by kernel_rfl) (by kernel_rfl) (by kernel_rfl) (by kernel_rfl) (by decide) ?hq45 ?hw45 ?hy45 hHeld ?hr45; (case hi45 => (simp only [List.getElem?_toArray, List.getElem?_cons_succ, List.getElem?_cons_zero]; rfl)); (case hw45 => rfl); (case hy45 => (intro w hSw; go_simp; try with_reducible rfl)); (case hq45 => exact fun _ _ _ h => h); simp only [Act.put, List.setIfInBounds_toArray, List.set_cons_zero, List.set_cons_succ])
                  (refine hd_take (i := 6) (oi := ?oi47) (v := ?v47) ?hi47 (by kernel_rfl) (by kernel_rfl) (by kernel_rfl) (by kernel_rfl) (by decide) ?hq47 ?hw47 ?hy47 hHeld ?hr47; (case hi47 => (simp only [List.getElem?_toArray, List.getElem?_cons_succ, List.getElem?_cons_zero]; rfl)); (case hw47 => rfl); (case hy47 => (intro w hSw; go_simp; try with_reducible rfl)); (case hq47 => exact fun _ _ _ h => h); simp only [Act.put, List.setIfInBounds_toArray, List.set_cons_zero, List.set_cons_succ])
                  (refine hd_one (i := 7) (oi := ?oi49) ?hi49 (by kernel_rfl) (by decide) ?hr49; (case hi49 => (simp only [List.getElem?_toArray, List.getElem?_cons_succ, List.getElem?_cons_zero]; rfl)); intro K hK)
                  go_simp
                  go_at_call 60
                  refine (grow_any g _ l.f2 y.f2 b2 _ _ _ _ _ _ _ _ _ W14 (Nat.le_refl _) HRXt.out.2 (by have := HSZ.out; have := H7.out; omega) (Kd.F_below HF5.out hHeld) h6 (Kd.F_below HL.out.F6 (hbT HBw5.out hHeld)) HL.out.l6 (Kd.F_below HYF.out.F6 (hbT HBW.out (hbT HB5.out hHeld))) HYF.out.l6).mono ?_
                  rintro e w15 ⟨⟨b3, A15, c15, rfl, h15, h16, h17, hF15⟩, hb15⟩
                  have HF15 := Aside0.mk hF15
                  have H15 := Aside0.mk h15
                  have H17 := Aside0.mk h17
                  clear hF15 h15 h17
                  go_simp
                  (refine hK.out _ _ ?hS51 (fun hHeld => ?hr51); (case hS51 => exact hbT hHeld hb15); clear hK K; try simp only [Act.put, List.setIfInBounds_toArray, List.set_cons_zero, List.set_cons_succ])
                  clear hb15
                  (refine hd_take (i := 8) (oi := ?oi52) (v := ?v52) ?hi52 (by kernel_rfl) (by kernel_rfl) (by kernel_rfl) (by kernel_rfl) (by decide) ?hq52 ?hw52 ?hy52 hHeld ?hr52; (case hi52 => (simp only [List.getElem?_toArray, List.getElem?_cons_succ, List.getElem?_cons_zero]; rfl)); (case hw52 => rfl); (case hy52 => (intro w hSw; go_simp; try with_reducible rfl)); (case hq52 => exact fun _ _ _ h => h); simp only [Act.put, List.setIfInBounds_toArray, List.set_cons_zero, List.set_cons_succ])
                  (refine hd_take (i := 9) (oi := ?oi54) (v := ?v54) ?hi54 (by kernel_rfl) (by kernel_rfl) (by kernel_rfl) (by kernel_rfl) (by decide) ?hq54 ?hw54 ?hy54 hHeld ?hr54; (case hi54 => (simp only [List.getElem?_toArray, List.getElem?_cons_succ, List.getElem?_cons_zero]; rfl)); (case hw54 => rfl); (case hy54 => (intro w hSw; go_simp; try with_reducible rfl)); (case hq54 => exact fun _ _ _ h => h); simp only [Act.put, List.setIfInBounds_toArray, List.set_cons_zero, List.set_cons_succ])
                  (refine hd_take (i := 10) (oi := ?oi56) (v := ?v56) ?hi56 (by kernel_rfl) (by kernel_rfl) (by kernel_rfl) (by kernel_rfl) (by decide) ?hq56 ?hw56 ?hy56 hHeld ?hr56; (case hi56 => (simp only [List.getElem?_toArray, List.getElem?_cons_succ, List.getElem?_cons_zero]; rfl)); (case hw56 => rfl); (case hy56 => (intro w hSw; go_simp; try with_reducible rfl)); (case hq56 => exact fun _ _ _ h => h); simp only [Act.put, List.setIfInBounds_toArray, List.set_cons_zero, List.set_cons_succ])
                  (refine hd_one (i := 11) (oi := ?oi58) ?hi58 (by kernel_rfl) (by decide) ?hr58; (case hi58 => (simp only [List.getElem?_toArray, List.getElem?_cons_succ, List.getElem?_cons_zero]; rfl)); intro K hK)
                  go_simp
                  (refine hK.out _ _ ?hS60 (fun hHeld => ?hr60); (case hS60 => exact hHeld); clear hK K; try simp only [Act.put, List.setIfInBounds_toArray, List.set_cons_zero, List.set_cons_succ])
                  (refine hd_one (i := 12) (oi := ?oi61) ?hi61 (by kernel_rfl) (by decide) ?hr61; (case hi61 => (simp only [List.getElem?_toArray, List.getElem?_cons_succ, List.getElem?_cons_zero]; rfl)); intro K hK)
                  go_simp
                  (refine hK.out _ _ ?hS63 (fun hHeld => ?hr63); (case hS63 => exact hHeld); clear hK K; try simp only [Act.put, List.setIfInBounds_toArray, List.set_cons_zero, List.set_cons_succ])
                  (refine hd_done (by kernel_rfl) ?_; simp only [List.drop_succ_cons, List.drop_zero])
                  have HB15 := Aside0.mk (hbT HB05.out hHeld)
                  have HBw15 := Aside0.mk (hbT HBo.out HB15.out)
                  clear hHeld k1 k2_ k3 k4 k5 k6
                  cases hgx : (growT (bds b2) l.f2 y.f2).2 with
                  | false =>
                    have HR : Aside0 (([x, y].take (k2+1)).any QQ = false) := ⟨by rw [G1.out, ← HQQ.out, HQ2.out, hgx]; rfl⟩
                    clear hgx H15 H17
                    go_wp2
                    go_roundw
                    case rel => exact ⟨k2 + 1, by omega, by go_num, ⟨by rw [hyt]; exact HR.out⟩, HB15⟩
                    case measure => simp [intOf]; omega
                  | true =>
                    have HQ3 : Aside0 (covR (bds b) l (covB ls d) y = covB ls d (bds b3)) := ⟨by rw [HQ2.out, hgx, H15.out hgx]; rfl⟩
                    clear hgx
                    have HF9 := Aside0.mk (Kd.F_below HFC.out HBw15.out)
                    have C3 := Aside0.mk (IH.out d b3 Ac2 (some ad) A15 (cc - 1) cd c15 _ _ _ w15 HRT.out (by have := HSZ.out; have := H7.out; have := H17.out; omega) HF15.out h16 HF9.out (by omega) (Kd.F_below HFD.out HBw15.out))
                    generalize covB ls d (bds b3) = r3 at *
                    go_wp2_with (fail)
                    refine C3.out.mono ?_
                    rintro e w20 ⟨rfl, hb20⟩
                    have HB20 := Aside0.mk hb20
                    clear hb20 C3
                    cases r3 with
                    | true =>
                      have HR : Aside0 (covB (l :: ls) d (bds b) = true) := ⟨by rw [HE.out]; exact H2.out (G2.out (by rw [← HQQ.out]; exact HQ3.out))⟩
                      go_wp2
                      go_ret
                      exact ⟨ret_bool HR.out.symm, hbT HBw15.out HB20.out⟩
                    | false =>
                      have HR : Aside0 (([x, y].take (k2+1)).any QQ = false) := ⟨by rw [G1.out, ← HQQ.out, HQ3.out]⟩
                      go_wp2
                      go_roundw
                      case rel => exact ⟨k2 + 1, by omega, by go_num, ⟨by rw [hyt]; exact HR.out⟩, ⟨hbT HB15.out HB20.out⟩⟩
                      case measure => simp [intOf]; omega
            · have hk1b : ((k2 : Int) == 1) = false := beqF (by omega)
              have HG12 : Aside0 (([x, turnL x])[k2] = x) := ⟨by have h0 : k2 = 0 := (by omega); subst h0; rfl⟩
              rw [HG12.out] at G1 G2
              obtain ⟨y, hyx⟩ : ∃ y, y = x := ⟨_, rfl⟩
              have G1 : Aside0 (([x, turnL x].take (k2+1)).any QQ = QQ y) := ⟨by rw [G1.out, hyx]⟩
              have G2 : Aside0 (QQ y = true → [x, turnL x].any QQ = true) := ⟨by rw [hyx]; exact G2.out⟩
              have HRXt : Aside0 (formE g y.f1 = 0 ∧ formE g y.f2 = 0) := ⟨by rw [hyx]; exact HRX.out⟩
              have HYt : Aside0 (LiF wo okd y B3 d3 B6 d6) := ⟨by rw [hyx]; exact HX.out⟩
              rw [← hyx] at E0 E1 E2 E3 E4 E5 E6
              have HYX := Aside0.mk hyx
              clear hyx
              go_upto_region 12 with (((with_reducible refine gate_store (t := 84) (p := 9) rfl ?_); refine st_li 9 rfl rfl rfl rfl rfl (heap_alloc_new _ _) ?_); intro w6 hs6 hG6 hz6; have HY6 := Aside0.mk hs6; have HB6 := Aside0.mk (gbS (below_alloc (Below.refl wr.heap.size wr) _) hG6 (Nat.le_refl _)); clear hs6 hG6 hz6 E0 E1 E2 E3 E4 E5 E6)
              have HYF := Aside0.mk (HYt.out.below (hbT HB4r.out HB6.out))
              have HB06 := Aside0.mk (hbT HB4r.out HB6.out)
              have HBw6 := Aside0.mk (hbT HBo.out HB06.out)
              obtain ⟨y0, y1, y2, y3, y4, y5, y6⟩ := li_cells HY6.out
              have l0 := oldc HBw6.out e0.out
              have l1 := oldc HBw6.out e1.out
              have l2 := oldc HBw6.out e2.out
              have l3 := oldc HBw6.out e3.out
              have l4 := oldc HBw6.out e4.out
              have l5 := oldc HBw6.out e5.out
              have l6 := oldc HBw6.out e6.out
              have q0 := fun d os => cell_regrown y0 d os
              have r0 := fun d os => cell_regrown l0 d os
              cases hq : y.f0 == l.f0 with
              | false =>
                have HR : Aside0 (([x, turnL x].take (k2+1)).any QQ = false) := ⟨by rw [G1.out, ← HQQ.out]; exact covR_f hq⟩
                clear y0 y1 y2 y3 y4 y5 y6 l0 l1 l2 l3 l4 l5 l6
                (refine wq_draws (by kernel_rfl) (by kernel_rfl) ?_; (repeat (refine wq_step (fun K hK => ?_); go_simp; first | (refine hK _ ?_; clear hK K) | (apply Exists.intro; refine ⟨fun _ => ?_, hK _ ?_⟩; ((fail)); clear hK K))); refine wq_nil ?_; intro W2 hbW2)
                have HBW := Aside0.mk hbW2
                clear hbW2 q0 r0
                go_wp2
                go_roundw
                case rel => exact ⟨k2 + 1, by omega, by go_num, HR, ⟨hbT HB06.out HBW.out⟩⟩
                case measure => simp [intOf]; omega
              | true =>
                clear y0 y1 y2 y3 y4 y5 y6 l0 l1 l2 l3 l4 l5 l6
                (refine wq_draws (by kernel_rfl) (by kernel_rfl) ?_; (repeat (refine wq_step (fun K hK => ?_); go_simp; first | (refine hK _ ?_; clear hK K) | (apply Exists.intro; refine ⟨fun _ => ?_, hK _ ?_⟩; ((fail)); clear hK K))); refine wq_nil ?_; intro W2 hbW2)
                have HBW := Aside0.mk hbW2
                clear hbW2 q0 r0
                have HB0W := Aside0.mk (hbT HB06.out HBW.out)
                have HBwW := Aside0.mk (hbT HBo.out HB0W.out)
                have HQ := Aside0.mk hq
                clear hq
                go_upto_region 13 with (fail)
                obtain ⟨y0, y1, y2, y3, y4, y5, y6⟩ := li_cells ((HBW.out.block _ (blk_lt HY6.out)).trans HY6.out)
                have l1 := oldc HBwW.out e1.out
                have l2 := oldc HBwW.out e2.out
                have l3 := oldc HBwW.out e3.out
                have k1 := fun (w' : World) (h : Below W2.heap.size W2 w') => oldc h y1
                have k2_ := fun (w' : World) (h : Below W2.heap.size W2 w') => oldc h y2
                have k3 := fun (w' : World) (h : Below W2.heap.size W2 w') => oldc h y3
                have k4 := fun (w' : World) (h : Below W2.heap.size W2 w') => oldc h l1
                have k5 := fun (w' : World) (h : Below W2.heap.size W2 w') => oldc h l2
                have k6 := fun (w' : World) (h : Below W2.heap.size W2 w') => oldc h l3
                clear y0 y1 y2 y3 y4 y5 y6 l1 l2 l3 hzwr
                refine hd_region 13 0 (fun w' => Below W2.heap.size W2 w') (by kernel_rfl) rfl ?_ (fun _ h => h)
                intro W4 hb4 hz4 hHeld
                clear hb4 hz4
                (refine hd_take (i := 0) (oi := ?oi68) (v := ?v68) ?hi68 (by kernel_rfl) (by kernel_rfl) (by kernel_rfl) (by kernel_rfl) (by decide) ?hq68 ?hw68 ?hy68 hHeld ?hr68; (case hi68 => (simp only [List.getElem?_toArray, List.getElem?_cons_succ, List.getElem?_cons_zero]; rfl)); (case hw68 => rfl); (case hy68 => (intro w hSw; go_simp; try with_reducible rfl)); (case hq68 => exact fun _ _ _ h => h); simp only [Act.put, List.setIfInBounds_toArray, List.set_cons_zero, List.set_cons_succ])
                (refine hd_take (i := 1) (oi := ?oi70) (v := ?v70) ?hi70 (by kernel_rfl) (by kernel_rfl) (by kernel_rfl) (by kernel_rfl) (by decide) ?hq70 ?hw70 ?hy70 hHeld ?hr70; (case hi70 => (simp only [List.getElem?_toArray, List.getElem?_cons_succ, List.getElem?_cons_zero]; rfl)); (case hw70 => rfl); (case hy70 => (intro w hSw; go_simp; try with_reducible rfl)); (case hq70 => exact fun _ _ _ h => h); simp only [Act.put, List.setIfInBounds_toArray, List.set_cons_zero, List.set_cons_succ])
                (refine hd_take (i := 2) (oi := ?oi72) (v := ?v72) ?hi72 (by kernel_rfl) (by kernel_rfl) (by kernel_rfl) (by kernel_rfl) (by decide) ?hq72 ?hw72 ?hy72 hHeld ?hr72; (case hi72 => (simp only [List.getElem?_toArray, List.getElem?_cons_succ, List.getElem?_cons_zero]; rfl)); (case hw72 => rfl); (case hy72 => (intro w hSw; go_simp; try with_reducible rfl)); (case hq72 => exact fun _ _ _ h => h); simp only [Act.put, List.setIfInBounds_toArray, List.set_cons_zero, List.set_cons_succ])
                (refine hd_take (i := 3) (oi := ?oi74) (v := ?v74) ?hi74 (by kernel_rfl) (by kernel_rfl) (by kernel_rfl) (by kernel_rfl) (by decide) ?hq74 ?hw74 ?hy74 hHeld ?hr74; (case hi74 => (simp only [List.getElem?_toArray, List.getElem?_cons_succ, List.getElem?_cons_zero]; rfl)); (case hw74 => rfl); (case hy74 => (intro w hSw; go_simp; try with_reducible rfl)); (case hq74 => exact fun _ _ _ h => h); simp only [Act.put, List.setIfInBounds_toArray, List.set_cons_zero, List.set_cons_succ])
                (refine hd_take (i := 4) (oi := ?oi76) (v := ?v76) ?hi76 (by kernel_rfl) (by kernel_rfl) (by kernel_rfl) (by kernel_rfl) (by decide) ?hq76 ?hw76 ?hy76 hHeld ?hr76; (case hi76 => (simp only [List.getElem?_toArray, List.getElem?_cons_succ, List.getElem?_cons_zero]; rfl)); (case hw76 => rfl); (case hy76 => (intro w hSw; go_simp; try with_reducible rfl)); (case hq76 => exact fun _ _ _ h => h); simp only [Act.put, List.setIfInBounds_toArray, List.set_cons_zero, List.set_cons_succ])
                (refine hd_take (i := 5) (oi := ?oi78) (v := ?v78) ?hi78 (by kernel_rfl) (by kernel_rfl) (by kernel_rfl) (by kernel_rfl) (by decide) ?hq78 ?hw78 ?hy78 hHeld ?hr78; (case hi78 => (simp only [List.getElem?_toArray, List.getElem?_cons_succ, List.getElem?_cons_zero]; rfl)); (case hw78 => rfl); (case hy78 => (intro w hSw; go_simp; try with_reducible rfl)); (case hq78 => exact fun _ _ _ h => h); simp only [Act.put, List.setIfInBounds_toArray, List.set_cons_zero, List.set_cons_succ])
                (refine hd_take (i := 6) (oi := ?oi80) (v := ?v80) ?hi80 (by kernel_rfl) (by kernel_rfl) (by kernel_rfl) (by kernel_rfl) (by decide) ?hq80 ?hw80 ?hy80 hHeld ?hr80; (case hi80 => (simp only [List.getElem?_toArray, List.getElem?_cons_succ, List.getElem?_cons_zero]; rfl)); (case hw80 => rfl); (case hy80 => (intro w hSw; go_simp; try with_reducible rfl)); (case hq80 => exact fun _ _ _ h => h); simp only [Act.put, List.setIfInBounds_toArray, List.set_cons_zero, List.set_cons_succ])
                (refine hd_one (i := 7) (oi := ?oi82) ?hi82 (by kernel_rfl) (by decide) ?hr82; (case hi82 => (simp only [List.getElem?_toArray, List.getElem?_cons_succ, List.getElem?_cons_zero]; rfl)); intro K hK)
                go_simp
                go_at_call 60
                refine (grow_any g _ l.f1 y.f1 b _ _ _ _ _ _ _ _ _ W4 (Nat.le_refl _) HRXt.out.1 (by have := HSZ.out; omega) (Kd.F_below HFB.out (hbT HBwW.out hHeld)) hcb (Kd.F_below HL.out.F3 (hbT HBwW.out hHeld)) HL.out.l3 (Kd.F_below HYF.out.F3 (hbT HBW.out hHeld)) HYF.out.l3).mono ?_
                rintro e w5 ⟨⟨b2, A5, c5, rfl, h5, h6, h7, hF5⟩, hb5⟩
                have HF5 := Aside0.mk hF5
                have H5 := Aside0.mk h5
                have H7 := Aside0.mk h7
                clear hF5 h5 h7
                go_simp
                (refine hK.out _ _ ?hS84 (fun hHeld => ?hr84); (case hS84 => exact hbT hHeld hb5); clear hK K; try simp only [Act.put, List.setIfInBounds_toArray, List.set_cons_zero, List.set_cons_succ])
                clear hb5
                (refine hd_take (i := 8) (oi := ?oi85) (v := ?v85) ?hi85 (by kernel_rfl) (by kernel_rfl) (by kernel_rfl) (by kernel_rfl) (by decide) ?hq85 ?hw85 ?hy85 hHeld ?hr85; (case hi85 => (simp only [List.getElem?_toArray, List.getElem?_cons_succ, List.getElem?_cons_zero]; rfl)); (case hw85 => rfl); (case hy85 => (intro w hSw; go_simp; try with_reducible rfl)); (case hq85 => exact fun _ _ _ h => h); simp only [Act.put, List.setIfInBounds_toArray, List.set_cons_zero, List.set_cons_succ])
                (refine hd_take (i := 9) (oi := ?oi87) (v := ?v87) ?hi87 (by kernel_rfl) (by kernel_rfl) (by kernel_rfl) (by kernel_rfl) (by decide) ?hq87 ?hw87 ?hy87 hHeld ?hr87; (case hi87 => (simp only [List.getElem?_toArray, List.getElem?_cons_succ, List.getElem?_cons_zero]; rfl)); (case hw87 => rfl); (case hy87 => (intro w hSw; go_simp; try with_reducible rfl)); (case hq87 => exact fun _ _ _ h => h); simp only [Act.put, List.setIfInBounds_toArray, List.set_cons_zero, List.set_cons_succ])
                (refine hd_take (i := 10) (oi := ?oi89) (v := ?v89) ?hi89 (by kernel_rfl) (by kernel_rfl) (by kernel_rfl) (by kernel_rfl) (by decide) ?hq89 ?hw89 ?hy89 hHeld ?hr89; (case hi89 => (simp only [List.getElem?_toArray, List.getElem?_cons_succ, List.getElem?_cons_zero]; rfl)); (case hw89 => rfl); (case hy89 => (intro w hSw; go_simp; try with_reducible rfl)); (case hq89 => exact fun _ _ _ h => h); simp only [Act.put, List.setIfInBounds_toArray, List.set_cons_zero, List.set_cons_succ])
                (refine hd_one (i := 11) (oi := ?oi91) ?hi91 (by kernel_rfl) (by decide) ?hr91; (case hi91 => (simp only [List.getElem?_toArray, List.getElem?_cons_succ, List.getElem?_cons_zero]; rfl)); intro K hK)
                go_simp
                (refine hK.out _ _ ?hS93 (fun hHeld => ?hr93); (case hS93 => exact hHeld); clear hK K; try simp only [Act.put, List.setIfInBounds_toArray, List.set_cons_zero, List.set_cons_succ])
                (refine hd_one (i := 12) (oi := ?oi94) ?hi94 (by kernel_rfl) (by decide) ?hr94; (case hi94 => (simp only [List.getElem?_toArray, List.getElem?_cons_succ, List.getElem?_cons_zero]; rfl)); intro K hK)
                go_simp
                (refine hK.out _ _ ?hS96 (fun hHeld => ?hr96); (case hS96 => exact hHeld); clear hK K; try simp only [Act.put, List.setIfInBounds_toArray, List.set_cons_zero, List.set_cons_succ])
                (refine hd_done (by kernel_rfl) ?_; simp only [List.drop_succ_cons, List.drop_zero])
                have HB5 := Aside0.mk hHeld
                have HB05 := Aside0.mk (hbT HB0W.out HB5.out)
                have HBw5 := Aside0.mk (hbT HBo.out HB05.out)
                clear hHeld k1 k2_ k3 k4 k5 k6
                cases hgx : (growT (bds b) l.f1 y.f1).2 with
                | false =>
                  have HR : Aside0 (([x, turnL x].take (k2+1)).any QQ = false) := ⟨by rw [G1.out, ← HQQ.out]; exact covR_1 HQ.out hgx⟩
                  clear hgx H5 H7
                  go_wp2
                  go_roundw
                  case rel => exact ⟨k2 + 1, by omega, by go_num, HR, HB05⟩
                  case measure => simp [intOf]; omega
                | true =>
                  have HQ2 := Aside0.mk (covR_2 (R := covB ls d) HQ.out hgx (H5.out hgx))
                  clear hgx
                  obtain ⟨y0, y1, y2, y3, y4, y5, y6⟩ := li_cells ((HB5.out.block _ (Nat.lt_of_lt_of_le (blk_lt HY6.out) HBW.out.size)).trans ((HBW.out.block _ (blk_lt HY6.out)).trans HY6.out))
                  have l4 := oldc HBw5.out e4.out
                  have l5 := oldc HBw5.out e5.out
                  have l6 := oldc HBw5.out e6.out
                  have k1 := fun (w' : World) (h : Below w5.heap.size w5 w') => oldc h y4
                  have k2_ := fun (w' : World) (h : Below w5.heap.size w5 w') => oldc h y5
                  have k3 := fun (w' : World) (h : Below w5.heap.size w5 w') => oldc h y6
                  have k4 := fun (w' : World) (h : Below w5.heap.size w5 w') => oldc h l4
                  have k5 := fun (w' : World) (h : Below w5.heap.size w5 w') => oldc h l5
                  have k6 := fun (w' : World) (h : Below w5.heap.size w5 w') => oldc h l6
                  clear y0 y1 y2 y3 y4 y5 y6 l4 l5 l6
                  go_upto_region 15 with (fail)
                  refine hd_region 13 0 (fun w' => Below w5.heap.size w5 w') (by kernel_rfl) rfl ?_ (fun _ h => h)
                  intro W14 hb4 hz4 hHeld
                  clear hb4 hz4
                  (refine hd_take (i := 0) (oi := ?oi98) (v := ?v98) ?hi98 (by kernel_rfl) (by kernel_rfl) (by kernel_rfl) (by kernel_rfl) (by decide) ?hq98 ?hw98 ?hy98 hHeld ?hr98; (case hi98 => (simp only [List.getElem?_toArray, List.getElem?_cons_succ, List.getElem?_cons_zero]; rfl)); (case hw98 => rfl); (case hy98 => (intro w hSw; go_simp; try with_reducible rfl)); (case hq98 => exact fun _ _ _ h => h); simp only [Act.put, List.setIfInBounds_toArray, List.set_cons_zero, List.set_cons_succ])
                  (refine hd_take (i := 1) (oi := ?oi100) (v := ?v100) ?hi100 (by kernel_rfl) (by kernel_rfl) (by kernel_rfl) (by kernel_rfl) (by decide) ?hq100 ?hw100 ?hy100 hHeld ?hr100; (case hi100 => (simp only [List.getElem?_toArray, List.getElem?_cons_succ, List.getElem?_cons_zero]; rfl)); (case hw100 => rfl); (case hy100 => (intro w hSw; go_simp; try with_reducible rfl)); (case hq100 => exact fun _ _ _ h => h); simp only [Act.put, List.setIfInBounds_toArray, List.set_cons_zero, List.set_cons_succ])
                  (refine hd_take (i := 2) (oi := ?oi102) (v := ?v102) ?hi102 (by kernel_rfl) (by kernel_rfl) (by kernel_rfl) (by kernel_rfl) (by decide) ?hq102 ?hw102 ?hy102 hHeld ?hr102; (case hi102 => (simp only [List.getElem?_toArray, List.getElem?_cons_succ, List.getElem?_cons_zero]; rfl)); (case hw102 => rfl); (case hy102 => (intro w hSw; go_simp; try with_reducible rfl)); (case hq102 => exact fun _ _ _ h => h); simp only [Act.put, List.setIfInBounds_toArray, List.set_cons_zero, List.set_cons_succ])
                  (refine hd_take (i := 3) (oi := ?oi104) (v := ?v104) ?hi104 (by kernel_rfl) (by kernel_rfl) (by kernel_rfl) (by kernel_rfl) (by decide) ?hq104 ?hw104 ?hy104 hHeld ?hr104; (case hi104 => (simp only [List.getElem?_toArray, List.getElem?_cons_succ, List.getElem?_cons_zero]; rfl)); (case hw104 => rfl); (case hy104 => (intro w hSw; go_simp; try with_reducible rfl)); (case hq104 => exact fun _ _ _ h => h); simp only [Act.put, List.setIfInBounds_toArray, List.set_cons_zero, List.set_cons_succ])
                  (refine hd_take (i := 4) (oi := ?oi106) (v := ?v106) ?hi106 (by kernel_rfl) (by kernel_rfl) (by kernel_rfl) (by kernel_rfl) (by decide) ?hq106 ?hw106 ?hy106 hHeld ?hr106; (case hi106 => (simp only [List.getElem?_toArray, List.getElem?_cons_succ, List.getElem?_cons_zero]; rfl)); (case hw106 => rfl); (case hy106 => (intro w hSw; go_simp; try with_reducible rfl)); (case hq106 => exact fun _ _ _ h => h); simp only [Act.put, List.setIfInBounds_toArray, List.set_cons_zero, List.set_cons_succ])
                  (refine hd_take (i := 5) (oi := ?oi108) (v := ?v108) ?hi108 (by kernel_rfl) (by kernel_rfl) (by kernel_rfl) (by kernel_rfl) (by decide) ?hq108 ?hw108 ?hy108 hHeld ?hr108; (case hi108 => (simp only [List.getElem?_toArray, List.getElem?_cons_succ, List.getElem?_cons_zero]; rfl)); (case hw108 => rfl); (case hy108 => (intro w hSw; go_simp; try with_reducible rfl)); (case hq108 => exact fun _ _ _ h => h); simp only [Act.put, List.setIfInBounds_toArray, List.set_cons_zero, List.set_cons_succ])
                  (refine hd_take (i := 6) (oi := ?oi110) (v := ?v110) ?hi110 (by kernel_rfl) (by kernel_rfl) (by kernel_rfl) (by kernel_rfl) (by decide) ?hq110 ?hw110 ?hy110 hHeld ?hr110; (case hi110 => (simp only [List.getElem?_toArray, List.getElem?_cons_succ, List.getElem?_cons_zero]; rfl)); (case hw110 => rfl); (case hy110 => (intro w hSw; go_simp; try with_reducible rfl)); (case hq110 => exact fun _ _ _ h => h); simp only [Act.put, List.setIfInBounds_toArray, List.set_cons_zero, List.set_cons_succ])
                  (refine hd_one (i := 7) (oi := ?oi112) ?hi112 (by kernel_rfl) (by decide) ?hr112; (case hi112 => (simp only [List.getElem?_toArray, List.getElem?_cons_succ, List.getElem?_cons_zero]; rfl)); intro K hK)
                  go_simp
                  go_at_call 60
                  refine (grow_any g _ l.f2 y.f2 b2 _ _ _ _ _ _ _ _ _ W14 (Nat.le_refl _) HRXt.out.2 (by have := HSZ.out; have := H7.out; omega) (Kd.F_below HF5.out hHeld) h6 (Kd.F_below HL.out.F6 (hbT HBw5.out hHeld)) HL.out.l6 (Kd.F_below HYF.out.F6 (hbT HBW.out (hbT HB5.out hHeld))) HYF.out.l6).mono ?_
                  rintro e w15 ⟨⟨b3, A15, c15, rfl, h15, h16, h17, hF15⟩, hb15⟩
                  have HF15 := Aside0.mk hF15
                  have H15 := Aside0.mk h15
                  have H17 := Aside0.mk h17
                  clear hF15 h15 h17
                  go_simp
                  (refine hK.out _ _ ?hS114 (fun hHeld => ?hr114); (case hS114 => exact hbT hHeld hb15); clear hK K; try simp only [Act.put, List.setIfInBounds_toArray, List.set_cons_zero, List.set_cons_succ])
                  clear hb15
                  (refine hd_take (i := 8) (oi := ?oi115) (v := ?v115) ?hi115 (by kernel_rfl) (by kernel_rfl) (by kernel_rfl) (by kernel_rfl) (by decide) ?hq115 ?hw115 ?hy115 hHeld ?hr115; (case hi115 => (simp only [List.getElem?_toArray, List.getElem?_cons_succ, List.getElem?_cons_zero]; rfl)); (case hw115 => rfl); (case hy115 => (intro w hSw; go_simp; try with_reducible rfl)); (case hq115 => exact fun _ _ _ h => h); simp only [Act.put, List.setIfInBounds_toArray, List.set_cons_zero, List.set_cons_succ])
                  (refine hd_take (i := 9) (oi := ?oi117) (v := ?v117) ?hi117 (by kernel_rfl) (by kernel_rfl) (by kernel_rfl) (by kernel_rfl) (by decide) ?hq117 ?hw117 ?hy117 hHeld ?hr117; (case hi117 => (simp only [List.getElem?_toArray, List.getElem?_cons_succ, List.getElem?_cons_zero]; rfl)); (case hw117 => rfl); (case hy117 => (intro w hSw; go_simp; try with_reducible rfl)); (case hq117 => exact fun _ _ _ h => h); simp only [Act.put, List.setIfInBounds_toArray, List.set_cons_zero, List.set_cons_succ])
                  (refine hd_take (i := 10) (oi := ?oi119) (v := ?v119) ?hi119 (by kernel_rfl) (by kernel_rfl) (by kernel_rfl) (by kernel_rfl) (by decide) ?hq119 ?hw119 ?hy119 hHeld ?hr119; (case hi119 => (simp only [List.getElem?_toArray, List.getElem?_cons_succ, List.getElem?_cons_zero]; rfl)); (case hw119 => rfl); (case hy119 => (intro w hSw; go_simp; try with_reducible rfl)); (case hq119 => exact fun _ _ _ h => h); simp only [Act.put, List.setIfInBounds_toArray, List.set_cons_zero, List.set_cons_succ])
                  (refine hd_one (i := 11) (oi := ?oi121) ?hi121 (by kernel_rfl) (by decide) ?hr121; (case hi121 => (simp only [List.getElem?_toArray, List.getElem?_cons_succ, List.getElem?_cons_zero]; rfl)); intro K hK)
                  go_simp
                  (refine hK.out _ _ ?hS123 (fun hHeld => ?hr123); (case hS123 => exact hHeld); clear hK K; try simp only [Act.put, List.setIfInBounds_toArray, List.set_cons_zero, List.set_cons_succ])
                  (refine hd_one (i := 12) (oi := ?oi124) ?hi124 (by kernel_rfl) (by decide) ?hr124; (case hi124 => (simp only [List.getElem?_toArray, List.getElem?_cons_succ, List.getElem?_cons_zero]; rfl)); intro K hK)
                  go_simp
                  (refine hK.out _ _ ?hS126 (fun hHeld => ?hr126); (case hS126 => exact hHeld); clear hK K; try simp only [Act.put, List.setIfInBounds_toArray, List.set_cons_zero, List.set_cons_succ])
                  (refine hd_done (by kernel_rfl) ?_; simp only [List.drop_succ_cons, List.drop_zero])
                  have HB15 := Aside0.mk (hbT HB05.out hHeld)
                  have HBw15 := Aside0.mk (hbT HBo.out HB15.out)
                  clear hHeld k1 k2_ k3 k4 k5 k6
                  cases hgx : (growT (bds b2) l.f2 y.f2).2 with
                  | false =>
                    have HR : Aside0 (([x, turnL x].take (k2+1)).any QQ = false) := ⟨by rw [G1.out, ← HQQ.out, HQ2.out, hgx]; rfl⟩
                    clear hgx H15 H17
                    go_wp2
                    go_roundw
                    case rel => exact ⟨k2 + 1, by omega, by go_num, HR, HB15⟩
                    case measure => simp [intOf]; omega
                  | true =>
                    have HQ3 : Aside0 (covR (bds b) l (covB ls d) y = covB ls d (bds b3)) := ⟨by rw [HQ2.out, hgx, H15.out hgx]; rfl⟩
                    clear hgx
                    have HF9 := Aside0.mk (Kd.F_below HFC.out HBw15.out)
                    have C3 := Aside0.mk (IH.out d b3 Ac2 (some ad) A15 (cc - 1) cd c15 _ _ _ w15 HRT.out (by have := HSZ.out; have := H7.out; have := H17.out; omega) HF15.out h16 HF9.out (by omega) (Kd.F_below HFD.out HBw15.out))
                    generalize covB ls d (bds b3) = r3 at *
                    go_wp2_with (fail)
                    refine C3.out.mono ?_
                    rintro e w20 ⟨rfl, hb20⟩
                    have HB20 := Aside0.mk hb20
                    clear hb20 C3
                    cases r3 with
                    | true =>
                      have HR : Aside0 (covB (l :: ls) d (bds b) = true) := ⟨by rw [HE.out]; exact H2.out (G2.out (by rw [← HQQ.out]; exact HQ3.out))⟩
                      go_wp2
                      go_ret
                      exact ⟨ret_bool HR.out.symm, hbT HBw15.out HB20.out⟩
                    | false =>
                      have HR : Aside0 (([x, turnL x].take (k2+1)).any QQ = false) := ⟨by rw [G1.out, ← HQQ.out, HQ3.out]⟩
                      go_wp2
                      go_roundw
                      case rel => exact ⟨k2 + 1, by omega, by go_num, HR, ⟨hbT HB15.out HB20.out⟩⟩
                      case measure => simp [intOf]; omega
          · obtain rfl : k2 = 2 := by omega
            have HR : Aside0 ((d.take (k+1)).any (fun x => [x, turnL x].any QQ) = false) := ⟨by rw [H1.out]; have := HA2.out; rwa [show ([x, turnL x].take 2) = [x, turnL x] from rfl] at this⟩
            go_wp2
            go_roundw
            case rel => exact ⟨k + 1, by omega, by go_num, HR, HBwr⟩
            case measure => simp [intOf]; omega
      · obtain rfl : k = d.length := by omega
        have HR : Aside0 (covB (l :: ls) d (bds b) = false) := ⟨by rw [HE.out]; exact any_none HA.out⟩
        go_wp2
        go_ret
        exact ⟨ret_bool HR.out.symm, HBo.out⟩
end Go.Proofs.Ytcgnpmjkeifokaa
-- K51
/- superposeref.ApplyOf. -/
namespace Go.Proofs.Ytcgnpmjkeifokaa
open Go.RowKit Go.Proofs.YtcgnpmjkeifokaaW.PrintWords
set_option linter.unusedVariables false
set_option linter.unusedSimpArgs false

mutual
def appT (m : List (Int × Tm)) : Tm → Tm
  | ⟨v, f, l⟩ => if 0 < v then (mget m v).getD ⟨v, f, l⟩ else ⟨0, f, appL m l⟩
def appL (m : List (Int × Tm)) : List Tm → List Tm
  | [] => []
  | t :: ts => appT m t :: appL m ts
end
theorem appT_eq (m : List (Int × Tm)) (t : Tm) : appT m t = if 0 < t.f0 then (mget m t.f0).getD t else ⟨0, t.f1, appL m t.f2⟩ := by cases t; rw [appT]
theorem appL_len (m : List (Int × Tm)) (l : List Tm) : (appL m l).length = l.length := by
  induction l with
  | nil => simp [appL]
  | cons t ts ih => simp [appL, ih]
theorem appL_append (m : List (Int × Tm)) (a b : List Tm) : appL m (a ++ b) = appL m a ++ appL m b := by
  induction a with
  | nil => simp [appL]
  | cons t ts ih => simp [appL, ih]
theorem appL_take_succ (m : List (Int × Tm)) (l : List Tm) (i : Nat) (h : i < l.length) : appL m (l.take (i+1)) = appL m (l.take i) ++ [appT m (rd_Tm l i)] := by
  rw [List.take_succ_eq_append_getElem h, appL_append, rd_get l i h]; simp [appL]

set_option maxHeartbeats 4000000 in
set_option maxRecDepth 100000 in
theorem applyOf_any (n : Nat) : ∀ (t : Tm) (b : List Bd) (A Ab : Option Addr) (c cb : Nat) (ok : Nat → Prop) (w : World), szT t ≤ n → szT t * 40 ≤ 140737488355328 → Kd.F kBd w ok Ab b.length b → Kd.F kTm w ok A t.f2.length t.f2 → t.f2.length ≤ c →
    Calls Try.prog 73 #[.slice Ab b.length cb, .agg #[.int .i64 t.f0, .int .i64 t.f1, .slice A t.f2.length c]] w fun e w' => ∃ A' c', e = .returned (.agg #[.int .i64 (appT (bds b) t).f0, .int .i64 (appT (bds b) t).f1, .slice A' (appT (bds b) t).f2.length c']) ∧ (appT (bds b) t).f2.length ≤ c' ∧ Kd.F kTm w' (fun k => ok k ∨ w.heap.size ≤ k) A' (appT (bds b) t).f2.length (appT (bds b) t).f2 ∧ Below w.heap.size w w' := by
  induction n with
  | zero => intro t b A Ab c cb ok w h; have := szT_pos t; omega
  | succ n ih =>
  intro t b A Ab c cb ok w hm hbd hFb hF hc
  have hlen := Kd.F_max hF
  have hlenb := Kd.F_max hFb
  have HF := Aside0.mk (Kd.F_bound hF)
  have HFB := Aside0.mk (Kd.F_bound hFb)
  have IH := Aside0.mk ih
  have HM := Aside0.mk hm
  have HBD := Aside0.mk hbd
  have HS := Aside0.mk (szT_eq t)
  have HSL := Aside0.mk (szL_len t.f2)
  have HE := Aside0.mk (appT_eq (bds b) t)
  clear hF hFb ih hm hbd
  have a0 := blk_alloc (newAt (w := w) (o := .cells #[.int .i64 t.f0, .int .i64 t.f1, .slice A t.f2.length c] 46) rfl) (.cells #[.int .i64 0, .int .i64 0, .slice none 0 0] 46)
  have a1 := newAt (w := w.alloc (.cells #[.int .i64 t.f0, .int .i64 t.f1, .slice A t.f2.length c] 46)) (o := .cells #[.int .i64 0, .int .i64 0, .slice none 0 0] 46) (k := w.heap.size + 1) (by simp)
  have HB := Aside0.mk (below_alloc (below_alloc (Below.refl w.heap.size w) (.cells #[.int .i64 t.f0, .int .i64 t.f1, .slice A t.f2.length c] 46)) (.cells #[.int .i64 0, .int .i64 0, .slice none 0 0] 46))
  have hWz : ((w.alloc (.cells #[.int .i64 t.f0, .int .i64 t.f1, .slice A t.f2.length c] 46)).alloc (.cells #[.int .i64 0, .int .i64 0, .slice none 0 0] 46)).heap.size = w.heap.size + 2 := by simp
  go_enter Try.func73, Try.ntmps73
  go_upto_region 1 with (fail)
  generalize (w.alloc (.cells #[.int .i64 t.f0, .int .i64 t.f1, .slice A t.f2.length c] 46)).alloc (.cells #[.int .i64 0, .int .i64 0, .slice none 0 0] 46) = W at *
  have G0 := Aside0.mk a0
  have G1 := Aside0.mk a1
  have hl1 := blk_lt a1
  clear a0 a1
  obtain ⟨c0, c1, c2⟩ := tm_cells G0.out
  have HFW := Aside0.mk (Kd.F_below HF.out HB.out)
  have HFWb := Aside0.mk (Kd.F_below HFB.out HB.out)
  by_cases hv : 0 < t.f0
  · have HZ := Aside0.mk hWz
    clear hWz hl1
    go_upto_region 3 with (go_at_call 103; refine (boundTo_any b t.f0 Ab cb _ W HFWb.out).mono ?_; rintro e w2 ⟨r, rfl, hr, hb2⟩; have HB2 := Aside0.mk hb2; clear hb2)
    have HB02 := Aside0.mk (hbT HB.out HB2.out)
    obtain ⟨q0, q1, q2⟩ := tm_cells ((HB2.out.block _ (blk_lt G0.out)).trans G0.out)
    have GR := Aside0.mk ((HB2.out.block _ (blk_lt G1.out)).trans G1.out)
    clear c0 c1 c2
    rcases hr with ⟨rfl, hnone⟩ | ⟨k, rfl, hk, hsome⟩
    · have HR : Aside0 (appT (bds b) t = t) := ⟨by rw [HE.out, if_pos hv, hnone]; rfl⟩
      clear hnone
      go_wp2_with (((with_reducible refine gate_store (t := 46) (p := 4) rfl ?_); refine st_tm 4 rfl rfl rfl rfl rfl GR.out ?_); intro w7 hs7 hG7 hz7; have HS7 := Aside0.mk hs7; have HG7 := Aside0.mk hG7; clear hs7 hG7 q0 q1 q2)
      ((try simp only [Exit.inBlock, Exit.then]); refine bodyPost_ret (results_cell_row rfl _ _ _ 46 _ (0, 0) _ rfl HS7.out Try.underlying46 rfl (by kernel_rfl)) rfl ?_)
      refine ⟨A, c, by rw [HR.out], by rw [HR.out]; exact hc, ?_, gbS HB02.out HG7.out (by omega)⟩
      rw [HR.out]
      exact Kd.F_mono (Kd.F_grown (Kd.F_below HFW.out HB2.out) HG7.out (fun k' hk' => by intro e; injection e with e; have := hk'.2; omega)) (fun k' hk' => .inl hk'.1)
    · obtain ⟨ad, A3, c3, rfl, E0, E1, E2, E3, h3, hF3, _⟩ := at_Bdd (Kd.F_below HFWb.out HB2.out) k hk
      have HR : Aside0 (appT (bds b) t = (rd_Bd b k).f1) := ⟨by rw [HE.out, if_pos hv, hsome]; rfl⟩
      have HF3 := Aside0.mk hF3
      have hki : (k : Int) < b.length := by omega
      have hk0 : (0 : Int) ≤ k := by omega
      clear hsome hF3
      generalize rd_Bd b k = u at *
      go_wp2_with (((with_reducible refine gate_store (t := 46) (p := 4) rfl ?_); refine st_tm 4 rfl rfl rfl rfl rfl GR.out ?_); intro w7 hs7 hG7 hz7; have HS7 := Aside0.mk hs7; have HG7 := Aside0.mk hG7; clear hs7 hG7 q0 q1 q2 E0 E1 E2 E3)
      ((try simp only [Exit.inBlock, Exit.then]); refine bodyPost_ret (results_cell_row rfl _ _ _ 46 _ (0, 0) _ rfl HS7.out Try.underlying46 rfl (by kernel_rfl)) rfl ?_)
      refine ⟨A3, c3, by rw [HR.out], by rw [HR.out]; exact h3, ?_, gbS HB02.out HG7.out (by omega)⟩
      rw [HR.out]
      exact Kd.F_mono (Kd.F_grown HF3.out HG7.out (fun k' hk' => by intro e; injection e with e; have := hk'.2; omega)) (fun k' hk' => .inl hk'.1)
  · have HR : Aside0 (appT (bds b) t = ⟨0, t.f1, appL (bds b) t.f2⟩) := ⟨by rw [HE.out, if_neg hv]⟩
    clear HE
    go_upto_region 7 with (((with_reducible refine gate_store (t := 46) (p := 6) rfl ?_); refine st_tm 6 rfl rfl rfl rfl rfl (newAt hWz.symm) ?_); intro w2 hs2 hG2 hz2; have HS2 := Aside0.mk hs2; have HG2 := Aside0.mk hG2; clear hs2 hG2 c0 c1 c2)
    have HB2 := Aside0.mk (gbS (below_alloc (Below.refl W.heap.size W) _) HG2.out (by omega))
    have HB02 := Aside0.mk (hbT HB.out HB2.out)
    have HT2 := Aside0.mk ((HB2.out.block _ (blk_lt G0.out)).trans G0.out)
    have HR2 := Aside0.mk ((HB2.out.block _ (blk_lt G1.out)).trans G1.out)
    have t2 := (tm_cells HT2.out).2.2
    clear hz2 hWz
    go_wp2
    clear t2
    go_loopw [7] (fun i wr => ∃ (k : Nat) (Av : Option Addr) (cv : Nat), k ≤ t.f2.length ∧ i = .int .i64 k ∧ Aside0 (Kd.N kTm 46 wr (w.heap.size + 3) (fun k => (ok k ∧ k < w.heap.size) ∨ w.heap.size + 3 ≤ k) (.slice Av (appL (bds b) (t.f2.take k)).length cv) (appL (bds b) (t.f2.take k))) ∧ Aside0 (Below w.heap.size w wr) ∧ Aside0 (wr.heap[w.heap.size]? = some (.cells #[.int .i64 t.f0, .int .i64 t.f1, .slice A t.f2.length c] 46 (0, 0))) ∧ Aside0 (wr.heap[w.heap.size + 1]? = some (.cells #[.int .i64 0, .int .i64 0, .slice none 0 0] 46 (0, 0))) ∧ Aside0 (wr.heap[w.heap.size + 2]? = some (.cells #[.int .i64 0, .int .i64 t.f1, .slice Av (appL (bds b) (t.f2.take k)).length cv] 46 (0, 0)))) (fun i _ => t.f2.length - (intOf i).toNat)
    case atStart => exact ⟨0, none, 0, by omega, rfl, ⟨by simpa [appL] using Kd.N_nil kTm _ _ _ _⟩, HB02, HT2, HR2, ⟨by simpa [appL] using HS2.out⟩⟩
    case round =>
      obtain ⟨k, Av, cv, hk, rfl, HNk, HBr, HTr, HRr2, HOr⟩ := hrel
      have hl4 := blk_lt HOr.out
      have q2 := (tm_cells HOr.out).2.2
      have t2 := (tm_cells HTr.out).2.2
      by_cases hlt : k < t.f2.length
      · obtain ⟨ad, A2, c2, rfl, E0, E1, E2, hl2, hF2, hok2⟩ := at_TmF (Kd.F_below HF.out HBr.out) (k : Int) (by omega) (by omega)
        simp only [Int.toNat_natCast] at E0 E1 E2
        have hadb := hok2.2
        have HX := Aside0.mk (appL_take_succ (bds b) t.f2 k hlt)
        have HXl : Aside0 ((appL (bds b) (t.f2.take k)).length ≤ t.f2.length) := ⟨by rw [appL_len, List.length_take]; omega⟩
        have HTm := Aside0.mk (szT_mem (rd_mem t.f2 k hlt))
        have HF2 := Aside0.mk hF2
        have hki : (k : Int) < t.f2.length := by omega
        clear hF2 hok2
        generalize rd_Tm t.f2 k = x at *
        generalize appL (bds b) (t.f2.take k) = ys at *
        have HNB : Aside0 (∀ b, b < w.heap.size + 3 → some b ≠ (Value.slice Av ys.length cv).ownBlock) := ⟨fun b hb e => by have := Kd.N_base HNk.out b e.symm; omega⟩
        have HNL := Aside0.mk (Kd.N_lt HNk.out)
        have k1 := fun (w' : World) (h : wr.grownBy w' (Value.slice Av ys.length cv).ownBlock) => oldg h q2 (HNB.out (w.heap.size + 2) (by omega))
        have k2 := fun (w' : World) (h : wr.grownBy w' (Value.slice Av ys.length cv).ownBlock) => oldg h t2 (HNB.out w.heap.size (by omega))
        have k4 := fun (w' : World) (h : wr.grownBy w' (Value.slice Av ys.length cv).ownBlock) => oldg h E0 (HNB.out (ad.add (k * 3)).block (by rw [addB]; omega))
        have k5 := fun (w' : World) (h : wr.grownBy w' (Value.slice Av ys.length cv).ownBlock) => oldg h E1 (HNB.out (ad.add (k * 3)).block (by rw [addB]; omega))
        have k6 := fun (w' : World) (h : wr.grownBy w' (Value.slice Av ys.length cv).ownBlock) => oldg h E2 (HNB.out (ad.add (k * 3)).block (by rw [addB]; omega))
        go_upto_region 10 with (fail)
        clear t2 q2 E0 E1 E2
        refine hd_region 11 2 (fun w' => wr.grownBy w' (Value.slice Av ys.length cv).ownBlock) (by kernel_rfl) rfl ?_ (fun _ h => grown_of_below h _)
        intro W3 hb3 hz3 hHeld
        have HB3 := Aside0.mk hb3
        clear hb3
        (refine hd_take (i := 0) (oi := ?oi6) (v := ?v6) ?hi6 (by kernel_rfl) (by kernel_rfl) (by kernel_rfl) (by kernel_rfl) (by decide) ?hq6 ?hw6 ?hy6 hHeld ?hr6; (case hi6 => (simp only [List.getElem?_toArray, List.getElem?_cons_succ, List.getElem?_cons_zero]; rfl)); (case hw6 => rfl); (case hy6 => (intro w hSw; go_simp; try with_reducible rfl)); (case hq6 => exact fun _ _ _ h => h); simp only [Act.put, List.setIfInBounds_toArray, List.set_cons_zero, List.set_cons_succ])
        (refine hd_take (i := 1) (oi := ?oi8) (v := ?v8) ?hi8 (by kernel_rfl) (by kernel_rfl) (by kernel_rfl) (by kernel_rfl) (by decide) ?hq8 ?hw8 ?hy8 hHeld ?hr8; (case hi8 => (simp only [List.getElem?_toArray, List.getElem?_cons_succ, List.getElem?_cons_zero]; rfl)); (case hw8 => rfl); (case hy8 => (intro w hSw; go_simp; try with_reducible rfl)); (case hq8 => exact fun _ _ _ h => h); simp only [Act.put, List.setIfInBounds_toArray, List.set_cons_zero, List.set_cons_succ])
        (refine hd_take (i := 2) (oi := ?oi10) (v := ?v10) ?hi10 (by kernel_rfl) (by kernel_rfl) (by kernel_rfl) (by kernel_rfl) (by decide) ?hq10 ?hw10 ?hy10 hHeld ?hr10; (case hi10 => (simp only [List.getElem?_toArray, List.getElem?_cons_succ, List.getElem?_cons_zero]; rfl)); (case hw10 => rfl); (case hy10 => (intro w hSw; go_simp; try with_reducible rfl)); (case hq10 => exact fun _ _ _ h => h); simp only [Act.put, List.setIfInBounds_toArray, List.set_cons_zero, List.set_cons_succ])
        (refine hd_take (i := 3) (oi := ?oi12) (v := ?v12) ?hi12 (by kernel_rfl) (by kernel_rfl) (by kernel_rfl) (by kernel_rfl) (by decide) ?hq12 ?hw12 ?hy12 hHeld ?hr12; (case hi12 => (simp only [List.getElem?_toArray, List.getElem?_cons_succ, List.getElem?_cons_zero]; rfl)); (case hw12 => rfl); (case hy12 => (intro w hSw; go_simp; try with_reducible rfl)); (case hq12 => exact fun _ _ _ h => h); simp only [Act.put, List.setIfInBounds_toArray, List.set_cons_zero, List.set_cons_succ])
        (refine hd_take (i := 4) (oi := ?oi14) (v := ?v14) ?hi14 (by kernel_rfl) (by kernel_rfl) (by kernel_rfl) (by kernel_rfl) (by decide) ?hq14 ?hw14 ?hy14 hHeld ?hr14; (case hi14 => (simp only [List.getElem?_toArray, List.getElem?_cons_succ, List.getElem?_cons_zero]; rfl)); (case hw14 => rfl); (case hy14 => (intro w hSw; go_simp; try with_reducible rfl)); (case hq14 => exact fun _ _ _ h => h); simp only [Act.put, List.setIfInBounds_toArray, List.set_cons_zero, List.set_cons_succ])
        (refine hd_take (i := 5) (oi := ?oi16) (v := ?v16) ?hi16 (by kernel_rfl) (by kernel_rfl) (by kernel_rfl) (by kernel_rfl) (by decide) ?hq16 ?hw16 ?hy16 hHeld ?hr16; (case hi16 => (simp only [List.getElem?_toArray, List.getElem?_cons_succ, List.getElem?_cons_zero]; rfl)); (case hw16 => rfl); (case hy16 => (intro w hSw; go_simp; try with_reducible rfl)); (case hq16 => exact fun _ _ _ h => h); simp only [Act.put, List.setIfInBounds_toArray, List.set_cons_zero, List.set_cons_succ])
        (refine hd_take (i := 6) (oi := ?oi18) (v := ?v18) ?hi18 (by kernel_rfl) (by kernel_rfl) (by kernel_rfl) (by kernel_rfl) (by decide) ?hq18 ?hw18 ?hy18 hHeld ?hr18; (case hi18 => (simp only [List.getElem?_toArray, List.getElem?_cons_succ, List.getElem?_cons_zero]; rfl)); (case hw18 => rfl); (case hy18 => (intro w hSw; go_simp; try with_reducible rfl)); (case hq18 => exact fun _ _ _ h => h); simp only [Act.put, List.setIfInBounds_toArray, List.set_cons_zero, List.set_cons_succ])
        (refine hd_take (i := 7) (oi := ?oi20) (v := ?v20) ?hi20 (by kernel_rfl) (by kernel_rfl) (by kernel_rfl) (by kernel_rfl) (by decide) ?hq20 ?hw20 ?hy20 hHeld ?hr20; (case hi20 => (simp only [List.getElem?_toArray, List.getElem?_cons_succ, List.getElem?_cons_zero]; rfl)); (case hw20 => rfl); (case hy20 => (intro w hSw; go_simp; try with_reducible rfl)); (case hq20 => exact fun _ _ _ h => h); simp only [Act.put, List.setIfInBounds_toArray, List.set_cons_zero, List.set_cons_succ])
        (refine hd_one (i := 8) (oi := ?oi22) ?hi22 (by kernel_rfl) (by decide) ?hr22; (case hi22 => (simp only [List.getElem?_toArray, List.getElem?_cons_succ, List.getElem?_cons_zero]; rfl)); intro K hK)
        go_simp
        have hIH := IH.out x b A2 Ab c2 cb (fun k => ok k ∧ k < w.heap.size) W3 (by have := HM.out; have := HS.out; have := HTm.out; omega) (by have := HBD.out; have := HS.out; have := HTm.out; omega) (Kd.F_below (Kd.F_below HFB.out HBr.out) HB3.out) (Kd.F_below HF2.out HB3.out) hl2
        go_at_call 73
        refine hIH.mono ?_
        clear hIH
        rintro e w5 ⟨A5, c5, rfl, h5, hF5, hb5⟩
        have HF5 := Aside0.mk hF5
        have hz5 := hb5.size
        have HH5 := Aside0.mk (gbT hHeld (gbOf hb5 _) (.inl rfl))
        have HN5 := Aside0.mk (Kd.N_below (Kd.N_below HNk.out HB3.out) hb5)
        clear hF5
        go_simp
        (refine hK.out _ _ ?hS24 (fun hHeld => ?hr24); (case hS24 => exact HH5.out); clear hK K; try simp only [Act.put, List.setIfInBounds_toArray, List.set_cons_zero, List.set_cons_succ])
        clear hb5
        (refine hd_one (i := 9) (oi := ?oi25) ?hi25 (by kernel_rfl) (by decide) ?hr25; (case hi25 => (simp only [List.getElem?_toArray, List.getElem?_cons_succ, List.getElem?_cons_zero]; rfl)); intro K hK)
        go_simp
        (refine hK.out _ _ ?hS27 (fun hHeld => ?hr27); (case hS27 => exact gbT HH5.out (gbOf (below_alloc (Below.refl _ _) _) _) (.inl rfl)); clear hK K; try simp only [Act.put, List.setIfInBounds_toArray, List.set_cons_zero, List.set_cons_succ])
        (refine hd_one (i := 10) (oi := ?oi28) ?hi28 (by kernel_rfl) (by decide) ?hr28; (case hi28 => (simp only [List.getElem?_toArray, List.getElem?_cons_succ, List.getElem?_cons_zero]; rfl)); intro K hK)
        refine Kd.N_append_step kTm (w0 := w5) (w.heap.size + 3) rfl _ _ 44 46 _ 40 rfl Try.underlying44 infoTm rfl (by decide) (by decide) (.slice Av ys.length cv) ys (appT (bds b) x) _ (fun k => (ok k ∧ k < w.heap.size) ∨ w.heap.size + 3 ≤ k) (fun k => (ok k ∧ k < w.heap.size) ∨ W3.heap.size ≤ k) rfl rfl (kTm_mkF w5 _ _ h5 HF5.out) ?_ (fun k hk => .inr (by omega)) HN5.out (Below.refl _ _) (by omega) ?_ ?_
        · intro k' hk'
          have hb9 := HNL.out
          refine ⟨?_, fun e => ?_⟩
          · rcases hk' with hk' | hk'
            · exact .inl hk'
            · exact .inr (by omega)
          · rcases hk' with hk' | hk'
            · exact HNB.out k' (by omega) e
            · have := hb9 k' e.symm; omega
        · have h1 := HS.out; have h2 := HBD.out; have h3 := HSL.out; have h4 := HXl.out; omega
        intro v1 w6 hN1 hB1 hG1 hI1
        obtain ⟨A1, c1, rfl⟩ := Kd.N_slice hN1
        have HN1 := Aside0.mk hN1
        clear hN1 hB1 hI1
        (refine hK.out _ _ ?hS30 (fun hHeld => ?hr30); (case hS30 => exact gbT HH5.out hG1 (.inl rfl)); clear hK K; try simp only [Act.put, List.setIfInBounds_toArray, List.set_cons_zero, List.set_cons_succ])
        (refine hd_done (by kernel_rfl) ?_; simp only [List.drop_succ_cons, List.drop_zero])
        have HO6 := Aside0.mk ((hHeld.block _ hl4 (HNB.out _ (by omega))).trans HOr.out)
        have HH6 := Aside0.mk hHeld
        have hz6 := hHeld.size
        clear hHeld
        go_wp2_with (first | (((with_reducible refine gate_store (t := 44) (p := 44) rfl ?_); refine st_args 44 rfl rfl rfl rfl rfl HO6.out ?_); intro w7 hs7 hG7 hz7; have HS7 := Aside0.mk hs7; have HG7 := Aside0.mk hG7; clear hs7 hG7))
        go_roundw
        case rel =>
          refine ⟨k + 1, A1, c1, by omega, by go_num, ?_, ⟨gbS (gbU HBr.out HH6.out (fun b hb => HNB.out b (by omega))) HG7.out (by omega)⟩, ⟨(HG7.out.block _ (by omega) (by intro e; injection e with e; omega)).trans ((HH6.out.block _ (by omega) (HNB.out _ (by omega))).trans HTr.out)⟩, ⟨(HG7.out.block _ (by omega) (by intro e; injection e with e; omega)).trans ((HH6.out.block _ (by omega) (HNB.out _ (by omega))).trans HRr2.out)⟩, ?_⟩
          · rw [HX.out]
            exact ⟨Kd.N_grown HN1.out HG7.out (fun k' hk' => by intro e; injection e with e; rcases hk' with hk' | hk'; exact absurd hk'.2 (by omega); omega)⟩
          · rw [HX.out]
            exact ⟨HS7.out⟩
        case measure => simp [intOf]; omega
      · obtain rfl : k = t.f2.length := by omega
        rw [List.take_length] at HNk HOr
        obtain ⟨q0, q1, q2⟩ := tm_cells HOr.out
        have hcap := (Kd.N_reads' HNk.out).2.1
        have HNk := Aside0.mk HNk.out
        try simp only [List.take_length]
        go_wp2_with (((with_reducible refine gate_store (t := 46) (p := 4) rfl ?_); refine st_tm 4 rfl rfl rfl rfl rfl HRr2.out ?_); intro w7 hs7 hG7 hz7; have HS7 := Aside0.mk hs7; have HG7 := Aside0.mk hG7; clear hs7 hG7 q0 q1 q2)
        ((try simp only [Exit.inBlock, Exit.then]); refine bodyPost_ret (results_cell_row rfl _ _ _ 46 _ (0, 0) _ rfl HS7.out Try.underlying46 rfl (by kernel_rfl)) rfl ?_)
        refine ⟨Av, cv, by rw [HR.out], by rw [HR.out]; exact hcap, ?_, gbS HBr.out HG7.out (by omega)⟩
        rw [HR.out]
        exact Kd.F_mono (Kd.F_grown (Kd.N_F HNk.out) HG7.out (fun k' hk' => by intro e; injection e with e; rcases hk' with hk' | hk'; exact absurd hk'.2 (by omega); omega)) (fun k' hk' => by
          rcases hk' with hk' | hk'
          · exact .inl hk'.1
          · exact .inr (by omega))
end Go.Proofs.Ytcgnpmjkeifokaa
-- K52
/- superposeref.ApplyClause. -/
namespace Go.Proofs.Ytcgnpmjkeifokaa
open Go.RowKit Go.Proofs.YtcgnpmjkeifokaaW.PrintWords
set_option linter.unusedVariables false
set_option linter.unusedSimpArgs false

def appC (m : List (Int × Tm)) (c : List Li) : List Li := c.map fun l => ⟨l.f0, appT m l.f1, appT m l.f2⟩
theorem appC_take (m : List (Int × Tm)) (c : List Li) (k : Nat) (hk : k < c.length) : appC m (c.take (k+1)) = appC m (c.take k) ++ [⟨(rd_Li c k).f0, appT m (rd_Li c k).f1, appT m (rd_Li c k).f2⟩] := by
  rw [List.take_succ_eq_append_getElem hk, rdLi_get c k hk]; unfold appC; rw [List.map_append]; rfl
theorem appC_len (m : List (Int × Tm)) (c : List Li) : (appC m c).length = c.length := by unfold appC; simp
theorem tms_sz {c : List Li} {l : Li} (h : l ∈ c) : szT l.f1 + szT l.f2 ≤ szL (tmsL c) := by
  induction c with
  | nil => cases h
  | cons x xs ih =>
    simp only [tmsL, szL]
    cases h with
    | head => omega
    | tail _ h => have := ih h; omega

set_option maxHeartbeats 4000000 in
set_option maxRecDepth 100000 in
theorem applyClause_any (c : List Li) (b : List Bd) (Ac Ab : Option Addr) (cc cb : Nat) (ok : Nat → Prop) (w : World) (hbd : szL (tmsL c) * 40 ≤ 140737488355328) (hcl : c.length ≤ 1000000) (hFb : Kd.F kBd w ok Ab b.length b) (hC : Kd.F kLi w ok Ac c.length c) :
    Calls Try.prog 58 #[.slice Ab b.length cb, .slice Ac c.length cc] w fun e w' => ∃ A' c', e = .returned (.slice A' (appC (bds b) c).length c') ∧ (appC (bds b) c).length ≤ c' ∧ Kd.F kLi w' (fun k => ok k ∨ w.heap.size ≤ k) A' (appC (bds b) c).length (appC (bds b) c) ∧ Below w.heap.size w w' := by
  have hlen := Kd.F_max hC
  have HC := Aside0.mk (Kd.F_bound hC)
  have HFB := Aside0.mk (Kd.F_bound hFb)
  have HBD := Aside0.mk hbd
  have HCL := Aside0.mk hcl
  clear hC hFb hbd hcl
  go_enter Try.func58, Try.ntmps58
  go_wp2
  go_loopw [5, 6] (fun v0 i wr => ∃ (k : Nat) (vk : Value), k ≤ c.length ∧ i = .int .i64 k ∧ vk = v0 ∧ Aside0 (Kd.N kLi 84 wr w.heap.size (fun k => (ok k ∧ k < w.heap.size) ∨ w.heap.size ≤ k) vk (appC (bds b) (c.take k))) ∧ Aside0 (Below w.heap.size w wr)) (fun _ i _ => c.length - (intOf i).toNat)
  case atStart => exact ⟨0, _, by omega, rfl, rfl, ⟨Kd.N_nil _ _ _ _ _⟩, ⟨Below.refl _ _⟩⟩
  case round =>
    rename World => wo
    obtain ⟨k, vk, hk, rfl, rfl, HN, HB⟩ := hrel
    have hzr := HB.out.size
    by_cases hlt : k < c.length
    · obtain ⟨ad, A3, c3, A6, c6, rfl, E0, E1, E2, E3, E4, E5, E6, hL, hok0⟩ := at_Lit (Kd.F_below HC.out HB.out) k hlt
      have HL := Aside0.mk hL
      have HTK := Aside0.mk (appC_take (bds b) c k hlt)
      have HTL : Aside0 ((appC (bds b) (c.take k)).length ≤ c.length) := ⟨by rw [appC_len, List.length_take]; omega⟩
      have HSZ := Aside0.mk (tms_sz (rdLi_mem c k hlt))
      have HNL := Aside0.mk (Kd.N_lt HN.out)
      have HNB := Aside0.mk (Kd.N_base HN.out)
      have hki : (k : Int) < c.length := by omega
      have HZR := Aside0.mk hzr
      clear hL hzr
      generalize rd_Li c k = l at *
      generalize hs : appC (bds b) (c.take k) = s at *
      obtain ⟨Av, cv, rfl⟩ := Kd.N_slice HN.out
      have HNE : ∀ j, j < w.heap.size → some j ≠ (Value.slice Av s.length cv).ownBlock := fun j hj e => by have := HNB.out j e.symm; omega
      have hok : (ad.add (k * 7)).block < w.heap.size := by rw [addB]; exact hok0.2
      have k0 := fun (w' : World) (h : wo.grownBy w' (Value.slice Av s.length cv).ownBlock) => oldg h E0 (HNE _ hok)
      have k1 := fun (w' : World) (h : wo.grownBy w' (Value.slice Av s.length cv).ownBlock) => oldg h E1 (HNE _ hok)
      have k2 := fun (w' : World) (h : wo.grownBy w' (Value.slice Av s.length cv).ownBlock) => oldg h E2 (HNE _ hok)
      have k3 := fun (w' : World) (h : wo.grownBy w' (Value.slice Av s.length cv).ownBlock) => oldg h E3 (HNE _ hok)
      have k4 := fun (w' : World) (h : wo.grownBy w' (Value.slice Av s.length cv).ownBlock) => oldg h E4 (HNE _ hok)
      have k5 := fun (w' : World) (h : wo.grownBy w' (Value.slice Av s.length cv).ownBlock) => oldg h E5 (HNE _ hok)
      have k6 := fun (w' : World) (h : wo.grownBy w' (Value.slice Av s.length cv).ownBlock) => oldg h E6 (HNE _ hok)
      clear E0 E1 E2 E3 E4 E5 E6 hok
      go_upto_region 5 with (fail)
      refine hd_region 23 1 (fun w' => wo.grownBy w' (Value.slice Av s.length cv).ownBlock) (by kernel_rfl) rfl ?_ (fun _ h => grown_of_below h _)
      intro W3 hb3 hz3 hHeld
      have HB3 := Aside0.mk hb3
      clear hb3 hz3
      have HL3 := Aside0.mk (HL.out.below HB3.out)
      (refine hd_take (i := 0) (oi := ?oi1) (v := ?v1) ?hi1 (by kernel_rfl) (by kernel_rfl) (by kernel_rfl) (by kernel_rfl) (by decide) ?hq1 ?hw1 ?hy1 hHeld ?hr1; (case hi1 => (simp only [List.getElem?_toArray, List.getElem?_cons_succ, List.getElem?_cons_zero]; rfl)); (case hw1 => rfl); (case hy1 => (intro w hSw; go_simp; try with_reducible rfl)); (case hq1 => exact fun _ _ _ h => h); simp only [Act.put, List.setIfInBounds_toArray, List.set_cons_zero, List.set_cons_succ])
      (refine hd_take (i := 1) (oi := ?oi3) (v := ?v3) ?hi3 (by kernel_rfl) (by kernel_rfl) (by kernel_rfl) (by kernel_rfl) (by decide) ?hq3 ?hw3 ?hy3 hHeld ?hr3; (case hi3 => (simp only [List.getElem?_toArray, List.getElem?_cons_succ, List.getElem?_cons_zero]; rfl)); (case hw3 => rfl); (case hy3 => (intro w hSw; go_simp; try with_reducible rfl)); (case hq3 => exact fun _ _ _ h => h); simp only [Act.put, List.setIfInBounds_toArray, List.set_cons_zero, List.set_cons_succ])
      (refine hd_take (i := 2) (oi := ?oi5) (v := ?v5) ?hi5 (by kernel_rfl) (by kernel_rfl) (by kernel_rfl) (by kernel_rfl) (by decide) ?hq5 ?hw5 ?hy5 hHeld ?hr5; (case hi5 => (simp only [List.getElem?_toArray, List.getElem?_cons_succ, List.getElem?_cons_zero]; rfl)); (case hw5 => rfl); (case hy5 => (intro w hSw; go_simp; try with_reducible rfl)); (case hq5 => exact fun _ _ _ h => h); simp only [Act.put, List.setIfInBounds_toArray, List.set_cons_zero, List.set_cons_succ])
      (refine hd_take (i := 3) (oi := ?oi7) (v := ?v7) ?hi7 (by kernel_rfl) (by kernel_rfl) (by kernel_rfl) (by kernel_rfl) (by decide) ?hq7 ?hw7 ?hy7 hHeld ?hr7; (case hi7 => (simp only [List.getElem?_toArray, List.getElem?_cons_succ, List.getElem?_cons_zero]; rfl)); (case hw7 => rfl); (case hy7 => (intro w hSw; go_simp; try with_reducible rfl)); (case hq7 => exact fun _ _ _ h => h); simp only [Act.put, List.setIfInBounds_toArray, List.set_cons_zero, List.set_cons_succ])
      (refine hd_take (i := 4) (oi := ?oi9) (v := ?v9) ?hi9 (by kernel_rfl) (by kernel_rfl) (by kernel_rfl) (by kernel_rfl) (by decide) ?hq9 ?hw9 ?hy9 hHeld ?hr9; (case hi9 => (simp only [List.getElem?_toArray, List.getElem?_cons_succ, List.getElem?_cons_zero]; rfl)); (case hw9 => rfl); (case hy9 => (intro w hSw; go_simp; try with_reducible rfl)); (case hq9 => exact fun _ _ _ h => h); simp only [Act.put, List.setIfInBounds_toArray, List.set_cons_zero, List.set_cons_succ])
      (refine hd_take (i := 5) (oi := ?oi11) (v := ?v11) ?hi11 (by kernel_rfl) (by kernel_rfl) (by kernel_rfl) (by kernel_rfl) (by decide) ?hq11 ?hw11 ?hy11 hHeld ?hr11; (case hi11 => (simp only [List.getElem?_toArray, List.getElem?_cons_succ, List.getElem?_cons_zero]; rfl)); (case hw11 => rfl); (case hy11 => (intro w hSw; go_simp; try with_reducible rfl)); (case hq11 => exact fun _ _ _ h => h); simp only [Act.put, List.setIfInBounds_toArray, List.set_cons_zero, List.set_cons_succ])
      (refine hd_take (i := 6) (oi := ?oi13) (v := ?v13) ?hi13 (by kernel_rfl) (by kernel_rfl) (by kernel_rfl) (by kernel_rfl) (by decide) ?hq13 ?hw13 ?hy13 hHeld ?hr13; (case hi13 => (simp only [List.getElem?_toArray, List.getElem?_cons_succ, List.getElem?_cons_zero]; rfl)); (case hw13 => rfl); (case hy13 => (intro w hSw; go_simp; try with_reducible rfl)); (case hq13 => exact fun _ _ _ h => h); simp only [Act.put, List.setIfInBounds_toArray, List.set_cons_zero, List.set_cons_succ])
      (refine hd_take (i := 7) (oi := ?oi15) (v := ?v15) ?hi15 (by kernel_rfl) (by kernel_rfl) (by kernel_rfl) (by kernel_rfl) (by decide) ?hq15 ?hw15 ?hy15 hHeld ?hr15; (case hi15 => (simp only [List.getElem?_toArray, List.getElem?_cons_succ, List.getElem?_cons_zero]; rfl)); (case hw15 => rfl); (case hy15 => (intro w hSw; go_simp; try with_reducible rfl)); (case hq15 => exact fun _ _ _ h => h); simp only [Act.put, List.setIfInBounds_toArray, List.set_cons_zero, List.set_cons_succ])
      (refine hd_take (i := 8) (oi := ?oi17) (v := ?v17) ?hi17 (by kernel_rfl) (by kernel_rfl) (by kernel_rfl) (by kernel_rfl) (by decide) ?hq17 ?hw17 ?hy17 hHeld ?hr17; (case hi17 => (simp only [List.getElem?_toArray, List.getElem?_cons_succ, List.getElem?_cons_zero]; rfl)); (case hw17 => rfl); (case hy17 => (intro w hSw; go_simp; try with_reducible rfl)); (case hq17 => exact fun _ _ _ h => h); simp only [Act.put, List.setIfInBounds_toArray, List.set_cons_zero, List.set_cons_succ])
      (refine hd_take (i := 9) (oi := ?oi19) (v := ?v19) ?hi19 (by kernel_rfl) (by kernel_rfl) (by kernel_rfl) (by kernel_rfl) (by decide) ?hq19 ?hw19 ?hy19 hHeld ?hr19; (case hi19 => (simp only [List.getElem?_toArray, List.getElem?_cons_succ, List.getElem?_cons_zero]; rfl)); (case hw19 => rfl); (case hy19 => (intro w hSw; go_simp; try with_reducible rfl)); (case hq19 => exact fun _ _ _ h => h); simp only [Act.put, List.setIfInBounds_toArray, List.set_cons_zero, List.set_cons_succ])
      (refine hd_take (i := 10) (oi := ?oi21) (v := ?v21) ?hi21 (by kernel_rfl) (by kernel_rfl) (by kernel_rfl) (by kernel_rfl) (by decide) ?hq21 ?hw21 ?hy21 hHeld ?hr21; (case hi21 => (simp only [List.getElem?_toArray, List.getElem?_cons_succ, List.getElem?_cons_zero]; rfl)); (case hw21 => rfl); (case hy21 => (intro w hSw; go_simp; try with_reducible rfl)); (case hq21 => exact fun _ _ _ h => h); simp only [Act.put, List.setIfInBounds_toArray, List.set_cons_zero, List.set_cons_succ])
      (refine hd_take (i := 11) (oi := ?oi23) (v := ?v23) ?hi23 (by kernel_rfl) (by kernel_rfl) (by kernel_rfl) (by kernel_rfl) (by decide) ?hq23 ?hw23 ?hy23 hHeld ?hr23; (case hi23 => (simp only [List.getElem?_toArray, List.getElem?_cons_succ, List.getElem?_cons_zero]; rfl)); (case hw23 => rfl); (case hy23 => (intro w hSw; go_simp; try with_reducible rfl)); (case hq23 => exact fun _ _ _ h => h); simp only [Act.put, List.setIfInBounds_toArray, List.set_cons_zero, List.set_cons_succ])
      (refine hd_take (i := 13) (oi := ?oi25) (v := ?v25) ?hi25 (by kernel_rfl) (by kernel_rfl) (by kernel_rfl) (by kernel_rfl) (by decide) ?hq25 ?hw25 ?hy25 hHeld ?hr25; (case hi25 => (simp only [List.getElem?_toArray, List.getElem?_cons_succ, List.getElem?_cons_zero]; rfl)); (case hw25 => rfl); (case hy25 => (intro w hSw; go_simp; try with_reducible rfl)); (case hq25 => exact fun _ _ _ h => h); simp only [Act.put, List.setIfInBounds_toArray, List.set_cons_zero, List.set_cons_succ])
      (refine hd_take (i := 14) (oi := ?oi27) (v := ?v27) ?hi27 (by kernel_rfl) (by kernel_rfl) (by kernel_rfl) (by kernel_rfl) (by decide) ?hq27 ?hw27 ?hy27 hHeld ?hr27; (case hi27 => (simp only [List.getElem?_toArray, List.getElem?_cons_succ, List.getElem?_cons_zero]; rfl)); (case hw27 => rfl); (case hy27 => (intro w hSw; go_simp; try with_reducible rfl)); (case hq27 => exact fun _ _ _ h => h); simp only [Act.put, List.setIfInBounds_toArray, List.set_cons_zero, List.set_cons_succ])
      (refine hd_take (i := 15) (oi := ?oi29) (v := ?v29) ?hi29 (by kernel_rfl) (by kernel_rfl) (by kernel_rfl) (by kernel_rfl) (by decide) ?hq29 ?hw29 ?hy29 hHeld ?hr29; (case hi29 => (simp only [List.getElem?_toArray, List.getElem?_cons_succ, List.getElem?_cons_zero]; rfl)); (case hw29 => rfl); (case hy29 => (intro w hSw; go_simp; try with_reducible rfl)); (case hq29 => exact fun _ _ _ h => h); simp only [Act.put, List.setIfInBounds_toArray, List.set_cons_zero, List.set_cons_succ])
      (refine hd_take (i := 16) (oi := ?oi31) (v := ?v31) ?hi31 (by kernel_rfl) (by kernel_rfl) (by kernel_rfl) (by kernel_rfl) (by decide) ?hq31 ?hw31 ?hy31 hHeld ?hr31; (case hi31 => (simp only [List.getElem?_toArray, List.getElem?_cons_succ, List.getElem?_cons_zero]; rfl)); (case hw31 => rfl); (case hy31 => (intro w hSw; go_simp; try with_reducible rfl)); (case hq31 => exact fun _ _ _ h => h); simp only [Act.put, List.setIfInBounds_toArray, List.set_cons_zero, List.set_cons_succ])
      (refine hd_take (i := 17) (oi := ?oi33) (v := ?v33) ?hi33 (by kernel_rfl) (by kernel_rfl) (by kernel_rfl) (by kernel_rfl) (by decide) ?hq33 ?hw33 ?hy33 hHeld ?hr33; (case hi33 => (simp only [List.getElem?_toArray, List.getElem?_cons_succ, List.getElem?_cons_zero]; rfl)); (case hw33 => rfl); (case hy33 => (intro w hSw; go_simp; try with_reducible rfl)); (case hq33 => exact fun _ _ _ h => h); simp only [Act.put, List.setIfInBounds_toArray, List.set_cons_zero, List.set_cons_succ])
      (refine hd_take (i := 18) (oi := ?oi35) (v := ?v35) ?hi35 (by kernel_rfl) (by kernel_rfl) (by kernel_rfl) (by kernel_rfl) (by decide) ?hq35 ?hw35 ?hy35 hHeld ?hr35; (case hi35 => (simp only [List.getElem?_toArray, List.getElem?_cons_succ, List.getElem?_cons_zero]; rfl)); (case hw35 => rfl); (case hy35 => (intro w hSw; go_simp; try with_reducible rfl)); (case hq35 => exact fun _ _ _ h => h); simp only [Act.put, List.setIfInBounds_toArray, List.set_cons_zero, List.set_cons_succ])
      (refine hd_one (i := 12) (oi := ?oi37) ?hi37 (by kernel_rfl) (by decide) ?hr37; (case hi37 => (simp only [List.getElem?_toArray, List.getElem?_cons_succ, List.getElem?_cons_zero]; rfl)); intro K hK)
      go_simp
      go_at_call 73
      refine (applyOf_any _ l.f1 b A3 Ab c3 cb (fun k => ok k ∧ k < w.heap.size) W3 (Nat.le_refl _) (by have := HBD.out; have := HSZ.out; omega) (Kd.F_below (Kd.F_below HFB.out HB.out) HB3.out) HL3.out.F3 HL3.out.l3).mono ?_
      rintro e w5 ⟨A5, c5, rfl, h5, hF5, hb5⟩
      have HF5 := Aside0.mk hF5
      have HB5 := Aside0.mk hb5
      have HH5 := Aside0.mk (gbT hHeld (gbOf hb5 _) (.inl rfl))
      clear hF5
      go_simp
      (refine hK.out _ _ ?hS39 (fun hHeld => ?hr39); (case hS39 => exact HH5.out); clear hK K; try simp only [Act.put, List.setIfInBounds_toArray, List.set_cons_zero, List.set_cons_succ])
      clear hb5
      (refine hd_one (i := 19) (oi := ?oi40) ?hi40 (by kernel_rfl) (by decide) ?hr40; (case hi40 => (simp only [List.getElem?_toArray, List.getElem?_cons_succ, List.getElem?_cons_zero]; rfl)); intro K hK)
      go_simp
      go_at_call 73
      refine (applyOf_any _ l.f2 b A6 Ab c6 cb (fun k => ok k ∧ k < w.heap.size) w5 (Nat.le_refl _) (by have := HBD.out; have := HSZ.out; omega) (Kd.F_below (Kd.F_below (Kd.F_below HFB.out HB.out) HB3.out) HB5.out) (Kd.F_below HL3.out.F6 HB5.out) HL3.out.l6).mono ?_
      rintro e w6 ⟨A8, c8, rfl, h8, hF8, hb6⟩
      have HF8 := Aside0.mk hF8
      have HB6 := Aside0.mk hb6
      have HF56 := Aside0.mk (Kd.F_below HF5.out hb6)
      have HH6 := Aside0.mk (gbT hHeld (gbOf hb6 _) (.inl rfl))
      have HN6 := Aside0.mk (Kd.N_below (Kd.N_below (Kd.N_below HN.out HB3.out) HB5.out) hb6)
      clear hF8
      go_simp
      (refine hK.out _ _ ?hS42 (fun hHeld => ?hr42); (case hS42 => exact HH6.out); clear hK K; try simp only [Act.put, List.setIfInBounds_toArray, List.set_cons_zero, List.set_cons_succ])
      clear hb6
      (refine hd_take (i := 20) (oi := ?oi43) (v := ?v43) ?hi43 (by kernel_rfl) (by kernel_rfl) (by kernel_rfl) (by kernel_rfl) (by decide) ?hq43 ?hw43 ?hy43 hHeld ?hr43; (case hi43 => (simp only [List.getElem?_toArray, List.getElem?_cons_succ, List.getElem?_cons_zero]; rfl)); (case hw43 => rfl); (case hy43 => (intro w hSw; go_simp; try with_reducible rfl)); (case hq43 => exact fun _ _ _ h => h); simp only [Act.put, List.setIfInBounds_toArray, List.set_cons_zero, List.set_cons_succ])
      (refine hd_one (i := 21) (oi := ?oi45) ?hi45 (by kernel_rfl) (by decide) ?hr45; (case hi45 => (simp only [List.getElem?_toArray, List.getElem?_cons_succ, List.getElem?_cons_zero]; rfl)); intro K hK)
      go_simp
      (refine hK.out _ _ ?hS47 (fun hHeld => ?hr47); (case hS47 => exact gbT HH6.out (gbOf (below_alloc (Below.refl _ _) _) _) (.inl rfl)); clear hK K; try simp only [Act.put, List.setIfInBounds_toArray, List.set_cons_zero, List.set_cons_succ])
      (refine hd_one (i := 22) (oi := ?oi48) ?hi48 (by kernel_rfl) (by decide) ?hr48; (case hi48 => (simp only [List.getElem?_toArray, List.getElem?_cons_succ, List.getElem?_cons_zero]; rfl)); intro K hK)
      refine Kd.N_append_step kLi (w0 := w6) w.heap.size rfl _ _ 26 84 _ 88 rfl Try.underlying26 infoLi rfl (by decide) (by decide) (.slice Av s.length cv) s ⟨l.f0, appT (bds b) l.f1, appT (bds b) l.f2⟩ _ (fun k => (ok k ∧ k < w.heap.size) ∨ w.heap.size ≤ k) (fun k => (ok k ∧ k < w.heap.size) ∨ W3.heap.size ≤ k) rfl rfl (kLi_mkF w6 _ _ h5 (Kd.F_mono HF56.out (fun _ h => h)) h8 (Kd.F_mono HF8.out (fun q hq => hq.imp id (fun h => Nat.le_trans HB5.out.size h)))) ?_ (fun k hk => .inr (by have := HZR.out; have := HB3.out.size; have := HB5.out.size; have := HB6.out.size; omega)) HN6.out (Below.refl _ _) (by have := HZR.out; have := HB3.out.size; have := HB5.out.size; have := HB6.out.size; omega) ?_ ?_
      · intro k' hk'
        refine ⟨hk'.imp id (fun h => by have := HZR.out; have := HB3.out.size; omega), fun e => ?_⟩
        rcases hk' with hk' | hk'
        · exact HNE k' hk'.2 e
        · have := HNL.out k' e.symm; have := HB3.out.size; omega
      · have := HTL.out; have := HCL.out; omega
      intro v1 w7 hN1 hB1 hG1 hI1
      have HN1 := Aside0.mk hN1
      clear hN1 hB1 hI1
      (refine hK.out _ _ ?hS50 (fun hHeld => ?hr50); (case hS50 => exact gbT HH6.out hG1 (.inl rfl)); clear hK K; try simp only [Act.put, List.setIfInBounds_toArray, List.set_cons_zero, List.set_cons_succ])
      (refine hd_done (by kernel_rfl) ?_; simp only [List.drop_succ_cons, List.drop_zero])
      have HH7 := Aside0.mk hHeld
      clear hHeld k0 k1 k2 k3 k4 k5 k6
      go_wp2
      go_roundw
      case rel => exact ⟨k + 1, v1, by omega, by go_num, rfl, ⟨by rw [HTK.out]; exact HN1.out⟩, ⟨gbU HB.out HH7.out HNE⟩⟩
      case measure => simp [intOf]; omega
    · obtain rfl : k = c.length := by omega
      have HN2 := HN.out
      rw [List.take_length] at HN2
      obtain ⟨Av, cv, rfl⟩ := Kd.N_slice HN2
      have HN2 := Aside0.mk HN2
      go_wp2
      go_ret
      have h := Kd.N_reads' HN2.out
      have h2 := Kd.F_mono (Kd.N_F HN2.out) (ok' := fun k => ok k ∨ w.heap.size ≤ k) (fun q hq => hq.imp (fun h => h.1) id)
      first | exact ⟨Av, cv, rfl, h.2.1, h2, HB.out⟩ | exact ⟨rfl, Av, cv, h.2.1, h2, HB.out⟩
end Go.Proofs.Ytcgnpmjkeifokaa
