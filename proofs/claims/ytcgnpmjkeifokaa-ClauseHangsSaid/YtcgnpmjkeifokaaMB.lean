/- The walks of what compares, finds, puts and copies terms. -/
import Derived.Test.YtcgnpmjkeifokaaMA
import Derived.StillTail
import Derived.OrdersHeld
import Derived.Deep.RegionHeld
import Derived.Shelf.Abstract
import Derived.Lib.SliceRun
import Derived.Deep.AppendLies
-- K11
/- A region in the text's order whose operations only read and whose callees only lay blocks: walked once, over every such world. clause.sides, superposeref.SameSides. -/
namespace Go.Proofs.Ytcgnpmjkeifokaa
open Go.RowKit Go.Proofs.YtcgnpmjkeifokaaW.PrintWords
set_option linter.unusedVariables false
set_option linter.unusedSimpArgs false

theorem wpOps_of_quiet {P : Program} {C : World → Prop} {ops : Array Oper} {Q' : Act → Prop} {Q : Exit → Act → World → Prop} (hQ : ∀ a w, C w → Q' a → Q .normal a w) :
    ∀ (rest : List Oper) (n : Nat), ops.toList.drop n = rest → ∀ a w, C w → wpQuiet P ops C Q' rest a → wpOps P ops Q (List.range' n rest.length) a w
  | [], n, _, a, w, hC, h => hQ a w hC h
  | o :: rest, n, hn, a, w, hC, h => by
    have h1 : ops[n]? = some o := by
      have := congrArg (fun l => l[0]?) hn
      simpa using this
    have h2 : ops.toList.drop (n + 1) = rest := by
      have := congrArg List.tail hn
      simpa using this
    have ih : ∀ a w, C w → wpQuiet P ops C Q' rest a → wpOps P ops Q (List.range' (n + 1) rest.length) a w := fun a w hC h => wpOps_of_quiet hQ rest (n + 1) h2 a w hC h
    simp only [List.length_cons, List.range'_succ, wpOps, h1]
    unfold wpQuiet at h
    split at h
    · rename_i hw
      rw [if_pos hw]
      exact .inl (Oper.wp_of_quiet hC (fun a' w' hC' hk => ih a' w' hC' hk) h)
    · rename_i hw
      rw [if_neg hw]
      exact ih _ w hC h

theorem wp_region_quiet_plain {P : Program} {id : Nat} {Q : Exit → Act → World → Prop} {a : Act} {w : World} {l : List Oper}
    (h : wpQuiet P l.toArray (fun w' => ∃ p : Regrown, w' = Go.Sort.grow (redrawn w p.d) p.os) (fun a' => ∀ w', (∃ p : Regrown, w' = Go.Sort.grow (redrawn w p.d) p.os) → Q .normal a' w') l a) : (Code.region id l.toArray false).wp P Q a w := by
  refine wp_region ?_
  have := wpOps_of_quiet (P := P) (C := fun w' => ∃ p : Regrown, w' = Go.Sort.grow (redrawn w p.d) p.os) (ops := l.toArray) (Q := Q) (fun a w' hC hk => hk w' hC) l 0 (by simp) a w ⟨⟨w.drawn, #[]⟩, by rw [Go.Sort.grow_empty]; rfl⟩ h
  simpa [List.range_eq_range'] using this

/-- The same walk, behind a name that is not looked through. -/
structure WQ (P : Program) (ops : Array Oper) (C : World → Prop) (Q : Act → Prop) (l : List Oper) (a : Act) : Prop where mk :: (out : wpQuiet P ops C Q l a)
theorem wq_step {P : Program} {ops : Array Oper} {C : World → Prop} {Q : Act → Prop} {a : Act} {o : Oper} {rest : List Oper}
    (h : ∀ K : Act → Prop, (∀ a, WQ P ops C Q rest a → K a) → if Region.wanted o (yielded ops a.tmps) then o.quiet P a C K else K (a.put o.dst undef)) : WQ P ops C Q (o :: rest) a :=
  ⟨wpQuiet_step fun K hK => h K (fun a ha => hK a ha.out)⟩
theorem wq_nil {P : Program} {ops : Array Oper} {C : World → Prop} {Q : Act → Prop} {a : Act} (h : Q a) : WQ P ops C Q [] a := ⟨h⟩
def ClsB (w w' : World) : Prop := ∃ p : Regrown, w' = Go.Sort.grow (redrawn w p.d) p.os
theorem wq_plain {P : Program} {id : Nat} {Q : Exit → Act → World → Prop} {a : Act} {w : World} {l : List Oper}
    (h : WQ P l.toArray (fun w' => ∃ p : Regrown, w' = Go.Sort.grow (redrawn w p.d) p.os) (fun a' => ∀ w', Below w.heap.size w w' → Q .normal a' w') l a) : (Code.region id l.toArray false).wp P Q a w := by
  refine wp_region ?_
  have := wpOps_of_quiet (P := P) (C := fun w' => ∃ p : Regrown, w' = Go.Sort.grow (redrawn w p.d) p.os) (ops := l.toArray) (Q := Q) (fun a w' hC hk => hk w' (by obtain ⟨p, rfl⟩ := hC; exact below_regrown _ _ _)) l 0 (by simp) a w ⟨⟨w.drawn, #[]⟩, by rw [Go.Sort.grow_empty]; rfl⟩ h.out
  simpa [List.range_eq_range'] using this
theorem wpQuiet_mono {P : Program} {ops : Array Oper} {C : World → Prop} {Q Q' : Act → Prop} (h : ∀ a, Q a → Q' a) : ∀ (l : List Oper) (a : Act), wpQuiet P ops C Q l a → wpQuiet P ops C Q' l a
  | [], a, hh => h a hh
  | o :: rest, a, hh => by
    unfold wpQuiet at hh ⊢
    split
    · rename_i hw
      rw [if_pos hw] at hh
      exact Oper.quiet_mono (fun a => wpQuiet_mono h rest a) hh
    · rename_i hw
      rw [if_neg hw] at hh
      exact wpQuiet_mono h rest _ hh
theorem wq_draws {P : Program} {id : Nat} {Q : Exit → Act → World → Prop} {a : Act} {w : World} {l : List Oper} (hm : P.follows .mixedOrders = true) (hB : Region.lexB .any l.toArray = true)
    (h : WQ P l.toArray (fun w' => ∃ p : Regrown, w' = Go.Sort.grow (redrawn w p.d) p.os) (fun a' => ∀ w', Below w.heap.size w w' → Q .normal a' w') l a) : (Code.region id l.toArray true).wp P Q a w :=
  wp_region_quiet (C := fun w' => ∃ p : Regrown, w' = Go.Sort.grow (redrawn w p.d) p.os) hm hB ⟨⟨w.drawn + 1, #[]⟩, by rw [Go.Sort.grow_empty]; rfl⟩ (by
    have := wpQuiet_mono (Q' := fun a' => ∀ w', (∃ p : Regrown, w' = Go.Sort.grow (redrawn w p.d) p.os) → Q .normal a' w') (fun a' h w' hC => h w' (by obtain ⟨p, rfl⟩ := hC; exact below_regrown _ _ _)) l a h.out
    simpa using this)

def sidesB (a b : Li) : Bool := eqT a.f1 b.f1 && eqT a.f2 b.f2 || eqT a.f1 b.f2 && eqT a.f2 b.f1

set_option maxHeartbeats 4000000 in
set_option maxRecDepth 100000 in
theorem sides_any (a b : Li) (A3 A6 B3 B6 : Option Addr) (c3 c6 d3 d6 : Nat) (oka okb : Nat → Prop) (w : World) (a3 : Kd.F kTm w oka A3 a.f1.f2.length a.f1.f2) (l3 : a.f1.f2.length ≤ c3) (a6 : Kd.F kTm w oka A6 a.f2.f2.length a.f2.f2) (l6 : a.f2.f2.length ≤ c6)
    (b3 : Kd.F kTm w okb B3 b.f1.f2.length b.f1.f2) (m3 : b.f1.f2.length ≤ d3) (b6 : Kd.F kTm w okb B6 b.f2.f2.length b.f2.f2) (m6 : b.f2.f2.length ≤ d6) :
    Calls Try.prog 96 #[.agg #[.bool a.f0, .int .i64 a.f1.f0, .int .i64 a.f1.f1, .slice A3 a.f1.f2.length c3, .int .i64 a.f2.f0, .int .i64 a.f2.f1, .slice A6 a.f2.f2.length c6], .agg #[.bool b.f0, .int .i64 b.f1.f0, .int .i64 b.f1.f1, .slice B3 b.f1.f2.length d3, .int .i64 b.f2.f0, .int .i64 b.f2.f1, .slice B6 b.f2.f2.length d6]] w fun e w' => e = .returned (.bool (sidesB a b)) ∧ Below w.heap.size w w' := by
  have HB := Aside0.mk (below_alloc (below_alloc (Below.refl w.heap.size w) (.cells #[.bool a.f0, .int .i64 a.f1.f0, .int .i64 a.f1.f1, .slice A3 a.f1.f2.length c3, .int .i64 a.f2.f0, .int .i64 a.f2.f1, .slice A6 a.f2.f2.length c6] 84)) (.cells #[.bool b.f0, .int .i64 b.f1.f0, .int .i64 b.f1.f1, .slice B3 b.f1.f2.length d3, .int .i64 b.f2.f0, .int .i64 b.f2.f1, .slice B6 b.f2.f2.length d6] 84))
  have ga := blk_alloc (newAt (w := w) (o := .cells #[.bool a.f0, .int .i64 a.f1.f0, .int .i64 a.f1.f1, .slice A3 a.f1.f2.length c3, .int .i64 a.f2.f0, .int .i64 a.f2.f1, .slice A6 a.f2.f2.length c6] 84) rfl) (.cells #[.bool b.f0, .int .i64 b.f1.f0, .int .i64 b.f1.f1, .slice B3 b.f1.f2.length d3, .int .i64 b.f2.f0, .int .i64 b.f2.f1, .slice B6 b.f2.f2.length d6] 84)
  have gb := newAt (w := w.alloc (.cells #[.bool a.f0, .int .i64 a.f1.f0, .int .i64 a.f1.f1, .slice A3 a.f1.f2.length c3, .int .i64 a.f2.f0, .int .i64 a.f2.f1, .slice A6 a.f2.f2.length c6] 84)) (o := .cells #[.bool b.f0, .int .i64 b.f1.f0, .int .i64 b.f1.f1, .slice B3 b.f1.f2.length d3, .int .i64 b.f2.f0, .int .i64 b.f2.f1, .slice B6 b.f2.f2.length d6] 84) (k := w.heap.size + 1) (by simp)
  have A3_ := Aside0.mk a3
  have A6_ := Aside0.mk a6
  have B3_ := Aside0.mk b3
  have B6_ := Aside0.mk b6
  have ra1 := fun d os => cell_regrown ((blk_cell ga 1).trans rfl) d os
  have ra2 := fun d os => cell_regrown ((blk_cell ga 2).trans rfl) d os
  have ra3 := fun d os => cell_regrown ((blk_cell ga 3).trans rfl) d os
  have ra4 := fun d os => cell_regrown ((blk_cell ga 4).trans rfl) d os
  have ra5 := fun d os => cell_regrown ((blk_cell ga 5).trans rfl) d os
  have ra6 := fun d os => cell_regrown ((blk_cell ga 6).trans rfl) d os
  have rb1 := fun d os => cell_regrown ((blk_cell gb 1).trans rfl) d os
  have rb2 := fun d os => cell_regrown ((blk_cell gb 2).trans rfl) d os
  have rb3 := fun d os => cell_regrown ((blk_cell gb 3).trans rfl) d os
  have rb4 := fun d os => cell_regrown ((blk_cell gb 4).trans rfl) d os
  have rb5 := fun d os => cell_regrown ((blk_cell gb 5).trans rfl) d os
  have rb6 := fun d os => cell_regrown ((blk_cell gb 6).trans rfl) d os
  clear a3 a6 b3 b6 ga gb
  cases h1 : eqT a.f1 b.f1 with
  | true =>
    cases h2 : eqT a.f2 b.f2 with
    | true =>
      have HR := Aside0.mk (show sidesB a b = true by unfold sidesB; rw [h1, h2]; rfl)
      (go_enter Try.func96, Try.ntmps96; go_upto_region 1 with (fail); generalize (w.alloc (.cells #[.bool a.f0, .int .i64 a.f1.f0, .int .i64 a.f1.f1, .slice A3 a.f1.f2.length c3, .int .i64 a.f2.f0, .int .i64 a.f2.f1, .slice A6 a.f2.f2.length c6] 84)).alloc (.cells #[.bool b.f0, .int .i64 b.f1.f0, .int .i64 b.f1.f1, .slice B3 b.f1.f2.length d3, .int .i64 b.f2.f0, .int .i64 b.f2.f1, .slice B6 b.f2.f2.length d6] 84) = W at *; (refine wq_plain ?_; (repeat (refine wq_step (fun K hK => ?_); go_simp; first | (refine hK _ ?_; clear hK K) | (apply Exists.intro; refine ⟨fun _ => ?_, hK _ ?_⟩; ((first | ((with_reducible refine Calls.regrown_of (same_any _ a.f1 b.f1 A3 B3 c3 d3 oka okb _ (Nat.le_refl _) ?_ l3 ?_ m3)); (exact Kd.F_below A3_.out (hbT HB.out (below_regrown _ _ _))); exact Kd.F_below B3_.out (hbT HB.out (below_regrown _ _ _))) | ((with_reducible refine Calls.regrown_of (same_any _ a.f1 b.f2 A3 B6 c3 d6 oka okb _ (Nat.le_refl _) ?_ l3 ?_ m6)); (exact Kd.F_below A3_.out (hbT HB.out (below_regrown _ _ _))); exact Kd.F_below B6_.out (hbT HB.out (below_regrown _ _ _))) | ((with_reducible refine Calls.regrown_of (same_any _ a.f2 b.f1 A6 B3 c6 d3 oka okb _ (Nat.le_refl _) ?_ l6 ?_ m3)); (exact Kd.F_below A6_.out (hbT HB.out (below_regrown _ _ _))); exact Kd.F_below B3_.out (hbT HB.out (below_regrown _ _ _))) | ((with_reducible refine Calls.regrown_of (same_any _ a.f2 b.f2 A6 B6 c6 d6 oka okb _ (Nat.le_refl _) ?_ l6 ?_ m6)); (exact Kd.F_below A6_.out (hbT HB.out (below_regrown _ _ _))); exact Kd.F_below B6_.out (hbT HB.out (below_regrown _ _ _))))); clear hK K))); refine wq_nil ?_; intro W2 hbW2); go_wp2; go_ret; exact ⟨ret_bool HR.out.symm, hbT HB.out hbW2⟩)
    | false =>
      cases h3 : eqT a.f1 b.f2 with
      | true =>
        cases h4 : eqT a.f2 b.f1 with
        | true =>
          have HR := Aside0.mk (show sidesB a b = true by unfold sidesB; rw [h1, h2, h3, h4]; rfl)
          (go_enter Try.func96, Try.ntmps96; go_upto_region 1 with (fail); generalize (w.alloc (.cells #[.bool a.f0, .int .i64 a.f1.f0, .int .i64 a.f1.f1, .slice A3 a.f1.f2.length c3, .int .i64 a.f2.f0, .int .i64 a.f2.f1, .slice A6 a.f2.f2.length c6] 84)).alloc (.cells #[.bool b.f0, .int .i64 b.f1.f0, .int .i64 b.f1.f1, .slice B3 b.f1.f2.length d3, .int .i64 b.f2.f0, .int .i64 b.f2.f1, .slice B6 b.f2.f2.length d6] 84) = W at *; (refine wq_plain ?_; (repeat (refine wq_step (fun K hK => ?_); go_simp; first | (refine hK _ ?_; clear hK K) | (apply Exists.intro; refine ⟨fun _ => ?_, hK _ ?_⟩; ((first | ((with_reducible refine Calls.regrown_of (same_any _ a.f1 b.f1 A3 B3 c3 d3 oka okb _ (Nat.le_refl _) ?_ l3 ?_ m3)); (exact Kd.F_below A3_.out (hbT HB.out (below_regrown _ _ _))); exact Kd.F_below B3_.out (hbT HB.out (below_regrown _ _ _))) | ((with_reducible refine Calls.regrown_of (same_any _ a.f1 b.f2 A3 B6 c3 d6 oka okb _ (Nat.le_refl _) ?_ l3 ?_ m6)); (exact Kd.F_below A3_.out (hbT HB.out (below_regrown _ _ _))); exact Kd.F_below B6_.out (hbT HB.out (below_regrown _ _ _))) | ((with_reducible refine Calls.regrown_of (same_any _ a.f2 b.f1 A6 B3 c6 d3 oka okb _ (Nat.le_refl _) ?_ l6 ?_ m3)); (exact Kd.F_below A6_.out (hbT HB.out (below_regrown _ _ _))); exact Kd.F_below B3_.out (hbT HB.out (below_regrown _ _ _))) | ((with_reducible refine Calls.regrown_of (same_any _ a.f2 b.f2 A6 B6 c6 d6 oka okb _ (Nat.le_refl _) ?_ l6 ?_ m6)); (exact Kd.F_below A6_.out (hbT HB.out (below_regrown _ _ _))); exact Kd.F_below B6_.out (hbT HB.out (below_regrown _ _ _))))); clear hK K))); refine wq_nil ?_; intro W2 hbW2); go_wp2; go_ret; exact ⟨ret_bool HR.out.symm, hbT HB.out hbW2⟩)
        | false =>
          have HR := Aside0.mk (show sidesB a b = false by unfold sidesB; rw [h1, h2, h3, h4]; rfl)
          (go_enter Try.func96, Try.ntmps96; go_upto_region 1 with (fail); generalize (w.alloc (.cells #[.bool a.f0, .int .i64 a.f1.f0, .int .i64 a.f1.f1, .slice A3 a.f1.f2.length c3, .int .i64 a.f2.f0, .int .i64 a.f2.f1, .slice A6 a.f2.f2.length c6] 84)).alloc (.cells #[.bool b.f0, .int .i64 b.f1.f0, .int .i64 b.f1.f1, .slice B3 b.f1.f2.length d3, .int .i64 b.f2.f0, .int .i64 b.f2.f1, .slice B6 b.f2.f2.length d6] 84) = W at *; (refine wq_plain ?_; (repeat (refine wq_step (fun K hK => ?_); go_simp; first | (refine hK _ ?_; clear hK K) | (apply Exists.intro; refine ⟨fun _ => ?_, hK _ ?_⟩; ((first | ((with_reducible refine Calls.regrown_of (same_any _ a.f1 b.f1 A3 B3 c3 d3 oka okb _ (Nat.le_refl _) ?_ l3 ?_ m3)); (exact Kd.F_below A3_.out (hbT HB.out (below_regrown _ _ _))); exact Kd.F_below B3_.out (hbT HB.out (below_regrown _ _ _))) | ((with_reducible refine Calls.regrown_of (same_any _ a.f1 b.f2 A3 B6 c3 d6 oka okb _ (Nat.le_refl _) ?_ l3 ?_ m6)); (exact Kd.F_below A3_.out (hbT HB.out (below_regrown _ _ _))); exact Kd.F_below B6_.out (hbT HB.out (below_regrown _ _ _))) | ((with_reducible refine Calls.regrown_of (same_any _ a.f2 b.f1 A6 B3 c6 d3 oka okb _ (Nat.le_refl _) ?_ l6 ?_ m3)); (exact Kd.F_below A6_.out (hbT HB.out (below_regrown _ _ _))); exact Kd.F_below B3_.out (hbT HB.out (below_regrown _ _ _))) | ((with_reducible refine Calls.regrown_of (same_any _ a.f2 b.f2 A6 B6 c6 d6 oka okb _ (Nat.le_refl _) ?_ l6 ?_ m6)); (exact Kd.F_below A6_.out (hbT HB.out (below_regrown _ _ _))); exact Kd.F_below B6_.out (hbT HB.out (below_regrown _ _ _))))); clear hK K))); refine wq_nil ?_; intro W2 hbW2); go_wp2; go_ret; exact ⟨ret_bool HR.out.symm, hbT HB.out hbW2⟩)
      | false =>
        have HR := Aside0.mk (show sidesB a b = false by unfold sidesB; rw [h1, h2, h3]; rfl)
        (go_enter Try.func96, Try.ntmps96; go_upto_region 1 with (fail); generalize (w.alloc (.cells #[.bool a.f0, .int .i64 a.f1.f0, .int .i64 a.f1.f1, .slice A3 a.f1.f2.length c3, .int .i64 a.f2.f0, .int .i64 a.f2.f1, .slice A6 a.f2.f2.length c6] 84)).alloc (.cells #[.bool b.f0, .int .i64 b.f1.f0, .int .i64 b.f1.f1, .slice B3 b.f1.f2.length d3, .int .i64 b.f2.f0, .int .i64 b.f2.f1, .slice B6 b.f2.f2.length d6] 84) = W at *; (refine wq_plain ?_; (repeat (refine wq_step (fun K hK => ?_); go_simp; first | (refine hK _ ?_; clear hK K) | (apply Exists.intro; refine ⟨fun _ => ?_, hK _ ?_⟩; ((first | ((with_reducible refine Calls.regrown_of (same_any _ a.f1 b.f1 A3 B3 c3 d3 oka okb _ (Nat.le_refl _) ?_ l3 ?_ m3)); (exact Kd.F_below A3_.out (hbT HB.out (below_regrown _ _ _))); exact Kd.F_below B3_.out (hbT HB.out (below_regrown _ _ _))) | ((with_reducible refine Calls.regrown_of (same_any _ a.f1 b.f2 A3 B6 c3 d6 oka okb _ (Nat.le_refl _) ?_ l3 ?_ m6)); (exact Kd.F_below A3_.out (hbT HB.out (below_regrown _ _ _))); exact Kd.F_below B6_.out (hbT HB.out (below_regrown _ _ _))) | ((with_reducible refine Calls.regrown_of (same_any _ a.f2 b.f1 A6 B3 c6 d3 oka okb _ (Nat.le_refl _) ?_ l6 ?_ m3)); (exact Kd.F_below A6_.out (hbT HB.out (below_regrown _ _ _))); exact Kd.F_below B3_.out (hbT HB.out (below_regrown _ _ _))) | ((with_reducible refine Calls.regrown_of (same_any _ a.f2 b.f2 A6 B6 c6 d6 oka okb _ (Nat.le_refl _) ?_ l6 ?_ m6)); (exact Kd.F_below A6_.out (hbT HB.out (below_regrown _ _ _))); exact Kd.F_below B6_.out (hbT HB.out (below_regrown _ _ _))))); clear hK K))); refine wq_nil ?_; intro W2 hbW2); go_wp2; go_ret; exact ⟨ret_bool HR.out.symm, hbT HB.out hbW2⟩)
  | false =>
    cases h3 : eqT a.f1 b.f2 with
    | true =>
      cases h4 : eqT a.f2 b.f1 with
      | true =>
        have HR := Aside0.mk (show sidesB a b = true by unfold sidesB; rw [h1, h3, h4]; rfl)
        (go_enter Try.func96, Try.ntmps96; go_upto_region 1 with (fail); generalize (w.alloc (.cells #[.bool a.f0, .int .i64 a.f1.f0, .int .i64 a.f1.f1, .slice A3 a.f1.f2.length c3, .int .i64 a.f2.f0, .int .i64 a.f2.f1, .slice A6 a.f2.f2.length c6] 84)).alloc (.cells #[.bool b.f0, .int .i64 b.f1.f0, .int .i64 b.f1.f1, .slice B3 b.f1.f2.length d3, .int .i64 b.f2.f0, .int .i64 b.f2.f1, .slice B6 b.f2.f2.length d6] 84) = W at *; (refine wq_plain ?_; (repeat (refine wq_step (fun K hK => ?_); go_simp; first | (refine hK _ ?_; clear hK K) | (apply Exists.intro; refine ⟨fun _ => ?_, hK _ ?_⟩; ((first | ((with_reducible refine Calls.regrown_of (same_any _ a.f1 b.f1 A3 B3 c3 d3 oka okb _ (Nat.le_refl _) ?_ l3 ?_ m3)); (exact Kd.F_below A3_.out (hbT HB.out (below_regrown _ _ _))); exact Kd.F_below B3_.out (hbT HB.out (below_regrown _ _ _))) | ((with_reducible refine Calls.regrown_of (same_any _ a.f1 b.f2 A3 B6 c3 d6 oka okb _ (Nat.le_refl _) ?_ l3 ?_ m6)); (exact Kd.F_below A3_.out (hbT HB.out (below_regrown _ _ _))); exact Kd.F_below B6_.out (hbT HB.out (below_regrown _ _ _))) | ((with_reducible refine Calls.regrown_of (same_any _ a.f2 b.f1 A6 B3 c6 d3 oka okb _ (Nat.le_refl _) ?_ l6 ?_ m3)); (exact Kd.F_below A6_.out (hbT HB.out (below_regrown _ _ _))); exact Kd.F_below B3_.out (hbT HB.out (below_regrown _ _ _))) | ((with_reducible refine Calls.regrown_of (same_any _ a.f2 b.f2 A6 B6 c6 d6 oka okb _ (Nat.le_refl _) ?_ l6 ?_ m6)); (exact Kd.F_below A6_.out (hbT HB.out (below_regrown _ _ _))); exact Kd.F_below B6_.out (hbT HB.out (below_regrown _ _ _))))); clear hK K))); refine wq_nil ?_; intro W2 hbW2); go_wp2; go_ret; exact ⟨ret_bool HR.out.symm, hbT HB.out hbW2⟩)
      | false =>
        have HR := Aside0.mk (show sidesB a b = false by unfold sidesB; rw [h1, h3, h4]; rfl)
        (go_enter Try.func96, Try.ntmps96; go_upto_region 1 with (fail); generalize (w.alloc (.cells #[.bool a.f0, .int .i64 a.f1.f0, .int .i64 a.f1.f1, .slice A3 a.f1.f2.length c3, .int .i64 a.f2.f0, .int .i64 a.f2.f1, .slice A6 a.f2.f2.length c6] 84)).alloc (.cells #[.bool b.f0, .int .i64 b.f1.f0, .int .i64 b.f1.f1, .slice B3 b.f1.f2.length d3, .int .i64 b.f2.f0, .int .i64 b.f2.f1, .slice B6 b.f2.f2.length d6] 84) = W at *; (refine wq_plain ?_; (repeat (refine wq_step (fun K hK => ?_); go_simp; first | (refine hK _ ?_; clear hK K) | (apply Exists.intro; refine ⟨fun _ => ?_, hK _ ?_⟩; ((first | ((with_reducible refine Calls.regrown_of (same_any _ a.f1 b.f1 A3 B3 c3 d3 oka okb _ (Nat.le_refl _) ?_ l3 ?_ m3)); (exact Kd.F_below A3_.out (hbT HB.out (below_regrown _ _ _))); exact Kd.F_below B3_.out (hbT HB.out (below_regrown _ _ _))) | ((with_reducible refine Calls.regrown_of (same_any _ a.f1 b.f2 A3 B6 c3 d6 oka okb _ (Nat.le_refl _) ?_ l3 ?_ m6)); (exact Kd.F_below A3_.out (hbT HB.out (below_regrown _ _ _))); exact Kd.F_below B6_.out (hbT HB.out (below_regrown _ _ _))) | ((with_reducible refine Calls.regrown_of (same_any _ a.f2 b.f1 A6 B3 c6 d3 oka okb _ (Nat.le_refl _) ?_ l6 ?_ m3)); (exact Kd.F_below A6_.out (hbT HB.out (below_regrown _ _ _))); exact Kd.F_below B3_.out (hbT HB.out (below_regrown _ _ _))) | ((with_reducible refine Calls.regrown_of (same_any _ a.f2 b.f2 A6 B6 c6 d6 oka okb _ (Nat.le_refl _) ?_ l6 ?_ m6)); (exact Kd.F_below A6_.out (hbT HB.out (below_regrown _ _ _))); exact Kd.F_below B6_.out (hbT HB.out (below_regrown _ _ _))))); clear hK K))); refine wq_nil ?_; intro W2 hbW2); go_wp2; go_ret; exact ⟨ret_bool HR.out.symm, hbT HB.out hbW2⟩)
    | false =>
      have HR := Aside0.mk (show sidesB a b = false by unfold sidesB; rw [h1, h3]; rfl)
      (go_enter Try.func96, Try.ntmps96; go_upto_region 1 with (fail); generalize (w.alloc (.cells #[.bool a.f0, .int .i64 a.f1.f0, .int .i64 a.f1.f1, .slice A3 a.f1.f2.length c3, .int .i64 a.f2.f0, .int .i64 a.f2.f1, .slice A6 a.f2.f2.length c6] 84)).alloc (.cells #[.bool b.f0, .int .i64 b.f1.f0, .int .i64 b.f1.f1, .slice B3 b.f1.f2.length d3, .int .i64 b.f2.f0, .int .i64 b.f2.f1, .slice B6 b.f2.f2.length d6] 84) = W at *; (refine wq_plain ?_; (repeat (refine wq_step (fun K hK => ?_); go_simp; first | (refine hK _ ?_; clear hK K) | (apply Exists.intro; refine ⟨fun _ => ?_, hK _ ?_⟩; ((first | ((with_reducible refine Calls.regrown_of (same_any _ a.f1 b.f1 A3 B3 c3 d3 oka okb _ (Nat.le_refl _) ?_ l3 ?_ m3)); (exact Kd.F_below A3_.out (hbT HB.out (below_regrown _ _ _))); exact Kd.F_below B3_.out (hbT HB.out (below_regrown _ _ _))) | ((with_reducible refine Calls.regrown_of (same_any _ a.f1 b.f2 A3 B6 c3 d6 oka okb _ (Nat.le_refl _) ?_ l3 ?_ m6)); (exact Kd.F_below A3_.out (hbT HB.out (below_regrown _ _ _))); exact Kd.F_below B6_.out (hbT HB.out (below_regrown _ _ _))) | ((with_reducible refine Calls.regrown_of (same_any _ a.f2 b.f1 A6 B3 c6 d3 oka okb _ (Nat.le_refl _) ?_ l6 ?_ m3)); (exact Kd.F_below A6_.out (hbT HB.out (below_regrown _ _ _))); exact Kd.F_below B3_.out (hbT HB.out (below_regrown _ _ _))) | ((with_reducible refine Calls.regrown_of (same_any _ a.f2 b.f2 A6 B6 c6 d6 oka okb _ (Nat.le_refl _) ?_ l6 ?_ m6)); (exact Kd.F_below A6_.out (hbT HB.out (below_regrown _ _ _))); exact Kd.F_below B6_.out (hbT HB.out (below_regrown _ _ _))))); clear hK K))); refine wq_nil ?_; intro W2 hbW2); go_wp2; go_ret; exact ⟨ret_bool HR.out.symm, hbT HB.out hbW2⟩)

set_option maxHeartbeats 4000000 in
set_option maxRecDepth 100000 in
theorem sameSides_any (a b : Li) (A3 A6 B3 B6 : Option Addr) (c3 c6 d3 d6 : Nat) (oka okb : Nat → Prop) (w : World) (a3 : Kd.F kTm w oka A3 a.f1.f2.length a.f1.f2) (l3 : a.f1.f2.length ≤ c3) (a6 : Kd.F kTm w oka A6 a.f2.f2.length a.f2.f2) (l6 : a.f2.f2.length ≤ c6)
    (b3 : Kd.F kTm w okb B3 b.f1.f2.length b.f1.f2) (m3 : b.f1.f2.length ≤ d3) (b6 : Kd.F kTm w okb B6 b.f2.f2.length b.f2.f2) (m6 : b.f2.f2.length ≤ d6) :
    Calls Try.prog 56 #[.agg #[.bool a.f0, .int .i64 a.f1.f0, .int .i64 a.f1.f1, .slice A3 a.f1.f2.length c3, .int .i64 a.f2.f0, .int .i64 a.f2.f1, .slice A6 a.f2.f2.length c6], .agg #[.bool b.f0, .int .i64 b.f1.f0, .int .i64 b.f1.f1, .slice B3 b.f1.f2.length d3, .int .i64 b.f2.f0, .int .i64 b.f2.f1, .slice B6 b.f2.f2.length d6]] w fun e w' => e = .returned (.bool (sidesB a b)) ∧ Below w.heap.size w w' := by
  have HB := Aside0.mk (below_alloc (below_alloc (Below.refl w.heap.size w) (.cells #[.bool a.f0, .int .i64 a.f1.f0, .int .i64 a.f1.f1, .slice A3 a.f1.f2.length c3, .int .i64 a.f2.f0, .int .i64 a.f2.f1, .slice A6 a.f2.f2.length c6] 84)) (.cells #[.bool b.f0, .int .i64 b.f1.f0, .int .i64 b.f1.f1, .slice B3 b.f1.f2.length d3, .int .i64 b.f2.f0, .int .i64 b.f2.f1, .slice B6 b.f2.f2.length d6] 84))
  have ga := blk_alloc (newAt (w := w) (o := .cells #[.bool a.f0, .int .i64 a.f1.f0, .int .i64 a.f1.f1, .slice A3 a.f1.f2.length c3, .int .i64 a.f2.f0, .int .i64 a.f2.f1, .slice A6 a.f2.f2.length c6] 84) rfl) (.cells #[.bool b.f0, .int .i64 b.f1.f0, .int .i64 b.f1.f1, .slice B3 b.f1.f2.length d3, .int .i64 b.f2.f0, .int .i64 b.f2.f1, .slice B6 b.f2.f2.length d6] 84)
  have gb := newAt (w := w.alloc (.cells #[.bool a.f0, .int .i64 a.f1.f0, .int .i64 a.f1.f1, .slice A3 a.f1.f2.length c3, .int .i64 a.f2.f0, .int .i64 a.f2.f1, .slice A6 a.f2.f2.length c6] 84)) (o := .cells #[.bool b.f0, .int .i64 b.f1.f0, .int .i64 b.f1.f1, .slice B3 b.f1.f2.length d3, .int .i64 b.f2.f0, .int .i64 b.f2.f1, .slice B6 b.f2.f2.length d6] 84) (k := w.heap.size + 1) (by simp)
  have A3_ := Aside0.mk a3
  have A6_ := Aside0.mk a6
  have B3_ := Aside0.mk b3
  have B6_ := Aside0.mk b6
  have ra1 := fun d os => cell_regrown ((blk_cell ga 1).trans rfl) d os
  have ra2 := fun d os => cell_regrown ((blk_cell ga 2).trans rfl) d os
  have ra3 := fun d os => cell_regrown ((blk_cell ga 3).trans rfl) d os
  have ra4 := fun d os => cell_regrown ((blk_cell ga 4).trans rfl) d os
  have ra5 := fun d os => cell_regrown ((blk_cell ga 5).trans rfl) d os
  have ra6 := fun d os => cell_regrown ((blk_cell ga 6).trans rfl) d os
  have rb1 := fun d os => cell_regrown ((blk_cell gb 1).trans rfl) d os
  have rb2 := fun d os => cell_regrown ((blk_cell gb 2).trans rfl) d os
  have rb3 := fun d os => cell_regrown ((blk_cell gb 3).trans rfl) d os
  have rb4 := fun d os => cell_regrown ((blk_cell gb 4).trans rfl) d os
  have rb5 := fun d os => cell_regrown ((blk_cell gb 5).trans rfl) d os
  have rb6 := fun d os => cell_regrown ((blk_cell gb 6).trans rfl) d os
  clear a3 a6 b3 b6 ga gb
  cases h1 : eqT a.f1 b.f1 with
  | true =>
    cases h2 : eqT a.f2 b.f2 with
    | true =>
      have HR := Aside0.mk (show sidesB a b = true by unfold sidesB; rw [h1, h2]; rfl)
      (go_enter Try.func56, Try.ntmps56; go_upto_region 1 with (fail); generalize (w.alloc (.cells #[.bool a.f0, .int .i64 a.f1.f0, .int .i64 a.f1.f1, .slice A3 a.f1.f2.length c3, .int .i64 a.f2.f0, .int .i64 a.f2.f1, .slice A6 a.f2.f2.length c6] 84)).alloc (.cells #[.bool b.f0, .int .i64 b.f1.f0, .int .i64 b.f1.f1, .slice B3 b.f1.f2.length d3, .int .i64 b.f2.f0, .int .i64 b.f2.f1, .slice B6 b.f2.f2.length d6] 84) = W at *; (refine wq_plain ?_; (repeat (refine wq_step (fun K hK => ?_); go_simp; first | (refine hK _ ?_; clear hK K) | (apply Exists.intro; refine ⟨fun _ => ?_, hK _ ?_⟩; ((first | ((with_reducible refine Calls.regrown_of (sameTerm_any _ a.f1 b.f1 A3 B3 c3 d3 oka okb _ (Nat.le_refl _) ?_ l3 ?_ m3)); (exact Kd.F_below A3_.out (hbT HB.out (below_regrown _ _ _))); exact Kd.F_below B3_.out (hbT HB.out (below_regrown _ _ _))) | ((with_reducible refine Calls.regrown_of (sameTerm_any _ a.f1 b.f2 A3 B6 c3 d6 oka okb _ (Nat.le_refl _) ?_ l3 ?_ m6)); (exact Kd.F_below A3_.out (hbT HB.out (below_regrown _ _ _))); exact Kd.F_below B6_.out (hbT HB.out (below_regrown _ _ _))) | ((with_reducible refine Calls.regrown_of (sameTerm_any _ a.f2 b.f1 A6 B3 c6 d3 oka okb _ (Nat.le_refl _) ?_ l6 ?_ m3)); (exact Kd.F_below A6_.out (hbT HB.out (below_regrown _ _ _))); exact Kd.F_below B3_.out (hbT HB.out (below_regrown _ _ _))) | ((with_reducible refine Calls.regrown_of (sameTerm_any _ a.f2 b.f2 A6 B6 c6 d6 oka okb _ (Nat.le_refl _) ?_ l6 ?_ m6)); (exact Kd.F_below A6_.out (hbT HB.out (below_regrown _ _ _))); exact Kd.F_below B6_.out (hbT HB.out (below_regrown _ _ _))))); clear hK K))); refine wq_nil ?_; intro W2 hbW2); go_wp2; go_ret; exact ⟨ret_bool HR.out.symm, hbT HB.out hbW2⟩)
    | false =>
      cases h3 : eqT a.f1 b.f2 with
      | true =>
        cases h4 : eqT a.f2 b.f1 with
        | true =>
          have HR := Aside0.mk (show sidesB a b = true by unfold sidesB; rw [h1, h2, h3, h4]; rfl)
          (go_enter Try.func56, Try.ntmps56; go_upto_region 1 with (fail); generalize (w.alloc (.cells #[.bool a.f0, .int .i64 a.f1.f0, .int .i64 a.f1.f1, .slice A3 a.f1.f2.length c3, .int .i64 a.f2.f0, .int .i64 a.f2.f1, .slice A6 a.f2.f2.length c6] 84)).alloc (.cells #[.bool b.f0, .int .i64 b.f1.f0, .int .i64 b.f1.f1, .slice B3 b.f1.f2.length d3, .int .i64 b.f2.f0, .int .i64 b.f2.f1, .slice B6 b.f2.f2.length d6] 84) = W at *; (refine wq_plain ?_; (repeat (refine wq_step (fun K hK => ?_); go_simp; first | (refine hK _ ?_; clear hK K) | (apply Exists.intro; refine ⟨fun _ => ?_, hK _ ?_⟩; ((first | ((with_reducible refine Calls.regrown_of (sameTerm_any _ a.f1 b.f1 A3 B3 c3 d3 oka okb _ (Nat.le_refl _) ?_ l3 ?_ m3)); (exact Kd.F_below A3_.out (hbT HB.out (below_regrown _ _ _))); exact Kd.F_below B3_.out (hbT HB.out (below_regrown _ _ _))) | ((with_reducible refine Calls.regrown_of (sameTerm_any _ a.f1 b.f2 A3 B6 c3 d6 oka okb _ (Nat.le_refl _) ?_ l3 ?_ m6)); (exact Kd.F_below A3_.out (hbT HB.out (below_regrown _ _ _))); exact Kd.F_below B6_.out (hbT HB.out (below_regrown _ _ _))) | ((with_reducible refine Calls.regrown_of (sameTerm_any _ a.f2 b.f1 A6 B3 c6 d3 oka okb _ (Nat.le_refl _) ?_ l6 ?_ m3)); (exact Kd.F_below A6_.out (hbT HB.out (below_regrown _ _ _))); exact Kd.F_below B3_.out (hbT HB.out (below_regrown _ _ _))) | ((with_reducible refine Calls.regrown_of (sameTerm_any _ a.f2 b.f2 A6 B6 c6 d6 oka okb _ (Nat.le_refl _) ?_ l6 ?_ m6)); (exact Kd.F_below A6_.out (hbT HB.out (below_regrown _ _ _))); exact Kd.F_below B6_.out (hbT HB.out (below_regrown _ _ _))))); clear hK K))); refine wq_nil ?_; intro W2 hbW2); go_wp2; go_ret; exact ⟨ret_bool HR.out.symm, hbT HB.out hbW2⟩)
        | false =>
          have HR := Aside0.mk (show sidesB a b = false by unfold sidesB; rw [h1, h2, h3, h4]; rfl)
          (go_enter Try.func56, Try.ntmps56; go_upto_region 1 with (fail); generalize (w.alloc (.cells #[.bool a.f0, .int .i64 a.f1.f0, .int .i64 a.f1.f1, .slice A3 a.f1.f2.length c3, .int .i64 a.f2.f0, .int .i64 a.f2.f1, .slice A6 a.f2.f2.length c6] 84)).alloc (.cells #[.bool b.f0, .int .i64 b.f1.f0, .int .i64 b.f1.f1, .slice B3 b.f1.f2.length d3, .int .i64 b.f2.f0, .int .i64 b.f2.f1, .slice B6 b.f2.f2.length d6] 84) = W at *; (refine wq_plain ?_; (repeat (refine wq_step (fun K hK => ?_); go_simp; first | (refine hK _ ?_; clear hK K) | (apply Exists.intro; refine ⟨fun _ => ?_, hK _ ?_⟩; ((first | ((with_reducible refine Calls.regrown_of (sameTerm_any _ a.f1 b.f1 A3 B3 c3 d3 oka okb _ (Nat.le_refl _) ?_ l3 ?_ m3)); (exact Kd.F_below A3_.out (hbT HB.out (below_regrown _ _ _))); exact Kd.F_below B3_.out (hbT HB.out (below_regrown _ _ _))) | ((with_reducible refine Calls.regrown_of (sameTerm_any _ a.f1 b.f2 A3 B6 c3 d6 oka okb _ (Nat.le_refl _) ?_ l3 ?_ m6)); (exact Kd.F_below A3_.out (hbT HB.out (below_regrown _ _ _))); exact Kd.F_below B6_.out (hbT HB.out (below_regrown _ _ _))) | ((with_reducible refine Calls.regrown_of (sameTerm_any _ a.f2 b.f1 A6 B3 c6 d3 oka okb _ (Nat.le_refl _) ?_ l6 ?_ m3)); (exact Kd.F_below A6_.out (hbT HB.out (below_regrown _ _ _))); exact Kd.F_below B3_.out (hbT HB.out (below_regrown _ _ _))) | ((with_reducible refine Calls.regrown_of (sameTerm_any _ a.f2 b.f2 A6 B6 c6 d6 oka okb _ (Nat.le_refl _) ?_ l6 ?_ m6)); (exact Kd.F_below A6_.out (hbT HB.out (below_regrown _ _ _))); exact Kd.F_below B6_.out (hbT HB.out (below_regrown _ _ _))))); clear hK K))); refine wq_nil ?_; intro W2 hbW2); go_wp2; go_ret; exact ⟨ret_bool HR.out.symm, hbT HB.out hbW2⟩)
      | false =>
        have HR := Aside0.mk (show sidesB a b = false by unfold sidesB; rw [h1, h2, h3]; rfl)
        (go_enter Try.func56, Try.ntmps56; go_upto_region 1 with (fail); generalize (w.alloc (.cells #[.bool a.f0, .int .i64 a.f1.f0, .int .i64 a.f1.f1, .slice A3 a.f1.f2.length c3, .int .i64 a.f2.f0, .int .i64 a.f2.f1, .slice A6 a.f2.f2.length c6] 84)).alloc (.cells #[.bool b.f0, .int .i64 b.f1.f0, .int .i64 b.f1.f1, .slice B3 b.f1.f2.length d3, .int .i64 b.f2.f0, .int .i64 b.f2.f1, .slice B6 b.f2.f2.length d6] 84) = W at *; (refine wq_plain ?_; (repeat (refine wq_step (fun K hK => ?_); go_simp; first | (refine hK _ ?_; clear hK K) | (apply Exists.intro; refine ⟨fun _ => ?_, hK _ ?_⟩; ((first | ((with_reducible refine Calls.regrown_of (sameTerm_any _ a.f1 b.f1 A3 B3 c3 d3 oka okb _ (Nat.le_refl _) ?_ l3 ?_ m3)); (exact Kd.F_below A3_.out (hbT HB.out (below_regrown _ _ _))); exact Kd.F_below B3_.out (hbT HB.out (below_regrown _ _ _))) | ((with_reducible refine Calls.regrown_of (sameTerm_any _ a.f1 b.f2 A3 B6 c3 d6 oka okb _ (Nat.le_refl _) ?_ l3 ?_ m6)); (exact Kd.F_below A3_.out (hbT HB.out (below_regrown _ _ _))); exact Kd.F_below B6_.out (hbT HB.out (below_regrown _ _ _))) | ((with_reducible refine Calls.regrown_of (sameTerm_any _ a.f2 b.f1 A6 B3 c6 d3 oka okb _ (Nat.le_refl _) ?_ l6 ?_ m3)); (exact Kd.F_below A6_.out (hbT HB.out (below_regrown _ _ _))); exact Kd.F_below B3_.out (hbT HB.out (below_regrown _ _ _))) | ((with_reducible refine Calls.regrown_of (sameTerm_any _ a.f2 b.f2 A6 B6 c6 d6 oka okb _ (Nat.le_refl _) ?_ l6 ?_ m6)); (exact Kd.F_below A6_.out (hbT HB.out (below_regrown _ _ _))); exact Kd.F_below B6_.out (hbT HB.out (below_regrown _ _ _))))); clear hK K))); refine wq_nil ?_; intro W2 hbW2); go_wp2; go_ret; exact ⟨ret_bool HR.out.symm, hbT HB.out hbW2⟩)
  | false =>
    cases h3 : eqT a.f1 b.f2 with
    | true =>
      cases h4 : eqT a.f2 b.f1 with
      | true =>
        have HR := Aside0.mk (show sidesB a b = true by unfold sidesB; rw [h1, h3, h4]; rfl)
        (go_enter Try.func56, Try.ntmps56; go_upto_region 1 with (fail); generalize (w.alloc (.cells #[.bool a.f0, .int .i64 a.f1.f0, .int .i64 a.f1.f1, .slice A3 a.f1.f2.length c3, .int .i64 a.f2.f0, .int .i64 a.f2.f1, .slice A6 a.f2.f2.length c6] 84)).alloc (.cells #[.bool b.f0, .int .i64 b.f1.f0, .int .i64 b.f1.f1, .slice B3 b.f1.f2.length d3, .int .i64 b.f2.f0, .int .i64 b.f2.f1, .slice B6 b.f2.f2.length d6] 84) = W at *; (refine wq_plain ?_; (repeat (refine wq_step (fun K hK => ?_); go_simp; first | (refine hK _ ?_; clear hK K) | (apply Exists.intro; refine ⟨fun _ => ?_, hK _ ?_⟩; ((first | ((with_reducible refine Calls.regrown_of (sameTerm_any _ a.f1 b.f1 A3 B3 c3 d3 oka okb _ (Nat.le_refl _) ?_ l3 ?_ m3)); (exact Kd.F_below A3_.out (hbT HB.out (below_regrown _ _ _))); exact Kd.F_below B3_.out (hbT HB.out (below_regrown _ _ _))) | ((with_reducible refine Calls.regrown_of (sameTerm_any _ a.f1 b.f2 A3 B6 c3 d6 oka okb _ (Nat.le_refl _) ?_ l3 ?_ m6)); (exact Kd.F_below A3_.out (hbT HB.out (below_regrown _ _ _))); exact Kd.F_below B6_.out (hbT HB.out (below_regrown _ _ _))) | ((with_reducible refine Calls.regrown_of (sameTerm_any _ a.f2 b.f1 A6 B3 c6 d3 oka okb _ (Nat.le_refl _) ?_ l6 ?_ m3)); (exact Kd.F_below A6_.out (hbT HB.out (below_regrown _ _ _))); exact Kd.F_below B3_.out (hbT HB.out (below_regrown _ _ _))) | ((with_reducible refine Calls.regrown_of (sameTerm_any _ a.f2 b.f2 A6 B6 c6 d6 oka okb _ (Nat.le_refl _) ?_ l6 ?_ m6)); (exact Kd.F_below A6_.out (hbT HB.out (below_regrown _ _ _))); exact Kd.F_below B6_.out (hbT HB.out (below_regrown _ _ _))))); clear hK K))); refine wq_nil ?_; intro W2 hbW2); go_wp2; go_ret; exact ⟨ret_bool HR.out.symm, hbT HB.out hbW2⟩)
      | false =>
        have HR := Aside0.mk (show sidesB a b = false by unfold sidesB; rw [h1, h3, h4]; rfl)
        (go_enter Try.func56, Try.ntmps56; go_upto_region 1 with (fail); generalize (w.alloc (.cells #[.bool a.f0, .int .i64 a.f1.f0, .int .i64 a.f1.f1, .slice A3 a.f1.f2.length c3, .int .i64 a.f2.f0, .int .i64 a.f2.f1, .slice A6 a.f2.f2.length c6] 84)).alloc (.cells #[.bool b.f0, .int .i64 b.f1.f0, .int .i64 b.f1.f1, .slice B3 b.f1.f2.length d3, .int .i64 b.f2.f0, .int .i64 b.f2.f1, .slice B6 b.f2.f2.length d6] 84) = W at *; (refine wq_plain ?_; (repeat (refine wq_step (fun K hK => ?_); go_simp; first | (refine hK _ ?_; clear hK K) | (apply Exists.intro; refine ⟨fun _ => ?_, hK _ ?_⟩; ((first | ((with_reducible refine Calls.regrown_of (sameTerm_any _ a.f1 b.f1 A3 B3 c3 d3 oka okb _ (Nat.le_refl _) ?_ l3 ?_ m3)); (exact Kd.F_below A3_.out (hbT HB.out (below_regrown _ _ _))); exact Kd.F_below B3_.out (hbT HB.out (below_regrown _ _ _))) | ((with_reducible refine Calls.regrown_of (sameTerm_any _ a.f1 b.f2 A3 B6 c3 d6 oka okb _ (Nat.le_refl _) ?_ l3 ?_ m6)); (exact Kd.F_below A3_.out (hbT HB.out (below_regrown _ _ _))); exact Kd.F_below B6_.out (hbT HB.out (below_regrown _ _ _))) | ((with_reducible refine Calls.regrown_of (sameTerm_any _ a.f2 b.f1 A6 B3 c6 d3 oka okb _ (Nat.le_refl _) ?_ l6 ?_ m3)); (exact Kd.F_below A6_.out (hbT HB.out (below_regrown _ _ _))); exact Kd.F_below B3_.out (hbT HB.out (below_regrown _ _ _))) | ((with_reducible refine Calls.regrown_of (sameTerm_any _ a.f2 b.f2 A6 B6 c6 d6 oka okb _ (Nat.le_refl _) ?_ l6 ?_ m6)); (exact Kd.F_below A6_.out (hbT HB.out (below_regrown _ _ _))); exact Kd.F_below B6_.out (hbT HB.out (below_regrown _ _ _))))); clear hK K))); refine wq_nil ?_; intro W2 hbW2); go_wp2; go_ret; exact ⟨ret_bool HR.out.symm, hbT HB.out hbW2⟩)
    | false =>
      have HR := Aside0.mk (show sidesB a b = false by unfold sidesB; rw [h1, h3]; rfl)
      (go_enter Try.func56, Try.ntmps56; go_upto_region 1 with (fail); generalize (w.alloc (.cells #[.bool a.f0, .int .i64 a.f1.f0, .int .i64 a.f1.f1, .slice A3 a.f1.f2.length c3, .int .i64 a.f2.f0, .int .i64 a.f2.f1, .slice A6 a.f2.f2.length c6] 84)).alloc (.cells #[.bool b.f0, .int .i64 b.f1.f0, .int .i64 b.f1.f1, .slice B3 b.f1.f2.length d3, .int .i64 b.f2.f0, .int .i64 b.f2.f1, .slice B6 b.f2.f2.length d6] 84) = W at *; (refine wq_plain ?_; (repeat (refine wq_step (fun K hK => ?_); go_simp; first | (refine hK _ ?_; clear hK K) | (apply Exists.intro; refine ⟨fun _ => ?_, hK _ ?_⟩; ((first | ((with_reducible refine Calls.regrown_of (sameTerm_any _ a.f1 b.f1 A3 B3 c3 d3 oka okb _ (Nat.le_refl _) ?_ l3 ?_ m3)); (exact Kd.F_below A3_.out (hbT HB.out (below_regrown _ _ _))); exact Kd.F_below B3_.out (hbT HB.out (below_regrown _ _ _))) | ((with_reducible refine Calls.regrown_of (sameTerm_any _ a.f1 b.f2 A3 B6 c3 d6 oka okb _ (Nat.le_refl _) ?_ l3 ?_ m6)); (exact Kd.F_below A3_.out (hbT HB.out (below_regrown _ _ _))); exact Kd.F_below B6_.out (hbT HB.out (below_regrown _ _ _))) | ((with_reducible refine Calls.regrown_of (sameTerm_any _ a.f2 b.f1 A6 B3 c6 d3 oka okb _ (Nat.le_refl _) ?_ l6 ?_ m3)); (exact Kd.F_below A6_.out (hbT HB.out (below_regrown _ _ _))); exact Kd.F_below B3_.out (hbT HB.out (below_regrown _ _ _))) | ((with_reducible refine Calls.regrown_of (sameTerm_any _ a.f2 b.f2 A6 B6 c6 d6 oka okb _ (Nat.le_refl _) ?_ l6 ?_ m6)); (exact Kd.F_below A6_.out (hbT HB.out (below_regrown _ _ _))); exact Kd.F_below B6_.out (hbT HB.out (below_regrown _ _ _))))); clear hK K))); refine wq_nil ?_; intro W2 hbW2); go_wp2; go_ret; exact ⟨ret_bool HR.out.symm, hbT HB.out hbW2⟩)

end Go.Proofs.Ytcgnpmjkeifokaa
-- K12
/- The part at a place: term.Find, plain laws. -/
namespace Go.Proofs.Ytcgnpmjkeifokaa
open Go.RowKit Go.Proofs.YtcgnpmjkeifokaaW.PrintWords
set_option linter.unusedVariables false
set_option linter.unusedSimpArgs false

/-- The part at a place. -/
def atP : Tm → List Int → Option Tm
  | t, [] => some t
  | t, i :: p => if 0 ≤ i ∧ i < t.f2.length then atP (rd_Tm t.f2 i) p else none
def atT (t : Tm) (p : List Int) : Tm := (atP t p).getD zTm
def atB (t : Tm) (p : List Int) : Bool := (atP t p).isSome
theorem atP_drop (x : Tm) (p : List Int) (k : Nat) (h : k < p.length) : atP x (p.drop k) = if 0 ≤ p.getD k 0 ∧ p.getD k 0 < x.f2.length then atP (rd_Tm x.f2 (p.getD k 0)) (p.drop (k+1)) else none := by
  rw [List.drop_eq_getElem_cons h, atP]
  have : p.getD k 0 = p[k] := by simp [List.getD_eq_getElem?_getD, h]
  rw [this]

/-! ### a store into a block that is known whole -/
theorem sizeTm : (Try.prog.info? 46).map (·.size) = some 3 := by kernel_rfl
theorem sizeTs : (Try.prog.info? 44).map (·.size) = some 1 := by kernel_rfl
theorem gbS {w w1 w2 : World} {g : Nat} (h : Below w.heap.size w w1) (k : w1.grownBy w2 (some g)) (hg : w.heap.size ≤ g) : Below w.heap.size w w2 :=
  ⟨k.os.trans h.os, k.tape.trans h.tape, k.output.trans h.output, Nat.le_trans h.size k.size, fun i hi => (k.block i (Nat.lt_of_lt_of_le hi h.size) (by intro e; injection e with e; omega)).trans (h.block i hi)⟩
section
variable {P : Program} {ops : Array Oper} {rest : List Oper} {o : Oper} {a : Act} {Q : Exit → Act → World → Prop} {W : World}
theorem run_blk {t : TypeId} {g off : Nat} {e : TypeId} {cur : Array Value} (cur' : Array Value) {u : Value} (seg : List Value) (hu : u.cells.toList = seg) (ht : (P.info? t).map (·.size) = some seg.length) (h1 : ∀ q ∈ seg, q.oneCell' = true)
    (hh : W.heap[g]? = some (.cells cur e (0, 0))) (hfit : off + seg.length ≤ cur.size) (hc : cur.toList.take off ++ seg ++ cur.toList.drop (off + seg.length) = cur'.toList) :
    ∃ w1, (Instr.storeAt t (.pointer (some ⟨g, off, none⟩)) u).run P W = .ok () w1 ∧ w1.heap[g]? = some (.cells cur' e (0, 0)) ∧ W.grownBy w1 (some g) ∧ w1.heap.size = W.heap.size := by
  refine ⟨_, run_store_run t u seg hh hu ht hfit h1, ?_, ?_, ?_⟩
  · obtain ⟨c2, h2, _, h4⟩ := setCells_row seg off W cur hh hfit
    rw [h2, show c2 = cur' from Array.toList_inj.1 (h4.trans hc)]
  · obtain ⟨s1, s2, s3, s4⟩ := setCells_same g seg off W
    exact ⟨s1, s2, s3, by rw [s4]; exact Nat.le_refl _, fun k _ hk => setCells_far _ _ k (fun he => hk (by rw [he]))⟩
  · exact (setCells_same g seg off W).2.2.2
theorem st_blk (hgd : o.guard = none) (hN : o.dst = none) {t : TypeId} {p x : Operand} (ho : o.op = .store t p x) {g off : Nat} {e : TypeId} {cur : Array Value} (cur' : Array Value) {u : Value} (seg : List Value)
    (haddr : a.eval p = .pointer (some ⟨g, off, none⟩)) (hx : a.eval x = u) (hu : u.cells.toList = seg) (ht : (P.info? t).map (·.size) = some seg.length) (h1 : ∀ q ∈ seg, q.oneCell' = true)
    (hh : W.heap[g]? = some (.cells cur e (0, 0))) (hfit : off + seg.length ≤ cur.size) (hc : cur.toList.take off ++ seg ++ cur.toList.drop (off + seg.length) = cur'.toList)
    (h : ∀ w1, w1.heap[g]? = some (.cells cur' e (0, 0)) → W.grownBy w1 (some g) → w1.heap.size = W.heap.size → wpList P ops Q rest a w1) : wpList P ops Q (o :: rest) a W := by
  obtain ⟨w1, hr, h2, h3, h4⟩ := run_blk (P := P) cur' seg hu ht h1 hh hfit hc
  refine wpList_plain hgd fun K hK => ?_
  unfold Oper.wp execOp
  simp only [ho, haddr, hx, Sem.run_bind, Sem.run_pure, Result.andThen_ok, hr]
  show K (a.put o.dst undef) _
  rw [hN]
  exact hK a _ (h _ h2 h3 h4)
end
theorem one3 (a b : Int) (A : Option Addr) (n c : Nat) : ∀ q ∈ [Value.int .i64 a, .int .i64 b, .slice A n c], q.oneCell' = true := by
  intro q hq
  simp only [List.mem_cons, List.not_mem_nil, or_false] at hq
  rcases hq with rfl | rfl | rfl <;> rfl
theorem one1 (A : Option Addr) (n c : Nat) : ∀ q ∈ [Value.slice A n c], q.oneCell' = true := by
  intro q hq
  simp only [List.mem_cons, List.not_mem_nil, or_false] at hq
  subst hq; rfl
section
variable {ops : Array Oper} {rest : List Oper} {o : Oper} {act : Act} {Q : Exit → Act → World → Prop} {W : World}
/-- A term into a term's own block. -/
theorem st_tm (p : Tmp) {x : Operand} (ho : o.op = .store 46 (.tmp p) x) (hgd : o.guard = none) (hN : o.dst = none) {g : Nat} {a b a' b' : Int} {A A' : Option Addr} {n c n' c' : Nat}
    (haddr : act.eval (.tmp p) = .pointer (some ⟨g, 0, none⟩)) (hx : act.eval x = .agg #[.int .i64 a', .int .i64 b', .slice A' n' c'])
    (hh : W.heap[g]? = some (.cells #[.int .i64 a, .int .i64 b, .slice A n c] 46 (0, 0)))
    (h : ∀ w1, w1.heap[g]? = some (.cells #[.int .i64 a', .int .i64 b', .slice A' n' c'] 46 (0, 0)) → W.grownBy w1 (some g) → w1.heap.size = W.heap.size → wpList Try.prog ops Q rest act w1) : wpList Try.prog ops Q (o :: rest) act W :=
  st_blk hgd hN ho #[.int .i64 a', .int .i64 b', .slice A' n' c'] [.int .i64 a', .int .i64 b', .slice A' n' c'] haddr hx rfl sizeTm (one3 _ _ _ _ _) hh (Nat.le_refl 3) rfl h
/-- The arguments of a term's own block. -/
theorem st_args (p : Tmp) {x : Operand} (ho : o.op = .store 44 (.tmp p) x) (hgd : o.guard = none) (hN : o.dst = none) {g : Nat} {a b : Int} {A A' : Option Addr} {n c n' c' : Nat}
    (haddr : act.eval (.tmp p) = .pointer (some ⟨g, 2, none⟩)) (hx : act.eval x = .slice A' n' c')
    (hh : W.heap[g]? = some (.cells #[.int .i64 a, .int .i64 b, .slice A n c] 46 (0, 0)))
    (h : ∀ w1, w1.heap[g]? = some (.cells #[.int .i64 a, .int .i64 b, .slice A' n' c'] 46 (0, 0)) → W.grownBy w1 (some g) → w1.heap.size = W.heap.size → wpList Try.prog ops Q rest act w1) : wpList Try.prog ops Q (o :: rest) act W :=
  st_blk hgd hN ho #[.int .i64 a, .int .i64 b, .slice A' n' c'] [.slice A' n' c'] haddr hx rfl sizeTs (one1 _ _ _) hh (Nat.le_refl 3) rfl h
end

theorem F_none (w : World) (ok : Nat → Prop) : Kd.F kTm w ok none zTm.f2.length zTm.f2 := fun W' _ => Kd.C_nil _ _

set_option maxHeartbeats 4000000 in
set_option maxRecDepth 100000 in
theorem find_any (t : Tm) (A : Option Addr) (c : Nat) (p : List Int) (Ap : Option Addr) (cp : Nat) (ok : Nat → Prop) (w : World) (hF : Kd.F kTm w ok A t.f2.length t.f2) (hc : t.f2.length ≤ c) (hP : Kd.C (Kd.int .i64) w Ap p.length p) :
    Calls Try.prog 92 #[.agg #[.int .i64 t.f0, .int .i64 t.f1, .slice A t.f2.length c], .slice Ap p.length cp] w fun e w' => ∃ A' c', e = .returned (.tuple #[.agg #[.int .i64 (atT t p).f0, .int .i64 (atT t p).f1, .slice A' (atT t p).f2.length c'], .bool (atB t p)]) ∧ (atT t p).f2.length ≤ c' ∧ Kd.F kTm w' ok A' (atT t p).f2.length (atT t p).f2 ∧ Below w.heap.size w w' := by
  have hlen := Kd.F_max hF
  have hplen := hP.2.1
  have HF := Aside0.mk hF
  have HP := Aside0.mk hP
  clear hF hP
  go_enter Try.func92, Try.ntmps92
  go_wp2
  go_loopw [10] (fun i wr => ∃ (k : Nat) (x : Tm) (A2 : Option Addr) (c2 : Nat), k ≤ p.length ∧ i = .int .i64 k ∧ Aside0 (Kd.F kTm wr (fun k => ok k ∧ k < w.heap.size) A2 x.f2.length x.f2) ∧ x.f2.length ≤ c2 ∧ Aside0 (atP t p = atP x (p.drop k)) ∧ Aside0 (Below w.heap.size w wr) ∧ wr.heap[w.heap.size]? = some (.cells #[.int .i64 x.f0, .int .i64 x.f1, .slice A2 x.f2.length c2] 46 (0, 0)) ∧ wr.heap[w.heap.size + 1]? = some (.cells #[.int .i64 0, .int .i64 0, .slice none 0 0] 46 (0, 0))) (fun i _ => p.length - (intOf i).toNat)
  case atStart => exact ⟨0, t, A, c, by omega, rfl, ⟨Kd.F_below (Kd.F_bound HF.out) (below_alloc (below_alloc (Below.refl _ _) _) _)⟩, hc, ⟨rfl⟩, ⟨below_alloc (below_alloc (Below.refl _ _) _) _⟩, blk_alloc (newAt rfl) _, newAt (by simp)⟩
  case round =>
    obtain ⟨k, x, A2, c2, hk, rfl, HX, hc2, HA, HB, hg, hr⟩ := hrel
    have g2 := (blk_cell hg 2).trans rfl
    have HG := Aside0.mk hg
    have HR := Aside0.mk hr
    have hg3 := blk_lt hg
    have hr3 := blk_lt hr
    have r0 := (blk_cell hr 0).trans rfl
    have r1 := (blk_cell hr 1).trans rfl
    have r2 := (blk_cell hr 2).trans rfl
    clear hg hr
    have hxl := Kd.F_max HX.out
    by_cases hlt : k < p.length
    · obtain ⟨ap, rfl, ep⟩ := at_Int (Kd.C_below HP.out HB.out) (k : Int) (by omega) (by omega)
      simp only [Int.toNat_natCast] at ep
      have HD := Aside0.mk (atP_drop x p k hlt)
      generalize p.getD k 0 = y at *
      by_cases h0 : y < 0
      · have HN : Aside0 (atP t p = none) := ⟨by rw [HA.out, HD.out, if_neg (by omega)]⟩
        go_wp2_with (((with_reducible refine gate_store (t := 46) (p := 4) rfl ?_); refine st_tm 4 rfl rfl rfl rfl rfl HR.out ?_); intro w1 hs1 hG1 hz1; have HS1 := Aside0.mk hs1; have HG1 := Aside0.mk hG1; clear hs1 hG1 r0 r1 r2)
        ((try simp only [Exit.inBlock, Exit.then]); refine bodyPost_ret (results_ct rfl _ _ _ 46 _ (0, 0) _ rfl HS1.out Try.underlying46 rfl (by kernel_rfl)) rfl ?_)
        exact ⟨none, 0, by rw [atT, atB, HN.out]; rfl, by rw [atT, HN.out]; exact Nat.le_refl _, by rw [atT, HN.out]; exact F_none _ _, gbS HB.out HG1.out (by omega)⟩
      by_cases h1 : (x.f2.length : Int) ≤ y
      · have HN : Aside0 (atP t p = none) := ⟨by rw [HA.out, HD.out, if_neg (by omega)]⟩
        go_wp2_with (((with_reducible refine gate_store (t := 46) (p := 4) rfl ?_); refine st_tm 4 rfl rfl rfl rfl rfl HR.out ?_); intro w1 hs1 hG1 hz1; have HS1 := Aside0.mk hs1; have HG1 := Aside0.mk hG1; clear hs1 hG1 r0 r1 r2)
        ((try simp only [Exit.inBlock, Exit.then]); refine bodyPost_ret (results_ct rfl _ _ _ 46 _ (0, 0) _ rfl HS1.out Try.underlying46 rfl (by kernel_rfl)) rfl ?_)
        exact ⟨none, 0, by rw [atT, atB, HN.out]; rfl, by rw [atT, HN.out]; exact Nat.le_refl _, by rw [atT, HN.out]; exact F_none _ _, gbS HB.out HG1.out (by omega)⟩
      obtain ⟨ad, A3, c3, rfl, E0, E1, E2, hl3, hF3, _⟩ := at_TmF HX.out y (by omega) (by omega)
      have HF3 := Aside0.mk hF3
      clear hF3
      go_wp2_with (((with_reducible refine gate_store (t := 46) (p := 2) rfl ?_); refine st_tm 2 rfl rfl rfl rfl rfl HG.out ?_); intro w1 hs1 hG1 hz1; have HS1 := Aside0.mk hs1; have HG1 := Aside0.mk hG1; clear hs1 hG1 r0 r1 r2 E0 E1 E2)
      go_roundw
      case rel =>
        exact ⟨k + 1, rd_Tm x.f2 y, A3, c3, by omega, by go_num, ⟨Kd.F_grown HF3.out HG1.out (fun k' hk' => by intro e; injection e with e; have := hk'.2; omega)⟩, hl3, ⟨by rw [HA.out, HD.out, if_pos (by omega)]⟩, ⟨gbS HB.out HG1.out (by omega)⟩, HS1.out, (HG1.out.block _ hr3 (by simp)).trans HR.out⟩
      case measure => simp [intOf]; omega
    · obtain rfl : k = p.length := by omega
      have HS : Aside0 (atP t p = some x) := ⟨by rw [HA.out, List.drop_length, atP]⟩
      have g0 := (blk_cell HG.out 0).trans rfl
      have g1 := (blk_cell HG.out 1).trans rfl
      go_wp2_with (((with_reducible refine gate_store (t := 46) (p := 4) rfl ?_); refine st_tm 4 rfl rfl rfl rfl rfl HR.out ?_); intro w1 hs1 hG1 hz1; have HS1 := Aside0.mk hs1; have HG1 := Aside0.mk hG1; clear hs1 hG1 r0 r1 r2)
      ((try simp only [Exit.inBlock, Exit.then]); refine bodyPost_ret (results_ct rfl _ _ _ 46 _ (0, 0) _ rfl HS1.out Try.underlying46 rfl (by kernel_rfl)) rfl ?_)
      exact ⟨A2, c2, by rw [atT, atB, HS.out]; rfl, by rw [atT, HS.out]; exact hc2, by rw [atT, HS.out]; exact Kd.F_mono (Kd.F_grown HX.out HG1.out (fun k' hk' => by intro e; injection e with e; have := hk'.2; omega)) (fun k' hk' => hk'.1), gbS HB.out HG1.out (by omega)⟩
end Go.Proofs.Ytcgnpmjkeifokaa
-- KHead
/- A statement that draws its order: its first n operations in whatever order, a relation S held behind each; then the others (the stores), which wait for all of them, in the text's order, where S need not hold. -/
namespace Go.Proofs.Ytcgnpmjkeifokaa
open Go.RowKit Go.Proofs.YtcgnpmjkeifokaaW.PrintWords
set_option linter.unusedVariables false

section
variable {P : Program} {ops : Array Oper} {Q : Exit → Act → World → Prop} {md : Region.Mode} {S : World → Prop} {n : Nat} {L : Array Bool → Act → World → Prop}

/-- The head, in whatever order; then L. -/
def Hd (P : Program) (md : Region.Mode) (ops : Array Oper) (Q : Exit → Act → World → Prop) (S : World → Prop) (n : Nat) (L : Array Bool → Act → World → Prop) : Nat → Array Bool → Act → World → Prop
  | 0, listed, a, w => L listed a w
  | f + 1, listed, a, w => Region.ready md ops listed ≠ [] ∧ ∀ i ∈ Region.ready md ops listed, i < n ∧ wpOp P ops Q i (fun a' w' => S w' ∧ Hd P md ops Q S n L f (listed.setIfInBounds i true) a' w') a w

theorem hd_any {g : Nat} (hL : ∀ listed a w, L listed a w → wpAny P md ops Q g listed a w) :
    ∀ (f : Nat) (listed : Array Bool) (a : Act) (w : World), Hd P md ops Q S n L f listed a w → wpAny P md ops Q (f + g) listed a w
  | 0, listed, a, w, h => by rw [Nat.zero_add]; exact hL _ _ _ h
  | f + 1, listed, a, w, h => by
    rw [show f + 1 + g = (f + g) + 1 by omega]
    exact ⟨fun h0 => absurd h0 h.1, fun i hi => wpOp_mono (fun a' w' h' => hd_any hL f _ a' w' h'.2) (h.2 i hi).2⟩

/-- All from n on wait for operation i. -/
def tailsB (md : Region.Mode) (ops : Array Oper) (n i : Nat) : Bool := (List.range ops.size).all fun t => decide (t < n) || Region.waitsFor md ops t i
theorem tails_not {i : Nat} (h : tailsB md ops n i = true) {listed : Array Bool} (hun : listed.getD i true = false) : ∀ t, n ≤ t → t ∉ Region.ready md ops listed := by
  intro t ht hr
  obtain ⟨_, ot, hot, hall⟩ := mem_ready.1 hr
  have htlt : t < ops.size := (Array.getElem?_eq_some_iff.1 hot).1
  have h1 := List.all_eq_true.1 h t (List.mem_range.2 htlt)
  simp only [Bool.or_eq_true, decide_eq_true_eq] at h1
  rcases h1 with h1 | h1
  · omega
  · obtain ⟨o', ho', e, he, hb, hon⟩ := Region.waitsFor_spec h1
    have : o' = ot := Option.some.inj (ho'.symm.trans hot)
    subst this
    have h2 := hall e he hb
    rw [hon, getD_both hun] at h2
    cases h2

theorem hd_first {i : Nat} {oi : Oper} {v : Value} (hi : ops[i]? = some oi) (hsel : ∀ (j : Nat) (o : Oper) cs b, ops[j]? = some o → o.op ≠ .select cs b)
    (hQ : ∀ c a w, Q (.panic c) (a.put oi.dst v) w → Q (.panic c) a w) (hin : i < n) (htl : tailsB md ops n i = true) (hdone : ∀ listed a w, L listed a w → ∀ j ∈ Region.ready md ops listed, n ≤ j) :
    ∀ (f : Nat) (listed : Array Bool) (a : Act) (w : World),
      (∀ j oj, ops[j]? = some oj → j ≠ i → listed.getD j true = false → (∀ e ∈ oj.after, Region.binds md e = true → e.on ≠ i) → oi.apart ops oj = true) →
      i ∈ Region.ready md ops listed → YieldsIf P ops S oi v a → S w →
      Hd P md ops Q S n L f (listed.setIfInBounds i true) (a.put oi.dst v) w → Hd P md ops Q S n L (f + 1) listed a w := by
  intro f
  induction f with
  | zero =>
    intro listed a w _ hr hy hS H
    have hun := (mem_ready.1 hr).1
    refine ⟨fun h => (by rw [h] at hr; cases hr), fun j hj => ?_⟩
    by_cases hji : j = i
    · subst hji; exact ⟨hin, hy.wpOp hi hS ⟨hS, H⟩⟩
    · exact absurd hj (tails_not htl hun j (hdone _ _ _ H j (ready_mono hj hji)))
  | succ f ih =>
    intro listed a w hfree hr hy hS H
    have hun := (mem_ready.1 hr).1
    refine ⟨fun h => (by rw [h] at hr; cases hr), fun j hj => ?_⟩
    by_cases hji : j = i
    · subst hji; exact ⟨hin, hy.wpOp hi hS ⟨hS, H⟩⟩
    · have h1 := (H.2 j (ready_mono hj hji)).2
      refine ⟨(H.2 j (ready_mono hj hji)).1, ?_⟩
      obtain ⟨hjun, oj, hoj, hall⟩ := mem_ready.1 hj
      have hnot : ∀ e ∈ oj.after, Region.binds md e = true → e.on ≠ i := fun e he hb heq => by
        have h1 := hall e he hb
        rw [heq, getD_both hun] at h1
        cases h1
      have h2 := wpOp_putIf hoj (hfree j oj hoj hji hjun hnot) (fun cs b => hsel i oi cs b hi) (fun cs b => hsel j oj cs b hoj) hQ hy h1
      have hfree' : ∀ k ok, ops[k]? = some ok → k ≠ i → (listed.setIfInBounds j true).getD k true = false →
          (∀ e ∈ ok.after, Region.binds md e = true → e.on ≠ i) → oi.apart ops ok = true := fun k ok hk hki hun hno => by
        refine hfree k ok hk hki ?_ hno
        by_cases hjk : j = k
        · subst hjk; exact hjun
        · rw [getD_set_ne true hjk] at hun; exact hun
      refine wpOp_mono (fun a' w' h3 => ⟨h3.2.1, ih (listed.setIfInBounds j true) a' w' hfree' (ready_mono hr (Ne.symm hji)) h3.1 h3.2.1 ?_⟩) h2
      rw [Array.setIfInBounds_comm _ _ hji]
      exact h3.2.2
end

section
variable {P : Program} {ops : Array Oper} {Q : Exit → Act → World → Prop} {S : World → Prop} {n g : Nat} {T : Act → World → Prop}
/-- The head of a region; then T, the others being in the text's order. -/
structure HD (P : Program) (ops : Array Oper) (Q : Exit → Act → World → Prop) (S : World → Prop) (n g : Nat) (T : Act → World → Prop) (f : Nat) (listed : Array Bool) (a : Act) (w : World) : Prop where
  mk :: (out : Hd P .any ops Q S n (fun listed a w => Region.seqB .any ops g n listed = true ∧ T a w) f listed a w)

theorem hd_take {f i : Nat} {oi : Oper} {v : Value} {listed : Array Bool} {a : Act} {w : World} (hi : ops[i]? = some oi) (hs : Region.noSelect ops = true) (hf : Region.free .any ops listed i = true)
    (hr : (Region.ready .any ops listed).contains i = true) (htl : tailsB .any ops n i = true) (hin : i < n) (hQ : ∀ c a w, Q (.panic c) (a.put oi.dst v) w → Q (.panic c) a w)
    (hw : Region.wanted oi (yielded ops a.tmps) = true) (hy : ∀ w, S w → (execOp a.eval oi).run P w = .ok (.value v) w) (hS : S w)
    (h : HD P ops Q S n g T f (listed.setIfInBounds i true) (a.put oi.dst v) w) : HD P ops Q S n g T (f + 1) listed a w :=
  ⟨hd_first hi (Region.noSelect_spec hs) hQ hin htl (fun _ _ _ hL => seqB_ready hL.1) f listed a w (Region.free_spec hi hf) (by simpa using hr) (.inl ⟨hw, hy⟩) hS h.out⟩
/-- One alone can come up. -/
theorem hd_one {f i : Nat} {oi : Oper} {listed : Array Bool} {a : Act} {w : World} (hi : ops[i]? = some oi) (hr : Region.ready .any ops listed = [i]) (hin : i < n)
    (h : ∀ K : Act → World → Prop, Shut (∀ a w, S w → (S w → HD P ops Q S n g T f (listed.setIfInBounds i true) a w) → K a w) → if Region.wanted oi (yielded ops a.tmps) = true then Oper.wp P oi a w K Q else K (a.put oi.dst undef) w) : HD P ops Q S n g T (f + 1) listed a w :=
  ⟨⟨fun h0 => (by rw [hr] at h0; cases h0), fun j hj => (by
    rw [hr] at hj
    have : j = i := by simpa using hj
    subst this
    exact ⟨hin, wpOp_step hi (fun K hK => h K (fun a w hS hH => hK a w ⟨hS, (hH hS).out⟩))⟩)⟩⟩
/-- Two can come up. -/
theorem hd_two {f i j : Nat} {listed : Array Bool} {a : Act} {w : World} {oi oj : Oper} (hi : ops[i]? = some oi) (hj : ops[j]? = some oj) (hr : Region.ready .any ops listed = [i, j]) (hin : i < n) (hjn : j < n)
    (h1 : ∀ K : Act → World → Prop, Shut (∀ a w, S w → (S w → HD P ops Q S n g T f (listed.setIfInBounds i true) a w) → K a w) → if Region.wanted oi (yielded ops a.tmps) = true then Oper.wp P oi a w K Q else K (a.put oi.dst undef) w)
    (h2 : ∀ K : Act → World → Prop, Shut (∀ a w, S w → (S w → HD P ops Q S n g T f (listed.setIfInBounds j true) a w) → K a w) → if Region.wanted oj (yielded ops a.tmps) = true then Oper.wp P oj a w K Q else K (a.put oj.dst undef) w) : HD P ops Q S n g T (f + 1) listed a w :=
  ⟨⟨fun h0 => (by rw [hr] at h0; cases h0), fun k hk => (by
    rw [hr] at hk
    rcases (by simpa using hk : k = i ∨ k = j) with rfl | rfl
    · exact ⟨hin, wpOp_step hi (fun K hK => h1 K (fun a w hS hH => hK a w ⟨hS, (hH hS).out⟩))⟩
    · exact ⟨hjn, wpOp_step hj (fun K hK => h2 K (fun a w hS hH => hK a w ⟨hS, (hH hS).out⟩))⟩)⟩⟩
theorem hd_done {listed : Array Bool} {a : Act} {w : World} (hB : Region.seqB .any ops g n listed = true) (h : T a w) : HD P ops Q S n g T 0 listed a w := ⟨⟨hB, h⟩⟩
end
theorem hd_region {P : Program} {id : Nat} {Q : Exit → Act → World → Prop} {a : Act} {w : World} {l : List Oper} (n g : Nat) (S : World → Prop) (hm : P.follows .mixedOrders = true) (hn : n + g = l.length)
    (h : ∀ W, Below w.heap.size w W → W.heap.size = w.heap.size → S W → HD P l.toArray Q S n g (fun a' w' => wpList P l.toArray Q (l.drop n) a' w') n (Array.replicate l.length false) a W)
    (hS : ∀ W, Below w.heap.size w W → S W) : (Code.region id l.toArray true).wp P Q a w := by
  refine wp_region_any hm ?_
  have hB : Below w.heap.size w { w with drawn := w.drawn + 1 } := ⟨rfl, rfl, rfl, Nat.le_refl _, fun _ _ => rfl⟩
  have h1 := (h { w with drawn := w.drawn + 1 } hB rfl (hS _ hB)).out
  have hdl : (l.drop n).length = g := by rw [List.length_drop]; omega
  have := hd_any (g := g) (fun listed a' w' hL => by
    have := wpAny_of_seq (md := .any) (P := P) (ops := l.toArray) (Q' := Q) (l.drop n) n listed a' w' (fun j => by simp [List.getElem?_drop]) (by rw [hdl]; exact hL.1) hL.2
    rwa [hdl] at this) _ _ _ _ h1
  rw [hn] at this
  simpa using this
end Go.Proofs.Ytcgnpmjkeifokaa
-- K13
/- superposeref.AtOf. -/
namespace Go.Proofs.Ytcgnpmjkeifokaa
open Go.RowKit Go.Proofs.YtcgnpmjkeifokaaW.PrintWords
set_option linter.unusedVariables false
set_option linter.unusedSimpArgs false

theorem betweenB (n a b : Int) (w : World) : Calls Try.prog 70 #[.int .i64 n, .int .i64 a, .int .i64 b] w fun e w' => e = .returned (.bool (btw n a b)) ∧ Below w.heap.size w w' :=
  (between_any n a b w).mono (fun e w' h => ⟨h.1, by rw [h.2]; exact Below.refl _ _⟩)

set_option maxHeartbeats 4000000 in
set_option maxRecDepth 100000 in
theorem atOf_any (p : List Int) : ∀ (t : Tm) (A : Option Addr) (c : Nat) (Ap : Option Addr) (cp : Nat) (ok : Nat → Prop) (w : World) (hF : Kd.F kTm w ok A t.f2.length t.f2) (hc : t.f2.length ≤ c) (hP : Kd.C (Kd.int .i64) w Ap p.length p) (hpc : p.length ≤ cp),
    Calls Try.prog 49 #[.agg #[.int .i64 t.f0, .int .i64 t.f1, .slice A t.f2.length c], .slice Ap p.length cp] w fun e w' => ∃ A' c', e = .returned (.tuple #[.agg #[.int .i64 (atT t p).f0, .int .i64 (atT t p).f1, .slice A' (atT t p).f2.length c'], .bool (atB t p)]) ∧ (atT t p).f2.length ≤ c' ∧ Kd.F kTm w' ok A' (atT t p).f2.length (atT t p).f2 ∧ Below w.heap.size w w' := by
  induction p with
  | nil =>
    intro t A c Ap cp ok w hF hc hP hpc
    have hlen := Kd.F_max hF
    have HF := Aside0.mk hF
    clear hF hP
    have g0 := newAt (w := w) (o := .cells #[.int .i64 t.f0, .int .i64 t.f1, .slice A t.f2.length c] 46) rfl
    have g1 := blk_alloc g0 (.cells #[.int .i64 0, .int .i64 0, .slice none 0 0] 46)
    have g2 := newAt (w := w.alloc (.cells #[.int .i64 t.f0, .int .i64 t.f1, .slice A t.f2.length c] 46)) (o := .cells #[.int .i64 0, .int .i64 0, .slice none 0 0] 46) (k := w.heap.size + 1) (by simp)
    have HB := Aside0.mk (below_alloc (below_alloc (Below.refl w.heap.size w) (.cells #[.int .i64 t.f0, .int .i64 t.f1, .slice A t.f2.length c] 46)) (.cells #[.int .i64 0, .int .i64 0, .slice none 0 0] 46))
    go_enter Try.func49, Try.ntmps49
    go_upto_region 1 with (fail)
    generalize (w.alloc (.cells #[.int .i64 t.f0, .int .i64 t.f1, .slice A t.f2.length c] 46)).alloc (.cells #[.int .i64 0, .int .i64 0, .slice none 0 0] 46) = W at *
    have c0 := (blk_cell g1 0).trans rfl
    have c1 := (blk_cell g1 1).trans rfl
    have c2 := (blk_cell g1 2).trans rfl
    have HR := Aside0.mk g2
    clear g0 g1 g2
    go_wp2_with (((with_reducible refine gate_store (t := 46) (p := 4) rfl ?_); refine st_tm 4 rfl rfl rfl rfl rfl HR.out ?_); intro w1 hs1 hG1 hz1; have HS1 := Aside0.mk hs1; have HG1 := Aside0.mk hG1; clear hs1 hG1 c0 c1 c2)
    ((try simp only [Exit.inBlock, Exit.then]); refine bodyPost_ret (results_ct rfl _ _ _ 46 _ (0, 0) _ rfl HS1.out Try.underlying46 rfl (by kernel_rfl)) rfl ?_)
    exact ⟨A, c, rfl, hc, Kd.F_mono (Kd.F_grown (Kd.F_below (Kd.F_bound HF.out) HB.out) HG1.out (fun k' hk' => by intro e; injection e with e; have := hk'.2; omega)) (fun k' hk' => hk'.1), gbS HB.out HG1.out (by omega)⟩
  | cons y p ih =>
    intro t A c Ap cp ok w hF hc hP hpc
    have hlen := Kd.F_max hF
    obtain ⟨ap, rfl, ep0⟩ := at_Int hP 0 (by omega) (by simp)
    have ep : w.cell? ap = some (.int .i64 y) := ep0
    clear ep0
    have hplen := hP.2.1
    have HP : Aside0 (Kd.C (Kd.int .i64) w (if cp = 1 then some ap else some { block := ap.block, off := ap.off + 1 }) p.length p) := ⟨Kd.C_drop (c := cp) (m := 1) hP (by simp) hpc⟩
    have HF := Aside0.mk (Kd.F_bound hF)
    have IH := Aside0.mk ih
    clear hF hP ih
    have g0 := newAt (w := w) (o := .cells #[.int .i64 t.f0, .int .i64 t.f1, .slice A t.f2.length c] 46) rfl
    have g1 := blk_alloc g0 (.cells #[.int .i64 0, .int .i64 0, .slice none 0 0] 46)
    have g2 := newAt (w := w.alloc (.cells #[.int .i64 t.f0, .int .i64 t.f1, .slice A t.f2.length c] 46)) (o := .cells #[.int .i64 0, .int .i64 0, .slice none 0 0] 46) (k := w.heap.size + 1) (by simp)
    have HB := Aside0.mk (below_alloc (below_alloc (Below.refl w.heap.size w) (.cells #[.int .i64 t.f0, .int .i64 t.f1, .slice A t.f2.length c] 46)) (.cells #[.int .i64 0, .int .i64 0, .slice none 0 0] 46))
    have EP := oldc HB.out ep
    simp only [List.length_cons] at *
    go_enter Try.func49, Try.ntmps49
    go_upto_region 1 with (fail)
    generalize (w.alloc (.cells #[.int .i64 t.f0, .int .i64 t.f1, .slice A t.f2.length c] 46)).alloc (.cells #[.int .i64 0, .int .i64 0, .slice none 0 0] 46) = W at *
    have c0 := (blk_cell g1 0).trans rfl
    have c1 := (blk_cell g1 1).trans rfl
    have c2 := (blk_cell g1 2).trans rfl
    have HR := Aside0.mk g2
    clear g0 g2
    go_upto_region 3 with (fail)
    have rE := fun d os => cell_regrown EP d os
    have rc := fun d os => cell_regrown c2 d os
    have h01 : (0:Int) < ((p.length + 1 : Nat) : Int) := by omega
    have h02 : (0:Int) < (p.length : Int) + 1 := by omega
    have h03 : (1:Int) ≤ (p.length : Int) + 1 := by omega
    have hw1 : IntKind.i64.wrap ((t.f2.length : Int) - 1) = (t.f2.length : Int) - 1 := IntWalk.i64_in _ (by omega)
    have hgl := blk_lt g1
    by_cases hb : 0 ≤ y ∧ y < t.f2.length
    · obtain ⟨hb1, hb2⟩ := hb
      have hB : btw y 0 ((t.f2.length : Int) - 1) = true := btw_t hb1 (by omega)
      have hb3 : y < (t.f2.length : Int) := hb2
      have HA : Aside0 (atP t (y :: p) = atP (rd_Tm t.f2 y) p) := ⟨by rw [atP, if_pos ⟨hb1, hb2⟩]⟩
      have HG1 := Aside0.mk g1
      clear c0 c1 c2 g1 EP
      (refine wq_draws (by kernel_rfl) (by kernel_rfl) ?_; (repeat (refine wq_step (fun K hK => ?_); go_simp; first | (refine hK _ ?_; clear hK K) | (apply Exists.intro; refine ⟨fun _ => ?_, hK _ ?_⟩; (((with_reducible refine Calls.regrown_of (betweenB _ _ _ _)))); clear hK K))); refine wq_nil ?_; intro W2 hbW2)
      have HF2 := Aside0.mk (Kd.F_below HF.out (hbT HB.out hbW2))
      have HB2 := Aside0.mk (hbT HB.out hbW2)
      obtain ⟨ad, A3, c3, rfl, E0, E1, E2, hl3, hF3, _⟩ := at_TmF HF2.out y hb1 hb2
      have HF3 := Aside0.mk hF3
      clear hF3
      have hg2 := (hbW2.block _ hgl).trans HG1.out
      have c2 := (blk_cell hg2 2).trans rfl
      have HR2 := Aside0.mk ((hbW2.block _ (blk_lt HR.out)).trans HR.out)
      have ep2 := oldc HB2.out ep
      clear ep hbW2
      go_upto_region 5 with (fail)
      have k1 := fun (w' : World) (h : Below W2.heap.size W2 w') => oldc h c2
      have k2 := fun (w' : World) (h : Below W2.heap.size W2 w') => oldc h ep2
      have k3 := fun (w' : World) (h : Below W2.heap.size W2 w') => oldc h E0
      have k4 := fun (w' : World) (h : Below W2.heap.size W2 w') => oldc h E1
      have k5 := fun (w' : World) (h : Below W2.heap.size W2 w') => oldc h E2
      clear c2 ep2 E0 E1 E2
      refine hd_region 12 2 (fun w' => Below W2.heap.size W2 w') (by kernel_rfl) rfl ?_ (fun _ h => h)
      intro W3 hb3 hz3 hHeld
      clear hb3
      (refine hd_take (i := 0) (oi := ?oi4) (v := ?v4) ?hi4 (by kernel_rfl) (by kernel_rfl) (by kernel_rfl) (by kernel_rfl) (by decide) ?hq4 ?hw4 ?hy4 hHeld ?hr4; (case hi4 => (simp only [List.getElem?_toArray, List.getElem?_cons_succ, List.getElem?_cons_zero]; rfl)); (case hw4 => rfl); (case hy4 => (intro w hSw; go_simp; try with_reducible rfl)); (case hq4 => exact fun _ _ _ h => h); simp only [Act.put, List.setIfInBounds_toArray, List.set_cons_zero, List.set_cons_succ])
      (refine hd_take (i := 1) (oi := ?oi6) (v := ?v6) ?hi6 (by kernel_rfl) (by kernel_rfl) (by kernel_rfl) (by kernel_rfl) (by decide) ?hq6 ?hw6 ?hy6 hHeld ?hr6; (case hi6 => (simp only [List.getElem?_toArray, List.getElem?_cons_succ, List.getElem?_cons_zero]; rfl)); (case hw6 => rfl); (case hy6 => (intro w hSw; go_simp; try with_reducible rfl)); (case hq6 => exact fun _ _ _ h => h); simp only [Act.put, List.setIfInBounds_toArray, List.set_cons_zero, List.set_cons_succ])
      (refine hd_take (i := 2) (oi := ?oi8) (v := ?v8) ?hi8 (by kernel_rfl) (by kernel_rfl) (by kernel_rfl) (by kernel_rfl) (by decide) ?hq8 ?hw8 ?hy8 hHeld ?hr8; (case hi8 => (simp only [List.getElem?_toArray, List.getElem?_cons_succ, List.getElem?_cons_zero]; rfl)); (case hw8 => rfl); (case hy8 => (intro w hSw; go_simp; try with_reducible rfl)); (case hq8 => exact fun _ _ _ h => h); simp only [Act.put, List.setIfInBounds_toArray, List.set_cons_zero, List.set_cons_succ])
      (refine hd_take (i := 3) (oi := ?oi10) (v := ?v10) ?hi10 (by kernel_rfl) (by kernel_rfl) (by kernel_rfl) (by kernel_rfl) (by decide) ?hq10 ?hw10 ?hy10 hHeld ?hr10; (case hi10 => (simp only [List.getElem?_toArray, List.getElem?_cons_succ, List.getElem?_cons_zero]; rfl)); (case hw10 => rfl); (case hy10 => (intro w hSw; go_simp; try with_reducible rfl)); (case hq10 => exact fun _ _ _ h => h); simp only [Act.put, List.setIfInBounds_toArray, List.set_cons_zero, List.set_cons_succ])
      (refine hd_take (i := 4) (oi := ?oi12) (v := ?v12) ?hi12 (by kernel_rfl) (by kernel_rfl) (by kernel_rfl) (by kernel_rfl) (by decide) ?hq12 ?hw12 ?hy12 hHeld ?hr12; (case hi12 => (simp only [List.getElem?_toArray, List.getElem?_cons_succ, List.getElem?_cons_zero]; rfl)); (case hw12 => rfl); (case hy12 => (intro w hSw; go_simp; try with_reducible rfl)); (case hq12 => exact fun _ _ _ h => h); simp only [Act.put, List.setIfInBounds_toArray, List.set_cons_zero, List.set_cons_succ])
      (refine hd_take (i := 5) (oi := ?oi14) (v := ?v14) ?hi14 (by kernel_rfl) (by kernel_rfl) (by kernel_rfl) (by kernel_rfl) (by decide) ?hq14 ?hw14 ?hy14 hHeld ?hr14; (case hi14 => (simp only [List.getElem?_toArray, List.getElem?_cons_succ, List.getElem?_cons_zero]; rfl)); (case hw14 => rfl); (case hy14 => (intro w hSw; go_simp; try with_reducible rfl)); (case hq14 => exact fun _ _ _ h => h); simp only [Act.put, List.setIfInBounds_toArray, List.set_cons_zero, List.set_cons_succ])
      (refine hd_take (i := 6) (oi := ?oi16) (v := ?v16) ?hi16 (by kernel_rfl) (by kernel_rfl) (by kernel_rfl) (by kernel_rfl) (by decide) ?hq16 ?hw16 ?hy16 hHeld ?hr16; (case hi16 => (simp only [List.getElem?_toArray, List.getElem?_cons_succ, List.getElem?_cons_zero]; rfl)); (case hw16 => rfl); (case hy16 => (intro w hSw; go_simp; try with_reducible rfl)); (case hq16 => exact fun _ _ _ h => h); simp only [Act.put, List.setIfInBounds_toArray, List.set_cons_zero, List.set_cons_succ])
      (refine hd_take (i := 7) (oi := ?oi18) (v := ?v18) ?hi18 (by kernel_rfl) (by kernel_rfl) (by kernel_rfl) (by kernel_rfl) (by decide) ?hq18 ?hw18 ?hy18 hHeld ?hr18; (case hi18 => (simp only [List.getElem?_toArray, List.getElem?_cons_succ, List.getElem?_cons_zero]; rfl)); (case hw18 => rfl); (case hy18 => (intro w hSw; go_simp; try with_reducible rfl)); (case hq18 => exact fun _ _ _ h => h); simp only [Act.put, List.setIfInBounds_toArray, List.set_cons_zero, List.set_cons_succ])
      (refine hd_take (i := 8) (oi := ?oi20) (v := ?v20) ?hi20 (by kernel_rfl) (by kernel_rfl) (by kernel_rfl) (by kernel_rfl) (by decide) ?hq20 ?hw20 ?hy20 hHeld ?hr20; (case hi20 => (simp only [List.getElem?_toArray, List.getElem?_cons_succ, List.getElem?_cons_zero]; rfl)); (case hw20 => rfl); (case hy20 => (intro w hSw; go_simp; try with_reducible rfl)); (case hq20 => exact fun _ _ _ h => h); simp only [Act.put, List.setIfInBounds_toArray, List.set_cons_zero, List.set_cons_succ])
      generalize (if cp = 1 then some ap else some { block := ap.block, off := ap.off + 1 : Addr }) = Ap' at *
      (refine hd_one (i := 9) (oi := ?oi22) ?hi22 (by kernel_rfl) (by decide) ?hr22; (case hi22 => (simp only [List.getElem?_toArray, List.getElem?_cons_succ, List.getElem?_cons_zero]; rfl)); intro K hK)
      go_simp
      go_at_call 49
      refine (IH.out (rd_Tm t.f2 y) A3 c3 _ (cp - 1) (fun k => ok k ∧ k < w.heap.size) W3 (Kd.F_below HF3.out hHeld) hl3 (Kd.C_below HP.out (hbT HB2.out hHeld)) (by omega)).mono ?_
      rintro e w4 ⟨A4, c4, rfl, h4, hF4, hb4⟩
      have HF4 := Aside0.mk hF4
      clear hF4
      go_simp
      (refine hK.out _ _ ?hS24 (fun hHeld => ?hr24); (case hS24 => exact hbT hHeld hb4); clear hK K; try simp only [Act.put, List.setIfInBounds_toArray, List.set_cons_zero, List.set_cons_succ])
      (refine hd_take (i := 10) (oi := ?oi25) (v := ?v25) ?hi25 (by kernel_rfl) (by kernel_rfl) (by kernel_rfl) (by kernel_rfl) (by decide) ?hq25 ?hw25 ?hy25 hHeld ?hr25; (case hi25 => (simp only [List.getElem?_toArray, List.getElem?_cons_succ, List.getElem?_cons_zero]; rfl)); (case hw25 => rfl); (case hy25 => (intro w hSw; go_simp; try with_reducible rfl)); (case hq25 => exact fun _ _ _ h => h); simp only [Act.put, List.setIfInBounds_toArray, List.set_cons_zero, List.set_cons_succ])
      (refine hd_take (i := 11) (oi := ?oi27) (v := ?v27) ?hi27 (by kernel_rfl) (by kernel_rfl) (by kernel_rfl) (by kernel_rfl) (by decide) ?hq27 ?hw27 ?hy27 hHeld ?hr27; (case hi27 => (simp only [List.getElem?_toArray, List.getElem?_cons_succ, List.getElem?_cons_zero]; rfl)); (case hw27 => rfl); (case hy27 => (intro w hSw; go_simp; try with_reducible rfl)); (case hq27 => exact fun _ _ _ h => h); simp only [Act.put, List.setIfInBounds_toArray, List.set_cons_zero, List.set_cons_succ])
      (refine hd_done (by kernel_rfl) ?_; simp only [List.drop_succ_cons, List.drop_zero])
      have HR4 := Aside0.mk ((hHeld.block _ (blk_lt HR2.out)).trans HR2.out)
      have HB4 := Aside0.mk (hbT HB2.out hHeld)
      go_wp2_with (((with_reducible refine gate_store (t := 46) (p := 4) rfl ?_); refine st_tm 4 rfl rfl rfl rfl rfl HR4.out ?_); intro w1 hs1 hG1 hz1; have HS1 := Aside0.mk hs1; have HG1 := Aside0.mk hG1; clear hs1 hG1)
      ((try simp only [Exit.inBlock, Exit.then]); refine bodyPost_ret (results_ct rfl _ _ _ 46 _ (0, 0) _ rfl HS1.out Try.underlying46 rfl (by kernel_rfl)) rfl ?_)
      have e1 : atT t (y :: p) = atT (rd_Tm t.f2 y) p := by unfold atT; rw [HA.out]
      have e2 : atB t (y :: p) = atB (rd_Tm t.f2 y) p := by unfold atB; rw [HA.out]
      exact ⟨A4, c4, by rw [e1, e2]; rfl, by rw [e1]; exact h4, by rw [e1]; exact Kd.F_mono (Kd.F_grown HF4.out HG1.out (fun k' hk' => by intro e; injection e with e; have := hk'.2; omega)) (fun k' hk' => hk'.1), gbS HB4.out HG1.out (by omega)⟩
    · have hB : btw y 0 ((t.f2.length : Int) - 1) = false := btw_f (by omega)
      have HN : Aside0 (atP t (y :: p) = none) := ⟨by rw [atP, if_neg hb]⟩
      clear c0 c1 c2 EP
      (refine wq_draws (by kernel_rfl) (by kernel_rfl) ?_; (repeat (refine wq_step (fun K hK => ?_); go_simp; first | (refine hK _ ?_; clear hK K) | (apply Exists.intro; refine ⟨fun _ => ?_, hK _ ?_⟩; (((with_reducible refine Calls.regrown_of (betweenB _ _ _ _)))); clear hK K))); refine wq_nil ?_; intro W2 hbW2)
      have HR2 := Aside0.mk ((hbW2.block _ (blk_lt HR.out)).trans HR.out)
      have hz2 := hbW2.size
      have HB2 := Aside0.mk (hbT HB.out hbW2)
      clear hbW2
      go_wp2_with (((with_reducible refine gate_store (t := 46) (p := 4) rfl ?_); refine st_tm 4 rfl rfl rfl rfl rfl HR2.out ?_); intro w1 hs1 hG1 hz1; have HS1 := Aside0.mk hs1; have HG1 := Aside0.mk hG1; clear hs1 hG1)
      ((try simp only [Exit.inBlock, Exit.then]); refine bodyPost_ret (results_ct rfl _ _ _ 46 _ (0, 0) _ rfl HS1.out Try.underlying46 rfl (by kernel_rfl)) rfl ?_)
      exact ⟨none, 0, by rw [atT, atB, HN.out]; rfl, by rw [atT, HN.out]; exact Nat.le_refl _, by rw [atT, HN.out]; exact F_none _ _, gbS HB2.out HG1.out (by omega)⟩
end Go.Proofs.Ytcgnpmjkeifokaa
-- K14
/- term.Mapped by a function that only reads and makes what is new; term.Copied. -/
namespace Go.Proofs.Ytcgnpmjkeifokaa
open Go.RowKit Go.Proofs.YtcgnpmjkeifokaaW.PrintWords
set_option linter.unusedVariables false
set_option linter.unusedSimpArgs false

mutual
def mapT (δ : Tm → Option Tm) : Tm → Tm
  | ⟨v, f, l⟩ => match δ ⟨v, f, l⟩ with | some u => u | none => ⟨v, f, mapL δ l⟩
def mapL (δ : Tm → Option Tm) : List Tm → List Tm
  | [] => []
  | t :: ts => mapT δ t :: mapL δ ts
end
theorem mapT_some {δ : Tm → Option Tm} {t u : Tm} (h : δ t = some u) : mapT δ t = u := by cases t; rw [mapT, h]
theorem mapT_none {δ : Tm → Option Tm} {t : Tm} (h : δ t = none) : mapT δ t = ⟨t.f0, t.f1, mapL δ t.f2⟩ := by cases t; rw [mapT, h]
theorem mapL_len (δ : Tm → Option Tm) (l : List Tm) : (mapL δ l).length = l.length := by
  induction l with
  | nil => simp [mapL]
  | cons t ts ih => simp [mapL, ih]
theorem mapL_append (δ : Tm → Option Tm) (a b : List Tm) : mapL δ (a ++ b) = mapL δ a ++ mapL δ b := by
  induction a with
  | nil => simp [mapL]
  | cons t ts ih => simp [mapL, ih]
theorem mapL_take_succ (δ : Tm → Option Tm) (l : List Tm) (i : Nat) (h : i < l.length) : mapL δ (l.take (i+1)) = mapL δ (l.take i) ++ [mapT δ (rd_Tm l i)] := by
  rw [List.take_succ_eq_append_getElem h, mapL_append, rd_get l i h]; simp [mapL]

/-- A function value that answers δ, reading what stands at w0 and making what is new. -/
def DoC (g : Nat) (lb : Array Value) (δ : Tm → Option Tm) (ok : Nat → Prop) (w0 : World) : Prop :=
  ∀ (x : Tm) (A : Option Addr) (c : Nat) (W : World), Below w0.heap.size w0 W → Kd.F kTm W ok A x.f2.length x.f2 → x.f2.length ≤ c →
    Calls Try.prog g (#[.agg #[.int .i64 x.f0, .int .i64 x.f1, .slice A x.f2.length c]] ++ lb) W fun e w' => ∃ (r : Tm) (A' : Option Addr) (c' : Nat), e = .returned (.tuple #[.agg #[.int .i64 r.f0, .int .i64 r.f1, .slice A' r.f2.length c'], .bool (δ x).isSome]) ∧ r.f2.length ≤ c' ∧
      (∀ u, δ x = some u → r = u ∧ Kd.F kTm w' (fun k => W.heap.size ≤ k) A' r.f2.length r.f2) ∧ Below W.heap.size W w'

theorem hbW {w w' : World} {B B' : Nat} (h : Below B w w') (hB : B' ≤ B) : Below B' w w' := ⟨h.os, h.tape, h.output, h.size, fun i hi => h.block i (Nat.lt_of_lt_of_le hi hB)⟩

set_option maxHeartbeats 4000000 in
set_option maxRecDepth 100000 in
theorem mapped_any (g : Nat) (lb : Array Value) (δ : Tm → Option Tm) (ok : Nat → Prop) (w0 : World) (eg : ∀ args w, (callFunc g args).run Try.prog w = .ok (.enter g args) w) (hd : DoC g lb δ ok w0) (m : Nat) :
    ∀ (t : Tm) (A : Option Addr) (c : Nat) (w : World), szT t ≤ m → szT t * 40 ≤ 140737488355328 → Below w0.heap.size w0 w → Kd.F kTm w (fun k => ok k ∧ k < w0.heap.size) A t.f2.length t.f2 → t.f2.length ≤ c →
    Calls Try.prog 106 #[.agg #[.int .i64 t.f0, .int .i64 t.f1, .slice A t.f2.length c], .func (.func g) #[] lb] w fun e w' => ∃ A' c', e = .returned (.agg #[.int .i64 (mapT δ t).f0, .int .i64 (mapT δ t).f1, .slice A' (mapT δ t).f2.length c']) ∧ (mapT δ t).f2.length ≤ c' ∧ Kd.F kTm w' (fun k => w.heap.size ≤ k) A' (mapT δ t).f2.length (mapT δ t).f2 ∧ Below w.heap.size w w' := by
  induction m with
  | zero => intro t A c w h; have := szT_pos t; omega
  | succ m ih =>
  intro t A c w hm hbd hB0 hF hc
  have hlen := Kd.F_max hF
  have IH := Aside0.mk ih
  have HD := Aside0.mk hd
  have HF := Aside0.mk hF
  have HM := Aside0.mk hm
  have HBD := Aside0.mk hbd
  have HS := Aside0.mk (szT_eq t)
  have HB0 := Aside0.mk hB0
  have hz0 := hB0.size
  clear hF ih hm hbd hd hB0
  have g0 := newAt (w := w) (o := .cells #[.int .i64 t.f0, .int .i64 t.f1, .slice A t.f2.length c] 46) rfl
  have g1 := blk_alloc g0 (.cells #[.int .i64 0, .int .i64 0, .slice none 0 0] 46)
  have g2 := newAt (w := w.alloc (.cells #[.int .i64 t.f0, .int .i64 t.f1, .slice A t.f2.length c] 46)) (o := .cells #[.int .i64 0, .int .i64 0, .slice none 0 0] 46) (k := w.heap.size + 1) (by simp)
  have HB := Aside0.mk (below_alloc (below_alloc (Below.refl w.heap.size w) (.cells #[.int .i64 t.f0, .int .i64 t.f1, .slice A t.f2.length c] 46)) (.cells #[.int .i64 0, .int .i64 0, .slice none 0 0] 46))
  go_enter Try.func106, Try.ntmps106
  go_upto_region 1 with (fail)
  generalize (w.alloc (.cells #[.int .i64 t.f0, .int .i64 t.f1, .slice A t.f2.length c] 46)).alloc (.cells #[.int .i64 0, .int .i64 0, .slice none 0 0] 46) = W at *
  have c0 := (blk_cell g1 0).trans rfl
  have c1 := (blk_cell g1 1).trans rfl
  have c2 := (blk_cell g1 2).trans rfl
  have HT := Aside0.mk g1
  have HR := Aside0.mk g2
  have hl1 := blk_lt g2
  clear g0 g1 g2
  have hWz : w0.heap.size ≤ W.heap.size := by have := HB.out.size; omega
  have HBW : Aside0 (Below w0.heap.size w0 W) := ⟨below_then HB0.out hz0 HB.out⟩
  have HFW := Aside0.mk (Kd.F_below HF.out HB.out)
  go_upto_region 2 with (first | (refine (HD.out t A c W HBW.out (Kd.F_mono HFW.out (fun _ h => h.1)) hc).mono ?_; rintro e w2 ⟨r, A', c', rfl, hrc, hru, hb2⟩; have HRU := Aside0.mk hru; have HB2 := Aside0.mk hb2; clear hru hb2 c0 c1 c2) | (((with_reducible refine gate_store (t := 46) (p := 5) rfl ?_); refine st_tm 5 rfl rfl rfl rfl rfl (heap_alloc_new _ _) ?_); intro w3 hs3 hG3 hz3; have HS3 := Aside0.mk hs3; have HG3 := Aside0.mk hG3; clear hs3 hG3))
  have g1 := HB2.out.block _ (blk_lt HT.out) |>.trans HT.out
  have g2 := HB2.out.block _ hl1 |>.trans HR.out
  have hz2 := HB2.out.size
  have HB23 := Aside0.mk (gbS (below_alloc (Below.refl w2.heap.size w2) _) HG3.out (Nat.le_refl _))
  have hz3' := HB23.out.size
  have p3 := (blk_cell HS3.out 0).trans rfl
  have p4 := (blk_cell HS3.out 1).trans rfl
  have p5 := (blk_cell HS3.out 2).trans rfl
  have HT3 := Aside0.mk ((HB23.out.block _ (blk_lt g1)).trans g1)
  have HR3 := Aside0.mk ((HB23.out.block _ (blk_lt g2)).trans g2)
  have HB3 := Aside0.mk (hbT (hbT HB.out HB2.out) HB23.out)
  clear g1 g2 HT HR HS3 HG3 hz3
  rcases hδ : δ t with _ | u
  · have hB : (δ t).isSome = false := by rw [hδ]; rfl
    have HE := Aside0.mk (mapT_none hδ)
    have hT3 := HT3.out
    have t2 := (blk_cell hT3 2).trans rfl
    have hl3 := blk_lt hT3
    clear hδ HRU p3 p4 p5 hT3
    simp only [Option.isSome_none]
    clear hB
    go_wp2
    go_loopw [7, 21] (fun v7 i wr => ∃ (k : Nat) (vk : Value), k ≤ t.f2.length ∧ i = .int .i64 k ∧ vk = v7 ∧ Aside0 (Kd.N kTm 46 wr (w.heap.size + 2) (fun k => w.heap.size + 2 ≤ k) vk (mapL δ (t.f2.take k))) ∧ Aside0 (Below w.heap.size w wr) ∧ Aside0 (wr.heap[w.heap.size]? = some (.cells #[.int .i64 t.f0, .int .i64 t.f1, .slice A t.f2.length c] 46 (0, 0))) ∧ Aside0 (wr.heap[w.heap.size + 1]? = some (.cells #[.int .i64 0, .int .i64 0, .slice none 0 0] 46 (0, 0)))) (fun _ i _ => t.f2.length - (intOf i).toNat)
    case atStart => exact ⟨0, _, by omega, rfl, rfl, ⟨by simpa [mapL] using Kd.N_nil kTm _ _ _ _⟩, HB3, HT3, HR3⟩
    case round =>
      obtain ⟨k, vk, hk, rfl, rfl, HNk, HBr, HTr, HRr⟩ := hrel
      have hzr := HBr.out.size
      have hl4 := blk_lt HRr.out
      by_cases hlt : k < t.f2.length
      · obtain ⟨ad, A2, c2, rfl, E0, E1, E2, hl2, hF2, _⟩ := at_TmF (Kd.F_below HF.out HBr.out) (k : Int) (by omega) (by omega)
        simp only [Int.toNat_natCast] at E0 E1 E2
        have HTm := Aside0.mk (szT_mem (rd_mem t.f2 k hlt))
        have HP := Aside0.mk (mapL_take_succ δ t.f2 k hlt)
        have HF2 := Aside0.mk hF2
        have HC2 := Aside0.mk hl2
        have HLt := Aside0.mk (Kd.N_lt HNk.out)
        clear hF2 hl2
        go_wp2_with (first | (((with_reducible refine gate_store (t := 46) (p := 9) rfl ?_); refine st_tm 9 rfl rfl rfl rfl rfl (heap_alloc_new _ _) ?_); intro w4 hs4 hG4 hz4; have s0 := (blk_cell hs4 0).trans rfl; have s1 := (blk_cell hs4 1).trans rfl; have s2 := (blk_cell hs4 2).trans rfl; have HBr4 := Aside0.mk (gbS (below_alloc (Below.refl wr.heap.size wr) _) hG4 (Nat.le_refl _)); have hz4' := HBr4.out.size; clear hs4 hG4 E0 E1 E2) | (go_at_call 106; refine (IH.out (rd_Tm t.f2 k) A2 c2 _ ?_ ?_ ?_ (Kd.F_below HF2.out HBr4.out) HC2.out).mono ?_; (have := HS.out; have := HM.out; have := HTm.out; omega); (have := HS.out; have := HBD.out; have := HTm.out; omega); exact below_then HB0.out hz0 (hbT HBr.out HBr4.out); rintro e w5 ⟨A5, c5, rfl, h5, hF5, hb5⟩; have HF5 := Aside0.mk hF5; have HB5 := Aside0.mk hb5; have hz5 := hb5.size; clear hF5 hb5) | (at_builtin; refine Kd.N_append kTm (w0 := w5) (w.heap.size + 2) rfl _ _ 44 46 _ 40 rfl Try.underlying44 infoTm rfl (by decide) (by decide) vk _ (mapT δ (rd_Tm t.f2 k)) _ (fun k => w.heap.size + 2 ≤ k) (fun k => w4.heap.size ≤ k) rfl rfl (kTm_mkF w5 _ _ h5 HF5.out) ?_ (fun k hk => by omega) (Kd.N_below (Kd.N_below HNk.out HBr4.out) HB5.out) (Below.refl _ _) (by omega) ?_ ?_; (intro k' hk'; refine ⟨by omega, fun e => ?_⟩; have := HLt.out _ e.symm; simp at hz4; omega); (have h1 := HS.out; have h2 := HBD.out; rw [mapL_len]; have h3 := szL_len t.f2; have h4 := List.length_take_le k t.f2; omega); intro v1 w6 hN1 hB1 hG1 hI1; have HN1 := Aside0.mk hN1; have HB1 := Aside0.mk hB1; clear hN1 hB1 hG1 hI1))
        go_roundw
        case rel =>
          have hb5 := hbT (hbT HBr.out HBr4.out) HB5.out
          exact ⟨k + 1, v1, by omega, by go_num, rfl, ⟨by rw [HP.out]; exact HN1.out⟩, ⟨hb5.trans (hbW HB1.out (by omega))⟩, ⟨(HB1.out.block _ (by omega)).trans ((HB5.out.block _ (by omega)).trans ((HBr4.out.block _ (by omega)).trans HTr.out))⟩, ⟨(HB1.out.block _ (by omega)).trans ((HB5.out.block _ (by omega)).trans ((HBr4.out.block _ (by omega)).trans HRr.out))⟩⟩
        case measure => simp [intOf]; omega
      · obtain rfl : k = t.f2.length := by omega
        obtain ⟨Av, cv, rfl⟩ := Kd.N_slice HNk.out
        have HN := Aside0.mk HNk.out
        simp only [List.take_length] at HN
        simp only [List.take_length]
        have hmc := (Kd.N_reads' HN.out).2.1
        have HNB := Aside0.mk (Kd.N_base HN.out)
        have HTr2 := HTr.out
        clear HNk
        go_wp2_with (first | (((with_reducible refine gate_store (t := 44) (p := 33) rfl ?_); refine st_args 33 rfl rfl rfl rfl rfl HTr.out ?_); intro w4 hs4 hG4 hz4; have HG4 := Aside0.mk hG4; have p0 := (blk_cell hs4 0).trans rfl; have p1 := (blk_cell hs4 1).trans rfl; have p2 := (blk_cell hs4 2).trans rfl; have HR4 := Aside0.mk ((hG4.block _ hl4 (by simp)).trans HRr.out); clear hs4 hG4 HTr2) | (((with_reducible refine gate_store (t := 46) (p := 4) rfl ?_); refine st_tm 4 rfl rfl rfl rfl rfl HR4.out ?_); intro w5 hs5 hG5 hz5; have HS5 := Aside0.mk hs5; have HG5 := Aside0.mk hG5; clear hs5 hG5 p0 p1 p2))
        ((try simp only [Exit.inBlock, Exit.then]); refine bodyPost_ret (results_cell_row rfl _ _ _ 46 _ (0, 0) _ rfl HS5.out Try.underlying46 rfl (by kernel_rfl)) rfl ?_)
        exact ⟨Av, cv, by rw [HE.out], by rw [HE.out]; exact hmc, by rw [HE.out]; exact Kd.F_mono (Kd.F_grown (Kd.F_grown (Kd.N_F HN.out) HG4.out (fun k hk => by intro e; injection e with e; omega)) HG5.out (fun k hk => by intro e; injection e with e; omega)) (fun k hk => by omega), gbS (gbS HBr.out HG4.out (by omega)) HG5.out (by omega)⟩
  · have hB : (δ t).isSome = true := by rw [hδ]; rfl
    obtain ⟨hru, hFu⟩ := HRU.out u hδ
    have HE := Aside0.mk ((mapT_some hδ).trans hru.symm)
    have HFu := Aside0.mk hFu
    clear hFu hru hδ HRU
    go_wp2_with (((with_reducible refine gate_store (t := 46) (p := 4) rfl ?_); refine st_tm 4 rfl rfl rfl rfl rfl HR3.out ?_); intro w4 hs4 hG4 hz4; have HS4 := Aside0.mk hs4; have HG4 := Aside0.mk hG4; clear hs4 hG4 p3 p4 p5)
    ((try simp only [Exit.inBlock, Exit.then]); refine bodyPost_ret (results_cell_row rfl _ _ _ 46 _ (0, 0) _ rfl HS4.out Try.underlying46 rfl (by kernel_rfl)) rfl ?_)
    exact ⟨A', c', by rw [HE.out], by rw [HE.out]; exact hrc, by rw [HE.out]; exact Kd.F_mono (Kd.F_grown (Kd.F_below HFu.out HB23.out) HG4.out (fun k hk => by intro e; injection e with e; omega)) (fun k hk => by omega), gbS HB3.out HG4.out (by omega)⟩

theorem copied1_any (x : Tm) (A : Option Addr) (c : Nat) (W : World) (hF : Kd.F kTm W (fun _ => True) A x.f2.length x.f2) :
    Calls Try.prog 107 #[.agg #[.int .i64 x.f0, .int .i64 x.f1, .slice A x.f2.length c]] W fun e w' => e = .returned (.tuple #[.agg #[.int .i64 x.f0, .int .i64 x.f1, .slice A x.f2.length c], .bool false]) ∧ Below W.heap.size W w' := by
  have g0 := newAt (w := W) (o := .cells #[.int .i64 x.f0, .int .i64 x.f1, .slice A x.f2.length c] 46) rfl
  have g1 := blk_alloc g0 (.cells #[.int .i64 0, .int .i64 0, .slice none 0 0] 46)
  have g2 := newAt (w := W.alloc (.cells #[.int .i64 x.f0, .int .i64 x.f1, .slice A x.f2.length c] 46)) (o := .cells #[.int .i64 0, .int .i64 0, .slice none 0 0] 46) (k := W.heap.size + 1) (by simp)
  have HB := Aside0.mk (below_alloc (below_alloc (Below.refl W.heap.size W) (.cells #[.int .i64 x.f0, .int .i64 x.f1, .slice A x.f2.length c] 46)) (.cells #[.int .i64 0, .int .i64 0, .slice none 0 0] 46))
  clear hF
  go_enter Try.func107, Try.ntmps107
  go_upto_region 1 with (fail)
  generalize (W.alloc (.cells #[.int .i64 x.f0, .int .i64 x.f1, .slice A x.f2.length c] 46)).alloc (.cells #[.int .i64 0, .int .i64 0, .slice none 0 0] 46) = W2 at *
  have c0 := (blk_cell g1 0).trans rfl
  have c1 := (blk_cell g1 1).trans rfl
  have c2 := (blk_cell g1 2).trans rfl
  have HR := Aside0.mk g2
  clear g0 g1 g2
  go_wp2_with (((with_reducible refine gate_store (t := 46) (p := 2) rfl ?_); refine st_tm 2 rfl rfl rfl rfl rfl HR.out ?_); intro w1 hs1 hG1 hz1; have HS1 := Aside0.mk hs1; have HG1 := Aside0.mk hG1; clear hs1 hG1 c0 c1 c2)
  ((try simp only [Exit.inBlock, Exit.then]); refine bodyPost_ret (results_ct rfl _ _ _ 46 _ (0, 0) _ rfl HS1.out Try.underlying46 rfl (by kernel_rfl)) rfl ?_)
  exact ⟨rfl, gbS HB.out HG1.out (by omega)⟩

theorem mapT_id (t : Tm) : mapT (fun _ => none) t = t := by
  refine Tm.rec (motive_1 := fun t => mapT (fun _ => none) t = t) (motive_2 := fun l => mapL (fun _ => none) l = l) ?_ ?_ ?_ t
  · intro v f l ih; rw [mapT_none rfl, ih]
  · rfl
  · intro t ts h1 h2; rw [mapL, h1, h2]

set_option maxHeartbeats 4000000 in
set_option maxRecDepth 100000 in
theorem copied_any (t : Tm) (A : Option Addr) (c : Nat) (ok : Nat → Prop) (w : World) (hbd : szT t * 40 ≤ 140737488355328) (hF : Kd.F kTm w ok A t.f2.length t.f2) (hc : t.f2.length ≤ c) :
    Calls Try.prog 67 #[.agg #[.int .i64 t.f0, .int .i64 t.f1, .slice A t.f2.length c]] w fun e w' => ∃ A' c', e = .returned (.agg #[.int .i64 t.f0, .int .i64 t.f1, .slice A' t.f2.length c']) ∧ t.f2.length ≤ c' ∧ Kd.F kTm w' (fun k => w.heap.size ≤ k) A' t.f2.length t.f2 ∧ Below w.heap.size w w' := by
  have hlen := Kd.F_max hF
  have HF := Aside0.mk (Kd.F_bound hF)
  have g0 := newAt (w := w) (o := .cells #[.int .i64 t.f0, .int .i64 t.f1, .slice A t.f2.length c] 46) rfl
  have g1 := blk_alloc g0 (.cells #[.int .i64 0, .int .i64 0, .slice none 0 0] 46)
  have g2 := newAt (w := w.alloc (.cells #[.int .i64 t.f0, .int .i64 t.f1, .slice A t.f2.length c] 46)) (o := .cells #[.int .i64 0, .int .i64 0, .slice none 0 0] 46) (k := w.heap.size + 1) (by simp)
  have HB := Aside0.mk (below_alloc (below_alloc (Below.refl w.heap.size w) (.cells #[.int .i64 t.f0, .int .i64 t.f1, .slice A t.f2.length c] 46)) (.cells #[.int .i64 0, .int .i64 0, .slice none 0 0] 46))
  clear hF
  go_enter Try.func67, Try.ntmps67
  go_upto_region 1 with (fail)
  generalize (w.alloc (.cells #[.int .i64 t.f0, .int .i64 t.f1, .slice A t.f2.length c] 46)).alloc (.cells #[.int .i64 0, .int .i64 0, .slice none 0 0] 46) = W at *
  have c0 := (blk_cell g1 0).trans rfl
  have c1 := (blk_cell g1 1).trans rfl
  have c2 := (blk_cell g1 2).trans rfl
  have HR := Aside0.mk g2
  have hl1 := blk_lt g2
  clear g0 g1 g2
  have HM : Aside0 (∀ A c, Kd.F kTm W (fun k => ok k ∧ k < w.heap.size) A t.f2.length t.f2 → t.f2.length ≤ c → Calls Try.prog 106 #[.agg #[.int .i64 t.f0, .int .i64 t.f1, .slice A t.f2.length c], .func (.func 107) #[] #[]] W fun e w' => ∃ A' c', e = .returned (.agg #[.int .i64 t.f0, .int .i64 t.f1, .slice A' t.f2.length c']) ∧ t.f2.length ≤ c' ∧ Kd.F kTm w' (fun k => W.heap.size ≤ k) A' t.f2.length t.f2 ∧ Below W.heap.size W w') := ⟨by
    intro A c hF hc
    have := mapped_any 107 #[] (fun _ => none) (fun _ => True) W (enters_of Try.func107 (by kernel_rfl) rfl) (fun x A c W' hB hF hc => (copied1_any x A c W' hF).mono fun e w' h => ⟨x, A, c, h.1, hc, (fun u h' => nomatch h'), h.2⟩) (szT t) t A c W (Nat.le_refl _) hbd (Below.refl _ _) (Kd.F_mono (Kd.F_bound hF) (fun k hk => ⟨trivial, hk.2⟩)) hc
    rwa [mapT_id] at this⟩
  go_wp2_with (first | (go_at_call 106; refine (HM.out A c (Kd.F_below HF.out HB.out) hc).mono ?_; rintro e w2 ⟨A', c', rfl, hc', hF2, hb2⟩; have HF2 := Aside0.mk hF2; have HB2 := Aside0.mk hb2; have HR2 := Aside0.mk ((hb2.block _ hl1).trans HR.out); clear hF2 hb2 c0 c1 c2) | (((with_reducible refine gate_store (t := 46) (p := 2) rfl ?_); refine st_tm 2 rfl rfl rfl rfl rfl HR2.out ?_); intro w1 hs1 hG1 hz1; have HS1 := Aside0.mk hs1; have HG1 := Aside0.mk hG1; clear hs1 hG1))
  ((try simp only [Exit.inBlock, Exit.then]); refine bodyPost_ret (results_cell_row rfl _ _ _ 46 _ (0, 0) _ rfl HS1.out Try.underlying46 rfl (by kernel_rfl)) rfl ?_)
  exact ⟨A', c', rfl, hc', Kd.F_mono (Kd.F_grown HF2.out HG1.out (fun k hk => by intro e; injection e with e; omega)) (fun k hk => by omega), gbS (hbT HB.out HB2.out) HG1.out (by omega)⟩
end Go.Proofs.Ytcgnpmjkeifokaa
-- K15
/- slices.Clone of terms; term.Lay. -/
namespace Go.Proofs.Ytcgnpmjkeifokaa
open Go.RowKit Go.Proofs.YtcgnpmjkeifokaaW.PrintWords
set_option linter.unusedVariables false
set_option linter.unusedSimpArgs false

set_option maxHeartbeats 4000000 in
set_option maxRecDepth 100000 in
theorem cloneT_any (xs : List Tm) (ad : Addr) (c : Nat) (ok : Nat → Prop) (w : World) (hbd : xs.length * 40 ≤ 140737488355328) (hF : Kd.F kTm w ok (some ad) xs.length xs) (hc : xs.length ≤ c) :
    Calls Try.prog 125 #[.slice (some ad) xs.length c] w fun e w' => ∃ v1, e = .returned v1 ∧ Kd.N kTm 46 w' w.heap.size (fun k => (ok k ∧ k < w.heap.size) ∨ w.heap.size ≤ k) v1 xs ∧ Below w.heap.size w w' := by
  have hq : ∀ (w : World), (binOp .eql 44 (.slice (some ad) xs.length c) (.slice none 0 0)).run Try.prog w = .ok (.bool false) w := fun w => Lib.run_eql_slice_nil w _ 46 (some ad) xs.length c 0 0 Try.underlying44
  have HF := Aside0.mk (Kd.F_bound hF)
  clear hF
  go_enter Try.func125, Try.ntmps125
  go_wp2_with (first | ((with_reducible refine gate_dst (N := 5) rfl ?_); refine Kd.N_lit kTm (w0 := w) w.heap.size 46 rfl rfl (xs := []) (inner := []) (ok := fun k => (ok k ∧ k < w.heap.size) ∨ w.heap.size ≤ k) (okp := fun _ => False) ?hr ⟨rfl, fun j y hy => by simp at hy⟩ (fun _ h => h.elim) (.inr (Nat.le_refl _)) (Below.refl _ _) (Nat.le_refl _) (by decide) ?_; (case hr => first | (go_simp; done) | (go_simp; rfl)); intro v1 w1 hN1 hB1 hG1 hI1; have HN1 := Aside0.mk hN1; have HB1 := Aside0.mk hB1; have HI1 := Aside0.mk hI1; clear hN1 hB1 hG1 hI1) | (at_builtin; refine Kd.N_append_rows kTm (w0 := w) w.heap.size rfl _ _ 44 46 _ 40 rfl Try.underlying44 infoTm rfl (by decide) (by decide) v1 [] xs (some ad) xs.length c _ (fun k => ok k ∧ k < w.heap.size) rfl rfl HN1.out (Kd.F_below HF.out HB1.out) ?_ (fun k hk => .inr (Nat.le_trans HB1.out.size hk)) HB1.out HB1.out.size (by simpa using hbd) ?_; (intro k hk; refine ⟨.inl hk, fun e => ?_⟩; obtain ⟨b, hb, hb2⟩ := HI1.out; rw [hb] at e; injection e with e; omega); intro v2 w2 hN2 hB2 hG2 hI2; have HN2 := Aside0.mk hN2; have HB2 := Aside0.mk hB2; clear hN2 hB2 hG2 hI2))
  go_ret
  exact ⟨v2, rfl, HN2.out, HB2.out⟩

def layP : Tm → List Int → Tm → Tm
  | _, [], u => u
  | t, i :: p, u => ⟨t.f0, t.f1, t.f2.set i.toNat (layP (rd_Tm t.f2 i) p u)⟩
theorem atB_cons {t : Tm} {y : Int} {p : List Int} (h : atB t (y :: p) = true) : 0 ≤ y ∧ y < t.f2.length ∧ atB (rd_Tm t.f2 y) p = true := by
  unfold atB at h ⊢
  rw [atP] at h
  by_cases hb : 0 ≤ y ∧ y < t.f2.length
  · rw [if_pos hb] at h; exact ⟨hb.1, hb.2, h⟩
  · rw [if_neg hb] at h; cases h
theorem rd_mem' (l : List Tm) (y : Int) (h0 : 0 ≤ y) (h1 : y < l.length) : rd_Tm l y ∈ l := by
  have := rd_mem l y.toNat (by omega)
  rwa [show ((y.toNat : Nat) : Int) = y by omega] at this

set_option maxHeartbeats 4000000 in
set_option maxRecDepth 100000 in
theorem lay_any (p : List Int) : ∀ (t u : Tm) (A B : Option Addr) (c d : Nat) (Ap : Option Addr) (cp : Nat) (ok : Nat → Prop) (w : World) (hat : atB t p = true) (hbd : szT t * 40 ≤ 140737488355328) (hF : Kd.F kTm w ok A t.f2.length t.f2) (hc : t.f2.length ≤ c) (hG : Kd.F kTm w ok B u.f2.length u.f2) (hd : u.f2.length ≤ d) (hP : Kd.C (Kd.int .i64) w Ap p.length p) (hpc : p.length ≤ cp),
    Calls Try.prog 93 #[.agg #[.int .i64 t.f0, .int .i64 t.f1, .slice A t.f2.length c], .slice Ap p.length cp, .agg #[.int .i64 u.f0, .int .i64 u.f1, .slice B u.f2.length d]] w fun e w' => ∃ A' c', e = .returned (.agg #[.int .i64 (layP t p u).f0, .int .i64 (layP t p u).f1, .slice A' (layP t p u).f2.length c']) ∧ (layP t p u).f2.length ≤ c' ∧ Kd.F kTm w' (fun k => ok k ∨ w.heap.size ≤ k) A' (layP t p u).f2.length (layP t p u).f2 ∧ Below w.heap.size w w' := by
  induction p with
  | nil =>
    intro t u A B c d Ap cp ok w hat hbd hF hc hG hd hP hpc
    have HF := Aside0.mk (Kd.F_bound hG)
    clear hF hG hP hat
    have g0 := newAt (w := w) (o := .cells #[.int .i64 t.f0, .int .i64 t.f1, .slice A t.f2.length c] 46) rfl
    have g1 := newAt (w := w.alloc (.cells #[.int .i64 t.f0, .int .i64 t.f1, .slice A t.f2.length c] 46)) (o := .cells #[.int .i64 u.f0, .int .i64 u.f1, .slice B u.f2.length d] 46) (k := w.heap.size + 1) (by simp)
    have g2 := blk_alloc g1 (.cells #[.int .i64 0, .int .i64 0, .slice none 0 0] 46)
    have g3 := newAt (w := (w.alloc (.cells #[.int .i64 t.f0, .int .i64 t.f1, .slice A t.f2.length c] 46)).alloc (.cells #[.int .i64 u.f0, .int .i64 u.f1, .slice B u.f2.length d] 46)) (o := .cells #[.int .i64 0, .int .i64 0, .slice none 0 0] 46) (k := w.heap.size + 2) (by simp)
    have HB := Aside0.mk (below_alloc (below_alloc (below_alloc (Below.refl w.heap.size w) (.cells #[.int .i64 t.f0, .int .i64 t.f1, .slice A t.f2.length c] 46)) (.cells #[.int .i64 u.f0, .int .i64 u.f1, .slice B u.f2.length d] 46)) (.cells #[.int .i64 0, .int .i64 0, .slice none 0 0] 46))
    go_enter Try.func93, Try.ntmps93
    go_upto_region 1 with (fail)
    generalize ((w.alloc (.cells #[.int .i64 t.f0, .int .i64 t.f1, .slice A t.f2.length c] 46)).alloc (.cells #[.int .i64 u.f0, .int .i64 u.f1, .slice B u.f2.length d] 46)).alloc (.cells #[.int .i64 0, .int .i64 0, .slice none 0 0] 46) = W at *
    have c0 := (blk_cell g2 0).trans rfl
    have c1 := (blk_cell g2 1).trans rfl
    have c2 := (blk_cell g2 2).trans rfl
    have HR := Aside0.mk g3
    clear g0 g1 g2 g3
    go_wp2_with (((with_reducible refine gate_store (t := 46) (p := 6) rfl ?_); refine st_tm 6 rfl rfl rfl rfl rfl HR.out ?_); intro w1 hs1 hG1 hz1; have HS1 := Aside0.mk hs1; have HG1 := Aside0.mk hG1; clear hs1 hG1 c0 c1 c2)
    ((try simp only [Exit.inBlock, Exit.then]); refine bodyPost_ret (results_cell_row rfl _ _ _ 46 _ (0, 0) _ rfl HS1.out Try.underlying46 rfl (by kernel_rfl)) rfl ?_)
    exact ⟨B, d, rfl, hd, Kd.F_mono (Kd.F_grown (Kd.F_below HF.out HB.out) HG1.out (fun k' hk' => by intro e; injection e with e; have := hk'.2; omega)) (fun k' hk' => .inl hk'.1), gbS HB.out HG1.out (by omega)⟩
  | cons y p ih =>
    intro t u A B c d Ap cp ok w hat hbd hF hc hG hd hP hpc
    have hlen := Kd.F_max hF
    obtain ⟨hy0, hy1, hat2⟩ := atB_cons hat
    obtain ⟨ap, rfl, ep0⟩ := at_Int hP 0 (by omega) (by simp)
    have ep : w.cell? ap = some (.int .i64 y) := ep0
    clear ep0
    obtain ⟨ad, _, _, rfl, -⟩ := at_TmF hF y hy0 hy1
    have HP : Aside0 (Kd.C (Kd.int .i64) w (if cp = 1 then some ap else some { block := ap.block, off := ap.off + 1 }) p.length p) := ⟨Kd.C_drop (c := cp) (m := 1) hP (by simp) hpc⟩
    have hplen := hP.2.1
    have HF := Aside0.mk (Kd.F_bound hF)
    have HG := Aside0.mk (Kd.F_bound hG)
    have IH := Aside0.mk ih
    have HAT := Aside0.mk hat2
    have HBD := Aside0.mk hbd
    have HS := Aside0.mk (szT_eq t)
    have HSL := Aside0.mk (szL_len t.f2)
    have HSM := Aside0.mk (szT_mem (rd_mem' t.f2 y hy0 hy1))
    clear hF hG hP ih hat hat2 hbd
    have g0 := blk_alloc (blk_alloc (newAt (w := w) (o := .cells #[.int .i64 t.f0, .int .i64 t.f1, .slice (some ad) t.f2.length c] 46) rfl) (.cells #[.int .i64 u.f0, .int .i64 u.f1, .slice B u.f2.length d] 46)) (.cells #[.int .i64 0, .int .i64 0, .slice none 0 0] 46)
    have g2 := blk_alloc (newAt (w := w.alloc (.cells #[.int .i64 t.f0, .int .i64 t.f1, .slice (some ad) t.f2.length c] 46)) (o := .cells #[.int .i64 u.f0, .int .i64 u.f1, .slice B u.f2.length d] 46) (k := w.heap.size + 1) (by simp)) (.cells #[.int .i64 0, .int .i64 0, .slice none 0 0] 46)
    have g3 := newAt (w := (w.alloc (.cells #[.int .i64 t.f0, .int .i64 t.f1, .slice (some ad) t.f2.length c] 46)).alloc (.cells #[.int .i64 u.f0, .int .i64 u.f1, .slice B u.f2.length d] 46)) (o := .cells #[.int .i64 0, .int .i64 0, .slice none 0 0] 46) (k := w.heap.size + 2) (by simp)
    have HB := Aside0.mk (below_alloc (below_alloc (below_alloc (Below.refl w.heap.size w) (.cells #[.int .i64 t.f0, .int .i64 t.f1, .slice (some ad) t.f2.length c] 46)) (.cells #[.int .i64 u.f0, .int .i64 u.f1, .slice B u.f2.length d] 46)) (.cells #[.int .i64 0, .int .i64 0, .slice none 0 0] 46))
    have EP := Aside0.mk (oldc HB.out ep)
    clear ep
    simp only [List.length_cons] at *
    go_enter Try.func93, Try.ntmps93
    go_upto_region 1 with (fail)
    generalize ((w.alloc (.cells #[.int .i64 t.f0, .int .i64 t.f1, .slice (some ad) t.f2.length c] 46)).alloc (.cells #[.int .i64 u.f0, .int .i64 u.f1, .slice B u.f2.length d] 46)).alloc (.cells #[.int .i64 0, .int .i64 0, .slice none 0 0] 46) = W at *
    have G0 := Aside0.mk g0
    have G2 := Aside0.mk g2
    have G3 := Aside0.mk g3
    have hl3 := blk_lt g3
    have c2 := (blk_cell g0 2).trans rfl
    have h01 : (0:Int) < ((p.length + 1 : Nat) : Int) := by omega
    have h02 : (0:Int) < (p.length : Int) + 1 := by omega
    have h03 : (1:Int) ≤ (p.length : Int) + 1 := by omega
    clear g0 g2 g3
    go_upto_region 4 with (go_at_call 125; refine (cloneT_any t.f2 ad c _ W ?_ (Kd.F_below HF.out HB.out) hc).mono ?_; (have := HS.out; have := HBD.out; have := HSL.out; omega); rintro e w2 ⟨v1, rfl, hN2, hb2⟩; have HN2 := Aside0.mk hN2; have HB2 := Aside0.mk hb2; clear hN2 hb2 c2)
    obtain ⟨gb, cap, rfl, hgb, hgb2, -⟩ := Kd.N_form HN2.out (by omega)
    obtain ⟨cs, hcs, hFK, hcell, -⟩ := Kd.N_elem HN2.out zTm y hy0 hy1
    obtain ⟨A3, c3, rfl, hl3', hF3⟩ := kTm_openF hFK
    have hX : t.f2.getD y.toNat zTm = rd_Tm t.f2 y := rfl
    rw [hX] at hl3' hF3 hcell
    have E0 : w2.cell? ⟨gb, y.toNat * 3, none⟩ = some (.int .i64 (rd_Tm t.f2 y).f0) := hcell 0 _ rfl
    have E1 : w2.cell? ⟨gb, y.toNat * 3 + 1, none⟩ = some (.int .i64 (rd_Tm t.f2 y).f1) := hcell 1 _ rfl
    have E2 : w2.cell? ⟨gb, y.toNat * 3 + 2, none⟩ = some (.slice A3 (rd_Tm t.f2 y).f2.length c3) := hcell 2 _ rfl
    have HF3 := Aside0.mk hF3
    have hz2 := HB2.out.size
    have HG02 := Aside0.mk (HB2.out.block _ (blk_lt G0.out) |>.trans G0.out)
    have HG22 := Aside0.mk (HB2.out.block _ (blk_lt G2.out) |>.trans G2.out)
    have HG32 := Aside0.mk (HB2.out.block _ hl3 |>.trans G3.out)
    have e0 := (blk_cell HG22.out 0).trans rfl
    have e1 := (blk_cell HG22.out 1).trans rfl
    have e2 := (blk_cell HG22.out 2).trans rfl
    have ep2 := oldc HB2.out EP.out
    have k1 := fun (w' : World) (h : Below w2.heap.size w2 w') => oldc h e0
    have k2 := fun (w' : World) (h : Below w2.heap.size w2 w') => oldc h e1
    have k3 := fun (w' : World) (h : Below w2.heap.size w2 w') => oldc h e2
    have k4 := fun (w' : World) (h : Below w2.heap.size w2 w') => oldc h ep2
    have k5 := fun (w' : World) (h : Below w2.heap.size w2 w') => oldc h E0
    have k6 := fun (w' : World) (h : Below w2.heap.size w2 w') => oldc h E1
    have k7 := fun (w' : World) (h : Below w2.heap.size w2 w') => oldc h E2
    clear e0 e1 e2 ep2 E0 E1 E2 hF3 hFK hcell
    refine hd_region 14 2 (fun w' => Below w2.heap.size w2 w') (by kernel_rfl) rfl ?_ (fun _ h => h)
    intro W3 hb3 hz3 hHeld
    clear hb3
    (refine hd_take (i := 0) (oi := ?oi3) (v := ?v3) ?hi3 (by kernel_rfl) (by kernel_rfl) (by kernel_rfl) (by kernel_rfl) (by decide) ?hq3 ?hw3 ?hy3 hHeld ?hr3; (case hi3 => (simp only [List.getElem?_toArray, List.getElem?_cons_succ, List.getElem?_cons_zero]; rfl)); (case hw3 => rfl); (case hy3 => (intro w hSw; go_simp; try with_reducible rfl)); (case hq3 => exact fun _ _ _ h => h); simp only [Act.put, List.setIfInBounds_toArray, List.set_cons_zero, List.set_cons_succ])
    (refine hd_take (i := 1) (oi := ?oi5) (v := ?v5) ?hi5 (by kernel_rfl) (by kernel_rfl) (by kernel_rfl) (by kernel_rfl) (by decide) ?hq5 ?hw5 ?hy5 hHeld ?hr5; (case hi5 => (simp only [List.getElem?_toArray, List.getElem?_cons_succ, List.getElem?_cons_zero]; rfl)); (case hw5 => rfl); (case hy5 => (intro w hSw; go_simp; try with_reducible rfl)); (case hq5 => exact fun _ _ _ h => h); simp only [Act.put, List.setIfInBounds_toArray, List.set_cons_zero, List.set_cons_succ])
    (refine hd_take (i := 2) (oi := ?oi7) (v := ?v7) ?hi7 (by kernel_rfl) (by kernel_rfl) (by kernel_rfl) (by kernel_rfl) (by decide) ?hq7 ?hw7 ?hy7 hHeld ?hr7; (case hi7 => (simp only [List.getElem?_toArray, List.getElem?_cons_succ, List.getElem?_cons_zero]; rfl)); (case hw7 => rfl); (case hy7 => (intro w hSw; go_simp; try with_reducible rfl)); (case hq7 => exact fun _ _ _ h => h); simp only [Act.put, List.setIfInBounds_toArray, List.set_cons_zero, List.set_cons_succ])
    (refine hd_take (i := 3) (oi := ?oi9) (v := ?v9) ?hi9 (by kernel_rfl) (by kernel_rfl) (by kernel_rfl) (by kernel_rfl) (by decide) ?hq9 ?hw9 ?hy9 hHeld ?hr9; (case hi9 => (simp only [List.getElem?_toArray, List.getElem?_cons_succ, List.getElem?_cons_zero]; rfl)); (case hw9 => rfl); (case hy9 => (intro w hSw; go_simp; try with_reducible rfl)); (case hq9 => exact fun _ _ _ h => h); simp only [Act.put, List.setIfInBounds_toArray, List.set_cons_zero, List.set_cons_succ])
    (refine hd_take (i := 4) (oi := ?oi11) (v := ?v11) ?hi11 (by kernel_rfl) (by kernel_rfl) (by kernel_rfl) (by kernel_rfl) (by decide) ?hq11 ?hw11 ?hy11 hHeld ?hr11; (case hi11 => (simp only [List.getElem?_toArray, List.getElem?_cons_succ, List.getElem?_cons_zero]; rfl)); (case hw11 => rfl); (case hy11 => (intro w hSw; go_simp; try with_reducible rfl)); (case hq11 => exact fun _ _ _ h => h); simp only [Act.put, List.setIfInBounds_toArray, List.set_cons_zero, List.set_cons_succ])
    (refine hd_take (i := 5) (oi := ?oi13) (v := ?v13) ?hi13 (by kernel_rfl) (by kernel_rfl) (by kernel_rfl) (by kernel_rfl) (by decide) ?hq13 ?hw13 ?hy13 hHeld ?hr13; (case hi13 => (simp only [List.getElem?_toArray, List.getElem?_cons_succ, List.getElem?_cons_zero]; rfl)); (case hw13 => rfl); (case hy13 => (intro w hSw; go_simp; try with_reducible rfl)); (case hq13 => exact fun _ _ _ h => h); simp only [Act.put, List.setIfInBounds_toArray, List.set_cons_zero, List.set_cons_succ])
    (refine hd_take (i := 6) (oi := ?oi15) (v := ?v15) ?hi15 (by kernel_rfl) (by kernel_rfl) (by kernel_rfl) (by kernel_rfl) (by decide) ?hq15 ?hw15 ?hy15 hHeld ?hr15; (case hi15 => (simp only [List.getElem?_toArray, List.getElem?_cons_succ, List.getElem?_cons_zero]; rfl)); (case hw15 => rfl); (case hy15 => (intro w hSw; go_simp; try with_reducible rfl)); (case hq15 => exact fun _ _ _ h => h); simp only [Act.put, List.setIfInBounds_toArray, List.set_cons_zero, List.set_cons_succ])
    (refine hd_take (i := 7) (oi := ?oi17) (v := ?v17) ?hi17 (by kernel_rfl) (by kernel_rfl) (by kernel_rfl) (by kernel_rfl) (by decide) ?hq17 ?hw17 ?hy17 hHeld ?hr17; (case hi17 => (simp only [List.getElem?_toArray, List.getElem?_cons_succ, List.getElem?_cons_zero]; rfl)); (case hw17 => rfl); (case hy17 => (intro w hSw; go_simp; try with_reducible rfl)); (case hq17 => exact fun _ _ _ h => h); simp only [Act.put, List.setIfInBounds_toArray, List.set_cons_zero, List.set_cons_succ])
    (refine hd_take (i := 8) (oi := ?oi19) (v := ?v19) ?hi19 (by kernel_rfl) (by kernel_rfl) (by kernel_rfl) (by kernel_rfl) (by decide) ?hq19 ?hw19 ?hy19 hHeld ?hr19; (case hi19 => (simp only [List.getElem?_toArray, List.getElem?_cons_succ, List.getElem?_cons_zero]; rfl)); (case hw19 => rfl); (case hy19 => (intro w hSw; go_simp; try with_reducible rfl)); (case hq19 => exact fun _ _ _ h => h); simp only [Act.put, List.setIfInBounds_toArray, List.set_cons_zero, List.set_cons_succ])
    (refine hd_take (i := 9) (oi := ?oi21) (v := ?v21) ?hi21 (by kernel_rfl) (by kernel_rfl) (by kernel_rfl) (by kernel_rfl) (by decide) ?hq21 ?hw21 ?hy21 hHeld ?hr21; (case hi21 => (simp only [List.getElem?_toArray, List.getElem?_cons_succ, List.getElem?_cons_zero]; rfl)); (case hw21 => rfl); (case hy21 => (intro w hSw; go_simp; try with_reducible rfl)); (case hq21 => exact fun _ _ _ h => h); simp only [Act.put, List.setIfInBounds_toArray, List.set_cons_zero, List.set_cons_succ])
    (refine hd_take (i := 10) (oi := ?oi23) (v := ?v23) ?hi23 (by kernel_rfl) (by kernel_rfl) (by kernel_rfl) (by kernel_rfl) (by decide) ?hq23 ?hw23 ?hy23 hHeld ?hr23; (case hi23 => (simp only [List.getElem?_toArray, List.getElem?_cons_succ, List.getElem?_cons_zero]; rfl)); (case hw23 => rfl); (case hy23 => (intro w hSw; go_simp; try with_reducible rfl)); (case hq23 => exact fun _ _ _ h => h); simp only [Act.put, List.setIfInBounds_toArray, List.set_cons_zero, List.set_cons_succ])
    (refine hd_take (i := 11) (oi := ?oi25) (v := ?v25) ?hi25 (by kernel_rfl) (by kernel_rfl) (by kernel_rfl) (by kernel_rfl) (by decide) ?hq25 ?hw25 ?hy25 hHeld ?hr25; (case hi25 => (simp only [List.getElem?_toArray, List.getElem?_cons_succ, List.getElem?_cons_zero]; rfl)); (case hw25 => rfl); (case hy25 => (intro w hSw; go_simp; try with_reducible rfl)); (case hq25 => exact fun _ _ _ h => h); simp only [Act.put, List.setIfInBounds_toArray, List.set_cons_zero, List.set_cons_succ])
    generalize (if cp = 1 then some ap else some { block := ap.block, off := ap.off + 1 : Addr }) = Ap' at *
    (refine hd_take (i := 12) (oi := ?oi27) (v := ?v27) ?hi27 (by kernel_rfl) (by kernel_rfl) (by kernel_rfl) (by kernel_rfl) (by decide) ?hq27 ?hw27 ?hy27 hHeld ?hr27; (case hi27 => (simp only [List.getElem?_toArray, List.getElem?_cons_succ, List.getElem?_cons_zero]; rfl)); (case hw27 => rfl); (case hy27 => (intro w hSw; go_simp; try with_reducible rfl)); (case hq27 => exact fun _ _ _ h => h); simp only [Act.put, List.setIfInBounds_toArray, List.set_cons_zero, List.set_cons_succ])
    (refine hd_one (i := 13) (oi := ?oi29) ?hi29 (by kernel_rfl) (by decide) ?hr29; (case hi29 => (simp only [List.getElem?_toArray, List.getElem?_cons_succ, List.getElem?_cons_zero]; rfl)); intro K hK)
    go_simp
    go_at_call 93
    refine (IH.out (rd_Tm t.f2 y) u A3 B c3 d Ap' (cp - 1) (fun k => ((ok k ∧ k < w.heap.size) ∧ k < W.heap.size ∨ W.heap.size ≤ k) ∧ k ≠ gb) W3 HAT.out ?_ (Kd.F_below HF3.out hHeld) hl3' (Kd.F_mono (Kd.F_below HG.out (hbT (hbT HB.out HB2.out) hHeld)) ?_) hd (Kd.C_below HP.out (hbT (hbT HB.out HB2.out) hHeld)) (by omega)).mono ?_
    · have := HBD.out; have := HS.out; have := HSM.out; omega
    · intro k hk; have := HB.out.size; exact ⟨.inl ⟨hk, by omega⟩, by omega⟩
    rintro e w5 ⟨A5, c5, rfl, h5, hF5, hb5⟩
    have HF5 := Aside0.mk hF5
    clear hF5
    go_simp
    (refine hK.out _ _ ?hS31 (fun hHeld => ?hr31); (case hS31 => exact hbT hHeld hb5); clear hK K; try simp only [Act.put, List.setIfInBounds_toArray, List.set_cons_zero, List.set_cons_succ])
    (refine hd_done (by kernel_rfl) ?_; simp only [List.drop_succ_cons, List.drop_zero])
    have HB5 := Aside0.mk hHeld
    have HN5 := Aside0.mk (Kd.N_below HN2.out hHeld)
    obtain ⟨cs5, hcs5, hFK5, hcell5, -⟩ := Kd.N_elem HN5.out zTm y hy0 hy1
    obtain ⟨A6, c6, rfl, -, -⟩ := kTm_openF hFK5
    have HC5 := Aside0.mk hcell5
    have HG05 := Aside0.mk ((hHeld.block _ (blk_lt HG02.out)).trans HG02.out)
    have HG35 := Aside0.mk ((hHeld.block _ (blk_lt HG32.out)).trans HG32.out)
    clear hFK5 hcell5 hHeld hb5
    go_wp2_with (first | ((with_reducible refine gate_store (t := 46) (p := 29) rfl ?_); refine Kd.N_store kTm (w0 := w2) W.heap.size rfl rfl 46 _ _ rfl 46 y 0 t.f2 (layP (rd_Tm t.f2 y) p u) _ _ _ _ (fun k => (((ok k ∧ k < w.heap.size) ∧ k < W.heap.size ∨ W.heap.size ≤ k) ∧ k ≠ gb) ∨ W3.heap.size ≤ k) rfl rfl rfl rfl sizeTm (one3 _ _ _ _ _) HN5.out hy0 hy1 rfl HC5.out (Nat.le_refl 3) (kTm_mkF w5 _ _ h5 HF5.out) ?_ (hbW HB5.out (by omega)) ?_; (intro k hk; rcases hk with hk | hk; exact ⟨hk.1, hk.2⟩; exact ⟨.inr (by omega), by omega⟩); intro w6 hN6 hB6 hG6; have HN6 := Aside0.mk hN6; have HB6 := Aside0.mk hB6; have HG6 := Aside0.mk hG6; have HG06 := Aside0.mk ((hG6.block _ (blk_lt HG05.out) (by intro e; injection e with e; omega)).trans HG05.out); have HG36 := Aside0.mk ((hG6.block _ (blk_lt HG35.out) (by intro e; injection e with e; omega)).trans HG35.out); have hz6 := hG6.size; clear hN6 hB6 hG6) | (((with_reducible refine gate_store (t := 44) (p := 31) rfl ?_); refine st_args 31 rfl rfl rfl rfl rfl HG06.out ?_); intro w7 hs7 hG7 hz7; have HG7 := Aside0.mk hG7; have p0 := (blk_cell hs7 0).trans rfl; have p1 := (blk_cell hs7 1).trans rfl; have p2 := (blk_cell hs7 2).trans rfl; have HG37 := Aside0.mk ((hG7.block _ (blk_lt HG36.out) (by simp)).trans HG36.out); clear hs7 hG7) | (((with_reducible refine gate_store (t := 46) (p := 6) rfl ?_); refine st_tm 6 rfl rfl rfl rfl rfl HG37.out ?_); intro w8 hs8 hG8 hz8; have HS8 := Aside0.mk hs8; have HG8 := Aside0.mk hG8; clear hs8 hG8 p0 p1 p2))
    ((try simp only [Exit.inBlock, Exit.then]); refine bodyPost_ret (results_cell_row rfl _ _ _ 46 _ (0, 0) _ rfl HS8.out Try.underlying46 rfl (by kernel_rfl)) rfl ?_)
    have hLs : (layP t (y :: p) u).f2.length = t.f2.length := by simp [layP]
    have hz5 := HB5.out.size
    have hb6 := hbT (hbT HB.out HB2.out) HB5.out
    have hb7 := gbS hb6 HG6.out (by have := HB.out.size; omega)
    have hF := Kd.N_F HN6.out
    have hcap := (Kd.N_reads' HN6.out).2.1
    refine ⟨some ⟨gb, 0, none⟩, cap, by rw [hLs]; rfl, by rw [hLs]; exact hcap, ?_, gbS (gbS hb7 HG7.out (by omega)) HG8.out (by omega)⟩
    rw [hLs]
    have hsz := HB.out.size
    have hF1 : Kd.F kTm w6 (fun k => (ok k ∧ k < w.heap.size) ∨ W.heap.size ≤ k) (some ⟨gb, 0, none⟩) t.f2.length (layP t (y :: p) u).f2 := Kd.F_mono hF (fun k hk => by
      rcases hk with hk | hk
      · exact .inl hk.1
      · exact .inr hk)
    have hF2 := Kd.F_grown hF1 HG7.out (fun k hk => by intro e; injection e with e; rcases hk with hk | hk; exact absurd hk.2 (by omega); omega)
    have hF3 := Kd.F_grown hF2 HG8.out (fun k hk => by intro e; injection e with e; rcases hk with hk | hk; exact absurd hk.2 (by omega); omega)
    exact Kd.F_mono hF3 (fun k hk => by
      rcases hk with hk | hk
      · exact .inl hk.1
      · exact .inr (by omega))
end Go.Proofs.Ytcgnpmjkeifokaa
-- K16
/- superposeref.PutOf. -/
namespace Go.Proofs.Ytcgnpmjkeifokaa
open Go.RowKit Go.Proofs.YtcgnpmjkeifokaaW.PrintWords
set_option linter.unusedVariables false
set_option linter.unusedSimpArgs false

def putP : Tm → List Int → Tm → Tm
  | _, [], u => u
  | t, i :: p, u => ⟨0, t.f1, t.f2.set i.toNat (putP (rd_Tm t.f2 i) p u)⟩
theorem addB (a : Addr) (n : Nat) : (a.add n).block = a.block := by unfold Addr.add; split <;> rfl
theorem oldg {w w' : World} {row : Option Nat} (h : w.grownBy w' row) {a : Addr} {v : Value} (hv : w.cell? a = some v) (hne : some a.block ≠ row) : w'.cell? a = some v := by
  have := h.block a.block (World.block_lt_of_cell? w _ hv) hne
  unfold World.cell? at hv ⊢
  rw [this]; exact hv
theorem set_take_succ (l : List Tm) (i k : Nat) (r : Tm) (h : k < l.length) : (l.set i r).take (k+1) = (l.set i r).take k ++ [if i = k then r else rd_Tm l k] := by
  rw [List.take_succ_eq_append_getElem (by simpa using h), List.getElem_set, rd_get l k h]

theorem gbU {w w1 w2 : World} {row : Option Nat} (h : Below w.heap.size w w1) (k : w1.grownBy w2 row) (hr : ∀ b, b < w.heap.size → some b ≠ row) : Below w.heap.size w w2 :=
  ⟨k.os.trans h.os, k.tape.trans h.tape, k.output.trans h.output, Nat.le_trans h.size k.size, fun i hi => (k.block i (Nat.lt_of_lt_of_le hi h.size) (hr i hi)).trans (h.block i hi)⟩

set_option maxHeartbeats 4000000 in
set_option maxRecDepth 100000 in
theorem putOf_any (p : List Int) : ∀ (t u : Tm) (A B : Option Addr) (c d : Nat) (Ap : Option Addr) (cp : Nat) (ok : Nat → Prop) (w : World) (hat : atB t p = true) (hbd : szT t * 40 ≤ 140737488355328) (hF : Kd.F kTm w ok A t.f2.length t.f2) (hc : t.f2.length ≤ c) (hG : Kd.F kTm w ok B u.f2.length u.f2) (hd : u.f2.length ≤ d) (hP : Kd.C (Kd.int .i64) w Ap p.length p) (hpc : p.length ≤ cp),
    Calls Try.prog 50 #[.agg #[.int .i64 t.f0, .int .i64 t.f1, .slice A t.f2.length c], .slice Ap p.length cp, .agg #[.int .i64 u.f0, .int .i64 u.f1, .slice B u.f2.length d]] w fun e w' => ∃ A' c', e = .returned (.agg #[.int .i64 (putP t p u).f0, .int .i64 (putP t p u).f1, .slice A' (putP t p u).f2.length c']) ∧ (putP t p u).f2.length ≤ c' ∧ Kd.F kTm w' (fun k => ok k ∨ w.heap.size ≤ k) A' (putP t p u).f2.length (putP t p u).f2 ∧ Below w.heap.size w w' := by
  induction p with
  | nil =>
    intro t u A B c d Ap cp ok w hat hbd hF hc hG hd hP hpc
    have HF := Aside0.mk (Kd.F_bound hG)
    clear hF hG hP hat
    have g0 := newAt (w := w) (o := .cells #[.int .i64 t.f0, .int .i64 t.f1, .slice A t.f2.length c] 46) rfl
    have g1 := newAt (w := w.alloc (.cells #[.int .i64 t.f0, .int .i64 t.f1, .slice A t.f2.length c] 46)) (o := .cells #[.int .i64 u.f0, .int .i64 u.f1, .slice B u.f2.length d] 46) (k := w.heap.size + 1) (by simp)
    have g2 := blk_alloc g1 (.cells #[.int .i64 0, .int .i64 0, .slice none 0 0] 46)
    have g3 := newAt (w := (w.alloc (.cells #[.int .i64 t.f0, .int .i64 t.f1, .slice A t.f2.length c] 46)).alloc (.cells #[.int .i64 u.f0, .int .i64 u.f1, .slice B u.f2.length d] 46)) (o := .cells #[.int .i64 0, .int .i64 0, .slice none 0 0] 46) (k := w.heap.size + 2) (by simp)
    have HB := Aside0.mk (below_alloc (below_alloc (below_alloc (Below.refl w.heap.size w) (.cells #[.int .i64 t.f0, .int .i64 t.f1, .slice A t.f2.length c] 46)) (.cells #[.int .i64 u.f0, .int .i64 u.f1, .slice B u.f2.length d] 46)) (.cells #[.int .i64 0, .int .i64 0, .slice none 0 0] 46))
    go_enter Try.func50, Try.ntmps50
    go_upto_region 1 with (fail)
    generalize ((w.alloc (.cells #[.int .i64 t.f0, .int .i64 t.f1, .slice A t.f2.length c] 46)).alloc (.cells #[.int .i64 u.f0, .int .i64 u.f1, .slice B u.f2.length d] 46)).alloc (.cells #[.int .i64 0, .int .i64 0, .slice none 0 0] 46) = W at *
    have c0 := (blk_cell g2 0).trans rfl
    have c1 := (blk_cell g2 1).trans rfl
    have c2 := (blk_cell g2 2).trans rfl
    have HR := Aside0.mk g3
    clear g0 g1 g2 g3
    go_wp2_with (((with_reducible refine gate_store (t := 46) (p := 6) rfl ?_); refine st_tm 6 rfl rfl rfl rfl rfl HR.out ?_); intro w1 hs1 hG1 hz1; have HS1 := Aside0.mk hs1; have HG1 := Aside0.mk hG1; clear hs1 hG1 c0 c1 c2)
    ((try simp only [Exit.inBlock, Exit.then]); refine bodyPost_ret (results_cell_row rfl _ _ _ 46 _ (0, 0) _ rfl HS1.out Try.underlying46 rfl (by kernel_rfl)) rfl ?_)
    exact ⟨B, d, rfl, hd, Kd.F_mono (Kd.F_grown (Kd.F_below HF.out HB.out) HG1.out (fun k' hk' => by intro e; injection e with e; have := hk'.2; omega)) (fun k' hk' => .inl hk'.1), gbS HB.out HG1.out (by omega)⟩
  | cons y p ih =>
    intro t u A B c d Ap cp ok w hat hbd hF hc hG hd hP hpc
    have hlen := Kd.F_max hF
    obtain ⟨hy0, hy1, hat2⟩ := atB_cons hat
    obtain ⟨ap, rfl, ep0⟩ := at_Int hP 0 (by omega) (by simp)
    have ep : w.cell? ap = some (.int .i64 y) := ep0
    clear ep0
    have HP : Aside0 (Kd.C (Kd.int .i64) w (if cp = 1 then some ap else some { block := ap.block, off := ap.off + 1 }) p.length p) := ⟨Kd.C_drop (c := cp) (m := 1) hP (by simp) hpc⟩
    have hplen := hP.2.1
    have HF := Aside0.mk (Kd.F_bound hF)
    have HG := Aside0.mk (Kd.F_bound hG)
    have IH := Aside0.mk ih
    have HAT := Aside0.mk hat2
    have HBD := Aside0.mk hbd
    have HS := Aside0.mk (szT_eq t)
    have HSL := Aside0.mk (szL_len t.f2)
    have HSM := Aside0.mk (szT_mem (rd_mem' t.f2 y hy0 hy1))
    have EP := Aside0.mk ep
    have hapb := World.block_lt_of_cell? w _ ep
    clear hF hG hP ih hat hat2 hbd ep
    have g0 := blk_alloc (blk_alloc (newAt (w := w) (o := .cells #[.int .i64 t.f0, .int .i64 t.f1, .slice A t.f2.length c] 46) rfl) (.cells #[.int .i64 u.f0, .int .i64 u.f1, .slice B u.f2.length d] 46)) (.cells #[.int .i64 0, .int .i64 0, .slice none 0 0] 46)
    have g2 := blk_alloc (newAt (w := w.alloc (.cells #[.int .i64 t.f0, .int .i64 t.f1, .slice A t.f2.length c] 46)) (o := .cells #[.int .i64 u.f0, .int .i64 u.f1, .slice B u.f2.length d] 46) (k := w.heap.size + 1) (by simp)) (.cells #[.int .i64 0, .int .i64 0, .slice none 0 0] 46)
    have g3 := newAt (w := (w.alloc (.cells #[.int .i64 t.f0, .int .i64 t.f1, .slice A t.f2.length c] 46)).alloc (.cells #[.int .i64 u.f0, .int .i64 u.f1, .slice B u.f2.length d] 46)) (o := .cells #[.int .i64 0, .int .i64 0, .slice none 0 0] 46) (k := w.heap.size + 2) (by simp)
    have HB := Aside0.mk (below_alloc (below_alloc (below_alloc (Below.refl w.heap.size w) (.cells #[.int .i64 t.f0, .int .i64 t.f1, .slice A t.f2.length c] 46)) (.cells #[.int .i64 u.f0, .int .i64 u.f1, .slice B u.f2.length d] 46)) (.cells #[.int .i64 0, .int .i64 0, .slice none 0 0] 46))
    have hWz : (((w.alloc (.cells #[.int .i64 t.f0, .int .i64 t.f1, .slice A t.f2.length c] 46)).alloc (.cells #[.int .i64 u.f0, .int .i64 u.f1, .slice B u.f2.length d] 46)).alloc (.cells #[.int .i64 0, .int .i64 0, .slice none 0 0] 46)).heap.size = w.heap.size + 3 := by simp
    simp only [List.length_cons] at *
    go_enter Try.func50, Try.ntmps50
    go_upto_region 1 with (fail)
    generalize ((w.alloc (.cells #[.int .i64 t.f0, .int .i64 t.f1, .slice A t.f2.length c] 46)).alloc (.cells #[.int .i64 u.f0, .int .i64 u.f1, .slice B u.f2.length d] 46)).alloc (.cells #[.int .i64 0, .int .i64 0, .slice none 0 0] 46) = W at *
    have G0 := Aside0.mk g0
    have G2 := Aside0.mk g2
    have G3 := Aside0.mk g3
    have hl3 := blk_lt g3
    have c1 := (blk_cell g0 1).trans rfl
    have h01 : (0:Int) < ((p.length + 1 : Nat) : Int) := by omega
    have h02 : (0:Int) < (p.length : Int) + 1 := by omega
    have h03 : (1:Int) ≤ (p.length : Int) + 1 := by omega
    have h04 : ((p.length : Int) + 1 == 0) = false := by rw [beq_eq_false_iff_ne]; omega
    clear g0 g2 g3
    go_upto_region 4 with (((with_reducible refine gate_store (t := 46) (p := 7) rfl ?_); refine st_tm 7 rfl rfl rfl rfl rfl (newAt hWz.symm) ?_); intro w2 hs2 hG2 hz2; have HS2 := Aside0.mk hs2; have HG2 := Aside0.mk hG2; clear hs2 hG2 c1)
    have HB2 := Aside0.mk (gbS (below_alloc (Below.refl W.heap.size W) _) HG2.out (by omega))
    have hz2' := HB2.out.size
    have HB02 := Aside0.mk (hbT HB.out HB2.out)
    have hsz2 : w2.heap.size = w.heap.size + 4 := by rw [hz2]; simp; omega
    have HT2 := Aside0.mk ((HB2.out.block _ (blk_lt G0.out)).trans G0.out)
    have HU2 := Aside0.mk ((HB2.out.block _ (blk_lt G2.out)).trans G2.out)
    have HR2 := Aside0.mk ((HB2.out.block _ (blk_lt G3.out)).trans G3.out)
    clear hz2 hz2'
    generalize hr : putP (rd_Tm t.f2 y) p u = r at *
    have HRr := Aside0.mk hr
    clear hr
    go_wp2
    go_loopw [8] (fun i wr => ∃ (k : Nat) (Av : Option Addr) (cv : Nat), k ≤ t.f2.length ∧ i = .int .i64 k ∧ Aside0 (Kd.N kTm 46 wr (w.heap.size + 4) (fun k => (ok k ∧ k < w.heap.size) ∨ w.heap.size + 4 ≤ k) (.slice Av ((t.f2.set y.toNat r).take k).length cv) ((t.f2.set y.toNat r).take k)) ∧ Aside0 (Below w.heap.size w wr) ∧ Aside0 (wr.heap[w.heap.size]? = some (.cells #[.int .i64 t.f0, .int .i64 t.f1, .slice A t.f2.length c] 46 (0, 0))) ∧ Aside0 (wr.heap[w.heap.size + 1]? = some (.cells #[.int .i64 u.f0, .int .i64 u.f1, .slice B u.f2.length d] 46 (0, 0))) ∧ Aside0 (wr.heap[w.heap.size + 2]? = some (.cells #[.int .i64 0, .int .i64 0, .slice none 0 0] 46 (0, 0))) ∧ Aside0 (wr.heap[w.heap.size + 3]? = some (.cells #[.int .i64 0, .int .i64 t.f1, .slice Av ((t.f2.set y.toNat r).take k).length cv] 46 (0, 0)))) (fun i _ => t.f2.length - (intOf i).toNat)
    case atStart => exact ⟨0, none, 0, by omega, rfl, ⟨by simpa using Kd.N_nil kTm _ _ _ _⟩, HB02, HT2, HU2, HR2, ⟨by simpa using HS2.out⟩⟩
    case round =>
      obtain ⟨k, Av, cv, hk, rfl, HNk, HBr, HTr, HUr, HRr2, HOr⟩ := hrel
      have hl4 := blk_lt HOr.out
      have q0 := (blk_cell HOr.out 0).trans rfl
      have q1 := (blk_cell HOr.out 1).trans rfl
      have q2 := (blk_cell HOr.out 2).trans rfl
      have t2 := (blk_cell HTr.out 2).trans rfl
      by_cases hlt : k < t.f2.length
      · obtain ⟨ad, A2, c2, rfl, E0, E1, E2, hl2, hF2, hok2⟩ := at_TmF (Kd.F_below HF.out HBr.out) (k : Int) (by omega) (by omega)
        simp only [Int.toNat_natCast] at E0 E1 E2
        have hadb := hok2.2
        have ep := oldc HBr.out EP.out
        have HX := Aside0.mk (set_take_succ t.f2 y.toNat k r hlt)
        have HXl : Aside0 (((t.f2.set y.toNat r).take k).length ≤ t.f2.length) := ⟨by rw [List.length_take, List.length_set]; omega⟩
        have HF2 := Aside0.mk hF2
        clear hF2 hok2
        generalize (t.f2.set y.toNat r).take k = ys at *
        have HNB : Aside0 (∀ b, b < w.heap.size + 4 → some b ≠ (Value.slice Av ys.length cv).ownBlock) := ⟨fun b hb e => by have := Kd.N_base HNk.out b e.symm; omega⟩
        have HNL := Aside0.mk (Kd.N_lt HNk.out)
        have k1 := fun (w' : World) (h : wr.grownBy w' (Value.slice Av ys.length cv).ownBlock) => oldg h q2 (HNB.out (w.heap.size + 3) (by omega))
        have k2 := fun (w' : World) (h : wr.grownBy w' (Value.slice Av ys.length cv).ownBlock) => oldg h t2 (HNB.out w.heap.size (by omega))
        have k3 := fun (w' : World) (h : wr.grownBy w' (Value.slice Av ys.length cv).ownBlock) => oldg h ep (HNB.out ap.block (by omega))
        have k4 := fun (w' : World) (h : wr.grownBy w' (Value.slice Av ys.length cv).ownBlock) => oldg h E0 (HNB.out (ad.add (k * 3)).block (by rw [addB]; omega))
        have k5 := fun (w' : World) (h : wr.grownBy w' (Value.slice Av ys.length cv).ownBlock) => oldg h E1 (HNB.out (ad.add (k * 3)).block (by rw [addB]; omega))
        have k6 := fun (w' : World) (h : wr.grownBy w' (Value.slice Av ys.length cv).ownBlock) => oldg h E2 (HNB.out (ad.add (k * 3)).block (by rw [addB]; omega))
        have u0 := (blk_cell HUr.out 0).trans rfl
        have u1 := (blk_cell HUr.out 1).trans rfl
        have u2 := (blk_cell HUr.out 2).trans rfl
        have k7 := fun (w' : World) (h : wr.grownBy w' (Value.slice Av ys.length cv).ownBlock) => oldg h u0 (HNB.out (w.heap.size + 1) (by omega))
        have k8 := fun (w' : World) (h : wr.grownBy w' (Value.slice Av ys.length cv).ownBlock) => oldg h u1 (HNB.out (w.heap.size + 1) (by omega))
        have k9 := fun (w' : World) (h : wr.grownBy w' (Value.slice Av ys.length cv).ownBlock) => oldg h u2 (HNB.out (w.heap.size + 1) (by omega))
        clear u0 u1 u2 q0 q1 q2 E0 E1 E2
        by_cases hyk : (k : Int) = y
        · have hbe : ((k : Int) == y) = true := by simpa using hyk
          have HIF : Aside0 ((if y.toNat = k then r else rd_Tm t.f2 k) = r) := ⟨if_pos (by omega)⟩
          have HPR : Aside0 (putP (rd_Tm t.f2 (k : Int)) p u = r) := ⟨by rw [hyk]; exact HRr.out⟩
          have HAT2 : Aside0 (atB (rd_Tm t.f2 (k : Int)) p = true) := ⟨by rw [hyk]; exact HAT.out⟩
          have HSM2 : Aside0 (szT (rd_Tm t.f2 (k : Int)) ≤ szL t.f2) := ⟨by rw [hyk]; exact HSM.out⟩
          have HYK := Aside0.mk hyk
          clear hyk
          go_upto_region 8 with (fail)
          clear t2 ep
          refine hd_region 13 2 (fun w' => wr.grownBy w' (Value.slice Av ys.length cv).ownBlock) (by kernel_rfl) rfl ?_ (fun _ h => grown_of_below h _)
          intro W3 hb3 hz3 hHeld
          have HB3 := Aside0.mk hb3
          clear hb3
          (refine hd_take (i := 0) (oi := ?oi4) (v := ?v4) ?hi4 (by kernel_rfl) (by kernel_rfl) (by kernel_rfl) (by kernel_rfl) (by decide) ?hq4 ?hw4 ?hy4 hHeld ?hr4; (case hi4 => (simp only [List.getElem?_toArray, List.getElem?_cons_succ, List.getElem?_cons_zero]; rfl)); (case hw4 => rfl); (case hy4 => (intro w hSw; go_simp; try with_reducible rfl)); (case hq4 => exact fun _ _ _ h => h); simp only [Act.put, List.setIfInBounds_toArray, List.set_cons_zero, List.set_cons_succ])
          (refine hd_take (i := 1) (oi := ?oi6) (v := ?v6) ?hi6 (by kernel_rfl) (by kernel_rfl) (by kernel_rfl) (by kernel_rfl) (by decide) ?hq6 ?hw6 ?hy6 hHeld ?hr6; (case hi6 => (simp only [List.getElem?_toArray, List.getElem?_cons_succ, List.getElem?_cons_zero]; rfl)); (case hw6 => rfl); (case hy6 => (intro w hSw; go_simp; try with_reducible rfl)); (case hq6 => exact fun _ _ _ h => h); simp only [Act.put, List.setIfInBounds_toArray, List.set_cons_zero, List.set_cons_succ])
          (refine hd_take (i := 2) (oi := ?oi8) (v := ?v8) ?hi8 (by kernel_rfl) (by kernel_rfl) (by kernel_rfl) (by kernel_rfl) (by decide) ?hq8 ?hw8 ?hy8 hHeld ?hr8; (case hi8 => (simp only [List.getElem?_toArray, List.getElem?_cons_succ, List.getElem?_cons_zero]; rfl)); (case hw8 => rfl); (case hy8 => (intro w hSw; go_simp; try with_reducible rfl)); (case hq8 => exact fun _ _ _ h => h); simp only [Act.put, List.setIfInBounds_toArray, List.set_cons_zero, List.set_cons_succ])
          (refine hd_take (i := 3) (oi := ?oi10) (v := ?v10) ?hi10 (by kernel_rfl) (by kernel_rfl) (by kernel_rfl) (by kernel_rfl) (by decide) ?hq10 ?hw10 ?hy10 hHeld ?hr10; (case hi10 => (simp only [List.getElem?_toArray, List.getElem?_cons_succ, List.getElem?_cons_zero]; rfl)); (case hw10 => rfl); (case hy10 => (intro w hSw; go_simp; try with_reducible rfl)); (case hq10 => exact fun _ _ _ h => h); simp only [Act.put, List.setIfInBounds_toArray, List.set_cons_zero, List.set_cons_succ])
          (refine hd_take (i := 4) (oi := ?oi12) (v := ?v12) ?hi12 (by kernel_rfl) (by kernel_rfl) (by kernel_rfl) (by kernel_rfl) (by decide) ?hq12 ?hw12 ?hy12 hHeld ?hr12; (case hi12 => (simp only [List.getElem?_toArray, List.getElem?_cons_succ, List.getElem?_cons_zero]; rfl)); (case hw12 => rfl); (case hy12 => (intro w hSw; go_simp; try with_reducible rfl)); (case hq12 => exact fun _ _ _ h => h); simp only [Act.put, List.setIfInBounds_toArray, List.set_cons_zero, List.set_cons_succ])
          (refine hd_take (i := 5) (oi := ?oi14) (v := ?v14) ?hi14 (by kernel_rfl) (by kernel_rfl) (by kernel_rfl) (by kernel_rfl) (by decide) ?hq14 ?hw14 ?hy14 hHeld ?hr14; (case hi14 => (simp only [List.getElem?_toArray, List.getElem?_cons_succ, List.getElem?_cons_zero]; rfl)); (case hw14 => rfl); (case hy14 => (intro w hSw; go_simp; try with_reducible rfl)); (case hq14 => exact fun _ _ _ h => h); simp only [Act.put, List.setIfInBounds_toArray, List.set_cons_zero, List.set_cons_succ])
          (refine hd_take (i := 6) (oi := ?oi16) (v := ?v16) ?hi16 (by kernel_rfl) (by kernel_rfl) (by kernel_rfl) (by kernel_rfl) (by decide) ?hq16 ?hw16 ?hy16 hHeld ?hr16; (case hi16 => (simp only [List.getElem?_toArray, List.getElem?_cons_succ, List.getElem?_cons_zero]; rfl)); (case hw16 => rfl); (case hy16 => (intro w hSw; go_simp; try with_reducible rfl)); (case hq16 => exact fun _ _ _ h => h); simp only [Act.put, List.setIfInBounds_toArray, List.set_cons_zero, List.set_cons_succ])
          (refine hd_take (i := 7) (oi := ?oi18) (v := ?v18) ?hi18 (by kernel_rfl) (by kernel_rfl) (by kernel_rfl) (by kernel_rfl) (by decide) ?hq18 ?hw18 ?hy18 hHeld ?hr18; (case hi18 => (simp only [List.getElem?_toArray, List.getElem?_cons_succ, List.getElem?_cons_zero]; rfl)); (case hw18 => rfl); (case hy18 => (intro w hSw; go_simp; try with_reducible rfl)); (case hq18 => exact fun _ _ _ h => h); simp only [Act.put, List.setIfInBounds_toArray, List.set_cons_zero, List.set_cons_succ])
          (refine hd_take (i := 8) (oi := ?oi20) (v := ?v20) ?hi20 (by kernel_rfl) (by kernel_rfl) (by kernel_rfl) (by kernel_rfl) (by decide) ?hq20 ?hw20 ?hy20 hHeld ?hr20; (case hi20 => (simp only [List.getElem?_toArray, List.getElem?_cons_succ, List.getElem?_cons_zero]; rfl)); (case hw20 => rfl); (case hy20 => (intro w hSw; go_simp; try with_reducible rfl)); (case hq20 => exact fun _ _ _ h => h); simp only [Act.put, List.setIfInBounds_toArray, List.set_cons_zero, List.set_cons_succ])
          generalize (if cp = 1 then some ap else some { block := ap.block, off := ap.off + 1 : Addr }) = Ap' at *
          (refine hd_take (i := 9) (oi := ?oi22) (v := ?v22) ?hi22 (by kernel_rfl) (by kernel_rfl) (by kernel_rfl) (by kernel_rfl) (by decide) ?hq22 ?hw22 ?hy22 hHeld ?hr22; (case hi22 => (simp only [List.getElem?_toArray, List.getElem?_cons_succ, List.getElem?_cons_zero]; rfl)); (case hw22 => rfl); (case hy22 => (intro w hSw; go_simp; try with_reducible rfl)); (case hq22 => exact fun _ _ _ h => h); simp only [Act.put, List.setIfInBounds_toArray, List.set_cons_zero, List.set_cons_succ])
          (refine hd_one (i := 10) (oi := ?oi24) ?hi24 (by kernel_rfl) (by decide) ?hr24; (case hi24 => (simp only [List.getElem?_toArray, List.getElem?_cons_succ, List.getElem?_cons_zero]; rfl)); intro K hK)
          go_simp
          have hIH := IH.out (rd_Tm t.f2 (k : Int)) u A2 B c2 d Ap' (cp - 1) (fun k => ok k ∧ k < w.heap.size) W3 HAT2.out (by have := HBD.out; have := HS.out; have := HSM2.out; omega) (Kd.F_below HF2.out HB3.out) hl2 (Kd.F_below (Kd.F_below HG.out HBr.out) HB3.out) hd (Kd.C_below HP.out (hbT HBr.out HB3.out)) (by omega)
          simp only [HPR.out] at hIH
          go_at_call 50
          refine hIH.mono ?_
          clear hIH
          rintro e w5 ⟨A5, c5, rfl, h5, hF5, hb5⟩
          have HF5 := Aside0.mk hF5
          have hz5 := hb5.size
          have HH5 := Aside0.mk (gbT hHeld (gbOf hb5 _) (.inl rfl))
          have HN5 := Aside0.mk (Kd.N_below (Kd.N_below HNk.out HB3.out) hb5)
          clear hF5
          go_simp
          (refine hK.out _ _ ?hS26 (fun hHeld => ?hr26); (case hS26 => exact HH5.out); clear hK K; try simp only [Act.put, List.setIfInBounds_toArray, List.set_cons_zero, List.set_cons_succ])
          clear hb5
          (refine hd_one (i := 11) (oi := ?oi27) ?hi27 (by kernel_rfl) (by decide) ?hr27; (case hi27 => (simp only [List.getElem?_toArray, List.getElem?_cons_succ, List.getElem?_cons_zero]; rfl)); intro K hK)
          go_simp
          (refine hK.out _ _ ?hS29 (fun hHeld => ?hr29); (case hS29 => exact gbT HH5.out (gbOf (below_alloc (Below.refl _ _) _) _) (.inl rfl)); clear hK K; try simp only [Act.put, List.setIfInBounds_toArray, List.set_cons_zero, List.set_cons_succ])
          (refine hd_one (i := 12) (oi := ?oi30) ?hi30 (by kernel_rfl) (by decide) ?hr30; (case hi30 => (simp only [List.getElem?_toArray, List.getElem?_cons_succ, List.getElem?_cons_zero]; rfl)); intro K hK)
          refine Kd.N_append_step kTm (w0 := w5) (w.heap.size + 4) rfl _ _ 44 46 _ 40 rfl Try.underlying44 infoTm rfl (by decide) (by decide) (.slice Av ys.length cv) ys r _ (fun k => (ok k ∧ k < w.heap.size) ∨ w.heap.size + 4 ≤ k) (fun k => (ok k ∧ k < w.heap.size) ∨ W3.heap.size ≤ k) rfl rfl (kTm_mkF w5 _ _ h5 HF5.out) ?_ (fun k hk => .inr (by omega)) HN5.out (Below.refl _ _) (by omega) ?_ ?_
          · intro k' hk'
            have hb9 := HNL.out
            refine ⟨?_, fun e => ?_⟩
            · rcases hk' with hk' | hk'
              · exact .inl hk'
              · exact .inr (by omega)
            · rcases hk' with hk' | hk'
              · exact HNB.out k' (by omega) e
              · have := hb9 k' e.symm; omega
          · have h1 := HS.out; have h2 := HBD.out; have h3 := HSL.out; have h4 := HXl.out; omega
          intro v1 w6 hN1 hB1 hG1 hI1
          obtain ⟨A1, c1, rfl⟩ := Kd.N_slice hN1
          have HN1 := Aside0.mk hN1
          clear hN1 hB1 hI1
          (refine hK.out _ _ ?hS32 (fun hHeld => ?hr32); (case hS32 => exact gbT HH5.out hG1 (.inl rfl)); clear hK K; try simp only [Act.put, List.setIfInBounds_toArray, List.set_cons_zero, List.set_cons_succ])
          (refine hd_done (by kernel_rfl) ?_; simp only [List.drop_succ_cons, List.drop_zero])
          have HO6 := Aside0.mk ((hHeld.block _ hl4 (HNB.out _ (by omega))).trans HOr.out)
          have HH6 := Aside0.mk hHeld
          have hz6 := hHeld.size
          clear hHeld
          go_wp2_with (first | (((with_reducible refine gate_store (t := 44) (p := 41) rfl ?_); refine st_args 41 rfl rfl rfl rfl rfl HO6.out ?_); intro w7 hs7 hG7 hz7; have HS7 := Aside0.mk hs7; have HG7 := Aside0.mk hG7; clear hs7 hG7))
          go_roundw
          case rel =>
            refine ⟨k + 1, A1, c1, by omega, by go_num, ?_, ⟨gbS (gbU HBr.out HH6.out (fun b hb => HNB.out b (by omega))) HG7.out (by omega)⟩, ⟨(HG7.out.block _ (by omega) (by intro e; injection e with e; omega)).trans ((HH6.out.block _ (by omega) (HNB.out _ (by omega))).trans HTr.out)⟩, ⟨(HG7.out.block _ (by omega) (by intro e; injection e with e; omega)).trans ((HH6.out.block _ (by omega) (HNB.out _ (by omega))).trans HUr.out)⟩, ⟨(HG7.out.block _ (by omega) (by intro e; injection e with e; omega)).trans ((HH6.out.block _ (by omega) (HNB.out _ (by omega))).trans HRr2.out)⟩, ?_⟩
            · rw [HX.out, HIF.out]
              exact ⟨Kd.N_grown HN1.out HG7.out (fun k' hk' => by intro e; injection e with e; rcases hk' with hk' | hk'; exact absurd hk'.2 (by omega); omega)⟩
            · rw [HX.out, HIF.out]
              exact ⟨HS7.out⟩
          case measure => simp [intOf]; omega
        · have hbe : ((k : Int) == y) = false := by simpa using hyk
          have HIF : Aside0 ((if y.toNat = k then r else rd_Tm t.f2 k) = rd_Tm t.f2 k) := ⟨if_neg (by omega)⟩
          go_upto_region 9 with (fail)
          clear t2 ep
          refine hd_region 9 2 (fun w' => wr.grownBy w' (Value.slice Av ys.length cv).ownBlock) (by kernel_rfl) rfl ?_ (fun _ h => grown_of_below h _)
          intro w5 hb3 hz3 hHeld
          clear hz3
          have hz5 := hb3.size
          have HH5 := Aside0.mk hHeld
          have HN5 := Aside0.mk (Kd.N_below HNk.out hb3)
          have HF5 := Aside0.mk (Kd.F_below HF2.out hb3)
          clear hb3
          (refine hd_take (i := 0) (oi := ?oi35) (v := ?v35) ?hi35 (by kernel_rfl) (by kernel_rfl) (by kernel_rfl) (by kernel_rfl) (by decide) ?hq35 ?hw35 ?hy35 hHeld ?hr35; (case hi35 => (simp only [List.getElem?_toArray, List.getElem?_cons_succ, List.getElem?_cons_zero]; rfl)); (case hw35 => rfl); (case hy35 => (intro w hSw; go_simp; try with_reducible rfl)); (case hq35 => exact fun _ _ _ h => h); simp only [Act.put, List.setIfInBounds_toArray, List.set_cons_zero, List.set_cons_succ])
          (refine hd_take (i := 1) (oi := ?oi37) (v := ?v37) ?hi37 (by kernel_rfl) (by kernel_rfl) (by kernel_rfl) (by kernel_rfl) (by decide) ?hq37 ?hw37 ?hy37 hHeld ?hr37; (case hi37 => (simp only [List.getElem?_toArray, List.getElem?_cons_succ, List.getElem?_cons_zero]; rfl)); (case hw37 => rfl); (case hy37 => (intro w hSw; go_simp; try with_reducible rfl)); (case hq37 => exact fun _ _ _ h => h); simp only [Act.put, List.setIfInBounds_toArray, List.set_cons_zero, List.set_cons_succ])
          (refine hd_take (i := 2) (oi := ?oi39) (v := ?v39) ?hi39 (by kernel_rfl) (by kernel_rfl) (by kernel_rfl) (by kernel_rfl) (by decide) ?hq39 ?hw39 ?hy39 hHeld ?hr39; (case hi39 => (simp only [List.getElem?_toArray, List.getElem?_cons_succ, List.getElem?_cons_zero]; rfl)); (case hw39 => rfl); (case hy39 => (intro w hSw; go_simp; try with_reducible rfl)); (case hq39 => exact fun _ _ _ h => h); simp only [Act.put, List.setIfInBounds_toArray, List.set_cons_zero, List.set_cons_succ])
          (refine hd_take (i := 3) (oi := ?oi41) (v := ?v41) ?hi41 (by kernel_rfl) (by kernel_rfl) (by kernel_rfl) (by kernel_rfl) (by decide) ?hq41 ?hw41 ?hy41 hHeld ?hr41; (case hi41 => (simp only [List.getElem?_toArray, List.getElem?_cons_succ, List.getElem?_cons_zero]; rfl)); (case hw41 => rfl); (case hy41 => (intro w hSw; go_simp; try with_reducible rfl)); (case hq41 => exact fun _ _ _ h => h); simp only [Act.put, List.setIfInBounds_toArray, List.set_cons_zero, List.set_cons_succ])
          (refine hd_take (i := 4) (oi := ?oi43) (v := ?v43) ?hi43 (by kernel_rfl) (by kernel_rfl) (by kernel_rfl) (by kernel_rfl) (by decide) ?hq43 ?hw43 ?hy43 hHeld ?hr43; (case hi43 => (simp only [List.getElem?_toArray, List.getElem?_cons_succ, List.getElem?_cons_zero]; rfl)); (case hw43 => rfl); (case hy43 => (intro w hSw; go_simp; try with_reducible rfl)); (case hq43 => exact fun _ _ _ h => h); simp only [Act.put, List.setIfInBounds_toArray, List.set_cons_zero, List.set_cons_succ])
          (refine hd_take (i := 5) (oi := ?oi45) (v := ?v45) ?hi45 (by kernel_rfl) (by kernel_rfl) (by kernel_rfl) (by kernel_rfl) (by decide) ?hq45 ?hw45 ?hy45 hHeld ?hr45; (case hi45 => (simp only [List.getElem?_toArray, List.getElem?_cons_succ, List.getElem?_cons_zero]; rfl)); (case hw45 => rfl); (case hy45 => (intro w hSw; go_simp; try with_reducible rfl)); (case hq45 => exact fun _ _ _ h => h); simp only [Act.put, List.setIfInBounds_toArray, List.set_cons_zero, List.set_cons_succ])
          (refine hd_take (i := 6) (oi := ?oi47) (v := ?v47) ?hi47 (by kernel_rfl) (by kernel_rfl) (by kernel_rfl) (by kernel_rfl) (by decide) ?hq47 ?hw47 ?hy47 hHeld ?hr47; (case hi47 => (simp only [List.getElem?_toArray, List.getElem?_cons_succ, List.getElem?_cons_zero]; rfl)); (case hw47 => rfl); (case hy47 => (intro w hSw; go_simp; try with_reducible rfl)); (case hq47 => exact fun _ _ _ h => h); simp only [Act.put, List.setIfInBounds_toArray, List.set_cons_zero, List.set_cons_succ])
          (refine hd_one (i := 7) (oi := ?oi49) ?hi49 (by kernel_rfl) (by decide) ?hr49; (case hi49 => (simp only [List.getElem?_toArray, List.getElem?_cons_succ, List.getElem?_cons_zero]; rfl)); intro K hK)
          go_simp
          (refine hK.out _ _ ?hS51 (fun hHeld => ?hr51); (case hS51 => exact gbT HH5.out (gbOf (below_alloc (Below.refl _ _) _) _) (.inl rfl)); clear hK K; try simp only [Act.put, List.setIfInBounds_toArray, List.set_cons_zero, List.set_cons_succ])
          (refine hd_one (i := 8) (oi := ?oi52) ?hi52 (by kernel_rfl) (by decide) ?hr52; (case hi52 => (simp only [List.getElem?_toArray, List.getElem?_cons_succ, List.getElem?_cons_zero]; rfl)); intro K hK)
          refine Kd.N_append_step kTm (w0 := w5) (w.heap.size + 4) rfl _ _ 44 46 _ 40 rfl Try.underlying44 infoTm rfl (by decide) (by decide) (.slice Av ys.length cv) ys (rd_Tm t.f2 (k : Int)) _ (fun k => (ok k ∧ k < w.heap.size) ∨ w.heap.size + 4 ≤ k) (fun k => (ok k ∧ k < w.heap.size)) rfl rfl (kTm_mkF w5 _ _ hl2 HF5.out) ?_ (fun k hk => .inr (by omega)) HN5.out (Below.refl _ _) (by omega) ?_ ?_
          · intro k' hk'
            have hb9 := HNL.out
            refine ⟨.inl hk', fun e => HNB.out k' (by omega) e⟩
          · have h1 := HS.out; have h2 := HBD.out; have h3 := HSL.out; have h4 := HXl.out; omega
          intro v1 w6 hN1 hB1 hG1 hI1
          obtain ⟨A1, c1, rfl⟩ := Kd.N_slice hN1
          have HN1 := Aside0.mk hN1
          clear hN1 hB1 hI1
          (refine hK.out _ _ ?hS54 (fun hHeld => ?hr54); (case hS54 => exact gbT HH5.out hG1 (.inl rfl)); clear hK K; try simp only [Act.put, List.setIfInBounds_toArray, List.set_cons_zero, List.set_cons_succ])
          (refine hd_done (by kernel_rfl) ?_; simp only [List.drop_succ_cons, List.drop_zero])
          have HO6 := Aside0.mk ((hHeld.block _ hl4 (HNB.out _ (by omega))).trans HOr.out)
          have HH6 := Aside0.mk hHeld
          have hz6 := hHeld.size
          clear hHeld
          go_wp2_with (first | (((with_reducible refine gate_store (t := 44) (p := 51) rfl ?_); refine st_args 51 rfl rfl rfl rfl rfl HO6.out ?_); intro w7 hs7 hG7 hz7; have HS7 := Aside0.mk hs7; have HG7 := Aside0.mk hG7; clear hs7 hG7))
          go_roundw
          case rel =>
            refine ⟨k + 1, A1, c1, by omega, by go_num, ?_, ⟨gbS (gbU HBr.out HH6.out (fun b hb => HNB.out b (by omega))) HG7.out (by omega)⟩, ⟨(HG7.out.block _ (by omega) (by intro e; injection e with e; omega)).trans ((HH6.out.block _ (by omega) (HNB.out _ (by omega))).trans HTr.out)⟩, ⟨(HG7.out.block _ (by omega) (by intro e; injection e with e; omega)).trans ((HH6.out.block _ (by omega) (HNB.out _ (by omega))).trans HUr.out)⟩, ⟨(HG7.out.block _ (by omega) (by intro e; injection e with e; omega)).trans ((HH6.out.block _ (by omega) (HNB.out _ (by omega))).trans HRr2.out)⟩, ?_⟩
            · rw [HX.out, HIF.out]
              exact ⟨Kd.N_grown HN1.out HG7.out (fun k' hk' => by intro e; injection e with e; rcases hk' with hk' | hk'; exact absurd hk'.2 (by omega); omega)⟩
            · rw [HX.out, HIF.out]
              exact ⟨HS7.out⟩
          case measure => simp [intOf]; omega
      · obtain rfl : k = t.f2.length := by omega
        have hls : ((t.f2.set y.toNat r).take t.f2.length) = t.f2.set y.toNat r := List.take_of_length_le (by simp)
        rw [hls] at HNk q2 HOr
        have hPE : putP t (y :: p) u = ⟨0, t.f1, t.f2.set y.toNat r⟩ := by rw [putP, HRr.out]
        have HPE := Aside0.mk hPE
        have hcap := (Kd.N_reads' HNk.out).2.1
        have HNk := Aside0.mk HNk.out
        clear hPE
        try simp only [hls]
        clear hls
        go_wp2_with (((with_reducible refine gate_store (t := 46) (p := 6) rfl ?_); refine st_tm 6 rfl rfl rfl rfl rfl HRr2.out ?_); intro w7 hs7 hG7 hz7; have HS7 := Aside0.mk hs7; have HG7 := Aside0.mk hG7; clear hs7 hG7 q0 q1 q2)
        ((try simp only [Exit.inBlock, Exit.then]); refine bodyPost_ret (results_cell_row rfl _ _ _ 46 _ (0, 0) _ rfl HS7.out Try.underlying46 rfl (by kernel_rfl)) rfl ?_)
        refine ⟨Av, cv, by rw [HPE.out]; simp only [List.length_set], by rw [HPE.out]; exact hcap, ?_, gbS HBr.out HG7.out (by omega)⟩
        rw [HPE.out]
        exact Kd.F_mono (Kd.F_grown (Kd.N_F HNk.out) HG7.out (fun k' hk' => by intro e; injection e with e; rcases hk' with hk' | hk'; exact absurd hk'.2 (by omega); omega)) (fun k' hk' => by
          rcases hk' with hk' | hk'
          · exact .inl hk'.1
          · exact .inr (by omega))
end Go.Proofs.Ytcgnpmjkeifokaa
-- K17
/- term.At, term.Put, superposelaw.fn, va, small, termIs. -/
namespace Go.Proofs.Ytcgnpmjkeifokaa
open Go.RowKit Go.Proofs.YtcgnpmjkeifokaaW.PrintWords
set_option linter.unusedVariables false
set_option linter.unusedSimpArgs false

/-- What At answers. -/
def atE (g : List Int) (t : Tm) (p : List Int) : Int := if chkTs g [t] ≠ 0 then chkTs g [t] else if atB t p then 0 else 5
def atR (g : List Int) (t : Tm) (p : List Int) : Tm := if chkTs g [t] ≠ 0 then zTm else atT t p
theorem chkTs_ok {g : List Int} {l : List Tm} (h : chkTs g l = 0) : sigE g = 0 ∧ ∀ x ∈ l, okT g x := by
  unfold chkTs at h
  by_cases hs : sigE g = 0
  · refine ⟨hs, ?_⟩
    rw [if_neg (by simpa using hs)] at h
    induction l with
    | nil => intro x hx; cases hx
    | cons a l ih =>
      simp only [fe] at h
      by_cases ha : chkT g a = 0
      · simp only [ha, ne_eq, not_true_eq_false, if_false] at h
        intro x hx
        cases hx with
        | head => exact chkT_ok.1 ha
        | tail _ hx => exact ih h x hx
      · simp only [ne_eq, ha, not_false_eq_true, if_true] at h
  · rw [if_pos hs] at h; exact absurd h hs
theorem atT_none {t : Tm} {p : List Int} (h : atB t p = false) : atT t p = zTm := by
  unfold atT; unfold atB at h
  cases hh : atP t p with
  | none => rfl
  | some x => rw [hh] at h; cases h
theorem atP_sz : ∀ (p : List Int) (t x : Tm), atP t p = some x → szT x ≤ szT t
  | [], t, x, h => by rw [atP] at h; injection h with h; subst h; exact Nat.le_refl _
  | i :: p, t, x, h => by
    rw [atP] at h
    by_cases hb : 0 ≤ i ∧ i < t.f2.length
    · rw [if_pos hb] at h
      have h1 := atP_sz p _ _ h
      have h2 := szT_mem (rd_mem' t.f2 i hb.1 hb.2)
      have h3 := szT_eq t
      omega
    · rw [if_neg hb] at h; cases h
theorem atT_sz (t : Tm) (p : List Int) : szT (atT t p) ≤ szT t := by
  unfold atT
  cases h : atP t p with
  | none => have h1 : szT zTm = 1 := rfl; have := szT_pos t; simp; omega
  | some x => exact atP_sz p t x h

set_option maxHeartbeats 4000000 in
set_option maxRecDepth 100000 in
theorem at_any (g : List Int) (Ag : Option Addr) (cg : Nat) (t : Tm) (A : Option Addr) (c : Nat) (p : List Int) (Ap : Option Addr) (cp : Nat) (ok : Nat → Prop) (w : World) (hG : Kd.C (Kd.int .i64) w Ag g.length g) (hF : Kd.F kTm w ok A t.f2.length t.f2) (hc : t.f2.length ≤ c) (hP : Kd.C (Kd.int .i64) w Ap p.length p) :
    Calls Try.prog 47 #[.agg #[.slice Ag g.length cg], .agg #[.int .i64 t.f0, .int .i64 t.f1, .slice A t.f2.length c], .slice Ap p.length cp] w fun e w' => ∃ A' c', e = .returned (.tuple #[.agg #[.int .i64 (atR g t p).f0, .int .i64 (atR g t p).f1, .slice A' (atR g t p).f2.length c'], .int .i64 (atE g t p)]) ∧ (atR g t p).f2.length ≤ c' ∧ Kd.F kTm w' (fun k => w.heap.size ≤ k) A' (atR g t p).f2.length (atR g t p).f2 ∧ Below w.heap.size w w' := by
  have HF := Aside0.mk hF
  have HG := Aside0.mk hG
  have HP := Aside0.mk hP
  clear hF hG hP
  have g0 := blk_alloc (blk_alloc (newAt (w := w) (o := .cells #[.slice Ag g.length cg] 24) rfl) (.cells #[.int .i64 t.f0, .int .i64 t.f1, .slice A t.f2.length c] 46)) (.cells #[.int .i64 0, .int .i64 0, .slice none 0 0] 46)
  have g1 := blk_alloc (newAt (w := w.alloc (.cells #[.slice Ag g.length cg] 24)) (o := .cells #[.int .i64 t.f0, .int .i64 t.f1, .slice A t.f2.length c] 46) (k := w.heap.size + 1) (by simp)) (.cells #[.int .i64 0, .int .i64 0, .slice none 0 0] 46)
  have g2 := newAt (w := (w.alloc (.cells #[.slice Ag g.length cg] 24)).alloc (.cells #[.int .i64 t.f0, .int .i64 t.f1, .slice A t.f2.length c] 46)) (o := .cells #[.int .i64 0, .int .i64 0, .slice none 0 0] 46) (k := w.heap.size + 2) (by simp)
  have HB := Aside0.mk (below_alloc (below_alloc (below_alloc (Below.refl w.heap.size w) (.cells #[.slice Ag g.length cg] 24)) (.cells #[.int .i64 t.f0, .int .i64 t.f1, .slice A t.f2.length c] 46)) (.cells #[.int .i64 0, .int .i64 0, .slice none 0 0] 46))
  go_enter Try.func47, Try.ntmps47
  go_upto_region 1 with (fail)
  generalize ((w.alloc (.cells #[.slice Ag g.length cg] 24)).alloc (.cells #[.int .i64 t.f0, .int .i64 t.f1, .slice A t.f2.length c] 46)).alloc (.cells #[.int .i64 0, .int .i64 0, .slice none 0 0] 46) = W at *
  have G1 := Aside0.mk g1
  have G2 := Aside0.mk g2
  have hl2 := blk_lt g2
  have s0 := (blk_cell g0 0).trans rfl
  have t0 := (blk_cell g1 0).trans rfl
  have t1 := (blk_cell g1 1).trans rfl
  have t2 := (blk_cell g1 2).trans rfl
  clear g0 g1 g2
  have HL := Aside0.mk (F_lit1 (heap_alloc_new W (.cells #[.int .i64 t.f0, .int .i64 t.f1, .slice A t.f2.length c] 46)) (Kd.F_below HF.out (below_alloc HB.out _)) hc)
  go_upto_region 2 with (go_at_call 77; refine (termAll_any g Ag cg [t] _ _ _ _ (Kd.C_below HG.out (below_alloc HB.out _)) HL.out).mono ?_; rintro e w2 ⟨rfl, hb2⟩; have HB2 := Aside0.mk (hbA (Below.refl _ W) _ hb2); clear hb2)
  have hz2 := HB2.out.size
  have HB02 := Aside0.mk (hbT HB.out HB2.out)
  have hR2 := (HB2.out.block _ hl2).trans G2.out
  have hT2 := (HB2.out.block _ (blk_lt G1.out)).trans G1.out
  have HR2 := Aside0.mk hR2
  have HT2 := Aside0.mk hT2
  clear hR2 s0 t0 t1 t2
  by_cases h1 : chkTs g [t] = 0
  · have h1b := bneF h1
    have HOK := Aside0.mk (chkTs_ok h1)
    have HE : Aside0 (atE g t p = if atB t p then 0 else 5) := ⟨by unfold atE; rw [if_neg (by simpa using h1)]⟩
    have HR : Aside0 (atR g t p = atT t p) := ⟨by unfold atR; rw [if_neg (by simpa using h1)]⟩
    have t0 := (blk_cell hT2 0).trans rfl
    have t1 := (blk_cell hT2 1).trans rfl
    have t2 := (blk_cell hT2 2).trans rfl
    clear h1 hT2
    go_upto_region 5 with (first | (go_at_call 92; refine (find_any t A c p Ap cp ok w2 (Kd.F_below HF.out HB02.out) hc (Kd.C_below HP.out HB02.out)).mono ?_; rintro e w3 ⟨A3, c3, rfl, h3, hF3, hb3⟩; have HF3 := Aside0.mk (Kd.F_bound hF3); have HB3 := Aside0.mk hb3; clear hF3 hb3) | (((with_reducible refine gate_store (t := 46) (p := 9) rfl ?_); refine st_tm 9 rfl rfl rfl rfl rfl (heap_alloc_new _ _) ?_); intro w4 hs4 hG4 hz4; have HB4 := Aside0.mk (gbS (below_alloc (Below.refl w3.heap.size w3) _) hG4 (Nat.le_refl _)); have HS4 := Aside0.mk hs4; clear hs4 hG4 hz4 t0 t1 t2))
    have hz3 := HB3.out.size
    have hz4 := HB4.out.size
    have HB24 := Aside0.mk (hbT HB3.out HB4.out)
    have HR4 := Aside0.mk ((HB24.out.block _ (blk_lt HR2.out)).trans HR2.out)
    have p0 := (blk_cell HS4.out 0).trans rfl
    have p1 := (blk_cell HS4.out 1).trans rfl
    have p2 := (blk_cell HS4.out 2).trans rfl
    have HB04 := Aside0.mk (hbT HB02.out HB24.out)
    by_cases h2 : atB t p = true
    · have HE2 : Aside0 (atE g t p = 0) := ⟨by rw [HE.out, if_pos h2]⟩
      rw [h2]
      have HSZ : Aside0 (szT (atT t p) * 40 ≤ 140737488355328) := ⟨by have := atT_sz t p; have := (HOK.out.2 t (by simp)).1; omega⟩
      clear h2
      go_wp2_with (first | (go_at_call 67; refine (copied_any (atT t p) A3 c3 _ w4 HSZ.out (Kd.F_below HF3.out HB4.out) h3).mono ?_; rintro e w5 ⟨A5, c5, rfl, h5, hF5, hb5⟩; have HF5 := Aside0.mk hF5; have HB5 := Aside0.mk hb5; have HR5 := Aside0.mk ((hb5.block _ (blk_lt HR4.out)).trans HR4.out); clear hF5 hb5 p0 p1 p2) | (((with_reducible refine gate_store (t := 46) (p := 6) rfl ?_); refine st_tm 6 rfl rfl rfl rfl rfl HR5.out ?_); intro w6 hs6 hG6 hz6; have HS6 := Aside0.mk hs6; have HG6 := Aside0.mk hG6; clear hs6 hG6))
      ((try simp only [Exit.inBlock, Exit.then]); refine bodyPost_ret (results_ct rfl _ _ _ 46 _ (0, 0) _ rfl HS6.out Try.underlying46 rfl (by kernel_rfl)) rfl ?_)
      exact ⟨A5, c5, by rw [HR.out, HE2.out]; rfl, by rw [HR.out]; exact h5, by rw [HR.out]; exact Kd.F_mono (Kd.F_grown HF5.out HG6.out (fun k hk => by intro e; injection e with e; omega)) (fun k hk => by omega), gbS (hbT HB04.out HB5.out) HG6.out (by omega)⟩
    · have h2f : atB t p = false := by simpa using h2
      have HE2 : Aside0 (atE g t p = 5) := ⟨by rw [HE.out, if_neg h2]⟩
      have HZ : Aside0 (atR g t p = zTm) := ⟨by rw [HR.out, atT_none h2f]⟩
      rw [h2f]
      clear h2 h2f p0 p1 p2
      go_wp2_with (((with_reducible refine gate_store (t := 46) (p := 6) rfl ?_); refine st_tm 6 rfl rfl rfl rfl rfl HR4.out ?_); intro w6 hs6 hG6 hz6; have HS6 := Aside0.mk hs6; have HG6 := Aside0.mk hG6; clear hs6 hG6)
      ((try simp only [Exit.inBlock, Exit.then]); refine bodyPost_ret (results_ct rfl _ _ _ 46 _ (0, 0) _ rfl HS6.out Try.underlying46 rfl (by kernel_rfl)) rfl ?_)
      exact ⟨none, 0, by rw [HZ.out, HE2.out]; rfl, by rw [HZ.out]; exact Nat.le_refl _, by rw [HZ.out]; exact F_none _ _, gbS HB04.out HG6.out (by omega)⟩
  · have h1b := bneT h1
    have HE : Aside0 (atE g t p = chkTs g [t]) := ⟨by unfold atE; rw [if_pos h1]⟩
    have HZ : Aside0 (atR g t p = zTm) := ⟨by unfold atR; rw [if_pos h1]⟩
    clear h1 hT2
    go_wp2_with (((with_reducible refine gate_store (t := 46) (p := 6) rfl ?_); refine st_tm 6 rfl rfl rfl rfl rfl HR2.out ?_); intro w6 hs6 hG6 hz6; have HS6 := Aside0.mk hs6; have HG6 := Aside0.mk hG6; clear hs6 hG6)
    ((try simp only [Exit.inBlock, Exit.then]); refine bodyPost_ret (results_ct rfl _ _ _ 46 _ (0, 0) _ rfl HS6.out Try.underlying46 rfl (by kernel_rfl)) rfl ?_)
    exact ⟨none, 0, by rw [HZ.out, HE.out]; rfl, by rw [HZ.out]; exact Nat.le_refl _, by rw [HZ.out]; exact F_none _ _, gbS HB02.out HG6.out (by omega)⟩

/-- What Put answers. -/
def putE (g : List Int) (t u : Tm) (p : List Int) : Int := if chkTs g [t, u] ≠ 0 then chkTs g [t, u] else if atB t p then (if 120 < szT (putP t p u) then 2 else 0) else 5
def putR (g : List Int) (t u : Tm) (p : List Int) : Tm := if putE g t u p ≠ 0 then zTm else putP t p u
theorem layP_putP (g : List Int) (u : Tm) : ∀ (p : List Int) (t : Tm), formE g t = 0 → atB t p = true → layP t p u = putP t p u
  | [], t, _, _ => rfl
  | y :: p, t, hf, ha => by
    obtain ⟨h0, h1, h2⟩ := atB_cons ha
    rw [formE_eq] at hf
    by_cases hl : formEL g t.f2 = 0
    · rw [if_neg (by simpa using hl)] at hf
      have hv : t.f0 = 0 := by
        by_cases hv : t.f0 = 0
        · exact hv
        · unfold partE at hf
          rw [if_pos hv] at hf
          split at hf
          · split at hf
            · omega
            · cases hf
          · cases hf
      have hr := layP_putP g u p (rd_Tm t.f2 y) (formEL_mem hl _ (rd_mem' t.f2 y h0 h1)) h2
      rw [layP, putP, hr, hv]
    · rw [if_pos hl] at hf; exact absurd hf hl

set_option maxHeartbeats 4000000 in
set_option maxRecDepth 100000 in
theorem put_any (g : List Int) (Ag : Option Addr) (cg : Nat) (t u : Tm) (A B : Option Addr) (c d : Nat) (p : List Int) (Ap : Option Addr) (cp : Nat) (ok : Nat → Prop) (w : World) (hG : Kd.C (Kd.int .i64) w Ag g.length g) (hF : Kd.F kTm w ok A t.f2.length t.f2) (hc : t.f2.length ≤ c) (hU : Kd.F kTm w ok B u.f2.length u.f2) (hd : u.f2.length ≤ d) (hP : Kd.C (Kd.int .i64) w Ap p.length p) (hpc : p.length ≤ cp) :
    Calls Try.prog 48 #[.agg #[.slice Ag g.length cg], .agg #[.int .i64 t.f0, .int .i64 t.f1, .slice A t.f2.length c], .slice Ap p.length cp, .agg #[.int .i64 u.f0, .int .i64 u.f1, .slice B u.f2.length d]] w fun e w' => ∃ A' c', e = .returned (.tuple #[.agg #[.int .i64 (putR g t u p).f0, .int .i64 (putR g t u p).f1, .slice A' (putR g t u p).f2.length c'], .int .i64 (putE g t u p)]) ∧ (putR g t u p).f2.length ≤ c' ∧ Kd.F kTm w' (fun k => w.heap.size ≤ k) A' (putR g t u p).f2.length (putR g t u p).f2 ∧ Below w.heap.size w w' := by
  have HF := Aside0.mk hF
  have HU := Aside0.mk hU
  have HG := Aside0.mk hG
  have HP := Aside0.mk hP
  have HPC := Aside0.mk hpc
  clear hF hG hP hU hpc
  have g1 := blk_alloc (blk_alloc (newAt (w := w.alloc (.cells #[.slice Ag g.length cg] 24)) (o := .cells #[.int .i64 t.f0, .int .i64 t.f1, .slice A t.f2.length c] 46) (k := w.heap.size + 1) (by simp)) (.cells #[.int .i64 u.f0, .int .i64 u.f1, .slice B u.f2.length d] 46)) (.cells #[.int .i64 0, .int .i64 0, .slice none 0 0] 46)
  have g0 := blk_alloc (blk_alloc (blk_alloc (newAt (w := w) (o := .cells #[.slice Ag g.length cg] 24) rfl) (.cells #[.int .i64 t.f0, .int .i64 t.f1, .slice A t.f2.length c] 46)) (.cells #[.int .i64 u.f0, .int .i64 u.f1, .slice B u.f2.length d] 46)) (.cells #[.int .i64 0, .int .i64 0, .slice none 0 0] 46)
  have g3 := blk_alloc (newAt (w := (w.alloc (.cells #[.slice Ag g.length cg] 24)).alloc (.cells #[.int .i64 t.f0, .int .i64 t.f1, .slice A t.f2.length c] 46)) (o := .cells #[.int .i64 u.f0, .int .i64 u.f1, .slice B u.f2.length d] 46) (k := w.heap.size + 2) (by simp)) (.cells #[.int .i64 0, .int .i64 0, .slice none 0 0] 46)
  have g2 := newAt (w := ((w.alloc (.cells #[.slice Ag g.length cg] 24)).alloc (.cells #[.int .i64 t.f0, .int .i64 t.f1, .slice A t.f2.length c] 46)).alloc (.cells #[.int .i64 u.f0, .int .i64 u.f1, .slice B u.f2.length d] 46)) (o := .cells #[.int .i64 0, .int .i64 0, .slice none 0 0] 46) (k := w.heap.size + 3) (by simp)
  have HB := Aside0.mk (below_alloc (below_alloc (below_alloc (below_alloc (Below.refl w.heap.size w) (.cells #[.slice Ag g.length cg] 24)) (.cells #[.int .i64 t.f0, .int .i64 t.f1, .slice A t.f2.length c] 46)) (.cells #[.int .i64 u.f0, .int .i64 u.f1, .slice B u.f2.length d] 46)) (.cells #[.int .i64 0, .int .i64 0, .slice none 0 0] 46))
  go_enter Try.func48, Try.ntmps48
  go_upto_region 1 with (fail)
  generalize (((w.alloc (.cells #[.slice Ag g.length cg] 24)).alloc (.cells #[.int .i64 t.f0, .int .i64 t.f1, .slice A t.f2.length c] 46)).alloc (.cells #[.int .i64 u.f0, .int .i64 u.f1, .slice B u.f2.length d] 46)).alloc (.cells #[.int .i64 0, .int .i64 0, .slice none 0 0] 46) = W at *
  have G1 := Aside0.mk g1
  have G2 := Aside0.mk g2
  have G3 := Aside0.mk g3
  have hl2 := blk_lt g2
  have s0 := (blk_cell g0 0).trans rfl
  have t0 := (blk_cell g1 0).trans rfl
  have t1 := (blk_cell g1 1).trans rfl
  have t2 := (blk_cell g1 2).trans rfl
  have u0 := (blk_cell g3 0).trans rfl
  have u1 := (blk_cell g3 1).trans rfl
  have u2 := (blk_cell g3 2).trans rfl
  clear g0 g1 g2 g3
  have HL := Aside0.mk (F_lit2 (heap_alloc_new W (.cells #[.int .i64 t.f0, .int .i64 t.f1, .slice A t.f2.length c, .int .i64 u.f0, .int .i64 u.f1, .slice B u.f2.length d] 46)) (Kd.F_below HF.out (below_alloc HB.out _)) hc (Kd.F_below HU.out (below_alloc HB.out _)) hd)
  go_upto_region 2 with (go_at_call 77; refine (termAll_any g Ag cg [t, u] _ _ _ _ (Kd.C_below HG.out (below_alloc HB.out _)) HL.out).mono ?_; rintro e w2 ⟨rfl, hb2⟩; have HB2 := Aside0.mk (hbA (Below.refl _ W) _ hb2); clear hb2)
  have hz2 := HB2.out.size
  have HB02 := Aside0.mk (hbT HB.out HB2.out)
  have HR2 := Aside0.mk ((HB2.out.block _ hl2).trans G2.out)
  have HT2 := Aside0.mk ((HB2.out.block _ (blk_lt G1.out)).trans G1.out)
  have HU2 := Aside0.mk ((HB2.out.block _ (blk_lt G3.out)).trans G3.out)
  clear s0 t0 t1 t2 u0 u1 u2
  by_cases h1 : chkTs g [t, u] = 0
  · have h1b := bneF h1
    have HOK := Aside0.mk (chkTs_ok h1)
    have HE : Aside0 (putE g t u p = if atB t p then (if 120 < szT (putP t p u) then 2 else 0) else 5) := ⟨by unfold putE; rw [if_neg (by simpa using h1)]⟩
    have t0 := (blk_cell HT2.out 0).trans rfl
    have t1 := (blk_cell HT2.out 1).trans rfl
    have t2 := (blk_cell HT2.out 2).trans rfl
    clear h1
    go_upto_region 5 with (first | (go_at_call 92; refine (find_any t A c p Ap cp ok w2 (Kd.F_below HF.out HB02.out) hc (Kd.C_below HP.out HB02.out)).mono ?_; rintro e w3 ⟨A3, c3, rfl, h3, hF3, hb3⟩; have HB3 := Aside0.mk hb3; clear hF3 hb3) | (((with_reducible refine gate_store (t := 46) (p := 11) rfl ?_); refine st_tm 11 rfl rfl rfl rfl rfl (heap_alloc_new _ _) ?_); intro w4 hs4 hG4 hz4; have HB4 := Aside0.mk (gbS (below_alloc (Below.refl w3.heap.size w3) _) hG4 (Nat.le_refl _)); clear hs4 hG4 hz4 t0 t1 t2))
    have hz3 := HB3.out.size
    have hz4 := HB4.out.size
    have HB24 := Aside0.mk (hbT HB3.out HB4.out)
    have HR4 := Aside0.mk ((HB24.out.block _ (blk_lt HR2.out)).trans HR2.out)
    have HB04 := Aside0.mk (hbT HB02.out HB24.out)
    have hT4 := (HB24.out.block _ (blk_lt HT2.out)).trans HT2.out
    have hU4 := (HB24.out.block _ (blk_lt HU2.out)).trans HU2.out
    by_cases h2 : atB t p = true
    · have HLP : Aside0 (layP t p u = putP t p u) := ⟨layP_putP g u p t (HOK.out.2 t (by simp)).2 h2⟩
      have HE2 : Aside0 (putE g t u p = if 120 < szT (putP t p u) then 2 else 0) := ⟨by rw [HE.out, if_pos h2]⟩
      have HAT := Aside0.mk h2
      have HSZ : Aside0 (szT t * 40 ≤ 140737488355328) := ⟨by have := (HOK.out.2 t (by simp)).1; omega⟩
      rw [h2]
      have t0 := (blk_cell hT4 0).trans rfl
      have t1 := (blk_cell hT4 1).trans rfl
      have t2 := (blk_cell hT4 2).trans rfl
      have u0 := (blk_cell hU4 0).trans rfl
      have u1 := (blk_cell hU4 1).trans rfl
      have u2 := (blk_cell hU4 2).trans rfl
      have hLay := lay_any p t u A B c d Ap cp (fun k => ok k ∧ k < w.heap.size) w4 HAT.out HSZ.out (Kd.F_below (Kd.F_bound HF.out) HB04.out) hc (Kd.F_below (Kd.F_bound HU.out) HB04.out) hd (Kd.C_below HP.out HB04.out) HPC.out
      simp only [HLP.out] at hLay
      have HLay := Aside0.mk hLay
      clear h2 hT4 hU4 hLay
      generalize hpr : putP t p u = r at *
      have HPR := Aside0.mk hpr
      clear hpr
      go_upto_region 8 with (first | (go_at_call 93; refine HLay.out.mono ?_; rintro e w5 ⟨A5, c5, rfl, h5, hF5, hb5⟩; have HF5 := Aside0.mk (Kd.F_bound hF5); have HB5 := Aside0.mk hb5; clear hF5 hb5) | (((with_reducible refine gate_store (t := 46) (p := 13) rfl ?_); refine st_tm 13 rfl rfl rfl rfl rfl (heap_alloc_new _ _) ?_); intro w6 hs6 hG6 hz6; have HB6 := Aside0.mk (gbS (below_alloc (Below.refl w5.heap.size w5) _) hG6 (Nat.le_refl _)); have HS6 := Aside0.mk hs6; clear hs6 hG6 hz6 t0 t1 t2 u0 u1 u2))
      have hz5 := HB5.out.size
      have hz6 := HB6.out.size
      have HB46 := Aside0.mk (hbT HB5.out HB6.out)
      have HR6 := Aside0.mk ((HB46.out.block _ (blk_lt HR4.out)).trans HR4.out)
      have HF6 := Aside0.mk (Kd.F_below HF5.out HB6.out)
      have p0 := (blk_cell HS6.out 0).trans rfl
      have p1 := (blk_cell HS6.out 1).trans rfl
      have p2 := (blk_cell HS6.out 2).trans rfl
      have HB06 := Aside0.mk (hbT HB04.out HB46.out)
      by_cases h3 : 120 < szT r
      · have hmin : min (szT r : Int) (120 + 1) = 121 := by omega
        have HE3 : Aside0 (putE g t u p = 2) := ⟨by rw [HE2.out, if_pos h3]⟩
        have HZ : Aside0 (putR g t u p = zTm) := ⟨by unfold putR; rw [HE3.out]; rfl⟩
        clear h3
        go_wp2_with (first | (go_at_call 87; refine (count_any (szT r) r A5 c5 w6 120 (Nat.le_refl _) (Kd.F_now HF6.out) (by omega) (by omega)).mono ?_; rintro e w7 ⟨rfl, hb7⟩; simp only [hmin]; have HB7 := Aside0.mk hb7; have HR7 := Aside0.mk ((hb7.block _ (blk_lt HR6.out)).trans HR6.out); clear hb7 p0 p1 p2 hmin) | (((with_reducible refine gate_store (t := 46) (p := 8) rfl ?_); refine st_tm 8 rfl rfl rfl rfl rfl HR7.out ?_); intro w8 hs8 hG8 hz8; have HS8 := Aside0.mk hs8; have HG8 := Aside0.mk hG8; clear hs8 hG8))
        ((try simp only [Exit.inBlock, Exit.then]); refine bodyPost_ret (results_ct rfl _ _ _ 46 _ (0, 0) _ rfl HS8.out Try.underlying46 rfl (by kernel_rfl)) rfl ?_)
        exact ⟨none, 0, by rw [HZ.out, HE3.out]; rfl, by rw [HZ.out]; exact Nat.le_refl _, by rw [HZ.out]; exact F_none _ _, gbS (hbT HB06.out HB7.out) HG8.out (by omega)⟩
      · have hmin : min (szT r : Int) (120 + 1) = szT r := by omega
        have hle : ¬ (120 : Int) < szT r := by omega
        have HE3 : Aside0 (putE g t u p = 0) := ⟨by rw [HE2.out, if_neg h3]⟩
        have HLE : Aside0 (szT r * 40 ≤ 140737488355328) := ⟨by omega⟩
        clear h3
        go_upto_region 10 with (go_at_call 87; refine (count_any (szT r) r A5 c5 w6 120 (Nat.le_refl _) (Kd.F_now HF6.out) (by omega) (by omega)).mono ?_; rintro e w7 ⟨rfl, hb7⟩; simp only [hmin]; have HB7 := Aside0.mk hb7; have HR7 := Aside0.mk ((hb7.block _ (blk_lt HR6.out)).trans HR6.out); have HS7 := Aside0.mk ((hb7.block _ (blk_lt HS6.out)).trans HS6.out); clear hb7 p0 p1 p2 hmin)
        have p0 := (blk_cell HS7.out 0).trans rfl
        have p1 := (blk_cell HS7.out 1).trans rfl
        have p2 := (blk_cell HS7.out 2).trans rfl
        have hz7 := HB7.out.size
        go_wp2_with (first | (go_at_call 67; refine (copied_any r A5 c5 _ w7 HLE.out (Kd.F_below HF6.out HB7.out) h5).mono ?_; rintro e w8 ⟨A8, c8, rfl, h8, hF8, hb8⟩; have HF8 := Aside0.mk hF8; have HB8 := Aside0.mk hb8; have HR8 := Aside0.mk ((hb8.block _ (blk_lt HR7.out)).trans HR7.out); clear hF8 hb8 p0 p1 p2) | (((with_reducible refine gate_store (t := 46) (p := 8) rfl ?_); refine st_tm 8 rfl rfl rfl rfl rfl HR8.out ?_); intro w9 hs9 hG9 hz9; have HS9 := Aside0.mk hs9; have HG9 := Aside0.mk hG9; clear hs9 hG9))
        ((try simp only [Exit.inBlock, Exit.then]); refine bodyPost_ret (results_ct rfl _ _ _ 46 _ (0, 0) _ rfl HS9.out Try.underlying46 rfl (by kernel_rfl)) rfl ?_)
        have hr9 : putR g t u p = r := by unfold putR; rw [HE3.out, HPR.out]; rfl
        exact ⟨A8, c8, by rw [hr9, HE3.out]; rfl, by rw [hr9]; exact h8, by rw [hr9]; exact Kd.F_mono (Kd.F_grown HF8.out HG9.out (fun k hk => by intro e; injection e with e; omega)) (fun k hk => by omega), gbS (hbT (hbT HB06.out HB7.out) HB8.out) HG9.out (by omega)⟩
    · have h2f : atB t p = false := by simpa using h2
      have HE2 : Aside0 (putE g t u p = 5) := ⟨by rw [HE.out, if_neg h2]⟩
      have HZ : Aside0 (putR g t u p = zTm) := ⟨by unfold putR; rw [HE2.out]; rfl⟩
      rw [h2f]
      clear h2 h2f hT4 hU4
      go_wp2_with (((with_reducible refine gate_store (t := 46) (p := 8) rfl ?_); refine st_tm 8 rfl rfl rfl rfl rfl HR4.out ?_); intro w6 hs6 hG6 hz6; have HS6 := Aside0.mk hs6; have HG6 := Aside0.mk hG6; clear hs6 hG6)
      ((try simp only [Exit.inBlock, Exit.then]); refine bodyPost_ret (results_ct rfl _ _ _ 46 _ (0, 0) _ rfl HS6.out Try.underlying46 rfl (by kernel_rfl)) rfl ?_)
      exact ⟨none, 0, by rw [HZ.out, HE2.out]; rfl, by rw [HZ.out]; exact Nat.le_refl _, by rw [HZ.out]; exact F_none _ _, gbS HB04.out HG6.out (by omega)⟩
  · have h1b := bneT h1
    have HE : Aside0 (putE g t u p = chkTs g [t, u]) := ⟨by unfold putE; rw [if_pos h1]⟩
    have HZ : Aside0 (putR g t u p = zTm) := ⟨by unfold putR; rw [HE.out, if_pos h1]⟩
    clear h1
    go_wp2_with (((with_reducible refine gate_store (t := 46) (p := 8) rfl ?_); refine st_tm 8 rfl rfl rfl rfl rfl HR2.out ?_); intro w6 hs6 hG6 hz6; have HS6 := Aside0.mk hs6; have HG6 := Aside0.mk hG6; clear hs6 hG6)
    ((try simp only [Exit.inBlock, Exit.then]); refine bodyPost_ret (results_ct rfl _ _ _ 46 _ (0, 0) _ rfl HS6.out Try.underlying46 rfl (by kernel_rfl)) rfl ?_)
    exact ⟨none, 0, by rw [HZ.out, HE.out]; rfl, by rw [HZ.out]; exact Nat.le_refl _, by rw [HZ.out]; exact F_none _ _, gbS HB02.out HG6.out (by omega)⟩
end Go.Proofs.Ytcgnpmjkeifokaa
