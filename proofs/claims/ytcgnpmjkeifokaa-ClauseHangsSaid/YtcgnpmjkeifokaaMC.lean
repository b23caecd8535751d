/- The walks of the lists of variables, of termBegun, and the opening of arguments. -/
import Derived.Test.YtcgnpmjkeifokaaMB
import Derived.ChangeArms
import Derived.Deep.Strs
import Derived.ChangeOld
import Derived.SizedLaws
import Derived.ProofKit
import Derived.OpenShut
-- K18
/- superposelaw.fn, va, small, termIs. -/
namespace Go.Proofs.Ytcgnpmjkeifokaa
open Go.RowKit Go.Proofs.YtcgnpmjkeifokaaW.PrintWords
set_option linter.unusedVariables false
set_option linter.unusedSimpArgs false

theorem fn_any (n : Int) (A : Option Addr) (k c : Nat) (w : World) :
    Calls Try.prog 62 #[.int .i64 n, .slice A k c] w fun e w' => e = .returned (.agg #[.int .i64 0, .int .i64 n, .slice A k c]) ∧ Below w.heap.size w w' := by
  have g0 := newAt (w := w) (o := .cells #[.int .i64 0, .int .i64 0, .slice none 0 0] 46) rfl
  have HB := Aside0.mk (below_alloc (Below.refl w.heap.size w) (.cells #[.int .i64 0, .int .i64 0, .slice none 0 0] 46))
  go_enter Try.func62, Try.ntmps62
  go_upto_region 1 with (fail)
  generalize w.alloc (.cells #[.int .i64 0, .int .i64 0, .slice none 0 0] 46) = W at *
  have HR := Aside0.mk g0
  clear g0
  go_wp2_with (((with_reducible refine gate_store (t := 46) (p := 4) rfl ?_); refine st_tm 4 rfl rfl rfl rfl rfl HR.out ?_); intro w1 hs1 hG1 hz1; have HS1 := Aside0.mk hs1; have HG1 := Aside0.mk hG1; clear hs1 hG1)
  ((try simp only [Exit.inBlock, Exit.then]); refine bodyPost_ret (results_cell_row rfl _ _ _ 46 _ (0, 0) _ rfl HS1.out Try.underlying46 rfl (by kernel_rfl)) rfl ?_)
  exact ⟨rfl, gbS HB.out HG1.out (Nat.le_refl _)⟩

theorem va_any (n : Int) (w : World) :
    Calls Try.prog 61 #[.int .i64 n] w fun e w' => e = .returned (.agg #[.int .i64 n, .int .i64 0, .slice none 0 0]) ∧ Below w.heap.size w w' := by
  have g0 := newAt (w := w) (o := .cells #[.int .i64 0, .int .i64 0, .slice none 0 0] 46) rfl
  have HB := Aside0.mk (below_alloc (Below.refl w.heap.size w) (.cells #[.int .i64 0, .int .i64 0, .slice none 0 0] 46))
  go_enter Try.func61, Try.ntmps61
  go_upto_region 1 with (fail)
  generalize w.alloc (.cells #[.int .i64 0, .int .i64 0, .slice none 0 0] 46) = W at *
  have HR := Aside0.mk g0
  clear g0
  go_wp2_with (((with_reducible refine gate_store (t := 46) (p := 2) rfl ?_); refine st_tm 2 rfl rfl rfl rfl rfl HR.out ?_); intro w1 hs1 hG1 hz1; have HS1 := Aside0.mk hs1; have HG1 := Aside0.mk hG1; clear hs1 hG1)
  ((try simp only [Exit.inBlock, Exit.then]); refine bodyPost_ret (results_cell_row rfl _ _ _ 46 _ (0, 0) _ rfl HS1.out Try.underlying46 rfl (by kernel_rfl)) rfl ?_)
  exact ⟨rfl, gbS HB.out HG1.out (Nat.le_refl _)⟩

theorem sizeSg : (Try.prog.info? 24).map (·.size) = some 1 := by kernel_rfl
theorem small_any (w : World) :
    Calls Try.prog 63 #[] w fun e w' => ∃ A, e = .returned (.agg #[.slice A 2 2]) ∧ Kd.C (Kd.int .i64) w' A 2 [0, 1] ∧ Below w.heap.size w w' := by
  have g0 := newAt (w := w) (o := .cells #[.slice none 0 0] 24) rfl
  have HB := Aside0.mk (below_alloc (Below.refl w.heap.size w) (.cells #[.slice none 0 0] 24))
  go_enter Try.func63, Try.ntmps63
  go_upto_region 1 with (fail)
  generalize w.alloc (.cells #[.slice none 0 0] 24) = W at *
  have HR := Aside0.mk (blk_alloc g0 (.cells #[.int .i64 0, .int .i64 1] 3))
  have hN := heap_alloc_new W (.cells #[.int .i64 0, .int .i64 1] 3)
  have hlt := blk_lt g0
  have HN := Aside0.mk hN
  clear g0 hN
  go_wp2_with ((with_reducible refine gate_store (t := 24) (p := 0) rfl ?_); refine st_blk rfl rfl rfl #[.slice (some ⟨W.heap.size, 0, none⟩) 2 2] [.slice (some ⟨W.heap.size, 0, none⟩) 2 2] rfl rfl rfl sizeSg (one1 _ _ _) HR.out (Nat.le_refl 1) rfl ?_; intro w1 hs1 hG1 hz1; have HS1 := Aside0.mk hs1; have HG1 := Aside0.mk hG1; clear hs1 hG1)
  refine bodyPost_ret (results_cell_row rfl _ _ _ 24 _ (0, 0) _ rfl HS1.out Try.underlying24 rfl (by kernel_rfl)) rfl ?_
  refine ⟨_, rfl, ?_, gbS (below_alloc HB.out _) HG1.out (by omega)⟩
  have h1 : w1.heap[W.heap.size]? = some (.cells #[.int .i64 0, .int .i64 1] 3 (0, 0)) := (HG1.out.block _ (blk_lt HN.out) (by intro e; injection e with e; omega)).trans HN.out
  refine ⟨rfl, by decide, fun _ => ⟨_, rfl, ?_⟩⟩
  intro j p hp
  match j with
  | 0 =>
    simp at hp; subst hp
    refine ⟨[.int .i64 0], rfl, rfl, fun i u hu => ?_⟩
    match i with
    | 0 => simp at hu; subst hu; exact (blk_cell h1 0).trans rfl
    | i + 1 => simp at hu
  | 1 =>
    simp at hp; subst hp
    refine ⟨[.int .i64 1], rfl, rfl, fun i u hu => ?_⟩
    match i with
    | 0 => simp at hu; subst hu; exact (blk_cell h1 1).trans rfl
    | i + 1 => simp at hu
  | j + 2 => simp at hp

set_option maxHeartbeats 4000000 in
set_option maxRecDepth 100000 in
theorem termIs_any (t v : Tm) (A B : Option Addr) (c d : Nat) (e0 w0 : Int) (ok ok2 : Nat → Prop) (w : World) (hF : Kd.F kTm w ok A t.f2.length t.f2) (hc : t.f2.length ≤ c) (hG : Kd.F kTm w ok2 B v.f2.length v.f2) (hd : v.f2.length ≤ d) (he : e0 = w0) (hv : t = if w0 ≠ 0 then zTm else v) :
    Calls Try.prog 30 #[.agg #[.int .i64 t.f0, .int .i64 t.f1, .slice A t.f2.length c], .int .i64 e0, .int .i64 w0, .agg #[.int .i64 v.f0, .int .i64 v.f1, .slice B v.f2.length d]] w fun e w' => e = .returned (.bool true) ∧ Below w.heap.size w w' := by
  have HF := Aside0.mk hF
  have HG := Aside0.mk hG
  subst he
  have HVV := Aside0.mk hv
  clear hF hG hv
  have g0 := blk_alloc (newAt (w := w) (o := .cells #[.int .i64 t.f0, .int .i64 t.f1, .slice A t.f2.length c] 46) rfl) (.cells #[.int .i64 v.f0, .int .i64 v.f1, .slice B v.f2.length d] 46)
  have g1 := newAt (w := w.alloc (.cells #[.int .i64 t.f0, .int .i64 t.f1, .slice A t.f2.length c] 46)) (o := .cells #[.int .i64 v.f0, .int .i64 v.f1, .slice B v.f2.length d] 46) (k := w.heap.size + 1) (by simp)
  have HB := Aside0.mk (below_alloc (below_alloc (Below.refl w.heap.size w) (.cells #[.int .i64 t.f0, .int .i64 t.f1, .slice A t.f2.length c] 46)) (.cells #[.int .i64 v.f0, .int .i64 v.f1, .slice B v.f2.length d] 46))
  have hbe : (e0 == e0) = true := by simp
  go_enter Try.func30, Try.ntmps30
  go_upto_region 1 with (fail)
  generalize (w.alloc (.cells #[.int .i64 t.f0, .int .i64 t.f1, .slice A t.f2.length c] 46)).alloc (.cells #[.int .i64 v.f0, .int .i64 v.f1, .slice B v.f2.length d] 46) = W at *
  have t0 := (blk_cell g0 0).trans rfl
  have t1 := (blk_cell g0 1).trans rfl
  have t2 := (blk_cell g0 2).trans rfl
  have G0 := Aside0.mk g0
  have G1 := Aside0.mk g1
  by_cases h0 : e0 = 0
  · have h0b := bneF h0
    have HV : Aside0 (eqT t v = true) := ⟨by rw [HVV.out, if_neg (by simpa using h0)]; exact eqT_refl _⟩
    have u0 := (blk_cell g1 0).trans rfl
    have u1 := (blk_cell g1 1).trans rfl
    have u2 := (blk_cell g1 2).trans rfl
    clear g0 g1 h0
    go_wp2_with (go_at_call 33; refine (sameTerm_any (szT t) t v A B c d ok ok2 W (Nat.le_refl _) (Kd.F_below HF.out HB.out) hc (Kd.F_below HG.out HB.out) hd).mono ?_; rintro e w2 ⟨rfl, hb2⟩; have HB2 := Aside0.mk hb2; clear hb2 t0 t1 t2 u0 u1 u2)
    go_ret
    exact ⟨ret_bool HV.out, hbT HB.out HB2.out⟩
  · have h0b := bneT h0
    have HV : Aside0 (eqT t zTm = true) := ⟨by rw [HVV.out, if_pos h0]; exact eqT_refl _⟩
    clear g0 g1 h0 t0 t1 t2
    go_upto_region 3 with (((with_reducible refine gate_store (t := 46) (p := 7) rfl ?_); refine st_tm 7 rfl rfl rfl rfl rfl G1.out ?_); intro w2 hs2 hG2 hz2; have HS2 := Aside0.mk hs2; have HG2 := Aside0.mk hG2; clear hs2 hG2)
    have u0 := (blk_cell HS2.out 0).trans rfl
    have u1 := (blk_cell HS2.out 1).trans rfl
    have u2 := (blk_cell HS2.out 2).trans rfl
    have hT2 := (HG2.out.block _ (blk_lt G0.out) (by simp)).trans G0.out
    have t0 := (blk_cell hT2 0).trans rfl
    have t1 := (blk_cell hT2 1).trans rfl
    have t2 := (blk_cell hT2 2).trans rfl
    clear hT2
    have HST : Aside0 (Calls Try.prog 33 #[.agg #[.int .i64 t.f0, .int .i64 t.f1, .slice A t.f2.length c], .agg #[.int .i64 0, .int .i64 0, .slice none 0 0]] w2 fun e w' => e = .returned (.bool (eqT t zTm)) ∧ Below w2.heap.size w2 w') := ⟨sameTerm_any (szT t) t zTm A none c 0 (fun k => ok k ∧ k < w.heap.size) ok2 w2 (Nat.le_refl _) (Kd.F_grown (Kd.F_below (Kd.F_bound HF.out) HB.out) HG2.out (fun k hk => by intro e; injection e with e; have := hk.2; omega)) hc (F_none _ _) (Nat.le_refl _)⟩
    generalize eqT t zTm = bz at *
    go_wp2_with (go_at_call 33; refine HST.out.mono ?_; rintro e w3 ⟨rfl, hb3⟩; have HB3 := Aside0.mk hb3; clear hb3 t0 t1 t2 u0 u1 u2)
    go_ret
    exact ⟨ret_bool HV.out, hbT (gbS HB.out HG2.out (by omega)) HB3.out⟩
end Go.Proofs.Ytcgnpmjkeifokaa
-- K19
/- slices.Index, Contains, Clone over whole numbers; superposeref.Has. -/
namespace Go.Proofs.Ytcgnpmjkeifokaa
open Go.RowKit Go.Proofs.YtcgnpmjkeifokaaW.PrintWords
set_option linter.unusedVariables false
set_option linter.unusedSimpArgs false

def eqP (y : Int) : Int → Bool := fun x => decide (y = x)
def hasB (xs : List Int) (y : Int) : Bool := xs.any (eqP y)
theorem hasB_iff {xs : List Int} {y : Int} : hasB xs y = true ↔ y ∈ xs := by
  unfold hasB eqP
  rw [List.any_eq_true]
  constructor
  · rintro ⟨x, hx, h⟩; rw [decide_eq_true_eq] at h; exact h ▸ hx
  · intro h; exact ⟨y, h, by simp⟩

set_option maxHeartbeats 4000000 in
set_option maxRecDepth 100000 in
theorem index_int (xs : List Int) (y : Int) (A : Option Addr) (c : Nat) (w : World) (hC : Kd.C (Kd.int .i64) w A xs.length xs) :
    Calls Try.prog 136 #[.slice A xs.length c, .int .i64 y] w fun e w' => e = .returned (.int .i64 (idxB (eqP y) xs)) ∧ Below w.heap.size w w' := by
  have hlen := hC.2.1
  have HC := Aside0.mk hC
  clear hC
  go_enter Try.func136, Try.ntmps136
  go_wp2
  go_loopw [8] (fun i wr => ∃ k : Nat, k ≤ xs.length ∧ i = .int .i64 k ∧ Aside0 ((xs.take k).all (fun x => !eqP y x) = true) ∧ Below w.heap.size w wr) (fun i _ => xs.length - (intOf i).toNat)
  case atStart => exact ⟨0, by omega, rfl, ⟨rfl⟩, Below.refl _ _⟩
  case round =>
    obtain ⟨k, hk, rfl, h0, hb⟩ := hrel
    by_cases hlt : k < xs.length
    · obtain ⟨ad, rfl, e0⟩ := at_Int (Kd.C_below HC.out hb) (k : Int) (by omega) (by omega)
      simp only [Int.toNat_natCast] at e0
      have HX : Aside0 (xs.getD k 0 = xs[k]) := ⟨by simp [List.getD_eq_getElem?_getD, hlt]⟩
      by_cases hp : y = xs.getD k 0
      · have hpb : (y == xs.getD k 0) = true := by simpa using hp
        have HR : Aside0 (idxB (eqP y) xs = k) := ⟨idxB_at hlt h0.out (by unfold eqP; rw [← HX.out]; simpa using hp)⟩
        clear hp
        generalize xs.getD k 0 = z at *
        go_wp2
        go_ret
        exact ⟨ret_int HR.out.symm, hb⟩
      · have hpb : (y == xs.getD k 0) = false := by simpa using hp
        have HR : Aside0 ((xs.take (k+1)).all (fun x => !eqP y x) = true) := ⟨take_all_succ hlt h0.out (by unfold eqP; rw [← HX.out]; simpa using hp)⟩
        clear hp
        generalize xs.getD k 0 = z at *
        go_wp2
        go_roundw
        case rel => exact ⟨k + 1, by omega, by go_num, HR, hb⟩
        case measure => simp [intOf]; omega
    · obtain rfl : k = xs.length := by omega
      have HR : Aside0 (idxB (eqP y) xs = -1) := ⟨idxB_none (by have := h0.out; rwa [List.take_length] at this)⟩
      go_wp2
      go_ret
      exact ⟨ret_int HR.out.symm, hb⟩

theorem contains_int (xs : List Int) (y : Int) (A : Option Addr) (c : Nat) (w : World) (hC : Kd.C (Kd.int .i64) w A xs.length xs) :
    Calls Try.prog 120 #[.slice A xs.length c, .int .i64 y] w fun e w' => e = .returned (.bool (hasB xs y)) ∧ Below w.heap.size w w' := by
  have HI := Aside0.mk (index_int xs y A c w hC)
  have HA := Aside0.mk (idxB_any (eqP y) xs)
  clear hC
  generalize idxB (eqP y) xs = r at *
  have HH : Aside0 (decide (0 ≤ r) = hasB xs y) := ⟨HA.out⟩
  go_enter Try.func120, Try.ntmps120
  go_wp2_with (go_at_call 136; refine HI.out.mono ?_; rintro e w2 ⟨rfl, hb2⟩)
  go_ret
  exact ⟨ret_bool HH.out, hb2⟩

theorem infoI : (Try.prog.info? 3).map (fun i => (i.zero, i.size, i.bytes)) = some (some (.int .i64 0), (Kd.int .i64).sz, 8) := by kernel_rfl
set_option maxHeartbeats 4000000 in
set_option maxRecDepth 100000 in
theorem cloneI_any (xs : List Int) (A : Option Addr) (c : Nat) (w : World) (hbd : xs.length * 8 ≤ 140737488355328) (hC : Kd.C (Kd.int .i64) w A xs.length xs) :
    Calls Try.prog 153 #[.slice A xs.length c] w fun e w' => ∃ v1, e = .returned v1 ∧ Kd.N (Kd.int .i64) 3 w' w.heap.size (fun _ => True) v1 xs ∧ Below w.heap.size w w' := by
  cases A with
  | none =>
    have hx : xs = [] := by
      cases xs with
      | nil => rfl
      | cons x xs => obtain ⟨ad, h, _⟩ := hC.2.2 (by simp); cases h
    subst hx
    have hq : ∀ (w : World), (binOp .eql 22 (.slice none 0 c) (.slice none 0 0)).run Try.prog w = .ok (.bool true) w := fun w => Lib.run_eql_slice_nil w _ 3 none _ c 0 0 Try.underlying22
    clear hC
    simp only [List.length_nil]
    go_enter Try.func153, Try.ntmps153
    go_wp2
    go_ret
    exact ⟨_, rfl, Kd.N_nil _ _ _ _ _, Below.refl _ _⟩
  | some ad =>
    have hq : ∀ (w : World), (binOp .eql 22 (.slice (some ad) xs.length c) (.slice none 0 0)).run Try.prog w = .ok (.bool false) w := fun w => Lib.run_eql_slice_nil w _ 3 (some ad) xs.length c 0 0 Try.underlying22
    have HF := Aside0.mk (Kd.C_F (Kd.heap_int .i64) hC)
    clear hC
    go_enter Try.func153, Try.ntmps153
    go_wp2_with (first | ((with_reducible refine gate_dst (N := 5) rfl ?_); refine Kd.N_lit (Kd.int .i64) (w0 := w) w.heap.size 3 rfl rfl (xs := []) (inner := []) (ok := fun _ => True) (okp := fun _ => False) ?hr ⟨rfl, fun j y hy => by simp at hy⟩ (fun _ h => h.elim) trivial (Below.refl _ _) (Nat.le_refl _) (by decide) ?_; (case hr => first | (go_simp; done) | (go_simp; rfl)); intro v1 w1 hN1 hB1 hG1 hI1; have HN1 := Aside0.mk hN1; have HB1 := Aside0.mk hB1; have HI1 := Aside0.mk hI1; clear hN1 hB1 hG1 hI1) | (at_builtin; refine Kd.N_append_rows (Kd.int .i64) (w0 := w) w.heap.size rfl _ _ 22 3 _ 8 rfl Try.underlying22 infoI rfl (by decide) (by decide) v1 [] xs (some ad) xs.length c _ (fun k => k < w.heap.size) rfl rfl HN1.out (Kd.F_below HF.out HB1.out) ?_ (fun k hk => trivial) HB1.out HB1.out.size (by simpa using hbd) ?_; (intro k hk; refine ⟨trivial, fun e => ?_⟩; obtain ⟨b, hb, hb2⟩ := HI1.out; rw [hb] at e; injection e with e; omega); intro v2 w2 hN2 hB2 hG2 hI2; have HN2 := Aside0.mk hN2; have HB2 := Aside0.mk hB2; clear hN2 hB2 hG2 hI2))
    go_ret
    exact ⟨v2, rfl, HN2.out, HB2.out⟩
end Go.Proofs.Ytcgnpmjkeifokaa
-- K20
/- term.walk, term.Walk by a function that passes a state on. -/
namespace Go.Proofs.Ytcgnpmjkeifokaa
open Go.RowKit Go.Proofs.YtcgnpmjkeifokaaW.PrintWords
set_option linter.unusedVariables false
set_option linter.unusedSimpArgs false

section
variable {σ : Type}
mutual
def walkT (f : σ → Tm → σ × Bool) : σ → Tm → σ × Bool
  | s, ⟨v, g, l⟩ => if (f s ⟨v, g, l⟩).2 then walkL f (f s ⟨v, g, l⟩).1 l else ((f s ⟨v, g, l⟩).1, false)
def walkL (f : σ → Tm → σ × Bool) : σ → List Tm → σ × Bool
  | s, [] => (s, true)
  | s, t :: ts => if (walkT f s t).2 then walkL f (walkT f s t).1 ts else ((walkT f s t).1, false)
end
theorem walkT_eq (f : σ → Tm → σ × Bool) (s : σ) (t : Tm) : walkT f s t = if (f s t).2 then walkL f (f s t).1 t.f2 else ((f s t).1, false) := by cases t; rw [walkT]
theorem walkL_append (f : σ → Tm → σ × Bool) (a b : List Tm) : ∀ s, walkL f s (a ++ b) = if (walkL f s a).2 then walkL f (walkL f s a).1 b else ((walkL f s a).1, false) := by
  induction a with
  | nil => intro s; simp [walkL]
  | cons t ts ih =>
    intro s
    simp only [List.cons_append, walkL]
    by_cases h : (walkT f s t).2 = true
    · simp only [h, if_true]; exact ih _
    · simp [h]
theorem walkL_take_succ (f : σ → Tm → σ × Bool) (s : σ) (l : List Tm) (k : Nat) (hk : k < l.length) (s1 : σ) (h : walkL f s (l.take k) = (s1, true)) : walkL f s (l.take (k+1)) = walkT f s1 (rd_Tm l k) := by
  rw [List.take_succ_eq_append_getElem hk, walkL_append, h, rd_get l k hk]
  simp only [if_true, walkL]
  by_cases h2 : (walkT f s1 l[k]).2 = true
  · simp only [h2, if_true]; exact Prod.ext rfl h2.symm
  · have h3 : (walkT f s1 l[k]).2 = false := by simpa using h2
    simp only [h3, Bool.false_eq_true, if_false]; exact Prod.ext rfl h3.symm
theorem walkL_bad (f : σ → Tm → σ × Bool) (s : σ) (l : List Tm) (k : Nat) (s1 : σ) (h : walkL f s (l.take k) = (s1, false)) : walkL f s l = (s1, false) := by
  have := walkL_append f (l.take k) (l.drop k) s
  rw [List.take_append_drop, h] at this
  simpa using this
end

section
variable {σ : Type}
theorem walk_mu (f : σ → Tm → σ × Bool) (μ : σ → Nat) (hμ : ∀ s x, μ (f s x).1 ≤ μ s + 1) (t : Tm) : ∀ s, μ (walkT f s t).1 ≤ μ s + szT t := by
  refine Tm.rec (motive_1 := fun t => ∀ s, μ (walkT f s t).1 ≤ μ s + szT t) (motive_2 := fun l => ∀ s, μ (walkL f s l).1 ≤ μ s + szL l) ?_ ?_ ?_ t
  · intro v g l ih s
    rw [walkT, szT]
    have h := hμ s ⟨v, g, l⟩
    split
    · have := ih (f s ⟨v, g, l⟩).1; omega
    · simp only; omega
  · intro s; simp [walkL]
  · intro t ts h1 h2 s
    rw [walkL, szL]
    have h := h1 s
    split
    · have := h2 (walkT f s t).1; omega
    · simp only; omega
theorem walkL_mu (f : σ → Tm → σ × Bool) (μ : σ → Nat) (hμ : ∀ s x, μ (f s x).1 ≤ μ s + 1) (l : List Tm) : ∀ s, μ (walkL f s l).1 ≤ μ s + szL l := by
  induction l with
  | nil => intro s; simp [walkL]
  | cons t ts ih =>
    intro s
    rw [walkL, szL]
    have h := walk_mu f μ hμ t s
    split
    · have := ih (walkT f s t).1; omega
    · simp only; omega
end

/-- All but block b and the row's own block is as it was. -/
structure Fr (b : Nat) (w : World) (ro : Option Nat) (w' : World) : Prop where
  os : w'.os = w.os
  tape : w'.tape = w.tape
  output : w'.output = w.output
  size : w.heap.size ≤ w'.heap.size
  block : ∀ i, i < w.heap.size → i ≠ b → some i ≠ ro → w'.heap[i]? = w.heap[i]?
theorem Fr.of_below {b : Nat} {w w' : World} {ro : Option Nat} (h : Below w.heap.size w w') : Fr b w ro w' := ⟨h.os, h.tape, h.output, h.size, fun i hi _ _ => h.block i hi⟩
def RoNew (w : World) (ro ro' : Option Nat) : Prop := ro' = ro ∨ ∃ k, ro' = some k ∧ w.heap.size ≤ k
theorem RoNew.trans {w w1 : World} {r r1 r2 : Option Nat} (h : RoNew w r r1) (k : RoNew w1 r1 r2) (hs : w.heap.size ≤ w1.heap.size) : RoNew w r r2 := by
  rcases k with rfl | ⟨b, rfl, hb⟩
  · exact h
  · exact .inr ⟨b, rfl, by omega⟩
theorem Fr.trans {b : Nat} {w w1 w2 : World} {ro ro1 : Option Nat} (h : Fr b w ro w1) (k : Fr b w1 ro1 w2) (hr : RoNew w ro ro1) : Fr b w ro w2 :=
  ⟨k.os.trans h.os, k.tape.trans h.tape, k.output.trans h.output, Nat.le_trans h.size k.size, fun i hi hb hn => (k.block i (Nat.lt_of_lt_of_le hi h.size) hb (by
    rcases hr with rfl | ⟨g, rfl, hg⟩
    · exact hn
    · intro e; injection e with e; omega)).trans (h.block i hi hb hn)⟩
/-- A function value that is handed each part and passes a state on. -/
def WkC {σ : Type} (g : Nat) (lb : Array Value) (f : σ → Tm → σ × Bool) (b : Nat) (St : σ → Option Nat → World → Prop) (μ : σ → Nat) (M : Nat) : Prop :=
  ∀ (s : σ) (ro : Option Nat) (x : Tm) (A : Option Addr) (c : Nat) (pv : Value) (okt : Nat → Prop) (W : World), μ s < M → Kd.F kTm W okt A x.f2.length x.f2 → x.f2.length ≤ c → St s ro W →
    Calls Try.prog g (#[pv, .agg #[.int .i64 x.f0, .int .i64 x.f1, .slice A x.f2.length c]] ++ lb) W fun e w' => ∃ ro', e = .returned (.bool (f s x).2) ∧ St (f s x).1 ro' w' ∧ Fr b W ro w' ∧ RoNew W ro ro'
structure StOk {σ : Type} (b : Nat) (St : σ → Option Nat → World → Prop) : Prop where
  below : ∀ s ro W W', St s ro W → Below W.heap.size W W' → St s ro W'
  lt : ∀ s ro W, St s ro W → b < W.heap.size ∧ ∀ k, ro = some k → k < W.heap.size

theorem F_int1 {W : World} {gb : Nat} {x : Int} (hb : W.heap[gb]? = some (.cells #[.int .i64 x] 3 (0, 0))) : Kd.F (Kd.int .i64) W (fun k => False ∨ k = gb) (some ⟨gb, 0, none⟩) 1 [x] :=
  F_lit (d := Kd.int .i64) (xs := [x]) [[.int .i64 x]] hb rfl (by simp) (fun j x' c' hx hc' => by
    cases j with
    | zero => simp at hx hc'; subst hx hc'; exact fun _ _ => rfl
    | succ j => simp at hx)

theorem C_int_move {w w' : World} {A : Option Addr} {p : List Int} (h : Kd.C (Kd.int .i64) w A p.length p) (hm : ∀ a, A = some a → a.block < w.heap.size → w'.heap[a.block]? = w.heap[a.block]?) : Kd.C (Kd.int .i64) w' A p.length p := by
  refine ⟨h.1, h.2.1, fun hn => ?_⟩
  obtain ⟨ad, e, hc⟩ := h.2.2 hn
  refine ⟨ad, e, fun j x hx => ?_⟩
  obtain ⟨c, hc1, hc2, hc3⟩ := hc j x hx
  exact ⟨c, hc1, hc2, fun i u hu => by
    have h2 : w'.cell? (ad.add (j * (Kd.int .i64).sz + i)) = w.cell? (ad.add (j * (Kd.int .i64).sz + i)) := World.cell?_of_block (by rw [addB]; exact hm ad e (by have := World.block_lt_of_cell? w _ (hc3 i u hu); rwa [addB] at this))
    rw [h2]; exact hc3 i u hu⟩

set_option maxHeartbeats 4000000 in
set_option maxRecDepth 100000 in
theorem walk_any {σ : Type} (g : Nat) (lb : Array Value) (f : σ → Tm → σ × Bool) (b : Nat) (St : σ → Option Nat → World → Prop) (eg : ∀ args w, (callFunc g args).run Try.prog w = .ok (.enter g args) w) (μ : σ → Nat) (M : Nat) (hμ : ∀ s x, μ (f s x).1 ≤ μ s + 1) (hd : WkC g lb f b St μ M) (hst : StOk b St) (m : Nat) :
    ∀ (t : Tm) (A : Option Addr) (c : Nat) (p : List Int) (Ap : Option Addr) (cp : Nat) (s : σ) (ro : Option Nat) (okt : Nat → Prop) (w : World), szT t ≤ m → μ s + szT t ≤ M → p.length + szT t ≤ 1000000 → Kd.F kTm w okt A t.f2.length t.f2 → t.f2.length ≤ c → (∀ k, okt k → k ≠ b ∧ some k ≠ ro) → Kd.C (Kd.int .i64) w Ap p.length p → p.length ≤ cp → (∀ a, Ap = some a → a.block ≠ b ∧ some a.block ≠ ro) → St s ro w →
    Calls Try.prog 135 #[.agg #[.int .i64 t.f0, .int .i64 t.f1, .slice A t.f2.length c], .slice Ap p.length cp, .func (.func g) #[] lb] w fun e w' => ∃ ro', e = .returned (.bool (walkT f s t).2) ∧ St (walkT f s t).1 ro' w' ∧ Fr b w ro w' ∧ RoNew w ro ro' := by
  induction m with
  | zero => intro t A c p Ap cp s ro okt w h; have := szT_pos t; omega
  | succ m ih =>
  intro t A c p Ap cp s ro okt w hm hmu hbd hF hc hok hP hpc hAp hS
  have hlen := Kd.F_max hF
  have hbw := (hst.lt _ _ _ hS).1
  have hrw := (hst.lt _ _ _ hS).2
  have IH := Aside0.mk ih
  have HD := Aside0.mk hd
  have HST := Aside0.mk hst
  have HF := Aside0.mk (Kd.F_bound hF)
  have HM := Aside0.mk hm
  have HMU := Aside0.mk hmu
  have HMF := Aside0.mk (hμ s t)
  have HML := Aside0.mk (fun s l => walkL_mu f μ hμ l s)
  have HBD := Aside0.mk hbd
  have HOK := Aside0.mk hok
  have HP := Aside0.mk hP
  have HPC := Aside0.mk hpc
  have HAP := Aside0.mk hAp
  have HS := Aside0.mk hS
  have HRW := Aside0.mk hrw
  have HSZ := Aside0.mk (szT_eq t)
  have HWT := Aside0.mk (walkT_eq f s t)
  have g0 := newAt (w := w) (o := .cells #[.int .i64 t.f0, .int .i64 t.f1, .slice A t.f2.length c] 46) rfl
  have HB := Aside0.mk (below_alloc (Below.refl w.heap.size w) (.cells #[.int .i64 t.f0, .int .i64 t.f1, .slice A t.f2.length c] 46))
  have hWz : (w.alloc (.cells #[.int .i64 t.f0, .int .i64 t.f1, .slice A t.f2.length c] 46)).heap.size = w.heap.size + 1 := by simp
  clear hF ih hm hmu hbd hd hst hμ hok hP hpc hAp hS hrw
  go_enter Try.func135, Try.ntmps135
  go_upto_region 1 with (fail)
  generalize w.alloc (.cells #[.int .i64 t.f0, .int .i64 t.f1, .slice A t.f2.length c] 46) = W at *
  have c0 := (blk_cell g0 0).trans rfl
  have c1 := (blk_cell g0 1).trans rfl
  have c2 := (blk_cell g0 2).trans rfl
  have G0 := Aside0.mk g0
  clear g0
  have HDO := HD.out s ro t A c (.slice Ap p.length cp) _ W (by have := HMU.out; have := HSZ.out; omega) (Kd.F_below HF.out HB.out) hc (HST.out.below _ _ _ _ HS.out HB.out)
  cases hb1 : (f s t).2 with
  | false =>
    have HE : Aside0 (walkT f s t = ((f s t).1, false)) := ⟨by rw [HWT.out, hb1]; rfl⟩
    simp only [hb1] at HDO
    have HDO := Aside0.mk HDO
    clear hb1
    go_wp2_with (refine HDO.out.mono ?_; rintro e w2 ⟨ro2, rfl, hS2, hFr2, hRo2⟩; have HS2 := Aside0.mk hS2; have HFr2 := Aside0.mk hFr2; have HRo2 := Aside0.mk hRo2; clear hS2 hFr2 hRo2 c0 c1 c2)
    go_ret
    exact ⟨ro2, by rw [HE.out]; rfl, by rw [HE.out]; exact HS2.out, (Fr.of_below HB.out).trans HFr2.out (.inl rfl), by
      rcases HRo2.out with h | ⟨k, h, hk⟩
      · exact .inl h
      · exact .inr ⟨k, h, by omega⟩⟩
  | true =>
    have HE : Aside0 (walkT f s t = walkL f (f s t).1 t.f2) := ⟨by rw [HWT.out, hb1]; rfl⟩
    simp only [hb1] at HDO
    have HDO := Aside0.mk HDO
    clear hb1
    generalize hs1 : (f s t).1 = s1 at *
    clear hs1
    go_wp2_with (refine HDO.out.mono ?_; rintro e w2 ⟨ro2, rfl, hS2, hFr2, hRo2⟩; have HS2 := Aside0.mk hS2; have HFr2 := Aside0.mk hFr2; have HRo2 := Aside0.mk hRo2; have hT2 := (hFr2.block w.heap.size (by omega) (by omega) (fun e => absurd (HRW.out _ e.symm) (by omega))).trans G0.out; have t2 := (blk_cell hT2 2).trans rfl; have HT2 := Aside0.mk hT2; have hz2 := hFr2.size; clear hS2 hFr2 hRo2 c0 c1 c2 hT2)
    go_loopw [17] (fun i wr => ∃ (k : Nat) (sk : σ) (rk : Option Nat), k ≤ t.f2.length ∧ i = .int .i64 k ∧ Aside0 (walkL f s1 (t.f2.take k) = (sk, true)) ∧ Aside0 (St sk rk wr) ∧ Aside0 (Fr b w ro wr) ∧ Aside0 (RoNew w ro rk) ∧ Aside0 (wr.heap[w.heap.size]? = some (.cells #[.int .i64 t.f0, .int .i64 t.f1, .slice A t.f2.length c] 46 (0, 0))) ∧ Aside0 (∀ k, rk = some k → k ≠ w.heap.size)) (fun i _ => t.f2.length - (intOf i).toNat)
    case atStart => exact ⟨0, s1, ro2, by omega, rfl, ⟨rfl⟩, HS2, ⟨(Fr.of_below HB.out).trans HFr2.out (.inl rfl)⟩, ⟨by
      rcases HRo2.out with h | ⟨k, h, hk⟩
      · exact .inl h
      · exact .inr ⟨k, h, by omega⟩⟩, HT2, ⟨fun k hk => by
      rcases HRo2.out with h | ⟨k', h, hk'⟩
      · have := HRW.out k (h ▸ hk); omega
      · rw [hk] at h; injection h with h; omega⟩⟩
    case round =>
      obtain ⟨k, sk, rk, hk, rfl, HWL, HSk, HFr, HRo, HTr, HNe⟩ := hrel
      have hzr := HFr.out.size
      have hlr := blk_lt HTr.out
      have HLK := Aside0.mk ((HST.out.lt _ _ _ HSk.out).2)
      by_cases hlt : k < t.f2.length
      · obtain ⟨ad, A2, c2, rfl, E0, E1, E2, hl2, hF2, _⟩ := at_TmF (Kd.F_step HF.out (fun j hj hjl => HFr.out.block j hjl (HOK.out j hj.1).1 (HOK.out j hj.1).2)) (k : Int) (by omega) (by omega)
        simp only [Int.toNat_natCast] at E0 E1 E2
        have HTm := Aside0.mk (szT_mem (rd_mem t.f2 k hlt))
        have HMK : Aside0 (μ sk + szT (rd_Tm t.f2 (k : Int)) ≤ M) := ⟨by have h1 := HML.out s1 (t.f2.take k); rw [HWL.out] at h1; have h2 := szL_take_succ t.f2 k hlt; have h3 := szL_take_le t.f2 (k+1); have h4 := HMF.out; have h5 := HMU.out; have h6 := HSZ.out; simp only at h1; omega⟩
        have HTK := Aside0.mk (walkL_take_succ f s1 t.f2 k hlt sk HWL.out)
        have HF2 := Aside0.mk hF2
        have HC2 := Aside0.mk hl2
        clear hF2 hl2
        have HPr := Aside0.mk (C_int_move HP.out (w' := wr) (fun a ha hl => HFr.out.block _ hl (HAP.out a ha).1 (HAP.out a ha).2))
        go_upto_region 6 with (((with_reducible refine gate_store (t := 46) (p := 8) rfl ?_); refine st_tm 8 rfl rfl rfl rfl rfl (heap_alloc_new _ _) ?_); intro w6 hs6 hG6 hz6; have HS6 := Aside0.mk hs6; have HB6 := Aside0.mk (gbS (below_alloc (Below.refl wr.heap.size wr) _) hG6 (Nat.le_refl _)); clear hs6 hG6 E0 E1 E2)
        have hl6 := blk_lt HS6.out
        have k1 := fun (w' : World) (h : w'.heap[wr.heap.size]? = some (.cells #[.int .i64 (rd_Tm t.f2 (k : Int)).f0, .int .i64 (rd_Tm t.f2 (k : Int)).f1, .slice A2 (rd_Tm t.f2 (k : Int)).f2.length c2] 46 (0, 0))) => (blk_cell h 0).trans rfl
        have k2 := fun (w' : World) (h : w'.heap[wr.heap.size]? = some (.cells #[.int .i64 (rd_Tm t.f2 (k : Int)).f0, .int .i64 (rd_Tm t.f2 (k : Int)).f1, .slice A2 (rd_Tm t.f2 (k : Int)).f2.length c2] 46 (0, 0))) => (blk_cell h 1).trans rfl
        have k3 := fun (w' : World) (h : w'.heap[wr.heap.size]? = some (.cells #[.int .i64 (rd_Tm t.f2 (k : Int)).f0, .int .i64 (rd_Tm t.f2 (k : Int)).f1, .slice A2 (rd_Tm t.f2 (k : Int)).f2.length c2] 46 (0, 0))) => (blk_cell h 2).trans rfl
        cases hbx : (walkT f sk (rd_Tm t.f2 (k : Int))).2 with
        | true =>
          refine hd_region 9 0 (fun w' => w'.heap[wr.heap.size]? = some (.cells #[.int .i64 (rd_Tm t.f2 (k : Int)).f0, .int .i64 (rd_Tm t.f2 (k : Int)).f1, .slice A2 (rd_Tm t.f2 (k : Int)).f2.length c2] 46 (0, 0))) (by kernel_rfl) rfl ?_ (fun W hB => (hB.block _ hl6).trans HS6.out)
          intro W7 hb7 hz7 hHeld
          have HB7 := Aside0.mk hb7
          have hl7 := blk_lt hHeld
          have hHeld7 := Aside0.mk hHeld
          have HP7 := Aside0.mk (Kd.C_below HPr.out (hbT HB6.out HB7.out))
          clear hb7 hz7
          (refine hd_take (i := 0) (oi := ?oi2) (v := ?v2) ?hi2 (by kernel_rfl) (by kernel_rfl) (by kernel_rfl) (by kernel_rfl) (by decide) ?hq2 ?hw2 ?hy2 hHeld ?hr2; (case hi2 => (simp only [List.getElem?_toArray, List.getElem?_cons_succ, List.getElem?_cons_zero]; rfl)); (case hw2 => rfl); (case hy2 => (intro w hSw; go_simp; try with_reducible rfl)); (case hq2 => exact fun _ _ _ h => h); simp only [Act.put, List.setIfInBounds_toArray, List.set_cons_zero, List.set_cons_succ])
          (refine hd_take (i := 1) (oi := ?oi4) (v := ?v4) ?hi4 (by kernel_rfl) (by kernel_rfl) (by kernel_rfl) (by kernel_rfl) (by decide) ?hq4 ?hw4 ?hy4 hHeld ?hr4; (case hi4 => (simp only [List.getElem?_toArray, List.getElem?_cons_succ, List.getElem?_cons_zero]; rfl)); (case hw4 => rfl); (case hy4 => (intro w hSw; go_simp; try with_reducible rfl)); (case hq4 => exact fun _ _ _ h => h); simp only [Act.put, List.setIfInBounds_toArray, List.set_cons_zero, List.set_cons_succ])
          (refine hd_take (i := 3) (oi := ?oi6) (v := ?v6) ?hi6 (by kernel_rfl) (by kernel_rfl) (by kernel_rfl) (by kernel_rfl) (by decide) ?hq6 ?hw6 ?hy6 hHeld ?hr6; (case hi6 => (simp only [List.getElem?_toArray, List.getElem?_cons_succ, List.getElem?_cons_zero]; rfl)); (case hw6 => rfl); (case hy6 => (intro w hSw; go_simp; try with_reducible rfl)); (case hq6 => exact fun _ _ _ h => h); simp only [Act.put, List.setIfInBounds_toArray, List.set_cons_zero, List.set_cons_succ])
          (refine hd_take (i := 6) (oi := ?oi8) (v := ?v8) ?hi8 (by kernel_rfl) (by kernel_rfl) (by kernel_rfl) (by kernel_rfl) (by decide) ?hq8 ?hw8 ?hy8 hHeld ?hr8; (case hi8 => (simp only [List.getElem?_toArray, List.getElem?_cons_succ, List.getElem?_cons_zero]; rfl)); (case hw8 => rfl); (case hy8 => (intro w hSw; go_simp; try with_reducible rfl)); (case hq8 => exact fun _ _ _ h => h); simp only [Act.put, List.setIfInBounds_toArray, List.set_cons_zero, List.set_cons_succ])
          refine hd_two (i := 2) (j := 4) (oi := ?oitrue) (oj := ?ojtrue) ?hitrue ?hjtrue (by kernel_rfl) (by decide) (by decide) ?hatrue ?hbtrue
          case hitrue => (simp only [List.getElem?_toArray, List.getElem?_cons_succ, List.getElem?_cons_zero]; rfl)
          case hjtrue => (simp only [List.getElem?_toArray, List.getElem?_cons_succ, List.getElem?_cons_zero]; rfl)
          case hatrue =>
            intro K hK
            go_simp
            go_at_call 153
            refine (cloneI_any p Ap cp W7 (by have := HBD.out; omega) HP7.out).mono ?_
            rintro e w8 ⟨v8, rfl, hN8, hb8⟩
            go_simp
            (refine hK.out _ _ ?hS12 (fun hHeld => ?hr12); (case hS12 => exact (hb8.block _ hl7).trans hHeld); clear hK K; try simp only [Act.put, List.setIfInBounds_toArray, List.set_cons_zero, List.set_cons_succ])
            have HB8 := Aside0.mk hb8
            have HN8 := Aside0.mk hN8
            clear hb8 hN8
            (refine hd_one (i := 4) (oi := ?oi13) ?hi13 (by kernel_rfl) (by decide) ?hr13; (case hi13 => (simp only [List.getElem?_toArray, List.getElem?_cons_succ, List.getElem?_cons_zero]; rfl)); intro K hK)
            go_simp
            (refine hK.out _ _ ?hS15 (fun hHeld => ?hr15); (case hS15 => exact blk_alloc hHeld _); clear hK K; try simp only [Act.put, List.setIfInBounds_toArray, List.set_cons_zero, List.set_cons_succ])
            (refine hd_one (i := 5) (oi := ?oi16) ?hi16 (by kernel_rfl) (by decide) ?hr16; (case hi16 => (simp only [List.getElem?_toArray, List.getElem?_cons_succ, List.getElem?_cons_zero]; rfl)); intro K hK)
            refine Kd.N_append_rows_step (Kd.int .i64) (w0 := w8.alloc (.cells #[.int .i64 (k : Int)] 3)) W7.heap.size rfl _ _ 22 3 _ 8 rfl Try.underlying22 infoI rfl (by decide) (by decide) v8 p [(k : Int)] (some ⟨w8.heap.size, 0, none⟩) 1 1 (fun _ => True) (fun j => False ∨ j = w8.heap.size) rfl rfl (Kd.N_below HN8.out (below_alloc (Below.refl _ _) _)) (F_int1 (heap_alloc_new _ _)) (fun j hj => ⟨trivial, fun e => by have := Kd.N_lt HN8.out _ e.symm; rcases hj with hj | hj; exact hj; omega⟩) (fun _ _ => trivial) (Below.refl _ _) (by have := HB8.out.size; simp; omega) (by have := HBD.out; omega) ?_
            intro v1 w10 hN10 hB10 hG10 hI10
            have HWA : Aside0 (W7.heap.size ≤ W7.heap.size) := ⟨Nat.le_refl _⟩
            have HB10 : Aside0 (Below W7.heap.size W7 w10) := ⟨(below_alloc HB8.out _).trans hB10⟩
            obtain ⟨A10, c10, rfl⟩ := Kd.N_slice hN10
            have HNB10 : Aside0 (∀ q, (Value.slice A10 (p ++ [(k : Int)]).length c10).ownBlock = some q → W7.heap.size ≤ q) := ⟨fun q hq => by have := Kd.N_base hN10 q hq; have := HWA.out; omega⟩
            have HC10 := Aside0.mk (Kd.N_reads' hN10)
            clear hN10 hB10 hG10 hI10
            (refine hK.out _ _ ?hS18 (fun hHeld => ?hr18); (case hS18 => exact (HB10.out.block _ hl7).trans hHeld7.out); clear hK K; try simp only [Act.put, List.setIfInBounds_toArray, List.set_cons_zero, List.set_cons_succ])
            have HBr := Aside0.mk (hbT (hbT HB6.out HB7.out) HB10.out)
            have hz10 := HBr.out.size
            have hz10b := HB10.out.size
            (refine hd_one (i := 7) (oi := ?oi19) ?hi19 (by kernel_rfl) (by decide) ?hr19; (case hi19 => (simp only [List.getElem?_toArray, List.getElem?_cons_succ, List.getElem?_cons_zero]; rfl)); intro K hK)
            go_simp
            have hIH := IH.out (rd_Tm t.f2 (k : Int)) A2 c2 (p ++ [(k : Int)]) A10 c10 sk rk (fun j => okt j ∧ j < w.heap.size) w10 (by have := HM.out; have := HSZ.out; have := HTm.out; omega) HMK.out (by have := HBD.out; have := HSZ.out; have := HTm.out; simp only [List.length_append, List.length_cons, List.length_nil]; omega) (Kd.F_below HF2.out HBr.out) HC2.out (fun j hj => ⟨(HOK.out j hj.1).1, by
                rcases HRo.out with h | ⟨q, h, hq⟩
                · rw [h]; exact (HOK.out j hj.1).2
                · rw [h]; intro e; injection e with e; have := hj.2; omega⟩) HC10.out.2.2 HC10.out.2.1 (fun a ha => by
                subst ha
                have h1 := HNB10.out a.block rfl
                exact ⟨by omega, fun e => by have := HLK.out _ e.symm; omega⟩) (HST.out.below _ _ _ _ HSk.out HBr.out)
            simp only [hbx, List.length_append, List.length_cons, List.length_nil, Nat.zero_add] at hIH
            go_at_call 135
            refine hIH.mono ?_
            clear hIH
            rintro e w11 ⟨r11, rfl, hS11, hFr11, hRo11⟩
            have HS11 := Aside0.mk hS11
            have HFr11 := Aside0.mk hFr11
            have HRo11 := Aside0.mk hRo11
            clear hS11
            go_simp
            (refine hK.out _ _ ?hS21 (fun hHeld => ?hr21); (case hS21 => exact (hFr11.block _ (blk_lt hHeld) (by omega) (fun e => by have := HLK.out _ e.symm; omega)).trans hHeld); clear hK K; try simp only [Act.put, List.setIfInBounds_toArray, List.set_cons_zero, List.set_cons_succ])
            clear hFr11 hRo11
            (refine hd_take (i := 8) (oi := ?oi22) (v := ?v22) ?hi22 (by kernel_rfl) (by kernel_rfl) (by kernel_rfl) (by kernel_rfl) (by decide) ?hq22 ?hw22 ?hy22 hHeld ?hr22; (case hi22 => (simp only [List.getElem?_toArray, List.getElem?_cons_succ, List.getElem?_cons_zero]; rfl)); (case hw22 => rfl); (case hy22 => (intro w hSw; go_simp; try with_reducible rfl)); (case hq22 => exact fun _ _ _ h => h); simp only [Act.put, List.setIfInBounds_toArray, List.set_cons_zero, List.set_cons_succ])
            (refine hd_done (by kernel_rfl) ?_; simp only [List.drop_succ_cons, List.drop_zero])
            clear hHeld
            have hz11 := HFr11.out.size
            have HFrw : Aside0 (Fr b w ro w11) := ⟨HFr.out.trans ((Fr.of_below HBr.out).trans HFr11.out (.inl rfl)) HRo.out⟩
            have HRow : Aside0 (RoNew w ro r11) := ⟨HRo.out.trans HRo11.out (by omega)⟩
            generalize hxx : walkT f sk (rd_Tm t.f2 (k : Int)) = wx at *
            obtain ⟨sx, bx⟩ := wx
            simp only at hbx
            subst hbx
            have HXX := Aside0.mk hxx
            clear hxx
            go_wp2
            go_roundw
            case rel => exact ⟨k + 1, sx, r11, by omega, by go_num, HTK, HS11, HFrw, HRow, ⟨(HFr11.out.block _ (by omega) (by omega) (fun e => HNe.out _ e.symm rfl)).trans ((HBr.out.block _ hlr).trans HTr.out)⟩, ⟨fun q hq => by
              rcases HRo11.out with h | ⟨q', h, hq'⟩
              · exact HNe.out q (h ▸ hq)
              · rw [hq] at h; injection h with h; omega⟩⟩
            case measure => simp [intOf]; omega
          case hbtrue =>
            intro K hK
            go_simp
            (refine hK.out _ _ ?hS25 (fun hHeld => ?hr25); (case hS25 => exact blk_alloc hHeld _); clear hK K; try simp only [Act.put, List.setIfInBounds_toArray, List.set_cons_zero, List.set_cons_succ])
            have HBa := Aside0.mk (below_alloc (Below.refl W7.heap.size W7) (.cells #[.int .i64 (k : Int)] 3))
            have HGa := Aside0.mk (heap_alloc_new W7 (.cells #[.int .i64 (k : Int)] 3))
            have HZa : Aside0 ((W7.alloc (.cells #[.int .i64 (k : Int)] 3)).heap.size = W7.heap.size + 1) := ⟨by simp⟩
            generalize W7.alloc (.cells #[.int .i64 (k : Int)] 3) = Wa at *
            (refine hd_one (i := 2) (oi := ?oi26) ?hi26 (by kernel_rfl) (by decide) ?hr26; (case hi26 => (simp only [List.getElem?_toArray, List.getElem?_cons_succ, List.getElem?_cons_zero]; rfl)); intro K hK)
            go_simp
            go_at_call 153
            refine (cloneI_any p Ap cp Wa (by have := HBD.out; omega) (Kd.C_below HP7.out HBa.out)).mono ?_
            rintro e w8 ⟨v8, rfl, hN8, hb8⟩
            go_simp
            (refine hK.out _ _ ?hS28 (fun hHeld => ?hr28); (case hS28 => exact (hb8.block _ (blk_lt hHeld)).trans hHeld); clear hK K; try simp only [Act.put, List.setIfInBounds_toArray, List.set_cons_zero, List.set_cons_succ])
            have HB8 := Aside0.mk hb8
            have HN8 := Aside0.mk hN8
            clear hb8 hN8
            (refine hd_one (i := 5) (oi := ?oi29) ?hi29 (by kernel_rfl) (by decide) ?hr29; (case hi29 => (simp only [List.getElem?_toArray, List.getElem?_cons_succ, List.getElem?_cons_zero]; rfl)); intro K hK)
            refine Kd.N_append_rows_step (Kd.int .i64) (w0 := w8) Wa.heap.size rfl _ _ 22 3 _ 8 rfl Try.underlying22 infoI rfl (by decide) (by decide) v8 p [(k : Int)] (some ⟨W7.heap.size, 0, none⟩) 1 1 (fun _ => True) (fun j => False ∨ j = W7.heap.size) rfl rfl HN8.out (F_int1 ((HB8.out.block _ (blk_lt HGa.out)).trans HGa.out)) (fun j hj => ⟨trivial, fun e => by have := Kd.N_base HN8.out _ e.symm; have := HZa.out; rcases hj with hj | hj; exact hj; omega⟩) (fun _ _ => trivial) (Below.refl _ _) HB8.out.size (by have := HBD.out; omega) ?_
            intro v1 w10 hN10 hB10 hG10 hI10
            have HWA : Aside0 (W7.heap.size ≤ Wa.heap.size) := ⟨by have := HZa.out; omega⟩
            have HB10 : Aside0 (Below W7.heap.size W7 w10) := ⟨(hbT HBa.out HB8.out).trans (hbW hB10 (by have := HZa.out; omega))⟩
            obtain ⟨A10, c10, rfl⟩ := Kd.N_slice hN10
            have HNB10 : Aside0 (∀ q, (Value.slice A10 (p ++ [(k : Int)]).length c10).ownBlock = some q → W7.heap.size ≤ q) := ⟨fun q hq => by have := Kd.N_base hN10 q hq; have := HWA.out; omega⟩
            have HC10 := Aside0.mk (Kd.N_reads' hN10)
            clear hN10 hB10 hG10 hI10
            (refine hK.out _ _ ?hS31 (fun hHeld => ?hr31); (case hS31 => exact (HB10.out.block _ hl7).trans hHeld7.out); clear hK K; try simp only [Act.put, List.setIfInBounds_toArray, List.set_cons_zero, List.set_cons_succ])
            have HBr := Aside0.mk (hbT (hbT HB6.out HB7.out) HB10.out)
            have hz10 := HBr.out.size
            have hz10b := HB10.out.size
            (refine hd_one (i := 7) (oi := ?oi32) ?hi32 (by kernel_rfl) (by decide) ?hr32; (case hi32 => (simp only [List.getElem?_toArray, List.getElem?_cons_succ, List.getElem?_cons_zero]; rfl)); intro K hK)
            go_simp
            have hIH := IH.out (rd_Tm t.f2 (k : Int)) A2 c2 (p ++ [(k : Int)]) A10 c10 sk rk (fun j => okt j ∧ j < w.heap.size) w10 (by have := HM.out; have := HSZ.out; have := HTm.out; omega) HMK.out (by have := HBD.out; have := HSZ.out; have := HTm.out; simp only [List.length_append, List.length_cons, List.length_nil]; omega) (Kd.F_below HF2.out HBr.out) HC2.out (fun j hj => ⟨(HOK.out j hj.1).1, by
                rcases HRo.out with h | ⟨q, h, hq⟩
                · rw [h]; exact (HOK.out j hj.1).2
                · rw [h]; intro e; injection e with e; have := hj.2; omega⟩) HC10.out.2.2 HC10.out.2.1 (fun a ha => by
                subst ha
                have h1 := HNB10.out a.block rfl
                exact ⟨by omega, fun e => by have := HLK.out _ e.symm; omega⟩) (HST.out.below _ _ _ _ HSk.out HBr.out)
            simp only [hbx, List.length_append, List.length_cons, List.length_nil, Nat.zero_add] at hIH
            go_at_call 135
            refine hIH.mono ?_
            clear hIH
            rintro e w11 ⟨r11, rfl, hS11, hFr11, hRo11⟩
            have HS11 := Aside0.mk hS11
            have HFr11 := Aside0.mk hFr11
            have HRo11 := Aside0.mk hRo11
            clear hS11
            go_simp
            (refine hK.out _ _ ?hS34 (fun hHeld => ?hr34); (case hS34 => exact (hFr11.block _ (blk_lt hHeld) (by omega) (fun e => by have := HLK.out _ e.symm; omega)).trans hHeld); clear hK K; try simp only [Act.put, List.setIfInBounds_toArray, List.set_cons_zero, List.set_cons_succ])
            clear hFr11 hRo11
            (refine hd_take (i := 8) (oi := ?oi35) (v := ?v35) ?hi35 (by kernel_rfl) (by kernel_rfl) (by kernel_rfl) (by kernel_rfl) (by decide) ?hq35 ?hw35 ?hy35 hHeld ?hr35; (case hi35 => (simp only [List.getElem?_toArray, List.getElem?_cons_succ, List.getElem?_cons_zero]; rfl)); (case hw35 => rfl); (case hy35 => (intro w hSw; go_simp; try with_reducible rfl)); (case hq35 => exact fun _ _ _ h => h); simp only [Act.put, List.setIfInBounds_toArray, List.set_cons_zero, List.set_cons_succ])
            (refine hd_done (by kernel_rfl) ?_; simp only [List.drop_succ_cons, List.drop_zero])
            clear hHeld
            have hz11 := HFr11.out.size
            have HFrw : Aside0 (Fr b w ro w11) := ⟨HFr.out.trans ((Fr.of_below HBr.out).trans HFr11.out (.inl rfl)) HRo.out⟩
            have HRow : Aside0 (RoNew w ro r11) := ⟨HRo.out.trans HRo11.out (by omega)⟩
            generalize hxx : walkT f sk (rd_Tm t.f2 (k : Int)) = wx at *
            obtain ⟨sx, bx⟩ := wx
            simp only at hbx
            subst hbx
            have HXX := Aside0.mk hxx
            clear hxx
            go_wp2
            go_roundw
            case rel => exact ⟨k + 1, sx, r11, by omega, by go_num, HTK, HS11, HFrw, HRow, ⟨(HFr11.out.block _ (by omega) (by omega) (fun e => HNe.out _ e.symm rfl)).trans ((HBr.out.block _ hlr).trans HTr.out)⟩, ⟨fun q hq => by
              rcases HRo11.out with h | ⟨q', h, hq'⟩
              · exact HNe.out q (h ▸ hq)
              · rw [hq] at h; injection h with h; omega⟩⟩
            case measure => simp [intOf]; omega
        | false =>
          refine hd_region 9 0 (fun w' => w'.heap[wr.heap.size]? = some (.cells #[.int .i64 (rd_Tm t.f2 (k : Int)).f0, .int .i64 (rd_Tm t.f2 (k : Int)).f1, .slice A2 (rd_Tm t.f2 (k : Int)).f2.length c2] 46 (0, 0))) (by kernel_rfl) rfl ?_ (fun W hB => (hB.block _ hl6).trans HS6.out)
          intro W7 hb7 hz7 hHeld
          have HB7 := Aside0.mk hb7
          have hl7 := blk_lt hHeld
          have hHeld7 := Aside0.mk hHeld
          have HP7 := Aside0.mk (Kd.C_below HPr.out (hbT HB6.out HB7.out))
          clear hb7 hz7
          (refine hd_take (i := 0) (oi := ?oi38) (v := ?v38) ?hi38 (by kernel_rfl) (by kernel_rfl) (by kernel_rfl) (by kernel_rfl) (by decide) ?hq38 ?hw38 ?hy38 hHeld ?hr38; (case hi38 => (simp only [List.getElem?_toArray, List.getElem?_cons_succ, List.getElem?_cons_zero]; rfl)); (case hw38 => rfl); (case hy38 => (intro w hSw; go_simp; try with_reducible rfl)); (case hq38 => exact fun _ _ _ h => h); simp only [Act.put, List.setIfInBounds_toArray, List.set_cons_zero, List.set_cons_succ])
          (refine hd_take (i := 1) (oi := ?oi40) (v := ?v40) ?hi40 (by kernel_rfl) (by kernel_rfl) (by kernel_rfl) (by kernel_rfl) (by decide) ?hq40 ?hw40 ?hy40 hHeld ?hr40; (case hi40 => (simp only [List.getElem?_toArray, List.getElem?_cons_succ, List.getElem?_cons_zero]; rfl)); (case hw40 => rfl); (case hy40 => (intro w hSw; go_simp; try with_reducible rfl)); (case hq40 => exact fun _ _ _ h => h); simp only [Act.put, List.setIfInBounds_toArray, List.set_cons_zero, List.set_cons_succ])
          (refine hd_take (i := 3) (oi := ?oi42) (v := ?v42) ?hi42 (by kernel_rfl) (by kernel_rfl) (by kernel_rfl) (by kernel_rfl) (by decide) ?hq42 ?hw42 ?hy42 hHeld ?hr42; (case hi42 => (simp only [List.getElem?_toArray, List.getElem?_cons_succ, List.getElem?_cons_zero]; rfl)); (case hw42 => rfl); (case hy42 => (intro w hSw; go_simp; try with_reducible rfl)); (case hq42 => exact fun _ _ _ h => h); simp only [Act.put, List.setIfInBounds_toArray, List.set_cons_zero, List.set_cons_succ])
          (refine hd_take (i := 6) (oi := ?oi44) (v := ?v44) ?hi44 (by kernel_rfl) (by kernel_rfl) (by kernel_rfl) (by kernel_rfl) (by decide) ?hq44 ?hw44 ?hy44 hHeld ?hr44; (case hi44 => (simp only [List.getElem?_toArray, List.getElem?_cons_succ, List.getElem?_cons_zero]; rfl)); (case hw44 => rfl); (case hy44 => (intro w hSw; go_simp; try with_reducible rfl)); (case hq44 => exact fun _ _ _ h => h); simp only [Act.put, List.setIfInBounds_toArray, List.set_cons_zero, List.set_cons_succ])
          refine hd_two (i := 2) (j := 4) (oi := ?oifalse) (oj := ?ojfalse) ?hifalse ?hjfalse (by kernel_rfl) (by decide) (by decide) ?hafalse ?hbfalse
          case hifalse => (simp only [List.getElem?_toArray, List.getElem?_cons_succ, List.getElem?_cons_zero]; rfl)
          case hjfalse => (simp only [List.getElem?_toArray, List.getElem?_cons_succ, List.getElem?_cons_zero]; rfl)
          case hafalse =>
            intro K hK
            go_simp
            go_at_call 153
            refine (cloneI_any p Ap cp W7 (by have := HBD.out; omega) HP7.out).mono ?_
            rintro e w8 ⟨v8, rfl, hN8, hb8⟩
            go_simp
            (refine hK.out _ _ ?hS48 (fun hHeld => ?hr48); (case hS48 => exact (hb8.block _ hl7).trans hHeld); clear hK K; try simp only [Act.put, List.setIfInBounds_toArray, List.set_cons_zero, List.set_cons_succ])
            have HB8 := Aside0.mk hb8
            have HN8 := Aside0.mk hN8
            clear hb8 hN8
            (refine hd_one (i := 4) (oi := ?oi49) ?hi49 (by kernel_rfl) (by decide) ?hr49; (case hi49 => (simp only [List.getElem?_toArray, List.getElem?_cons_succ, List.getElem?_cons_zero]; rfl)); intro K hK)
            go_simp
            (refine hK.out _ _ ?hS51 (fun hHeld => ?hr51); (case hS51 => exact blk_alloc hHeld _); clear hK K; try simp only [Act.put, List.setIfInBounds_toArray, List.set_cons_zero, List.set_cons_succ])
            (refine hd_one (i := 5) (oi := ?oi52) ?hi52 (by kernel_rfl) (by decide) ?hr52; (case hi52 => (simp only [List.getElem?_toArray, List.getElem?_cons_succ, List.getElem?_cons_zero]; rfl)); intro K hK)
            refine Kd.N_append_rows_step (Kd.int .i64) (w0 := w8.alloc (.cells #[.int .i64 (k : Int)] 3)) W7.heap.size rfl _ _ 22 3 _ 8 rfl Try.underlying22 infoI rfl (by decide) (by decide) v8 p [(k : Int)] (some ⟨w8.heap.size, 0, none⟩) 1 1 (fun _ => True) (fun j => False ∨ j = w8.heap.size) rfl rfl (Kd.N_below HN8.out (below_alloc (Below.refl _ _) _)) (F_int1 (heap_alloc_new _ _)) (fun j hj => ⟨trivial, fun e => by have := Kd.N_lt HN8.out _ e.symm; rcases hj with hj | hj; exact hj; omega⟩) (fun _ _ => trivial) (Below.refl _ _) (by have := HB8.out.size; simp; omega) (by have := HBD.out; omega) ?_
            intro v1 w10 hN10 hB10 hG10 hI10
            have HWA : Aside0 (W7.heap.size ≤ W7.heap.size) := ⟨Nat.le_refl _⟩
            have HB10 : Aside0 (Below W7.heap.size W7 w10) := ⟨(below_alloc HB8.out _).trans hB10⟩
            obtain ⟨A10, c10, rfl⟩ := Kd.N_slice hN10
            have HNB10 : Aside0 (∀ q, (Value.slice A10 (p ++ [(k : Int)]).length c10).ownBlock = some q → W7.heap.size ≤ q) := ⟨fun q hq => by have := Kd.N_base hN10 q hq; have := HWA.out; omega⟩
            have HC10 := Aside0.mk (Kd.N_reads' hN10)
            clear hN10 hB10 hG10 hI10
            (refine hK.out _ _ ?hS54 (fun hHeld => ?hr54); (case hS54 => exact (HB10.out.block _ hl7).trans hHeld7.out); clear hK K; try simp only [Act.put, List.setIfInBounds_toArray, List.set_cons_zero, List.set_cons_succ])
            have HBr := Aside0.mk (hbT (hbT HB6.out HB7.out) HB10.out)
            have hz10 := HBr.out.size
            have hz10b := HB10.out.size
            (refine hd_one (i := 7) (oi := ?oi55) ?hi55 (by kernel_rfl) (by decide) ?hr55; (case hi55 => (simp only [List.getElem?_toArray, List.getElem?_cons_succ, List.getElem?_cons_zero]; rfl)); intro K hK)
            go_simp
            have hIH := IH.out (rd_Tm t.f2 (k : Int)) A2 c2 (p ++ [(k : Int)]) A10 c10 sk rk (fun j => okt j ∧ j < w.heap.size) w10 (by have := HM.out; have := HSZ.out; have := HTm.out; omega) HMK.out (by have := HBD.out; have := HSZ.out; have := HTm.out; simp only [List.length_append, List.length_cons, List.length_nil]; omega) (Kd.F_below HF2.out HBr.out) HC2.out (fun j hj => ⟨(HOK.out j hj.1).1, by
                rcases HRo.out with h | ⟨q, h, hq⟩
                · rw [h]; exact (HOK.out j hj.1).2
                · rw [h]; intro e; injection e with e; have := hj.2; omega⟩) HC10.out.2.2 HC10.out.2.1 (fun a ha => by
                subst ha
                have h1 := HNB10.out a.block rfl
                exact ⟨by omega, fun e => by have := HLK.out _ e.symm; omega⟩) (HST.out.below _ _ _ _ HSk.out HBr.out)
            simp only [hbx, List.length_append, List.length_cons, List.length_nil, Nat.zero_add] at hIH
            go_at_call 135
            refine hIH.mono ?_
            clear hIH
            rintro e w11 ⟨r11, rfl, hS11, hFr11, hRo11⟩
            have HS11 := Aside0.mk hS11
            have HFr11 := Aside0.mk hFr11
            have HRo11 := Aside0.mk hRo11
            clear hS11
            go_simp
            (refine hK.out _ _ ?hS57 (fun hHeld => ?hr57); (case hS57 => exact (hFr11.block _ (blk_lt hHeld) (by omega) (fun e => by have := HLK.out _ e.symm; omega)).trans hHeld); clear hK K; try simp only [Act.put, List.setIfInBounds_toArray, List.set_cons_zero, List.set_cons_succ])
            clear hFr11 hRo11
            (refine hd_take (i := 8) (oi := ?oi58) (v := ?v58) ?hi58 (by kernel_rfl) (by kernel_rfl) (by kernel_rfl) (by kernel_rfl) (by decide) ?hq58 ?hw58 ?hy58 hHeld ?hr58; (case hi58 => (simp only [List.getElem?_toArray, List.getElem?_cons_succ, List.getElem?_cons_zero]; rfl)); (case hw58 => rfl); (case hy58 => (intro w hSw; go_simp; try with_reducible rfl)); (case hq58 => exact fun _ _ _ h => h); simp only [Act.put, List.setIfInBounds_toArray, List.set_cons_zero, List.set_cons_succ])
            (refine hd_done (by kernel_rfl) ?_; simp only [List.drop_succ_cons, List.drop_zero])
            clear hHeld
            have hz11 := HFr11.out.size
            have HFrw : Aside0 (Fr b w ro w11) := ⟨HFr.out.trans ((Fr.of_below HBr.out).trans HFr11.out (.inl rfl)) HRo.out⟩
            have HRow : Aside0 (RoNew w ro r11) := ⟨HRo.out.trans HRo11.out (by omega)⟩
            generalize hxx : walkT f sk (rd_Tm t.f2 (k : Int)) = wx at *
            obtain ⟨sx, bx⟩ := wx
            simp only at hbx
            subst hbx
            have HXX := Aside0.mk hxx
            clear hxx
            have HW2 : Aside0 (walkT f s t = (sx, false)) := ⟨by rw [HE.out]; exact walkL_bad f s1 t.f2 (k+1) sx HTK.out⟩
            go_wp2
            go_ret
            first | exact ⟨r11, by rw [HW2.out]; rfl, by rw [HW2.out]; exact HS11.out, HFrw.out, HRow.out⟩ | exact ⟨by rw [HW2.out]; rfl, r11, by rw [HW2.out]; exact HS11.out, HFrw.out, HRow.out⟩
          case hbfalse =>
            intro K hK
            go_simp
            (refine hK.out _ _ ?hS61 (fun hHeld => ?hr61); (case hS61 => exact blk_alloc hHeld _); clear hK K; try simp only [Act.put, List.setIfInBounds_toArray, List.set_cons_zero, List.set_cons_succ])
            have HBa := Aside0.mk (below_alloc (Below.refl W7.heap.size W7) (.cells #[.int .i64 (k : Int)] 3))
            have HGa := Aside0.mk (heap_alloc_new W7 (.cells #[.int .i64 (k : Int)] 3))
            have HZa : Aside0 ((W7.alloc (.cells #[.int .i64 (k : Int)] 3)).heap.size = W7.heap.size + 1) := ⟨by simp⟩
            generalize W7.alloc (.cells #[.int .i64 (k : Int)] 3) = Wa at *
            (refine hd_one (i := 2) (oi := ?oi62) ?hi62 (by kernel_rfl) (by decide) ?hr62; (case hi62 => (simp only [List.getElem?_toArray, List.getElem?_cons_succ, List.getElem?_cons_zero]; rfl)); intro K hK)
            go_simp
            go_at_call 153
            refine (cloneI_any p Ap cp Wa (by have := HBD.out; omega) (Kd.C_below HP7.out HBa.out)).mono ?_
            rintro e w8 ⟨v8, rfl, hN8, hb8⟩
            go_simp
            (refine hK.out _ _ ?hS64 (fun hHeld => ?hr64); (case hS64 => exact (hb8.block _ (blk_lt hHeld)).trans hHeld); clear hK K; try simp only [Act.put, List.setIfInBounds_toArray, List.set_cons_zero, List.set_cons_succ])
            have HB8 := Aside0.mk hb8
            have HN8 := Aside0.mk hN8
            clear hb8 hN8
            (refine hd_one (i := 5) (oi := ?oi65) ?hi65 (by kernel_rfl) (by decide) ?hr65; (case hi65 => (simp only [List.getElem?_toArray, List.getElem?_cons_succ, List.getElem?_cons_zero]; rfl)); intro K hK)
            refine Kd.N_append_rows_step (Kd.int .i64) (w0 := w8) Wa.heap.size rfl _ _ 22 3 _ 8 rfl Try.underlying22 infoI rfl (by decide) (by decide) v8 p [(k : Int)] (some ⟨W7.heap.size, 0, none⟩) 1 1 (fun _ => True) (fun j => False ∨ j = W7.heap.size) rfl rfl HN8.out (F_int1 ((HB8.out.block _ (blk_lt HGa.out)).trans HGa.out)) (fun j hj => ⟨trivial, fun e => by have := Kd.N_base HN8.out _ e.symm; have := HZa.out; rcases hj with hj | hj; exact hj; omega⟩) (fun _ _ => trivial) (Below.refl _ _) HB8.out.size (by have := HBD.out; omega) ?_
            intro v1 w10 hN10 hB10 hG10 hI10
            have HWA : Aside0 (W7.heap.size ≤ Wa.heap.size) := ⟨by have := HZa.out; omega⟩
            have HB10 : Aside0 (Below W7.heap.size W7 w10) := ⟨(hbT HBa.out HB8.out).trans (hbW hB10 (by have := HZa.out; omega))⟩
            obtain ⟨A10, c10, rfl⟩ := Kd.N_slice hN10
            have HNB10 : Aside0 (∀ q, (Value.slice A10 (p ++ [(k : Int)]).length c10).ownBlock = some q → W7.heap.size ≤ q) := ⟨fun q hq => by have := Kd.N_base hN10 q hq; have := HWA.out; omega⟩
            have HC10 := Aside0.mk (Kd.N_reads' hN10)
            clear hN10 hB10 hG10 hI10
            (refine hK.out _ _ ?hS67 (fun hHeld => ?hr67); (case hS67 => exact (HB10.out.block _ hl7).trans hHeld7.out); clear hK K; try simp only [Act.put, List.setIfInBounds_toArray, List.set_cons_zero, List.set_cons_succ])
            have HBr := Aside0.mk (hbT (hbT HB6.out HB7.out) HB10.out)
            have hz10 := HBr.out.size
            have hz10b := HB10.out.size
            (refine hd_one (i := 7) (oi := ?oi68) ?hi68 (by kernel_rfl) (by decide) ?hr68; (case hi68 => (simp only [List.getElem?_toArray, List.getElem?_cons_succ, List.getElem?_cons_zero]; rfl)); intro K hK)
            go_simp
            have hIH := IH.out (rd_Tm t.f2 (k : Int)) A2 c2 (p ++ [(k : Int)]) A10 c10 sk rk (fun j => okt j ∧ j < w.heap.size) w10 (by have := HM.out; have := HSZ.out; have := HTm.out; omega) HMK.out (by have := HBD.out; have := HSZ.out; have := HTm.out; simp only [List.length_append, List.length_cons, List.length_nil]; omega) (Kd.F_below HF2.out HBr.out) HC2.out (fun j hj => ⟨(HOK.out j hj.1).1, by
                rcases HRo.out with h | ⟨q, h, hq⟩
                · rw [h]; exact (HOK.out j hj.1).2
                · rw [h]; intro e; injection e with e; have := hj.2; omega⟩) HC10.out.2.2 HC10.out.2.1 (fun a ha => by
                subst ha
                have h1 := HNB10.out a.block rfl
                exact ⟨by omega, fun e => by have := HLK.out _ e.symm; omega⟩) (HST.out.below _ _ _ _ HSk.out HBr.out)
            simp only [hbx, List.length_append, List.length_cons, List.length_nil, Nat.zero_add] at hIH
            go_at_call 135
            refine hIH.mono ?_
            clear hIH
            rintro e w11 ⟨r11, rfl, hS11, hFr11, hRo11⟩
            have HS11 := Aside0.mk hS11
            have HFr11 := Aside0.mk hFr11
            have HRo11 := Aside0.mk hRo11
            clear hS11
            go_simp
            (refine hK.out _ _ ?hS70 (fun hHeld => ?hr70); (case hS70 => exact (hFr11.block _ (blk_lt hHeld) (by omega) (fun e => by have := HLK.out _ e.symm; omega)).trans hHeld); clear hK K; try simp only [Act.put, List.setIfInBounds_toArray, List.set_cons_zero, List.set_cons_succ])
            clear hFr11 hRo11
            (refine hd_take (i := 8) (oi := ?oi71) (v := ?v71) ?hi71 (by kernel_rfl) (by kernel_rfl) (by kernel_rfl) (by kernel_rfl) (by decide) ?hq71 ?hw71 ?hy71 hHeld ?hr71; (case hi71 => (simp only [List.getElem?_toArray, List.getElem?_cons_succ, List.getElem?_cons_zero]; rfl)); (case hw71 => rfl); (case hy71 => (intro w hSw; go_simp; try with_reducible rfl)); (case hq71 => exact fun _ _ _ h => h); simp only [Act.put, List.setIfInBounds_toArray, List.set_cons_zero, List.set_cons_succ])
            (refine hd_done (by kernel_rfl) ?_; simp only [List.drop_succ_cons, List.drop_zero])
            clear hHeld
            have hz11 := HFr11.out.size
            have HFrw : Aside0 (Fr b w ro w11) := ⟨HFr.out.trans ((Fr.of_below HBr.out).trans HFr11.out (.inl rfl)) HRo.out⟩
            have HRow : Aside0 (RoNew w ro r11) := ⟨HRo.out.trans HRo11.out (by omega)⟩
            generalize hxx : walkT f sk (rd_Tm t.f2 (k : Int)) = wx at *
            obtain ⟨sx, bx⟩ := wx
            simp only at hbx
            subst hbx
            have HXX := Aside0.mk hxx
            clear hxx
            have HW2 : Aside0 (walkT f s t = (sx, false)) := ⟨by rw [HE.out]; exact walkL_bad f s1 t.f2 (k+1) sx HTK.out⟩
            go_wp2
            go_ret
            first | exact ⟨r11, by rw [HW2.out]; rfl, by rw [HW2.out]; exact HS11.out, HFrw.out, HRow.out⟩ | exact ⟨by rw [HW2.out]; rfl, r11, by rw [HW2.out]; exact HS11.out, HFrw.out, HRow.out⟩
      · obtain rfl : k = t.f2.length := by omega
        have HW2 : Aside0 (walkT f s t = (sk, true)) := ⟨by have := HWL.out; rw [List.take_length] at this; rw [HE.out, this]⟩
        go_wp2
        go_ret
        exact ⟨rk, by rw [HW2.out]; rfl, by rw [HW2.out]; exact HSk.out, HFr.out, HRo.out⟩
end Go.Proofs.Ytcgnpmjkeifokaa
-- K21
/- term.Walk; term.Stands and its function. -/
namespace Go.Proofs.Ytcgnpmjkeifokaa
open Go.RowKit Go.Proofs.YtcgnpmjkeifokaaW.PrintWords
set_option linter.unusedVariables false
set_option linter.unusedSimpArgs false

set_option maxHeartbeats 4000000 in
set_option maxRecDepth 100000 in
theorem Walk_any {σ : Type} (g : Nat) (lb : Array Value) (f : σ → Tm → σ × Bool) (b : Nat) (St : σ → Option Nat → World → Prop) (eg : ∀ args w, (callFunc g args).run Try.prog w = .ok (.enter g args) w) (μ : σ → Nat) (M : Nat) (hμ : ∀ s x, μ (f s x).1 ≤ μ s + 1) (hd : WkC g lb f b St μ M) (hst : StOk b St)
    (t : Tm) (A : Option Addr) (c : Nat) (s : σ) (ro : Option Nat) (okt : Nat → Prop) (w : World) (hmu : μ s + szT t ≤ M) (hbd : szT t ≤ 1000000) (hF : Kd.F kTm w okt A t.f2.length t.f2) (hc : t.f2.length ≤ c) (hok : ∀ k, okt k → k ≠ b ∧ some k ≠ ro) (hS : St s ro w) :
    Calls Try.prog 118 #[.agg #[.int .i64 t.f0, .int .i64 t.f1, .slice A t.f2.length c], .func (.func g) #[] lb] w fun e w' => ∃ ro', e = .returned (.bool (walkT f s t).2) ∧ St (walkT f s t).1 ro' w' ∧ Fr b w ro w' ∧ RoNew w ro ro' := by
  have HB := Aside0.mk (below_alloc (Below.refl w.heap.size w) (.cells #[.int .i64 t.f0, .int .i64 t.f1, .slice A t.f2.length c] 46))
  have g0 := newAt (w := w) (o := .cells #[.int .i64 t.f0, .int .i64 t.f1, .slice A t.f2.length c] 46) rfl
  have hWz : (w.alloc (.cells #[.int .i64 t.f0, .int .i64 t.f1, .slice A t.f2.length c] 46)).heap.size = w.heap.size + 1 := by simp
  have HW := Aside0.mk (walk_any g lb f b St eg μ M hμ hd hst (szT t) t A c [] none 0 s ro (fun k => okt k ∧ k < w.heap.size) (w.alloc (.cells #[.int .i64 t.f0, .int .i64 t.f1, .slice A t.f2.length c] 46)) (Nat.le_refl _) hmu (by simpa using hbd) (Kd.F_below (Kd.F_bound hF) HB.out) hc (fun k hk => hok k hk.1) (Kd.C_nil _ _) (Nat.le_refl _) (fun a h => by cases h) (hst.below _ _ _ _ hS HB.out))
  clear hF hok hd hst hS hmu hμ
  go_enter Try.func118, Try.ntmps118
  go_upto_region 1 with (fail)
  generalize w.alloc (.cells #[.int .i64 t.f0, .int .i64 t.f1, .slice A t.f2.length c] 46) = W at *
  have c0 := (blk_cell g0 0).trans rfl
  have c1 := (blk_cell g0 1).trans rfl
  have c2 := (blk_cell g0 2).trans rfl
  clear g0
  simp only [List.length_nil] at HW
  go_wp2_with (go_at_call 135; refine HW.out.mono ?_; rintro e w2 ⟨ro2, rfl, hS2, hFr2, hRo2⟩; have HS2 := Aside0.mk hS2; have HFr2 := Aside0.mk hFr2; have HRo2 := Aside0.mk hRo2; clear hS2 hFr2 hRo2)
  go_ret
  exact ⟨ro2, rfl, HS2.out, (Fr.of_below HB.out).trans HFr2.out (.inl rfl), by
    rcases HRo2.out with h | ⟨k, h, hk⟩
    · exact .inl h
    · exact .inr ⟨k, h, by omega⟩⟩

/-! ### the function of Stands -/
def stF (s : List Int) (x : Tm) : List Int × Bool := (if 0 < x.f0 ∧ hasB s x.f0 = false then s ++ [x.f0] else s, true)
theorem stF_mu (s : List Int) (x : Tm) : (stF s x).1.length ≤ s.length + 1 := by unfold stF; simp only; split <;> simp
def StS (b : Nat) (s : List Int) (ro : Option Nat) (W : World) : Prop := ∃ v, W.heap[b]? = some (.cells #[v] 22 (0, 0)) ∧ Kd.N (Kd.int .i64) 3 W (b + 1) (fun k => b < k) v s ∧ v.ownBlock = ro
theorem StS_ok (b : Nat) : StOk b (StS b) where
  below := fun s ro W W' ⟨v, h1, h2, h3⟩ hB => ⟨v, (hB.block _ (blk_lt h1)).trans h1, Kd.N_below h2 hB, h3⟩
  lt := fun s ro W ⟨v, h1, h2, h3⟩ => ⟨blk_lt h1, fun k hk => Kd.N_lt h2 k (h3.trans hk)⟩
end Go.Proofs.Ytcgnpmjkeifokaa
-- K22
/- The function of term.Stands. -/
namespace Go.Proofs.Ytcgnpmjkeifokaa
open Go.RowKit Go.Proofs.YtcgnpmjkeifokaaW.PrintWords
set_option linter.unusedVariables false
set_option linter.unusedSimpArgs false

theorem sizeIs : (Try.prog.info? 22).map (·.size) = some 1 := by kernel_rfl
set_option maxHeartbeats 4000000 in
set_option maxRecDepth 100000 in
theorem stands1_any (b M : Nat) (hM : M * 8 ≤ 140737488355328) : WkC 119 #[.pointer (some ⟨b, 0, none⟩)] stF b (StS b) List.length M := by
  intro s ro x A c pv okt W hlt hF hc hS
  obtain ⟨v, h1, h2, hro⟩ := hS
  show Calls Try.prog 119 #[pv, .agg #[.int .i64 x.f0, .int .i64 x.f1, .slice A x.f2.length c], .pointer (some ⟨b, 0, none⟩)] W _
  obtain ⟨Av, cv, rfl⟩ := Kd.N_slice h2
  have HRO := Aside0.mk hro
  have HN := Aside0.mk h2
  have HBL := Aside0.mk hlt
  have hbW := blk_lt h1
  have HB := Aside0.mk (below_alloc (Below.refl W.heap.size W) (.cells #[.int .i64 x.f0, .int .i64 x.f1, .slice A x.f2.length c] 46))
  have g0 := newAt (w := W) (o := .cells #[.int .i64 x.f0, .int .i64 x.f1, .slice A x.f2.length c] 46) rfl
  have g1 := blk_alloc h1 (.cells #[.int .i64 x.f0, .int .i64 x.f1, .slice A x.f2.length c] 46)
  have hz1 : (W.alloc (.cells #[.int .i64 x.f0, .int .i64 x.f1, .slice A x.f2.length c] 46)).heap.size = W.heap.size + 1 := by simp
  clear h1 h2 hF hro hlt
  go_enter Try.func119, Try.ntmps119
  go_upto_region 1 with (fail)
  generalize W.alloc (.cells #[.int .i64 x.f0, .int .i64 x.f1, .slice A x.f2.length c] 46) = W1 at *
  have c0 := (blk_cell g0 0).trans rfl
  have b0 := (blk_cell g1 0).trans rfl
  have G1 := Aside0.mk g1
  have G0 := Aside0.mk g0
  have HN1 := Aside0.mk (Kd.N_below HN.out HB.out)
  clear g0 g1
  by_cases hp : 0 < x.f0
  · cases hh : hasB s x.f0 with
    | true =>
      have HF : Aside0 (stF s x = (s, true)) := ⟨by unfold stF; rw [if_neg (by simp [hh])]⟩
      go_wp2_with (go_at_call 120; refine (contains_int s x.f0 Av cv W1 (Kd.N_reads' HN1.out).2.2).mono ?_; rintro e w2 ⟨rfl, hb2⟩; simp only [hh]; have HB2 := Aside0.mk hb2; clear hb2 c0 b0)
      go_ret
      first | exact ⟨ro, by rw [HF.out]; rfl, by rw [HF.out]; exact (StS_ok b).below _ _ _ _ ⟨_, G1.out, HN1.out, HRO.out⟩ HB2.out, Fr.of_below (hbT HB.out HB2.out), .inl rfl⟩ | exact ⟨by rw [HF.out]; rfl, ro, by rw [HF.out]; exact (StS_ok b).below _ _ _ _ ⟨_, G1.out, HN1.out, HRO.out⟩ HB2.out, Fr.of_below (hbT HB.out HB2.out), .inl rfl⟩
    | false =>
      have HF : Aside0 (stF s x = (s ++ [x.f0], true)) := ⟨by unfold stF; rw [if_pos ⟨hp, hh⟩]⟩
      go_upto_region 2 with (go_at_call 120; refine (contains_int s x.f0 Av cv W1 (Kd.N_reads' HN1.out).2.2).mono ?_; rintro e w2 ⟨rfl, hb2⟩; simp only [hh]; have HB2 := Aside0.mk hb2; have G2 := Aside0.mk ((hb2.block _ (blk_lt G1.out)).trans G1.out); have G02 := Aside0.mk ((hb2.block _ (blk_lt G0.out)).trans G0.out); have HN2 := Aside0.mk (Kd.N_below HN1.out hb2); have hz2 := hb2.size; clear hb2 c0 b0)
      have b0 := (blk_cell G2.out 0).trans rfl
      have c0 := (blk_cell G02.out 0).trans rfl
      go_wp2_with (first | (at_builtin; refine Kd.N_append (Kd.int .i64) (w0 := w2) (b + 1) rfl _ _ 22 3 _ 8 rfl Try.underlying22 infoI rfl (by decide) (by decide) (.slice Av s.length cv) s x.f0 [.int .i64 x.f0] (fun k => b < k) (fun _ => False) rfl rfl (fun _ _ => rfl) (fun _ h => h.elim) (fun k hk => by omega) HN2.out (Below.refl _ _) (by omega) ?_ ?_; (have := HBL.out; omega); intro v3 w3 hN3 hB3 hG3 hI3; obtain ⟨A3, c3, rfl⟩ := Kd.N_slice hN3; have HN3 := Aside0.mk hN3; have HB3 := Aside0.mk hB3; have HG3 := Aside0.mk hG3; have HI3 := Aside0.mk hI3; have G3 := Aside0.mk ((hB3.block b (by omega)).trans G2.out); clear hN3 hB3 hG3 hI3 b0 c0) | ((with_reducible refine gate_store (t := 22) (p := 2) rfl ?_); refine st_blk rfl rfl rfl #[.slice A3 (s ++ [x.f0]).length c3] [.slice A3 (s ++ [x.f0]).length c3] rfl rfl rfl sizeIs (one1 _ _ _) G3.out (Nat.le_refl 1) rfl ?_; intro w4 hs4 hG4 hz4; have HS4 := Aside0.mk hs4; have HG4 := Aside0.mk hG4; clear hs4 hG4))
      go_ret
      have hz3 := HG3.out.size
      have hSt : StS b (s ++ [x.f0]) (Value.slice A3 (s ++ [x.f0]).length c3).ownBlock w4 := ⟨_, HS4.out, Kd.N_grown HN3.out HG4.out (fun k hk => by intro e; injection e with e; omega), rfl⟩
      have hFr : Fr b W ro w4 := ⟨HG4.out.os.trans (HG3.out.os.trans (hbT HB.out HB2.out).os), HG4.out.tape.trans (HG3.out.tape.trans (hbT HB.out HB2.out).tape), HG4.out.output.trans (HG3.out.output.trans (hbT HB.out HB2.out).output), by have := HG4.out.size; omega, fun i hi hb hn => (HG4.out.block i (by omega) (by intro e; injection e with e; omega)).trans ((HG3.out.block i (by omega) (by rw [HRO.out]; exact hn)).trans ((hbT HB.out HB2.out).block i hi))⟩
      have hRo : RoNew W ro (Value.slice A3 (s ++ [x.f0]).length c3).ownBlock := by
        rcases HI3.out with h | ⟨q, h, hq⟩
        · exact .inl (h.trans HRO.out)
        · exact .inr ⟨q, h, by omega⟩
      first | exact ⟨_, by rw [HF.out]; rfl, by rw [HF.out]; exact hSt, hFr, hRo⟩ | exact ⟨by rw [HF.out]; rfl, _, by rw [HF.out]; exact hSt, hFr, hRo⟩
  · have HF : Aside0 (stF s x = (s, true)) := ⟨by unfold stF; rw [if_neg (by simp [hp])]⟩
    go_wp2
    go_ret
    first | exact ⟨ro, by rw [HF.out]; rfl, by rw [HF.out]; exact ⟨_, G1.out, HN1.out, HRO.out⟩, Fr.of_below HB.out, .inl rfl⟩ | exact ⟨by rw [HF.out]; rfl, ro, by rw [HF.out]; exact ⟨_, G1.out, HN1.out, HRO.out⟩, Fr.of_below HB.out, .inl rfl⟩
end Go.Proofs.Ytcgnpmjkeifokaa
-- K23
/- term.Stands. -/
namespace Go.Proofs.Ytcgnpmjkeifokaa
open Go.RowKit Go.Proofs.YtcgnpmjkeifokaaW.PrintWords
set_option linter.unusedVariables false
set_option linter.unusedSimpArgs false

/-- The variables of terms, in the order in which they are first met from the front. -/
def stL : List Int → List Tm → List Int
  | s, [] => s
  | s, t :: ts => stL (walkT stF s t).1 ts
theorem stL_append (a b : List Tm) : ∀ s, stL s (a ++ b) = stL (stL s a) b := by
  induction a with
  | nil => intro s; rfl
  | cons t ts ih => intro s; simp only [List.cons_append, stL]; exact ih _
theorem stL_take_succ (s : List Int) (l : List Tm) (k : Nat) (hk : k < l.length) : stL s (l.take (k+1)) = (walkT stF (stL s (l.take k)) (rd_Tm l k)).1 := by
  rw [List.take_succ_eq_append_getElem hk, stL_append, rd_get l k hk]; rfl
theorem stL_len (l : List Tm) : ∀ s, (stL s l).length ≤ s.length + szL l := by
  induction l with
  | nil => intro s; simp [stL]
  | cons t ts ih =>
    intro s
    have h1 := ih (walkT stF s t).1
    have h2 := walk_mu stF List.length stF_mu t s
    simp only [stL, szL]; omega

set_option maxHeartbeats 4000000 in
set_option maxRecDepth 100000 in
theorem stands_any (l : List Tm) (A : Option Addr) (c : Nat) (ok : Nat → Prop) (w : World) (hbd : szL l ≤ 1000000) (hF : Kd.F kTm w ok A l.length l) :
    Calls Try.prog 80 #[.slice A l.length c] w fun e w' => ∃ v1, e = .returned v1 ∧ Kd.N (Kd.int .i64) 3 w' (w.heap.size + 1) (fun k => w.heap.size < k) v1 (stL [] l) ∧ Below w.heap.size w w' := by
  have hlen := Kd.F_max hF
  have HF := Aside0.mk (Kd.F_bound hF)
  have HBD := Aside0.mk hbd
  clear hF hbd
  have eg := enters_of Try.func119 (by kernel_rfl) rfl
  go_enter Try.func80, Try.ntmps80
  go_wp2
  go_loopw [8] (fun i wr => ∃ (k : Nat) (ro : Option Nat), k ≤ l.length ∧ i = .int .i64 k ∧ Aside0 (StS w.heap.size (stL [] (l.take k)) ro wr) ∧ Aside0 (Below w.heap.size w wr)) (fun i _ => l.length - (intOf i).toNat)
  case atStart => exact ⟨0, none, by omega, rfl, ⟨⟨_, heap_alloc_new _ _, Kd.N_nil _ _ _ _ _, rfl⟩⟩, ⟨below_alloc (Below.refl _ _) _⟩⟩
  case round =>
    obtain ⟨k, ro, hk, rfl, HS, HB⟩ := hrel
    have hzr := HB.out.size
    have hlt2 := ((StS_ok w.heap.size).lt _ _ _ HS.out).1
    by_cases hlt : k < l.length
    · obtain ⟨ad, A2, c2, rfl, E0, E1, E2, hl2, hF2, _⟩ := at_TmF (Kd.F_below HF.out HB.out) (k : Int) (by omega) (by omega)
      simp only [Int.toNat_natCast] at E0 E1 E2
      have HTm := Aside0.mk (szT_mem (rd_mem l k hlt))
      have HTK := Aside0.mk (stL_take_succ [] l k hlt)
      have HLN := Aside0.mk (stL_len (l.take k) [])
      have HLE := Aside0.mk (szL_take_le l k)
      have HROB : Aside0 (∀ q, ro = some q → w.heap.size + 1 ≤ q) := ⟨fun q hq => by obtain ⟨v, _, h2, h3⟩ := HS.out; exact Kd.N_base h2 q (h3.trans hq)⟩
      have HF2 := Aside0.mk hF2
      have HC2 := Aside0.mk hl2
      clear hF2 hl2
      go_wp2_with (first | (((with_reducible refine gate_store (t := 46) (p := 5) rfl ?_); refine st_tm 5 rfl rfl rfl rfl rfl (heap_alloc_new _ _) ?_); intro w4 hs4 hG4 hz4; have s0 := (blk_cell hs4 0).trans rfl; have s1 := (blk_cell hs4 1).trans rfl; have s2 := (blk_cell hs4 2).trans rfl; have HB4 := Aside0.mk (gbS (below_alloc (Below.refl wr.heap.size wr) _) hG4 (Nat.le_refl _)); have hz4' := HB4.out.size; clear hs4 hG4 E0 E1 E2) | (go_at_call 118; refine (Walk_any 119 #[.pointer (some ⟨w.heap.size, 0, none⟩)] stF w.heap.size (StS w.heap.size) eg List.length 2000000 stF_mu (stands1_any _ _ (by decide)) (StS_ok _) (rd_Tm l (k : Int)) A2 c2 (stL [] (l.take k)) ro (fun j => ok j ∧ j < w.heap.size) w4 ?_ ?_ (Kd.F_below HF2.out HB4.out) HC2.out ?_ ((StS_ok _).below _ _ _ _ HS.out HB4.out)).mono ?_; (have := HLN.out; have := HLE.out; have := HTm.out; have := HBD.out; simp only [List.length_nil] at *; omega); (have := HTm.out; have := HBD.out; omega); (exact fun j hj => ⟨by have := hj.2; omega, fun e => by have := HROB.out _ e.symm; have := hj.2; omega⟩); rintro e w5 ⟨r5, rfl, hS5, hFr5, hRo5⟩; have HS5 := Aside0.mk hS5; have HFr5 := Aside0.mk hFr5; clear hS5 hFr5 hRo5 s0 s1 s2))
      go_roundw
      case rel => exact ⟨k + 1, r5, by omega, by go_num, ⟨by rw [HTK.out]; exact HS5.out⟩, ⟨by
        have h4 := hbT HB.out HB4.out
        have h5 := HFr5.out
        exact ⟨h5.os.trans h4.os, h5.tape.trans h4.tape, h5.output.trans h4.output, Nat.le_trans h4.size h5.size, fun i hi => (h5.block i (by omega) (by omega) (fun e => by have := HROB.out _ e.symm; omega)).trans (h4.block i hi)⟩⟩⟩
      case measure => simp [intOf]; omega
    · obtain rfl : k = l.length := by omega
      obtain ⟨v, h1, h2, h3⟩ := HS.out
      rw [List.take_length] at h2
      have HN := Aside0.mk h2
      have b0 := (blk_cell h1 0).trans rfl
      clear h1 h2 h3
      go_wp2
      go_ret
      first | exact ⟨v, rfl, HN.out, HB.out⟩ | exact ⟨rfl, v, HN.out, HB.out⟩
end Go.Proofs.Ytcgnpmjkeifokaa
-- K24
/- slices.insertionSortOrdered of one number. -/
namespace Go.Proofs.Ytcgnpmjkeifokaa
open Go.RowKit Go.Proofs.YtcgnpmjkeifokaaW.PrintWords
set_option linter.unusedVariables false
set_option linter.unusedSimpArgs false

theorem insertion1 (v : Value) (w : World) : Calls Try.prog 137 #[v, .int .i64 0, .int .i64 1] w fun e w' => e = .returned (.tuple #[]) ∧ w' = w := by
  go_enter Try.func137, Try.ntmps137
  go_wp2
  go_loopw [6] (fun i wr => i = .int .i64 1 ∧ wr = w) (fun i _ => 0)
  case atStart => exact ⟨rfl, rfl⟩
  case round =>
    obtain ⟨rfl, rfl⟩ := hrel
    go_wp2
    first | go_end0 | ((try simp only [Exit.inBlock, Exit.then]); refine bodyPost_ret (results_none rfl _ _ _) rfl ?_)
    exact ⟨rfl, rfl⟩

set_option maxRecDepth 20000 in
theorem pdq1 (v lim : Value) (w : World) : Calls Try.prog 122 #[v, .int .i64 0, .int .i64 1, lim] w fun e w' => e = .returned (.tuple #[]) ∧ w' = w := by
  go_enter Try.func122, Try.ntmps122
  go_wp2
  go_loopw [1, 2] (fun a b wr => a = .int .i64 0 ∧ b = .int .i64 1 ∧ wr = w) (fun a b _ => 0)
  case atStart => exact ⟨rfl, rfl, rfl⟩
  case round =>
    obtain ⟨rfl, rfl, rfl⟩ := hrel
    go_wp2_with (go_at_call 137; refine (insertion1 _ _).mono ?_; rintro e w2 ⟨rfl, rfl⟩)
    first | go_end0 | ((try simp only [Exit.inBlock, Exit.then]); refine bodyPost_ret (results_none rfl _ _ _) rfl ?_)
    exact ⟨rfl, rfl⟩
end Go.Proofs.Ytcgnpmjkeifokaa
-- K25
/- math/bits.Len of one. -/
namespace Go.Proofs.Ytcgnpmjkeifokaa
open Go.RowKit Go.Proofs.YtcgnpmjkeifokaaW.PrintWords
set_option linter.unusedVariables false

set_option maxRecDepth 100000 in
theorem len64 (w : World) : Calls Try.prog 147 #[.int .u64 1] w fun e w' => e = .returned (.int .i64 1) ∧ w' = w := by
  go_enter Try.func147, Try.ntmps147
  go_wp2
  go_ret
  exact ⟨ret_int (by kernel_rfl), rfl⟩
theorem len1 (w : World) : Calls Try.prog 123 #[.int .u64 1] w fun e w' => e = .returned (.int .i64 1) ∧ w' = w := by
  go_enter Try.func123, Try.ntmps123
  go_wp2_with (go_at_call 147; refine (len64 _).mono ?_; rintro e w2 ⟨rfl, rfl⟩)
  go_ret
  exact ⟨rfl, rfl⟩
theorem sort1 (A : Option Addr) (c : Nat) (w : World) : Calls Try.prog 88 #[.slice A 1 c] w fun e w' => e = .returned (.tuple #[]) ∧ w' = w := by
  go_enter Try.func88, Try.ntmps88
  go_wp2_with (first | (go_at_call 123; refine (len1 _).mono ?_; rintro e w2 ⟨rfl, rfl⟩) | (go_at_call 122; refine (pdq1 _ _ _).mono ?_; rintro e w2 ⟨rfl, rfl⟩))
  first | go_end0 | ((try simp only [Exit.inBlock, Exit.then]); refine bodyPost_ret (results_none rfl _ _ _) rfl ?_)
  exact ⟨rfl, rfl⟩
end Go.Proofs.Ytcgnpmjkeifokaa
-- K26
/- term.Vars of a term with one variable. -/
namespace Go.Proofs.Ytcgnpmjkeifokaa
open Go.RowKit Go.Proofs.YtcgnpmjkeifokaaW.PrintWords
set_option linter.unusedVariables false
set_option linter.unusedSimpArgs false

set_option maxHeartbeats 4000000 in
set_option maxRecDepth 100000 in
theorem vars1_any (g : List Int) (Ag : Option Addr) (cg : Nat) (t : Tm) (A : Option Addr) (c : Nat) (ok : Nat → Prop) (w : World) (x : Int) (hG : Kd.C (Kd.int .i64) w Ag g.length g) (hF : Kd.F kTm w ok A t.f2.length t.f2) (hc : t.f2.length ≤ c) (h0 : chkTs g [t] = 0) (hx : stL [] [t] = [x]) :
    Calls Try.prog 37 #[.agg #[.slice Ag g.length cg], .agg #[.int .i64 t.f0, .int .i64 t.f1, .slice A t.f2.length c]] w fun e w' => ∃ A' c', e = .returned (.tuple #[.slice A' 1 c', .int .i64 0]) ∧ Kd.C (Kd.int .i64) w' A' 1 [x] ∧ Below w.heap.size w w' := by
  have HF := Aside0.mk hF
  have HG := Aside0.mk hG
  have HX := Aside0.mk hx
  have HSZ : Aside0 (szL [t] ≤ 1000000) := ⟨by have := ((chkTs_ok h0).2 t (by simp)).1; simp only [szL]; omega⟩
  have h0b := bneF h0
  clear hF hG hx h0
  have g0 := blk_alloc (newAt (w := w) (o := .cells #[.slice Ag g.length cg] 24) rfl) (.cells #[.int .i64 t.f0, .int .i64 t.f1, .slice A t.f2.length c] 46)
  have g1 := newAt (w := w.alloc (.cells #[.slice Ag g.length cg] 24)) (o := .cells #[.int .i64 t.f0, .int .i64 t.f1, .slice A t.f2.length c] 46) (k := w.heap.size + 1) (by simp)
  have HB := Aside0.mk (below_alloc (below_alloc (Below.refl w.heap.size w) (.cells #[.slice Ag g.length cg] 24)) (.cells #[.int .i64 t.f0, .int .i64 t.f1, .slice A t.f2.length c] 46))
  go_enter Try.func37, Try.ntmps37
  go_upto_region 1 with (fail)
  generalize (w.alloc (.cells #[.slice Ag g.length cg] 24)).alloc (.cells #[.int .i64 t.f0, .int .i64 t.f1, .slice A t.f2.length c] 46) = W at *
  have G1 := Aside0.mk g1
  have s0 := (blk_cell g0 0).trans rfl
  have t0 := (blk_cell g1 0).trans rfl
  have t1 := (blk_cell g1 1).trans rfl
  have t2 := (blk_cell g1 2).trans rfl
  clear g0 g1
  have HL := Aside0.mk (F_lit1 (heap_alloc_new W (.cells #[.int .i64 t.f0, .int .i64 t.f1, .slice A t.f2.length c] 46)) (Kd.F_below HF.out (below_alloc HB.out _)) hc)
  go_upto_region 2 with (go_at_call 77; refine (termAll_any g Ag cg [t] _ _ _ _ (Kd.C_below HG.out (below_alloc HB.out _)) HL.out).mono ?_; rintro e w2 ⟨rfl, hb2⟩; have HB2 := Aside0.mk (hbA (Below.refl _ W) _ hb2); clear hb2)
  have HB02 := Aside0.mk (hbT HB.out HB2.out)
  have hT2 := (HB2.out.block _ (blk_lt G1.out)).trans G1.out
  clear s0 t0 t1 t2
  have t0 := (blk_cell hT2 0).trans rfl
  have t1 := (blk_cell hT2 1).trans rfl
  have t2 := (blk_cell hT2 2).trans rfl
  clear hT2
  have HL2 := Aside0.mk (F_lit1 (heap_alloc_new w2 (.cells #[.int .i64 t.f0, .int .i64 t.f1, .slice A t.f2.length c] 46)) (Kd.F_below HF.out (below_alloc HB02.out _)) hc)
  go_wp2_with (first | (go_at_call 80; refine (stands_any [t] _ _ _ _ HSZ.out HL2.out).mono ?_; rintro e w3 ⟨v3, rfl, hN3, hb3⟩; rw [HX.out] at hN3; obtain ⟨A3, c3, rfl⟩ := Kd.N_slice hN3; have HN3 := Aside0.mk hN3; have HB3 := Aside0.mk (hbA (Below.refl _ w2) _ hb3); clear hN3 hb3 t0 t1 t2) | (go_at_call 88; refine (sort1 A3 c3 _).mono ?_; rintro e w4 ⟨rfl, rfl⟩))
  go_ret2
  exact ⟨A3, c3, rfl, (Kd.N_reads' HN3.out).2.2, hbT HB02.out HB3.out⟩
end Go.Proofs.Ytcgnpmjkeifokaa
-- K27
/- term.Size of a term that is right. -/
namespace Go.Proofs.Ytcgnpmjkeifokaa
open Go.RowKit Go.Proofs.YtcgnpmjkeifokaaW.PrintWords
set_option linter.unusedVariables false
set_option linter.unusedSimpArgs false

set_option maxHeartbeats 4000000 in
set_option maxRecDepth 100000 in
theorem size1_any (g : List Int) (Ag : Option Addr) (cg : Nat) (t : Tm) (A : Option Addr) (c : Nat) (ok : Nat → Prop) (w : World) (hG : Kd.C (Kd.int .i64) w Ag g.length g) (hF : Kd.F kTm w ok A t.f2.length t.f2) (hc : t.f2.length ≤ c) (h0 : chkTs g [t] = 0) :
    Calls Try.prog 36 #[.agg #[.slice Ag g.length cg], .agg #[.int .i64 t.f0, .int .i64 t.f1, .slice A t.f2.length c]] w fun e w' => e = .returned (.tuple #[.int .i64 (szT t), .int .i64 0]) ∧ Below w.heap.size w w' := by
  have HF := Aside0.mk hF
  have HG := Aside0.mk hG
  have HSZ : Aside0 (min (szT t : Int) (120 + 1) = szT t) := ⟨by have := ((chkTs_ok h0).2 t (by simp)).1; omega⟩
  have h0b := bneF h0
  clear hF hG h0
  have g0 := blk_alloc (newAt (w := w) (o := .cells #[.slice Ag g.length cg] 24) rfl) (.cells #[.int .i64 t.f0, .int .i64 t.f1, .slice A t.f2.length c] 46)
  have g1 := newAt (w := w.alloc (.cells #[.slice Ag g.length cg] 24)) (o := .cells #[.int .i64 t.f0, .int .i64 t.f1, .slice A t.f2.length c] 46) (k := w.heap.size + 1) (by simp)
  have HB := Aside0.mk (below_alloc (below_alloc (Below.refl w.heap.size w) (.cells #[.slice Ag g.length cg] 24)) (.cells #[.int .i64 t.f0, .int .i64 t.f1, .slice A t.f2.length c] 46))
  go_enter Try.func36, Try.ntmps36
  go_upto_region 1 with (fail)
  generalize (w.alloc (.cells #[.slice Ag g.length cg] 24)).alloc (.cells #[.int .i64 t.f0, .int .i64 t.f1, .slice A t.f2.length c] 46) = W at *
  have G1 := Aside0.mk g1
  have s0 := (blk_cell g0 0).trans rfl
  have t0 := (blk_cell g1 0).trans rfl
  have t1 := (blk_cell g1 1).trans rfl
  have t2 := (blk_cell g1 2).trans rfl
  clear g0 g1
  have HL := Aside0.mk (F_lit1 (heap_alloc_new W (.cells #[.int .i64 t.f0, .int .i64 t.f1, .slice A t.f2.length c] 46)) (Kd.F_below HF.out (below_alloc HB.out _)) hc)
  go_upto_region 2 with (go_at_call 77; refine (termAll_any g Ag cg [t] _ _ _ _ (Kd.C_below HG.out (below_alloc HB.out _)) HL.out).mono ?_; rintro e w2 ⟨rfl, hb2⟩; have HB2 := Aside0.mk (hbA (Below.refl _ W) _ hb2); clear hb2)
  have HB02 := Aside0.mk (hbT HB.out HB2.out)
  have hT2 := (HB2.out.block _ (blk_lt G1.out)).trans G1.out
  clear s0 t0 t1 t2
  have t0 := (blk_cell hT2 0).trans rfl
  have t1 := (blk_cell hT2 1).trans rfl
  have t2 := (blk_cell hT2 2).trans rfl
  clear hT2
  go_wp2_with (go_at_call 87; refine (count_any (szT t) t A c w2 120 (Nat.le_refl _) (Kd.F_now (Kd.F_below HF.out HB02.out)) (by omega) (by omega)).mono ?_; rintro e w3 ⟨rfl, hb3⟩; simp only [HSZ.out]; have HB3 := Aside0.mk hb3; clear hb3 t0 t1 t2)
  go_ret2
  exact ⟨rfl, hbT HB02.out HB3.out⟩
end Go.Proofs.Ytcgnpmjkeifokaa
-- K28
/- superposelaw.termBegun. -/
namespace Go.Proofs.Ytcgnpmjkeifokaa
open Go.RowKit Go.Proofs.YtcgnpmjkeifokaaW.PrintWords
set_option linter.unusedVariables false
set_option linter.unusedSimpArgs false

def tS : Tm := ⟨0, 1, [⟨2, 0, []⟩]⟩
def uS : Tm := ⟨0, 0, []⟩
def rS : Tm := ⟨0, 1, [⟨0, 0, []⟩]⟩
theorem putR_s : putR [0, 1] tS uS [0] = rS := by rfl
theorem putE_s : putE [0, 1] tS uS [0] = 0 := by rfl
theorem chk_rS : chkTs [0, 1] [rS] = 0 := by rfl
theorem chk_tS : chkTs [0, 1] [tS] = 0 := by rfl
theorem st_tS : stL [] [tS] = [2] := by rfl
theorem sz_rS : szT rS = 2 := by rfl
theorem sig_s : sigE [0, 1] = 0 := by rfl

/-- The cells of a term's own block. -/
theorem tm_cells {W : World} {g e : Nat} {a b : Int} {A : Option Addr} {n c : Nat} (h : W.heap[g]? = some (.cells #[.int .i64 a, .int .i64 b, .slice A n c] e (0, 0))) : W.cell? ⟨g, 0, none⟩ = some (.int .i64 a) ∧ W.cell? ⟨g, 1, none⟩ = some (.int .i64 b) ∧ W.cell? ⟨g, 2, none⟩ = some (.slice A n c) :=
  ⟨(blk_cell h 0).trans rfl, (blk_cell h 1).trans rfl, (blk_cell h 2).trans rfl⟩
theorem F_va {W : World} {gb : Nat} (n : Int) (hb : W.heap[gb]? = some (.cells #[.int .i64 n, .int .i64 0, .slice none 0 0] 46 (0, 0))) : Kd.F kTm W (fun k => k = gb) (some ⟨gb, 0, none⟩) 1 [⟨n, 0, []⟩] :=
  Kd.F_mono (F_lit1 (t := ⟨n, 0, []⟩) (ok := fun _ => False) hb (F_none _ _) (Nat.le_refl _)) (fun _ h => h.elim False.elim id)
theorem C_n {W : World} {gb : Nat} {x : Int} (hb : W.heap[gb]? = some (.cells #[.int .i64 x] 3 (0, 0))) : Kd.C (Kd.int .i64) W (some ⟨gb, 0, none⟩) 1 [x] := Kd.F_now (F_int1 hb)

theorem put_s (A1 : Option Addr) (b1 b2 : Nat) (w : World) (hG : Kd.C (Kd.int .i64) w A1 2 [0, 1]) (h1 : w.heap[b1]? = some (.cells #[.int .i64 2, .int .i64 0, .slice none 0 0] 46 (0, 0))) (h2 : w.heap[b2]? = some (.cells #[.int .i64 0] 3 (0, 0))) :
    Calls Try.prog 48 #[.agg #[.slice A1 2 2], .agg #[.int .i64 0, .int .i64 1, .slice (some ⟨b1, 0, none⟩) 1 1], .slice (some ⟨b2, 0, none⟩) 1 1, .agg #[.int .i64 0, .int .i64 0, .slice none 0 0]] w fun e w' => ∃ A' c', e = .returned (.tuple #[.agg #[.int .i64 0, .int .i64 1, .slice A' 1 c'], .int .i64 0]) ∧ 1 ≤ c' ∧ Kd.F kTm w' (fun k => w.heap.size ≤ k) A' 1 [⟨0, 0, []⟩] ∧ Below w.heap.size w w' := by
  have h := put_any [0, 1] A1 2 tS uS (some ⟨b1, 0, none⟩) none 1 0 [0] (some ⟨b2, 0, none⟩) 1 (fun k => k = b1) w hG (F_va 2 h1) (Nat.le_refl _) (F_none _ _) (Nat.le_refl _) (C_n h2) (Nat.le_refl _)
  rw [putR_s, putE_s] at h
  exact h
theorem vars_s (A1 : Option Addr) (b1 : Nat) (w : World) (hG : Kd.C (Kd.int .i64) w A1 2 [0, 1]) (h1 : w.heap[b1]? = some (.cells #[.int .i64 2, .int .i64 0, .slice none 0 0] 46 (0, 0))) :
    Calls Try.prog 37 #[.agg #[.slice A1 2 2], .agg #[.int .i64 0, .int .i64 1, .slice (some ⟨b1, 0, none⟩) 1 1]] w fun e w' => ∃ A' c', e = .returned (.tuple #[.slice A' 1 c', .int .i64 0]) ∧ Kd.C (Kd.int .i64) w' A' 1 [2] ∧ Below w.heap.size w w' :=
  vars1_any [0, 1] A1 2 tS (some ⟨b1, 0, none⟩) 1 _ w 2 hG (F_va 2 h1) (Nat.le_refl _) chk_tS st_tS
theorem size_s (A1 A : Option Addr) (c : Nat) (ok : Nat → Prop) (w : World) (hG : Kd.C (Kd.int .i64) w A1 2 [0, 1]) (hF : Kd.F kTm w ok A 1 [⟨0, 0, []⟩]) (hc : 1 ≤ c) :
    Calls Try.prog 36 #[.agg #[.slice A1 2 2], .agg #[.int .i64 0, .int .i64 1, .slice A 1 c]] w fun e w' => e = .returned (.tuple #[.int .i64 2, .int .i64 0]) ∧ Below w.heap.size w w' := by
  have h := size1_any [0, 1] A1 2 rS A c ok w hG hF hc chk_rS
  rw [sz_rS] at h
  exact h
theorem check_s (A1 A : Option Addr) (c : Nat) (ok : Nat → Prop) (w : World) (hG : Kd.C (Kd.int .i64) w A1 2 [0, 1]) (hF : Kd.F kTm w ok A 1 [⟨0, 0, []⟩]) (hc : 1 ≤ c) :
    Calls Try.prog 45 #[.agg #[.slice A1 2 2], .agg #[.int .i64 0, .int .i64 1, .slice A 1 c]] w fun e w' => e = .returned (.int .i64 0) ∧ Below w.heap.size w w' := by
  have h := termCheck_any [0, 1] A1 2 rS A c ok w hG hF hc
  rw [chk_rS] at h
  exact h
theorem sign_s (A1 : Option Addr) (w : World) (hG : Kd.C (Kd.int .i64) w A1 2 [0, 1]) :
    Calls Try.prog 43 #[.agg #[.slice A1 2 2]] w fun e w' => e = .returned (.int .i64 0) ∧ Below w.heap.size w w' := by
  have h := signature_any [0, 1] A1 2 w hG
  rw [sig_s] at h
  exact h
theorem same_s (A : Option Addr) (c b : Nat) (ok : Nat → Prop) (w : World) (hF : Kd.F kTm w ok A 1 [⟨0, 0, []⟩]) (hc : 1 ≤ c) (h1 : w.heap[b]? = some (.cells #[.int .i64 0, .int .i64 0, .slice none 0 0] 46 (0, 0))) :
    Calls Try.prog 33 #[.agg #[.int .i64 0, .int .i64 1, .slice A 1 c], .agg #[.int .i64 0, .int .i64 1, .slice (some ⟨b, 0, none⟩) 1 1]] w fun e w' => e = .returned (.bool true) ∧ Below w.heap.size w w' := by
  have h := sameTerm_any (szT rS) rS rS A (some ⟨b, 0, none⟩) c 1 ok (fun k => k = b) w (Nat.le_refl _) hF hc (F_va 0 h1) (Nat.le_refl _)
  rw [eqT_refl] at h
  exact h
end Go.Proofs.Ytcgnpmjkeifokaa
-- K29
/- superposelaw.termBegun. -/
namespace Go.Proofs.Ytcgnpmjkeifokaa
open Go.RowKit Go.Proofs.YtcgnpmjkeifokaaW.PrintWords
set_option linter.unusedVariables false
set_option linter.unusedSimpArgs false

set_option maxHeartbeats 4000000 in
set_option maxRecDepth 100000 in
theorem termBegun_any (w : World) : Calls Try.prog 42 #[] w fun e w' => e = .returned (.bool true) ∧ Below w.heap.size w w' := by
  go_enter Try.func42, Try.ntmps42
  go_wp2_with (fail)
  refine (small_any _).mono ?_
  rintro e w1 ⟨A1, rfl, hC1, hb1⟩
  have HB1 := Aside0.mk hb1
  have HC1 := Aside0.mk hC1
  clear hC1 hb1
  go_wp2_with (fail)
  refine (va_any 2 _).mono ?_
  rintro e w2 ⟨rfl, hb2⟩
  have HB2 := Aside0.mk (hbT HB1.out hb2)
  have HC2 := Aside0.mk (Kd.C_below HC1.out hb2)
  clear hb2
  go_wp2_with (fail)
  refine (fn_any 1 _ _ _ _).mono ?_
  rintro e w3 ⟨rfl, hb3⟩
  have HB23 := Aside0.mk (hbA (Below.refl _ w2) _ hb3)
  have HN3 := Aside0.mk ((hb3.block w2.heap.size (by simp)).trans (heap_alloc_new w2 (.cells #[.int .i64 2, .int .i64 0, .slice none 0 0] 46)))
  clear hb3
  go_wp2_with (fail)
  refine (fn_any 0 _ _ _ _).mono ?_
  rintro e w4 ⟨rfl, hb4⟩
  have HB34 := Aside0.mk (hbA (Below.refl _ w3) _ hb4)
  have HN4 := Aside0.mk ((hb4.block w3.heap.size (by simp)).trans (heap_alloc_new w3 (.cells #[.int .i64 0] 3)))
  clear hb4
  have HB4 := Aside0.mk (hbT (hbT HB2.out HB23.out) HB34.out)
  have HC4 := Aside0.mk (Kd.C_below HC2.out (hbT HB23.out HB34.out))
  have HM4 := Aside0.mk ((HB34.out.block _ (blk_lt HN3.out)).trans HN3.out)
  go_wp2_with (fail)
  refine (put_s A1 _ _ w4 HC4.out HM4.out HN4.out).mono ?_
  rintro e w5 ⟨A5, c5, rfl, hc5, hF5, hb5⟩
  have HF5 := Aside0.mk hF5
  have HB5 := Aside0.mk (hbT HB4.out hb5)
  clear hF5 hb5
  go_upto_region 2 with (((with_reducible refine gate_store (t := 46) (p := 1) rfl ?_); refine st_tm 1 rfl rfl rfl rfl rfl (heap_alloc_new _ _) ?_); intro w6 hs6 hG6 hz6; have HS6 := Aside0.mk hs6; have HG6 := Aside0.mk hG6; have HB56 := Aside0.mk (gbS (below_alloc (Below.refl w5.heap.size w5) _) hG6 (Nat.le_refl _)); clear hs6 hG6 hz6)
  have HB6 := Aside0.mk (hbT HB5.out HB56.out)
  have HF6 := Aside0.mk (Kd.F_below (Kd.F_bound HF5.out) HB56.out)
  obtain ⟨c0, c1, c2⟩ := tm_cells HS6.out
  have k0 := fun (w' : World) (h : Below w6.heap.size w6 w') => oldc h c0
  have k1 := fun (w' : World) (h : Below w6.heap.size w6 w') => oldc h c1
  have k2 := fun (w' : World) (h : Below w6.heap.size w6 w') => oldc h c2
  refine hd_region 8 0 (fun w' => Below w6.heap.size w6 w') (by kernel_rfl) rfl ?_ (fun _ h => h)
  intro W7 hb7 hz7 hHeld
  clear hb7 hz7
  (refine hd_take (i := 1) (oi := ?oi2) (v := ?v2) ?hi2 (by kernel_rfl) (by kernel_rfl) (by kernel_rfl) (by kernel_rfl) (by decide) ?hq2 ?hw2 ?hy2 hHeld ?hr2; (case hi2 => (simp only [List.getElem?_toArray, List.getElem?_cons_succ, List.getElem?_cons_zero]; rfl)); (case hw2 => rfl); (case hy2 => (intro w hSw; go_simp; try with_reducible rfl)); (case hq2 => exact fun _ _ _ h => h); simp only [Act.put, List.setIfInBounds_toArray, List.set_cons_zero, List.set_cons_succ])
  (refine hd_one (i := 0) (oi := ?oi4) ?hi4 (by kernel_rfl) (by decide) ?hr4; (case hi4 => (simp only [List.getElem?_toArray, List.getElem?_cons_succ, List.getElem?_cons_zero]; rfl)); intro K hK)
  go_simp
  go_at_call 63
  refine (small_any _).mono ?_
  rintro e w8 ⟨A8, rfl, hC8, hb8⟩
  have HC8 := Aside0.mk hC8
  clear hC8
  go_simp
  (refine hK.out _ _ ?hS6 (fun hHeld => ?hr6); (case hS6 => exact hbT hHeld hb8); clear hK K; try simp only [Act.put, List.setIfInBounds_toArray, List.set_cons_zero, List.set_cons_succ])
  (refine hd_one (i := 2) (oi := ?oi7) ?hi7 (by kernel_rfl) (by decide) ?hr7; (case hi7 => (simp only [List.getElem?_toArray, List.getElem?_cons_succ, List.getElem?_cons_zero]; rfl)); intro K hK)
  go_simp
  go_at_call 36
  refine (size_s A8 A5 c5 _ _ HC8.out (Kd.F_below HF6.out hHeld) hc5).mono ?_
  rintro e w9 ⟨rfl, hb9⟩
  go_simp
  (refine hK.out _ _ ?hS9 (fun hHeld => ?hr9); (case hS9 => exact hbT hHeld hb9); clear hK K; try simp only [Act.put, List.setIfInBounds_toArray, List.set_cons_zero, List.set_cons_succ])
  (refine hd_take (i := 3) (oi := ?oi10) (v := ?v10) ?hi10 (by kernel_rfl) (by kernel_rfl) (by kernel_rfl) (by kernel_rfl) (by decide) ?hq10 ?hw10 ?hy10 hHeld ?hr10; (case hi10 => (simp only [List.getElem?_toArray, List.getElem?_cons_succ, List.getElem?_cons_zero]; rfl)); (case hw10 => rfl); (case hy10 => (intro w hSw; go_simp; try with_reducible rfl)); (case hq10 => exact fun _ _ _ h => h); simp only [Act.put, List.setIfInBounds_toArray, List.set_cons_zero, List.set_cons_succ])
  (refine hd_take (i := 4) (oi := ?oi12) (v := ?v12) ?hi12 (by kernel_rfl) (by kernel_rfl) (by kernel_rfl) (by kernel_rfl) (by decide) ?hq12 ?hw12 ?hy12 hHeld ?hr12; (case hi12 => (simp only [List.getElem?_toArray, List.getElem?_cons_succ, List.getElem?_cons_zero]; rfl)); (case hw12 => rfl); (case hy12 => (intro w hSw; go_simp; try with_reducible rfl)); (case hq12 => exact fun _ _ _ h => h); simp only [Act.put, List.setIfInBounds_toArray, List.set_cons_zero, List.set_cons_succ])
  (refine hd_take (i := 5) (oi := ?oi14) (v := ?v14) ?hi14 (by kernel_rfl) (by kernel_rfl) (by kernel_rfl) (by kernel_rfl) (by decide) ?hq14 ?hw14 ?hy14 hHeld ?hr14; (case hi14 => (simp only [List.getElem?_toArray, List.getElem?_cons_succ, List.getElem?_cons_zero]; rfl)); (case hw14 => rfl); (case hy14 => (intro w hSw; go_simp; try with_reducible rfl)); (case hq14 => exact fun _ _ _ h => h); simp only [Act.put, List.setIfInBounds_toArray, List.set_cons_zero, List.set_cons_succ])
  (refine hd_one (i := 6) (oi := ?oi16) ?hi16 (by kernel_rfl) (by decide) ?hr16; (case hi16 => (simp only [List.getElem?_toArray, List.getElem?_cons_succ, List.getElem?_cons_zero]; rfl)); intro K hK)
  go_simp
  (refine hK.out _ _ ?hS18 (fun hHeld => ?hr18); (case hS18 => exact hHeld); clear hK K; try simp only [Act.put, List.setIfInBounds_toArray, List.set_cons_zero, List.set_cons_succ])
  (refine hd_one (i := 7) (oi := ?oi19) ?hi19 (by kernel_rfl) (by decide) ?hr19; (case hi19 => (simp only [List.getElem?_toArray, List.getElem?_cons_succ, List.getElem?_cons_zero]; rfl)); intro K hK)
  go_simp
  (refine hK.out _ _ ?hS21 (fun hHeld => ?hr21); (case hS21 => exact hHeld); clear hK K; try simp only [Act.put, List.setIfInBounds_toArray, List.set_cons_zero, List.set_cons_succ])
  (refine hd_done (by kernel_rfl) ?_; simp only [List.drop_succ_cons, List.drop_zero])
  have HB69 := Aside0.mk hHeld
  clear hHeld k0 k1 k2 c0 c1 c2 HC8
  go_wp2_with (fail)
  refine (small_any _).mono ?_
  rintro e w10 ⟨A10, rfl, hC10, hb10⟩
  have HC10 := Aside0.mk hC10
  have HB10 := Aside0.mk (hbT HB69.out hb10)
  clear hC10 hb10
  go_wp2_with (fail)
  refine (va_any 2 _).mono ?_
  rintro e w11 ⟨rfl, hb11⟩
  have HC11 := Aside0.mk (Kd.C_below HC10.out hb11)
  have HB11 := Aside0.mk (hbT HB10.out hb11)
  clear hb11
  go_wp2_with (fail)
  refine (fn_any 1 _ _ _ _).mono ?_
  rintro e w12 ⟨rfl, hb12⟩
  have HN12 := Aside0.mk ((hb12.block w11.heap.size (by simp)).trans (heap_alloc_new w11 (.cells #[.int .i64 2, .int .i64 0, .slice none 0 0] 46)))
  have HB112 := Aside0.mk (hbA (Below.refl _ w11) _ hb12)
  have HB12 := Aside0.mk (hbT HB11.out HB112.out)
  have HC12 := Aside0.mk (Kd.C_below HC11.out HB112.out)
  clear hb12
  go_wp2_with (fail)
  refine (vars_s A10 _ w12 HC12.out HN12.out).mono ?_
  rintro e w13 ⟨A13, c13, rfl, hC13, hb13⟩
  obtain ⟨ad, rfl, ea⟩ := at_Int hC13 0 (by omega) (by omega)
  have ea2 : w13.cell? ad = some (.int .i64 2) := ea
  have HB13 := Aside0.mk (hbT HB12.out hb13)
  clear hb13 hC13
  go_upto_region 4 with (fail)
  have HS13 := Aside0.mk ((HB13.out.block _ (blk_lt HS6.out)).trans HS6.out)
  have HF13 := Aside0.mk (Kd.F_below HF6.out HB13.out)
  obtain ⟨c0, c1, c2⟩ := tm_cells HS13.out
  have k0 := fun (w' : World) (h : Below w13.heap.size w13 w') => oldc h c0
  have k1 := fun (w' : World) (h : Below w13.heap.size w13 w') => oldc h c1
  have k2 := fun (w' : World) (h : Below w13.heap.size w13 w') => oldc h c2
  have k3 := fun (w' : World) (h : Below w13.heap.size w13 w') => oldc h ea2
  clear c0 c1 c2 ea ea2
  refine hd_region 43 1 (fun w' => Below w13.heap.size w13 w') (by kernel_rfl) rfl ?_ (fun _ h => h)
  intro W14 hb14 hz14 hHeld
  clear hb14 hz14
  (refine hd_take (i := 0) (oi := ?oi23) (v := ?v23) ?hi23 (by kernel_rfl) (by kernel_rfl) (by kernel_rfl) (by kernel_rfl) (by decide) ?hq23 ?hw23 ?hy23 hHeld ?hr23; (case hi23 => (simp only [List.getElem?_toArray, List.getElem?_cons_succ, List.getElem?_cons_zero]; rfl)); (case hw23 => rfl); (case hy23 => (intro w hSw; go_simp; try with_reducible rfl)); (case hq23 => exact fun _ _ _ h => h); simp only [Act.put, List.setIfInBounds_toArray, List.set_cons_zero, List.set_cons_succ])
  (refine hd_take (i := 1) (oi := ?oi25) (v := ?v25) ?hi25 (by kernel_rfl) (by kernel_rfl) (by kernel_rfl) (by kernel_rfl) (by decide) ?hq25 ?hw25 ?hy25 hHeld ?hr25; (case hi25 => (simp only [List.getElem?_toArray, List.getElem?_cons_succ, List.getElem?_cons_zero]; rfl)); (case hw25 => rfl); (case hy25 => (intro w hSw; go_simp; try with_reducible rfl)); (case hq25 => exact fun _ _ _ h => h); simp only [Act.put, List.setIfInBounds_toArray, List.set_cons_zero, List.set_cons_succ])
  (refine hd_take (i := 2) (oi := ?oi27) (v := ?v27) ?hi27 (by kernel_rfl) (by kernel_rfl) (by kernel_rfl) (by kernel_rfl) (by decide) ?hq27 ?hw27 ?hy27 hHeld ?hr27; (case hi27 => (simp only [List.getElem?_toArray, List.getElem?_cons_succ, List.getElem?_cons_zero]; rfl)); (case hw27 => rfl); (case hy27 => (intro w hSw; go_simp; try with_reducible rfl)); (case hq27 => exact fun _ _ _ h => h); simp only [Act.put, List.setIfInBounds_toArray, List.set_cons_zero, List.set_cons_succ])
  (refine hd_take (i := 3) (oi := ?oi29) (v := ?v29) ?hi29 (by kernel_rfl) (by kernel_rfl) (by kernel_rfl) (by kernel_rfl) (by decide) ?hq29 ?hw29 ?hy29 hHeld ?hr29; (case hi29 => (simp only [List.getElem?_toArray, List.getElem?_cons_succ, List.getElem?_cons_zero]; rfl)); (case hw29 => rfl); (case hy29 => (intro w hSw; go_simp; try with_reducible rfl)); (case hq29 => exact fun _ _ _ h => h); simp only [Act.put, List.setIfInBounds_toArray, List.set_cons_zero, List.set_cons_succ])
  (refine hd_take (i := 4) (oi := ?oi31) (v := ?v31) ?hi31 (by kernel_rfl) (by kernel_rfl) (by kernel_rfl) (by kernel_rfl) (by decide) ?hq31 ?hw31 ?hy31 hHeld ?hr31; (case hi31 => (simp only [List.getElem?_toArray, List.getElem?_cons_succ, List.getElem?_cons_zero]; rfl)); (case hw31 => rfl); (case hy31 => (intro w hSw; go_simp; try with_reducible rfl)); (case hq31 => exact fun _ _ _ h => h); simp only [Act.put, List.setIfInBounds_toArray, List.set_cons_zero, List.set_cons_succ])
  (refine hd_take (i := 5) (oi := ?oi33) (v := ?v33) ?hi33 (by kernel_rfl) (by kernel_rfl) (by kernel_rfl) (by kernel_rfl) (by decide) ?hq33 ?hw33 ?hy33 hHeld ?hr33; (case hi33 => (simp only [List.getElem?_toArray, List.getElem?_cons_succ, List.getElem?_cons_zero]; rfl)); (case hw33 => rfl); (case hy33 => (intro w hSw; go_simp; try with_reducible rfl)); (case hq33 => exact fun _ _ _ h => h); simp only [Act.put, List.setIfInBounds_toArray, List.set_cons_zero, List.set_cons_succ])
  (refine hd_take (i := 6) (oi := ?oi35) (v := ?v35) ?hi35 (by kernel_rfl) (by kernel_rfl) (by kernel_rfl) (by kernel_rfl) (by decide) ?hq35 ?hw35 ?hy35 hHeld ?hr35; (case hi35 => (simp only [List.getElem?_toArray, List.getElem?_cons_succ, List.getElem?_cons_zero]; rfl)); (case hw35 => rfl); (case hy35 => (intro w hSw; go_simp; try with_reducible rfl)); (case hq35 => exact fun _ _ _ h => h); simp only [Act.put, List.setIfInBounds_toArray, List.set_cons_zero, List.set_cons_succ])
  (refine hd_take (i := 7) (oi := ?oi37) (v := ?v37) ?hi37 (by kernel_rfl) (by kernel_rfl) (by kernel_rfl) (by kernel_rfl) (by decide) ?hq37 ?hw37 ?hy37 hHeld ?hr37; (case hi37 => (simp only [List.getElem?_toArray, List.getElem?_cons_succ, List.getElem?_cons_zero]; rfl)); (case hw37 => rfl); (case hy37 => (intro w hSw; go_simp; try with_reducible rfl)); (case hq37 => exact fun _ _ _ h => h); simp only [Act.put, List.setIfInBounds_toArray, List.set_cons_zero, List.set_cons_succ])
  (refine hd_take (i := 8) (oi := ?oi39) (v := ?v39) ?hi39 (by kernel_rfl) (by kernel_rfl) (by kernel_rfl) (by kernel_rfl) (by decide) ?hq39 ?hw39 ?hy39 hHeld ?hr39; (case hi39 => (simp only [List.getElem?_toArray, List.getElem?_cons_succ, List.getElem?_cons_zero]; rfl)); (case hw39 => rfl); (case hy39 => (intro w hSw; go_simp; try with_reducible rfl)); (case hq39 => exact fun _ _ _ h => h); simp only [Act.put, List.setIfInBounds_toArray, List.set_cons_zero, List.set_cons_succ])
  (refine hd_take (i := 9) (oi := ?oi41) (v := ?v41) ?hi41 (by kernel_rfl) (by kernel_rfl) (by kernel_rfl) (by kernel_rfl) (by decide) ?hq41 ?hw41 ?hy41 hHeld ?hr41; (case hi41 => (simp only [List.getElem?_toArray, List.getElem?_cons_succ, List.getElem?_cons_zero]; rfl)); (case hw41 => rfl); (case hy41 => (intro w hSw; go_simp; try with_reducible rfl)); (case hq41 => exact fun _ _ _ h => h); simp only [Act.put, List.setIfInBounds_toArray, List.set_cons_zero, List.set_cons_succ])
  (refine hd_take (i := 10) (oi := ?oi43) (v := ?v43) ?hi43 (by kernel_rfl) (by kernel_rfl) (by kernel_rfl) (by kernel_rfl) (by decide) ?hq43 ?hw43 ?hy43 hHeld ?hr43; (case hi43 => (simp only [List.getElem?_toArray, List.getElem?_cons_succ, List.getElem?_cons_zero]; rfl)); (case hw43 => rfl); (case hy43 => (intro w hSw; go_simp; try with_reducible rfl)); (case hq43 => exact fun _ _ _ h => h); simp only [Act.put, List.setIfInBounds_toArray, List.set_cons_zero, List.set_cons_succ])
  (refine hd_take (i := 11) (oi := ?oi45) (v := ?v45) ?hi45 (by kernel_rfl) (by kernel_rfl) (by kernel_rfl) (by kernel_rfl) (by decide) ?hq45 ?hw45 ?hy45 hHeld ?hr45; (case hi45 => (simp only [List.getElem?_toArray, List.getElem?_cons_succ, List.getElem?_cons_zero]; rfl)); (case hw45 => rfl); (case hy45 => (intro w hSw; go_simp; try with_reducible rfl)); (case hq45 => exact fun _ _ _ h => h); simp only [Act.put, List.setIfInBounds_toArray, List.set_cons_zero, List.set_cons_succ])
  (refine hd_take (i := 12) (oi := ?oi47) (v := ?v47) ?hi47 (by kernel_rfl) (by kernel_rfl) (by kernel_rfl) (by kernel_rfl) (by decide) ?hq47 ?hw47 ?hy47 hHeld ?hr47; (case hi47 => (simp only [List.getElem?_toArray, List.getElem?_cons_succ, List.getElem?_cons_zero]; rfl)); (case hw47 => rfl); (case hy47 => (intro w hSw; go_simp; try with_reducible rfl)); (case hq47 => exact fun _ _ _ h => h); simp only [Act.put, List.setIfInBounds_toArray, List.set_cons_zero, List.set_cons_succ])
  (refine hd_take (i := 13) (oi := ?oi49) (v := ?v49) ?hi49 (by kernel_rfl) (by kernel_rfl) (by kernel_rfl) (by kernel_rfl) (by decide) ?hq49 ?hw49 ?hy49 hHeld ?hr49; (case hi49 => (simp only [List.getElem?_toArray, List.getElem?_cons_succ, List.getElem?_cons_zero]; rfl)); (case hw49 => rfl); (case hy49 => (intro w hSw; go_simp; try with_reducible rfl)); (case hq49 => exact fun _ _ _ h => h); simp only [Act.put, List.setIfInBounds_toArray, List.set_cons_zero, List.set_cons_succ])
  (refine hd_take (i := 14) (oi := ?oi51) (v := ?v51) ?hi51 (by kernel_rfl) (by kernel_rfl) (by kernel_rfl) (by kernel_rfl) (by decide) ?hq51 ?hw51 ?hy51 hHeld ?hr51; (case hi51 => (simp only [List.getElem?_toArray, List.getElem?_cons_succ, List.getElem?_cons_zero]; rfl)); (case hw51 => rfl); (case hy51 => (intro w hSw; go_simp; try with_reducible rfl)); (case hq51 => exact fun _ _ _ h => h); simp only [Act.put, List.setIfInBounds_toArray, List.set_cons_zero, List.set_cons_succ])
  (refine hd_take (i := 15) (oi := ?oi53) (v := ?v53) ?hi53 (by kernel_rfl) (by kernel_rfl) (by kernel_rfl) (by kernel_rfl) (by decide) ?hq53 ?hw53 ?hy53 hHeld ?hr53; (case hi53 => (simp only [List.getElem?_toArray, List.getElem?_cons_succ, List.getElem?_cons_zero]; rfl)); (case hw53 => rfl); (case hy53 => (intro w hSw; go_simp; try with_reducible rfl)); (case hq53 => exact fun _ _ _ h => h); simp only [Act.put, List.setIfInBounds_toArray, List.set_cons_zero, List.set_cons_succ])
  (refine hd_one (i := 16) (oi := ?oi55) ?hi55 (by kernel_rfl) (by decide) ?hr55; (case hi55 => (simp only [List.getElem?_toArray, List.getElem?_cons_succ, List.getElem?_cons_zero]; rfl)); intro K hK)
  go_simp
  go_at_call 62
  refine (fn_any 0 _ _ _ _).mono ?_
  rintro e w15 ⟨rfl, hb15⟩
  go_simp
  (refine hK.out _ _ ?hS57 (fun hHeld => ?hr57); (case hS57 => exact hbT hHeld hb15); clear hK K; try simp only [Act.put, List.setIfInBounds_toArray, List.set_cons_zero, List.set_cons_succ])
  (refine hd_one (i := 17) (oi := ?oi58) ?hi58 (by kernel_rfl) (by decide) ?hr58; (case hi58 => (simp only [List.getElem?_toArray, List.getElem?_cons_succ, List.getElem?_cons_zero]; rfl)); intro K hK)
  go_simp
  (refine hK.out _ _ ?hS60 (fun hHeld => ?hr60); (case hS60 => exact below_alloc hHeld _); clear hK K; try simp only [Act.put, List.setIfInBounds_toArray, List.set_cons_zero, List.set_cons_succ])
  have HN15 := Aside0.mk (heap_alloc_new w15 (.cells #[.int .i64 0, .int .i64 0, .slice none 0 0] 46))
  (refine hd_one (i := 18) (oi := ?oi61) ?hi61 (by kernel_rfl) (by decide) ?hr61; (case hi61 => (simp only [List.getElem?_toArray, List.getElem?_cons_succ, List.getElem?_cons_zero]; rfl)); intro K hK)
  go_simp
  go_at_call 62
  refine (fn_any 1 _ _ _ _).mono ?_
  rintro e w16 ⟨rfl, hb16⟩
  have HN16 := Aside0.mk ((hb16.block w15.heap.size (by simp)).trans HN15.out)
  go_simp
  (refine hK.out _ _ ?hS63 (fun hHeld => ?hr63); (case hS63 => exact hbT hHeld hb16); clear hK K; try simp only [Act.put, List.setIfInBounds_toArray, List.set_cons_zero, List.set_cons_succ])
  (refine hd_one (i := 19) (oi := ?oi64) ?hi64 (by kernel_rfl) (by decide) ?hr64; (case hi64 => (simp only [List.getElem?_toArray, List.getElem?_cons_succ, List.getElem?_cons_zero]; rfl)); intro K hK)
  go_simp
  go_at_call 33
  refine (same_s A5 c5 _ _ w16 (Kd.F_below HF13.out hHeld) hc5 HN16.out).mono ?_
  rintro e w17 ⟨rfl, hb17⟩
  go_simp
  (refine hK.out _ _ ?hS66 (fun hHeld => ?hr66); (case hS66 => exact hbT hHeld hb17); clear hK K; try simp only [Act.put, List.setIfInBounds_toArray, List.set_cons_zero, List.set_cons_succ])
  (refine hd_take (i := 20) (oi := ?oi67) (v := ?v67) ?hi67 (by kernel_rfl) (by kernel_rfl) (by kernel_rfl) (by kernel_rfl) (by decide) ?hq67 ?hw67 ?hy67 hHeld ?hr67; (case hi67 => (simp only [List.getElem?_toArray, List.getElem?_cons_succ, List.getElem?_cons_zero]; rfl)); (case hw67 => rfl); (case hy67 => (intro w hSw; go_simp; try with_reducible rfl)); (case hq67 => exact fun _ _ _ h => h); simp only [Act.put, List.setIfInBounds_toArray, List.set_cons_zero, List.set_cons_succ])
  (refine hd_take (i := 21) (oi := ?oi69) (v := ?v69) ?hi69 (by kernel_rfl) (by kernel_rfl) (by kernel_rfl) (by kernel_rfl) (by decide) ?hq69 ?hw69 ?hy69 hHeld ?hr69; (case hi69 => (simp only [List.getElem?_toArray, List.getElem?_cons_succ, List.getElem?_cons_zero]; rfl)); (case hw69 => rfl); (case hy69 => (intro w hSw; go_simp; try with_reducible rfl)); (case hq69 => exact fun _ _ _ h => h); simp only [Act.put, List.setIfInBounds_toArray, List.set_cons_zero, List.set_cons_succ])
  (refine hd_take (i := 22) (oi := ?oi71) (v := ?v71) ?hi71 (by kernel_rfl) (by kernel_rfl) (by kernel_rfl) (by kernel_rfl) (by decide) ?hq71 ?hw71 ?hy71 hHeld ?hr71; (case hi71 => (simp only [List.getElem?_toArray, List.getElem?_cons_succ, List.getElem?_cons_zero]; rfl)); (case hw71 => rfl); (case hy71 => (intro w hSw; go_simp; try with_reducible rfl)); (case hq71 => exact fun _ _ _ h => h); simp only [Act.put, List.setIfInBounds_toArray, List.set_cons_zero, List.set_cons_succ])
  (refine hd_take (i := 23) (oi := ?oi73) (v := ?v73) ?hi73 (by kernel_rfl) (by kernel_rfl) (by kernel_rfl) (by kernel_rfl) (by decide) ?hq73 ?hw73 ?hy73 hHeld ?hr73; (case hi73 => (simp only [List.getElem?_toArray, List.getElem?_cons_succ, List.getElem?_cons_zero]; rfl)); (case hw73 => rfl); (case hy73 => (intro w hSw; go_simp; try with_reducible rfl)); (case hq73 => exact fun _ _ _ h => h); simp only [Act.put, List.setIfInBounds_toArray, List.set_cons_zero, List.set_cons_succ])
  (refine hd_take (i := 24) (oi := ?oi75) (v := ?v75) ?hi75 (by kernel_rfl) (by kernel_rfl) (by kernel_rfl) (by kernel_rfl) (by decide) ?hq75 ?hw75 ?hy75 hHeld ?hr75; (case hi75 => (simp only [List.getElem?_toArray, List.getElem?_cons_succ, List.getElem?_cons_zero]; rfl)); (case hw75 => rfl); (case hy75 => (intro w hSw; go_simp; try with_reducible rfl)); (case hq75 => exact fun _ _ _ h => h); simp only [Act.put, List.setIfInBounds_toArray, List.set_cons_zero, List.set_cons_succ])
  (refine hd_take (i := 25) (oi := ?oi77) (v := ?v77) ?hi77 (by kernel_rfl) (by kernel_rfl) (by kernel_rfl) (by kernel_rfl) (by decide) ?hq77 ?hw77 ?hy77 hHeld ?hr77; (case hi77 => (simp only [List.getElem?_toArray, List.getElem?_cons_succ, List.getElem?_cons_zero]; rfl)); (case hw77 => rfl); (case hy77 => (intro w hSw; go_simp; try with_reducible rfl)); (case hq77 => exact fun _ _ _ h => h); simp only [Act.put, List.setIfInBounds_toArray, List.set_cons_zero, List.set_cons_succ])
  (refine hd_take (i := 26) (oi := ?oi79) (v := ?v79) ?hi79 (by kernel_rfl) (by kernel_rfl) (by kernel_rfl) (by kernel_rfl) (by decide) ?hq79 ?hw79 ?hy79 hHeld ?hr79; (case hi79 => (simp only [List.getElem?_toArray, List.getElem?_cons_succ, List.getElem?_cons_zero]; rfl)); (case hw79 => rfl); (case hy79 => (intro w hSw; go_simp; try with_reducible rfl)); (case hq79 => exact fun _ _ _ h => h); simp only [Act.put, List.setIfInBounds_toArray, List.set_cons_zero, List.set_cons_succ])
  (refine hd_take (i := 27) (oi := ?oi81) (v := ?v81) ?hi81 (by kernel_rfl) (by kernel_rfl) (by kernel_rfl) (by kernel_rfl) (by decide) ?hq81 ?hw81 ?hy81 hHeld ?hr81; (case hi81 => (simp only [List.getElem?_toArray, List.getElem?_cons_succ, List.getElem?_cons_zero]; rfl)); (case hw81 => rfl); (case hy81 => (intro w hSw; go_simp; try with_reducible rfl)); (case hq81 => exact fun _ _ _ h => h); simp only [Act.put, List.setIfInBounds_toArray, List.set_cons_zero, List.set_cons_succ])
  (refine hd_take (i := 28) (oi := ?oi83) (v := ?v83) ?hi83 (by kernel_rfl) (by kernel_rfl) (by kernel_rfl) (by kernel_rfl) (by decide) ?hq83 ?hw83 ?hy83 hHeld ?hr83; (case hi83 => (simp only [List.getElem?_toArray, List.getElem?_cons_succ, List.getElem?_cons_zero]; rfl)); (case hw83 => rfl); (case hy83 => (intro w hSw; go_simp; try with_reducible rfl)); (case hq83 => exact fun _ _ _ h => h); simp only [Act.put, List.setIfInBounds_toArray, List.set_cons_zero, List.set_cons_succ])
  (refine hd_take (i := 29) (oi := ?oi85) (v := ?v85) ?hi85 (by kernel_rfl) (by kernel_rfl) (by kernel_rfl) (by kernel_rfl) (by decide) ?hq85 ?hw85 ?hy85 hHeld ?hr85; (case hi85 => (simp only [List.getElem?_toArray, List.getElem?_cons_succ, List.getElem?_cons_zero]; rfl)); (case hw85 => rfl); (case hy85 => (intro w hSw; go_simp; try with_reducible rfl)); (case hq85 => exact fun _ _ _ h => h); simp only [Act.put, List.setIfInBounds_toArray, List.set_cons_zero, List.set_cons_succ])
  (refine hd_take (i := 30) (oi := ?oi87) (v := ?v87) ?hi87 (by kernel_rfl) (by kernel_rfl) (by kernel_rfl) (by kernel_rfl) (by decide) ?hq87 ?hw87 ?hy87 hHeld ?hr87; (case hi87 => (simp only [List.getElem?_toArray, List.getElem?_cons_succ, List.getElem?_cons_zero]; rfl)); (case hw87 => rfl); (case hy87 => (intro w hSw; go_simp; try with_reducible rfl)); (case hq87 => exact fun _ _ _ h => h); simp only [Act.put, List.setIfInBounds_toArray, List.set_cons_zero, List.set_cons_succ])
  (refine hd_take (i := 31) (oi := ?oi89) (v := ?v89) ?hi89 (by kernel_rfl) (by kernel_rfl) (by kernel_rfl) (by kernel_rfl) (by decide) ?hq89 ?hw89 ?hy89 hHeld ?hr89; (case hi89 => (simp only [List.getElem?_toArray, List.getElem?_cons_succ, List.getElem?_cons_zero]; rfl)); (case hw89 => rfl); (case hy89 => (intro w hSw; go_simp; try with_reducible rfl)); (case hq89 => exact fun _ _ _ h => h); simp only [Act.put, List.setIfInBounds_toArray, List.set_cons_zero, List.set_cons_succ])
  (refine hd_take (i := 32) (oi := ?oi91) (v := ?v91) ?hi91 (by kernel_rfl) (by kernel_rfl) (by kernel_rfl) (by kernel_rfl) (by decide) ?hq91 ?hw91 ?hy91 hHeld ?hr91; (case hi91 => (simp only [List.getElem?_toArray, List.getElem?_cons_succ, List.getElem?_cons_zero]; rfl)); (case hw91 => rfl); (case hy91 => (intro w hSw; go_simp; try with_reducible rfl)); (case hq91 => exact fun _ _ _ h => h); simp only [Act.put, List.setIfInBounds_toArray, List.set_cons_zero, List.set_cons_succ])
  (refine hd_take (i := 34) (oi := ?oi93) (v := ?v93) ?hi93 (by kernel_rfl) (by kernel_rfl) (by kernel_rfl) (by kernel_rfl) (by decide) ?hq93 ?hw93 ?hy93 hHeld ?hr93; (case hi93 => (simp only [List.getElem?_toArray, List.getElem?_cons_succ, List.getElem?_cons_zero]; rfl)); (case hw93 => rfl); (case hy93 => (intro w hSw; go_simp; try with_reducible rfl)); (case hq93 => exact fun _ _ _ h => h); simp only [Act.put, List.setIfInBounds_toArray, List.set_cons_zero, List.set_cons_succ])
  (refine hd_one (i := 33) (oi := ?oi95) ?hi95 (by kernel_rfl) (by decide) ?hr95; (case hi95 => (simp only [List.getElem?_toArray, List.getElem?_cons_succ, List.getElem?_cons_zero]; rfl)); intro K hK)
  go_simp
  go_at_call 63
  refine (small_any _).mono ?_
  rintro e w18 ⟨A18, rfl, hC18, hb18⟩
  have HC18 := Aside0.mk hC18
  clear hC18
  go_simp
  (refine hK.out _ _ ?hS97 (fun hHeld => ?hr97); (case hS97 => exact hbT hHeld hb18); clear hK K; try simp only [Act.put, List.setIfInBounds_toArray, List.set_cons_zero, List.set_cons_succ])
  (refine hd_one (i := 35) (oi := ?oi98) ?hi98 (by kernel_rfl) (by decide) ?hr98; (case hi98 => (simp only [List.getElem?_toArray, List.getElem?_cons_succ, List.getElem?_cons_zero]; rfl)); intro K hK)
  go_simp
  go_at_call 45
  refine (check_s A18 A5 c5 _ _ HC18.out (Kd.F_below HF13.out hHeld) hc5).mono ?_
  rintro e w19 ⟨rfl, hb19⟩
  go_simp
  (refine hK.out _ _ ?hS100 (fun hHeld => ?hr100); (case hS100 => exact hbT hHeld hb19); clear hK K; try simp only [Act.put, List.setIfInBounds_toArray, List.set_cons_zero, List.set_cons_succ])
  (refine hd_take (i := 36) (oi := ?oi101) (v := ?v101) ?hi101 (by kernel_rfl) (by kernel_rfl) (by kernel_rfl) (by kernel_rfl) (by decide) ?hq101 ?hw101 ?hy101 hHeld ?hr101; (case hi101 => (simp only [List.getElem?_toArray, List.getElem?_cons_succ, List.getElem?_cons_zero]; rfl)); (case hw101 => rfl); (case hy101 => (intro w hSw; go_simp; try with_reducible rfl)); (case hq101 => exact fun _ _ _ h => h); simp only [Act.put, List.setIfInBounds_toArray, List.set_cons_zero, List.set_cons_succ])
  (refine hd_take (i := 37) (oi := ?oi103) (v := ?v103) ?hi103 (by kernel_rfl) (by kernel_rfl) (by kernel_rfl) (by kernel_rfl) (by decide) ?hq103 ?hw103 ?hy103 hHeld ?hr103; (case hi103 => (simp only [List.getElem?_toArray, List.getElem?_cons_succ, List.getElem?_cons_zero]; rfl)); (case hw103 => rfl); (case hy103 => (intro w hSw; go_simp; try with_reducible rfl)); (case hq103 => exact fun _ _ _ h => h); simp only [Act.put, List.setIfInBounds_toArray, List.set_cons_zero, List.set_cons_succ])
  (refine hd_take (i := 38) (oi := ?oi105) (v := ?v105) ?hi105 (by kernel_rfl) (by kernel_rfl) (by kernel_rfl) (by kernel_rfl) (by decide) ?hq105 ?hw105 ?hy105 hHeld ?hr105; (case hi105 => (simp only [List.getElem?_toArray, List.getElem?_cons_succ, List.getElem?_cons_zero]; rfl)); (case hw105 => rfl); (case hy105 => (intro w hSw; go_simp; try with_reducible rfl)); (case hq105 => exact fun _ _ _ h => h); simp only [Act.put, List.setIfInBounds_toArray, List.set_cons_zero, List.set_cons_succ])
  (refine hd_one (i := 39) (oi := ?oi107) ?hi107 (by kernel_rfl) (by decide) ?hr107; (case hi107 => (simp only [List.getElem?_toArray, List.getElem?_cons_succ, List.getElem?_cons_zero]; rfl)); intro K hK)
  go_simp
  go_at_call 63
  refine (small_any _).mono ?_
  rintro e w20 ⟨A20, rfl, hC20, hb20⟩
  have HC20 := Aside0.mk hC20
  clear hC20
  go_simp
  (refine hK.out _ _ ?hS109 (fun hHeld => ?hr109); (case hS109 => exact hbT hHeld hb20); clear hK K; try simp only [Act.put, List.setIfInBounds_toArray, List.set_cons_zero, List.set_cons_succ])
  (refine hd_one (i := 40) (oi := ?oi110) ?hi110 (by kernel_rfl) (by decide) ?hr110; (case hi110 => (simp only [List.getElem?_toArray, List.getElem?_cons_succ, List.getElem?_cons_zero]; rfl)); intro K hK)
  go_simp
  go_at_call 43
  refine (sign_s A20 _ HC20.out).mono ?_
  rintro e w21 ⟨rfl, hb21⟩
  go_simp
  (refine hK.out _ _ ?hS112 (fun hHeld => ?hr112); (case hS112 => exact hbT hHeld hb21); clear hK K; try simp only [Act.put, List.setIfInBounds_toArray, List.set_cons_zero, List.set_cons_succ])
  (refine hd_take (i := 41) (oi := ?oi113) (v := ?v113) ?hi113 (by kernel_rfl) (by kernel_rfl) (by kernel_rfl) (by kernel_rfl) (by decide) ?hq113 ?hw113 ?hy113 hHeld ?hr113; (case hi113 => (simp only [List.getElem?_toArray, List.getElem?_cons_succ, List.getElem?_cons_zero]; rfl)); (case hw113 => rfl); (case hy113 => (intro w hSw; go_simp; try with_reducible rfl)); (case hq113 => exact fun _ _ _ h => h); simp only [Act.put, List.setIfInBounds_toArray, List.set_cons_zero, List.set_cons_succ])
  (refine hd_take (i := 42) (oi := ?oi115) (v := ?v115) ?hi115 (by kernel_rfl) (by kernel_rfl) (by kernel_rfl) (by kernel_rfl) (by decide) ?hq115 ?hw115 ?hy115 hHeld ?hr115; (case hi115 => (simp only [List.getElem?_toArray, List.getElem?_cons_succ, List.getElem?_cons_zero]; rfl)); (case hw115 => rfl); (case hy115 => (intro w hSw; go_simp; try with_reducible rfl)); (case hq115 => exact fun _ _ _ h => h); simp only [Act.put, List.setIfInBounds_toArray, List.set_cons_zero, List.set_cons_succ])
  (refine hd_done (by kernel_rfl) ?_; simp only [List.drop_succ_cons, List.drop_zero])
  have HBF := Aside0.mk (hbT (hbT HB6.out HB13.out) hHeld)
  clear hHeld k0 k1 k2 k3
  go_wp2
  go_ret
  exact ⟨rfl, HBF.out⟩
end Go.Proofs.Ytcgnpmjkeifokaa
-- KRow
/- From what a claim's row says of an argument (DataW.Trod) to the kinds of this program. -/
namespace Go.Proofs.Ytcgnpmjkeifokaa
open Go.RowKit Go.WideShapes Go.ChangeShapes Go.Proofs.YtcgnpmjkeifokaaW.PrintWords
set_option linter.unusedVariables false
set_option linter.unusedSimpArgs false

theorem sg_cell {W : World} {g e : Nat} {A : Option Addr} {n c : Nat} (h : W.heap[g]? = some (.cells #[.slice A n c] e (0, 0))) : W.cell? ⟨g, 0, none⟩ = some (.slice A n c) := (blk_cell h 0).trans rfl
section
variable {H : Type} {enc : TypeId × Value → H} {P : Program} {w : World} {spare : Nat → Bool} {held : Bool}
/-- What is read with less fuel than n is read by the kind. -/
def Op {α : Type} (enc : TypeId × Value → H) (P : Program) (w : World) (spare : Nat → Bool) (held : Bool) (n : Nat) (d : Kd α) (t : TypeId) : Prop :=
  ∀ fuel cs x, fuel < n → DataW.trod enc P w 0 spare held fuel t cs = some x → ∃ y, d.K w y cs
theorem Op.mono {α : Type} {n m : Nat} {d : Kd α} {t : TypeId} (h : Op enc P w spare held n d t) (hm : m ≤ n) : Op enc P w spare held m d t := fun fuel cs x hf => h fuel cs x (by omega)
theorem op_int {k : IntKind} {t : TypeId} {n : Nat} (ht : P.underlying t = some (.int k)) : Op enc P w spare held n (Kd.int k) t := fun fuel cs x _ h => by
  obtain ⟨z, rfl, _⟩ := DataW.trod_int ht h
  exact ⟨z, rfl⟩
theorem op_bool {t : TypeId} {n : Nat} (ht : P.underlying t = some .bool) : Op enc P w spare held n Kd.bool t := fun fuel cs x _ h => by
  obtain ⟨z, rfl, _⟩ := DataW.trod_bool ht h
  exact ⟨z, rfl⟩
theorem op_slice {α : Type} {d : Kd α} {t e : TypeId} {n : Nat} (ht : P.underlying t = some (.slice e)) (hs : d.sz = P.cellsOf e) (h : Op enc P w spare held n d e) : Op enc P w spare held (n + 1) (Kd.slice e d) t := by
  intro fuel cs x hf hx
  rcases DataW.trod_slice ht hx with ⟨rfl, _⟩ | ⟨a, len, cap, elems, rest, m, rfl, rfl, rfl, _, hl, hm, hlen, hel, hsp, hns⟩
  · exact ⟨[], none, 0, rfl, Nat.le_refl _, Kd.C_nil d w⟩
  · have hall : ∀ i, i < len → ∃ y c, d.K w y c ∧ w.cells? 0 (a.add (i * P.cellsOf e)) (P.cellsOf e) = some c := fun i hi => by
      have h1 := hel i hi
      rw [List.getElem?_eq_getElem (by omega)] at h1
      obtain ⟨c, h2, h3⟩ := Option.bind_eq_some_iff.1 h1
      obtain ⟨y, hy⟩ := h m c _ (by omega) h3
      exact ⟨y, c, hy, h2⟩
    obtain ⟨xs, hxl, hxs⟩ : ∃ xs : List α, xs.length = len ∧ ∀ j p, xs[j]? = some p → ∃ c, d.K w p c ∧ w.cells? 0 (a.add (j * P.cellsOf e)) (P.cellsOf e) = some c := by
      clear hel hlen hx hl hsp hns
      induction len with
      | zero => exact ⟨[], rfl, fun j p hj => by simp at hj⟩
      | succ k ih =>
        obtain ⟨xs, h1, h2⟩ := ih (fun i hi => hall i (by omega))
        obtain ⟨y, c, h3, h4⟩ := hall k (by omega)
        refine ⟨xs ++ [y], by simp [h1], fun j p hj => ?_⟩
        rcases Nat.lt_or_ge j k with hj2 | hj2
        · rw [List.getElem?_append_left (by omega)] at hj; exact h2 j p hj
        · have : j = k := by
            have := (List.getElem?_eq_some_iff.1 hj).1
            simp [h1] at this; omega
          subst this
          rw [List.getElem?_append_right (by omega), h1] at hj
          simp at hj; subst hj
          exact ⟨c, h3, h4⟩
    refine ⟨xs, some a, cap, by rw [hxl], by omega, ⟨rfl, by have hmx : maxLen ≤ 9223372036854775807 := (by decide); omega, fun _ => ⟨a, rfl, fun j p hj => ?_⟩⟩⟩
    obtain ⟨c, h1, h2⟩ := hxs j p hj
    refine ⟨c, d.K_len h1, h1, fun i u hu => ?_⟩
    obtain ⟨_, h4, h5⟩ := World.cells?_some h2
    have hi : i < P.cellsOf e := by have := (List.getElem?_eq_some_iff.1 hu).1; omega
    have h6 := h5 i hi
    rw [hs, ← Addr.add_add]
    rw [h6, hu]
theorem list1 {α : Type} {cs : List α} (h : cs.length = 1) : ∃ a, cs = [a] := by
  match cs, h with
  | [a], _ => exact ⟨a, rfl⟩
theorem list3 {α : Type} {cs : List α} (h : cs.length = 3) : ∃ a b c, cs = [a, b, c] := by
  match cs, h with
  | [a, b, c], _ => exact ⟨a, b, c, rfl⟩
theorem list7 {α : Type} {cs : List α} (h : cs.length = 7) : ∃ a b c d e f g, cs = [a, b, c, d, e, f, g] := by
  match cs, h with
  | [a, b, c, d, e, f, g], _ => exact ⟨a, b, c, d, e, f, g, rfl⟩
theorem wide_struct {P : Program} {w : World} {r : Reach} {base : Nat} {t : TypeId} {fs : Array Field} {v : Value} (ht : P.underlying t = some (.struct fs)) (h : Value.okWide P w r base t v) : ∃ l : List Value, v = .agg l.toArray := by
  obtain ⟨⟨cs⟩, h, _⟩ := okWide_struct ht h
  exact ⟨cs, h⟩
/-- A field of a struct. -/
theorem op_fld {α : Type} {d : Kd α} {t : TypeId} {n m : Nat} {cs c : List Value} {o : Option (DataW H × List MemPlace)} {y : DataW H × List MemPlace} (h : Op enc P w spare held n d t) (hm : m < n) (hx : DataW.trod enc P w 0 spare held m t cs = o) (ho : o = some y) (hc : cs = c) : ∃ z, d.K w z c := by
  subst hc
  exact h m cs y hm (hx.trans ho)
end

section
variable {H : Type} {enc : TypeId × Value → H} {w : World} {spare : Nat → Bool} {held : Bool}
theorem c_int : Try.prog.cellsOf 3 = 1 := by kernel_rfl
theorem c_bool : Try.prog.cellsOf 4 = 1 := by kernel_rfl
theorem c_ints : Try.prog.cellsOf 22 = 1 := by kernel_rfl
theorem c_tms : Try.prog.cellsOf 44 = 1 := by kernel_rfl
theorem c_tm : Try.prog.cellsOf 46 = 3 := by kernel_rfl
theorem c_li : Try.prog.cellsOf 84 = 7 := by kernel_rfl
theorem c_cl : Try.prog.cellsOf 26 = 1 := by kernel_rfl
theorem c_sg : Try.prog.cellsOf 24 = 1 := by kernel_rfl
theorem op_tm : ∀ n, Op enc Try.prog w spare held n kTm 46 := by
  intro n
  induction n with
  | zero => intro fuel cs x hf; omega
  | succ n ih =>
    intro fuel cs x hf hx
    obtain ⟨xs, m, rfl, _, hl, hlen, hfs⟩ := DataW.trod_struct Try.underlying46 hx
    have hl3 : cs.length = 3 := hl.trans c_tm
    have hx3 : xs.length = 3 := hlen
    obtain ⟨c0, c1, c2, rfl⟩ := list3 hl3
    have h0 : DataW.trod enc Try.prog w 0 spare held m 3 ((([c0, c1, c2] : List Value).drop 0).take (Try.prog.cellsOf 3)) = xs[0]? := hfs 0 _ rfl
    have h1 : DataW.trod enc Try.prog w 0 spare held m 3 ((([c0, c1, c2] : List Value).drop 1).take (Try.prog.cellsOf 3)) = xs[1]? := hfs 1 _ rfl
    have h2 : DataW.trod enc Try.prog w 0 spare held m 44 ((([c0, c1, c2] : List Value).drop 2).take (Try.prog.cellsOf 44)) = xs[2]? := hfs 2 _ rfl
    rw [c_int] at h0 h1
    rw [c_tms] at h2
    obtain ⟨z0, e0⟩ := op_fld (op_int (n := m + 1) Try.underlying3) (by omega) h0 (List.getElem?_eq_getElem (by omega)) (c := [c0]) rfl
    obtain ⟨z1, e1⟩ := op_fld (op_int (n := m + 1) Try.underlying3) (by omega) h1 (List.getElem?_eq_getElem (by omega)) (c := [c1]) rfl
    obtain ⟨z2, A2, k2, e2, l2, g2⟩ := op_fld (op_slice (n := n) Try.underlying44 c_tm.symm ih) (m := m) (by omega) h2 (List.getElem?_eq_getElem (by omega)) (c := [c2]) rfl
    have e0' : [c0] = [.int .i64 z0] := e0
    have e1' : [c1] = [.int .i64 z1] := e1
    injection e0' with e0' _
    injection e1' with e1' _
    injection e2 with e2 _
    subst e0' e1' e2
    exact ⟨⟨z0, z1, z2⟩, kTm_mk w ⟨z0, z1, z2⟩ l2 g2⟩
theorem op_li : ∀ n, Op enc Try.prog w spare held n kLi 84 := by
  intro n fuel cs x hf hx
  obtain ⟨xs, m, rfl, _, hl, hlen, hfs⟩ := DataW.trod_struct Try.underlying84 hx
  have hl3 : cs.length = 7 := hl.trans c_li
  have hx3 : xs.length = 3 := hlen
  obtain ⟨c0, c1, c2, c3, c4, c5, c6, rfl⟩ := list7 hl3
  have h0 : DataW.trod enc Try.prog w 0 spare held m 4 ((([c0, c1, c2, c3, c4, c5, c6] : List Value).drop 0).take (Try.prog.cellsOf 4)) = xs[0]? := hfs 0 _ rfl
  have h1 : DataW.trod enc Try.prog w 0 spare held m 46 ((([c0, c1, c2, c3, c4, c5, c6] : List Value).drop 1).take (Try.prog.cellsOf 46)) = xs[1]? := hfs 1 _ rfl
  have h2 : DataW.trod enc Try.prog w 0 spare held m 46 ((([c0, c1, c2, c3, c4, c5, c6] : List Value).drop 4).take (Try.prog.cellsOf 46)) = xs[2]? := hfs 2 _ rfl
  rw [c_bool] at h0
  rw [c_tm] at h1 h2
  obtain ⟨z0, e0⟩ := op_fld (op_bool (n := m + 1) Try.underlying4) (by omega) h0 (List.getElem?_eq_getElem (by omega)) (c := [c0]) rfl
  obtain ⟨z1, e1⟩ := op_fld (op_tm (m + 1)) (by omega) h1 (List.getElem?_eq_getElem (by omega)) (c := [c1, c2, c3]) rfl
  obtain ⟨z2, e2⟩ := op_fld (op_tm (m + 1)) (by omega) h2 (List.getElem?_eq_getElem (by omega)) (c := [c4, c5, c6]) rfl
  exact ⟨⟨z0, z1, z2⟩, [c0], [c1, c2, c3, c4, c5, c6], rfl, e0, [c1, c2, c3], [c4, c5, c6], rfl, e1, e2⟩
theorem op_cl (n : Nat) : Op enc Try.prog w spare held n kCl 26 := (op_slice (n := n) Try.underlying26 c_li.symm (op_li n)).mono (by omega)
theorem op_sg (n : Nat) : Op enc Try.prog w spare held n (Kd.slice 3 (Kd.int .i64)) 24 := by
  intro fuel cs x hf hx
  obtain ⟨xs, m, rfl, _, hl, hlen, hfs⟩ := DataW.trod_struct Try.underlying24 hx
  have hl3 : cs.length = 1 := hl.trans c_sg
  have hx3 : xs.length = 1 := hlen
  obtain ⟨c0, rfl⟩ := list1 hl3
  have h0 : DataW.trod enc Try.prog w 0 spare held m 22 ((([c0] : List Value).drop 0).take (Try.prog.cellsOf 22)) = xs[0]? := hfs 0 _ rfl
  rw [c_ints] at h0
  exact op_fld (op_slice (n := m + 1) Try.underlying22 c_int.symm (op_int Try.underlying3)) (by omega) h0 (List.getElem?_eq_getElem (by omega)) (c := [c0]) rfl

/-! ### arguments -/
variable {W : World} {base : Nat} {v : Value} {d : DataW H} {p : List MemPlace} {sp : Nat → Bool}
set_option maxRecDepth 100000 in
theorem arg_tm (hval : Value.okWide Try.prog W .any base 46 v) (h : DataW.Trod enc Try.prog W 0 sp held 46 v d p) : ∃ (x : Tm) (A : Option Addr) (c : Nat), v = .agg #[.int .i64 x.f0, .int .i64 x.f1, .slice A x.f2.length c] ∧ x.f2.length ≤ c ∧ Kd.F kTm W (fun _ => True) A x.f2.length x.f2 := by
  obtain ⟨cs, rfl⟩ := wide_struct Try.underlying46 hval
  obtain ⟨fuel, hf⟩ := h
  obtain ⟨x, hx⟩ := op_tm (fuel + 1) fuel _ _ (Nat.lt_succ_self _) hf
  obtain ⟨A, c, e, hl, hC⟩ := kTm_open hx
  have e' : cs = [.int .i64 x.f0, .int .i64 x.f1, .slice A x.f2.length c] := e
  subst e'
  exact ⟨x, A, c, rfl, hl, Kd.F_mono (Kd.C_F kTm_heap hC) (fun _ _ => trivial)⟩
set_option maxRecDepth 100000 in
theorem arg_sg (hval : Value.okWide Try.prog W .any base 24 v) (h : DataW.Trod enc Try.prog W 0 sp held 24 v d p) : ∃ (g : List Int) (A : Option Addr) (c : Nat), v = .agg #[.slice A g.length c] ∧ g.length ≤ c ∧ Kd.C (Kd.int .i64) W A g.length g := by
  obtain ⟨cs, rfl⟩ := wide_struct Try.underlying24 hval
  obtain ⟨fuel, hf⟩ := h
  obtain ⟨x, A, c, e, hl, hC⟩ := op_sg (fuel + 1) fuel _ _ (Nat.lt_succ_self _) hf
  have e' : cs = [.slice A x.length c] := e
  subst e'
  exact ⟨x, A, c, rfl, hl, hC⟩
set_option maxRecDepth 100000 in
theorem arg_ints (hval : Value.okWide Try.prog W .any base 22 v) (h : DataW.Trod enc Try.prog W 0 sp held 22 v d p) : ∃ (g : List Int) (A : Option Addr) (c : Nat), v = .slice A g.length c ∧ g.length ≤ c ∧ Kd.C (Kd.int .i64) W A g.length g := by
  obtain ⟨a, len, cap, rfl⟩ := okWide_slice Try.underlying22 hval
  obtain ⟨fuel, hf⟩ := h
  obtain ⟨x, A, c, e, hl, hC⟩ := op_slice (n := fuel) Try.underlying22 c_int.symm (op_int Try.underlying3) fuel _ _ (Nat.lt_succ_self _) hf
  have e' : [Value.slice a len cap] = [.slice A x.length c] := e
  injection e' with e' _
  injection e' with h1 h2 h3
  subst h1 h2 h3
  exact ⟨x, a, cap, rfl, hl, hC⟩
set_option maxRecDepth 100000 in
theorem arg_cl (hval : Value.okWide Try.prog W .any base 26 v) (h : DataW.Trod enc Try.prog W 0 sp held 26 v d p) : ∃ (g : List Li) (A : Option Addr) (c : Nat), v = .slice A g.length c ∧ g.length ≤ c ∧ Kd.F kLi W (fun _ => True) A g.length g := by
  obtain ⟨a, len, cap, rfl⟩ := okWide_slice Try.underlying26 hval
  obtain ⟨fuel, hf⟩ := h
  obtain ⟨x, A, c, e, hl, hC⟩ := op_cl (fuel + 1) fuel _ _ (Nat.lt_succ_self _) hf
  have e' : [Value.slice a len cap] = [.slice A x.length c] := e
  injection e' with e' _
  injection e' with h1 h2 h3
  subst h1 h2 h3
  exact ⟨x, a, cap, rfl, hl, Kd.F_mono (Kd.C_F kLi_heap hC) (fun _ _ => trivial)⟩
end
end Go.Proofs.Ytcgnpmjkeifokaa
