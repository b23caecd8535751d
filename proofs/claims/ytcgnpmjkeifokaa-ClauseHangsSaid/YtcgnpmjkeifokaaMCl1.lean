/- The walks of what compares and subsumes clauses, maps told as lists of entries. -/
import Derived.Test.YtcgnpmjkeifokaaMC
import Derived.MapKept
import Derived.Maps.OwnOps
import Derived.Shelf.SlMaps.Clone
-- KCut
/- Ways that meet again: the goal behind them is told once, for whatever the ways leave. -/
namespace Go.Proofs.Ytcgnpmjkeifokaa
open Go.RowKit Go.Proofs.YtcgnpmjkeifokaaW.PrintWords
set_option linter.unusedVariables false

theorem any_none {α : Type} {p : α → Bool} {l : List α} (h : (l.take l.length).any p = false) : l.any p = false := by rwa [List.take_length] at h
theorem addZ (g j : Nat) : (⟨g, 0, none⟩ : Addr).add j = ⟨g, 0 + j, none⟩ := by
  unfold Addr.add
  by_cases h : j = 0
  · rw [if_pos h, h]
  · rw [if_neg h]
theorem anyL_take {α : Type} {p : α → Bool} {l : List α} {k : Nat} (hk : k < l.length) (h0 : (l.take k).any p = false) : (l.take (k+1)).any p = p l[k] := by
  rw [List.take_succ_eq_append_getElem hk, List.any_append, h0]; simp
theorem anyL_at {α : Type} {p : α → Bool} {l : List α} {k : Nat} (hk : k < l.length) (h : p l[k] = true) : l.any p = true := List.any_eq_true.2 ⟨_, List.getElem_mem hk, h⟩
theorem useT {T G : Prop} (h : T) (e : T = G) : G := e ▸ h
theorem cutT1 {G : Prop} {α : Type} (S : α → World → Prop) (T : α → World → Prop) (main : (∀ a w, S a w → T a w) → G) (key : ∀ a w, S a w → T a w) : G := main key
theorem cutT2 {G : Prop} {α β : Type} (S : α → β → World → Prop) (T : α → β → World → Prop) (main : (∀ a b w, S a b w → T a b w) → G) (key : ∀ a b w, S a b w → T a b w) : G := main key
theorem cutT3 {G : Prop} {α β γ : Type} (S : α → β → γ → World → Prop) (T : α → β → γ → World → Prop) (main : (∀ a b c w, S a b c w → T a b c w) → G) (key : ∀ a b c w, S a b c w → T a b c w) : G := main key
theorem cutT4 {G : Prop} {α β γ δ : Type} (S : α → β → γ → δ → World → Prop) (T : α → β → γ → δ → World → Prop) (main : (∀ a b c d w, S a b c d w → T a b c d w) → G) (key : ∀ a b c d w, S a b c d w → T a b c d w) : G := main key
theorem cutT5 {G : Prop} {α β γ δ ε : Type} (S : α → β → γ → δ → ε → World → Prop) (T : α → β → γ → δ → ε → World → Prop) (main : (∀ a b c d e w, S a b c d e w → T a b c d e w) → G) (key : ∀ a b c d e w, S a b c d e w → T a b c d e w) : G := main key
end Go.Proofs.Ytcgnpmjkeifokaa
-- K32
/- superposeref.Has, SameInts. -/
namespace Go.Proofs.Ytcgnpmjkeifokaa
open Go.RowKit Go.Proofs.YtcgnpmjkeifokaaW.PrintWords
set_option linter.unusedVariables false
set_option linter.unusedSimpArgs false


theorem eqP_t {x y : Int} (h : x = y) : eqP y x = true := by unfold eqP; simp [h]
theorem eqP_f {x y : Int} (h : ¬ x = y) : eqP y x = false := by unfold eqP; simp; exact fun e => h e.symm

set_option maxHeartbeats 4000000 in
set_option maxRecDepth 100000 in
theorem has_any (xs : List Int) (y : Int) (A : Option Addr) (c : Nat) (w : World) (hC : Kd.C (Kd.int .i64) w A xs.length xs) :
    Calls Try.prog 89 #[.slice A xs.length c, .int .i64 y] w fun e w' => e = .returned (.bool (hasB xs y)) ∧ Below w.heap.size w w' := by
  have hlen := hC.2.1
  have HC := Aside0.mk hC
  clear hC
  go_enter Try.func89, Try.ntmps89
  go_wp2
  go_loopw [5] (fun i wr => ∃ k : Nat, k ≤ xs.length ∧ i = .int .i64 k ∧ Aside0 ((xs.take k).any (eqP y) = false) ∧ Below w.heap.size w wr) (fun i _ => xs.length - (intOf i).toNat)
  case atStart => exact ⟨0, by omega, rfl, ⟨rfl⟩, Below.refl _ _⟩
  case round =>
    obtain ⟨k, hk, rfl, h0, hb⟩ := hrel
    by_cases hlt : k < xs.length
    · obtain ⟨ad, rfl, e0⟩ := at_Int HC.out (k : Int) (by omega) (by omega)
      simp only [Int.toNat_natCast] at e0
      have hx : xs.getD k 0 = xs[k] := by simp [List.getD_eq_getElem?_getD, hlt]
      rw [hx] at e0
      have E0 := oldc hb e0
      have H1 := Aside0.mk (any_take (p := eqP y) hlt h0.out)
      have H2 := Aside0.mk (any_at (p := eqP y) hlt)
      clear e0 hx
      generalize xs[k] = x at *
      by_cases hq : x = y
      · have hq1 := beqT hq
        have HR := Aside0.mk (show hasB xs y = true from H2.out (eqP_t hq))
        clear hq
        go_wp2
        go_ret
        exact ⟨ret_bool HR.out.symm, hb⟩
      · have hq1 := beqF hq
        have HR := Aside0.mk (H1.out.trans (eqP_f hq))
        clear hq
        go_wp2
        go_roundw
        case rel => exact ⟨k + 1, by omega, by go_num, HR, hb⟩
        case measure => simp [intOf]; omega
    · obtain rfl : k = xs.length := by omega
      have HR := Aside0.mk (show hasB xs y = false from any_none h0.out)
      clear h0
      go_wp2
      go_ret
      exact ⟨ret_bool HR.out.symm, hb⟩

def sameI_ (a b : List Int) : Bool := decide (a = b)
theorem sameI_len {a b : List Int} (h : ¬ a.length = b.length) : sameI_ a b = false := by unfold sameI_; simp; intro e; exact h (by rw [e])
theorem sameI_ne {a b : List Int} {k : Nat} (h : ¬ a.getD k 0 = b.getD k 0) : sameI_ a b = false := by unfold sameI_; simp; intro e; exact h (by rw [e])
theorem take_getD_succ {a b : List Int} {k : Nat} (ha : k < a.length) (hb : k < b.length) (h0 : a.take k = b.take k) (h : a.getD k 0 = b.getD k 0) : a.take (k+1) = b.take (k+1) := by
  rw [List.take_succ_eq_append_getElem ha, List.take_succ_eq_append_getElem hb, h0]
  simp [List.getD_eq_getElem?_getD, ha, hb] at h
  rw [h]

set_option maxHeartbeats 4000000 in
set_option maxRecDepth 100000 in
theorem sameInts_any (xs ys : List Int) (A B : Option Addr) (c d : Nat) (w : World) (hC : Kd.C (Kd.int .i64) w A xs.length xs) (hD : Kd.C (Kd.int .i64) w B ys.length ys) :
    Calls Try.prog 46 #[.slice A xs.length c, .slice B ys.length d] w fun e w' => e = .returned (.bool (sameI_ xs ys)) ∧ Below w.heap.size w w' := by
  have hlen := hC.2.1
  have hlen2 := hD.2.1
  have HC := Aside0.mk hC
  have HD := Aside0.mk hD
  clear hC hD
  by_cases hl : xs.length = ys.length
  · have hl1 : ((xs.length : Int) != ys.length) = false := bneF (by omega)
    go_enter Try.func46, Try.ntmps46
    go_wp2
    go_loopw [5] (fun i wr => ∃ k : Nat, k ≤ xs.length ∧ i = .int .i64 k ∧ Aside0 (xs.take k = ys.take k) ∧ Below w.heap.size w wr) (fun i _ => xs.length - (intOf i).toNat)
    case atStart => exact ⟨0, by omega, rfl, ⟨rfl⟩, Below.refl _ _⟩
    case round =>
      obtain ⟨k, hk, rfl, h0, hb⟩ := hrel
      by_cases hlt : k < xs.length
      · obtain ⟨ad, rfl, e0⟩ := at_Int HC.out (k : Int) (by omega) (by omega)
        obtain ⟨ad2, rfl, f0⟩ := at_Int HD.out (k : Int) (by omega) (by omega)
        simp only [Int.toNat_natCast] at e0 f0
        have E0 := oldc hb e0
        have F0 := oldc hb f0
        have H1 := Aside0.mk (take_getD_succ hlt (by omega) h0.out)
        have H2 := Aside0.mk (sameI_ne (a := xs) (b := ys) (k := k))
        have hk2 : (k : Int) < ys.length := by omega
        clear e0 f0
        generalize xs.getD k 0 = x at *
        generalize ys.getD k 0 = y at *
        by_cases hq : x = y
        · have hq1 := bneF hq
          have HR := Aside0.mk (H1.out hq)
          clear hq
          go_wp2
          go_quiet (fail)
          go_wp2
          go_roundw
          case rel => exact ⟨k + 1, by omega, by go_num, HR, pw_below_drewN hb _⟩
          case measure => simp [intOf]; omega
        · have hq1 := bneT hq
          have HR := Aside0.mk (H2.out hq)
          clear hq
          go_wp2
          go_quiet (fail)
          go_wp2
          go_ret
          exact ⟨ret_bool HR.out.symm, pw_below_drewN hb _⟩
      · obtain rfl : k = xs.length := by omega
        have HR := Aside0.mk (show sameI_ xs ys = true by have := h0.out; rw [List.take_length, hl, List.take_length] at this; unfold sameI_; simp [this])
        clear h0
        go_wp2
        go_ret
        exact ⟨ret_bool HR.out.symm, hb⟩
  · have hl1 : ((xs.length : Int) != ys.length) = true := bneT (by omega)
    have HR := Aside0.mk (sameI_len hl)
    clear hl
    go_enter Try.func46, Try.ntmps46
    go_wp2
    go_ret
    exact ⟨ret_bool HR.out.symm, Below.refl _ _⟩
end Go.Proofs.Ytcgnpmjkeifokaa
-- K33
/- superposeref.FirstVars. -/
namespace Go.Proofs.Ytcgnpmjkeifokaa
open Go.RowKit Go.Proofs.YtcgnpmjkeifokaaW.PrintWords
set_option linter.unusedVariables false
set_option linter.unusedSimpArgs false

def stepV (s : List Int) (x : Tm) : List Int := if 0 < x.f0 ∧ hasB s x.f0 = false then s ++ [x.f0] else s
def fvP (s : List Int) (l : List Tm) : List Int := l.foldl stepV s
def fvL : List Int → List Tm → List Int
  | s, [] => s
  | s, t :: ts => fvL (fvP s (ptsT t)) ts
theorem fvP_append (s : List Int) (a b : List Tm) : fvP s (a ++ b) = fvP (fvP s a) b := by unfold fvP; exact List.foldl_append
theorem fvP_take_succ (s : List Int) (l : List Tm) (k : Nat) (hk : k < l.length) : fvP s (l.take (k+1)) = stepV (fvP s (l.take k)) (rd_Tm l k) := by
  rw [List.take_succ_eq_append_getElem hk, fvP_append, rd_get l k hk]; rfl
theorem fvL_append (a b : List Tm) : ∀ s, fvL s (a ++ b) = fvL (fvL s a) b := by
  induction a with
  | nil => intro s; rfl
  | cons t ts ih => intro s; simp only [List.cons_append, fvL]; exact ih _
theorem fvL_take_succ (s : List Int) (l : List Tm) (k : Nat) (hk : k < l.length) : fvL s (l.take (k+1)) = fvP (fvL s (l.take k)) (ptsT (rd_Tm l k)) := by
  rw [List.take_succ_eq_append_getElem hk, fvL_append, rd_get l k hk]; rfl
theorem stepV_len (s : List Int) (x : Tm) : (stepV s x).length ≤ s.length + 1 := by unfold stepV; split <;> simp
theorem fvP_len (l : List Tm) : ∀ s, (fvP s l).length ≤ s.length + l.length := by
  induction l with
  | nil => intro s; simp [fvP]
  | cons t ts ih =>
    intro s
    have h1 := ih (stepV s t)
    have h2 := stepV_len s t
    have e : fvP s (t :: ts) = fvP (stepV s t) ts := rfl
    rw [e, List.length_cons]; omega
theorem fvL_len (l : List Tm) : ∀ s, (fvL s l).length ≤ s.length + szL l := by
  induction l with
  | nil => intro s; simp [fvL]
  | cons t ts ih =>
    intro s
    have h1 := ih (fvP s (ptsT t))
    have h2 := fvP_len (ptsT t) s
    rw [ptsT_len] at h2
    simp only [fvL, szL]; omega
/-- Of a term that is right, it is what Stands tells. -/
theorem walk_fv (g : List Int) (t : Tm) : formE g t = 0 → ∀ s, fvP s (ptsT t) = (walkT stF s t).1 ∧ (walkT stF s t).2 = true := by
  refine Tm.rec (motive_1 := fun t => formE g t = 0 → ∀ s, fvP s (ptsT t) = (walkT stF s t).1 ∧ (walkT stF s t).2 = true) (motive_2 := fun l => formEL g l = 0 → ∀ s, fvP s (ptsL l) = (walkL stF s l).1 ∧ (walkL stF s l).2 = true) ?_ ?_ ?_ t
  · intro v f l ih hf s
    obtain ⟨ha, hp⟩ : formEL g l = 0 ∧ partE g ⟨v, f, l⟩ = 0 := by
      rw [formE] at hf
      by_cases hl : formEL g l = 0
      · rw [if_neg (by simpa using hl)] at hf; exact ⟨hl, hf⟩
      · rw [if_pos hl] at hf; exact absurd hf hl
    rw [ptsT, fvP_append, walkT]
    have e2 : (stF s ⟨v, f, l⟩).2 = true := rfl
    rw [e2]
    simp only [if_true]
    by_cases hv : v = 0
    · have e1 : (stF s ⟨v, f, l⟩).1 = s := by unfold stF; simp [hv]
      have h1 := ih ha s
      rw [e1]
      refine ⟨?_, h1.2⟩
      rw [h1.1]
      unfold fvP; simp [stepV, hv]
    · have hl : l = [] := by
        unfold partE at hp
        rw [if_pos hv] at hp
        split at hp
        · split at hp
          · rename_i h; exact List.length_eq_zero_iff.1 h.1
          · cases hp
        · cases hp
      subst hl
      refine ⟨?_, by rw [walkL]⟩
      rw [walkL]; rfl
  · intro _ s; exact ⟨rfl, by rw [walkL]⟩
  · intro t ts h1 h2 hf s
    rw [formEL] at hf
    by_cases hl : formE g t = 0
    · rw [if_neg (by simpa using hl)] at hf
      obtain ⟨a1, a2⟩ := h1 hl s
      obtain ⟨b1, b2⟩ := h2 hf (fvP s (ptsT t))
      rw [ptsL, fvP_append]
      rw [a1] at b1 b2 ⊢
      have e := a2
      have : walkL stF s (t :: ts) = walkL stF (walkT stF s t).1 ts := by
        rw [walkL]
        generalize walkT stF s t = r at *
        obtain ⟨r1, r2⟩ := r
        simp only at e; subst e
        rfl
      rw [this]
      exact ⟨b1, b2⟩
    · rw [if_pos hl] at hf; exact absurd hf hl
theorem stL_fvL (g : List Int) (l : List Tm) : (∀ t ∈ l, formE g t = 0) → ∀ s, stL s l = fvL s l := by
  induction l with
  | nil => intro _ s; rfl
  | cons t ts ih =>
    intro h s
    rw [stL, fvL, (walk_fv g t (h t (by simp)) s).1]
    exact ih (fun x hx => h x (by simp [hx])) _

set_option maxHeartbeats 4000000 in
set_option maxRecDepth 100000 in
theorem firstVars_any (l : List Tm) (A : Option Addr) (c : Nat) (ok : Nat → Prop) (w : World) (hbd : szL l ≤ 1000000) (hF : Kd.F kTm w ok A l.length l) (hcp : ∀ x ∈ l, szT x ≤ 1000000) :
    Calls Try.prog 41 #[.slice A l.length c] w fun e w' => ∃ v1, e = .returned v1 ∧ Kd.N (Kd.int .i64) 3 w' w.heap.size (fun k => w.heap.size ≤ k) v1 (fvL [] l) ∧ Below w.heap.size w w' := by
  have hlen := Kd.F_max hF
  have HF := Aside0.mk (Kd.F_bound hF)
  have HBD := Aside0.mk hbd
  clear hF hbd hcp
  go_enter Try.func41, Try.ntmps41
  go_wp2
  go_loopw [3, 4] (fun v0 i wr => ∃ (k : Nat) (vk : Value), k ≤ l.length ∧ i = .int .i64 k ∧ vk = v0 ∧ Aside0 (Kd.N (Kd.int .i64) 3 wr w.heap.size (fun k => w.heap.size ≤ k) vk (fvL [] (l.take k))) ∧ Aside0 (Below w.heap.size w wr)) (fun _ i _ => l.length - (intOf i).toNat)
  case atStart => exact ⟨0, _, by omega, rfl, rfl, ⟨Kd.N_nil _ _ _ _ _⟩, ⟨Below.refl _ _⟩⟩
  case round =>
    rename World => wo
    obtain ⟨k, vk, hk, rfl, rfl, HN, HB⟩ := hrel
    have hzr := HB.out.size
    by_cases hlt : k < l.length
    · obtain ⟨ad, A2, c2, rfl, E0, E1, E2, hl2, hF2, _⟩ := at_TmF (Kd.F_below HF.out HB.out) (k : Int) (by omega) (by omega)
      simp only [Int.toNat_natCast] at E0 E1 E2
      have HTm := Aside0.mk (szT_mem (rd_mem l k hlt))
      have HTK := Aside0.mk (fvL_take_succ [] l k hlt)
      have HLN := Aside0.mk (fvL_len (l.take k) [])
      have HLE := Aside0.mk (szL_take_le l (k+1))
      have HLS := Aside0.mk (szL_take_succ l k hlt)
      have HF2 := Aside0.mk hF2
      have HC2 := Aside0.mk hl2
      clear hF2 hl2
      go_wp2_with (go_at_call 69; refine (partsOf_any _ (rd_Tm l (k : Int)) A2 c2 (.slice none 0 0) [] wo.heap.size (fun j => (ok j ∧ j < w.heap.size) ∨ wo.heap.size ≤ j) _ wo (Nat.le_refl _) ?_ (Kd.N_nil _ _ _ _ _) HF2.out HC2.out (fun j hj => ⟨.inl hj, by simp [Value.ownBlock]⟩) (fun j hj => .inr hj) (Nat.le_refl _)).mono ?_; (have := HTm.out; have := HBD.out; simp; omega); rintro e w3 ⟨v5, rfl, hN5, hG5, hI5⟩; obtain ⟨A5, c5, rfl⟩ := Kd.N_slice hN5; simp only [List.nil_append] at hN5 ⊢; have HF5 := Aside0.mk (Kd.F_bound (Kd.N_F hN5)); have HB5 := Aside0.mk (gbB hG5 (.inl rfl)); clear hN5 hG5 hI5 E0 E1 E2)
      have hz5 := HB5.out.size
      have HB3 := Aside0.mk (hbT HB.out HB5.out)
      have HN3 := Aside0.mk (Kd.N_mono (Kd.N_old HN.out HB5.out) (ok' := fun j => (w.heap.size ≤ j ∧ j < wo.heap.size) ∨ w3.heap.size ≤ j) (fun j hj => .inl hj))
      have HPL := Aside0.mk (ptsT_len (rd_Tm l (k : Int)))
      generalize hpts : ptsT (rd_Tm l (k : Int)) = pts at *
      have HPT := Aside0.mk hpts
      have hlen5 := Kd.F_max HF5.out
      clear hpts
      go_loopw [3, 6] (fun v0 i w4 => ∃ (j : Nat) (vj : Value), j ≤ pts.length ∧ i = .int .i64 j ∧ vj = v0 ∧ Aside0 (Kd.N (Kd.int .i64) 3 w4 w.heap.size (fun j => (w.heap.size ≤ j ∧ j < wo.heap.size) ∨ w3.heap.size ≤ j) vj (fvP (fvL [] (l.take k)) (pts.take j))) ∧ Aside0 (Kd.F kTm w4 (fun j => ((ok j ∧ j < w.heap.size) ∨ wo.heap.size ≤ j) ∧ j < w3.heap.size) A5 pts.length pts) ∧ Aside0 (Below w.heap.size w w4) ∧ w3.heap.size ≤ w4.heap.size) (fun _ i _ => pts.length - (intOf i).toNat)
      case atStart => exact ⟨0, vk, by omega, rfl, rfl, HN3, HF5, HB3, Nat.le_refl _⟩
      case round =>
        obtain ⟨j, vj, hj, rfl, rfl, HNj, HFj, HBj, hzj⟩ := hrel
        by_cases hlj : j < pts.length
        · obtain ⟨ad5, A6, c6, rfl, F0, F1, F2, hl6, hF6, hok6⟩ := at_TmF HFj.out (j : Int) (by omega) (by omega)
          simp only [Int.toNat_natCast] at F0 F1 F2
          have HPK := Aside0.mk (fvP_take_succ (fvL [] (l.take k)) pts j hlj)
          have HPN := Aside0.mk (fvP_len (pts.take j) (fvL [] (l.take k)))
          have HTKE := Aside0.mk (List.length_take_le j pts)
          clear hF6 hl6 F1 F2
          generalize hs : fvP (fvL [] (l.take k)) (pts.take j) = s at *
          have HSB : Aside0 (s.length ≤ 1000000) := ⟨by have := HPN.out; have := HTKE.out; have := HPL.out; have := HLN.out; have := HLE.out; have := HLS.out; have := HBD.out; simp only [List.length_nil] at *; omega⟩
          obtain ⟨Aj, cj, rfl⟩ := Kd.N_slice HNj.out
          by_cases hp : 0 < (rd_Tm pts (j : Int)).f0
          · cases hh : hasB s (rd_Tm pts (j : Int)).f0 with
            | true =>
              have HR : Aside0 (fvP (fvL [] (l.take k)) (pts.take (j+1)) = s) := ⟨by rw [HPK.out, stepV, if_neg (by simp [hh])]⟩
              go_wp2_with (go_at_call 89; refine (has_any s _ Aj cj wr (Kd.N_reads' HNj.out).2.2).mono ?_; rintro e w5 ⟨rfl, hb5⟩; simp only [hh]; have HB6 := Aside0.mk hb5; clear hb5)
              go_roundw
              case rel => exact ⟨j + 1, _, by omega, by go_num, rfl, ⟨by rw [HR.out]; exact Kd.N_below HNj.out HB6.out⟩, ⟨Kd.F_below HFj.out HB6.out⟩, ⟨hbT HBj.out HB6.out⟩, Nat.le_trans hzj HB6.out.size⟩
              case measure => simp [intOf]; omega
            | false =>
              have HR : Aside0 (fvP (fvL [] (l.take k)) (pts.take (j+1)) = s ++ [(rd_Tm pts (j : Int)).f0]) := ⟨by rw [HPK.out, stepV, if_pos ⟨hp, hh⟩]⟩
              have hsz4 := HBj.out.size
              go_wp2_with (first | (go_at_call 89; refine (has_any s _ Aj cj wr (Kd.N_reads' HNj.out).2.2).mono ?_; rintro e w5 ⟨rfl, hb5⟩; simp only [hh]; have HB6 := Aside0.mk hb5; have HN6 := Aside0.mk (Kd.N_below HNj.out hb5); have hz6 := hb5.size; have F6 := oldc hb5 F0; clear hb5) | (at_builtin; refine Kd.N_append (Kd.int .i64) (w0 := w5) w.heap.size rfl _ _ 22 3 _ 8 rfl Try.underlying22 infoI rfl (by decide) (by decide) (.slice Aj s.length cj) s (rd_Tm pts (j : Int)).f0 [.int .i64 (rd_Tm pts (j : Int)).f0] (fun j => (w.heap.size ≤ j ∧ j < wo.heap.size) ∨ w3.heap.size ≤ j) (fun _ => False) rfl rfl (fun _ _ => rfl) (fun _ h => h.elim) (fun q hq => .inr (by omega)) HN6.out (Below.refl _ _) (by omega) ?_ ?_; (have := HSB.out; omega); intro v7 w7 hN7 hB7 hG7 hI7; have HN7 := Aside0.mk hN7; have HB7 := Aside0.mk hB7; have HG7 := Aside0.mk hG7; clear hN7 hB7 hG7 hI7))
              go_roundw
              case rel =>
                have hz7 := HG7.out.size
                exact ⟨j + 1, _, by omega, by go_num, rfl, ⟨by rw [HR.out]; exact HN7.out⟩, ⟨Kd.F_grown (Kd.F_below HFj.out HB6.out) HG7.out (fun q hq => fun e => by
                  have h1 := HN6.out.1 q e.symm
                  have := hq.2
                  rcases h1 with h1 | h1
                  · rcases hq.1 with h2 | h2
                    · have := h2.2; omega
                    · omega
                  · omega)⟩, ⟨(hbT HBj.out HB6.out).trans HB7.out⟩, by omega⟩
              case measure => simp [intOf]; omega
          · have HR : Aside0 (fvP (fvL [] (l.take k)) (pts.take (j+1)) = s) := ⟨by rw [HPK.out, stepV, if_neg (by simp [hp])]⟩
            go_wp2
            go_roundw
            case rel => exact ⟨j + 1, _, by omega, by go_num, rfl, ⟨by rw [HR.out]; exact HNj.out⟩, HFj, HBj, hzj⟩
            case measure => simp [intOf]; omega
        · obtain rfl : j = pts.length := by omega
          have HR : Aside0 (fvL [] (l.take (k+1)) = fvP (fvL [] (l.take k)) (pts.take pts.length)) := ⟨by rw [HTK.out, List.take_length]⟩
          go_wp2
          go_roundw
          case rel => exact ⟨k + 1, vj, by omega, by go_num, rfl, ⟨by rw [HR.out]; exact Kd.N_mono HNj.out (fun q hq => by rcases hq with hq | hq <;> omega)⟩, HBj⟩
          case measure => simp [intOf]; omega
    · obtain rfl : k = l.length := by omega
      have HN2 := HN.out
      rw [List.take_length] at HN2
      have HN2 := Aside0.mk HN2
      go_wp2
      go_ret
      first | exact ⟨vk, rfl, HN2.out, HB.out⟩ | exact ⟨rfl, vk, HN2.out, HB.out⟩
end Go.Proofs.Ytcgnpmjkeifokaa
-- KMap
/- Maps keyed by whole numbers, told as the list of their entries in the order in which they came. -/
namespace Go.Proofs.Ytcgnpmjkeifokaa
open Go.RowKit Go.Proofs.YtcgnpmjkeifokaaW.PrintWords
set_option linter.unusedVariables false
set_option linter.unusedSimpArgs false
set_option linter.unusedSectionVars false

section
variable {κ α : Type} [DecidableEq κ]
def mget : List (κ × α) → κ → Option α
  | [], _ => none
  | p :: m, k => if p.1 = k then some p.2 else mget m k
def mset : List (κ × α) → κ → α → List (κ × α)
  | [], k, x => [(k, x)]
  | p :: m, k, x => if p.1 = k then (k, x) :: m else p :: mset m k x
theorem mset_new {m : List (κ × α)} {k : κ} (h : mget m k = none) (x : α) : mset m k x = m ++ [(k, x)] := by
  induction m with
  | nil => rfl
  | cons p m ih =>
    rw [mget] at h
    by_cases hk : p.1 = k
    · rw [if_pos hk] at h; cases h
    · rw [if_neg hk] at h; rw [mset, if_neg hk, ih h]; rfl
theorem mget_set {m : List (κ × α)} {k k' : κ} {x : α} : mget (mset m k x) k' = if k = k' then some x else mget m k' := by
  induction m with
  | nil => rw [mset, mget, mget]; rfl
  | cons p m ih =>
    rw [mset]
    by_cases hk : p.1 = k
    · rw [if_pos hk, mget, mget, hk]
      by_cases h2 : k = k'
      · simp [h2]
      · simp [h2]
    · rw [if_neg hk, mget, mget, ih]
      by_cases h2 : p.1 = k'
      · rw [if_pos h2, if_pos h2, if_neg (fun e => hk (h2.trans e.symm))]
      · rw [if_neg h2, if_neg h2]
theorem mset_len (m : List (κ × α)) (k : κ) (x : α) : (mset m k x).length ≤ m.length + 1 := by
  induction m with
  | nil => simp [mset]
  | cons p m ih =>
    rw [mset]
    by_cases hk : p.1 = k
    · simp [hk]
    · simp [hk]; omega
/-- Entries and what they are told as. -/
def Ents (ke : κ → Value) (vr : α → Value → Prop) : List MapEntry → List (κ × α) → Prop
  | [], [] => True
  | e :: es, p :: m => e.key = ke p.1 ∧ vr p.2 e.val ∧ Ents ke vr es m
  | _, _ => False
theorem Ents.imp {ke : κ → Value} {vr vr' : α → Value → Prop} (h : ∀ x v, vr x v → vr' x v) : ∀ {es : List MapEntry} {m : List (κ × α)}, Ents ke vr es m → Ents ke vr' es m
  | [], [], _ => trivial
  | _ :: _, _ :: _, hh => ⟨hh.1, h _ _ hh.2.1, Ents.imp h hh.2.2⟩
  | [], _ :: _, hh => hh.elim
  | _ :: _, [], hh => hh.elim
theorem Ents.len {ke : κ → Value} {vr : α → Value → Prop} : ∀ {es : List MapEntry} {m : List (κ × α)}, Ents ke vr es m → es.length = m.length
  | [], [], _ => rfl
  | _ :: _, _ :: _, hh => by simp [Ents.len hh.2.2]
  | [], _ :: _, hh => hh.elim
  | _ :: _, [], hh => hh.elim
theorem Ents.push {ke : κ → Value} {vr : α → Value → Prop} {e : MapEntry} {k : κ} {x : α} (hk : e.key = ke k) (hv : vr x e.val) : ∀ {es : List MapEntry} {m : List (κ × α)}, Ents ke vr es m → Ents ke vr (es ++ [e]) (m ++ [(k, x)])
  | [], [], _ => ⟨hk, hv, trivial⟩
  | _ :: _, _ :: _, hh => ⟨hh.1, hh.2.1, Ents.push hk hv hh.2.2⟩
  | [], _ :: _, hh => hh.elim
  | _ :: _, [], hh => hh.elim
theorem Ents.find {d : TypeDesc} {ke : κ → Value} {vr : α → Value → Prop} (hs : ∀ a b, Instr.sameNow d (ke a) (ke b) = some (decide (a = b))) (k : κ) : ∀ {es : List MapEntry} {m : List (κ × α)} (i : Nat), Ents ke vr es m →
    (mget m k = none ∧ Instr.findNow d (ke k) es i = some none) ∨
    ∃ j e x, mget m k = some x ∧ Instr.findNow d (ke k) es i = some (some (i + j, e.val)) ∧ es[j]? = some e ∧ e.key = ke k ∧ vr x e.val ∧ ∀ y v, vr y v → Ents ke vr (es.modify j fun e => { e with key := ke k, val := v }) (mset m k y)
  | [], [], i, _ => .inl ⟨rfl, rfl⟩
  | e :: es, p :: m, i, hh => by
    by_cases hk : p.1 = k
    · refine .inr ⟨0, e, p.2, by rw [mget, if_pos hk], ?_, rfl, by rw [hh.1, hk], hh.2.1, fun y v hv => ?_⟩
      · rw [Instr.findNow, hh.1, hs]; simp [hk]
      · rw [mset, if_pos hk]; exact ⟨rfl, hv, hh.2.2⟩
    · have hf : Instr.findNow d (ke k) (e :: es) i = Instr.findNow d (ke k) es (i + 1) := by
        rw [Instr.findNow, hh.1, hs]; simp [Ne.symm hk]
      rcases Ents.find hs k (i + 1) hh.2.2 with ⟨h1, h2⟩ | ⟨j, e2, x, h1, h2, h3, h4, h5, h6⟩
      · exact .inl ⟨by rw [mget, if_neg hk, h1], by rw [hf, h2]⟩
      · refine .inr ⟨j + 1, e2, x, by rw [mget, if_neg hk, h1], by rw [hf, h2]; simp; omega, h3, h4, h5, fun y v hv => ?_⟩
        rw [mset, if_neg hk]
        exact ⟨hh.1, hh.2.1, h6 y v hv⟩
  | [], _ :: _, _, hh => hh.elim
  | _ :: _, [], _, hh => hh.elim

/-- Block b is a map. -/
def MapR (W : World) (b : Nat) (ke : κ → Value) (vr : α → Value → Prop) (m : List (κ × α)) : Prop := ∃ es clock, W.heap[b]? = some (.map es clock) ∧ Ents ke vr es.toList m
variable {P : Program} {w : World} {b : Nat} {ke : κ → Value} {vr : α → Value → Prop} {m : List (κ × α)} {t kt et : TypeId} {d : TypeDesc}
theorem MapR.lt (h : MapR w b ke vr m) : b < w.heap.size := by
  obtain ⟨es, clock, hb, _⟩ := h
  exact (Array.getElem?_eq_some_iff.1 hb).1
theorem MapR.step {w' : World} {vr' : α → Value → Prop} (h : MapR w b ke vr m) (hb : w'.heap[b]? = w.heap[b]?) (hv : ∀ x v, vr x v → vr' x v) : MapR w' b ke vr' m := by
  obtain ⟨es, clock, h1, h2⟩ := h
  exact ⟨es, clock, hb.trans h1, h2.imp hv⟩
theorem MapR.made (w : World) : MapR (w.alloc (.map #[] 0)) w.heap.size ke vr ([] : List (κ × α)) := ⟨#[], 0, heap_alloc_new _ _, trivial⟩
theorem MapR.look (h : MapR w b ke vr m) (hs : ∀ a b, Instr.sameNow d (ke a) (ke b) = some (decide (a = b))) (hik : ∀ a, MapKept.IsKey d (ke a)) (ht : P.underlying t = some (.map kt et)) (hk : P.underlying kt = some d) {z : Value} (hz : (zeroValue et).run P w = .ok z w) (k : κ) :
    ∃ v, (Instr.lookup t (.map (some b)) (ke k) true).run P w = .ok (.tuple #[v, .bool (mget m k).isSome]) w ∧ (mget m k = none → v = z) ∧ ∀ x, mget m k = some x → vr x v := by
  obtain ⟨es, clock, hb, hE⟩ := h
  rcases hE.find hs k 0 with ⟨h1, h2⟩ | ⟨j, e, x, h1, h2, h3, h4, h5, _⟩
  · refine ⟨z, ?_, fun _ => rfl, fun x hx => by rw [h1] at hx; cases hx⟩
    simp [Instr.lookup, run_underlying ht, MapKept.run_getObj_map hb, MapKept.run_checkKey hk (hik k), MapKept.run_findKey hk h2, hz, h1, Result.andThen]
  · refine ⟨e.val, ?_, fun hx => (by rw [h1] at hx; cases hx), fun y hy => by rw [h1] at hy; injection hy with hy; subst hy; exact h5⟩
    simp [Instr.lookup, run_underlying ht, MapKept.run_getObj_map hb, MapKept.run_checkKey hk (hik k), MapKept.run_findKey hk h2, h1, Result.andThen]
theorem MapR.look1 (h : MapR w b ke vr m) (hs : ∀ a b, Instr.sameNow d (ke a) (ke b) = some (decide (a = b))) (hik : ∀ a, MapKept.IsKey d (ke a)) (ht : P.underlying t = some (.map kt et)) (hk : P.underlying kt = some d) {z : Value} (hz : (zeroValue et).run P w = .ok z w) (k : κ) :
    ∃ v, (Instr.lookup t (.map (some b)) (ke k) false).run P w = .ok v w ∧ (mget m k = none → v = z) ∧ ∀ x, mget m k = some x → vr x v := by
  obtain ⟨es, clock, hb, hE⟩ := h
  rcases hE.find hs k 0 with ⟨h1, h2⟩ | ⟨j, e, x, h1, h2, h3, h4, h5, _⟩
  · refine ⟨z, ?_, fun _ => rfl, fun x hx => by rw [h1] at hx; cases hx⟩
    simp [Instr.lookup, run_underlying ht, MapKept.run_getObj_map hb, MapKept.run_checkKey hk (hik k), MapKept.run_findKey hk h2, hz, h1, Result.andThen]
  · refine ⟨e.val, ?_, fun hx => (by rw [h1] at hx; cases hx), fun y hy => by rw [h1] at hy; injection hy with hy; subst hy; exact h5⟩
    simp [Instr.lookup, run_underlying ht, MapKept.run_getObj_map hb, MapKept.run_checkKey hk (hik k), MapKept.run_findKey hk h2, h1, Result.andThen]
theorem MapR.upd (h : MapR w b ke vr m) (hs : ∀ a b, Instr.sameNow d (ke a) (ke b) = some (decide (a = b))) (hik : ∀ a, MapKept.IsKey d (ke a)) (ht : P.underlying t = some (.map kt et)) (hk : P.underlying kt = some d) (k : κ) (x : α) {v : Value} (hv : vr x v) :
    ∃ w', (Instr.mapUpdate t (.map (some b)) (ke k) v).run P w = .ok () w' ∧ MapR w' b ke vr (mset m k x) ∧ w.grownBy w' (some b) ∧ w'.heap.size = w.heap.size := by
  obtain ⟨es, clock, hb, hE⟩ := h
  have hgr : ∀ o : Obj, w.grownBy { w with heap := w.heap.setIfInBounds b o } (some b) := fun o => ⟨rfl, rfl, rfl, by simp, fun i hi hne => (MapKept.heap_set (o' := o) hb).2 i (fun e => hne (by rw [e]))⟩
  rcases hE.find hs k 0 with ⟨h1, h2⟩ | ⟨j, e, x0, h1, h2, h3, h4, h5, h6⟩
  · refine ⟨{ w with heap := w.heap.setIfInBounds b (.map (es.push { key := ke k, val := v, born := clock }) (clock + 1)) }, ?_, ⟨_, _, (MapKept.heap_set hb).1, ?_⟩, hgr _, by simp⟩
    · simp [Instr.mapUpdate, run_underlying ht, MapKept.run_getObj_map hb, MapKept.run_checkKey hk (hik k), MapKept.run_findKey hk h2, MapKept.run_setObj_map _ hb, Result.andThen]
    · rw [mset_new h1, Array.toList_push]
      exact Ents.push (e := { key := ke k, val := v, born := clock }) (k := k) (x := x) rfl hv hE
  · have he : es[0 + j]? = some e := by rw [Nat.zero_add, ← Array.getElem?_toList]; exact h3
    refine ⟨{ w with heap := w.heap.setIfInBounds b (.map (es.modify (0 + j) fun e => { e with key := ke k, val := v }) clock) }, ?_, ⟨_, _, (MapKept.heap_set hb).1, ?_⟩, hgr _, by simp⟩
    · simp only [Nat.zero_add] at he h2
      simp [Instr.mapUpdate, run_underlying ht, MapKept.run_getObj_map hb, MapKept.run_checkKey hk (hik k), MapKept.run_findKey hk h2, MapKept.run_setObj_map _ hb, Result.andThen, he, h4, MapKept.run_keyThatStays (hik k)]
    · rw [Nat.zero_add, Array.toList_modify]
      exact h6 x v hv
end

/-! ### keys that are whole numbers -/
def keI (k : Int) : Value := .int .i64 k
theorem sameI (a b : Int) : Instr.sameNow (.int .i64) (keI a) (keI b) = some (decide (a = b)) := by
  unfold keI Instr.sameNow
  simp
  rw [Bool.eq_iff_iff]; simp
theorem isI (a : Int) : MapKept.IsKey (.int .i64) (keI a) := rfl

/-! ### elements that are terms -/
def vrT (W : World) (ok : Nat → Prop) (t : Tm) (v : Value) : Prop := ∃ A c, v = .agg #[.int .i64 t.f0, .int .i64 t.f1, .slice A t.f2.length c] ∧ t.f2.length ≤ c ∧ Kd.F kTm W ok A t.f2.length t.f2
def MapT (W : World) (b : Nat) (ok : Nat → Prop) (m : List (Int × Tm)) : Prop := MapR W b keI (vrT W ok) m
theorem vrT.step {W W' : World} {ok : Nat → Prop} {t : Tm} {v : Value} (h : vrT W ok t v) (hm : ∀ k, ok k → k < W.heap.size → W'.heap[k]? = W.heap[k]?) : vrT W' ok t v := by
  obtain ⟨A, c, h1, h2, h3⟩ := h
  exact ⟨A, c, h1, h2, Kd.F_step h3 hm⟩
theorem MapT.below {W W' : World} {b : Nat} {ok : Nat → Prop} {m : List (Int × Tm)} (h : MapT W b ok m) (hb : Below W.heap.size W W') : MapT W' b ok m :=
  MapR.step h (hb.block _ h.lt) (fun x v hv => hv.step (fun k _ hlt => hb.block k hlt))
theorem MapT.grown {W W' : World} {b g : Nat} {ok : Nat → Prop} {m : List (Int × Tm)} (h : MapT W b ok m) (hg : W.grownBy W' (some g)) (hne : b ≠ g) (hok : ∀ k, ok k → k ≠ g) : MapT W' b ok m :=
  MapR.step h (hg.block _ h.lt (fun e => hne (by injection e))) (fun x v hv => hv.step (fun k hk hlt => hg.block k hlt (fun e => hok k hk (by injection e))))
theorem MapT.mono {W : World} {b : Nat} {ok ok' : Nat → Prop} {m : List (Int × Tm)} (h : MapT W b ok m) (hm : ∀ k, ok k → ok' k) : MapT W b ok' m :=
  MapR.step h rfl (fun x v ⟨A, c, h1, h2, h3⟩ => ⟨A, c, h1, h2, Kd.F_mono h3 hm⟩)
theorem MapT.bound {W : World} {b : Nat} {ok : Nat → Prop} {m : List (Int × Tm)} (h : MapT W b ok m) : MapT W b (fun k => ok k ∧ k < W.heap.size) m :=
  MapR.step h rfl (fun x v ⟨A, c, h1, h2, h3⟩ => ⟨A, c, h1, h2, Kd.F_bound h3⟩)
theorem zeroTm (w : World) : (zeroValue 46).run Try.prog w = .ok (.agg #[.int .i64 0, .int .i64 0, .slice none 0 0]) w := by kernel_rfl
def T_map : TypeId := 121
theorem un_map : Try.prog.underlying T_map = some (.map 3 46) := Try.underlying121
def mgetT (m : List (Int × Tm)) (k : Int) : Tm := (mget m k).getD zTm
def mhas (m : List (Int × Tm)) (k : Int) : Bool := (mget m k).isSome
section
variable {ops : Array Oper} {rest : List Oper} {o : Oper} {a : Act} {Q : Exit → Act → World → Prop} {w : World} {b : Nat} {ok : Nat → Prop} {m : List (Int × Tm)}
/-- A look-up, at the operation. -/
theorem wp_lookT (hg : o.guard = none) (mp x : Operand) (hop : o.op = Op.lookup T_map mp x true) (hm : a.eval mp = .map (some b)) (h : MapT w b ok m) (k : Int) (hx : a.eval x = .int .i64 k)
    (hK : ∀ A c, (mgetT m k).f2.length ≤ c → Kd.F kTm w ok A (mgetT m k).f2.length (mgetT m k).f2 → wpList Try.prog ops Q rest (a.put o.dst (.tuple #[.agg #[.int .i64 (mgetT m k).f0, .int .i64 (mgetT m k).f1, .slice A (mgetT m k).f2.length c], .bool (mhas m k)])) w) :
    wpList Try.prog ops Q (o :: rest) a w := by
  refine wpList_plain hg fun K' hK' => ?_
  obtain ⟨v, hrun, h1, h2⟩ := MapR.look h sameI isI un_map Try.underlying3 (zeroTm w) k
  have hv : ∃ A c, v = .agg #[.int .i64 (mgetT m k).f0, .int .i64 (mgetT m k).f1, .slice A (mgetT m k).f2.length c] ∧ (mgetT m k).f2.length ≤ c ∧ Kd.F kTm w ok A (mgetT m k).f2.length (mgetT m k).f2 := by
    unfold mgetT
    cases hh : mget m k with
    | none => exact ⟨none, 0, h1 hh, Nat.le_refl _, F_none _ _⟩
    | some x => exact h2 x hh
  obtain ⟨A, c, rfl, h3, h4⟩ := hv
  unfold Oper.wp
  have hrun2 : (Instr.lookup T_map (.map (some b)) (.int .i64 k) true).run Try.prog w = .ok (.tuple #[.agg #[.int .i64 (mgetT m k).f0, .int .i64 (mgetT m k).f1, .slice A (mgetT m k).f2.length c], .bool (mhas m k)]) w := hrun
  simp [execOp, hop, hm, hx, hrun2, Result.andThen]
  exact hK' _ _ (hK A c h3 h4)
/-- A store into a map, at the operation. -/
theorem wp_updT (hg : o.guard = none) (mp x v : Operand) (hop : o.op = Op.mapUpdate T_map mp x v) (hm : a.eval mp = .map (some b)) (h : MapT w b ok m) (k : Int) (hx : a.eval x = .int .i64 k) (t : Tm) (A : Option Addr) (c : Nat) (hv : a.eval v = .agg #[.int .i64 t.f0, .int .i64 t.f1, .slice A t.f2.length c]) (hc : t.f2.length ≤ c) (hF : Kd.F kTm w ok A t.f2.length t.f2) (hok : ∀ k, ok k → k ≠ b)
    (hK : ∀ w', MapT w' b ok (mset m k t) → w.grownBy w' (some b) → wpList Try.prog ops Q rest (a.put o.dst undef) w') :
    wpList Try.prog ops Q (o :: rest) a w := by
  refine wpList_plain hg fun K' hK' => ?_
  obtain ⟨w', hrun, h1, h2, _⟩ := MapR.upd h sameI isI un_map Try.underlying3 k t (v := .agg #[.int .i64 t.f0, .int .i64 t.f1, .slice A t.f2.length c]) ⟨A, c, rfl, hc, hF⟩
  have hM : MapT w' b ok (mset m k t) := MapR.step h1 rfl (fun x v hv => hv.step (fun k hk hlt => h2.block k hlt (fun e => hok k hk (by injection e))))
  unfold Oper.wp
  have hrun2 : (Instr.mapUpdate T_map (.map (some b)) (.int .i64 k) (.agg #[.int .i64 t.f0, .int .i64 t.f1, .slice A t.f2.length c])).run Try.prog w = .ok () w' := hrun
  simp [execOp, hop, hm, hx, hv, hrun2, Result.andThen]
  exact hK' _ _ (hK w' hM h2)
end
theorem MapT.made (w : World) (ok : Nat → Prop) : MapT (w.alloc (.map #[] 0)) w.heap.size ok [] := MapR.made w
end Go.Proofs.Ytcgnpmjkeifokaa
-- KLi
/- Literals in blocks of their own; rows of literals. -/
namespace Go.Proofs.Ytcgnpmjkeifokaa
open Go.RowKit Go.Proofs.YtcgnpmjkeifokaaW.PrintWords
set_option linter.unusedVariables false
set_option linter.unusedSimpArgs false

theorem sizeLi : (Try.prog.info? 84).map (·.size) = some 7 := by kernel_rfl
theorem one7 (y : Bool) (a b : Int) (A : Option Addr) (n c : Nat) (a' b' : Int) (A' : Option Addr) (n' c' : Nat) : ∀ q ∈ [Value.bool y, .int .i64 a, .int .i64 b, .slice A n c, .int .i64 a', .int .i64 b', .slice A' n' c'], q.oneCell' = true := by
  intro q hq
  simp only [List.mem_cons, List.not_mem_nil, or_false] at hq
  rcases hq with rfl | rfl | rfl | rfl | rfl | rfl | rfl <;> rfl
section
variable {ops : Array Oper} {rest : List Oper} {o : Oper} {act : Act} {Q : Exit → Act → World → Prop} {W : World}
/-- A literal into a literal's own block. -/
theorem st_li (p : Tmp) {x : Operand} (ho : o.op = .store 84 (.tmp p) x) (hgd : o.guard = none) (hN : o.dst = none) {g : Nat} {y z : Bool} {a b a' b' q r q' r' : Int} {A A' B B' : Option Addr} {n c n' c' k d k' d' : Nat}
    (haddr : act.eval (.tmp p) = .pointer (some ⟨g, 0, none⟩)) (hx : act.eval x = .agg #[.bool z, .int .i64 a', .int .i64 b', .slice A' n' c', .int .i64 q', .int .i64 r', .slice B' k' d'])
    (hh : W.heap[g]? = some (.cells #[.bool y, .int .i64 a, .int .i64 b, .slice A n c, .int .i64 q, .int .i64 r, .slice B k d] 84 (0, 0)))
    (h : ∀ w1, w1.heap[g]? = some (.cells #[.bool z, .int .i64 a', .int .i64 b', .slice A' n' c', .int .i64 q', .int .i64 r', .slice B' k' d'] 84 (0, 0)) → W.grownBy w1 (some g) → w1.heap.size = W.heap.size → wpList Try.prog ops Q rest act w1) : wpList Try.prog ops Q (o :: rest) act W :=
  st_blk hgd hN ho #[.bool z, .int .i64 a', .int .i64 b', .slice A' n' c', .int .i64 q', .int .i64 r', .slice B' k' d'] [.bool z, .int .i64 a', .int .i64 b', .slice A' n' c', .int .i64 q', .int .i64 r', .slice B' k' d'] haddr hx rfl sizeLi (one7 _ _ _ _ _ _ _ _ _ _ _) hh (Nat.le_refl 7) rfl h
end
theorem li_cells {W : World} {g e : Nat} {y : Bool} {a b q r : Int} {A B : Option Addr} {n c k d : Nat} (h : W.heap[g]? = some (.cells #[.bool y, .int .i64 a, .int .i64 b, .slice A n c, .int .i64 q, .int .i64 r, .slice B k d] e (0, 0))) :
    W.cell? ⟨g, 0, none⟩ = some (.bool y) ∧ W.cell? ⟨g, 1, none⟩ = some (.int .i64 a) ∧ W.cell? ⟨g, 2, none⟩ = some (.int .i64 b) ∧ W.cell? ⟨g, 3, none⟩ = some (.slice A n c) ∧ W.cell? ⟨g, 4, none⟩ = some (.int .i64 q) ∧ W.cell? ⟨g, 5, none⟩ = some (.int .i64 r) ∧ W.cell? ⟨g, 6, none⟩ = some (.slice B k d) :=
  ⟨(blk_cell h 0).trans rfl, (blk_cell h 1).trans rfl, (blk_cell h 2).trans rfl, (blk_cell h 3).trans rfl, (blk_cell h 4).trans rfl, (blk_cell h 5).trans rfl, (blk_cell h 6).trans rfl⟩
/-- A literal's two terms, read. -/
structure LiF (W : World) (ok : Nat → Prop) (x : Li) (A3 : Option Addr) (c3 : Nat) (A6 : Option Addr) (c6 : Nat) : Prop where
  l3 : x.f1.f2.length ≤ c3
  F3 : Kd.F kTm W ok A3 x.f1.f2.length x.f1.f2
  l6 : x.f2.f2.length ≤ c6
  F6 : Kd.F kTm W ok A6 x.f2.f2.length x.f2.f2
theorem LiF.below {W W' : World} {ok : Nat → Prop} {x : Li} {A3 : Option Addr} {c3 : Nat} {A6 : Option Addr} {c6 : Nat} (h : LiF W ok x A3 c3 A6 c6) (hb : Below W.heap.size W W') : LiF W' ok x A3 c3 A6 c6 := ⟨h.l3, Kd.F_below h.F3 hb, h.l6, Kd.F_below h.F6 hb⟩
theorem LiF.mono {W : World} {ok ok' : Nat → Prop} {x : Li} {A3 : Option Addr} {c3 : Nat} {A6 : Option Addr} {c6 : Nat} (h : LiF W ok x A3 c3 A6 c6) (hm : ∀ k, ok k → ok' k) : LiF W ok' x A3 c3 A6 c6 := ⟨h.l3, Kd.F_mono h.F3 hm, h.l6, Kd.F_mono h.F6 hm⟩
theorem LiF.bound {W : World} {ok : Nat → Prop} {x : Li} {A3 : Option Addr} {c3 : Nat} {A6 : Option Addr} {c6 : Nat} (h : LiF W ok x A3 c3 A6 c6) : LiF W (fun k => ok k ∧ k < W.heap.size) x A3 c3 A6 c6 := ⟨h.l3, Kd.F_bound h.F3, h.l6, Kd.F_bound h.F6⟩
theorem LiF.grown {W W' : World} {ok : Nat → Prop} {x : Li} {A3 : Option Addr} {c3 : Nat} {A6 : Option Addr} {c6 g : Nat} (h : LiF W ok x A3 c3 A6 c6) (hg : W.grownBy W' (some g)) (hne : ∀ k, ok k → k ≠ g) : LiF W' ok x A3 c3 A6 c6 := ⟨h.l3, Kd.F_grown h.F3 hg (fun k hk e => hne k hk (by injection e)), h.l6, Kd.F_grown h.F6 hg (fun k hk e => hne k hk (by injection e))⟩
theorem LiF.FK {W : World} {ok : Nat → Prop} {x : Li} {A3 : Option Addr} {c3 : Nat} {A6 : Option Addr} {c6 : Nat} (h : LiF W ok x A3 c3 A6 c6) : Kd.FK kLi W ok x [.bool x.f0, .int .i64 x.f1.f0, .int .i64 x.f1.f1, .slice A3 x.f1.f2.length c3, .int .i64 x.f2.f0, .int .i64 x.f2.f1, .slice A6 x.f2.f2.length c6] := kLi_mkF W ok x h.l3 h.F3 h.l6 h.F6
/-- An element of a row of literals. -/
theorem at_Lit {w : World} {ok : Nat → Prop} {A : Option Addr} {n : Nat} {xs : List Li} (h : Kd.F kLi w ok A n xs) (i : Nat) (h1 : i < n) : ∃ ad A3 c3 A6 c6, A = some ad ∧ w.cell? (ad.add (i * 7)) = some (.bool (rd_Li xs i).f0) ∧
    w.cell? ⟨(ad.add (i * 7)).block, (ad.add (i * 7)).off + 1, none⟩ = some (.int .i64 (rd_Li xs i).f1.f0) ∧ w.cell? ⟨(ad.add (i * 7)).block, (ad.add (i * 7)).off + 2, none⟩ = some (.int .i64 (rd_Li xs i).f1.f1) ∧ w.cell? ⟨(ad.add (i * 7)).block, (ad.add (i * 7)).off + 3, none⟩ = some (.slice A3 (rd_Li xs i).f1.f2.length c3) ∧
    w.cell? ⟨(ad.add (i * 7)).block, (ad.add (i * 7)).off + 4, none⟩ = some (.int .i64 (rd_Li xs i).f2.f0) ∧ w.cell? ⟨(ad.add (i * 7)).block, (ad.add (i * 7)).off + 5, none⟩ = some (.int .i64 (rd_Li xs i).f2.f1) ∧ w.cell? ⟨(ad.add (i * 7)).block, (ad.add (i * 7)).off + 6, none⟩ = some (.slice A6 (rd_Li xs i).f2.f2.length c6) ∧ LiF w ok (rd_Li xs i) A3 c3 A6 c6 ∧ ok ad.block := by
  obtain ⟨ad, A3, c3, A6, c6, e, e0, e1, e2, e3, e4, e5, e6, l3, g3, l6, g6, hk⟩ := at_LiF h (i : Int) (by omega) (by omega)
  simp only [Int.toNat_natCast] at e0 e1 e2 e3 e4 e5 e6
  exact ⟨ad, A3, c3, A6, c6, e, e0, e1, e2, e3, e4, e5, e6, ⟨l3, g3, l6, g6⟩, hk⟩
theorem rdLi_mem (l : List Li) (i : Nat) (h : i < l.length) : rd_Li l i ∈ l := by rw [rdLi_get l i h]; exact List.getElem_mem h
def turnL (x : Li) : Li := ⟨x.f0, x.f2, x.f1⟩
theorem LiF.turn {W : World} {ok : Nat → Prop} {x : Li} {A3 : Option Addr} {c3 : Nat} {A6 : Option Addr} {c6 : Nat} (h : LiF W ok x A3 c3 A6 c6) : LiF W ok (turnL x) A6 c6 A3 c3 := ⟨h.l6, h.F6, h.l3, h.F3⟩
/-- A row of two literals that was just laid. -/
theorem F_li2 {W : World} {ok : Nat → Prop} {gb : Nat} {x y : Li} {A3 A6 B3 B6 : Option Addr} {c3 c6 d3 d6 : Nat} (hb : W.heap[gb]? = some (.cells #[.bool x.f0, .int .i64 x.f1.f0, .int .i64 x.f1.f1, .slice A3 x.f1.f2.length c3, .int .i64 x.f2.f0, .int .i64 x.f2.f1, .slice A6 x.f2.f2.length c6, .bool y.f0, .int .i64 y.f1.f0, .int .i64 y.f1.f1, .slice B3 y.f1.f2.length d3, .int .i64 y.f2.f0, .int .i64 y.f2.f1, .slice B6 y.f2.f2.length d6] 84 (0, 0)))
    (hx : LiF W ok x A3 c3 A6 c6) (hy : LiF W ok y B3 d3 B6 d6) : Kd.F kLi W (fun k => ok k ∨ k = gb) (some ⟨gb, 0, none⟩) [x, y].length [x, y] :=
  F_lit (d := kLi) [[.bool x.f0, .int .i64 x.f1.f0, .int .i64 x.f1.f1, .slice A3 x.f1.f2.length c3, .int .i64 x.f2.f0, .int .i64 x.f2.f1, .slice A6 x.f2.f2.length c6], [.bool y.f0, .int .i64 y.f1.f0, .int .i64 y.f1.f1, .slice B3 y.f1.f2.length d3, .int .i64 y.f2.f0, .int .i64 y.f2.f1, .slice B6 y.f2.f2.length d6]] hb rfl (by simp) (fun j z c' hz hc' => by
    match j with
    | 0 => simp at hz hc'; subst hz hc'; exact hx.FK
    | 1 => simp at hz hc'; subst hz hc'; exact hy.FK
    | j + 2 => simp at hz)
theorem dropLi {w : World} {ok : Nat → Prop} {av : Addr} {x : Li} {xs : List Li} {c : Nat} (h : Kd.F kLi w ok (some av) (x :: xs).length (x :: xs)) (hc : (x :: xs).length ≤ c) : Kd.F kLi w ok (if c = 1 then some av else some { block := av.block, off := av.off + 7 : Addr }) xs.length xs := by
  refine Kd.F_imp h (fun W' hC => ?_)
  have h1 := Kd.C_drop (m := 1) hC (by simp) hc
  have e2 : (some av).map (·.add (1 * kLi.sz)) = some { block := av.block, off := av.off + 7 : Addr } := by
    have : kLi.sz = 7 := rfl
    rw [this]; simp [Addr.add]
  rw [e2] at h1
  exact h1
end Go.Proofs.Ytcgnpmjkeifokaa
-- K40
/- slices.EqualFunc over terms by a function that passes a state on; subst.Meet. -/
namespace Go.Proofs.Ytcgnpmjkeifokaa
open Go.RowKit Go.Proofs.YtcgnpmjkeifokaaW.PrintWords
set_option linter.unusedVariables false
set_option linter.unusedSimpArgs false

section
variable {σ : Type}
def goS (f : σ → Tm → Tm → σ × Bool) : σ → List (Tm × Tm) → σ × Bool
  | s, [] => (s, true)
  | s, p :: ps => if (f s p.1 p.2).2 then goS f (f s p.1 p.2).1 ps else ((f s p.1 p.2).1, false)
theorem goS_append (f : σ → Tm → Tm → σ × Bool) (a b : List (Tm × Tm)) : ∀ s, goS f s (a ++ b) = if (goS f s a).2 then goS f (goS f s a).1 b else ((goS f s a).1, false) := by
  induction a with
  | nil => intro s; simp [goS]
  | cons p ps ih =>
    intro s
    simp only [List.cons_append, goS]
    by_cases h : (f s p.1 p.2).2 = true
    · simp only [h, if_true]; exact ih _
    · simp [h]
theorem goS_take_succ (f : σ → Tm → Tm → σ × Bool) (s : σ) (l : List (Tm × Tm)) (k : Nat) (hk : k < l.length) (s1 : σ) (h : goS f s (l.take k) = (s1, true)) : goS f s (l.take (k+1)) = ((f s1 l[k].1 l[k].2).1, (f s1 l[k].1 l[k].2).2) := by
  rw [List.take_succ_eq_append_getElem hk, goS_append, h]
  simp only [if_true, goS]
  by_cases h2 : (f s1 l[k].1 l[k].2).2 = true
  · simp [h2]
  · simp [h2]
theorem goS_bad (f : σ → Tm → Tm → σ × Bool) (s : σ) (l : List (Tm × Tm)) (k : Nat) (s1 : σ) (h : goS f s (l.take k) = (s1, false)) : goS f s l = (s1, false) := by
  have := goS_append f (l.take k) (l.drop k) s
  rw [List.take_append_drop, h] at this
  simpa using this
def eqS (f : σ → Tm → Tm → σ × Bool) (s : σ) (xs ys : List Tm) : σ × Bool := if xs.length = ys.length then goS f s (xs.zip ys) else (s, false)

set_option maxHeartbeats 4000000 in
set_option maxRecDepth 100000 in
theorem equalS (g : Nat) (lb : Array Value) (f : σ → Tm → Tm → σ × Bool) (b : Nat) (St : σ → World → Prop) (hst : ∀ s W W', St s W → Below W.heap.size W W' → St s W') (eg : ∀ args w, (callFunc g args).run Try.prog w = .ok (.enter g args) w)
    (xs ys : List Tm) (A B : Option Addr) (c d : Nat) (okx oky : Nat → Prop) (w : World) (s : σ) (hF : Kd.F kTm w okx A xs.length xs) (hF2 : Kd.F kTm w oky B ys.length ys) (hx : ∀ k, okx k → k ≠ b) (hy : ∀ k, oky k → k ≠ b) (hs0 : St s w)
    (hp : ∀ x, x ∈ xs → ∀ y, y ∈ ys → ∀ (Ax Ay : Option Addr) (cx cy : Nat) (W : World) (s1 : σ), w.grownBy W (some b) → Kd.F kTm W okx Ax x.f2.length x.f2 → x.f2.length ≤ cx → Kd.F kTm W oky Ay y.f2.length y.f2 → y.f2.length ≤ cy → St s1 W →
      Calls Try.prog g (#[.agg #[.int .i64 x.f0, .int .i64 x.f1, .slice Ax x.f2.length cx], .agg #[.int .i64 y.f0, .int .i64 y.f1, .slice Ay y.f2.length cy]] ++ lb) W fun e w' => e = .returned (.bool (f s1 x y).2) ∧ St (f s1 x y).1 w' ∧ W.grownBy w' (some b)) :
    Calls Try.prog 126 #[.slice A xs.length c, .slice B ys.length d, .func (.func g) #[] lb] w fun e w' => e = .returned (.bool (eqS f s xs ys).2) ∧ St (eqS f s xs ys).1 w' ∧ w.grownBy w' (some b) := by
  have hlen := Kd.F_max hF
  have hlen2 := Kd.F_max hF2
  have HF := Aside0.mk hF
  have HF2 := Aside0.mk hF2
  have HP := Aside0.mk hp
  have HX0 := Aside0.mk hx
  have HY0 := Aside0.mk hy
  have HST := Aside0.mk hst
  have HS0 := Aside0.mk hs0
  clear hF hF2 hp hx hy hst hs0
  by_cases hn : xs.length = ys.length
  · have hB := bneF (a := xs.length) (b := ys.length) (by omega)
    have HN := Aside0.mk hn
    have hle : xs.length ≤ ys.length := by omega
    have hB' : (xs.length != ys.length) = false := by simp [hn]
    have HEQ : Aside0 (eqS f s xs ys = goS f s (xs.zip ys)) := ⟨by unfold eqS; rw [if_pos hn]⟩
    have HZL : Aside0 ((xs.zip ys).length = xs.length) := ⟨by simp; omega⟩
    clear hn
    go_enter Try.func126, Try.ntmps126
    go_wp2
    go_loopw [17] (fun i wr => ∃ (k : Nat) (sk : σ), k ≤ xs.length ∧ i = .int .i64 k ∧ Aside0 (goS f s ((xs.zip ys).take k) = (sk, true)) ∧ Aside0 (St sk wr) ∧ Aside0 (w.grownBy wr (some b))) (fun i _ => xs.length - (intOf i).toNat)
    case atStart => exact ⟨0, s, by omega, rfl, ⟨by simp [goS]⟩, HS0, ⟨gbOf (Below.refl _ _) _⟩⟩
    case round =>
      obtain ⟨k, sk, hk, rfl, HG0, HSk, hb⟩ := hrel
      have HFr := Aside0.mk (Kd.F_grown HF.out hb.out (fun q hq e => HX0.out q hq (by injection e)))
      have HFr2 := Aside0.mk (Kd.F_grown HF2.out hb.out (fun q hq e => HY0.out q hq (by injection e)))
      by_cases hlt : k < xs.length
      · have hlt2 : k < ys.length := by omega
        obtain ⟨ad, A2, c2, rfl, E0, E1, E2, hl2, hG, _⟩ := at_TmF HFr.out (k : Int) (by omega) (by omega)
        obtain ⟨bd, B2, d2, rfl, G0, G1, G2, gl2, hG2, _⟩ := at_TmF HFr2.out (k : Int) (by omega) (by omega)
        simp only [Int.toNat_natCast] at E0 E1 E2 G0 G1 G2
        have HZK : Aside0 (goS f s ((xs.zip ys).take (k+1)) = ((f sk (rd_Tm xs k) (rd_Tm ys k)).1, (f sk (rd_Tm xs k) (rd_Tm ys k)).2)) := ⟨by
          have h1 := goS_take_succ f s (xs.zip ys) k (by rw [HZL.out]; exact hlt) sk HG0.out
          have e : (xs.zip ys)[k]'(by rw [HZL.out]; exact hlt) = (rd_Tm xs k, rd_Tm ys k) := by rw [rd_get xs k hlt, rd_get ys k hlt2]; simp
          rw [e] at h1
          exact h1⟩
        have HX := Aside0.mk (HP.out _ (rd_mem xs k hlt) _ (rd_mem ys k hlt2))
        have HG := Aside0.mk hG
        have HG2 := Aside0.mk hG2
        have HC := Aside0.mk hl2
        have HC2 := Aside0.mk gl2
        have HB2 := Aside0.mk (below_alloc (below_alloc (Below.refl wr.heap.size wr) (.cells #[.int .i64 (rd_Tm xs (k : Int)).f0, .int .i64 (rd_Tm xs (k : Int)).f1, .slice A2 (rd_Tm xs (k : Int)).f2.length c2] 46)) (.cells #[.int .i64 (rd_Tm ys (k : Int)).f0, .int .i64 (rd_Tm ys (k : Int)).f1, .slice B2 (rd_Tm ys (k : Int)).f2.length d2] 46))
        have L0 := oldc (below_alloc (Below.refl wr.heap.size wr) (.cells #[.int .i64 (rd_Tm xs (k : Int)).f0, .int .i64 (rd_Tm xs (k : Int)).f1, .slice A2 (rd_Tm xs (k : Int)).f2.length c2] 46)) G0
        have L1 := oldc (below_alloc (Below.refl wr.heap.size wr) (.cells #[.int .i64 (rd_Tm xs (k : Int)).f0, .int .i64 (rd_Tm xs (k : Int)).f1, .slice A2 (rd_Tm xs (k : Int)).f2.length c2] 46)) G1
        have L2 := oldc (below_alloc (Below.refl wr.heap.size wr) (.cells #[.int .i64 (rd_Tm xs (k : Int)).f0, .int .i64 (rd_Tm xs (k : Int)).f1, .slice A2 (rd_Tm xs (k : Int)).f2.length c2] 46)) G2
        clear hG hG2 hl2 gl2
        go_wp2_with (fail)
        refine (HX.out A2 B2 c2 d2 _ sk (gbT hb.out (gbOf HB2.out _) (.inl rfl)) (Kd.F_below HG.out HB2.out) HC.out (Kd.F_below HG2.out HB2.out) HC2.out (HST.out _ _ _ HSk.out HB2.out)).mono ?_
        rintro e w2 ⟨rfl, hS2, hg2⟩
        have HS2 := Aside0.mk hS2
        have HG3 := Aside0.mk (gbT hb.out (gbT (gbOf HB2.out _) hg2 (.inl rfl)) (.inl rfl))
        clear HB2 hg2 hS2
        cases hpx : (f sk (rd_Tm xs (k : Int)) (rd_Tm ys (k : Int))).2 with
        | true =>
          have HR : Aside0 (goS f s ((xs.zip ys).take (k+1)) = ((f sk (rd_Tm xs k) (rd_Tm ys k)).1, true)) := ⟨by rw [HZK.out, hpx]⟩
          clear HX hpx
          go_wp2
          go_roundw
          case rel => exact ⟨k + 1, _, by omega, by go_num, HR, HS2, HG3⟩
          case measure => simp [intOf]; omega
        | false =>
          have HR : Aside0 (eqS f s xs ys = ((f sk (rd_Tm xs k) (rd_Tm ys k)).1, false)) := ⟨by rw [HEQ.out]; exact goS_bad f s _ (k+1) _ (by rw [HZK.out, hpx])⟩
          clear HX hpx
          go_wp2
          go_ret
          exact ⟨by rw [HR.out]; rfl, by rw [HR.out]; exact HS2.out, HG3.out⟩
      · obtain rfl : k = xs.length := by omega
        have HR : Aside0 (eqS f s xs ys = (sk, true)) := ⟨by have h1 := HG0.out; rw [← HZL.out, List.take_length] at h1; rw [HEQ.out, h1]⟩
        clear HG0
        go_wp2
        go_ret
        exact ⟨by rw [HR.out]; rfl, by rw [HR.out]; exact HSk.out, hb.out⟩
  · have hB := bneT (a := xs.length) (b := ys.length) (by omega)
    have hB' : (xs.length != ys.length) = true := by simp [hn]
    have HR : Aside0 (eqS f s xs ys = (s, false)) := ⟨by unfold eqS; rw [if_neg hn]⟩
    clear hn
    go_enter Try.func126, Try.ntmps126
    go_wp2
    go_ret
    exact ⟨by rw [HR.out]; rfl, by rw [HR.out]; exact HS0.out, gbOf (Below.refl _ _) _⟩
end

/-! ### Meet -/
mutual
def growT : List (Int × Tm) → Tm → Tm → List (Int × Tm) × Bool
  | m, ⟨v, f, l⟩, t => if 0 < v then (match mget m v with | some u => (m, eqT u t) | none => (m ++ [(v, t)], true)) else if t.f0 = 0 ∧ f = t.f1 ∧ l.length = t.f2.length then growL m l t.f2 else (m, false)
def growL : List (Int × Tm) → List Tm → List Tm → List (Int × Tm) × Bool
  | m, [], _ => (m, true)
  | m, p :: ps, [] => (m, false)
  | m, p :: ps, t :: ts => if (growT m p t).2 then growL (growT m p t).1 ps ts else ((growT m p t).1, false)
end
theorem growT_eq (m : List (Int × Tm)) (p t : Tm) : growT m p t = if 0 < p.f0 then (match mget m p.f0 with | some u => (m, eqT u t) | none => (m ++ [(p.f0, t)], true)) else if t.f0 = 0 ∧ p.f1 = t.f1 ∧ p.f2.length = t.f2.length then growL m p.f2 t.f2 else (m, false) := by cases p; rw [growT]
theorem growL_go : ∀ (ps ts : List Tm) (m : List (Int × Tm)), ps.length = ts.length → growL m ps ts = goS growT m (ps.zip ts)
  | [], [], m, _ => by rw [growL]; rfl
  | p :: ps, t :: ts, m, h => by
    rw [growL, List.zip_cons_cons, goS]
    simp only
    by_cases h2 : (growT m p t).2 = true
    · simp only [h2, if_true]; exact growL_go ps ts _ (by simpa using h)
    · simp [h2]
  | [], _ :: _, _, h => by simp at h
  | _ :: _, [], _, h => by simp at h

theorem map_cell {W : World} {g e : Nat} {v : Value} (h : W.heap[g]? = some (.cells #[v] e (0, 0))) : W.cell? ⟨g, 0, none⟩ = some v := (blk_cell h 0).trans rfl

set_option maxHeartbeats 4000000 in
set_option maxRecDepth 100000 in
theorem meet_any (m : Nat) : ∀ (p t : Tm) (A B : Option Addr) (c d b : Nat) (okp okt okm : Nat → Prop) (mp : List (Int × Tm)) (w : World), szT p ≤ m → MapT w b okm mp → Kd.F kTm w okp A p.f2.length p.f2 → p.f2.length ≤ c → Kd.F kTm w okt B t.f2.length t.f2 → t.f2.length ≤ d → (∀ k, okp k → k ≠ b) → (∀ k, okt k → okm k) → (∀ k, okm k → k ≠ b) →
    Calls Try.prog 129 #[.map (some b), .agg #[.int .i64 p.f0, .int .i64 p.f1, .slice A p.f2.length c], .agg #[.int .i64 t.f0, .int .i64 t.f1, .slice B t.f2.length d]] w fun e w' => e = .returned (.bool (growT mp p t).2) ∧ MapT w' b okm (growT mp p t).1 ∧ w.grownBy w' (some b) := by
  induction m with
  | zero => intro p t A B c d b okp okt okm mp w h; have := szT_pos p; omega
  | succ n ih =>
  intro p t A B c d b okp okt okm mp w hm hM hF hc hF2 hd hpb htm hmb
  have hlen := Kd.F_max hF
  have hlen2 := Kd.F_max hF2
  have hbw := hM.lt
  have HF := Aside0.mk hF
  have HF2 := Aside0.mk hF2
  have HM := Aside0.mk hM
  have HPB := Aside0.mk hpb
  have HTM := Aside0.mk htm
  have HMB := Aside0.mk hmb
  have HSZ := Aside0.mk hm
  have HS := Aside0.mk (szT_eq p)
  have IH := Aside0.mk ih
  have HE := Aside0.mk (growT_eq mp p t)
  clear hF hF2 hM hpb htm hmb hm ih
  have g0 := blk_alloc (blk_alloc (newAt (w := w) (o := .cells #[.map (some b)] 121) rfl) (.cells #[.int .i64 p.f0, .int .i64 p.f1, .slice A p.f2.length c] 46)) (.cells #[.int .i64 t.f0, .int .i64 t.f1, .slice B t.f2.length d] 46)
  have g1 := blk_alloc (newAt (w := w.alloc (.cells #[.map (some b)] 121)) (o := .cells #[.int .i64 p.f0, .int .i64 p.f1, .slice A p.f2.length c] 46) (k := w.heap.size + 1) (by simp)) (.cells #[.int .i64 t.f0, .int .i64 t.f1, .slice B t.f2.length d] 46)
  have g2 := newAt (w := (w.alloc (.cells #[.map (some b)] 121)).alloc (.cells #[.int .i64 p.f0, .int .i64 p.f1, .slice A p.f2.length c] 46)) (o := .cells #[.int .i64 t.f0, .int .i64 t.f1, .slice B t.f2.length d] 46) (k := w.heap.size + 2) (by simp)
  have HB := Aside0.mk (below_alloc (below_alloc (below_alloc (Below.refl w.heap.size w) (.cells #[.map (some b)] 121)) (.cells #[.int .i64 p.f0, .int .i64 p.f1, .slice A p.f2.length c] 46)) (.cells #[.int .i64 t.f0, .int .i64 t.f1, .slice B t.f2.length d] 46))
  go_enter Try.func129, Try.ntmps129
  go_upto_region 1 with (fail)
  generalize ((w.alloc (.cells #[.map (some b)] 121)).alloc (.cells #[.int .i64 p.f0, .int .i64 p.f1, .slice A p.f2.length c] 46)).alloc (.cells #[.int .i64 t.f0, .int .i64 t.f1, .slice B t.f2.length d] 46) = W at *
  have GM := Aside0.mk g0
  have GP := Aside0.mk g1
  have GT := Aside0.mk g2
  have hlM := blk_lt g0
  have hlT := blk_lt g2
  clear g0 g1 g2
  have m0 := map_cell GM.out
  obtain ⟨p0, p1, p2⟩ := tm_cells GP.out
  obtain ⟨t0, t1, t2⟩ := tm_cells GT.out
  have HMW := Aside0.mk (MapT.below HM.out HB.out)
  have HFW := Aside0.mk (Kd.F_below HF.out HB.out)
  have HFW2 := Aside0.mk (Kd.F_below HF2.out HB.out)
  by_cases hv : 0 < p.f0
  · go_upto_region 3 with (first | (at_lookup; refine wp_lookT rfl _ _ rfl rfl HMW.out p.f0 rfl ?_; intro A3 c3 h3 hF3; have HF3 := Aside0.mk hF3; clear hF3) | (((with_reducible refine gate_store (t := 46) (p := 7) rfl ?_); refine st_tm 7 rfl rfl rfl rfl rfl (heap_alloc_new _ _) ?_); intro w3 hs3 hG3 hz3; have HU := Aside0.mk hs3; have HB3 := Aside0.mk (gbS (below_alloc (Below.refl W.heap.size W) _) hG3 (Nat.le_refl _)); clear hs3 hG3 hz3))
    have HM3 := Aside0.mk (MapT.below HMW.out HB3.out)
    have HB03 := Aside0.mk (hbT HB.out HB3.out)
    have m3 := map_cell ((HB3.out.block _ (blk_lt GM.out)).trans GM.out)
    obtain ⟨q0, q1, q2⟩ := tm_cells ((HB3.out.block _ (blk_lt GP.out)).trans GP.out)
    obtain ⟨s0, s1, s2⟩ := tm_cells ((HB3.out.block _ (blk_lt GT.out)).trans GT.out)
    clear m0 p0 p1 p2 t0 t1 t2
    cases hg : mget mp p.f0 with
    | none =>
      have hh : mhas mp p.f0 = false := by unfold mhas; rw [hg]; rfl
      have HR : Aside0 (growT mp p t = (mset mp p.f0 t, true)) := ⟨by rw [HE.out, if_pos hv, hg, mset_new hg]⟩
      simp only [hh]
      clear hg hh
      go_wp2_with (at_mapUpdate; refine wp_updT rfl _ _ _ rfl rfl HM3.out p.f0 rfl t B d rfl hd (Kd.F_mono (Kd.F_below HFW2.out HB3.out) HTM.out) HMB.out ?_; intro w5 hM5 hG5; have HM5 := Aside0.mk hM5; have HG5 := Aside0.mk hG5; clear hM5 hG5 m3 q0 q1 q2 s0 s1 s2)
      go_ret
      exact ⟨by rw [HR.out]; rfl, by rw [HR.out]; exact HM5.out, gbT (gbOf HB03.out _) HG5.out (.inl rfl)⟩
    | some u =>
      have hh : mhas mp p.f0 = true := by unfold mhas; rw [hg]; rfl
      have HU2 : Aside0 (mgetT mp p.f0 = u) := ⟨by unfold mgetT; rw [hg]; rfl⟩
      have HR : Aside0 (growT mp p t = (mp, eqT u t)) := ⟨by rw [HE.out, if_pos hv, hg]⟩
      simp only [hh]
      clear hg hh
      rw [HU2.out] at h3 HF3
      have HU3 := HU.out
      rw [HU2.out] at HU3
      obtain ⟨u0, u1, u2⟩ := tm_cells HU3
      simp only [HU2.out]
      clear HU3
      go_wp2_with (go_at_call 94; refine (same_any (szT u) u t A3 B c3 d _ _ w3 (Nat.le_refl _) (Kd.F_below HF3.out HB3.out) h3 (Kd.F_below HFW2.out HB3.out) hd).mono ?_; rintro e w5 ⟨rfl, hb5⟩; have HB5 := Aside0.mk hb5; clear hb5 m3 q0 q1 q2 s0 s1 s2 u0 u1 u2)
      go_ret
      exact ⟨by rw [HR.out]; rfl, by rw [HR.out]; exact MapT.below HM3.out HB5.out, gbOf (hbT HB03.out HB5.out) _⟩
  · have HE2 : Aside0 (growT mp p t = if t.f0 = 0 ∧ p.f1 = t.f1 ∧ p.f2.length = t.f2.length then growL mp p.f2 t.f2 else (mp, false)) := ⟨by rw [HE.out, if_neg hv]⟩
    by_cases h1 : t.f0 = 0
    · have h1b := beqT h1
      by_cases h2 : p.f1 = t.f1
      · have h2b := beqT h2
        have HR : Aside0 (eqS growT mp p.f2 t.f2 = growT mp p t) := ⟨by
          rw [HE2.out]; unfold eqS
          by_cases h3 : p.f2.length = t.f2.length
          · rw [if_pos h3, if_pos ⟨h1, h2, h3⟩, growL_go _ _ _ h3]
          · rw [if_neg h3, if_neg (fun h => h3 h.2.2)]⟩
        have HMB2 : Aside0 (∀ k, okt k → k ≠ b) := ⟨fun k hk => HMB.out k (HTM.out k hk)⟩
        have hEq := equalS 149 #[.pointer (some ⟨w.heap.size, 0, none⟩)] growT b (fun m1 W' => MapT W' b okm m1 ∧ W'.heap[w.heap.size]? = some (.cells #[.map (some b)] 121 (0, 0))) (fun s W1 W2 h hb => ⟨h.1.below hb, (hb.block _ (blk_lt h.2)).trans h.2⟩) (enters_of Try.func149 (by kernel_rfl) rfl) p.f2 t.f2 A B c d okp okt W mp HFW.out HFW2.out HPB.out HMB2.out ⟨HMW.out, GM.out⟩ (fun x hx y hy Ax Ay cx cy W1 s1 hg1 hFx hcx hFy hcy hS1 => by
          obtain ⟨hM1, hC1⟩ := hS1
          have hxs : szT x ≤ n := by have := szT_mem hx; have := HS.out; have := HSZ.out; omega
          have I := Aside0.mk (IH.out x y Ax Ay cx cy b okp okt okm s1)
          have HFx := Aside0.mk hFx
          have HFy := Aside0.mk hFy
          have HM1 := Aside0.mk hM1
          clear hFx hFy hM1 hg1 hx hy m0 p0 p1 p2 t0 t1 t2
          have a0 := blk_alloc (newAt (w := W1) (o := .cells #[.int .i64 x.f0, .int .i64 x.f1, .slice Ax x.f2.length cx] 46) rfl) (.cells #[.int .i64 y.f0, .int .i64 y.f1, .slice Ay y.f2.length cy] 46)
          have a1 := newAt (w := W1.alloc (.cells #[.int .i64 x.f0, .int .i64 x.f1, .slice Ax x.f2.length cx] 46)) (o := .cells #[.int .i64 y.f0, .int .i64 y.f1, .slice Ay y.f2.length cy] 46) (k := W1.heap.size + 1) (by simp)
          have a2 := blk_alloc (blk_alloc hC1 (.cells #[.int .i64 x.f0, .int .i64 x.f1, .slice Ax x.f2.length cx] 46)) (.cells #[.int .i64 y.f0, .int .i64 y.f1, .slice Ay y.f2.length cy] 46)
          have HBx := Aside0.mk (below_alloc (below_alloc (Below.refl W1.heap.size W1) (.cells #[.int .i64 x.f0, .int .i64 x.f1, .slice Ax x.f2.length cx] 46)) (.cells #[.int .i64 y.f0, .int .i64 y.f1, .slice Ay y.f2.length cy] 46))
          clear hC1
          show Calls Try.prog 149 #[.agg #[.int .i64 x.f0, .int .i64 x.f1, .slice Ax x.f2.length cx], .agg #[.int .i64 y.f0, .int .i64 y.f1, .slice Ay y.f2.length cy], .pointer (some ⟨w.heap.size, 0, none⟩)] W1 _
          go_enter Try.func149, Try.ntmps149
          go_upto_region 1 with (fail)
          generalize (W1.alloc (.cells #[.int .i64 x.f0, .int .i64 x.f1, .slice Ax x.f2.length cx] 46)).alloc (.cells #[.int .i64 y.f0, .int .i64 y.f1, .slice Ay y.f2.length cy] 46) = W2 at *
          have m0 := map_cell a2
          obtain ⟨p0, p1, p2⟩ := tm_cells a0
          obtain ⟨t0, t1, t2⟩ := tm_cells a1
          have HA2 := Aside0.mk a2
          clear a0 a1 a2
          go_wp2_with (go_at_call 129; refine (I.out W2 hxs (MapT.below HM1.out HBx.out) (Kd.F_below HFx.out HBx.out) hcx (Kd.F_below HFy.out HBx.out) hcy HPB.out HTM.out HMB.out).mono ?_; rintro e w5 ⟨rfl, hM5, hG5⟩; have HM5 := Aside0.mk hM5; have HG5 := Aside0.mk hG5; clear hM5 hG5 m0 p0 p1 p2 t0 t1 t2)
          go_ret
          exact ⟨rfl, ⟨HM5.out, (HG5.out.block _ (blk_lt HA2.out) (fun e => by injection e with e; omega)).trans HA2.out⟩, gbT (gbOf HBx.out _) HG5.out (.inl rfl)⟩)
        rw [HR.out] at hEq
        have HEqq := Aside0.mk hEq
        clear hEq h1 h2
        go_wp2_with (go_at_call 126; refine HEqq.out.mono ?_; rintro e w5 ⟨rfl, hS5, hG5⟩; have HS5 := Aside0.mk hS5; have HG5 := Aside0.mk hG5; clear hS5 hG5 m0 p0 p1 p2 t0 t1 t2)
        go_ret
        exact ⟨rfl, HS5.out.1, gbT (gbOf HB.out _) HG5.out (.inl rfl)⟩
      · have h2b := beqF h2
        have HR : Aside0 (growT mp p t = (mp, false)) := ⟨by rw [HE2.out, if_neg (fun h => h2 h.2.1)]⟩
        clear h1 h2
        go_wp2
        go_ret
        exact ⟨by rw [HR.out]; rfl, by rw [HR.out]; exact HMW.out, gbOf HB.out _⟩
    · have h1b := beqF h1
      have HR : Aside0 (growT mp p t = (mp, false)) := ⟨by rw [HE2.out, if_neg (fun h => h1 h.1)]⟩
      clear h1
      go_wp2
      go_ret
      exact ⟨by rw [HR.out]; rfl, by rw [HR.out]; exact HMW.out, gbOf HB.out _⟩
end Go.Proofs.Ytcgnpmjkeifokaa
-- K41
/- maps.Clone of a map of terms. -/
namespace Go.Proofs.Ytcgnpmjkeifokaa
open Go.RowKit Go.Proofs.YtcgnpmjkeifokaaW.PrintWords
set_option linter.unusedVariables false
set_option linter.unusedSimpArgs false

theorem MapT.cloned {w : World} {b : Nat} {ok : Nat → Prop} {m : List (Int × Tm)} {es : Array MapEntry} {clock : Nat} (hb : w.heap[b]? = some (.map es clock)) (h : MapT w b ok m) : MapT (w.alloc (.map es clock)) w.heap.size ok m := by
  obtain ⟨es2, clock2, hb2, hE⟩ := h
  rw [hb] at hb2
  injection hb2 with hb2
  injection hb2 with h1 h2
  subst h1 h2
  have hB : Below w.heap.size w (w.alloc (.map es clock)) := below_alloc (Below.refl _ _) _
  exact ⟨es, clock, heap_alloc_new _ _, Ents.imp (fun x v hv => vrT.step hv (fun k _ hlt => hB.block k hlt)) hE⟩

set_option maxHeartbeats 4000000 in
set_option maxRecDepth 100000 in
theorem clone_run (es : Array MapEntry) (clock : Nat) (b : Nat) (w : World) (hb : w.heap[b]? = some (.map es clock)) :
    Calls Try.prog 128 #[.map (some b)] w fun e w' => e = .returned (.map (some w.heap.size)) ∧ w' = w.alloc (.map es clock) := by
  have hq := fun w => run_eql_map_nil_sl (P := Try.prog) w 121 _ _ (some b) Try.underlying121
  go_enter Try.func128, Try.ntmps128
  go_wp2
  rw [run_callFunc_extern Try.func148 (by kernel_rfl) (by kernel_rfl) (by kernel_rfl) (e := Extern.MapsClone.clone) (by kernel_rfl), run_maps_clone_sl w 121 hb]
  simp only [Result.andThen]
  rw [Oper.upon_value]
  go_wp2
  rw [run_typeAssert_map_sl _ 121 _ _ _ _ Try.underlying121]
  simp only [Result.andThen]
  rw [Oper.upon_value]
  go_wp2
  go_ret
  exact ⟨rfl, rfl⟩
theorem clone_any (b : Nat) (ok : Nat → Prop) (m : List (Int × Tm)) (w : World) (hM : MapT w b ok m) :
    Calls Try.prog 128 #[.map (some b)] w fun e w' => e = .returned (.map (some w.heap.size)) ∧ MapT w' w.heap.size ok m ∧ Below w.heap.size w w' ∧ w'.heap.size = w.heap.size + 1 := by
  have hM2 := hM
  obtain ⟨es, clock, hb, hE⟩ := hM
  exact (clone_run es clock b w hb).mono fun e w' ⟨he, hw⟩ => by
    subst hw
    exact ⟨he, MapT.cloned hb hM2, below_alloc (Below.refl _ _) _, by simp⟩
end Go.Proofs.Ytcgnpmjkeifokaa
-- K42
/- clause.covers, Covers. -/
namespace Go.Proofs.Ytcgnpmjkeifokaa
open Go.RowKit Go.Proofs.YtcgnpmjkeifokaaW.PrintWords
set_option linter.unusedVariables false
set_option linter.unusedSimpArgs false

def covQ (m : List (Int × Tm)) (l y : Li) (R : List (Int × Tm) → Bool) : Bool := (growT m l.f1 y.f1).2 && ((growT (growT m l.f1 y.f1).1 l.f2 y.f2).2 && R (growT (growT m l.f1 y.f1).1 l.f2 y.f2).1)
def covB : List Li → List Li → List (Int × Tm) → Bool
  | [], _, _ => true
  | l :: ls, d, m => d.any fun x => x.f0 == l.f0 && [x, turnL x].any fun y => covQ m l y (covB ls d)
set_option maxHeartbeats 4000000 in
set_option maxRecDepth 100000 in
theorem covers_any : ∀ (cl d : List Li) (Ac Ad : Option Addr) (cc cd b : Nat) (okc okd okm : Nat → Prop) (m : List (Int × Tm)) (w : World), MapT w b okm m → Kd.F kLi w okc Ac cl.length cl → cl.length ≤ cc → Kd.F kLi w okd Ad d.length d → (∀ k, okd k → okm k) →
    Calls Try.prog 102 #[.map (some b), .slice Ac cl.length cc, .slice Ad d.length cd] w fun e w' => e = .returned (.bool (covB cl d m)) ∧ Below w.heap.size w w' := by
  intro cl
  induction cl with
  | nil =>
    intro d Ac Ad cc cd b okc okd okm m w hM hF hc hF2 hdm
    clear hM hF hF2 hdm
    simp only [List.length_nil]
    go_enter Try.func102, Try.ntmps102
    go_wp2
    go_ret
    exact ⟨rfl, Below.refl _ _⟩
  | cons l ls ih =>
    intro d Ac Ad cc cd b okc okd okm m w hM hF hc hF2 hdm
    have hlen := Kd.F_max hF
    have hlen2 := Kd.F_max hF2
    have hbw := hM.lt
    obtain ⟨ac, A3, c3, A6, c6, rfl, E0, E1, E2, E3, E4, E5, E6, hLF, _⟩ := at_Lit hF 0 (by simp)
    have e0 : w.cell? ac = some (.bool l.f0) := E0
    have e1 : w.cell? ⟨ac.block, ac.off + 1, none⟩ = some (.int .i64 l.f1.f0) := E1
    have e2 : w.cell? ⟨ac.block, ac.off + 2, none⟩ = some (.int .i64 l.f1.f1) := E2
    have e3 : w.cell? ⟨ac.block, ac.off + 3, none⟩ = some (.slice A3 l.f1.f2.length c3) := E3
    have e4 : w.cell? ⟨ac.block, ac.off + 4, none⟩ = some (.int .i64 l.f2.f0) := E4
    have e5 : w.cell? ⟨ac.block, ac.off + 5, none⟩ = some (.int .i64 l.f2.f1) := E5
    have e6 : w.cell? ⟨ac.block, ac.off + 6, none⟩ = some (.slice A6 l.f2.f2.length c6) := E6
    have hLF2 : LiF w okc l A3 c3 A6 c6 := hLF
    have HL := Aside0.mk hLF2.bound
    have HFD := Aside0.mk (Kd.F_bound hF2)
    have HFC := Aside0.mk (Kd.F_bound (dropLi hF hc))
    have HM := Aside0.mk (MapT.bound hM)
    have HM0 := Aside0.mk hM
    have HDM : Aside0 (∀ k, (okd k ∧ k < w.heap.size) → (okm k ∧ k < w.heap.size)) := ⟨fun k hk => ⟨hdm k hk.1, hk.2⟩⟩
    have IH := Aside0.mk ih
    have HCC := Aside0.mk hc
    have HE : Aside0 (covB (l :: ls) d m = d.any fun x => x.f0 == l.f0 && [x, turnL x].any fun y => covQ m l y (covB ls d)) := ⟨rfl⟩
    clear hM hF hF2 hdm E0 E1 E2 E3 E4 E5 E6 hLF hLF2 ih
    simp only [List.length_cons] at *
    have h01 : ((ls.length + 1 : Nat) == 0) = false := by simp
    have h02 : (((ls.length + 1 : Nat) : Int) == 0) = false := beqF (by omega)
    have h03 : ((ls.length : Int) + 1 == 0) = false := beqF (by omega)
    have h04 : (0 : Int) < (ls.length : Int) + 1 := by omega
    have h05 : (1 : Int) ≤ (ls.length : Int) + 1 := by omega
    have h06 : (ls.length : Int) + 1 ≤ cc := by omega
    have h07 : (1 : Int) ≤ cc := by omega
    have h08 : (0 : Int) < ((ls.length + 1 : Nat) : Int) := by omega
    obtain ⟨Ac2, hAc2⟩ : ∃ Ac2, (if cc = 1 then some ac else some { block := ac.block, off := ac.off + 7 : Addr }) = Ac2 := ⟨_, rfl⟩
    rw [hAc2] at HFC
    go_enter Try.func102, Try.ntmps102
    go_upto_region 4 with (((with_reducible refine gate_store (t := 84) (p := 7) rfl ?_); refine st_li 7 rfl rfl rfl rfl rfl (heap_alloc_new _ _) ?_); intro w1 hs1 hG1 hz1; have HL1 := Aside0.mk hs1; have HB1 := Aside0.mk (gbS (below_alloc (Below.refl w.heap.size w) _) hG1 (Nat.le_refl _)); clear hs1 hG1 hz1 e0 e1 e2 e3 e4 e5 e6)
    generalize hP1 : (fun x : Li => x.f0 == l.f0 && [x, turnL x].any fun y => covQ m l y (covB ls d)) = P1 at *
    have HP1 := Aside0.mk hP1
    clear hP1
    go_wp2
    go_loopw [21] (fun i wr => ∃ k : Nat, k ≤ d.length ∧ i = .int .i64 k ∧ Aside0 ((d.take k).any P1 = false) ∧ Aside0 (Below w1.heap.size w1 wr)) (fun i _ => d.length - (intOf i).toNat)
    case atStart => exact ⟨0, by omega, rfl, ⟨rfl⟩, ⟨Below.refl _ _⟩⟩
    case round =>
      obtain ⟨k, hk, rfl, HA, HBo⟩ := hrel
      rename World => wo
      have HBw := Aside0.mk (hbT HB1.out HBo.out)
      by_cases hlt : k < d.length
      · obtain ⟨ad, B3, d3, B6, d6, rfl, E0, E1, E2, E3, E4, E5, E6, hX, _⟩ := at_Lit (Kd.F_below HFD.out HBw.out) k hlt
        have HX := Aside0.mk hX
        have H1 := Aside0.mk (anyL_take (p := P1) hlt HA.out)
        have H2 := Aside0.mk (anyL_at (p := P1) hlt)
        rw [← rdLi_get d k hlt] at H1 H2
        clear hX
        generalize rd_Li d k = x at *
        go_upto_region 7 with (((with_reducible refine gate_store (t := 84) (p := 9) rfl ?_); refine st_li 9 rfl rfl rfl rfl rfl (heap_alloc_new _ _) ?_); intro w3 hs3 hG3 hz3; have HX3 := Aside0.mk hs3; have HB3 := Aside0.mk (gbS (below_alloc (Below.refl wo.heap.size wo) _) hG3 (Nat.le_refl _)); clear hs3 hG3 hz3 E0 E1 E2 E3 E4 E5 E6)
        have HB13 := Aside0.mk (hbT HBo.out HB3.out)
        have HBw3 := Aside0.mk (hbT HB1.out HB13.out)
        obtain ⟨x0, x1, x2, x3, x4, x5, x6⟩ := li_cells HX3.out
        obtain ⟨l0, l1, l2, l3, l4, l5, l6⟩ := li_cells ((HB13.out.block _ (blk_lt HL1.out)).trans HL1.out)
        have HXw3 := Aside0.mk (HX.out.below HB3.out)
        have hP1x : P1 x = (x.f0 == l.f0 && [x, turnL x].any fun y => covQ m l y (covB ls d)) := by rw [← HP1.out]
        have HPX := Aside0.mk hP1x
        clear hP1x
        by_cases hq : x.f0 = l.f0
        · have hq1 : (x.f0 == l.f0) = true := by simp [hq]
          have HQ := Aside0.mk hq
          have HBL := Aside0.mk (heap_alloc_new w3 (.cells #[.bool x.f0, .int .i64 x.f1.f0, .int .i64 x.f1.f1, .slice B3 x.f1.f2.length d3, .int .i64 x.f2.f0, .int .i64 x.f2.f1, .slice B6 x.f2.f2.length d6, .bool x.f0, .int .i64 x.f2.f0, .int .i64 x.f2.f1, .slice B6 x.f2.f2.length d6, .int .i64 x.f1.f0, .int .i64 x.f1.f1, .slice B3 x.f1.f2.length d3] 84))
          have HB34 := Aside0.mk (below_alloc (Below.refl w3.heap.size w3) (.cells #[.bool x.f0, .int .i64 x.f1.f0, .int .i64 x.f1.f1, .slice B3 x.f1.f2.length d3, .int .i64 x.f2.f0, .int .i64 x.f2.f1, .slice B6 x.f2.f2.length d6, .bool x.f0, .int .i64 x.f2.f0, .int .i64 x.f2.f1, .slice B6 x.f2.f2.length d6, .int .i64 x.f1.f0, .int .i64 x.f1.f1, .slice B3 x.f1.f2.length d3] 84))
          clear hq
          have HF2L := Aside0.mk (F_li2 (x := x) (y := turnL x) HBL.out ((HXw3.out.below HB34.out)) ((HXw3.out.below HB34.out).turn))
          have hz34 : (w3.alloc (.cells #[.bool x.f0, .int .i64 x.f1.f0, .int .i64 x.f1.f1, .slice B3 x.f1.f2.length d3, .int .i64 x.f2.f0, .int .i64 x.f2.f1, .slice B6 x.f2.f2.length d6, .bool x.f0, .int .i64 x.f2.f0, .int .i64 x.f2.f1, .slice B6 x.f2.f2.length d6, .int .i64 x.f1.f0, .int .i64 x.f1.f1, .slice B3 x.f1.f2.length d3] 84)).heap.size = w3.heap.size + 1 := by simp
          have HZ34 := Aside0.mk hz34
          clear hz34
          have HB14 := Aside0.mk (hbT HB13.out HB34.out)
          generalize hQQ : (fun y => covQ m l y (covB ls d)) = QQ at *
          have HQQ := Aside0.mk hQQ
          clear hQQ
          go_wp2
          generalize w3.alloc (.cells #[.bool x.f0, .int .i64 x.f1.f0, .int .i64 x.f1.f1, .slice B3 x.f1.f2.length d3, .int .i64 x.f2.f0, .int .i64 x.f2.f1, .slice B6 x.f2.f2.length d6, .bool x.f0, .int .i64 x.f2.f0, .int .i64 x.f2.f1, .slice B6 x.f2.f2.length d6, .int .i64 x.f1.f0, .int .i64 x.f1.f1, .slice B3 x.f1.f2.length d3] 84) = w4 at *
          clear x0 x1 x2 x3 x4 x5 x6 l0 l1 l2 l3 l4 l5 l6
          go_loopw [40] (fun i wr => ∃ k2 : Nat, k2 ≤ 2 ∧ i = .int .i64 k2 ∧ Aside0 (([x, turnL x].take k2).any QQ = false) ∧ Aside0 (Below w4.heap.size w4 wr)) (fun i _ => 2 - (intOf i).toNat)
          case atStart => exact ⟨0, by omega, rfl, ⟨rfl⟩, ⟨Below.refl _ _⟩⟩
          case round =>
            obtain ⟨k2, hk2, rfl, HA2, HB4r⟩ := hrel
            have HB1r := Aside0.mk (hbT HB14.out HB4r.out)
            have HBwr := Aside0.mk (hbT HB1.out HB1r.out)
            have hzwr := HBwr.out.size
            by_cases hlt2 : k2 < 2
            · obtain ⟨ad2, Y3, e3, Y6, e6, hA2, E0, E1, E2, E3, E4, E5, E6, hY, _⟩ := at_Lit (Kd.F_below HF2L.out HB4r.out) k2 hlt2
              injection hA2 with hA2
              subst hA2
              have hl2 : k2 < [x, turnL x].length := hlt2
              have G1 := Aside0.mk (anyL_take (p := QQ) hl2 HA2.out)
              have G2 := Aside0.mk (anyL_at (p := QQ) hl2)
              rw [← rdLi_get [x, turnL x] k2 hl2] at G1 G2
              simp only [addZ, Nat.zero_add] at E0 E1 E2 E3 E4 E5 E6
              have HY := Aside0.mk hY
              have hzb : w3.heap.size < wr.heap.size := by have h1 := HB4r.out.size; have h2 := HZ34.out; omega
              have HZB := Aside0.mk hzb
              clear hY hzb
              generalize rd_Li [x, turnL x] k2 = y at *
              have hQy : QQ y = covQ m l y (covB ls d) := by rw [← HQQ.out]
              have HQy := Aside0.mk hQy
              clear hQy
              have hk2i : (k2 : Int) < 2 := by omega
              go_upto_region 12 with (first | (((with_reducible refine gate_store (t := 84) (p := 11) rfl ?_); refine st_li 11 rfl rfl rfl rfl rfl (heap_alloc_new _ _) ?_); intro w6 hs6 hG6 hz6; have HY6 := Aside0.mk hs6; have HB6 := Aside0.mk (gbS (below_alloc (Below.refl wr.heap.size wr) _) hG6 (Nat.le_refl _)); clear hs6 hG6 hz6 E0 E1 E2 E3 E4 E5 E6) | (go_at_call 128; refine (clone_any b _ m w6 (MapT.below HM.out (hbT HBwr.out HB6.out))).mono ?_; rintro e w7 ⟨rfl, hM7, hB7, hz7⟩; have HM7 := Aside0.mk hM7; have HB7 := Aside0.mk hB7; have HZ7 := Aside0.mk hz7; clear hM7 hB7 hz7))
              have hz6 := HB6.out.size
              have HBr7 := Aside0.mk (hbT HB6.out HB7.out)
              have HB17 := Aside0.mk (hbT HB1r.out HBr7.out)
              have HBw7 := Aside0.mk (hbT HB1.out HB17.out)
              have HY7 := Aside0.mk (HY.out.below HBr7.out)
              have HL7 := Aside0.mk (HL.out.below HBw7.out)
              have HMX := Aside0.mk (MapT.mono HM7.out (ok' := fun k => (okm k ∧ k < w.heap.size) ∨ k = w3.heap.size) (fun k hk => .inl hk))
              have HPB : Aside0 (∀ k, (okc k ∧ k < w.heap.size) → k ≠ w6.heap.size) := ⟨fun k hk => by have := hk.2; omega⟩
              have HTM : Aside0 (∀ k, ((okd k ∧ k < w.heap.size) ∨ k = w3.heap.size) → ((okm k ∧ k < w.heap.size) ∨ k = w3.heap.size)) := ⟨fun k hk => hk.imp (fun h => HDM.out k h) id⟩
              have HMB : Aside0 (∀ k, ((okm k ∧ k < w.heap.size) ∨ k = w3.heap.size) → k ≠ w6.heap.size) := ⟨fun k hk => by have := HZB.out; rcases hk with hk | hk; have := hk.2; omega; omega⟩
              obtain ⟨l0, l1, l2, l3, l4, l5, l6⟩ := li_cells ((HB17.out.block _ (blk_lt HL1.out)).trans HL1.out)
              obtain ⟨y0, y1, y2, y3, y4, y5, y6⟩ := li_cells ((HB7.out.block _ (blk_lt HY6.out)).trans HY6.out)
              have HQy2 : Aside0 (QQ y = ((growT m l.f1 y.f1).2 && ((growT (growT m l.f1 y.f1).1 l.f2 y.f2).2 && covB ls d (growT (growT m l.f1 y.f1).1 l.f2 y.f2).1))) := ⟨HQy.out⟩
              have CALL1 := Aside0.mk (meet_any (szT l.f1) l.f1 y.f1 A3 Y3 c3 e3 w6.heap.size (fun k => okc k ∧ k < w.heap.size) (fun k => (okd k ∧ k < w.heap.size) ∨ k = w3.heap.size) (fun k => (okm k ∧ k < w.heap.size) ∨ k = w3.heap.size) m w7 (Nat.le_refl _) HMX.out HL7.out.F3 HL7.out.l3 HY7.out.F3 HY7.out.l3 HPB.out HTM.out HMB.out)
              generalize growT m l.f1 y.f1 = r1 at *
              obtain ⟨m1, b1⟩ := r1
              simp only at HQy2 CALL1
              have HLb := Aside0.mk ((HB17.out.block _ (blk_lt HL1.out)).trans HL1.out)
              have HYb := Aside0.mk ((HB7.out.block _ (blk_lt HY6.out)).trans HY6.out)
              have hl1b : w.heap.size < w6.heap.size := by have h1 := blk_lt HL1.out; have h2 := HB1r.out.size; omega
              have hy6b : wr.heap.size < w6.heap.size := by have h1 := blk_lt HY6.out; omega
              go_wp2_with (fail)
              refine CALL1.out.mono ?_
              rintro e w8 ⟨rfl, hM8, hG8⟩
              have HM8 := Aside0.mk hM8
              have HG8 := Aside0.mk hG8
              clear hM8 hG8 CALL1 l0 l1 l2 l3 l4 l5 l6 y0 y1 y2 y3 y4 y5 y6
              have HB18 := Aside0.mk (gbS HB17.out HG8.out (by have := HB1r.out.size; omega))
              have HBr8 := Aside0.mk (gbS HBr7.out HG8.out (by omega))
              cases b1 with
              | false =>
                have HR : Aside0 (([x, turnL x].take (k2+1)).any QQ = false) := ⟨by rw [G1.out, HQy2.out]; rfl⟩
                go_wp2
                go_roundw
                case rel => exact ⟨k2 + 1, by omega, by go_num, HR, ⟨hbT HB4r.out HBr8.out⟩⟩
                case measure => simp [intOf]; omega
              | true =>
                obtain ⟨l0, l1, l2, l3, l4, l5, l6⟩ := li_cells ((HG8.out.block _ (by have h1 := blk_lt HLb.out; omega) (fun e => by injection e with e; omega)).trans HLb.out)
                obtain ⟨y0, y1, y2, y3, y4, y5, y6⟩ := li_cells ((HG8.out.block _ (by have h1 := blk_lt HYb.out; omega) (fun e => by injection e with e; omega)).trans HYb.out)
                have HLb8 := Aside0.mk ((HG8.out.block _ (by have h1 := blk_lt HLb.out; omega) (fun e => by injection e with e; omega)).trans HLb.out)
                have HL8 := Aside0.mk (HL7.out.grown HG8.out HPB.out)
                have HY8 := Aside0.mk (HY7.out.grown HG8.out (fun k hk => HMB.out k (HTM.out k hk)))
                have CALL2 := Aside0.mk (meet_any (szT l.f2) l.f2 y.f2 A6 Y6 c6 e6 w6.heap.size (fun k => okc k ∧ k < w.heap.size) (fun k => (okd k ∧ k < w.heap.size) ∨ k = w3.heap.size) (fun k => (okm k ∧ k < w.heap.size) ∨ k = w3.heap.size) m1 w8 (Nat.le_refl _) HM8.out HL8.out.F6 HL8.out.l6 HY8.out.F6 HY8.out.l6 HPB.out HTM.out HMB.out)
                have HQy3 : Aside0 (QQ y = ((growT m1 l.f2 y.f2).2 && covB ls d (growT m1 l.f2 y.f2).1)) := ⟨by rw [HQy2.out, Bool.true_and]⟩
                clear HQy2
                generalize growT m1 l.f2 y.f2 = r2 at *
                obtain ⟨m2, b2⟩ := r2
                simp only at HQy3 CALL2
                go_wp2_with (fail)
                refine CALL2.out.mono ?_
                rintro e w9 ⟨rfl, hM9, hG9⟩
                have HM9 := Aside0.mk hM9
                have HG9 := Aside0.mk hG9
                clear hM9 hG9 CALL2 l0 l1 l2 l3 l4 l5 l6 y0 y1 y2 y3 y4 y5 y6
                have HB19 := Aside0.mk (gbS HB18.out HG9.out (by have := HB1r.out.size; omega))
                have HBr9 := Aside0.mk (gbS HBr8.out HG9.out (by omega))
                have HBw9 := Aside0.mk (hbT HB1.out HB19.out)
                cases b2 with
                | false =>
                  have HR : Aside0 (([x, turnL x].take (k2+1)).any QQ = false) := ⟨by rw [G1.out, HQy3.out]; rfl⟩
                  go_wp2
                  go_roundw
                  case rel => exact ⟨k2 + 1, by omega, by go_num, HR, ⟨hbT HB4r.out HBr9.out⟩⟩
                  case measure => simp [intOf]; omega
                | true =>
                  have HQy4 : Aside0 (QQ y = covB ls d m2) := ⟨by rw [HQy3.out, Bool.true_and]⟩
                  have HF9 := Aside0.mk (Kd.F_below HFC.out HBw9.out)
                  have C3 : Aside0 (∀ A' c', Kd.F kLi w9 (fun k => okc k ∧ k < w.heap.size) A' ls.length ls → ls.length ≤ c' → Calls Try.prog 102 #[.map (some w6.heap.size), .slice A' ls.length c', .slice (some ad) d.length cd] w9 fun e w' => e = .returned (.bool (covB ls d m2)) ∧ Below w9.heap.size w9 w') := ⟨fun A' c' hA hc' => IH.out d A' (some ad) c' cd w6.heap.size _ _ (fun k => (okm k ∧ k < w.heap.size) ∨ k = w3.heap.size) m2 w9 HM9.out hA hc' (Kd.F_below HFD.out HBw9.out) (fun k hk => .inl (HDM.out k hk))⟩
                  clear HQy3
                  generalize covB ls d m2 = b3 at *
                  go_wp2_with (fail)
                  refine (C3.out Ac2 (cc - 1) HF9.out (by omega)).mono ?_
                  rintro e w10 ⟨rfl, hb10⟩
                  have HB10 := Aside0.mk hb10
                  clear hb10 C3
                  cases b3 with
                  | true =>
                    have HR : Aside0 (covB (l :: ls) d m = true) := ⟨by rw [HE.out]; exact H2.out (by rw [HPX.out, HQ.out, G2.out HQy4.out]; simp)⟩
                    go_wp2
                    go_ret
                    exact ⟨ret_bool HR.out.symm, hbT HBw9.out HB10.out⟩
                  | false =>
                    have HR : Aside0 (([x, turnL x].take (k2+1)).any QQ = false) := ⟨by rw [G1.out, HQy4.out]⟩
                    go_wp2
                    go_roundw
                    case rel => exact ⟨k2 + 1, by omega, by go_num, HR, ⟨hbT (hbT HB4r.out HBr9.out) HB10.out⟩⟩
                    case measure => simp [intOf]; omega
            · obtain rfl : k2 = 2 := by omega
              have HR : Aside0 ((d.take (k+1)).any P1 = false) := ⟨by rw [H1.out, HPX.out]; have := HA2.out; rw [show ([x, turnL x].take 2) = [x, turnL x] from rfl] at this; rw [this]; simp⟩
              go_wp2
              go_roundw
              case rel => exact ⟨k + 1, by omega, by go_num, HR, HB1r⟩
              case measure => simp [intOf]; omega
        · have hq1 : (x.f0 == l.f0) = false := by simp [hq]
          have HR : Aside0 ((d.take (k+1)).any P1 = false) := ⟨by rw [H1.out, HPX.out]; simp [hq]⟩
          clear hq
          go_wp2
          go_roundw
          case rel => exact ⟨k + 1, by omega, by go_num, HR, HB13⟩
          case measure => simp [intOf]; omega
      · obtain rfl : k = d.length := by omega
        have HR : Aside0 (covB (l :: ls) d m = false) := ⟨by rw [HE.out]; exact any_none HA.out⟩
        go_wp2
        go_ret
        exact ⟨ret_bool HR.out.symm, HBw.out⟩
end Go.Proofs.Ytcgnpmjkeifokaa
-- K43
/- clause.Covers, Subsumes. -/
namespace Go.Proofs.Ytcgnpmjkeifokaa
open Go.RowKit Go.Proofs.YtcgnpmjkeifokaaW.PrintWords
set_option linter.unusedVariables false
set_option linter.unusedSimpArgs false

set_option maxHeartbeats 4000000 in
set_option maxRecDepth 100000 in
theorem coversC_any (cl d : List Li) (Ac Ad : Option Addr) (cc cd : Nat) (okc okd : Nat → Prop) (w : World) (hF : Kd.F kLi w okc Ac cl.length cl) (hc : cl.length ≤ cc) (hF2 : Kd.F kLi w okd Ad d.length d) :
    Calls Try.prog 54 #[.slice Ac cl.length cc, .slice Ad d.length cd] w fun e w' => e = .returned (.bool (covB cl d [])) ∧ Below w.heap.size w w' := by
  have HB := Aside0.mk (below_alloc (Below.refl w.heap.size w) (.map #[] 0))
  have HF := Aside0.mk (Kd.F_below hF HB.out)
  have HF2 := Aside0.mk (Kd.F_below (Kd.F_bound hF2) HB.out)
  have HM := Aside0.mk (MapT.made w (fun k => okd k ∧ k < w.heap.size))
  have hmm := @run_makeMap Try.prog
  clear hF hF2
  go_enter Try.func54, Try.ntmps54
  go_wp2_with (go_at_call 102; refine (covers_any cl d Ac Ad cc cd w.heap.size _ _ _ [] _ HM.out HF.out hc HF2.out (fun k hk => hk)).mono ?_; rintro e w2 ⟨rfl, hb2⟩; have HB2 := Aside0.mk hb2; clear hb2)
  go_ret
  exact ⟨rfl, hbT HB.out HB2.out⟩

def subE (g : List Int) (c d : List Li) : Int := chkCs g [c, d]
def subB (g : List Int) (c d : List Li) : Bool := if chkCs g [c, d] = 0 then covB c d [] else false
set_option maxHeartbeats 4000000 in
set_option maxRecDepth 100000 in
theorem subsumes_any (g : List Int) (Ag : Option Addr) (cg : Nat) (c d : List Li) (Ac Ad : Option Addr) (cc cd : Nat) (okc : Nat → Prop) (w : World) (hG : Kd.C (Kd.int .i64) w Ag g.length g) (hF : Kd.F kLi w okc Ac c.length c) (hc : c.length ≤ cc) (hF2 : Kd.F kLi w okc Ad d.length d) (hd : d.length ≤ cd) :
    Calls Try.prog 13 #[.agg #[.slice Ag g.length cg], .slice Ac c.length cc, .slice Ad d.length cd] w fun e w' => e = .returned (.tuple #[.bool (subB g c d), .int .i64 (chkCs g [c, d])]) ∧ Below w.heap.size w w' := by
  have HF := Aside0.mk hF
  have HF2 := Aside0.mk hF2
  have HG := Aside0.mk hG
  clear hF hF2 hG
  have g0 := newAt (w := w) (o := .cells #[.slice Ag g.length cg] 24) rfl
  have HB := Aside0.mk (below_alloc (Below.refl w.heap.size w) (.cells #[.slice Ag g.length cg] 24))
  go_enter Try.func13, Try.ntmps13
  go_upto_region 1 with (fail)
  generalize w.alloc (.cells #[.slice Ag g.length cg] 24) = W at *
  have s0 := sg_cell g0
  clear g0
  have HL := Aside0.mk (F_cl2 (heap_alloc_new W (.cells #[.slice Ac c.length cc, .slice Ad d.length cd] 26)) (Kd.F_below HF.out (below_alloc HB.out _)) hc (Kd.F_below HF2.out (below_alloc HB.out _)) hd)
  go_upto_region 2 with (go_at_call 19; refine (clauseCheck_any g Ag cg [c, d] _ _ _ _ (Kd.C_below HG.out (below_alloc HB.out _)) HL.out).mono ?_; rintro e w2 ⟨rfl, hb2⟩; have HB2 := Aside0.mk (hbA (Below.refl _ W) _ hb2); clear hb2 s0)
  have HB02 := Aside0.mk (hbT HB.out HB2.out)
  by_cases h0 : chkCs g [c, d] = 0
  · have h0b := bneF h0
    have HR : Aside0 (subB g c d = covB c d []) := ⟨by unfold subB; rw [if_pos h0]⟩
    have H0 := Aside0.mk h0
    clear h0
    go_wp2_with (go_at_call 54; refine (coversC_any c d Ac Ad cc cd _ _ w2 (Kd.F_below HF.out HB02.out) hc (Kd.F_below HF2.out HB02.out)).mono ?_; rintro e w3 ⟨rfl, hb3⟩; have HB3 := Aside0.mk hb3; clear hb3)
    go_ret2
    exact ⟨by rw [HR.out, H0.out]; rfl, hbT HB02.out HB3.out⟩
  · have h0b := bneT h0
    have HR : Aside0 (subB g c d = false) := ⟨by unfold subB; rw [if_neg h0]⟩
    clear h0
    go_wp2
    go_ret2
    exact ⟨by rw [HR.out]; rfl, HB02.out⟩
end Go.Proofs.Ytcgnpmjkeifokaa
-- K44
/- slices.IndexFunc, ContainsFunc over literals; clause.IsAlways, Always. -/
namespace Go.Proofs.Ytcgnpmjkeifokaa
open Go.RowKit Go.Proofs.YtcgnpmjkeifokaaW.PrintWords
set_option linter.unusedVariables false
set_option linter.unusedSimpArgs false

set_option maxHeartbeats 4000000 in
set_option maxRecDepth 100000 in
theorem indexFuncL (g : Nat) (lb : Array Value) (p : Li → Bool) (eg : ∀ args w, (callFunc g args).run Try.prog w = .ok (.enter g args) w) (xs : List Li) (A : Option Addr) (c : Nat) (ok : Nat → Prop) (w : World) (hF : Kd.F kLi w ok A xs.length xs)
    (hp : ∀ x, x ∈ xs → ∀ (A3 : Option Addr) (c3 : Nat) (A6 : Option Addr) (c6 : Nat) (W : World), Below w.heap.size w W → LiF W ok x A3 c3 A6 c6 → Calls Try.prog g (#[.agg #[.bool x.f0, .int .i64 x.f1.f0, .int .i64 x.f1.f1, .slice A3 x.f1.f2.length c3, .int .i64 x.f2.f0, .int .i64 x.f2.f1, .slice A6 x.f2.f2.length c6]] ++ lb) W fun e w' => e = .returned (.bool (p x)) ∧ Below W.heap.size W w') :
    Calls Try.prog 121 #[.slice A xs.length c, .func (.func g) #[] lb] w fun e w' => e = .returned (.int .i64 (idxB p xs)) ∧ Below w.heap.size w w' := by
  have hlen := Kd.F_max hF
  have HF := Aside0.mk hF
  have HP := Aside0.mk hp
  clear hF hp
  go_enter Try.func121, Try.ntmps121
  go_wp2
  go_loopw [8] (fun i wr => ∃ k : Nat, k ≤ xs.length ∧ i = .int .i64 k ∧ Aside0 ((xs.take k).all (fun x => !p x) = true) ∧ Aside0 (Below w.heap.size w wr)) (fun i _ => xs.length - (intOf i).toNat)
  case atStart => exact ⟨0, by omega, rfl, ⟨rfl⟩, ⟨Below.refl _ _⟩⟩
  case round =>
    obtain ⟨k, hk, rfl, h0, hb⟩ := hrel
    by_cases hlt : k < xs.length
    · obtain ⟨ad, A3, c3, A6, c6, rfl, E0, E1, E2, E3, E4, E5, E6, hL, _⟩ := at_Lit (Kd.F_below HF.out hb.out) k hlt
      have HL := Aside0.mk hL
      have HX := Aside0.mk (HP.out (rd_Li xs k) (rdLi_mem xs k hlt))
      have H1 := Aside0.mk (fun h => idxB_at (p := p) hlt h0.out h)
      have H2 := Aside0.mk (fun h => take_all_succ (p := fun x => !p x) hlt h0.out h)
      rw [← rdLi_get xs k hlt] at H1 H2
      clear hL
      generalize rd_Li xs k = x at *
      go_wp2_with (fail)
      refine (HX.out A3 c3 A6 c6 _ hb.out HL.out).mono ?_
      rintro e w2 ⟨rfl, hb2⟩
      have HB2 := Aside0.mk (hbT hb.out hb2)
      clear hb2 E0 E1 E2 E3 E4 E5 E6
      cases hpx : p x with
      | true =>
        have HR := Aside0.mk (H1.out hpx)
        clear H1 H2 HX hpx
        go_wp2
        go_ret
        exact ⟨ret_int HR.out.symm, HB2.out⟩
      | false =>
        have HR := Aside0.mk (H2.out (by simp [hpx]))
        clear H1 H2 HX hpx
        go_wp2
        go_roundw
        case rel => exact ⟨k + 1, by omega, by go_num, HR, HB2⟩
        case measure => simp [intOf]; omega
    · obtain rfl : k = xs.length := by omega
      have HR := Aside0.mk (idxB_none (p := p) (l := xs) (by have := h0.out; rwa [List.take_length] at this))
      clear h0
      go_wp2
      go_ret
      exact ⟨ret_int HR.out.symm, hb.out⟩

set_option maxHeartbeats 4000000 in
set_option maxRecDepth 100000 in
theorem containsFuncL (g : Nat) (lb : Array Value) (p : Li → Bool) (eg : ∀ args w, (callFunc g args).run Try.prog w = .ok (.enter g args) w) (xs : List Li) (A : Option Addr) (c : Nat) (ok : Nat → Prop) (w : World) (hF : Kd.F kLi w ok A xs.length xs)
    (hp : ∀ x, x ∈ xs → ∀ (A3 : Option Addr) (c3 : Nat) (A6 : Option Addr) (c6 : Nat) (W : World), Below w.heap.size w W → LiF W ok x A3 c3 A6 c6 → Calls Try.prog g (#[.agg #[.bool x.f0, .int .i64 x.f1.f0, .int .i64 x.f1.f1, .slice A3 x.f1.f2.length c3, .int .i64 x.f2.f0, .int .i64 x.f2.f1, .slice A6 x.f2.f2.length c6]] ++ lb) W fun e w' => e = .returned (.bool (p x)) ∧ Below W.heap.size W w') :
    Calls Try.prog 84 #[.slice A xs.length c, .func (.func g) #[] lb] w fun e w' => e = .returned (.bool (xs.any p)) ∧ Below w.heap.size w w' := by
  have H := Aside0.mk (idxB_any p xs)
  have HI := Aside0.mk (indexFuncL g lb p eg xs A c ok w hF hp)
  clear hF hp eg
  go_enter Try.func84, Try.ntmps84
  go_wp2_with (fail)
  refine HI.out.mono ?_
  rintro e w2 ⟨rfl, hb2⟩
  generalize idxB p xs = y at *
  go_wp2
  go_ret
  exact ⟨ret_bool H.out, hb2⟩

def alwI (l x : Li) : Bool := !x.f0 && sidesB x l
def alwO (c : List Li) (l : Li) : Bool := l.f0 && (eqT l.f1 l.f2 || c.any (alwI l))
def alwB (c : List Li) : Bool := c.any (alwO c)
theorem alwI_t {l x : Li} (h : x.f0 = true) : alwI l x = false := by unfold alwI; rw [h]; rfl
theorem alwI_f {l x : Li} (h : x.f0 = false) : alwI l x = sidesB x l := by unfold alwI; rw [h]; rfl
theorem alwO_f {c : List Li} {l : Li} (h : l.f0 = false) : alwO c l = false := by unfold alwO; rw [h]; rfl
theorem alwO_e {c : List Li} {l : Li} (h : l.f0 = true) (h2 : eqT l.f1 l.f2 = true) : alwO c l = true := by unfold alwO; rw [h, h2]; rfl
theorem alwO_n {c : List Li} {l : Li} (h : l.f0 = true) (h2 : eqT l.f1 l.f2 = false) : alwO c l = c.any (alwI l) := by unfold alwO; rw [h, h2]; rfl

set_option maxHeartbeats 4000000 in
set_option maxRecDepth 100000 in
theorem alwI_any (l x : Li) (A3 A6 B3 B6 : Option Addr) (c3 c6 d3 d6 b : Nat) (okl okx : Nat → Prop) (W : World) (hb : W.heap[b]? = some (.cells #[.bool l.f0, .int .i64 l.f1.f0, .int .i64 l.f1.f1, .slice A3 l.f1.f2.length c3, .int .i64 l.f2.f0, .int .i64 l.f2.f1, .slice A6 l.f2.f2.length c6] 84 (0, 0))) (hL : LiF W okl l A3 c3 A6 c6) (hX : LiF W okx x B3 d3 B6 d6) :
    Calls Try.prog 101 #[.agg #[.bool x.f0, .int .i64 x.f1.f0, .int .i64 x.f1.f1, .slice B3 x.f1.f2.length d3, .int .i64 x.f2.f0, .int .i64 x.f2.f1, .slice B6 x.f2.f2.length d6], .pointer (some ⟨b, 0, none⟩)] W fun e w' => e = .returned (.bool (alwI l x)) ∧ Below W.heap.size W w' := by
  have HB := Aside0.mk (below_alloc (Below.refl W.heap.size W) (.cells #[.bool x.f0, .int .i64 x.f1.f0, .int .i64 x.f1.f1, .slice B3 x.f1.f2.length d3, .int .i64 x.f2.f0, .int .i64 x.f2.f1, .slice B6 x.f2.f2.length d6] 84))
  have g0 := newAt (w := W) (o := .cells #[.bool x.f0, .int .i64 x.f1.f0, .int .i64 x.f1.f1, .slice B3 x.f1.f2.length d3, .int .i64 x.f2.f0, .int .i64 x.f2.f1, .slice B6 x.f2.f2.length d6] 84) rfl
  have g1 := blk_alloc hb (.cells #[.bool x.f0, .int .i64 x.f1.f0, .int .i64 x.f1.f1, .slice B3 x.f1.f2.length d3, .int .i64 x.f2.f0, .int .i64 x.f2.f1, .slice B6 x.f2.f2.length d6] 84)
  have HL := Aside0.mk (hL.below HB.out)
  have HX := Aside0.mk (hX.below HB.out)
  clear hb hL hX
  go_enter Try.func101, Try.ntmps101
  go_upto_region 1 with (fail)
  generalize W.alloc (.cells #[.bool x.f0, .int .i64 x.f1.f0, .int .i64 x.f1.f1, .slice B3 x.f1.f2.length d3, .int .i64 x.f2.f0, .int .i64 x.f2.f1, .slice B6 x.f2.f2.length d6] 84) = W1 at *
  obtain ⟨x0, x1, x2, x3, x4, x5, x6⟩ := li_cells g0
  obtain ⟨l0, l1, l2, l3, l4, l5, l6⟩ := li_cells g1
  clear g0 g1
  cases hx : x.f0 with
  | true =>
    have HR := Aside0.mk (alwI_t (l := l) hx)
    rw [hx] at x0
    clear hx
    go_wp2
    go_ret
    exact ⟨ret_bool HR.out.symm, HB.out⟩
  | false =>
    have HR := Aside0.mk (alwI_f (l := l) hx)
    have HC := Aside0.mk (sides_any x l B3 B6 A3 A6 d3 d6 c3 c6 _ _ W1 HX.out.F3 HX.out.l3 HX.out.F6 HX.out.l6 HL.out.F3 HL.out.l3 HL.out.F6 HL.out.l6)
    rw [hx] at x0 HC
    clear hx
    go_wp2_with (fail)
    refine HC.out.mono ?_
    rintro e w2 ⟨rfl, hb2⟩
    have HB2 := Aside0.mk (hbT HB.out hb2)
    clear hb2 x0 x1 x2 x3 x4 x5 x6 l0 l1 l2 l3 l4 l5 l6
    go_wp2
    go_ret
    exact ⟨ret_bool HR.out.symm, HB2.out⟩

set_option maxHeartbeats 4000000 in
set_option maxRecDepth 100000 in
theorem alwO_any (c : List Li) (l : Li) (Ac A3 A6 : Option Addr) (cc c3 c6 b : Nat) (okc okl : Nat → Prop) (W : World) (hb : W.heap[b]? = some (.cells #[.slice Ac c.length cc] 26 (0, 0))) (hC : Kd.F kLi W okc Ac c.length c) (hL : LiF W okl l A3 c3 A6 c6) :
    Calls Try.prog 100 #[.agg #[.bool l.f0, .int .i64 l.f1.f0, .int .i64 l.f1.f1, .slice A3 l.f1.f2.length c3, .int .i64 l.f2.f0, .int .i64 l.f2.f1, .slice A6 l.f2.f2.length c6], .pointer (some ⟨b, 0, none⟩)] W fun e w' => e = .returned (.bool (alwO c l)) ∧ Below W.heap.size W w' := by
  have HB := Aside0.mk (below_alloc (Below.refl W.heap.size W) (.cells #[.bool l.f0, .int .i64 l.f1.f0, .int .i64 l.f1.f1, .slice A3 l.f1.f2.length c3, .int .i64 l.f2.f0, .int .i64 l.f2.f1, .slice A6 l.f2.f2.length c6] 84))
  have g0 := newAt (w := W) (o := .cells #[.bool l.f0, .int .i64 l.f1.f0, .int .i64 l.f1.f1, .slice A3 l.f1.f2.length c3, .int .i64 l.f2.f0, .int .i64 l.f2.f1, .slice A6 l.f2.f2.length c6] 84) rfl
  have g1 := blk_alloc hb (.cells #[.bool l.f0, .int .i64 l.f1.f0, .int .i64 l.f1.f1, .slice A3 l.f1.f2.length c3, .int .i64 l.f2.f0, .int .i64 l.f2.f1, .slice A6 l.f2.f2.length c6] 84)
  have HL := Aside0.mk (hL.below HB.out)
  have HC := Aside0.mk (Kd.F_below hC HB.out)
  clear hb hL hC
  go_enter Try.func100, Try.ntmps100
  go_upto_region 1 with (fail)
  generalize W.alloc (.cells #[.bool l.f0, .int .i64 l.f1.f0, .int .i64 l.f1.f1, .slice A3 l.f1.f2.length c3, .int .i64 l.f2.f0, .int .i64 l.f2.f1, .slice A6 l.f2.f2.length c6] 84) = W1 at *
  obtain ⟨l0, l1, l2, l3, l4, l5, l6⟩ := li_cells g0
  have G0 := Aside0.mk g0
  have G1 := Aside0.mk g1
  clear g0 g1
  cases hx : l.f0 with
  | false =>
    have HR := Aside0.mk (alwO_f (c := c) hx)
    rw [hx] at l0
    clear hx
    go_wp2
    go_ret
    exact ⟨ret_bool HR.out.symm, HB.out⟩
  | true =>
    have HX := Aside0.mk hx
    rw [hx] at l0
    clear hx
    go_wp2_with (fail)
    refine (same_any (szT l.f1) l.f1 l.f2 A3 A6 c3 c6 _ _ W1 (Nat.le_refl _) HL.out.F3 HL.out.l3 HL.out.F6 HL.out.l6).mono ?_
    rintro e w2 ⟨rfl, hb2⟩
    have HB2 := Aside0.mk hb2
    clear hb2 l0 l1 l2 l3 l4 l5 l6
    have s0 := sg_cell ((HB2.out.block _ (blk_lt G1.out)).trans G1.out)
    cases he : eqT l.f1 l.f2 with
    | true =>
      have HR := Aside0.mk (alwO_e (c := c) HX.out he)
      clear he
      go_wp2
      go_ret
      exact ⟨ret_bool HR.out.symm, hbT HB.out HB2.out⟩
    | false =>
      have HR := Aside0.mk (alwO_n (c := c) HX.out he)
      have GL := Aside0.mk ((HB2.out.block _ (blk_lt G0.out)).trans G0.out)
      have HL2 := Aside0.mk (HL.out.below HB2.out)
      have HCF := Aside0.mk (containsFuncL 101 #[.pointer (some ⟨W.heap.size, 0, none⟩)] (alwI l) (enters_of Try.func101 (by kernel_rfl) rfl) c Ac cc _ w2 (Kd.F_below HC.out HB2.out) (fun x _ B3 d3 B6 d6 W3 hb3 hX3 => alwI_any l x A3 A6 B3 B6 c3 c6 d3 d6 W.heap.size _ _ W3 ((hb3.block _ (blk_lt GL.out)).trans GL.out) (HL2.out.below hb3) hX3))
      clear he
      go_wp2_with (fail)
      refine HCF.out.mono ?_
      rintro e w3 ⟨rfl, hb3⟩
      have HB3 := Aside0.mk (hbT (hbT HB.out HB2.out) hb3)
      clear hb3 HCF s0
      go_wp2
      go_ret
      exact ⟨ret_bool HR.out.symm, HB3.out⟩

set_option maxHeartbeats 4000000 in
set_option maxRecDepth 100000 in
theorem isAlways_any (c : List Li) (Ac : Option Addr) (cc : Nat) (okc : Nat → Prop) (w : World) (hC : Kd.F kLi w okc Ac c.length c) :
    Calls Try.prog 53 #[.slice Ac c.length cc] w fun e w' => e = .returned (.bool (alwB c)) ∧ Below w.heap.size w w' := by
  have HB := Aside0.mk (below_alloc (Below.refl w.heap.size w) (.cells #[.slice Ac c.length cc] 26))
  have g0 := newAt (w := w) (o := .cells #[.slice Ac c.length cc] 26) rfl
  have HC := Aside0.mk (Kd.F_below hC HB.out)
  clear hC
  go_enter Try.func53, Try.ntmps53
  go_upto_region 1 with (fail)
  generalize w.alloc (.cells #[.slice Ac c.length cc] 26) = W at *
  have s0 := sg_cell g0
  have G0 := Aside0.mk g0
  clear g0
  have HCF := Aside0.mk (containsFuncL 100 #[.pointer (some ⟨w.heap.size, 0, none⟩)] (alwO c) (enters_of Try.func100 (by kernel_rfl) rfl) c Ac cc _ W HC.out (fun x _ B3 d3 B6 d6 W3 hb3 hX3 => alwO_any c x Ac B3 B6 cc d3 d6 w.heap.size _ _ W3 ((hb3.block _ (blk_lt G0.out)).trans G0.out) (Kd.F_below HC.out hb3) hX3))
  go_wp2_with (fail)
  refine HCF.out.mono ?_
  rintro e w3 ⟨rfl, hb3⟩
  have HB3 := Aside0.mk (hbT HB.out hb3)
  clear hb3 HCF s0
  go_wp2
  go_ret
  exact ⟨rfl, HB3.out⟩

def alwR (g : List Int) (c : List Li) : Bool := if chkCs g [c] = 0 then alwB c else false
set_option maxHeartbeats 4000000 in
set_option maxRecDepth 100000 in
theorem always_any (g : List Int) (Ag : Option Addr) (cg : Nat) (c : List Li) (Ac : Option Addr) (cc : Nat) (okc : Nat → Prop) (w : World) (hG : Kd.C (Kd.int .i64) w Ag g.length g) (hF : Kd.F kLi w okc Ac c.length c) (hc : c.length ≤ cc) :
    Calls Try.prog 12 #[.agg #[.slice Ag g.length cg], .slice Ac c.length cc] w fun e w' => e = .returned (.tuple #[.bool (alwR g c), .int .i64 (chkCs g [c])]) ∧ Below w.heap.size w w' := by
  have HF := Aside0.mk hF
  have HG := Aside0.mk hG
  clear hF hG
  have g0 := newAt (w := w) (o := .cells #[.slice Ag g.length cg] 24) rfl
  have HB := Aside0.mk (below_alloc (Below.refl w.heap.size w) (.cells #[.slice Ag g.length cg] 24))
  go_enter Try.func12, Try.ntmps12
  go_upto_region 1 with (fail)
  generalize w.alloc (.cells #[.slice Ag g.length cg] 24) = W at *
  have s0 := sg_cell g0
  clear g0
  go_upto_region 2 with (go_at_call 51; refine (clauseOne_any g Ag cg c Ac cc _ _ (Kd.C_below HG.out HB.out) (Kd.F_below HF.out HB.out) hc).mono ?_; rintro e w2 ⟨rfl, hb2⟩; have HB2 := Aside0.mk hb2; clear hb2 s0)
  have HB02 := Aside0.mk (hbT HB.out HB2.out)
  by_cases h0 : chkCs g [c] = 0
  · have h0b := bneF h0
    have HR : Aside0 (alwR g c = alwB c) := ⟨by unfold alwR; rw [if_pos h0]⟩
    have H0 := Aside0.mk h0
    clear h0
    go_wp2_with (go_at_call 53; refine (isAlways_any c Ac cc _ w2 (Kd.F_below HF.out HB02.out)).mono ?_; rintro e w3 ⟨rfl, hb3⟩; have HB3 := Aside0.mk hb3; clear hb3)
    go_ret2
    exact ⟨by rw [HR.out, H0.out]; rfl, hbT HB02.out HB3.out⟩
  · have h0b := bneT h0
    have HR : Aside0 (alwR g c = false) := ⟨by unfold alwR; rw [if_neg h0]⟩
    clear h0
    go_wp2
    go_ret2
    exact ⟨by rw [HR.out]; rfl, HB02.out⟩
end Go.Proofs.Ytcgnpmjkeifokaa
-- K45
/- superposeref.AlwaysOf, SameClause, superposelaw.clauseIs. -/
namespace Go.Proofs.Ytcgnpmjkeifokaa
open Go.RowKit Go.Proofs.YtcgnpmjkeifokaaW.PrintWords
set_option linter.unusedVariables false
set_option linter.unusedSimpArgs false

theorem sidesB_comm (a b : Li) : sidesB a b = sidesB b a := by
  unfold sidesB
  rw [eqT_comm a.f1 b.f1, eqT_comm a.f2 b.f2, eqT_comm a.f1 b.f2, eqT_comm a.f2 b.f1]
  cases eqT b.f1 a.f1 <;> cases eqT b.f2 a.f2 <;> cases eqT b.f2 a.f1 <;> cases eqT b.f1 a.f2 <;> rfl
def alwI2 (l x : Li) : Bool := !x.f0 && sidesB l x
theorem alwI2_eq (l : Li) : alwI2 l = alwI l := by funext x; unfold alwI2 alwI; rw [sidesB_comm]

set_option maxHeartbeats 4000000 in
set_option maxRecDepth 100000 in
theorem alwaysOf_any (c : List Li) (Ac : Option Addr) (cc : Nat) (okc : Nat → Prop) (w : World) (hC : Kd.F kLi w okc Ac c.length c) :
    Calls Try.prog 16 #[.slice Ac c.length cc] w fun e w' => e = .returned (.bool (alwB c)) ∧ Below w.heap.size w w' := by
  have hlen := Kd.F_max hC
  have HC := Aside0.mk hC
  clear hC
  go_enter Try.func16, Try.ntmps16
  go_wp2
  go_loopw [3] (fun i wr => ∃ k : Nat, k ≤ c.length ∧ i = .int .i64 k ∧ Aside0 ((c.take k).any (alwO c) = false) ∧ Aside0 (Below w.heap.size w wr)) (fun i _ => c.length - (intOf i).toNat)
  case atStart => exact ⟨0, by omega, rfl, ⟨rfl⟩, ⟨Below.refl _ _⟩⟩
  case round =>
    obtain ⟨k, hk, rfl, HA, HBo⟩ := hrel
    rename World => wo
    by_cases hlt : k < c.length
    · obtain ⟨ad, A3, c3, A6, c6, rfl, E0, E1, E2, E3, E4, E5, E6, hL, _⟩ := at_Lit (Kd.F_below HC.out HBo.out) k hlt
      have HL := Aside0.mk hL
      have H1 := Aside0.mk (anyL_take (p := alwO c) hlt HA.out)
      have H2 := Aside0.mk (anyL_at (p := alwO c) hlt)
      rw [← rdLi_get c k hlt] at H1 H2
      have hki : (k : Int) < c.length := by omega
      clear hL
      generalize rd_Li c k = l at *
      cases hy : l.f0 with
      | false =>
        have HR : Aside0 ((c.take (k+1)).any (alwO c) = false) := ⟨by rw [H1.out, alwO_f hy]⟩
        rw [hy] at E0
        clear hy
        go_wp2
        go_roundw
        case rel => exact ⟨k + 1, by omega, by go_num, HR, HBo⟩
        case measure => simp [intOf]; omega
      | true =>
        have HY := Aside0.mk hy
        rw [hy] at E0
        clear hy
        go_upto_region 5 with (fail)
        have r0 := fun d os => cell_regrown E0 d os
        have r1 := fun d os => cell_regrown E1 d os
        have r2 := fun d os => cell_regrown E2 d os
        have r3 := fun d os => cell_regrown E3 d os
        have r4 := fun d os => cell_regrown E4 d os
        have r5 := fun d os => cell_regrown E5 d os
        have r6 := fun d os => cell_regrown E6 d os
        have SS : Aside0 (∀ W', Below wo.heap.size wo W' → Calls Try.prog 33 #[.agg #[.int .i64 l.f1.f0, .int .i64 l.f1.f1, .slice A3 l.f1.f2.length c3], .agg #[.int .i64 l.f2.f0, .int .i64 l.f2.f1, .slice A6 l.f2.f2.length c6]] W' fun e w' => e = .returned (.bool (eqT l.f1 l.f2)) ∧ Below W'.heap.size W' w') := ⟨fun W' hb => sameTerm_any (szT l.f1) l.f1 l.f2 A3 A6 c3 c6 _ _ W' (Nat.le_refl _) (Kd.F_below HL.out.F3 hb) HL.out.l3 (Kd.F_below HL.out.F6 hb) HL.out.l6⟩
        have HE0 := Aside0.mk E0
        have HE1 := Aside0.mk E1
        have HE2 := Aside0.mk E2
        have HE3 := Aside0.mk E3
        have HE4 := Aside0.mk E4
        have HE5 := Aside0.mk E5
        have HE6 := Aside0.mk E6
        clear E0 E1 E2 E3 E4 E5 E6
        (refine wq_draws (by kernel_rfl) (by kernel_rfl) ?_; (repeat (refine wq_step (fun K hK => ?_); go_simp; first | (refine hK _ ?_; clear hK K) | (apply Exists.intro; refine ⟨fun _ => ?_, hK _ ?_⟩; (((with_reducible refine Calls.regrown_of (SS.out _ (below_regrown _ _ _))))); clear hK K))); refine wq_nil ?_; intro W2 hbW2)
        have HB2 := Aside0.mk hbW2
        clear hbW2 r0 r1 r2 r3 r4 r5 r6 SS
        cases he : eqT l.f1 l.f2 with
        | true =>
          have HR : Aside0 (alwB c = true) := ⟨H2.out (alwO_e HY.out he)⟩
          clear he
          go_wp2
          go_ret
          exact ⟨ret_bool HR.out.symm, hbT HBo.out HB2.out⟩
        | false =>
          have HN : Aside0 (alwO c l = c.any (alwI2 l)) := ⟨by rw [alwO_n HY.out he, alwI2_eq]⟩
          clear he
          have HBo2 := Aside0.mk (hbT HBo.out HB2.out)
          have HLo := Aside0.mk (HL.out.below HB2.out)
          go_wp2
          go_loopw [4] (fun i wr => ∃ j : Nat, j ≤ c.length ∧ i = .int .i64 j ∧ Aside0 ((c.take j).any (alwI2 l) = false) ∧ Aside0 (Below W2.heap.size W2 wr)) (fun i _ => c.length - (intOf i).toNat)
          case atStart => exact ⟨0, by omega, rfl, ⟨rfl⟩, ⟨Below.refl _ _⟩⟩
          case round =>
            obtain ⟨j, hj, rfl, HJ, HBj⟩ := hrel
            have HBoj := Aside0.mk (hbT HBo2.out HBj.out)
            have HB2j := Aside0.mk (hbT HB2.out HBj.out)
            by_cases hjl : j < c.length
            · obtain ⟨ad2, B3, d3, B6, d6, hA2, G0, G1, G2, G3, G4, G5, G6, hX, _⟩ := at_Lit (Kd.F_below HC.out HBoj.out) j hjl
              injection hA2 with hA2
              subst hA2
              have HX := Aside0.mk hX
              have K1 := Aside0.mk (anyL_take (p := alwI2 l) hjl HJ.out)
              have K2 := Aside0.mk (anyL_at (p := alwI2 l) hjl)
              rw [← rdLi_get c j hjl] at K1 K2
              have hji : (j : Int) < c.length := by omega
              clear hX
              generalize rd_Li c j = x at *
              have r0 := fun d os => cell_regrown (oldc HB2j.out HE0.out) d os
              have r1 := fun d os => cell_regrown (oldc HB2j.out HE1.out) d os
              have r2 := fun d os => cell_regrown (oldc HB2j.out HE2.out) d os
              have r3 := fun d os => cell_regrown (oldc HB2j.out HE3.out) d os
              have r4 := fun d os => cell_regrown (oldc HB2j.out HE4.out) d os
              have r5 := fun d os => cell_regrown (oldc HB2j.out HE5.out) d os
              have r6 := fun d os => cell_regrown (oldc HB2j.out HE6.out) d os
              have q1 := fun d os => cell_regrown G1 d os
              have q2 := fun d os => cell_regrown G2 d os
              have q3 := fun d os => cell_regrown G3 d os
              have q4 := fun d os => cell_regrown G4 d os
              have q5 := fun d os => cell_regrown G5 d os
              have q6 := fun d os => cell_regrown G6 d os
              have SS : Aside0 (∀ W', Below wr.heap.size wr W' → Calls Try.prog 56 #[.agg #[.bool l.f0, .int .i64 l.f1.f0, .int .i64 l.f1.f1, .slice A3 l.f1.f2.length c3, .int .i64 l.f2.f0, .int .i64 l.f2.f1, .slice A6 l.f2.f2.length c6], .agg #[.bool x.f0, .int .i64 x.f1.f0, .int .i64 x.f1.f1, .slice B3 x.f1.f2.length d3, .int .i64 x.f2.f0, .int .i64 x.f2.f1, .slice B6 x.f2.f2.length d6]] W' fun e w' => e = .returned (.bool (sidesB l x)) ∧ Below W'.heap.size W' w') := ⟨fun W' hb => sameSides_any l x A3 A6 B3 B6 c3 c6 d3 d6 _ _ W' (Kd.F_below HLo.out.F3 (hbT HBj.out hb)) HLo.out.l3 (Kd.F_below HLo.out.F6 (hbT HBj.out hb)) HLo.out.l6 (Kd.F_below HX.out.F3 hb) HX.out.l3 (Kd.F_below HX.out.F6 hb) HX.out.l6⟩
              cases hx : x.f0 with
              | true =>
                have HR : Aside0 ((c.take (j+1)).any (alwI2 l) = false) := ⟨by rw [K1.out]; unfold alwI2; rw [hx]; rfl⟩
                rw [hx] at G0
                have q0 := fun d os => cell_regrown G0 d os
                clear hx G0 G1 G2 G3 G4 G5 G6
                go_upto_region 10 with (fail)
                (refine wq_draws (by kernel_rfl) (by kernel_rfl) ?_; (repeat (refine wq_step (fun K hK => ?_); go_simp; first | (refine hK _ ?_; clear hK K) | (apply Exists.intro; refine ⟨fun _ => ?_, hK _ ?_⟩; ((fail)); clear hK K))); refine wq_nil ?_; intro W2 hbW2)
                have HBW := Aside0.mk hbW2
                clear hbW2 r0 r1 r2 r3 r4 r5 r6 q0 q1 q2 q3 q4 q5 q6
                go_wp2
                go_roundw
                case rel => exact ⟨j + 1, by omega, by go_num, HR, ⟨hbT HBj.out HBW.out⟩⟩
                case measure => simp [intOf]; omega
              | false =>
                have HXe : Aside0 (alwI2 l x = sidesB l x) := ⟨by unfold alwI2; rw [hx]; rfl⟩
                rw [hx] at G0 SS
                have q0 := fun d os => cell_regrown G0 d os
                clear hx G0 G1 G2 G3 G4 G5 G6
                rw [HY.out] at SS
                go_upto_region 10 with (fail)
                (refine wq_draws (by kernel_rfl) (by kernel_rfl) ?_; (repeat (refine wq_step (fun K hK => ?_); go_simp; first | (refine hK _ ?_; clear hK K) | (apply Exists.intro; refine ⟨fun _ => ?_, hK _ ?_⟩; (((with_reducible refine Calls.regrown_of (SS.out _ (below_regrown _ _ _))))); clear hK K))); refine wq_nil ?_; intro W2 hbW2)
                have HBW := Aside0.mk hbW2
                clear hbW2 r0 r1 r2 r3 r4 r5 r6 q0 q1 q2 q3 q4 q5 q6 SS
                cases hs : sidesB l x with
                | true =>
                  have HR : Aside0 (alwB c = true) := ⟨H2.out (by rw [HN.out]; exact K2.out (by rw [HXe.out, hs]))⟩
                  clear hs
                  go_wp2
                  go_ret
                  exact ⟨ret_bool HR.out.symm, hbT HBoj.out HBW.out⟩
                | false =>
                  have HR : Aside0 ((c.take (j+1)).any (alwI2 l) = false) := ⟨by rw [K1.out, HXe.out, hs]⟩
                  clear hs
                  go_wp2
                  go_roundw
                  case rel => exact ⟨j + 1, by omega, by go_num, HR, ⟨hbT HBj.out HBW.out⟩⟩
                  case measure => simp [intOf]; omega
            · obtain rfl : j = c.length := by omega
              have HR : Aside0 ((c.take (k+1)).any (alwO c) = false) := ⟨by rw [H1.out, HN.out]; exact any_none HJ.out⟩
              go_wp2
              go_roundw
              case rel => exact ⟨k + 1, by omega, by go_num, HR, HBoj⟩
              case measure => simp [intOf]; omega
    · obtain rfl : k = c.length := by omega
      have HR : Aside0 (alwB c = false) := ⟨any_none HA.out⟩
      go_wp2
      go_ret
      exact ⟨ret_bool HR.out.symm, HBo.out⟩
end Go.Proofs.Ytcgnpmjkeifokaa
