/- TermTells: Signature, Check, Size and Vars answer just what the document says, errors too, whatever they are handed: for every input. -/
import Derived.Test.YtcgnpmjkeifokaaMC
import Derived.Test.YtcgnpmjkeifokaaKSort
import Derived.Sort.OwnSortedInts
import Derived.Test.YtcgnpmjkeifokaaRows
import Derived.Test.YtcgnpmjkeifokaaChecked
import Derived.ChangeAt
-- KCut
/- Ways that meet again: the goal behind them is told once, for whatever the ways leave. -/
namespace Go.Proofs.Ytcgnpmjkeifokaa
open Go.RowKit Go.Proofs.YtcgnpmjkeifokaaW.PrintWords
set_option linter.unusedVariables false

theorem useT {T G : Prop} (h : T) (e : T = G) : G := e ▸ h
theorem cutT1 {G : Prop} {α : Type} (S : α → World → Prop) (T : α → World → Prop) (main : (∀ a w, S a w → T a w) → G) (key : ∀ a w, S a w → T a w) : G := main key
theorem cutT2 {G : Prop} {α β : Type} (S : α → β → World → Prop) (T : α → β → World → Prop) (main : (∀ a b w, S a b w → T a b w) → G) (key : ∀ a b w, S a b w → T a b w) : G := main key
theorem cutT3 {G : Prop} {α β γ : Type} (S : α → β → γ → World → Prop) (T : α → β → γ → World → Prop) (main : (∀ a b c w, S a b c w → T a b c w) → G) (key : ∀ a b c w, S a b c w → T a b c w) : G := main key
theorem cutT4 {G : Prop} {α β γ δ : Type} (S : α → β → γ → δ → World → Prop) (T : α → β → γ → δ → World → Prop) (main : (∀ a b c d w, S a b c d w → T a b c d w) → G) (key : ∀ a b c d w, S a b c d w → T a b c d w) : G := main key
theorem cutT5 {G : Prop} {α β γ δ ε : Type} (S : α → β → γ → δ → ε → World → Prop) (T : α → β → γ → δ → ε → World → Prop) (main : (∀ a b c d e w, S a b c d e w → T a b c d e w) → G) (key : ∀ a b c d e w, S a b c d e w → T a b c d e w) : G := main key
end Go.Proofs.Ytcgnpmjkeifokaa
-- K32
/- superposeref.Has, SameInts. -/
namespace Go.Proofs.Ytcgnpmjkeifokaa
open Go.RowKit Go.Proofs.YtcgnpmjkeifokaaW.PrintWords
set_option linter.unusedVariables false
set_option linter.unusedSimpArgs false

theorem any_none {α : Type} {p : α → Bool} {l : List α} (h : (l.take l.length).any p = false) : l.any p = false := by rwa [List.take_length] at h
theorem eqP_t {x y : Int} (h : x = y) : eqP y x = true := by unfold eqP; simp [h]
theorem eqP_f {x y : Int} (h : ¬ x = y) : eqP y x = false := by unfold eqP; simp; exact fun e => h e.symm

set_option maxHeartbeats 4000000 in
set_option maxRecDepth 100000 in
theorem has_any (xs : List Int) (y : Int) (A : Option Addr) (c : Nat) (w : World) (hC : Kd.C (Kd.int .i64) w A xs.length xs) :
    Calls Try.prog 89 #[.slice A xs.length c, .int .i64 y] w fun e w' => e = .returned (.bool (hasB xs y)) ∧ Below w.heap.size w w' := by
  have hlen := hC.2.1
  have HC := Aside0.mk hC
  clear hC
  go_enter Try.func89, Try.ntmps89
  go_wp2
  go_loopw [5] (fun i wr => ∃ k : Nat, k ≤ xs.length ∧ i = .int .i64 k ∧ Aside0 ((xs.take k).any (eqP y) = false) ∧ Below w.heap.size w wr) (fun i _ => xs.length - (intOf i).toNat)
  case atStart => exact ⟨0, by omega, rfl, ⟨rfl⟩, Below.refl _ _⟩
  case round =>
    obtain ⟨k, hk, rfl, h0, hb⟩ := hrel
    by_cases hlt : k < xs.length
    · obtain ⟨ad, rfl, e0⟩ := at_Int HC.out (k : Int) (by omega) (by omega)
      simp only [Int.toNat_natCast] at e0
      have hx : xs.getD k 0 = xs[k] := by simp [List.getD_eq_getElem?_getD, hlt]
      rw [hx] at e0
      have E0 := oldc hb e0
      have H1 := Aside0.mk (any_take (p := eqP y) hlt h0.out)
      have H2 := Aside0.mk (any_at (p := eqP y) hlt)
      clear e0 hx
      generalize xs[k] = x at *
      by_cases hq : x = y
      · have hq1 := beqT hq
        have HR := Aside0.mk (show hasB xs y = true from H2.out (eqP_t hq))
        clear hq
        go_wp2
        go_ret
        exact ⟨ret_bool HR.out.symm, hb⟩
      · have hq1 := beqF hq
        have HR := Aside0.mk (H1.out.trans (eqP_f hq))
        clear hq
        go_wp2
        go_roundw
        case rel => exact ⟨k + 1, by omega, by go_num, HR, hb⟩
        case measure => simp [intOf]; omega
    · obtain rfl : k = xs.length := by omega
      have HR := Aside0.mk (show hasB xs y = false from any_none h0.out)
      clear h0
      go_wp2
      go_ret
      exact ⟨ret_bool HR.out.symm, hb⟩

def sameI_ (a b : List Int) : Bool := decide (a = b)
theorem sameI_len {a b : List Int} (h : ¬ a.length = b.length) : sameI_ a b = false := by unfold sameI_; simp; intro e; exact h (by rw [e])
theorem sameI_ne {a b : List Int} {k : Nat} (h : ¬ a.getD k 0 = b.getD k 0) : sameI_ a b = false := by unfold sameI_; simp; intro e; exact h (by rw [e])
theorem take_getD_succ {a b : List Int} {k : Nat} (ha : k < a.length) (hb : k < b.length) (h0 : a.take k = b.take k) (h : a.getD k 0 = b.getD k 0) : a.take (k+1) = b.take (k+1) := by
  rw [List.take_succ_eq_append_getElem ha, List.take_succ_eq_append_getElem hb, h0]
  simp [List.getD_eq_getElem?_getD, ha, hb] at h
  rw [h]

set_option maxHeartbeats 4000000 in
set_option maxRecDepth 100000 in
theorem sameInts_any (xs ys : List Int) (A B : Option Addr) (c d : Nat) (w : World) (hC : Kd.C (Kd.int .i64) w A xs.length xs) (hD : Kd.C (Kd.int .i64) w B ys.length ys) :
    Calls Try.prog 46 #[.slice A xs.length c, .slice B ys.length d] w fun e w' => e = .returned (.bool (sameI_ xs ys)) ∧ Below w.heap.size w w' := by
  have hlen := hC.2.1
  have hlen2 := hD.2.1
  have HC := Aside0.mk hC
  have HD := Aside0.mk hD
  clear hC hD
  by_cases hl : xs.length = ys.length
  · have hl1 : ((xs.length : Int) != ys.length) = false := bneF (by omega)
    go_enter Try.func46, Try.ntmps46
    go_wp2
    go_loopw [5] (fun i wr => ∃ k : Nat, k ≤ xs.length ∧ i = .int .i64 k ∧ Aside0 (xs.take k = ys.take k) ∧ Below w.heap.size w wr) (fun i _ => xs.length - (intOf i).toNat)
    case atStart => exact ⟨0, by omega, rfl, ⟨rfl⟩, Below.refl _ _⟩
    case round =>
      obtain ⟨k, hk, rfl, h0, hb⟩ := hrel
      by_cases hlt : k < xs.length
      · obtain ⟨ad, rfl, e0⟩ := at_Int HC.out (k : Int) (by omega) (by omega)
        obtain ⟨ad2, rfl, f0⟩ := at_Int HD.out (k : Int) (by omega) (by omega)
        simp only [Int.toNat_natCast] at e0 f0
        have E0 := oldc hb e0
        have F0 := oldc hb f0
        have H1 := Aside0.mk (take_getD_succ hlt (by omega) h0.out)
        have H2 := Aside0.mk (sameI_ne (a := xs) (b := ys) (k := k))
        have hk2 : (k : Int) < ys.length := by omega
        clear e0 f0
        generalize xs.getD k 0 = x at *
        generalize ys.getD k 0 = y at *
        by_cases hq : x = y
        · have hq1 := bneF hq
          have HR := Aside0.mk (H1.out hq)
          clear hq
          go_wp2
          go_quiet (fail)
          go_wp2
          go_roundw
          case rel => exact ⟨k + 1, by omega, by go_num, HR, pw_below_drewN hb _⟩
          case measure => simp [intOf]; omega
        · have hq1 := bneT hq
          have HR := Aside0.mk (H2.out hq)
          clear hq
          go_wp2
          go_quiet (fail)
          go_wp2
          go_ret
          exact ⟨ret_bool HR.out.symm, pw_below_drewN hb _⟩
      · obtain rfl : k = xs.length := by omega
        have HR := Aside0.mk (show sameI_ xs ys = true by have := h0.out; rw [List.take_length, hl, List.take_length] at this; unfold sameI_; simp [this])
        clear h0
        go_wp2
        go_ret
        exact ⟨ret_bool HR.out.symm, hb⟩
  · have hl1 : ((xs.length : Int) != ys.length) = true := bneT (by omega)
    have HR := Aside0.mk (sameI_len hl)
    clear hl
    go_enter Try.func46, Try.ntmps46
    go_wp2
    go_ret
    exact ⟨ret_bool HR.out.symm, Below.refl _ _⟩
end Go.Proofs.Ytcgnpmjkeifokaa
-- K33
/- superposeref.FirstVars. -/
namespace Go.Proofs.Ytcgnpmjkeifokaa
open Go.RowKit Go.Proofs.YtcgnpmjkeifokaaW.PrintWords
set_option linter.unusedVariables false
set_option linter.unusedSimpArgs false

def stepV (s : List Int) (x : Tm) : List Int := if 0 < x.f0 ∧ hasB s x.f0 = false then s ++ [x.f0] else s
def fvP (s : List Int) (l : List Tm) : List Int := l.foldl stepV s
def fvL : List Int → List Tm → List Int
  | s, [] => s
  | s, t :: ts => fvL (fvP s (ptsT t)) ts
theorem fvP_append (s : List Int) (a b : List Tm) : fvP s (a ++ b) = fvP (fvP s a) b := by unfold fvP; exact List.foldl_append
theorem fvP_take_succ (s : List Int) (l : List Tm) (k : Nat) (hk : k < l.length) : fvP s (l.take (k+1)) = stepV (fvP s (l.take k)) (rd_Tm l k) := by
  rw [List.take_succ_eq_append_getElem hk, fvP_append, rd_get l k hk]; rfl
theorem fvL_append (a b : List Tm) : ∀ s, fvL s (a ++ b) = fvL (fvL s a) b := by
  induction a with
  | nil => intro s; rfl
  | cons t ts ih => intro s; simp only [List.cons_append, fvL]; exact ih _
theorem fvL_take_succ (s : List Int) (l : List Tm) (k : Nat) (hk : k < l.length) : fvL s (l.take (k+1)) = fvP (fvL s (l.take k)) (ptsT (rd_Tm l k)) := by
  rw [List.take_succ_eq_append_getElem hk, fvL_append, rd_get l k hk]; rfl
theorem stepV_len (s : List Int) (x : Tm) : (stepV s x).length ≤ s.length + 1 := by unfold stepV; split <;> simp
theorem fvP_len (l : List Tm) : ∀ s, (fvP s l).length ≤ s.length + l.length := by
  induction l with
  | nil => intro s; simp [fvP]
  | cons t ts ih =>
    intro s
    have h1 := ih (stepV s t)
    have h2 := stepV_len s t
    have e : fvP s (t :: ts) = fvP (stepV s t) ts := rfl
    rw [e, List.length_cons]; omega
theorem fvL_len (l : List Tm) : ∀ s, (fvL s l).length ≤ s.length + szL l := by
  induction l with
  | nil => intro s; simp [fvL]
  | cons t ts ih =>
    intro s
    have h1 := ih (fvP s (ptsT t))
    have h2 := fvP_len (ptsT t) s
    rw [ptsT_len] at h2
    simp only [fvL, szL]; omega
/-- Of a term that is right, it is what Stands tells. -/
theorem walk_fv (g : List Int) (t : Tm) : formE g t = 0 → ∀ s, fvP s (ptsT t) = (walkT stF s t).1 ∧ (walkT stF s t).2 = true := by
  refine Tm.rec (motive_1 := fun t => formE g t = 0 → ∀ s, fvP s (ptsT t) = (walkT stF s t).1 ∧ (walkT stF s t).2 = true) (motive_2 := fun l => formEL g l = 0 → ∀ s, fvP s (ptsL l) = (walkL stF s l).1 ∧ (walkL stF s l).2 = true) ?_ ?_ ?_ t
  · intro v f l ih hf s
    obtain ⟨ha, hp⟩ : formEL g l = 0 ∧ partE g ⟨v, f, l⟩ = 0 := by
      rw [formE] at hf
      by_cases hl : formEL g l = 0
      · rw [if_neg (by simpa using hl)] at hf; exact ⟨hl, hf⟩
      · rw [if_pos hl] at hf; exact absurd hf hl
    rw [ptsT, fvP_append, walkT]
    have e2 : (stF s ⟨v, f, l⟩).2 = true := rfl
    rw [e2]
    simp only [if_true]
    by_cases hv : v = 0
    · have e1 : (stF s ⟨v, f, l⟩).1 = s := by unfold stF; simp [hv]
      have h1 := ih ha s
      rw [e1]
      refine ⟨?_, h1.2⟩
      rw [h1.1]
      unfold fvP; simp [stepV, hv]
    · have hl : l = [] := by
        unfold partE at hp
        rw [if_pos hv] at hp
        split at hp
        · split at hp
          · rename_i h; exact List.length_eq_zero_iff.1 h.1
          · cases hp
        · cases hp
      subst hl
      refine ⟨?_, by rw [walkL]⟩
      rw [walkL]; rfl
  · intro _ s; exact ⟨rfl, by rw [walkL]⟩
  · intro t ts h1 h2 hf s
    rw [formEL] at hf
    by_cases hl : formE g t = 0
    · rw [if_neg (by simpa using hl)] at hf
      obtain ⟨a1, a2⟩ := h1 hl s
      obtain ⟨b1, b2⟩ := h2 hf (fvP s (ptsT t))
      rw [ptsL, fvP_append]
      rw [a1] at b1 b2 ⊢
      have e := a2
      have : walkL stF s (t :: ts) = walkL stF (walkT stF s t).1 ts := by
        rw [walkL]
        generalize walkT stF s t = r at *
        obtain ⟨r1, r2⟩ := r
        simp only at e; subst e
        rfl
      rw [this]
      exact ⟨b1, b2⟩
    · rw [if_pos hl] at hf; exact absurd hf hl
theorem stL_fvL (g : List Int) (l : List Tm) : (∀ t ∈ l, formE g t = 0) → ∀ s, stL s l = fvL s l := by
  induction l with
  | nil => intro _ s; rfl
  | cons t ts ih =>
    intro h s
    rw [stL, fvL, (walk_fv g t (h t (by simp)) s).1]
    exact ih (fun x hx => h x (by simp [hx])) _

set_option maxHeartbeats 4000000 in
set_option maxRecDepth 100000 in
theorem firstVars_any (l : List Tm) (A : Option Addr) (c : Nat) (ok : Nat → Prop) (w : World) (hbd : szL l ≤ 1000000) (hF : Kd.F kTm w ok A l.length l) (hcp : ∀ x ∈ l, szT x ≤ 1000000) :
    Calls Try.prog 41 #[.slice A l.length c] w fun e w' => ∃ v1, e = .returned v1 ∧ Kd.N (Kd.int .i64) 3 w' w.heap.size (fun k => w.heap.size ≤ k) v1 (fvL [] l) ∧ Below w.heap.size w w' := by
  have hlen := Kd.F_max hF
  have HF := Aside0.mk (Kd.F_bound hF)
  have HBD := Aside0.mk hbd
  clear hF hbd hcp
  go_enter Try.func41, Try.ntmps41
  go_wp2
  go_loopw [3, 4] (fun v0 i wr => ∃ (k : Nat) (vk : Value), k ≤ l.length ∧ i = .int .i64 k ∧ vk = v0 ∧ Aside0 (Kd.N (Kd.int .i64) 3 wr w.heap.size (fun k => w.heap.size ≤ k) vk (fvL [] (l.take k))) ∧ Aside0 (Below w.heap.size w wr)) (fun _ i _ => l.length - (intOf i).toNat)
  case atStart => exact ⟨0, _, by omega, rfl, rfl, ⟨Kd.N_nil _ _ _ _ _⟩, ⟨Below.refl _ _⟩⟩
  case round =>
    rename World => wo
    obtain ⟨k, vk, hk, rfl, rfl, HN, HB⟩ := hrel
    have hzr := HB.out.size
    by_cases hlt : k < l.length
    · obtain ⟨ad, A2, c2, rfl, E0, E1, E2, hl2, hF2, _⟩ := at_TmF (Kd.F_below HF.out HB.out) (k : Int) (by omega) (by omega)
      simp only [Int.toNat_natCast] at E0 E1 E2
      have HTm := Aside0.mk (szT_mem (rd_mem l k hlt))
      have HTK := Aside0.mk (fvL_take_succ [] l k hlt)
      have HLN := Aside0.mk (fvL_len (l.take k) [])
      have HLE := Aside0.mk (szL_take_le l (k+1))
      have HLS := Aside0.mk (szL_take_succ l k hlt)
      have HF2 := Aside0.mk hF2
      have HC2 := Aside0.mk hl2
      clear hF2 hl2
      go_wp2_with (go_at_call 69; refine (partsOf_any _ (rd_Tm l (k : Int)) A2 c2 (.slice none 0 0) [] wo.heap.size (fun j => (ok j ∧ j < w.heap.size) ∨ wo.heap.size ≤ j) _ wo (Nat.le_refl _) ?_ (Kd.N_nil _ _ _ _ _) HF2.out HC2.out (fun j hj => ⟨.inl hj, by simp [Value.ownBlock]⟩) (fun j hj => .inr hj) (Nat.le_refl _)).mono ?_; (have := HTm.out; have := HBD.out; simp; omega); rintro e w3 ⟨v5, rfl, hN5, hG5, hI5⟩; obtain ⟨A5, c5, rfl⟩ := Kd.N_slice hN5; simp only [List.nil_append] at hN5 ⊢; have HF5 := Aside0.mk (Kd.F_bound (Kd.N_F hN5)); have HB5 := Aside0.mk (gbB hG5 (.inl rfl)); clear hN5 hG5 hI5 E0 E1 E2)
      have hz5 := HB5.out.size
      have HB3 := Aside0.mk (hbT HB.out HB5.out)
      have HN3 := Aside0.mk (Kd.N_mono (Kd.N_old HN.out HB5.out) (ok' := fun j => (w.heap.size ≤ j ∧ j < wo.heap.size) ∨ w3.heap.size ≤ j) (fun j hj => .inl hj))
      have HPL := Aside0.mk (ptsT_len (rd_Tm l (k : Int)))
      generalize hpts : ptsT (rd_Tm l (k : Int)) = pts at *
      have HPT := Aside0.mk hpts
      have hlen5 := Kd.F_max HF5.out
      clear hpts
      go_loopw [3, 6] (fun v0 i w4 => ∃ (j : Nat) (vj : Value), j ≤ pts.length ∧ i = .int .i64 j ∧ vj = v0 ∧ Aside0 (Kd.N (Kd.int .i64) 3 w4 w.heap.size (fun j => (w.heap.size ≤ j ∧ j < wo.heap.size) ∨ w3.heap.size ≤ j) vj (fvP (fvL [] (l.take k)) (pts.take j))) ∧ Aside0 (Kd.F kTm w4 (fun j => ((ok j ∧ j < w.heap.size) ∨ wo.heap.size ≤ j) ∧ j < w3.heap.size) A5 pts.length pts) ∧ Aside0 (Below w.heap.size w w4) ∧ w3.heap.size ≤ w4.heap.size) (fun _ i _ => pts.length - (intOf i).toNat)
      case atStart => exact ⟨0, vk, by omega, rfl, rfl, HN3, HF5, HB3, Nat.le_refl _⟩
      case round =>
        obtain ⟨j, vj, hj, rfl, rfl, HNj, HFj, HBj, hzj⟩ := hrel
        by_cases hlj : j < pts.length
        · obtain ⟨ad5, A6, c6, rfl, F0, F1, F2, hl6, hF6, hok6⟩ := at_TmF HFj.out (j : Int) (by omega) (by omega)
          simp only [Int.toNat_natCast] at F0 F1 F2
          have HPK := Aside0.mk (fvP_take_succ (fvL [] (l.take k)) pts j hlj)
          have HPN := Aside0.mk (fvP_len (pts.take j) (fvL [] (l.take k)))
          have HTKE := Aside0.mk (List.length_take_le j pts)
          clear hF6 hl6 F1 F2
          generalize hs : fvP (fvL [] (l.take k)) (pts.take j) = s at *
          have HSB : Aside0 (s.length ≤ 1000000) := ⟨by have := HPN.out; have := HTKE.out; have := HPL.out; have := HLN.out; have := HLE.out; have := HLS.out; have := HBD.out; simp only [List.length_nil] at *; omega⟩
          obtain ⟨Aj, cj, rfl⟩ := Kd.N_slice HNj.out
          by_cases hp : 0 < (rd_Tm pts (j : Int)).f0
          · cases hh : hasB s (rd_Tm pts (j : Int)).f0 with
            | true =>
              have HR : Aside0 (fvP (fvL [] (l.take k)) (pts.take (j+1)) = s) := ⟨by rw [HPK.out, stepV, if_neg (by simp [hh])]⟩
              go_wp2_with (go_at_call 89; refine (has_any s _ Aj cj wr (Kd.N_reads' HNj.out).2.2).mono ?_; rintro e w5 ⟨rfl, hb5⟩; simp only [hh]; have HB6 := Aside0.mk hb5; clear hb5)
              go_roundw
              case rel => exact ⟨j + 1, _, by omega, by go_num, rfl, ⟨by rw [HR.out]; exact Kd.N_below HNj.out HB6.out⟩, ⟨Kd.F_below HFj.out HB6.out⟩, ⟨hbT HBj.out HB6.out⟩, Nat.le_trans hzj HB6.out.size⟩
              case measure => simp [intOf]; omega
            | false =>
              have HR : Aside0 (fvP (fvL [] (l.take k)) (pts.take (j+1)) = s ++ [(rd_Tm pts (j : Int)).f0]) := ⟨by rw [HPK.out, stepV, if_pos ⟨hp, hh⟩]⟩
              have hsz4 := HBj.out.size
              go_wp2_with (first | (go_at_call 89; refine (has_any s _ Aj cj wr (Kd.N_reads' HNj.out).2.2).mono ?_; rintro e w5 ⟨rfl, hb5⟩; simp only [hh]; have HB6 := Aside0.mk hb5; have HN6 := Aside0.mk (Kd.N_below HNj.out hb5); have hz6 := hb5.size; have F6 := oldc hb5 F0; clear hb5) | (at_builtin; refine Kd.N_append (Kd.int .i64) (w0 := w5) w.heap.size rfl _ _ 22 3 _ 8 rfl Try.underlying22 infoI rfl (by decide) (by decide) (.slice Aj s.length cj) s (rd_Tm pts (j : Int)).f0 [.int .i64 (rd_Tm pts (j : Int)).f0] (fun j => (w.heap.size ≤ j ∧ j < wo.heap.size) ∨ w3.heap.size ≤ j) (fun _ => False) rfl rfl (fun _ _ => rfl) (fun _ h => h.elim) (fun q hq => .inr (by omega)) HN6.out (Below.refl _ _) (by omega) ?_ ?_; (have := HSB.out; omega); intro v7 w7 hN7 hB7 hG7 hI7; have HN7 := Aside0.mk hN7; have HB7 := Aside0.mk hB7; have HG7 := Aside0.mk hG7; clear hN7 hB7 hG7 hI7))
              go_roundw
              case rel =>
                have hz7 := HG7.out.size
                exact ⟨j + 1, _, by omega, by go_num, rfl, ⟨by rw [HR.out]; exact HN7.out⟩, ⟨Kd.F_grown (Kd.F_below HFj.out HB6.out) HG7.out (fun q hq => fun e => by
                  have h1 := HN6.out.1 q e.symm
                  have := hq.2
                  rcases h1 with h1 | h1
                  · rcases hq.1 with h2 | h2
                    · have := h2.2; omega
                    · omega
                  · omega)⟩, ⟨(hbT HBj.out HB6.out).trans HB7.out⟩, by omega⟩
              case measure => simp [intOf]; omega
          · have HR : Aside0 (fvP (fvL [] (l.take k)) (pts.take (j+1)) = s) := ⟨by rw [HPK.out, stepV, if_neg (by simp [hp])]⟩
            go_wp2
            go_roundw
            case rel => exact ⟨j + 1, _, by omega, by go_num, rfl, ⟨by rw [HR.out]; exact HNj.out⟩, HFj, HBj, hzj⟩
            case measure => simp [intOf]; omega
        · obtain rfl : j = pts.length := by omega
          have HR : Aside0 (fvL [] (l.take (k+1)) = fvP (fvL [] (l.take k)) (pts.take pts.length)) := ⟨by rw [HTK.out, List.take_length]⟩
          go_wp2
          go_roundw
          case rel => exact ⟨k + 1, vj, by omega, by go_num, rfl, ⟨by rw [HR.out]; exact Kd.N_mono HNj.out (fun q hq => by rcases hq with hq | hq <;> omega)⟩, HBj⟩
          case measure => simp [intOf]; omega
    · obtain rfl : k = l.length := by omega
      have HN2 := HN.out
      rw [List.take_length] at HN2
      have HN2 := Aside0.mk HN2
      go_wp2
      go_ret
      first | exact ⟨vk, rfl, HN2.out, HB.out⟩ | exact ⟨rfl, vk, HN2.out, HB.out⟩
end Go.Proofs.Ytcgnpmjkeifokaa
-- K34
/- slices.Sort of whole numbers, of a row of the call's own. -/
namespace Go.Proofs.Ytcgnpmjkeifokaa
open Go.RowKit Go.Proofs.YtcgnpmjkeifokaaW.PrintWords
set_option linter.unusedVariables false
set_option linter.unusedSimpArgs false

theorem insertion0 (v : Value) (w : World) : Calls Try.prog 137 #[v, .int .i64 0, .int .i64 0] w fun e w' => e = .returned (.tuple #[]) ∧ w' = w := by
  go_enter Try.func137, Try.ntmps137
  go_wp2
  go_loopw [6] (fun i wr => i = .int .i64 1 ∧ wr = w) (fun i _ => 0)
  case atStart => exact ⟨rfl, rfl⟩
  case round =>
    obtain ⟨rfl, rfl⟩ := hrel
    go_wp2
    first | go_end0 | ((try simp only [Exit.inBlock, Exit.then]); refine bodyPost_ret (results_none rfl _ _ _) rfl ?_)
    exact ⟨rfl, rfl⟩
set_option maxRecDepth 20000 in
theorem pdq0 (v lim : Value) (w : World) : Calls Try.prog 122 #[v, .int .i64 0, .int .i64 0, lim] w fun e w' => e = .returned (.tuple #[]) ∧ w' = w := by
  go_enter Try.func122, Try.ntmps122
  go_wp2
  go_loopw [1, 2] (fun a b wr => a = .int .i64 0 ∧ b = .int .i64 0 ∧ wr = w) (fun a b _ => 0)
  case atStart => exact ⟨rfl, rfl, rfl⟩
  case round =>
    obtain ⟨rfl, rfl, rfl⟩ := hrel
    go_wp2_with (go_at_call 137; refine (insertion0 _ _).mono ?_; rintro e w2 ⟨rfl, rfl⟩)
    first | go_end0 | ((try simp only [Exit.inBlock, Exit.then]); refine bodyPost_ret (results_none rfl _ _ _) rfl ?_)
    exact ⟨rfl, rfl⟩
set_option maxRecDepth 100000 in
theorem len64z (w : World) : Calls Try.prog 147 #[.int .u64 0] w fun e w' => e = .returned (.int .i64 0) ∧ w' = w := by
  go_enter Try.func147, Try.ntmps147
  go_wp2
  go_ret
  exact ⟨ret_int (by kernel_rfl), rfl⟩
theorem lenz (w : World) : Calls Try.prog 123 #[.int .u64 0] w fun e w' => e = .returned (.int .i64 0) ∧ w' = w := by
  go_enter Try.func123, Try.ntmps123
  go_wp2_with (go_at_call 147; refine (len64z _).mono ?_; rintro e w2 ⟨rfl, rfl⟩)
  go_ret
  exact ⟨rfl, rfl⟩
theorem sort0 (A : Option Addr) (c : Nat) (w : World) : Calls Try.prog 88 #[.slice A 0 c] w fun e w' => e = .returned (.tuple #[]) ∧ w' = w := by
  go_enter Try.func88, Try.ntmps88
  go_wp2_with (first | (go_at_call 123; refine (lenz _).mono ?_; rintro e w2 ⟨rfl, rfl⟩) | (go_at_call 122; refine (pdq0 _ _ _).mono ?_; rintro e w2 ⟨rfl, rfl⟩))
  first | go_end0 | ((try simp only [Exit.inBlock, Exit.then]); refine bodyPost_ret (results_none rfl _ _ _) rfl ?_)
  exact ⟨rfl, rfl⟩

def riseI (xs : List Int) : List Int := xs.mergeSort fun x y => decide (x ≤ y)
theorem riseI_len (xs : List Int) : (riseI xs).length = xs.length := List.length_mergeSort _
theorem addZ (g j : Nat) : (⟨g, 0, none⟩ : Addr).add j = ⟨g, 0 + j, none⟩ := by
  unfold Addr.add
  by_cases h : j = 0
  · rw [if_pos h, h]
  · rw [if_neg h]
theorem R_of_own' {e g cap : Nat} {w : World} {base n : Nat} {ok : Nat → Prop} {ts : List Int} (ho : w.ownsRow base e 1 (.slice (some ⟨g, 0, none⟩) n cap) n (ts.map (Value.int .i64))) (hl : ts.length = n) (hok : ∀ k, (Value.slice (some ⟨g, 0, none⟩) n cap).ownBlock = some k → ok k) : Kd.R (Kd.int .i64) e w base ok (.slice (some ⟨g, 0, none⟩) n cap) ts := by
  subst hl
  exact Kd.R_of_own ho hok
theorem sort_any (xs : List Int) (A : Option Addr) (c base : Nat) (ok : Nat → Prop) (w : World) (hN : Kd.N (Kd.int .i64) 3 w base ok (.slice A xs.length c) xs) (hsz : xs.length ≤ 1000000) :
    Calls Try.prog 88 #[.slice A xs.length c] w fun e w' => e = .returned (.tuple #[]) ∧ Kd.N (Kd.int .i64) 3 w' base ok (.slice A xs.length c) (riseI xs) ∧ w.grownBy w' (Value.slice A xs.length c).ownBlock := by
  by_cases h0 : xs.length = 0
  · have hx : xs = [] := List.length_eq_zero_iff.1 h0
    subst hx
    refine (sort0 A c w).mono fun e w' h => ⟨h.1, ?_, ?_⟩
    · rw [h.2]; rw [show riseI [] = [] from by simp [riseI]]; exact hN
    · rw [h.2]; exact gbOf (Below.refl _ _) _
  · have hC := (Kd.N_reads' hN).2.2
    obtain ⟨hk, rows, hrl, ⟨_, inner, ⟨ho1, ho2⟩, _⟩, _⟩ := hN
    rcases ho2 with ⟨h1, _⟩ | ⟨g, cap, cur, hv, hbase, hb, h1, h2, h3, h4⟩
    · injection h1 with _ h1 _; exact absurd h1 h0
    · injection hv with hA hL hcap
      subst hA hcap
      have hH : Go.Sort.Holds (Value.int .i64) w g 0 xs.toArray := by
        intro j hj
        have hj' : j < xs.length := by simpa using hj
        refine ⟨?_, by simp [World.frozen?, hb]⟩
        obtain ⟨ad, e, hcell⟩ := at_Int hC (j : Int) (by omega) (by omega)
        injection e with e
        subst e
        simp only [Int.toNat_natCast] at hcell
        rw [addZ] at hcell
        rw [hcell]
        simp [List.getD_eq_getElem?_getD, hj']
      have hlt : g < w.heap.size := blk_lt hb
      have hc := Any.slices_Sort_int lays189 g 0 c xs w hH hlt (by omega)
      have hc2 : Calls Try.prog 88 #[.slice (some ⟨g, 0, none⟩) xs.length c] w fun e w' => e = .returned (.tuple #[]) ∧ ∃ n os, w' = Go.Sort.grow (Go.Sort.putRow (Value.int .i64) (Sort.ahead w n) g 0 (riseI xs).toArray) os := hc
      refine hc2.mono fun e w' ⟨he, n, os, hw⟩ => ⟨he, ?_, ?_⟩
      · subst hw
        have h5 := ownsRow_sortedI (w := w) (base := base) (n := n) (os := os) (ss := xs) (ts := riseI xs) (riseI_len xs) hbase hb (by omega) h2 h3
        have h6 := R_of_own' h5 (riseI_len xs) hk
        exact Kd.R_N h6
      · subst hw; exact grownBy_sortedI _
end Go.Proofs.Ytcgnpmjkeifokaa
-- K35
/- superposeref.Rising. -/
namespace Go.Proofs.Ytcgnpmjkeifokaa
open Go.RowKit Go.Proofs.YtcgnpmjkeifokaaW.PrintWords
set_option linter.unusedVariables false
set_option linter.unusedSimpArgs false

def posN (out : List Int) (x : Int) : Nat → Nat
  | 0 => 0
  | n + 1 => if x < out.getD n 0 then posN out x n else n + 1
def insI (out : List Int) (x : Int) : List Int := out.take (posN out x out.length) ++ [x] ++ out.drop (posN out x out.length)
def rsI (xs : List Int) : List Int := xs.foldl insI []
theorem posN_le (out : List Int) (x : Int) : ∀ n, posN out x n ≤ n
  | 0 => Nat.le_refl _
  | n + 1 => by
    rw [posN]
    split
    · exact Nat.le_succ_of_le (posN_le out x n)
    · exact Nat.le_refl _
theorem posN_down {out : List Int} {x : Int} {n : Nat} (h : x < out.getD n 0) : posN out x (n + 1) = posN out x n := by rw [posN, if_pos h]
theorem posN_stay {out : List Int} {x : Int} {n : Nat} (h : ¬ x < out.getD n 0) : posN out x (n + 1) = n + 1 := by rw [posN, if_neg h]
theorem insI_len (out : List Int) (x : Int) : (insI out x).length = out.length + 1 := by
  unfold insI
  have := posN_le out x out.length
  simp; omega
theorem rsI_take_succ (xs : List Int) (k : Nat) (hk : k < xs.length) : rsI (xs.take (k+1)) = insI (rsI (xs.take k)) (xs.getD k 0) := by
  unfold rsI
  rw [List.take_succ_eq_append_getElem hk, List.foldl_append]
  simp [List.getD_eq_getElem?_getD, hk]
theorem rsI_len (xs : List Int) : (rsI xs).length = xs.length := by
  have h : ∀ (l s : List Int), (l.foldl insI s).length = s.length + l.length := by
    intro l
    induction l with
    | nil => intro s; simp
    | cons a l ih => intro s; rw [List.foldl_cons, ih, insI_len, List.length_cons]; omega
  have := h xs []
  unfold rsI; simpa using this
theorem posN_spec (out : List Int) (x : Int) : ∀ n, n ≤ out.length → (∀ j, posN out x n ≤ j → j < n → x < out.getD j 0) ∧ (0 < posN out x n → out.getD (posN out x n - 1) 0 ≤ x)
  | 0, _ => ⟨fun j _ h => by omega, fun h => by rw [posN] at h; omega⟩
  | n + 1, hn => by
    by_cases h : x < out.getD n 0
    · rw [posN_down h]
      obtain ⟨h1, h2⟩ := posN_spec out x n (by omega)
      refine ⟨fun j hj hl => ?_, h2⟩
      by_cases hjn : j = n
      · rw [hjn]; exact h
      · exact h1 j hj (by omega)
    · rw [posN_stay h]
      exact ⟨fun j hj hl => by omega, fun _ => by rw [Nat.add_sub_cancel]; omega⟩
theorem insI_perm (out : List Int) (x : Int) : (insI out x).Perm (x :: out) := by
  unfold insI
  rw [List.append_assoc]
  refine List.perm_middle.trans ?_
  show (x :: (out.take (posN out x out.length) ++ out.drop (posN out x out.length))).Perm (x :: out)
  rw [List.take_append_drop]
theorem insI_sorted {out : List Int} (h : out.Pairwise (· ≤ ·)) (x : Int) : (insI out x).Pairwise (· ≤ ·) := by
  obtain ⟨h1, h2⟩ := posN_spec out x out.length (Nat.le_refl _)
  have hle := posN_le out x out.length
  unfold insI
  generalize posN out x out.length = p at *
  have hs : ∀ i j, i ≤ j → j < out.length → out.getD i 0 ≤ out.getD j 0 := fun i j hij hj => by
    rcases Nat.lt_or_ge i j with h3 | h3
    · have := List.pairwise_iff_getElem.1 h i j (by omega) hj h3
      simpa [List.getD_eq_getElem?_getD, hj, show i < out.length by omega] using this
    · have : i = j := by omega
      rw [this]; exact Int.le_refl _
  rw [List.pairwise_append, List.pairwise_append]
  refine ⟨⟨h.sublist (List.take_sublist _ _), by simp, fun a ha b hb => ?_⟩, h.sublist (List.drop_sublist _ _), fun a ha b hb => ?_⟩
  · simp at hb; subst hb
    obtain ⟨i, hi, rfl⟩ := List.getElem_of_mem ha
    have hi' : i < p := by simp at hi; omega
    have h4 := h2 (by omega)
    have h5 := hs i (p - 1) (by omega) (by omega)
    have : out.getD i 0 ≤ b := Int.le_trans h5 h4
    simpa [List.getD_eq_getElem?_getD, show i < out.length by omega] using this
  · obtain ⟨j, hj, rfl⟩ := List.getElem_of_mem hb
    have hj' : p + j < out.length := by simp at hj; omega
    have hx : x < out.getD (p + j) 0 := h1 (p + j) (by omega) hj'
    have hxe : out.getD (p + j) 0 = (out.drop p)[j] := by simp [List.getD_eq_getElem?_getD, hj']
    rw [hxe] at hx
    rcases List.mem_append.1 ha with ha | ha
    · obtain ⟨i, hi, rfl⟩ := List.getElem_of_mem ha
      have hi' : i < p := by simp at hi; omega
      have h5 := hs i (p + j) (by omega) hj'
      rw [hxe] at h5
      simpa [List.getD_eq_getElem?_getD, show i < out.length by omega] using h5
    · simp at ha; subst ha; exact Int.le_of_lt hx
theorem rsI_rise (xs : List Int) : rsI xs = riseI xs := by
  have h : ∀ (l s : List Int), s.Pairwise (· ≤ ·) → (l.foldl insI s).Pairwise (· ≤ ·) ∧ (l.foldl insI s).Perm (s ++ l) := by
    intro l
    induction l with
    | nil => intro s hs; exact ⟨hs, by simp⟩
    | cons a l ih =>
      intro s hs
      obtain ⟨h1, h2⟩ := ih (insI s a) (insI_sorted hs a)
      refine ⟨h1, h2.trans ?_⟩
      refine ((insI_perm s a).append_right l).trans ?_
      simp only [List.cons_append]
      exact (List.perm_middle).symm
  obtain ⟨h1, h2⟩ := h xs [] List.Pairwise.nil
  have h2' : (rsI xs).Perm xs := by rw [List.nil_append] at h2; exact h2
  have h3 : (riseI xs).Perm xs := List.mergeSort_perm _ _
  have h4 : (riseI xs).Pairwise (· ≤ ·) := by
    have := List.pairwise_mergeSort (le := fun (x y : Int) => decide (x ≤ y)) (fun a b c h1 h2 => by simp at *; omega) (fun a b => by simp; omega) xs
    exact this.imp (fun h => by simpa using h)
  exact List.Perm.eq_of_pairwise (le := (· ≤ ·)) (fun a b _ _ h1 h2 => Int.le_antisymm h1 h2) h1 h4 (h2'.trans h3.symm)

theorem takeF {w : World} {ok : Nat → Prop} {A : Option Addr} {xs : List Int} {n : Nat} (h : Kd.F (Kd.int .i64) w ok A xs.length xs) (hn : n ≤ xs.length) : Kd.F (Kd.int .i64) w ok A n (xs.take n) := by
  have h1 := Kd.F_take h hn
  have e : (xs.take n).length = n := by simp <;> omega
  rw [e] at h1; exact h1
theorem dropF {w : World} {ok : Nat → Prop} {av : Addr} {xs : List Int} {n c : Nat} (h : Kd.F (Kd.int .i64) w ok (some av) xs.length xs) (hn : n + 1 ≤ xs.length) (hc : xs.length ≤ c) : Kd.F (Kd.int .i64) w ok (if c = n + 1 then some av else some { block := av.block, off := av.off + (n + 1) : Addr }) (xs.length - (n + 1)) (xs.drop (n + 1)) := by
  refine Kd.F_imp h (fun W' hC => ?_)
  have h1 := Kd.C_drop (m := n + 1) hC hn hc
  have e : (xs.drop (n + 1)).length = xs.length - (n + 1) := by simp
  rw [e] at h1
  have e2 : (some av).map (·.add ((n + 1) * (Kd.int .i64).sz)) = some { block := av.block, off := av.off + (n + 1) : Addr } := by
    have : (Kd.int .i64).sz = 1 := rfl
    rw [this, Nat.mul_one]; simp [Addr.add]
  rw [e2] at h1
  exact h1

set_option maxHeartbeats 4000000 in
set_option maxRecDepth 100000 in
theorem rising_any (xs : List Int) (A : Option Addr) (c : Nat) (w : World) (hbd : xs.length ≤ 1000000) (hC : Kd.C (Kd.int .i64) w A xs.length xs) :
    Calls Try.prog 40 #[.slice A xs.length c] w fun e w' => ∃ v1, e = .returned v1 ∧ Kd.N (Kd.int .i64) 3 w' w.heap.size (fun _ => True) v1 (rsI xs) ∧ Below w.heap.size w w' := by
  have hlen := hC.2.1
  have HC := Aside0.mk hC
  have HBD := Aside0.mk hbd
  clear hC hbd
  go_enter Try.func40, Try.ntmps40
  go_wp2
  go_loopw [3, 4] (fun v0 i wr => ∃ (k : Nat) (vk : Value), k ≤ xs.length ∧ i = .int .i64 k ∧ vk = v0 ∧ Aside0 (Kd.N (Kd.int .i64) 3 wr w.heap.size (fun _ => True) vk (rsI (xs.take k))) ∧ Aside0 (Below w.heap.size w wr)) (fun _ i _ => xs.length - (intOf i).toNat)
  case atStart => exact ⟨0, _, by omega, rfl, rfl, ⟨Kd.N_nil _ _ _ _ _⟩, ⟨Below.refl _ _⟩⟩
  case round =>
    obtain ⟨k, vk, hk, rfl, rfl, HN, HB⟩ := hrel
    rename World => wo
    have hzr := HB.out.size
    by_cases hlt : k < xs.length
    · obtain ⟨ad, rfl, e0⟩ := at_Int HC.out (k : Int) (by omega) (by omega)
      simp only [Int.toNat_natCast] at e0
      have E0 := oldc HB.out e0
      have HTK := Aside0.mk (rsI_take_succ xs k hlt)
      have HLN : Aside0 ((rsI (xs.take k)).length = k) := ⟨by rw [rsI_len]; simp; omega⟩
      clear e0
      generalize xs.getD k 0 = x at *
      generalize hout : rsI (xs.take k) = out at *
      obtain ⟨Av, cv, rfl⟩ := Kd.N_slice HN.out
      have HNR := Aside0.mk (Kd.N_reads' HN.out).2
      have hol := HNR.out.2.2.1
      have holm : out.length ≤ 9223372036854775807 := by have := HLN.out; omega
      have hsm : out.length ≤ 1000000 := by have := HLN.out; have := HBD.out; omega
      have HNF := Aside0.mk (Kd.F_bound (Kd.N_F HN.out))
      have HLK : Aside0 (k ≤ 1000000) := ⟨by have := HBD.out; omega⟩
      go_wp2
      go_loopw [5] (fun i wr => ∃ n : Nat, n ≤ out.length ∧ i = .int .i64 n ∧ Aside0 (posN out x out.length = posN out x n) ∧ Aside0 (Below wo.heap.size wo wr)) (fun i _ => (intOf i).toNat)
      case atStart => exact ⟨out.length, Nat.le_refl _, rfl, ⟨rfl⟩, ⟨Below.refl _ _⟩⟩
      case round =>
        obtain ⟨n, hn, rfl, HP, HBr⟩ := hrel
        have EX := oldc HBr.out E0
        by_cases hn0 : 0 < n
        · obtain ⟨m, rfl⟩ : ∃ m, n = m + 1 := ⟨n - 1, by omega⟩
          obtain ⟨av, rfl, f0⟩ := at_Int HNR.out.2 (m : Int) (by omega) (by omega)
          simp only [Int.toNat_natCast] at f0
          have F0 := oldc HBr.out f0
          have HD := Aside0.mk (posN_down (out := out) (x := x) (n := m))
          have HS := Aside0.mk (posN_stay (out := out) (x := x) (n := m))
          have hm1 : ((m + 1 : Nat) : Int) - 1 = m := by omega
          have hpos : (0 : Int) < ((m + 1 : Nat) : Int) := by omega
          clear f0
          generalize out.getD m 0 = y at *
          by_cases hq : x < y
          · have HPd := Aside0.mk (HP.out.trans (HD.out hq))
            go_wp2
            go_quiet (fail)
            go_wp2
            go_roundw
            case rel => exact ⟨m, by omega, by go_num, HPd, ⟨pw_below_drewN HBr.out _⟩⟩
            case measure => simp [intOf]
          · have HPd := Aside0.mk (HP.out.trans (HS.out hq))
            go_upto_region 6 with (fail)
            have rX := fun d os => cell_regrown EX d os
            have rF := fun d os => cell_regrown F0 d os
            have hwm : IntKind.i64.wrap (m : Int) = m := IntWalk.i64_in _ (by omega)
            have hm0 : (0 : Int) ≤ m := by omega
            have hml : (m : Int) < out.length := by omega
            have hkl : (k : Int) < xs.length := by omega
            clear EX F0
            (refine wq_draws (by kernel_rfl) (by kernel_rfl) ?_; (repeat (refine wq_step (fun K hK => ?_); go_simp; first | (refine hK _ ?_; clear hK K) | (apply Exists.intro; refine ⟨fun _ => ?_, hK _ ?_⟩; ((fail)); clear hK K))); refine wq_nil ?_; intro W2 hbW2)
            have HPI : Aside0 (insI out x = out.take (m + 1) ++ [x] ++ out.drop (m + 1)) := ⟨by unfold insI; rw [HPd.out]⟩
            have HBW := Aside0.mk (hbT HBr.out hbW2)
            have HFo := Aside0.mk (Kd.F_mono (Kd.F_below HNF.out HBW.out) (ok' := fun j => j < wo.heap.size) (fun _ h => h.2))
            have HFd : Aside0 (Kd.F (Kd.int .i64) W2 (fun j => j < wo.heap.size) (if cv = m + 1 then some av else some { block := av.block, off := av.off + (m + 1) : Addr }) (out.length - (m + 1)) (out.drop (m + 1))) := ⟨dropF HFo.out (by omega) HNR.out.1⟩
            have HFt : Aside0 (Kd.F (Kd.int .i64) W2 (fun j => j < wo.heap.size) (some av) (m + 1) (out.take (m + 1))) := ⟨takeF HFo.out (by omega)⟩
            have hzW := HBW.out.size
            have hn2 : ((m + 1 : Nat) : Int) ≤ cv := by have := HNR.out.1; omega
            have hn3 : ((m + 1 : Nat) : Int) ≤ out.length := by omega
            have hcv : (out.length : Int) ≤ cv := by have := HNR.out.1; omega
            have hn4 : (m : Int) + 1 ≤ cv := by omega
            have hn5 : (0 : Int) ≤ (m : Int) + 1 := by omega
            have hn6 : (m : Int) + 1 ≤ out.length := by omega
            go_upto_region 9 with (first | ((with_reducible refine gate_dst (N := 31) rfl ?_); refine Kd.N_lit (Kd.int .i64) (w0 := W2) W2.heap.size 3 rfl rfl (xs := []) (inner := []) (ok := fun _ => True) (okp := fun _ => False) ?hr ⟨rfl, fun j y hy => by simp at hy⟩ (fun _ h => h.elim) trivial (Below.refl _ _) (Nat.le_refl _) (by decide) ?_; (case hr => first | (go_simp; done) | (go_simp; rfl)); intro v31 w31 hN31 hB31 hG31 hI31; have HN31 := Aside0.mk hN31; have HB31 := Aside0.mk hB31; clear hN31 hB31 hG31 hI31) | (at_builtin; refine Kd.N_append_rows (Kd.int .i64) (w0 := W2) W2.heap.size rfl _ _ 22 3 _ 8 rfl Try.underlying22 infoI rfl (by decide) (by decide) v31 [] (out.drop (m + 1)) (if cv = m + 1 then some av else some { block := av.block, off := av.off + (m + 1) : Addr }) (out.length - (m + 1)) (cv - (m + 1)) (fun _ => True) (fun j => j < wo.heap.size) rfl rfl HN31.out (Kd.F_below HFd.out HB31.out) (fun q hq => ⟨trivial, fun e => by have := Kd.N_base HN31.out q e.symm; omega⟩) (fun k hk => trivial) HB31.out HB31.out.size (by have := HLK.out; simp <;> omega) ?_; intro v35 w35 hN35 hB35 hG35 hI35; have HN35 := Aside0.mk hN35; have HB35 := Aside0.mk hB35; clear hN35 hB35 hG35 hI35))
            obtain ⟨A35, c35, h35⟩ := Kd.N_slice HN35.out
            rw [show (([] : List Int) ++ out.drop (m + 1)).length = out.length - (m + 1) by simp] at h35
            subst h35
            have HF35 := Aside0.mk (Kd.F_bound (Kd.N_F HN35.out))
            have HB235 := Aside0.mk HB35.out
            have hz35 := HB235.out.size
            have HZZ : Aside0 (wo.heap.size ≤ w35.heap.size) := ⟨by omega⟩
            have EX2 := oldc (hbT HBW.out HB235.out) E0
            have kx := fun (w' : World) (h : Below w35.heap.size w35 w') => oldc h EX2
            clear EX2
            refine cutT5 (fun (v36 v40 v45 v46 v48 : Value) (w9 : World) => Kd.N (Kd.int .i64) 3 w9 w35.heap.size (fun _ => True) v48 ([] ++ out.take (m + 1) ++ [x] ++ ([] ++ out.drop (m + 1))) ∧ Below w35.heap.size w35 w9) ?T ?main ?key
            case main =>
              intro key
              refine hd_region 13 1 (fun w' => Below w35.heap.size w35 w') (by kernel_rfl) rfl ?_ (fun _ h => h)
              intro W9 hb9 hz9 hHeld
              clear hb9 hz9
              (refine hd_take (i := 1) (oi := ?oi2) (v := ?v2) ?hi2 (by kernel_rfl) (by kernel_rfl) (by kernel_rfl) (by kernel_rfl) (by decide) ?hq2 ?hw2 ?hy2 hHeld ?hr2; (case hi2 => (simp only [List.getElem?_toArray, List.getElem?_cons_succ, List.getElem?_cons_zero]; rfl)); (case hw2 => rfl); (case hy2 => (intro w hSw; go_simp; try with_reducible rfl)); (case hq2 => exact fun _ _ _ h => h); simp only [Act.put, List.setIfInBounds_toArray, List.set_cons_zero, List.set_cons_succ])
              (refine hd_take (i := 2) (oi := ?oi4) (v := ?v4) ?hi4 (by kernel_rfl) (by kernel_rfl) (by kernel_rfl) (by kernel_rfl) (by decide) ?hq4 ?hw4 ?hy4 hHeld ?hr4; (case hi4 => (simp only [List.getElem?_toArray, List.getElem?_cons_succ, List.getElem?_cons_zero]; rfl)); (case hw4 => rfl); (case hy4 => (intro w hSw; go_simp; try with_reducible rfl)); (case hq4 => exact fun _ _ _ h => h); simp only [Act.put, List.setIfInBounds_toArray, List.set_cons_zero, List.set_cons_succ])
              (refine hd_take (i := 3) (oi := ?oi6) (v := ?v6) ?hi6 (by kernel_rfl) (by kernel_rfl) (by kernel_rfl) (by kernel_rfl) (by decide) ?hq6 ?hw6 ?hy6 hHeld ?hr6; (case hi6 => (simp only [List.getElem?_toArray, List.getElem?_cons_succ, List.getElem?_cons_zero]; rfl)); (case hw6 => rfl); (case hy6 => (intro w hSw; go_simp; try with_reducible rfl)); (case hq6 => exact fun _ _ _ h => h); simp only [Act.put, List.setIfInBounds_toArray, List.set_cons_zero, List.set_cons_succ])
              (refine hd_take (i := 5) (oi := ?oi8) (v := ?v8) ?hi8 (by kernel_rfl) (by kernel_rfl) (by kernel_rfl) (by kernel_rfl) (by decide) ?hq8 ?hw8 ?hy8 hHeld ?hr8; (case hi8 => (simp only [List.getElem?_toArray, List.getElem?_cons_succ, List.getElem?_cons_zero]; rfl)); (case hw8 => rfl); (case hy8 => (intro w hSw; go_simp; try with_reducible rfl)); (case hq8 => exact fun _ _ _ h => h); simp only [Act.put, List.setIfInBounds_toArray, List.set_cons_zero, List.set_cons_succ])
              (refine hd_take (i := 6) (oi := ?oi10) (v := ?v10) ?hi10 (by kernel_rfl) (by kernel_rfl) (by kernel_rfl) (by kernel_rfl) (by decide) ?hq10 ?hw10 ?hy10 hHeld ?hr10; (case hi10 => (simp only [List.getElem?_toArray, List.getElem?_cons_succ, List.getElem?_cons_zero]; rfl)); (case hw10 => rfl); (case hy10 => (intro w hSw; go_simp; try with_reducible rfl)); (case hq10 => exact fun _ _ _ h => h); simp only [Act.put, List.setIfInBounds_toArray, List.set_cons_zero, List.set_cons_succ])
              (refine hd_take (i := 7) (oi := ?oi12) (v := ?v12) ?hi12 (by kernel_rfl) (by kernel_rfl) (by kernel_rfl) (by kernel_rfl) (by decide) ?hq12 ?hw12 ?hy12 hHeld ?hr12; (case hi12 => (simp only [List.getElem?_toArray, List.getElem?_cons_succ, List.getElem?_cons_zero]; rfl)); (case hw12 => rfl); (case hy12 => (intro w hSw; go_simp; try with_reducible rfl)); (case hq12 => exact fun _ _ _ h => h); simp only [Act.put, List.setIfInBounds_toArray, List.set_cons_zero, List.set_cons_succ])
              (refine hd_take (i := 8) (oi := ?oi14) (v := ?v14) ?hi14 (by kernel_rfl) (by kernel_rfl) (by kernel_rfl) (by kernel_rfl) (by decide) ?hq14 ?hw14 ?hy14 hHeld ?hr14; (case hi14 => (simp only [List.getElem?_toArray, List.getElem?_cons_succ, List.getElem?_cons_zero]; rfl)); (case hw14 => rfl); (case hy14 => (intro w hSw; go_simp; try with_reducible rfl)); (case hq14 => exact fun _ _ _ h => h); simp only [Act.put, List.setIfInBounds_toArray, List.set_cons_zero, List.set_cons_succ])
              (refine hd_take (i := 11) (oi := ?oi16) (v := ?v16) ?hi16 (by kernel_rfl) (by kernel_rfl) (by kernel_rfl) (by kernel_rfl) (by decide) ?hq16 ?hw16 ?hy16 hHeld ?hr16; (case hi16 => (simp only [List.getElem?_toArray, List.getElem?_cons_succ, List.getElem?_cons_zero]; rfl)); (case hw16 => rfl); (case hy16 => (intro w hSw; go_simp; try with_reducible rfl)); (case hq16 => exact fun _ _ _ h => h); simp only [Act.put, List.setIfInBounds_toArray, List.set_cons_zero, List.set_cons_succ])
              refine hd_two (i := 0) (j := 9) (oi := ?oiP) (oj := ?ojP) ?hiP ?hjP (by kernel_rfl) (by decide) (by decide) ?haP ?hbP
              case hiP => (simp only [List.getElem?_toArray, List.getElem?_cons_succ, List.getElem?_cons_zero]; rfl)
              case hjP => (simp only [List.getElem?_toArray, List.getElem?_cons_succ, List.getElem?_cons_zero]; rfl)
              case haP =>
                intro K hK
                refine Kd.N_lit_step (Kd.int .i64) (w0 := w35) w35.heap.size 3 rfl rfl (xs := []) (inner := []) (ok := fun _ => True) (okp := fun _ => False) ?hra ⟨rfl, fun j y hy => by simp at hy⟩ (fun _ h => h.elim) trivial hHeld hHeld.size (by decide) ?_
                case hra => first | (go_simp; done) | (go_simp; rfl)
                intro v36 w36 hN36 hB36 hG36 hI36
                have HN36 := Aside0.mk hN36
                have HI36 := Aside0.mk hI36
                have HB36 := Aside0.mk hB36
                have HZ36 := Aside0.mk hG36.size
                clear hN36 hG36 hI36
                (refine hK.out _ _ ?hS20 (fun hHeld => ?hr20); (case hS20 => exact hB36); clear hK K; try simp only [Act.put, List.setIfInBounds_toArray, List.set_cons_zero, List.set_cons_succ])
                clear hB36
                refine hd_two (i := 4) (j := 9) (oi := ?oiQ) (oj := ?ojQ) ?hiQ ?hjQ (by kernel_rfl) (by decide) (by decide) ?haQ ?hbQ
                case hiQ => (simp only [List.getElem?_toArray, List.getElem?_cons_succ, List.getElem?_cons_zero]; rfl)
                case hjQ => (simp only [List.getElem?_toArray, List.getElem?_cons_succ, List.getElem?_cons_zero]; rfl)
                case haQ =>
                  intro K hK
                  refine Kd.N_append_rows_step (Kd.int .i64) (w0 := w35) w35.heap.size rfl _ _ 22 3 _ 8 rfl Try.underlying22 infoI rfl (by decide) (by decide) v36 ([]) (out.take (m + 1)) (some av) (m + 1) (cv) (fun _ => True) (fun j => j < wo.heap.size) rfl rfl HN36.out (Kd.F_mono (Kd.F_below HFt.out (hbT HB235.out hHeld)) (fun j hj => hj)) (fun q hq => ⟨trivial, fun e => by have := Kd.N_base HN36.out q e.symm; have := HZZ.out; omega⟩) (fun _ _ => trivial) hHeld hHeld.size (by have := HLK.out; simp <;> omega) ?_
                  intro v40 w40 hNv40 hBv40 hGv40 hIv40
                  have HNv40 := Aside0.mk hNv40
                  have HIv40 := Aside0.mk hIv40
                  have HGv40 := Aside0.mk hGv40
                  clear hNv40 hGv40 hIv40
                  (refine hK.out _ _ ?hS23 (fun hHeld => ?hr23); (case hS23 => exact hBv40); clear hK K; try simp only [Act.put, List.setIfInBounds_toArray, List.set_cons_zero, List.set_cons_succ])
                  clear hBv40
                  (refine hd_one (i := 9) (oi := ?oi24) ?hi24 (by kernel_rfl) (by decide) ?hr24; (case hi24 => (simp only [List.getElem?_toArray, List.getElem?_cons_succ, List.getElem?_cons_zero]; rfl)); intro K hK)
                  go_simp
                  (refine hK.out _ _ ?hS26 (fun hHeld => ?hr26); (case hS26 => exact below_alloc hHeld _); clear hK K; try simp only [Act.put, List.setIfInBounds_toArray, List.set_cons_zero, List.set_cons_succ])
                  have HX45 := Aside0.mk (heap_alloc_new w40 (.cells #[.int .i64 x] 3))
                  (refine hd_one (i := 10) (oi := ?oi27) ?hi27 (by kernel_rfl) (by decide) ?hr27; (case hi27 => (simp only [List.getElem?_toArray, List.getElem?_cons_succ, List.getElem?_cons_zero]; rfl)); intro K hK)
                  refine Kd.N_append_rows_step (Kd.int .i64) (w0 := w35) w35.heap.size rfl _ _ 22 3 _ 8 rfl Try.underlying22 infoI rfl (by decide) (by decide) v40 ([] ++ out.take (m + 1)) ([x]) (some ⟨w40.heap.size, 0, none⟩) (1) (1) (fun _ => True) (fun j => False ∨ j = w40.heap.size) rfl rfl (Kd.N_below HNv40.out (below_alloc (Below.refl _ _) _)) (F_int1 HX45.out) (fun q hq => ⟨trivial, fun e => by have := Kd.N_lt HNv40.out q e.symm; rcases hq with hq | hq; exact hq; omega⟩) (fun _ _ => trivial) hHeld hHeld.size (by have := HLK.out; simp <;> omega) ?_
                  intro v46 w46 hNv46 hBv46 hGv46 hIv46
                  have HNv46 := Aside0.mk hNv46
                  have HIv46 := Aside0.mk hIv46
                  have HGv46 := Aside0.mk hGv46
                  clear hNv46 hGv46 hIv46
                  (refine hK.out _ _ ?hS29 (fun hHeld => ?hr29); (case hS29 => exact hBv46); clear hK K; try simp only [Act.put, List.setIfInBounds_toArray, List.set_cons_zero, List.set_cons_succ])
                  clear hBv46
                  (refine hd_one (i := 12) (oi := ?oi30) ?hi30 (by kernel_rfl) (by decide) ?hr30; (case hi30 => (simp only [List.getElem?_toArray, List.getElem?_cons_succ, List.getElem?_cons_zero]; rfl)); intro K hK)
                  refine Kd.N_append_rows_step (Kd.int .i64) (w0 := w35) w35.heap.size rfl _ _ 22 3 _ 8 rfl Try.underlying22 infoI rfl (by decide) (by decide) v46 ([] ++ out.take (m + 1) ++ [x]) ([] ++ out.drop (m + 1)) A35 (out.length - (m + 1)) (c35) (fun _ => True) (fun j => j < w35.heap.size) rfl rfl (HNv46.out) (Kd.F_mono (Kd.F_below HF35.out hHeld) (fun j hj => hj.2)) (fun q hq => ⟨trivial, fun e => by have := Kd.N_base HNv46.out q e.symm; omega⟩) (fun _ _ => trivial) hHeld hHeld.size (by have := HLK.out; simp <;> omega) ?_
                  intro v48 w48 hNv48 hBv48 hGv48 hIv48
                  have HNv48 := Aside0.mk hNv48
                  have HIv48 := Aside0.mk hIv48
                  have HGv48 := Aside0.mk hGv48
                  clear hNv48 hGv48 hIv48
                  (refine hK.out _ _ ?hS32 (fun hHeld => ?hr32); (case hS32 => exact hBv48); clear hK K; try simp only [Act.put, List.setIfInBounds_toArray, List.set_cons_zero, List.set_cons_succ])
                  clear hBv48
                  (refine hd_done (by kernel_rfl) ?_; simp only [List.drop_succ_cons, List.drop_zero])
                  have hEnd := hHeld
                  have hNE := HNv48.out
                  clear hHeld
                  generalize Value.slice (some ⟨w40.heap.size, 0, none⟩) 1 1 = v45
                  refine useT (key v36 v40 (v45) v46 v48 w48 ⟨hNE, hEnd⟩) ?_
                  rfl
                case hbQ =>
                  intro K hK
                  go_simp
                  (refine hK.out _ _ ?hS34 (fun hHeld => ?hr34); (case hS34 => exact below_alloc hHeld _); clear hK K; try simp only [Act.put, List.setIfInBounds_toArray, List.set_cons_zero, List.set_cons_succ])
                  have HX45 := Aside0.mk (heap_alloc_new w36 (.cells #[.int .i64 x] 3))
                  (refine hd_one (i := 4) (oi := ?oi35) ?hi35 (by kernel_rfl) (by decide) ?hr35; (case hi35 => (simp only [List.getElem?_toArray, List.getElem?_cons_succ, List.getElem?_cons_zero]; rfl)); intro K hK)
                  refine Kd.N_append_rows_step (Kd.int .i64) (w0 := w35) w35.heap.size rfl _ _ 22 3 _ 8 rfl Try.underlying22 infoI rfl (by decide) (by decide) v36 ([]) (out.take (m + 1)) (some av) (m + 1) (cv) (fun _ => True) (fun j => j < wo.heap.size) rfl rfl (Kd.N_below HN36.out (below_alloc (Below.refl _ _) _)) (Kd.F_mono (Kd.F_below HFt.out (hbT HB235.out hHeld)) (fun j hj => hj)) (fun q hq => ⟨trivial, fun e => by have := Kd.N_base HN36.out q e.symm; have := HZZ.out; omega⟩) (fun _ _ => trivial) hHeld hHeld.size (by have := HLK.out; simp <;> omega) ?_
                  intro v40 w40 hNv40 hBv40 hGv40 hIv40
                  have HNv40 := Aside0.mk hNv40
                  have HIv40 := Aside0.mk hIv40
                  have HGv40 := Aside0.mk hGv40
                  clear hNv40 hGv40 hIv40
                  (refine hK.out _ _ ?hS37 (fun hHeld => ?hr37); (case hS37 => exact hBv40); clear hK K; try simp only [Act.put, List.setIfInBounds_toArray, List.set_cons_zero, List.set_cons_succ])
                  clear hBv40
                  (refine hd_one (i := 10) (oi := ?oi38) ?hi38 (by kernel_rfl) (by decide) ?hr38; (case hi38 => (simp only [List.getElem?_toArray, List.getElem?_cons_succ, List.getElem?_cons_zero]; rfl)); intro K hK)
                  refine Kd.N_append_rows_step (Kd.int .i64) (w0 := w35) w35.heap.size rfl _ _ 22 3 _ 8 rfl Try.underlying22 infoI rfl (by decide) (by decide) v40 ([] ++ out.take (m + 1)) ([x]) (some ⟨w36.heap.size, 0, none⟩) (1) (1) (fun _ => True) (fun j => False ∨ j = w36.heap.size) rfl rfl HNv40.out (F_int1 ((HGv40.out.block _ (by simp) (fun e => by have := Kd.N_lt HN36.out _ e.symm; omega)).trans HX45.out)) (fun q hq => ⟨trivial, fun e => by
                      rcases hq with hq | hq
                      · exact hq
                      · rcases HIv40.out with h | ⟨b, h, hb⟩
                        · rw [h] at e; have := Kd.N_lt HN36.out _ e.symm; omega
                        · rw [h] at e; injection e with e; simp at hb; omega⟩) (fun _ _ => trivial) hHeld hHeld.size (by have := HLK.out; simp <;> omega) ?_
                  intro v46 w46 hNv46 hBv46 hGv46 hIv46
                  have HNv46 := Aside0.mk hNv46
                  have HIv46 := Aside0.mk hIv46
                  have HGv46 := Aside0.mk hGv46
                  clear hNv46 hGv46 hIv46
                  (refine hK.out _ _ ?hS40 (fun hHeld => ?hr40); (case hS40 => exact hBv46); clear hK K; try simp only [Act.put, List.setIfInBounds_toArray, List.set_cons_zero, List.set_cons_succ])
                  clear hBv46
                  (refine hd_one (i := 12) (oi := ?oi41) ?hi41 (by kernel_rfl) (by decide) ?hr41; (case hi41 => (simp only [List.getElem?_toArray, List.getElem?_cons_succ, List.getElem?_cons_zero]; rfl)); intro K hK)
                  refine Kd.N_append_rows_step (Kd.int .i64) (w0 := w35) w35.heap.size rfl _ _ 22 3 _ 8 rfl Try.underlying22 infoI rfl (by decide) (by decide) v46 ([] ++ out.take (m + 1) ++ [x]) ([] ++ out.drop (m + 1)) A35 (out.length - (m + 1)) (c35) (fun _ => True) (fun j => j < w35.heap.size) rfl rfl (HNv46.out) (Kd.F_mono (Kd.F_below HF35.out hHeld) (fun j hj => hj.2)) (fun q hq => ⟨trivial, fun e => by have := Kd.N_base HNv46.out q e.symm; omega⟩) (fun _ _ => trivial) hHeld hHeld.size (by have := HLK.out; simp <;> omega) ?_
                  intro v48 w48 hNv48 hBv48 hGv48 hIv48
                  have HNv48 := Aside0.mk hNv48
                  have HIv48 := Aside0.mk hIv48
                  have HGv48 := Aside0.mk hGv48
                  clear hNv48 hGv48 hIv48
                  (refine hK.out _ _ ?hS43 (fun hHeld => ?hr43); (case hS43 => exact hBv48); clear hK K; try simp only [Act.put, List.setIfInBounds_toArray, List.set_cons_zero, List.set_cons_succ])
                  clear hBv48
                  (refine hd_done (by kernel_rfl) ?_; simp only [List.drop_succ_cons, List.drop_zero])
                  have hEnd := hHeld
                  have hNE := HNv48.out
                  clear hHeld
                  refine useT (key v36 v40 (Value.slice (some ⟨w36.heap.size, 0, none⟩) 1 1) v46 v48 w48 ⟨hNE, hEnd⟩) ?_
                  rfl
              case hbP =>
                intro K hK
                go_simp
                (refine hK.out _ _ ?hS45 (fun hHeld => ?hr45); (case hS45 => exact below_alloc hHeld _); clear hK K; try simp only [Act.put, List.setIfInBounds_toArray, List.set_cons_zero, List.set_cons_succ])
                have HX45 := Aside0.mk (heap_alloc_new W9 (.cells #[.int .i64 x] 3))
                (refine hd_one (i := 0) (oi := ?oi46) ?hi46 (by kernel_rfl) (by decide) ?hr46; (case hi46 => (simp only [List.getElem?_toArray, List.getElem?_cons_succ, List.getElem?_cons_zero]; rfl)); intro K hK)
                refine Kd.N_lit_step (Kd.int .i64) (w0 := w35) w35.heap.size 3 rfl rfl (xs := []) (inner := []) (ok := fun _ => True) (okp := fun _ => False) ?hrb ⟨rfl, fun j y hy => by simp at hy⟩ (fun _ h => h.elim) trivial hHeld hHeld.size (by decide) ?_
                case hrb => first | (go_simp; done) | (go_simp; rfl)
                intro v36 w36 hN36 hB36 hG36 hI36
                have HN36 := Aside0.mk hN36
                have HI36 := Aside0.mk hI36
                have HB36 := Aside0.mk hB36
                have HZ36 := Aside0.mk hG36.size
                have HGx := Aside0.mk hG36
                clear hN36 hG36 hI36
                (refine hK.out _ _ ?hS48 (fun hHeld => ?hr48); (case hS48 => exact hB36); clear hK K; try simp only [Act.put, List.setIfInBounds_toArray, List.set_cons_zero, List.set_cons_succ])
                clear hB36
                (refine hd_one (i := 4) (oi := ?oi49) ?hi49 (by kernel_rfl) (by decide) ?hr49; (case hi49 => (simp only [List.getElem?_toArray, List.getElem?_cons_succ, List.getElem?_cons_zero]; rfl)); intro K hK)
                refine Kd.N_append_rows_step (Kd.int .i64) (w0 := w35) w35.heap.size rfl _ _ 22 3 _ 8 rfl Try.underlying22 infoI rfl (by decide) (by decide) v36 ([]) (out.take (m + 1)) (some av) (m + 1) (cv) (fun _ => True) (fun j => j < wo.heap.size) rfl rfl HN36.out (Kd.F_mono (Kd.F_below HFt.out (hbT HB235.out hHeld)) (fun j hj => hj)) (fun q hq => ⟨trivial, fun e => by have := Kd.N_base HN36.out q e.symm; have := HZZ.out; omega⟩) (fun _ _ => trivial) hHeld hHeld.size (by have := HLK.out; simp <;> omega) ?_
                intro v40 w40 hNv40 hBv40 hGv40 hIv40
                have HNv40 := Aside0.mk hNv40
                have HIv40 := Aside0.mk hIv40
                have HGv40 := Aside0.mk hGv40
                clear hNv40 hGv40 hIv40
                (refine hK.out _ _ ?hS51 (fun hHeld => ?hr51); (case hS51 => exact hBv40); clear hK K; try simp only [Act.put, List.setIfInBounds_toArray, List.set_cons_zero, List.set_cons_succ])
                clear hBv40
                (refine hd_one (i := 10) (oi := ?oi52) ?hi52 (by kernel_rfl) (by decide) ?hr52; (case hi52 => (simp only [List.getElem?_toArray, List.getElem?_cons_succ, List.getElem?_cons_zero]; rfl)); intro K hK)
                refine Kd.N_append_rows_step (Kd.int .i64) (w0 := w35) w35.heap.size rfl _ _ 22 3 _ 8 rfl Try.underlying22 infoI rfl (by decide) (by decide) v40 ([] ++ out.take (m + 1)) ([x]) (some ⟨W9.heap.size, 0, none⟩) (1) (1) (fun _ => True) (fun j => False ∨ j = W9.heap.size) rfl rfl HNv40.out (F_int1 ((HGv40.out.block _ (by have := HZ36.out; simp at this; omega) (fun e => by obtain ⟨b, h, hb⟩ := HI36.out; rw [h] at e; injection e with e; simp at hb; omega)).trans ((HGx.out.block _ (by simp) (by simp)).trans HX45.out))) (fun q hq => ⟨trivial, fun e => by
                    rcases hq with hq | hq
                    · exact hq
                    · rcases HIv40.out with h | ⟨b, h, hb⟩
                      · obtain ⟨b2, h2, hb2⟩ := HI36.out; rw [h, h2] at e; injection e with e; simp at hb2; omega
                      · rw [h] at e; injection e with e; have := HZ36.out; simp at this; omega⟩) (fun _ _ => trivial) hHeld hHeld.size (by have := HLK.out; simp <;> omega) ?_
                intro v46 w46 hNv46 hBv46 hGv46 hIv46
                have HNv46 := Aside0.mk hNv46
                have HIv46 := Aside0.mk hIv46
                have HGv46 := Aside0.mk hGv46
                clear hNv46 hGv46 hIv46
                (refine hK.out _ _ ?hS54 (fun hHeld => ?hr54); (case hS54 => exact hBv46); clear hK K; try simp only [Act.put, List.setIfInBounds_toArray, List.set_cons_zero, List.set_cons_succ])
                clear hBv46
                (refine hd_one (i := 12) (oi := ?oi55) ?hi55 (by kernel_rfl) (by decide) ?hr55; (case hi55 => (simp only [List.getElem?_toArray, List.getElem?_cons_succ, List.getElem?_cons_zero]; rfl)); intro K hK)
                refine Kd.N_append_rows_step (Kd.int .i64) (w0 := w35) w35.heap.size rfl _ _ 22 3 _ 8 rfl Try.underlying22 infoI rfl (by decide) (by decide) v46 ([] ++ out.take (m + 1) ++ [x]) ([] ++ out.drop (m + 1)) A35 (out.length - (m + 1)) (c35) (fun _ => True) (fun j => j < w35.heap.size) rfl rfl (HNv46.out) (Kd.F_mono (Kd.F_below HF35.out hHeld) (fun j hj => hj.2)) (fun q hq => ⟨trivial, fun e => by have := Kd.N_base HNv46.out q e.symm; omega⟩) (fun _ _ => trivial) hHeld hHeld.size (by have := HLK.out; simp <;> omega) ?_
                intro v48 w48 hNv48 hBv48 hGv48 hIv48
                have HNv48 := Aside0.mk hNv48
                have HIv48 := Aside0.mk hIv48
                have HGv48 := Aside0.mk hGv48
                clear hNv48 hGv48 hIv48
                (refine hK.out _ _ ?hS57 (fun hHeld => ?hr57); (case hS57 => exact hBv48); clear hK K; try simp only [Act.put, List.setIfInBounds_toArray, List.set_cons_zero, List.set_cons_succ])
                clear hBv48
                (refine hd_done (by kernel_rfl) ?_; simp only [List.drop_succ_cons, List.drop_zero])
                have hEnd := hHeld
                have hNE := HNv48.out
                clear hHeld
                refine useT (key v36 v40 (Value.slice (some ⟨W9.heap.size, 0, none⟩) 1 1) v46 v48 w48 ⟨hNE, hEnd⟩) ?_
                rfl
            case key =>
              clear rX rF E0
              intro v36 v40 v45 v46 v48 w9 hS
              obtain ⟨hN, hB⟩ := hS
              have HN9 := Aside0.mk hN
              have HB9 := Aside0.mk (hbT (hbT (hbT HB.out HBW.out) HB235.out) hB)
              have HR : Aside0 (rsI (xs.take (k+1)) = [] ++ out.take (m + 1) ++ [x] ++ ([] ++ out.drop (m + 1))) := ⟨by rw [HTK.out, HPI.out]; simp⟩
              clear hN hB
              go_wp2
              go_roundw
              case rel => exact ⟨k + 1, v48, by omega, by go_num, rfl, ⟨by rw [HR.out]; exact Kd.N_lower HN9.out (by omega)⟩, HB9⟩
              case measure => simp [intOf]; omega
        · obtain rfl : n = 0 := by omega
          have HPd : Aside0 (posN out x out.length = 0) := HP
          have hkl : (k : Int) < xs.length := by omega
          go_upto_region 6 with (fail)
          have rX := fun d os => cell_regrown EX d os
          clear EX
          (refine wq_draws (by kernel_rfl) (by kernel_rfl) ?_; (repeat (refine wq_step (fun K hK => ?_); go_simp; first | (refine hK _ ?_; clear hK K) | (apply Exists.intro; refine ⟨fun _ => ?_, hK _ ?_⟩; ((fail)); clear hK K))); refine wq_nil ?_; intro W2 hbW2)
          have HPI : Aside0 (insI out x = out.take (0) ++ [x] ++ out.drop (0)) := ⟨by unfold insI; rw [HPd.out]⟩
          have HBW := Aside0.mk (hbT HBr.out hbW2)
          have HFo := Aside0.mk (Kd.F_mono (Kd.F_below HNF.out HBW.out) (ok' := fun j => j < wo.heap.size) (fun _ h => h.2))
          have HFd : Aside0 (Kd.F (Kd.int .i64) W2 (fun j => j < wo.heap.size) Av (out.length) (out.drop (0))) := ⟨by simpa using HFo.out⟩
          have HFt : Aside0 (Kd.F (Kd.int .i64) W2 (fun j => j < wo.heap.size) Av (0) (out.take (0))) := ⟨takeF HFo.out (by omega)⟩
          have hzW := HBW.out.size
          have hn2 : ((0 : Nat) : Int) ≤ cv := by have := HNR.out.1; omega
          have hn3 : ((0 : Nat) : Int) ≤ out.length := by omega
          have hcv : (out.length : Int) ≤ cv := by have := HNR.out.1; omega
          have hn4 : (0 : Int) ≤ cv := by omega
          go_upto_region 9 with (first | ((with_reducible refine gate_dst (N := 31) rfl ?_); refine Kd.N_lit (Kd.int .i64) (w0 := W2) W2.heap.size 3 rfl rfl (xs := []) (inner := []) (ok := fun _ => True) (okp := fun _ => False) ?hrz ⟨rfl, fun j y hy => by simp at hy⟩ (fun _ h => h.elim) trivial (Below.refl _ _) (Nat.le_refl _) (by decide) ?_; (case hrz => first | (go_simp; done) | (go_simp; rfl)); intro v31 w31 hN31 hB31 hG31 hI31; have HN31 := Aside0.mk hN31; have HB31 := Aside0.mk hB31; clear hN31 hB31 hG31 hI31) | (at_builtin; refine Kd.N_append_rows (Kd.int .i64) (w0 := W2) W2.heap.size rfl _ _ 22 3 _ 8 rfl Try.underlying22 infoI rfl (by decide) (by decide) v31 [] (out.drop (0)) Av (out.length) (cv) (fun _ => True) (fun j => j < wo.heap.size) rfl rfl HN31.out (Kd.F_below HFd.out HB31.out) (fun q hq => ⟨trivial, fun e => by have := Kd.N_base HN31.out q e.symm; omega⟩) (fun k hk => trivial) HB31.out HB31.out.size (by have := HLK.out; simp <;> omega) ?_; intro v35 w35 hN35 hB35 hG35 hI35; have HN35 := Aside0.mk hN35; have HB35 := Aside0.mk hB35; clear hN35 hB35 hG35 hI35))
          obtain ⟨A35, c35, h35⟩ := Kd.N_slice HN35.out
          rw [show (([] : List Int) ++ out.drop (0)).length = out.length by simp] at h35
          subst h35
          have HF35 := Aside0.mk (Kd.F_bound (Kd.N_F HN35.out))
          have HB235 := Aside0.mk HB35.out
          have hz35 := HB235.out.size
          have HZZ : Aside0 (wo.heap.size ≤ w35.heap.size) := ⟨by omega⟩
          have EX2 := oldc (hbT HBW.out HB235.out) E0
          have kx := fun (w' : World) (h : Below w35.heap.size w35 w') => oldc h EX2
          clear EX2
          refine cutT5 (fun (v36 v40 v45 v46 v48 : Value) (w9 : World) => Kd.N (Kd.int .i64) 3 w9 w35.heap.size (fun _ => True) v48 ([] ++ out.take (0) ++ [x] ++ ([] ++ out.drop (0))) ∧ Below w35.heap.size w35 w9) ?Tz ?mainz ?keyz
          case mainz =>
            intro key
            refine hd_region 13 1 (fun w' => Below w35.heap.size w35 w') (by kernel_rfl) rfl ?_ (fun _ h => h)
            intro W9 hb9 hz9 hHeld
            clear hb9 hz9
            (refine hd_take (i := 1) (oi := ?oi60) (v := ?v60) ?hi60 (by kernel_rfl) (by kernel_rfl) (by kernel_rfl) (by kernel_rfl) (by decide) ?hq60 ?hw60 ?hy60 hHeld ?hr60; (case hi60 => (simp only [List.getElem?_toArray, List.getElem?_cons_succ, List.getElem?_cons_zero]; rfl)); (case hw60 => rfl); (case hy60 => (intro w hSw; go_simp; try with_reducible rfl)); (case hq60 => exact fun _ _ _ h => h); simp only [Act.put, List.setIfInBounds_toArray, List.set_cons_zero, List.set_cons_succ])
            (refine hd_take (i := 2) (oi := ?oi62) (v := ?v62) ?hi62 (by kernel_rfl) (by kernel_rfl) (by kernel_rfl) (by kernel_rfl) (by decide) ?hq62 ?hw62 ?hy62 hHeld ?hr62; (case hi62 => (simp only [List.getElem?_toArray, List.getElem?_cons_succ, List.getElem?_cons_zero]; rfl)); (case hw62 => rfl); (case hy62 => (intro w hSw; go_simp; try with_reducible rfl)); (case hq62 => exact fun _ _ _ h => h); simp only [Act.put, List.setIfInBounds_toArray, List.set_cons_zero, List.set_cons_succ])
            (refine hd_take (i := 3) (oi := ?oi64) (v := ?v64) ?hi64 (by kernel_rfl) (by kernel_rfl) (by kernel_rfl) (by kernel_rfl) (by decide) ?hq64 ?hw64 ?hy64 hHeld ?hr64; (case hi64 => (simp only [List.getElem?_toArray, List.getElem?_cons_succ, List.getElem?_cons_zero]; rfl)); (case hw64 => rfl); (case hy64 => (intro w hSw; go_simp; try with_reducible rfl)); (case hq64 => exact fun _ _ _ h => h); simp only [Act.put, List.setIfInBounds_toArray, List.set_cons_zero, List.set_cons_succ])
            (refine hd_take (i := 5) (oi := ?oi66) (v := ?v66) ?hi66 (by kernel_rfl) (by kernel_rfl) (by kernel_rfl) (by kernel_rfl) (by decide) ?hq66 ?hw66 ?hy66 hHeld ?hr66; (case hi66 => (simp only [List.getElem?_toArray, List.getElem?_cons_succ, List.getElem?_cons_zero]; rfl)); (case hw66 => rfl); (case hy66 => (intro w hSw; go_simp; try with_reducible rfl)); (case hq66 => exact fun _ _ _ h => h); simp only [Act.put, List.setIfInBounds_toArray, List.set_cons_zero, List.set_cons_succ])
            (refine hd_take (i := 6) (oi := ?oi68) (v := ?v68) ?hi68 (by kernel_rfl) (by kernel_rfl) (by kernel_rfl) (by kernel_rfl) (by decide) ?hq68 ?hw68 ?hy68 hHeld ?hr68; (case hi68 => (simp only [List.getElem?_toArray, List.getElem?_cons_succ, List.getElem?_cons_zero]; rfl)); (case hw68 => rfl); (case hy68 => (intro w hSw; go_simp; try with_reducible rfl)); (case hq68 => exact fun _ _ _ h => h); simp only [Act.put, List.setIfInBounds_toArray, List.set_cons_zero, List.set_cons_succ])
            (refine hd_take (i := 7) (oi := ?oi70) (v := ?v70) ?hi70 (by kernel_rfl) (by kernel_rfl) (by kernel_rfl) (by kernel_rfl) (by decide) ?hq70 ?hw70 ?hy70 hHeld ?hr70; (case hi70 => (simp only [List.getElem?_toArray, List.getElem?_cons_succ, List.getElem?_cons_zero]; rfl)); (case hw70 => rfl); (case hy70 => (intro w hSw; go_simp; try with_reducible rfl)); (case hq70 => exact fun _ _ _ h => h); simp only [Act.put, List.setIfInBounds_toArray, List.set_cons_zero, List.set_cons_succ])
            (refine hd_take (i := 8) (oi := ?oi72) (v := ?v72) ?hi72 (by kernel_rfl) (by kernel_rfl) (by kernel_rfl) (by kernel_rfl) (by decide) ?hq72 ?hw72 ?hy72 hHeld ?hr72; (case hi72 => (simp only [List.getElem?_toArray, List.getElem?_cons_succ, List.getElem?_cons_zero]; rfl)); (case hw72 => rfl); (case hy72 => (intro w hSw; go_simp; try with_reducible rfl)); (case hq72 => exact fun _ _ _ h => h); simp only [Act.put, List.setIfInBounds_toArray, List.set_cons_zero, List.set_cons_succ])
            (refine hd_take (i := 11) (oi := ?oi74) (v := ?v74) ?hi74 (by kernel_rfl) (by kernel_rfl) (by kernel_rfl) (by kernel_rfl) (by decide) ?hq74 ?hw74 ?hy74 hHeld ?hr74; (case hi74 => (simp only [List.getElem?_toArray, List.getElem?_cons_succ, List.getElem?_cons_zero]; rfl)); (case hw74 => rfl); (case hy74 => (intro w hSw; go_simp; try with_reducible rfl)); (case hq74 => exact fun _ _ _ h => h); simp only [Act.put, List.setIfInBounds_toArray, List.set_cons_zero, List.set_cons_succ])
            refine hd_two (i := 0) (j := 9) (oi := ?oiPz) (oj := ?ojPz) ?hiPz ?hjPz (by kernel_rfl) (by decide) (by decide) ?haPz ?hbPz
            case hiPz => (simp only [List.getElem?_toArray, List.getElem?_cons_succ, List.getElem?_cons_zero]; rfl)
            case hjPz => (simp only [List.getElem?_toArray, List.getElem?_cons_succ, List.getElem?_cons_zero]; rfl)
            case haPz =>
              intro K hK
              refine Kd.N_lit_step (Kd.int .i64) (w0 := w35) w35.heap.size 3 rfl rfl (xs := []) (inner := []) (ok := fun _ => True) (okp := fun _ => False) ?hraz ⟨rfl, fun j y hy => by simp at hy⟩ (fun _ h => h.elim) trivial hHeld hHeld.size (by decide) ?_
              case hraz => first | (go_simp; done) | (go_simp; rfl)
              intro v36 w36 hN36 hB36 hG36 hI36
              have HN36 := Aside0.mk hN36
              have HI36 := Aside0.mk hI36
              have HB36 := Aside0.mk hB36
              have HZ36 := Aside0.mk hG36.size
              clear hN36 hG36 hI36
              (refine hK.out _ _ ?hS78 (fun hHeld => ?hr78); (case hS78 => exact hB36); clear hK K; try simp only [Act.put, List.setIfInBounds_toArray, List.set_cons_zero, List.set_cons_succ])
              clear hB36
              refine hd_two (i := 4) (j := 9) (oi := ?oiQz) (oj := ?ojQz) ?hiQz ?hjQz (by kernel_rfl) (by decide) (by decide) ?haQz ?hbQz
              case hiQz => (simp only [List.getElem?_toArray, List.getElem?_cons_succ, List.getElem?_cons_zero]; rfl)
              case hjQz => (simp only [List.getElem?_toArray, List.getElem?_cons_succ, List.getElem?_cons_zero]; rfl)
              case haQz =>
                intro K hK
                refine Kd.N_append_rows_step (Kd.int .i64) (w0 := w35) w35.heap.size rfl _ _ 22 3 _ 8 rfl Try.underlying22 infoI rfl (by decide) (by decide) v36 ([]) (out.take (0)) Av (0) (cv) (fun _ => True) (fun j => j < wo.heap.size) rfl rfl HN36.out (Kd.F_mono (Kd.F_below HFt.out (hbT HB235.out hHeld)) (fun j hj => hj)) (fun q hq => ⟨trivial, fun e => by have := Kd.N_base HN36.out q e.symm; have := HZZ.out; omega⟩) (fun _ _ => trivial) hHeld hHeld.size (by have := HLK.out; simp <;> omega) ?_
                intro v40 w40 hNv40 hBv40 hGv40 hIv40
                have HNv40 := Aside0.mk hNv40
                have HIv40 := Aside0.mk hIv40
                have HGv40 := Aside0.mk hGv40
                clear hNv40 hGv40 hIv40
                (refine hK.out _ _ ?hS81 (fun hHeld => ?hr81); (case hS81 => exact hBv40); clear hK K; try simp only [Act.put, List.setIfInBounds_toArray, List.set_cons_zero, List.set_cons_succ])
                clear hBv40
                (refine hd_one (i := 9) (oi := ?oi82) ?hi82 (by kernel_rfl) (by decide) ?hr82; (case hi82 => (simp only [List.getElem?_toArray, List.getElem?_cons_succ, List.getElem?_cons_zero]; rfl)); intro K hK)
                go_simp
                (refine hK.out _ _ ?hS84 (fun hHeld => ?hr84); (case hS84 => exact below_alloc hHeld _); clear hK K; try simp only [Act.put, List.setIfInBounds_toArray, List.set_cons_zero, List.set_cons_succ])
                have HX45 := Aside0.mk (heap_alloc_new w40 (.cells #[.int .i64 x] 3))
                (refine hd_one (i := 10) (oi := ?oi85) ?hi85 (by kernel_rfl) (by decide) ?hr85; (case hi85 => (simp only [List.getElem?_toArray, List.getElem?_cons_succ, List.getElem?_cons_zero]; rfl)); intro K hK)
                refine Kd.N_append_rows_step (Kd.int .i64) (w0 := w35) w35.heap.size rfl _ _ 22 3 _ 8 rfl Try.underlying22 infoI rfl (by decide) (by decide) v40 ([] ++ out.take (0)) ([x]) (some ⟨w40.heap.size, 0, none⟩) (1) (1) (fun _ => True) (fun j => False ∨ j = w40.heap.size) rfl rfl (Kd.N_below HNv40.out (below_alloc (Below.refl _ _) _)) (F_int1 HX45.out) (fun q hq => ⟨trivial, fun e => by have := Kd.N_lt HNv40.out q e.symm; rcases hq with hq | hq; exact hq; omega⟩) (fun _ _ => trivial) hHeld hHeld.size (by have := HLK.out; simp <;> omega) ?_
                intro v46 w46 hNv46 hBv46 hGv46 hIv46
                have HNv46 := Aside0.mk hNv46
                have HIv46 := Aside0.mk hIv46
                have HGv46 := Aside0.mk hGv46
                clear hNv46 hGv46 hIv46
                (refine hK.out _ _ ?hS87 (fun hHeld => ?hr87); (case hS87 => exact hBv46); clear hK K; try simp only [Act.put, List.setIfInBounds_toArray, List.set_cons_zero, List.set_cons_succ])
                clear hBv46
                (refine hd_one (i := 12) (oi := ?oi88) ?hi88 (by kernel_rfl) (by decide) ?hr88; (case hi88 => (simp only [List.getElem?_toArray, List.getElem?_cons_succ, List.getElem?_cons_zero]; rfl)); intro K hK)
                refine Kd.N_append_rows_step (Kd.int .i64) (w0 := w35) w35.heap.size rfl _ _ 22 3 _ 8 rfl Try.underlying22 infoI rfl (by decide) (by decide) v46 ([] ++ out.take (0) ++ [x]) ([] ++ out.drop (0)) A35 (out.length) (c35) (fun _ => True) (fun j => j < w35.heap.size) rfl rfl (HNv46.out) (Kd.F_mono (Kd.F_below HF35.out hHeld) (fun j hj => hj.2)) (fun q hq => ⟨trivial, fun e => by have := Kd.N_base HNv46.out q e.symm; omega⟩) (fun _ _ => trivial) hHeld hHeld.size (by have := HLK.out; simp <;> omega) ?_
                intro v48 w48 hNv48 hBv48 hGv48 hIv48
                have HNv48 := Aside0.mk hNv48
                have HIv48 := Aside0.mk hIv48
                have HGv48 := Aside0.mk hGv48
                clear hNv48 hGv48 hIv48
                (refine hK.out _ _ ?hS90 (fun hHeld => ?hr90); (case hS90 => exact hBv48); clear hK K; try simp only [Act.put, List.setIfInBounds_toArray, List.set_cons_zero, List.set_cons_succ])
                clear hBv48
                (refine hd_done (by kernel_rfl) ?_; simp only [List.drop_succ_cons, List.drop_zero])
                have hEnd := hHeld
                have hNE := HNv48.out
                clear hHeld
                generalize Value.slice (some ⟨w40.heap.size, 0, none⟩) 1 1 = v45
                refine useT (key v36 v40 (v45) v46 v48 w48 ⟨hNE, hEnd⟩) ?_
                rfl
              case hbQz =>
                intro K hK
                go_simp
                (refine hK.out _ _ ?hS92 (fun hHeld => ?hr92); (case hS92 => exact below_alloc hHeld _); clear hK K; try simp only [Act.put, List.setIfInBounds_toArray, List.set_cons_zero, List.set_cons_succ])
                have HX45 := Aside0.mk (heap_alloc_new w36 (.cells #[.int .i64 x] 3))
                (refine hd_one (i := 4) (oi := ?oi93) ?hi93 (by kernel_rfl) (by decide) ?hr93; (case hi93 => (simp only [List.getElem?_toArray, List.getElem?_cons_succ, List.getElem?_cons_zero]; rfl)); intro K hK)
                refine Kd.N_append_rows_step (Kd.int .i64) (w0 := w35) w35.heap.size rfl _ _ 22 3 _ 8 rfl Try.underlying22 infoI rfl (by decide) (by decide) v36 ([]) (out.take (0)) Av (0) (cv) (fun _ => True) (fun j => j < wo.heap.size) rfl rfl (Kd.N_below HN36.out (below_alloc (Below.refl _ _) _)) (Kd.F_mono (Kd.F_below HFt.out (hbT HB235.out hHeld)) (fun j hj => hj)) (fun q hq => ⟨trivial, fun e => by have := Kd.N_base HN36.out q e.symm; have := HZZ.out; omega⟩) (fun _ _ => trivial) hHeld hHeld.size (by have := HLK.out; simp <;> omega) ?_
                intro v40 w40 hNv40 hBv40 hGv40 hIv40
                have HNv40 := Aside0.mk hNv40
                have HIv40 := Aside0.mk hIv40
                have HGv40 := Aside0.mk hGv40
                clear hNv40 hGv40 hIv40
                (refine hK.out _ _ ?hS95 (fun hHeld => ?hr95); (case hS95 => exact hBv40); clear hK K; try simp only [Act.put, List.setIfInBounds_toArray, List.set_cons_zero, List.set_cons_succ])
                clear hBv40
                (refine hd_one (i := 10) (oi := ?oi96) ?hi96 (by kernel_rfl) (by decide) ?hr96; (case hi96 => (simp only [List.getElem?_toArray, List.getElem?_cons_succ, List.getElem?_cons_zero]; rfl)); intro K hK)
                refine Kd.N_append_rows_step (Kd.int .i64) (w0 := w35) w35.heap.size rfl _ _ 22 3 _ 8 rfl Try.underlying22 infoI rfl (by decide) (by decide) v40 ([] ++ out.take (0)) ([x]) (some ⟨w36.heap.size, 0, none⟩) (1) (1) (fun _ => True) (fun j => False ∨ j = w36.heap.size) rfl rfl HNv40.out (F_int1 ((HGv40.out.block _ (by simp) (fun e => by have := Kd.N_lt HN36.out _ e.symm; omega)).trans HX45.out)) (fun q hq => ⟨trivial, fun e => by
                    rcases hq with hq | hq
                    · exact hq
                    · rcases HIv40.out with h | ⟨b, h, hb⟩
                      · rw [h] at e; have := Kd.N_lt HN36.out _ e.symm; omega
                      · rw [h] at e; injection e with e; simp at hb; omega⟩) (fun _ _ => trivial) hHeld hHeld.size (by have := HLK.out; simp <;> omega) ?_
                intro v46 w46 hNv46 hBv46 hGv46 hIv46
                have HNv46 := Aside0.mk hNv46
                have HIv46 := Aside0.mk hIv46
                have HGv46 := Aside0.mk hGv46
                clear hNv46 hGv46 hIv46
                (refine hK.out _ _ ?hS98 (fun hHeld => ?hr98); (case hS98 => exact hBv46); clear hK K; try simp only [Act.put, List.setIfInBounds_toArray, List.set_cons_zero, List.set_cons_succ])
                clear hBv46
                (refine hd_one (i := 12) (oi := ?oi99) ?hi99 (by kernel_rfl) (by decide) ?hr99; (case hi99 => (simp only [List.getElem?_toArray, List.getElem?_cons_succ, List.getElem?_cons_zero]; rfl)); intro K hK)
                refine Kd.N_append_rows_step (Kd.int .i64) (w0 := w35) w35.heap.size rfl _ _ 22 3 _ 8 rfl Try.underlying22 infoI rfl (by decide) (by decide) v46 ([] ++ out.take (0) ++ [x]) ([] ++ out.drop (0)) A35 (out.length) (c35) (fun _ => True) (fun j => j < w35.heap.size) rfl rfl (HNv46.out) (Kd.F_mono (Kd.F_below HF35.out hHeld) (fun j hj => hj.2)) (fun q hq => ⟨trivial, fun e => by have := Kd.N_base HNv46.out q e.symm; omega⟩) (fun _ _ => trivial) hHeld hHeld.size (by have := HLK.out; simp <;> omega) ?_
                intro v48 w48 hNv48 hBv48 hGv48 hIv48
                have HNv48 := Aside0.mk hNv48
                have HIv48 := Aside0.mk hIv48
                have HGv48 := Aside0.mk hGv48
                clear hNv48 hGv48 hIv48
                (refine hK.out _ _ ?hS101 (fun hHeld => ?hr101); (case hS101 => exact hBv48); clear hK K; try simp only [Act.put, List.setIfInBounds_toArray, List.set_cons_zero, List.set_cons_succ])
                clear hBv48
                (refine hd_done (by kernel_rfl) ?_; simp only [List.drop_succ_cons, List.drop_zero])
                have hEnd := hHeld
                have hNE := HNv48.out
                clear hHeld
                refine useT (key v36 v40 (Value.slice (some ⟨w36.heap.size, 0, none⟩) 1 1) v46 v48 w48 ⟨hNE, hEnd⟩) ?_
                rfl
            case hbPz =>
              intro K hK
              go_simp
              (refine hK.out _ _ ?hS103 (fun hHeld => ?hr103); (case hS103 => exact below_alloc hHeld _); clear hK K; try simp only [Act.put, List.setIfInBounds_toArray, List.set_cons_zero, List.set_cons_succ])
              have HX45 := Aside0.mk (heap_alloc_new W9 (.cells #[.int .i64 x] 3))
              (refine hd_one (i := 0) (oi := ?oi104) ?hi104 (by kernel_rfl) (by decide) ?hr104; (case hi104 => (simp only [List.getElem?_toArray, List.getElem?_cons_succ, List.getElem?_cons_zero]; rfl)); intro K hK)
              refine Kd.N_lit_step (Kd.int .i64) (w0 := w35) w35.heap.size 3 rfl rfl (xs := []) (inner := []) (ok := fun _ => True) (okp := fun _ => False) ?hrbz ⟨rfl, fun j y hy => by simp at hy⟩ (fun _ h => h.elim) trivial hHeld hHeld.size (by decide) ?_
              case hrbz => first | (go_simp; done) | (go_simp; rfl)
              intro v36 w36 hN36 hB36 hG36 hI36
              have HN36 := Aside0.mk hN36
              have HI36 := Aside0.mk hI36
              have HB36 := Aside0.mk hB36
              have HZ36 := Aside0.mk hG36.size
              have HGx := Aside0.mk hG36
              clear hN36 hG36 hI36
              (refine hK.out _ _ ?hS106 (fun hHeld => ?hr106); (case hS106 => exact hB36); clear hK K; try simp only [Act.put, List.setIfInBounds_toArray, List.set_cons_zero, List.set_cons_succ])
              clear hB36
              (refine hd_one (i := 4) (oi := ?oi107) ?hi107 (by kernel_rfl) (by decide) ?hr107; (case hi107 => (simp only [List.getElem?_toArray, List.getElem?_cons_succ, List.getElem?_cons_zero]; rfl)); intro K hK)
              refine Kd.N_append_rows_step (Kd.int .i64) (w0 := w35) w35.heap.size rfl _ _ 22 3 _ 8 rfl Try.underlying22 infoI rfl (by decide) (by decide) v36 ([]) (out.take (0)) Av (0) (cv) (fun _ => True) (fun j => j < wo.heap.size) rfl rfl HN36.out (Kd.F_mono (Kd.F_below HFt.out (hbT HB235.out hHeld)) (fun j hj => hj)) (fun q hq => ⟨trivial, fun e => by have := Kd.N_base HN36.out q e.symm; have := HZZ.out; omega⟩) (fun _ _ => trivial) hHeld hHeld.size (by have := HLK.out; simp <;> omega) ?_
              intro v40 w40 hNv40 hBv40 hGv40 hIv40
              have HNv40 := Aside0.mk hNv40
              have HIv40 := Aside0.mk hIv40
              have HGv40 := Aside0.mk hGv40
              clear hNv40 hGv40 hIv40
              (refine hK.out _ _ ?hS109 (fun hHeld => ?hr109); (case hS109 => exact hBv40); clear hK K; try simp only [Act.put, List.setIfInBounds_toArray, List.set_cons_zero, List.set_cons_succ])
              clear hBv40
              (refine hd_one (i := 10) (oi := ?oi110) ?hi110 (by kernel_rfl) (by decide) ?hr110; (case hi110 => (simp only [List.getElem?_toArray, List.getElem?_cons_succ, List.getElem?_cons_zero]; rfl)); intro K hK)
              refine Kd.N_append_rows_step (Kd.int .i64) (w0 := w35) w35.heap.size rfl _ _ 22 3 _ 8 rfl Try.underlying22 infoI rfl (by decide) (by decide) v40 ([] ++ out.take (0)) ([x]) (some ⟨W9.heap.size, 0, none⟩) (1) (1) (fun _ => True) (fun j => False ∨ j = W9.heap.size) rfl rfl HNv40.out (F_int1 ((HGv40.out.block _ (by have := HZ36.out; simp at this; omega) (fun e => by obtain ⟨b, h, hb⟩ := HI36.out; rw [h] at e; injection e with e; simp at hb; omega)).trans ((HGx.out.block _ (by simp) (by simp)).trans HX45.out))) (fun q hq => ⟨trivial, fun e => by
                  rcases hq with hq | hq
                  · exact hq
                  · rcases HIv40.out with h | ⟨b, h, hb⟩
                    · obtain ⟨b2, h2, hb2⟩ := HI36.out; rw [h, h2] at e; injection e with e; simp at hb2; omega
                    · rw [h] at e; injection e with e; have := HZ36.out; simp at this; omega⟩) (fun _ _ => trivial) hHeld hHeld.size (by have := HLK.out; simp <;> omega) ?_
              intro v46 w46 hNv46 hBv46 hGv46 hIv46
              have HNv46 := Aside0.mk hNv46
              have HIv46 := Aside0.mk hIv46
              have HGv46 := Aside0.mk hGv46
              clear hNv46 hGv46 hIv46
              (refine hK.out _ _ ?hS112 (fun hHeld => ?hr112); (case hS112 => exact hBv46); clear hK K; try simp only [Act.put, List.setIfInBounds_toArray, List.set_cons_zero, List.set_cons_succ])
              clear hBv46
              (refine hd_one (i := 12) (oi := ?oi113) ?hi113 (by kernel_rfl) (by decide) ?hr113; (case hi113 => (simp only [List.getElem?_toArray, List.getElem?_cons_succ, List.getElem?_cons_zero]; rfl)); intro K hK)
              refine Kd.N_append_rows_step (Kd.int .i64) (w0 := w35) w35.heap.size rfl _ _ 22 3 _ 8 rfl Try.underlying22 infoI rfl (by decide) (by decide) v46 ([] ++ out.take (0) ++ [x]) ([] ++ out.drop (0)) A35 (out.length) (c35) (fun _ => True) (fun j => j < w35.heap.size) rfl rfl (HNv46.out) (Kd.F_mono (Kd.F_below HF35.out hHeld) (fun j hj => hj.2)) (fun q hq => ⟨trivial, fun e => by have := Kd.N_base HNv46.out q e.symm; omega⟩) (fun _ _ => trivial) hHeld hHeld.size (by have := HLK.out; simp <;> omega) ?_
              intro v48 w48 hNv48 hBv48 hGv48 hIv48
              have HNv48 := Aside0.mk hNv48
              have HIv48 := Aside0.mk hIv48
              have HGv48 := Aside0.mk hGv48
              clear hNv48 hGv48 hIv48
              (refine hK.out _ _ ?hS115 (fun hHeld => ?hr115); (case hS115 => exact hBv48); clear hK K; try simp only [Act.put, List.setIfInBounds_toArray, List.set_cons_zero, List.set_cons_succ])
              clear hBv48
              (refine hd_done (by kernel_rfl) ?_; simp only [List.drop_succ_cons, List.drop_zero])
              have hEnd := hHeld
              have hNE := HNv48.out
              clear hHeld
              refine useT (key v36 v40 (Value.slice (some ⟨W9.heap.size, 0, none⟩) 1 1) v46 v48 w48 ⟨hNE, hEnd⟩) ?_
              rfl
          case keyz =>
            clear rX E0
            intro v36 v40 v45 v46 v48 w9 hS
            obtain ⟨hN, hB⟩ := hS
            have HN9 := Aside0.mk hN
            have HB9 := Aside0.mk (hbT (hbT (hbT HB.out HBW.out) HB235.out) hB)
            have HR : Aside0 (rsI (xs.take (k+1)) = [] ++ out.take (0) ++ [x] ++ ([] ++ out.drop (0))) := ⟨by rw [HTK.out, HPI.out]; simp⟩
            clear hN hB
            go_wp2
            go_roundw
            case rel => exact ⟨k + 1, v48, by omega, by go_num, rfl, ⟨by rw [HR.out]; exact Kd.N_lower HN9.out (by omega)⟩, HB9⟩
            case measure => simp [intOf]; omega
    · obtain rfl : k = xs.length := by omega
      have HN2 := HN.out
      rw [List.take_length] at HN2
      have HN2 := Aside0.mk HN2
      go_wp2
      go_ret
      first | exact ⟨vk, rfl, HN2.out, HB.out⟩ | exact ⟨rfl, vk, HN2.out, HB.out⟩
end Go.Proofs.Ytcgnpmjkeifokaa
-- K36
/- term.Size, term.Vars. -/
namespace Go.Proofs.Ytcgnpmjkeifokaa
open Go.RowKit Go.Proofs.YtcgnpmjkeifokaaW.PrintWords
set_option linter.unusedVariables false
set_option linter.unusedSimpArgs false

def sizeN (g : List Int) (t : Tm) : Int := if chkTs g [t] = 0 then szT t else 0
set_option maxHeartbeats 4000000 in
set_option maxRecDepth 100000 in
theorem size_any (g : List Int) (Ag : Option Addr) (cg : Nat) (t : Tm) (A : Option Addr) (c : Nat) (ok : Nat → Prop) (w : World) (hG : Kd.C (Kd.int .i64) w Ag g.length g) (hF : Kd.F kTm w ok A t.f2.length t.f2) (hc : t.f2.length ≤ c) :
    Calls Try.prog 36 #[.agg #[.slice Ag g.length cg], .agg #[.int .i64 t.f0, .int .i64 t.f1, .slice A t.f2.length c]] w fun e w' => e = .returned (.tuple #[.int .i64 (sizeN g t), .int .i64 (chkTs g [t])]) ∧ Below w.heap.size w w' := by
  by_cases h0 : chkTs g [t] = 0
  · have h := size1_any g Ag cg t A c ok w hG hF hc h0
    rw [show sizeN g t = szT t by unfold sizeN; rw [if_pos h0], h0]
    exact h
  · have HF := Aside0.mk hF
    have HG := Aside0.mk hG
    have HZ : Aside0 (sizeN g t = 0) := ⟨by unfold sizeN; rw [if_neg h0]⟩
    have h0b := bneT h0
    clear hF hG h0
    have g0 := blk_alloc (newAt (w := w) (o := .cells #[.slice Ag g.length cg] 24) rfl) (.cells #[.int .i64 t.f0, .int .i64 t.f1, .slice A t.f2.length c] 46)
    have g1 := newAt (w := w.alloc (.cells #[.slice Ag g.length cg] 24)) (o := .cells #[.int .i64 t.f0, .int .i64 t.f1, .slice A t.f2.length c] 46) (k := w.heap.size + 1) (by simp)
    have HB := Aside0.mk (below_alloc (below_alloc (Below.refl w.heap.size w) (.cells #[.slice Ag g.length cg] 24)) (.cells #[.int .i64 t.f0, .int .i64 t.f1, .slice A t.f2.length c] 46))
    go_enter Try.func36, Try.ntmps36
    go_upto_region 1 with (fail)
    generalize (w.alloc (.cells #[.slice Ag g.length cg] 24)).alloc (.cells #[.int .i64 t.f0, .int .i64 t.f1, .slice A t.f2.length c] 46) = W at *
    have s0 := (blk_cell g0 0).trans rfl
    have t0 := (blk_cell g1 0).trans rfl
    have t1 := (blk_cell g1 1).trans rfl
    have t2 := (blk_cell g1 2).trans rfl
    clear g0 g1
    have HL := Aside0.mk (F_lit1 (heap_alloc_new W (.cells #[.int .i64 t.f0, .int .i64 t.f1, .slice A t.f2.length c] 46)) (Kd.F_below HF.out (below_alloc HB.out _)) hc)
    go_upto_region 2 with (go_at_call 77; refine (termAll_any g Ag cg [t] _ _ _ _ (Kd.C_below HG.out (below_alloc HB.out _)) HL.out).mono ?_; rintro e w2 ⟨rfl, hb2⟩; have HB2 := Aside0.mk (hbA (Below.refl _ W) _ hb2); clear hb2 s0 t0 t1 t2)
    go_wp2
    go_ret2
    exact ⟨by rw [HZ.out]; rfl, hbT HB.out HB2.out⟩

def varsN (g : List Int) (t : Tm) : List Int := if chkTs g [t] = 0 then riseI (stL [] [t]) else []
set_option maxHeartbeats 4000000 in
set_option maxRecDepth 100000 in
theorem vars_any (g : List Int) (Ag : Option Addr) (cg : Nat) (t : Tm) (A : Option Addr) (c : Nat) (ok : Nat → Prop) (w : World) (hG : Kd.C (Kd.int .i64) w Ag g.length g) (hF : Kd.F kTm w ok A t.f2.length t.f2) (hc : t.f2.length ≤ c) :
    Calls Try.prog 37 #[.agg #[.slice Ag g.length cg], .agg #[.int .i64 t.f0, .int .i64 t.f1, .slice A t.f2.length c]] w fun e w' => ∃ A' c', e = .returned (.tuple #[.slice A' (varsN g t).length c', .int .i64 (chkTs g [t])]) ∧ Kd.C (Kd.int .i64) w' A' (varsN g t).length (varsN g t) ∧ Below w.heap.size w w' := by
  have HF := Aside0.mk hF
  have HG := Aside0.mk hG
  clear hF hG
  have g0 := blk_alloc (newAt (w := w) (o := .cells #[.slice Ag g.length cg] 24) rfl) (.cells #[.int .i64 t.f0, .int .i64 t.f1, .slice A t.f2.length c] 46)
  have g1 := newAt (w := w.alloc (.cells #[.slice Ag g.length cg] 24)) (o := .cells #[.int .i64 t.f0, .int .i64 t.f1, .slice A t.f2.length c] 46) (k := w.heap.size + 1) (by simp)
  have HB := Aside0.mk (below_alloc (below_alloc (Below.refl w.heap.size w) (.cells #[.slice Ag g.length cg] 24)) (.cells #[.int .i64 t.f0, .int .i64 t.f1, .slice A t.f2.length c] 46))
  go_enter Try.func37, Try.ntmps37
  go_upto_region 1 with (fail)
  generalize (w.alloc (.cells #[.slice Ag g.length cg] 24)).alloc (.cells #[.int .i64 t.f0, .int .i64 t.f1, .slice A t.f2.length c] 46) = W at *
  have G1 := Aside0.mk g1
  have s0 := (blk_cell g0 0).trans rfl
  have t0 := (blk_cell g1 0).trans rfl
  have t1 := (blk_cell g1 1).trans rfl
  have t2 := (blk_cell g1 2).trans rfl
  clear g0 g1
  have HL := Aside0.mk (F_lit1 (heap_alloc_new W (.cells #[.int .i64 t.f0, .int .i64 t.f1, .slice A t.f2.length c] 46)) (Kd.F_below HF.out (below_alloc HB.out _)) hc)
  go_upto_region 2 with (go_at_call 77; refine (termAll_any g Ag cg [t] _ _ _ _ (Kd.C_below HG.out (below_alloc HB.out _)) HL.out).mono ?_; rintro e w2 ⟨rfl, hb2⟩; have HB2 := Aside0.mk (hbA (Below.refl _ W) _ hb2); clear hb2)
  have HB02 := Aside0.mk (hbT HB.out HB2.out)
  have hT2 := (HB2.out.block _ (blk_lt G1.out)).trans G1.out
  clear s0 t0 t1 t2
  by_cases h0 : chkTs g [t] = 0
  · have h0b := bneF h0
    have HV : Aside0 (varsN g t = riseI (stL [] [t])) := ⟨by unfold varsN; rw [if_pos h0]⟩
    have H0 := Aside0.mk h0
    have HSZ : Aside0 (szL [t] ≤ 120) := ⟨by have := ((chkTs_ok h0).2 t (by simp)).1; simp only [szL]; omega⟩
    have HLN : Aside0 ((stL [] [t]).length ≤ 1000000) := ⟨by have := stL_len [t] []; have := HSZ.out; simp only [List.length_nil] at *; omega⟩
    clear h0
    have t0 := (blk_cell hT2 0).trans rfl
    have t1 := (blk_cell hT2 1).trans rfl
    have t2 := (blk_cell hT2 2).trans rfl
    clear hT2
    have HL2 := Aside0.mk (F_lit1 (heap_alloc_new w2 (.cells #[.int .i64 t.f0, .int .i64 t.f1, .slice A t.f2.length c] 46)) (Kd.F_below HF.out (below_alloc HB02.out _)) hc)
    generalize hs : stL [] [t] = s at *
    have HST := Aside0.mk hs
    clear hs
    go_wp2_with (first | (go_at_call 80; refine (stands_any [t] _ _ _ _ (by have := HSZ.out; omega) HL2.out).mono ?_; rintro e w3 ⟨v3, rfl, hN3, hb3⟩; rw [HST.out] at hN3; obtain ⟨A3, c3, rfl⟩ := Kd.N_slice hN3; have HN3 := Aside0.mk hN3; have HB3 := Aside0.mk (hbA (Below.refl _ w2) _ hb3); clear hN3 hb3 t0 t1 t2) | (go_at_call 88; refine (sort_any s A3 c3 _ _ _ HN3.out HLN.out).mono ?_; rintro e w4 ⟨rfl, hN4, hG4⟩; have HN4 := Aside0.mk hN4; have HG4 := Aside0.mk hG4; clear hN4 hG4))
    go_ret2
    have hz2 := HB02.out.size
    have h4 := (Kd.N_reads' HN4.out).2.2
    exact ⟨A3, c3, by rw [HV.out, riseI_len, H0.out]; rfl, by rw [HV.out]; exact h4, gbU (hbT HB02.out HB3.out) HG4.out (fun b hb e => by have := Kd.N_base HN3.out b e.symm; simp at this; omega)⟩
  · have h0b := bneT h0
    have HV : Aside0 (varsN g t = []) := ⟨by unfold varsN; rw [if_neg h0]⟩
    clear h0 hT2
    go_wp2
    go_ret2
    exact ⟨none, 0, by rw [HV.out]; rfl, by rw [HV.out]; exact Kd.C_nil _ _, HB02.out⟩
end Go.Proofs.Ytcgnpmjkeifokaa
-- K37
/- superposelaw.TermTells, its walk. -/
namespace Go.Proofs.Ytcgnpmjkeifokaa
open Go.RowKit Go.Proofs.YtcgnpmjkeifokaaW.PrintWords
set_option linter.unusedVariables false
set_option linter.unusedSimpArgs false

theorem sameI_refl (a : List Int) : sameI_ a a = true := by simp [sameI_]
theorem tells_vars {g : List Int} {t : Tm} (h : chkTs g [t] = 0) : varsN g t = rsI (fvL [] [t]) := by
  unfold varsN
  rw [if_pos h, rsI_rise, stL_fvL g [t] (fun x hx => ((chkTs_ok h).2 x hx).2)]

set_option maxHeartbeats 4000000 in
set_option maxRecDepth 100000 in
theorem termTells_any (g : List Int) (Ag : Option Addr) (cg : Nat) (t : Tm) (A : Option Addr) (c : Nat) (ok : Nat → Prop) (w : World) (hG : Kd.C (Kd.int .i64) w Ag g.length g) (hF : Kd.F kTm w ok A t.f2.length t.f2) (hc : t.f2.length ≤ c) :
    Calls Try.prog 8 #[.agg #[.slice Ag g.length cg], .agg #[.int .i64 t.f0, .int .i64 t.f1, .slice A t.f2.length c]] w fun e w' => e = .returned (.bool true) ∧ Below w.heap.size w w' := by
  have HF := Aside0.mk (Kd.F_bound hF)
  have HG := Aside0.mk hG
  clear hF hG
  have g0 := blk_alloc (newAt (w := w) (o := .cells #[.slice Ag g.length cg] 24) rfl) (.cells #[.int .i64 t.f0, .int .i64 t.f1, .slice A t.f2.length c] 46)
  have g1 := newAt (w := w.alloc (.cells #[.slice Ag g.length cg] 24)) (o := .cells #[.int .i64 t.f0, .int .i64 t.f1, .slice A t.f2.length c] 46) (k := w.heap.size + 1) (by simp)
  have HB := Aside0.mk (below_alloc (below_alloc (Below.refl w.heap.size w) (.cells #[.slice Ag g.length cg] 24)) (.cells #[.int .i64 t.f0, .int .i64 t.f1, .slice A t.f2.length c] 46))
  go_enter Try.func8, Try.ntmps8
  go_upto_region 1 with (fail)
  generalize (w.alloc (.cells #[.slice Ag g.length cg] 24)).alloc (.cells #[.int .i64 t.f0, .int .i64 t.f1, .slice A t.f2.length c] 46) = W at *
  have HS := Aside0.mk g0
  have HT := Aside0.mk g1
  clear g0 g1
  have s0 := sg_cell HS.out
  obtain ⟨t0, t1, t2⟩ := tm_cells HT.out
  go_upto_region 2 with (go_at_call 36; refine (size_any g Ag cg t A c _ W (Kd.C_below HG.out HB.out) (Kd.F_below HF.out HB.out) hc).mono ?_; rintro e w1 ⟨rfl, hb1⟩; have HB1 := Aside0.mk hb1; clear hb1 s0 t0 t1 t2)
  have HW1 := Aside0.mk (hbT HB.out HB1.out)
  have s0 := sg_cell ((HB1.out.block _ (blk_lt HS.out)).trans HS.out)
  obtain ⟨t0, t1, t2⟩ := tm_cells ((HB1.out.block _ (blk_lt HT.out)).trans HT.out)
  go_upto_region 3 with (go_at_call 37; refine (vars_any g Ag cg t A c _ w1 (Kd.C_below HG.out HW1.out) (Kd.F_below HF.out HW1.out) hc).mono ?_; rintro e w2 ⟨A2, c2, rfl, hC2, hb2⟩; have HC2 := Aside0.mk hC2; have HB12 := Aside0.mk hb2; clear hb2 hC2 s0 t0 t1 t2)
  have HB2 := Aside0.mk (hbT HB1.out HB12.out)
  have HW2 := Aside0.mk (hbT HB.out HB2.out)
  have s0 := sg_cell ((HB2.out.block _ (blk_lt HS.out)).trans HS.out)
  obtain ⟨t0, t1, t2⟩ := tm_cells ((HB2.out.block _ (blk_lt HT.out)).trans HT.out)
  have HL := Aside0.mk (F_lit1 (heap_alloc_new w2 (.cells #[.int .i64 t.f0, .int .i64 t.f1, .slice A t.f2.length c] 46)) (Kd.F_below HF.out (below_alloc HW2.out _)) hc)
  go_upto_region 6 with (go_at_call 38; refine (checkTerms_any g Ag cg [t] _ _ _ _ (Kd.C_below HG.out (below_alloc HW2.out _)) HL.out).mono ?_; rintro e w3 ⟨rfl, hb3⟩; have HB23 := Aside0.mk (hbA (Below.refl _ w2) _ hb3); clear hb3 s0 t0 t1 t2)
  have HB3 := Aside0.mk (hbT HB2.out HB23.out)
  have HW3 := Aside0.mk (hbT HB.out HB3.out)
  have HC3 := Aside0.mk (Kd.C_below HC2.out HB23.out)
  by_cases h0 : chkTs g [t] = 0
  · have h0e := beqT h0
    have HV : Aside0 (varsN g t = rsI (fvL [] [t])) := ⟨tells_vars h0⟩
    have HN : Aside0 (sizeN g t = szT t) := ⟨by unfold sizeN; rw [if_pos h0]⟩
    have HSZ : Aside0 (szT t ≤ 120) := ⟨((chkTs_ok h0).2 t (by simp)).1⟩
    have HMN : Aside0 (min (szT t : Int) (120 + 1) = szT t) := ⟨by have := HSZ.out; omega⟩
    clear h0
    go_upto_region 7 with (fail)
    have s0 := sg_cell ((HB3.out.block _ (blk_lt HS.out)).trans HS.out)
    obtain ⟨t0, t1, t2⟩ := tm_cells ((HB3.out.block _ (blk_lt HT.out)).trans HT.out)
    have kt0 := fun (w' : World) (h : Below w3.heap.size w3 w') => oldc h t0
    have kt1 := fun (w' : World) (h : Below w3.heap.size w3 w') => oldc h t1
    have kt2 := fun (w' : World) (h : Below w3.heap.size w3 w') => oldc h t2
    clear s0 t0 t1 t2
    refine cutT3 (fun (b : Nat) (v34 v35 : Value) (w9 : World) => (∃ A35 c35, v35 = .slice A35 (varsN g t).length c35 ∧ Kd.C (Kd.int .i64) w9 A35 (varsN g t).length (varsN g t)) ∧ Below w3.heap.size w3 w9) ?T ?main ?key
    case main =>
      intro key
      refine hd_region 8 0 (fun w' => Below w3.heap.size w3 w') (by kernel_rfl) rfl ?_ (fun _ h => h)
      intro W4 hb4 hz4 hHeld
      clear hb4 hz4
      (refine hd_take (i := 0) (oi := ?oi1) (v := ?v1) ?hi1 (by kernel_rfl) (by kernel_rfl) (by kernel_rfl) (by kernel_rfl) (by decide) ?hq1 ?hw1 ?hy1 hHeld ?hr1; (case hi1 => (simp only [List.getElem?_toArray, List.getElem?_cons_succ, List.getElem?_cons_zero]; rfl)); (case hw1 => rfl); (case hy1 => (intro w hSw; go_simp; try with_reducible rfl)); (case hq1 => exact fun _ _ _ h => h); simp only [Act.put, List.setIfInBounds_toArray, List.set_cons_zero, List.set_cons_succ])
      (refine hd_take (i := 2) (oi := ?oi3) (v := ?v3) ?hi3 (by kernel_rfl) (by kernel_rfl) (by kernel_rfl) (by kernel_rfl) (by decide) ?hq3 ?hw3 ?hy3 hHeld ?hr3; (case hi3 => (simp only [List.getElem?_toArray, List.getElem?_cons_succ, List.getElem?_cons_zero]; rfl)); (case hw3 => rfl); (case hy3 => (intro w hSw; go_simp; try with_reducible rfl)); (case hq3 => exact fun _ _ _ h => h); simp only [Act.put, List.setIfInBounds_toArray, List.set_cons_zero, List.set_cons_succ])
      refine hd_two (i := 1) (j := 3) (oi := ?oi) (oj := ?oj) ?hi ?hj (by kernel_rfl) (by decide) (by decide) ?ha ?hb
      case hi => (simp only [List.getElem?_toArray, List.getElem?_cons_succ, List.getElem?_cons_zero]; rfl)
      case hj => (simp only [List.getElem?_toArray, List.getElem?_cons_succ, List.getElem?_cons_zero]; rfl)
      case ha =>
        intro K hK
        go_simp
        go_at_call 39
        refine (sizeOf_any (szT t) t A c _ 120 (Nat.le_refl _) (Kd.F_now (Kd.F_below HF.out (hbT HW3.out hHeld))) (by omega) (by omega)).mono ?_
        rintro e w5 ⟨rfl, hbw5⟩
        simp only [HMN.out]
        go_simp
        (refine hK.out _ _ ?hS7 (fun hHeld => ?hr7); (case hS7 => exact hbT hHeld hbw5); clear hK K; try simp only [Act.put, List.setIfInBounds_toArray, List.set_cons_zero, List.set_cons_succ])
        (refine hd_one (i := 3) (oi := ?oi8) ?hi8 (by kernel_rfl) (by decide) ?hr8; (case hi8 => (simp only [List.getElem?_toArray, List.getElem?_cons_succ, List.getElem?_cons_zero]; rfl)); intro K hK)
        go_simp
        (refine hK.out _ _ ?hS10 (fun hHeld => ?hr10); (case hS10 => exact below_alloc hHeld _); clear hK K; try simp only [Act.put, List.setIfInBounds_toArray, List.set_cons_zero, List.set_cons_succ])
        have HN5 := Aside0.mk (heap_alloc_new w5 (.cells #[.int .i64 t.f0, .int .i64 t.f1, .slice A t.f2.length c] 46))
        (refine hd_one (i := 4) (oi := ?oi11) ?hi11 (by kernel_rfl) (by decide) ?hr11; (case hi11 => (simp only [List.getElem?_toArray, List.getElem?_cons_succ, List.getElem?_cons_zero]; rfl)); intro K hK)
        go_simp
        go_at_call 41
        refine (firstVars_any [t] _ _ _ _ (by have := HSZ.out; simp only [szL]; omega) (F_lit1 HN5.out (Kd.F_below HF.out (hbT HW3.out hHeld)) hc) (fun x hx => by simp at hx; rw [hx]; have := HSZ.out; omega)).mono ?_
        rintro e w6 ⟨v6, rfl, hN6, hb6⟩
        obtain ⟨A6, c6, rfl⟩ := Kd.N_slice hN6
        have HC6 := Aside0.mk (Kd.N_reads' hN6).2.2
        have HLF : Aside0 ((fvL [] [t]).length ≤ 1000000) := ⟨by have := fvL_len [t] []; have := HSZ.out; simp only [List.length_nil, szL] at *; omega⟩
        clear hN6
        go_simp
        (refine hK.out _ _ ?hS13 (fun hHeld => ?hr13); (case hS13 => exact hbT hHeld hb6); clear hK K; try simp only [Act.put, List.setIfInBounds_toArray, List.set_cons_zero, List.set_cons_succ])
        (refine hd_one (i := 5) (oi := ?oi14) ?hi14 (by kernel_rfl) (by decide) ?hr14; (case hi14 => (simp only [List.getElem?_toArray, List.getElem?_cons_succ, List.getElem?_cons_zero]; rfl)); intro K hK)
        go_simp
        go_at_call 40
        refine (rising_any (fvL [] [t]) A6 c6 w6 HLF.out HC6.out).mono ?_
        rintro e w7 ⟨v7, rfl, hN7, hb7⟩
        have HE7 : Aside0 (∃ A35 c35, v7 = .slice A35 (varsN g t).length c35 ∧ Kd.C (Kd.int .i64) w7 A35 (varsN g t).length (varsN g t)) := ⟨by
          obtain ⟨A7, c7, rfl⟩ := Kd.N_slice hN7
          have := (Kd.N_reads' hN7).2.2
          rw [HV.out]
          exact ⟨A7, c7, rfl, this⟩⟩
        clear hN7
        go_simp
        (refine hK.out _ _ ?hS16 (fun hHeld => ?hr16); (case hS16 => exact hbT hHeld hb7); clear hK K; try simp only [Act.put, List.setIfInBounds_toArray, List.set_cons_zero, List.set_cons_succ])
        (refine hd_one (i := 6) (oi := ?oi17) ?hi17 (by kernel_rfl) (by decide) ?hr17; (case hi17 => (simp only [List.getElem?_toArray, List.getElem?_cons_succ, List.getElem?_cons_zero]; rfl)); intro K hK)
        go_simp
        (refine hK.out _ _ ?hS19 (fun hHeld => ?hr19); (case hS19 => exact hHeld); clear hK K; try simp only [Act.put, List.setIfInBounds_toArray, List.set_cons_zero, List.set_cons_succ])
        (refine hd_one (i := 7) (oi := ?oi20) ?hi20 (by kernel_rfl) (by decide) ?hr20; (case hi20 => (simp only [List.getElem?_toArray, List.getElem?_cons_succ, List.getElem?_cons_zero]; rfl)); intro K hK)
        go_simp
        (refine hK.out _ _ ?hS22 (fun hHeld => ?hr22); (case hS22 => exact hHeld); clear hK K; try simp only [Act.put, List.setIfInBounds_toArray, List.set_cons_zero, List.set_cons_succ])
        (refine hd_done (by kernel_rfl) ?_; simp only [List.drop_succ_cons, List.drop_zero])
        have hEnd := hHeld
        clear hHeld
        generalize hv6 : Value.slice A6 (fvL [] [t]).length c6 = v6
        generalize w5.heap.size = bb
        refine useT (key bb v6 v7 w7 ⟨HE7.out, hEnd⟩) ?_
        rfl
      case hb =>
        intro K hK
        go_simp
        (refine hK.out _ _ ?hS24 (fun hHeld => ?hr24); (case hS24 => exact below_alloc hHeld _); clear hK K; try simp only [Act.put, List.setIfInBounds_toArray, List.set_cons_zero, List.set_cons_succ])
        have HN5 := Aside0.mk (heap_alloc_new W4 (.cells #[.int .i64 t.f0, .int .i64 t.f1, .slice A t.f2.length c] 46))
        (refine hd_one (i := 1) (oi := ?oi25) ?hi25 (by kernel_rfl) (by decide) ?hr25; (case hi25 => (simp only [List.getElem?_toArray, List.getElem?_cons_succ, List.getElem?_cons_zero]; rfl)); intro K hK)
        go_simp
        go_at_call 39
        refine (sizeOf_any (szT t) t A c _ 120 (Nat.le_refl _) (Kd.F_now (Kd.F_below HF.out (hbT HW3.out hHeld))) (by omega) (by omega)).mono ?_
        rintro e w5 ⟨rfl, hbw5⟩
        simp only [HMN.out]
        go_simp
        (refine hK.out _ _ ?hS27 (fun hHeld => ?hr27); (case hS27 => exact hbT hHeld hbw5); clear hK K; try simp only [Act.put, List.setIfInBounds_toArray, List.set_cons_zero, List.set_cons_succ])
        (refine hd_one (i := 4) (oi := ?oi28) ?hi28 (by kernel_rfl) (by decide) ?hr28; (case hi28 => (simp only [List.getElem?_toArray, List.getElem?_cons_succ, List.getElem?_cons_zero]; rfl)); intro K hK)
        go_simp
        go_at_call 41
        refine (firstVars_any [t] _ _ _ w5 (by have := HSZ.out; simp only [szL]; omega) (F_lit1 ((hbw5.block _ (blk_lt HN5.out)).trans HN5.out) (Kd.F_below HF.out (hbT HW3.out hHeld)) hc) (fun x hx => by simp at hx; rw [hx]; have := HSZ.out; omega)).mono ?_
        rintro e w6 ⟨v6, rfl, hN6, hb6⟩
        obtain ⟨A6, c6, rfl⟩ := Kd.N_slice hN6
        have HC6 := Aside0.mk (Kd.N_reads' hN6).2.2
        have HLF : Aside0 ((fvL [] [t]).length ≤ 1000000) := ⟨by have := fvL_len [t] []; have := HSZ.out; simp only [List.length_nil, szL] at *; omega⟩
        clear hN6
        go_simp
        (refine hK.out _ _ ?hS30 (fun hHeld => ?hr30); (case hS30 => exact hbT hHeld hb6); clear hK K; try simp only [Act.put, List.setIfInBounds_toArray, List.set_cons_zero, List.set_cons_succ])
        (refine hd_one (i := 5) (oi := ?oi31) ?hi31 (by kernel_rfl) (by decide) ?hr31; (case hi31 => (simp only [List.getElem?_toArray, List.getElem?_cons_succ, List.getElem?_cons_zero]; rfl)); intro K hK)
        go_simp
        go_at_call 40
        refine (rising_any (fvL [] [t]) A6 c6 w6 HLF.out HC6.out).mono ?_
        rintro e w7 ⟨v7, rfl, hN7, hb7⟩
        have HE7 : Aside0 (∃ A35 c35, v7 = .slice A35 (varsN g t).length c35 ∧ Kd.C (Kd.int .i64) w7 A35 (varsN g t).length (varsN g t)) := ⟨by
          obtain ⟨A7, c7, rfl⟩ := Kd.N_slice hN7
          have := (Kd.N_reads' hN7).2.2
          rw [HV.out]
          exact ⟨A7, c7, rfl, this⟩⟩
        clear hN7
        go_simp
        (refine hK.out _ _ ?hS33 (fun hHeld => ?hr33); (case hS33 => exact hbT hHeld hb7); clear hK K; try simp only [Act.put, List.setIfInBounds_toArray, List.set_cons_zero, List.set_cons_succ])
        (refine hd_one (i := 6) (oi := ?oi34) ?hi34 (by kernel_rfl) (by decide) ?hr34; (case hi34 => (simp only [List.getElem?_toArray, List.getElem?_cons_succ, List.getElem?_cons_zero]; rfl)); intro K hK)
        go_simp
        (refine hK.out _ _ ?hS36 (fun hHeld => ?hr36); (case hS36 => exact hHeld); clear hK K; try simp only [Act.put, List.setIfInBounds_toArray, List.set_cons_zero, List.set_cons_succ])
        (refine hd_one (i := 7) (oi := ?oi37) ?hi37 (by kernel_rfl) (by decide) ?hr37; (case hi37 => (simp only [List.getElem?_toArray, List.getElem?_cons_succ, List.getElem?_cons_zero]; rfl)); intro K hK)
        go_simp
        (refine hK.out _ _ ?hS39 (fun hHeld => ?hr39); (case hS39 => exact hHeld); clear hK K; try simp only [Act.put, List.setIfInBounds_toArray, List.set_cons_zero, List.set_cons_succ])
        (refine hd_done (by kernel_rfl) ?_; simp only [List.drop_succ_cons, List.drop_zero])
        have hEnd := hHeld
        clear hHeld
        generalize hv6 : Value.slice A6 (fvL [] [t]).length c6 = v6
        refine useT (key W4.heap.size v6 v7 w7 ⟨HE7.out, hEnd⟩) ?_
        rfl
    case key =>
      intro bb v34 v35 w9 hS
      obtain ⟨⟨A35, c35, rfl, hC35⟩, hB9⟩ := hS
      have HC35 := Aside0.mk hC35
      have HB9 := Aside0.mk (hbT HB3.out hB9)
      have HCA := Aside0.mk (Kd.C_below HC3.out hB9)
      clear hC35 hB9 kt0 kt1 kt2
      go_upto_region 8 with (fail)
      simp only [HN.out]
      have s0 := sg_cell ((HB9.out.block _ (blk_lt HS.out)).trans HS.out)
      obtain ⟨t0, t1, t2⟩ := tm_cells ((HB9.out.block _ (blk_lt HT.out)).trans HT.out)
      have HW := Aside0.mk (hbT HB.out HB9.out)
      have ks0 := fun (w' : World) (h : Below w9.heap.size w9 w') => oldc h s0
      have kt0 := fun (w' : World) (h : Below w9.heap.size w9 w') => oldc h t0
      have kt1 := fun (w' : World) (h : Below w9.heap.size w9 w') => oldc h t1
      have kt2 := fun (w' : World) (h : Below w9.heap.size w9 w') => oldc h t2
      clear s0 t0 t1 t2
      refine hd_region 35 1 (fun w' => Below w9.heap.size w9 w') (by kernel_rfl) rfl ?_ (fun _ h => h)
      intro W8 hb8 hz8 hHeld
      clear hb8 hz8
      (refine hd_one (i := 0) (oi := ?oi41) ?hi41 (by kernel_rfl) (by decide) ?hr41; (case hi41 => (simp only [List.getElem?_toArray, List.getElem?_cons_succ, List.getElem?_cons_zero]; rfl)); intro K hK)
      go_simp
      go_at_call 42
      refine (termBegun_any _).mono ?_
      rintro e w20 ⟨rfl, hbw20⟩
      go_simp
      (refine hK.out _ _ ?hS43 (fun hHeld => ?hr43); (case hS43 => exact hbT hHeld hbw20); clear hK K; try simp only [Act.put, List.setIfInBounds_toArray, List.set_cons_zero, List.set_cons_succ])
      (refine hd_take (i := 1) (oi := ?oi44) (v := ?v44) ?hi44 (by kernel_rfl) (by kernel_rfl) (by kernel_rfl) (by kernel_rfl) (by decide) ?hq44 ?hw44 ?hy44 hHeld ?hr44; (case hi44 => (simp only [List.getElem?_toArray, List.getElem?_cons_succ, List.getElem?_cons_zero]; rfl)); (case hw44 => rfl); (case hy44 => (intro w hSw; go_simp; try with_reducible rfl)); (case hq44 => exact fun _ _ _ h => h); simp only [Act.put, List.setIfInBounds_toArray, List.set_cons_zero, List.set_cons_succ])
      (refine hd_take (i := 2) (oi := ?oi46) (v := ?v46) ?hi46 (by kernel_rfl) (by kernel_rfl) (by kernel_rfl) (by kernel_rfl) (by decide) ?hq46 ?hw46 ?hy46 hHeld ?hr46; (case hi46 => (simp only [List.getElem?_toArray, List.getElem?_cons_succ, List.getElem?_cons_zero]; rfl)); (case hw46 => rfl); (case hy46 => (intro w hSw; go_simp; try with_reducible rfl)); (case hq46 => exact fun _ _ _ h => h); simp only [Act.put, List.setIfInBounds_toArray, List.set_cons_zero, List.set_cons_succ])
      (refine hd_take (i := 4) (oi := ?oi48) (v := ?v48) ?hi48 (by kernel_rfl) (by kernel_rfl) (by kernel_rfl) (by kernel_rfl) (by decide) ?hq48 ?hw48 ?hy48 hHeld ?hr48; (case hi48 => (simp only [List.getElem?_toArray, List.getElem?_cons_succ, List.getElem?_cons_zero]; rfl)); (case hw48 => rfl); (case hy48 => (intro w hSw; go_simp; try with_reducible rfl)); (case hq48 => exact fun _ _ _ h => h); simp only [Act.put, List.setIfInBounds_toArray, List.set_cons_zero, List.set_cons_succ])
      (refine hd_one (i := 3) (oi := ?oi50) ?hi50 (by kernel_rfl) (by decide) ?hr50; (case hi50 => (simp only [List.getElem?_toArray, List.getElem?_cons_succ, List.getElem?_cons_zero]; rfl)); intro K hK)
      go_simp
      go_at_call 43
      refine (signature_any g Ag cg _ (Kd.C_below HG.out (hbT HW.out hHeld))).mono ?_
      rintro e w21 ⟨rfl, hbw21⟩
      go_simp
      (refine hK.out _ _ ?hS52 (fun hHeld => ?hr52); (case hS52 => exact hbT hHeld hbw21); clear hK K; try simp only [Act.put, List.setIfInBounds_toArray, List.set_cons_zero, List.set_cons_succ])
      (refine hd_one (i := 5) (oi := ?oi53) ?hi53 (by kernel_rfl) (by decide) ?hr53; (case hi53 => (simp only [List.getElem?_toArray, List.getElem?_cons_succ, List.getElem?_cons_zero]; rfl)); intro K hK)
      go_simp
      go_at_call 44
      refine (checkSignature_any g Ag cg _ (Kd.C_below HG.out (hbT HW.out hHeld))).mono ?_
      rintro e w22 ⟨rfl, hbw22⟩
      go_simp
      (refine hK.out _ _ ?hS55 (fun hHeld => ?hr55); (case hS55 => exact hbT hHeld hbw22); clear hK K; try simp only [Act.put, List.setIfInBounds_toArray, List.set_cons_zero, List.set_cons_succ])
      (refine hd_take (i := 6) (oi := ?oi56) (v := ?v56) ?hi56 (by kernel_rfl) (by kernel_rfl) (by kernel_rfl) (by kernel_rfl) (by decide) ?hq56 ?hw56 ?hy56 hHeld ?hr56; (case hi56 => (simp only [List.getElem?_toArray, List.getElem?_cons_succ, List.getElem?_cons_zero]; rfl)); (case hw56 => rfl); (case hy56 => (intro w hSw; go_simp; try with_reducible rfl)); (case hq56 => exact fun _ _ _ h => h); simp only [Act.put, List.setIfInBounds_toArray, List.set_cons_zero, List.set_cons_succ])
      (refine hd_take (i := 7) (oi := ?oi58) (v := ?v58) ?hi58 (by kernel_rfl) (by kernel_rfl) (by kernel_rfl) (by kernel_rfl) (by decide) ?hq58 ?hw58 ?hy58 hHeld ?hr58; (case hi58 => (simp only [List.getElem?_toArray, List.getElem?_cons_succ, List.getElem?_cons_zero]; rfl)); (case hw58 => rfl); (case hy58 => (intro w hSw; go_simp; try with_reducible rfl)); (case hq58 => exact fun _ _ _ h => h); simp only [Act.put, List.setIfInBounds_toArray, List.set_cons_zero, List.set_cons_succ])
      (refine hd_take (i := 8) (oi := ?oi60) (v := ?v60) ?hi60 (by kernel_rfl) (by kernel_rfl) (by kernel_rfl) (by kernel_rfl) (by decide) ?hq60 ?hw60 ?hy60 hHeld ?hr60; (case hi60 => (simp only [List.getElem?_toArray, List.getElem?_cons_succ, List.getElem?_cons_zero]; rfl)); (case hw60 => rfl); (case hy60 => (intro w hSw; go_simp; try with_reducible rfl)); (case hq60 => exact fun _ _ _ h => h); simp only [Act.put, List.setIfInBounds_toArray, List.set_cons_zero, List.set_cons_succ])
      (refine hd_take (i := 9) (oi := ?oi62) (v := ?v62) ?hi62 (by kernel_rfl) (by kernel_rfl) (by kernel_rfl) (by kernel_rfl) (by decide) ?hq62 ?hw62 ?hy62 hHeld ?hr62; (case hi62 => (simp only [List.getElem?_toArray, List.getElem?_cons_succ, List.getElem?_cons_zero]; rfl)); (case hw62 => rfl); (case hy62 => (intro w hSw; go_simp; try with_reducible rfl)); (case hq62 => exact fun _ _ _ h => h); simp only [Act.put, List.setIfInBounds_toArray, List.set_cons_zero, List.set_cons_succ])
      (refine hd_take (i := 10) (oi := ?oi64) (v := ?v64) ?hi64 (by kernel_rfl) (by kernel_rfl) (by kernel_rfl) (by kernel_rfl) (by decide) ?hq64 ?hw64 ?hy64 hHeld ?hr64; (case hi64 => (simp only [List.getElem?_toArray, List.getElem?_cons_succ, List.getElem?_cons_zero]; rfl)); (case hw64 => rfl); (case hy64 => (intro w hSw; go_simp; try with_reducible rfl)); (case hq64 => exact fun _ _ _ h => h); simp only [Act.put, List.setIfInBounds_toArray, List.set_cons_zero, List.set_cons_succ])
      (refine hd_take (i := 12) (oi := ?oi66) (v := ?v66) ?hi66 (by kernel_rfl) (by kernel_rfl) (by kernel_rfl) (by kernel_rfl) (by decide) ?hq66 ?hw66 ?hy66 hHeld ?hr66; (case hi66 => (simp only [List.getElem?_toArray, List.getElem?_cons_succ, List.getElem?_cons_zero]; rfl)); (case hw66 => rfl); (case hy66 => (intro w hSw; go_simp; try with_reducible rfl)); (case hq66 => exact fun _ _ _ h => h); simp only [Act.put, List.setIfInBounds_toArray, List.set_cons_zero, List.set_cons_succ])
      (refine hd_one (i := 11) (oi := ?oi68) ?hi68 (by kernel_rfl) (by decide) ?hr68; (case hi68 => (simp only [List.getElem?_toArray, List.getElem?_cons_succ, List.getElem?_cons_zero]; rfl)); intro K hK)
      go_simp
      go_at_call 45
      refine (termCheck_any g Ag cg t A c _ _ (Kd.C_below HG.out (hbT HW.out hHeld)) (Kd.F_below HF.out (hbT HW.out hHeld)) hc).mono ?_
      rintro e w23 ⟨rfl, hbw23⟩
      go_simp
      (refine hK.out _ _ ?hS70 (fun hHeld => ?hr70); (case hS70 => exact hbT hHeld hbw23); clear hK K; try simp only [Act.put, List.setIfInBounds_toArray, List.set_cons_zero, List.set_cons_succ])
      (refine hd_take (i := 13) (oi := ?oi71) (v := ?v71) ?hi71 (by kernel_rfl) (by kernel_rfl) (by kernel_rfl) (by kernel_rfl) (by decide) ?hq71 ?hw71 ?hy71 hHeld ?hr71; (case hi71 => (simp only [List.getElem?_toArray, List.getElem?_cons_succ, List.getElem?_cons_zero]; rfl)); (case hw71 => rfl); (case hy71 => (intro w hSw; go_simp; try with_reducible rfl)); (case hq71 => exact fun _ _ _ h => h); simp only [Act.put, List.setIfInBounds_toArray, List.set_cons_zero, List.set_cons_succ])
      (refine hd_take (i := 14) (oi := ?oi73) (v := ?v73) ?hi73 (by kernel_rfl) (by kernel_rfl) (by kernel_rfl) (by kernel_rfl) (by decide) ?hq73 ?hw73 ?hy73 hHeld ?hr73; (case hi73 => (simp only [List.getElem?_toArray, List.getElem?_cons_succ, List.getElem?_cons_zero]; rfl)); (case hw73 => rfl); (case hy73 => (intro w hSw; go_simp; try with_reducible rfl)); (case hq73 => exact fun _ _ _ h => h); simp only [Act.put, List.setIfInBounds_toArray, List.set_cons_zero, List.set_cons_succ])
      (refine hd_take (i := 15) (oi := ?oi75) (v := ?v75) ?hi75 (by kernel_rfl) (by kernel_rfl) (by kernel_rfl) (by kernel_rfl) (by decide) ?hq75 ?hw75 ?hy75 hHeld ?hr75; (case hi75 => (simp only [List.getElem?_toArray, List.getElem?_cons_succ, List.getElem?_cons_zero]; rfl)); (case hw75 => rfl); (case hy75 => (intro w hSw; go_simp; try with_reducible rfl)); (case hq75 => exact fun _ _ _ h => h); simp only [Act.put, List.setIfInBounds_toArray, List.set_cons_zero, List.set_cons_succ])
      (refine hd_take (i := 16) (oi := ?oi77) (v := ?v77) ?hi77 (by kernel_rfl) (by kernel_rfl) (by kernel_rfl) (by kernel_rfl) (by decide) ?hq77 ?hw77 ?hy77 hHeld ?hr77; (case hi77 => (simp only [List.getElem?_toArray, List.getElem?_cons_succ, List.getElem?_cons_zero]; rfl)); (case hw77 => rfl); (case hy77 => (intro w hSw; go_simp; try with_reducible rfl)); (case hq77 => exact fun _ _ _ h => h); simp only [Act.put, List.setIfInBounds_toArray, List.set_cons_zero, List.set_cons_succ])
      (refine hd_take (i := 17) (oi := ?oi79) (v := ?v79) ?hi79 (by kernel_rfl) (by kernel_rfl) (by kernel_rfl) (by kernel_rfl) (by decide) ?hq79 ?hw79 ?hy79 hHeld ?hr79; (case hi79 => (simp only [List.getElem?_toArray, List.getElem?_cons_succ, List.getElem?_cons_zero]; rfl)); (case hw79 => rfl); (case hy79 => (intro w hSw; go_simp; try with_reducible rfl)); (case hq79 => exact fun _ _ _ h => h); simp only [Act.put, List.setIfInBounds_toArray, List.set_cons_zero, List.set_cons_succ])
      (refine hd_take (i := 18) (oi := ?oi81) (v := ?v81) ?hi81 (by kernel_rfl) (by kernel_rfl) (by kernel_rfl) (by kernel_rfl) (by decide) ?hq81 ?hw81 ?hy81 hHeld ?hr81; (case hi81 => (simp only [List.getElem?_toArray, List.getElem?_cons_succ, List.getElem?_cons_zero]; rfl)); (case hw81 => rfl); (case hy81 => (intro w hSw; go_simp; try with_reducible rfl)); (case hq81 => exact fun _ _ _ h => h); simp only [Act.put, List.setIfInBounds_toArray, List.set_cons_zero, List.set_cons_succ])
      (refine hd_take (i := 19) (oi := ?oi83) (v := ?v83) ?hi83 (by kernel_rfl) (by kernel_rfl) (by kernel_rfl) (by kernel_rfl) (by decide) ?hq83 ?hw83 ?hy83 hHeld ?hr83; (case hi83 => (simp only [List.getElem?_toArray, List.getElem?_cons_succ, List.getElem?_cons_zero]; rfl)); (case hw83 => rfl); (case hy83 => (intro w hSw; go_simp; try with_reducible rfl)); (case hq83 => exact fun _ _ _ h => h); simp only [Act.put, List.setIfInBounds_toArray, List.set_cons_zero, List.set_cons_succ])
      (refine hd_take (i := 20) (oi := ?oi85) (v := ?v85) ?hi85 (by kernel_rfl) (by kernel_rfl) (by kernel_rfl) (by kernel_rfl) (by decide) ?hq85 ?hw85 ?hy85 hHeld ?hr85; (case hi85 => (simp only [List.getElem?_toArray, List.getElem?_cons_succ, List.getElem?_cons_zero]; rfl)); (case hw85 => rfl); (case hy85 => (intro w hSw; go_simp; try with_reducible rfl)); (case hq85 => exact fun _ _ _ h => h); simp only [Act.put, List.setIfInBounds_toArray, List.set_cons_zero, List.set_cons_succ])
      (refine hd_take (i := 21) (oi := ?oi87) (v := ?v87) ?hi87 (by kernel_rfl) (by kernel_rfl) (by kernel_rfl) (by kernel_rfl) (by decide) ?hq87 ?hw87 ?hy87 hHeld ?hr87; (case hi87 => (simp only [List.getElem?_toArray, List.getElem?_cons_succ, List.getElem?_cons_zero]; rfl)); (case hw87 => rfl); (case hy87 => (intro w hSw; go_simp; try with_reducible rfl)); (case hq87 => exact fun _ _ _ h => h); simp only [Act.put, List.setIfInBounds_toArray, List.set_cons_zero, List.set_cons_succ])
      (refine hd_take (i := 22) (oi := ?oi89) (v := ?v89) ?hi89 (by kernel_rfl) (by kernel_rfl) (by kernel_rfl) (by kernel_rfl) (by decide) ?hq89 ?hw89 ?hy89 hHeld ?hr89; (case hi89 => (simp only [List.getElem?_toArray, List.getElem?_cons_succ, List.getElem?_cons_zero]; rfl)); (case hw89 => rfl); (case hy89 => (intro w hSw; go_simp; try with_reducible rfl)); (case hq89 => exact fun _ _ _ h => h); simp only [Act.put, List.setIfInBounds_toArray, List.set_cons_zero, List.set_cons_succ])
      (refine hd_take (i := 23) (oi := ?oi91) (v := ?v91) ?hi91 (by kernel_rfl) (by kernel_rfl) (by kernel_rfl) (by kernel_rfl) (by decide) ?hq91 ?hw91 ?hy91 hHeld ?hr91; (case hi91 => (simp only [List.getElem?_toArray, List.getElem?_cons_succ, List.getElem?_cons_zero]; rfl)); (case hw91 => rfl); (case hy91 => (intro w hSw; go_simp; try with_reducible rfl)); (case hq91 => exact fun _ _ _ h => h); simp only [Act.put, List.setIfInBounds_toArray, List.set_cons_zero, List.set_cons_succ])
      (refine hd_take (i := 24) (oi := ?oi93) (v := ?v93) ?hi93 (by kernel_rfl) (by kernel_rfl) (by kernel_rfl) (by kernel_rfl) (by decide) ?hq93 ?hw93 ?hy93 hHeld ?hr93; (case hi93 => (simp only [List.getElem?_toArray, List.getElem?_cons_succ, List.getElem?_cons_zero]; rfl)); (case hw93 => rfl); (case hy93 => (intro w hSw; go_simp; try with_reducible rfl)); (case hq93 => exact fun _ _ _ h => h); simp only [Act.put, List.setIfInBounds_toArray, List.set_cons_zero, List.set_cons_succ])
      (refine hd_take (i := 25) (oi := ?oi95) (v := ?v95) ?hi95 (by kernel_rfl) (by kernel_rfl) (by kernel_rfl) (by kernel_rfl) (by decide) ?hq95 ?hw95 ?hy95 hHeld ?hr95; (case hi95 => (simp only [List.getElem?_toArray, List.getElem?_cons_succ, List.getElem?_cons_zero]; rfl)); (case hw95 => rfl); (case hy95 => (intro w hSw; go_simp; try with_reducible rfl)); (case hq95 => exact fun _ _ _ h => h); simp only [Act.put, List.setIfInBounds_toArray, List.set_cons_zero, List.set_cons_succ])
      (refine hd_take (i := 26) (oi := ?oi97) (v := ?v97) ?hi97 (by kernel_rfl) (by kernel_rfl) (by kernel_rfl) (by kernel_rfl) (by decide) ?hq97 ?hw97 ?hy97 hHeld ?hr97; (case hi97 => (simp only [List.getElem?_toArray, List.getElem?_cons_succ, List.getElem?_cons_zero]; rfl)); (case hw97 => rfl); (case hy97 => (intro w hSw; go_simp; try with_reducible rfl)); (case hq97 => exact fun _ _ _ h => h); simp only [Act.put, List.setIfInBounds_toArray, List.set_cons_zero, List.set_cons_succ])
      (refine hd_take (i := 27) (oi := ?oi99) (v := ?v99) ?hi99 (by kernel_rfl) (by kernel_rfl) (by kernel_rfl) (by kernel_rfl) (by decide) ?hq99 ?hw99 ?hy99 hHeld ?hr99; (case hi99 => (simp only [List.getElem?_toArray, List.getElem?_cons_succ, List.getElem?_cons_zero]; rfl)); (case hw99 => rfl); (case hy99 => (intro w hSw; go_simp; try with_reducible rfl)); (case hq99 => exact fun _ _ _ h => h); simp only [Act.put, List.setIfInBounds_toArray, List.set_cons_zero, List.set_cons_succ])
      (refine hd_take (i := 28) (oi := ?oi101) (v := ?v101) ?hi101 (by kernel_rfl) (by kernel_rfl) (by kernel_rfl) (by kernel_rfl) (by decide) ?hq101 ?hw101 ?hy101 hHeld ?hr101; (case hi101 => (simp only [List.getElem?_toArray, List.getElem?_cons_succ, List.getElem?_cons_zero]; rfl)); (case hw101 => rfl); (case hy101 => (intro w hSw; go_simp; try with_reducible rfl)); (case hq101 => exact fun _ _ _ h => h); simp only [Act.put, List.setIfInBounds_toArray, List.set_cons_zero, List.set_cons_succ])
      (refine hd_take (i := 29) (oi := ?oi103) (v := ?v103) ?hi103 (by kernel_rfl) (by kernel_rfl) (by kernel_rfl) (by kernel_rfl) (by decide) ?hq103 ?hw103 ?hy103 hHeld ?hr103; (case hi103 => (simp only [List.getElem?_toArray, List.getElem?_cons_succ, List.getElem?_cons_zero]; rfl)); (case hw103 => rfl); (case hy103 => (intro w hSw; go_simp; try with_reducible rfl)); (case hq103 => exact fun _ _ _ h => h); simp only [Act.put, List.setIfInBounds_toArray, List.set_cons_zero, List.set_cons_succ])
      (refine hd_take (i := 30) (oi := ?oi105) (v := ?v105) ?hi105 (by kernel_rfl) (by kernel_rfl) (by kernel_rfl) (by kernel_rfl) (by decide) ?hq105 ?hw105 ?hy105 hHeld ?hr105; (case hi105 => (simp only [List.getElem?_toArray, List.getElem?_cons_succ, List.getElem?_cons_zero]; rfl)); (case hw105 => rfl); (case hy105 => (intro w hSw; go_simp; try with_reducible rfl)); (case hq105 => exact fun _ _ _ h => h); simp only [Act.put, List.setIfInBounds_toArray, List.set_cons_zero, List.set_cons_succ])
      (refine hd_take (i := 31) (oi := ?oi107) (v := ?v107) ?hi107 (by kernel_rfl) (by kernel_rfl) (by kernel_rfl) (by kernel_rfl) (by decide) ?hq107 ?hw107 ?hy107 hHeld ?hr107; (case hi107 => (simp only [List.getElem?_toArray, List.getElem?_cons_succ, List.getElem?_cons_zero]; rfl)); (case hw107 => rfl); (case hy107 => (intro w hSw; go_simp; try with_reducible rfl)); (case hq107 => exact fun _ _ _ h => h); simp only [Act.put, List.setIfInBounds_toArray, List.set_cons_zero, List.set_cons_succ])
      (refine hd_take (i := 32) (oi := ?oi109) (v := ?v109) ?hi109 (by kernel_rfl) (by kernel_rfl) (by kernel_rfl) (by kernel_rfl) (by decide) ?hq109 ?hw109 ?hy109 hHeld ?hr109; (case hi109 => (simp only [List.getElem?_toArray, List.getElem?_cons_succ, List.getElem?_cons_zero]; rfl)); (case hw109 => rfl); (case hy109 => (intro w hSw; go_simp; try with_reducible rfl)); (case hq109 => exact fun _ _ _ h => h); simp only [Act.put, List.setIfInBounds_toArray, List.set_cons_zero, List.set_cons_succ])
      (refine hd_one (i := 33) (oi := ?oi111) ?hi111 (by kernel_rfl) (by decide) ?hr111; (case hi111 => (simp only [List.getElem?_toArray, List.getElem?_cons_succ, List.getElem?_cons_zero]; rfl)); intro K hK)
      go_simp
      go_at_call 46
      refine (sameInts_any (varsN g t) (varsN g t) A2 A35 c2 c35 _ (Kd.C_below HCA.out hHeld) (Kd.C_below HC35.out hHeld)).mono ?_
      rintro e w24 ⟨rfl, hbw24⟩
      simp only [sameI_refl]
      go_simp
      (refine hK.out _ _ ?hS113 (fun hHeld => ?hr113); (case hS113 => exact hbT hHeld hbw24); clear hK K; try simp only [Act.put, List.setIfInBounds_toArray, List.set_cons_zero, List.set_cons_succ])
      (refine hd_take (i := 34) (oi := ?oi114) (v := ?v114) ?hi114 (by kernel_rfl) (by kernel_rfl) (by kernel_rfl) (by kernel_rfl) (by decide) ?hq114 ?hw114 ?hy114 hHeld ?hr114; (case hi114 => (simp only [List.getElem?_toArray, List.getElem?_cons_succ, List.getElem?_cons_zero]; rfl)); (case hw114 => rfl); (case hy114 => (intro w hSw; go_simp; try with_reducible rfl)); (case hq114 => exact fun _ _ _ h => h); simp only [Act.put, List.setIfInBounds_toArray, List.set_cons_zero, List.set_cons_succ])
      (refine hd_done (by kernel_rfl) ?_; simp only [List.drop_succ_cons, List.drop_zero])
      have HBF := Aside0.mk (hbT HW.out hHeld)
      clear hHeld ks0 kt0 kt1 kt2
      go_wp2
      go_ret
      exact ⟨rfl, HBF.out⟩
  · have h0e := beqF h0
    have HV : Aside0 (varsN g t = []) := ⟨by unfold varsN; rw [if_neg h0]⟩
    have HN : Aside0 (sizeN g t = 0) := ⟨by unfold sizeN; rw [if_neg h0]⟩
    clear h0
    go_upto_region 8 with (fail)
    simp only [HN.out, HV.out, List.length_nil]
    have s0 := sg_cell ((HB3.out.block _ (blk_lt HS.out)).trans HS.out)
    obtain ⟨t0, t1, t2⟩ := tm_cells ((HB3.out.block _ (blk_lt HT.out)).trans HT.out)
    have HW := Aside0.mk (hbT HB.out HB3.out)
    have ks0 := fun (w' : World) (h : Below w3.heap.size w3 w') => oldc h s0
    have kt0 := fun (w' : World) (h : Below w3.heap.size w3 w') => oldc h t0
    have kt1 := fun (w' : World) (h : Below w3.heap.size w3 w') => oldc h t1
    have kt2 := fun (w' : World) (h : Below w3.heap.size w3 w') => oldc h t2
    clear s0 t0 t1 t2
    refine hd_region 35 1 (fun w' => Below w3.heap.size w3 w') (by kernel_rfl) rfl ?_ (fun _ h => h)
    intro W8 hb8 hz8 hHeld
    clear hb8 hz8
    (refine hd_one (i := 0) (oi := ?oi117) ?hi117 (by kernel_rfl) (by decide) ?hr117; (case hi117 => (simp only [List.getElem?_toArray, List.getElem?_cons_succ, List.getElem?_cons_zero]; rfl)); intro K hK)
    go_simp
    go_at_call 42
    refine (termBegun_any _).mono ?_
    rintro e w20 ⟨rfl, hbw20⟩
    go_simp
    (refine hK.out _ _ ?hS119 (fun hHeld => ?hr119); (case hS119 => exact hbT hHeld hbw20); clear hK K; try simp only [Act.put, List.setIfInBounds_toArray, List.set_cons_zero, List.set_cons_succ])
    (refine hd_take (i := 1) (oi := ?oi120) (v := ?v120) ?hi120 (by kernel_rfl) (by kernel_rfl) (by kernel_rfl) (by kernel_rfl) (by decide) ?hq120 ?hw120 ?hy120 hHeld ?hr120; (case hi120 => (simp only [List.getElem?_toArray, List.getElem?_cons_succ, List.getElem?_cons_zero]; rfl)); (case hw120 => rfl); (case hy120 => (intro w hSw; go_simp; try with_reducible rfl)); (case hq120 => exact fun _ _ _ h => h); simp only [Act.put, List.setIfInBounds_toArray, List.set_cons_zero, List.set_cons_succ])
    (refine hd_take (i := 2) (oi := ?oi122) (v := ?v122) ?hi122 (by kernel_rfl) (by kernel_rfl) (by kernel_rfl) (by kernel_rfl) (by decide) ?hq122 ?hw122 ?hy122 hHeld ?hr122; (case hi122 => (simp only [List.getElem?_toArray, List.getElem?_cons_succ, List.getElem?_cons_zero]; rfl)); (case hw122 => rfl); (case hy122 => (intro w hSw; go_simp; try with_reducible rfl)); (case hq122 => exact fun _ _ _ h => h); simp only [Act.put, List.setIfInBounds_toArray, List.set_cons_zero, List.set_cons_succ])
    (refine hd_take (i := 4) (oi := ?oi124) (v := ?v124) ?hi124 (by kernel_rfl) (by kernel_rfl) (by kernel_rfl) (by kernel_rfl) (by decide) ?hq124 ?hw124 ?hy124 hHeld ?hr124; (case hi124 => (simp only [List.getElem?_toArray, List.getElem?_cons_succ, List.getElem?_cons_zero]; rfl)); (case hw124 => rfl); (case hy124 => (intro w hSw; go_simp; try with_reducible rfl)); (case hq124 => exact fun _ _ _ h => h); simp only [Act.put, List.setIfInBounds_toArray, List.set_cons_zero, List.set_cons_succ])
    (refine hd_one (i := 3) (oi := ?oi126) ?hi126 (by kernel_rfl) (by decide) ?hr126; (case hi126 => (simp only [List.getElem?_toArray, List.getElem?_cons_succ, List.getElem?_cons_zero]; rfl)); intro K hK)
    go_simp
    go_at_call 43
    refine (signature_any g Ag cg _ (Kd.C_below HG.out (hbT HW.out hHeld))).mono ?_
    rintro e w21 ⟨rfl, hbw21⟩
    go_simp
    (refine hK.out _ _ ?hS128 (fun hHeld => ?hr128); (case hS128 => exact hbT hHeld hbw21); clear hK K; try simp only [Act.put, List.setIfInBounds_toArray, List.set_cons_zero, List.set_cons_succ])
    (refine hd_one (i := 5) (oi := ?oi129) ?hi129 (by kernel_rfl) (by decide) ?hr129; (case hi129 => (simp only [List.getElem?_toArray, List.getElem?_cons_succ, List.getElem?_cons_zero]; rfl)); intro K hK)
    go_simp
    go_at_call 44
    refine (checkSignature_any g Ag cg _ (Kd.C_below HG.out (hbT HW.out hHeld))).mono ?_
    rintro e w22 ⟨rfl, hbw22⟩
    go_simp
    (refine hK.out _ _ ?hS131 (fun hHeld => ?hr131); (case hS131 => exact hbT hHeld hbw22); clear hK K; try simp only [Act.put, List.setIfInBounds_toArray, List.set_cons_zero, List.set_cons_succ])
    (refine hd_take (i := 6) (oi := ?oi132) (v := ?v132) ?hi132 (by kernel_rfl) (by kernel_rfl) (by kernel_rfl) (by kernel_rfl) (by decide) ?hq132 ?hw132 ?hy132 hHeld ?hr132; (case hi132 => (simp only [List.getElem?_toArray, List.getElem?_cons_succ, List.getElem?_cons_zero]; rfl)); (case hw132 => rfl); (case hy132 => (intro w hSw; go_simp; try with_reducible rfl)); (case hq132 => exact fun _ _ _ h => h); simp only [Act.put, List.setIfInBounds_toArray, List.set_cons_zero, List.set_cons_succ])
    (refine hd_take (i := 7) (oi := ?oi134) (v := ?v134) ?hi134 (by kernel_rfl) (by kernel_rfl) (by kernel_rfl) (by kernel_rfl) (by decide) ?hq134 ?hw134 ?hy134 hHeld ?hr134; (case hi134 => (simp only [List.getElem?_toArray, List.getElem?_cons_succ, List.getElem?_cons_zero]; rfl)); (case hw134 => rfl); (case hy134 => (intro w hSw; go_simp; try with_reducible rfl)); (case hq134 => exact fun _ _ _ h => h); simp only [Act.put, List.setIfInBounds_toArray, List.set_cons_zero, List.set_cons_succ])
    (refine hd_take (i := 8) (oi := ?oi136) (v := ?v136) ?hi136 (by kernel_rfl) (by kernel_rfl) (by kernel_rfl) (by kernel_rfl) (by decide) ?hq136 ?hw136 ?hy136 hHeld ?hr136; (case hi136 => (simp only [List.getElem?_toArray, List.getElem?_cons_succ, List.getElem?_cons_zero]; rfl)); (case hw136 => rfl); (case hy136 => (intro w hSw; go_simp; try with_reducible rfl)); (case hq136 => exact fun _ _ _ h => h); simp only [Act.put, List.setIfInBounds_toArray, List.set_cons_zero, List.set_cons_succ])
    (refine hd_take (i := 9) (oi := ?oi138) (v := ?v138) ?hi138 (by kernel_rfl) (by kernel_rfl) (by kernel_rfl) (by kernel_rfl) (by decide) ?hq138 ?hw138 ?hy138 hHeld ?hr138; (case hi138 => (simp only [List.getElem?_toArray, List.getElem?_cons_succ, List.getElem?_cons_zero]; rfl)); (case hw138 => rfl); (case hy138 => (intro w hSw; go_simp; try with_reducible rfl)); (case hq138 => exact fun _ _ _ h => h); simp only [Act.put, List.setIfInBounds_toArray, List.set_cons_zero, List.set_cons_succ])
    (refine hd_take (i := 10) (oi := ?oi140) (v := ?v140) ?hi140 (by kernel_rfl) (by kernel_rfl) (by kernel_rfl) (by kernel_rfl) (by decide) ?hq140 ?hw140 ?hy140 hHeld ?hr140; (case hi140 => (simp only [List.getElem?_toArray, List.getElem?_cons_succ, List.getElem?_cons_zero]; rfl)); (case hw140 => rfl); (case hy140 => (intro w hSw; go_simp; try with_reducible rfl)); (case hq140 => exact fun _ _ _ h => h); simp only [Act.put, List.setIfInBounds_toArray, List.set_cons_zero, List.set_cons_succ])
    (refine hd_take (i := 12) (oi := ?oi142) (v := ?v142) ?hi142 (by kernel_rfl) (by kernel_rfl) (by kernel_rfl) (by kernel_rfl) (by decide) ?hq142 ?hw142 ?hy142 hHeld ?hr142; (case hi142 => (simp only [List.getElem?_toArray, List.getElem?_cons_succ, List.getElem?_cons_zero]; rfl)); (case hw142 => rfl); (case hy142 => (intro w hSw; go_simp; try with_reducible rfl)); (case hq142 => exact fun _ _ _ h => h); simp only [Act.put, List.setIfInBounds_toArray, List.set_cons_zero, List.set_cons_succ])
    (refine hd_one (i := 11) (oi := ?oi144) ?hi144 (by kernel_rfl) (by decide) ?hr144; (case hi144 => (simp only [List.getElem?_toArray, List.getElem?_cons_succ, List.getElem?_cons_zero]; rfl)); intro K hK)
    go_simp
    go_at_call 45
    refine (termCheck_any g Ag cg t A c _ _ (Kd.C_below HG.out (hbT HW.out hHeld)) (Kd.F_below HF.out (hbT HW.out hHeld)) hc).mono ?_
    rintro e w23 ⟨rfl, hbw23⟩
    go_simp
    (refine hK.out _ _ ?hS146 (fun hHeld => ?hr146); (case hS146 => exact hbT hHeld hbw23); clear hK K; try simp only [Act.put, List.setIfInBounds_toArray, List.set_cons_zero, List.set_cons_succ])
    (refine hd_take (i := 13) (oi := ?oi147) (v := ?v147) ?hi147 (by kernel_rfl) (by kernel_rfl) (by kernel_rfl) (by kernel_rfl) (by decide) ?hq147 ?hw147 ?hy147 hHeld ?hr147; (case hi147 => (simp only [List.getElem?_toArray, List.getElem?_cons_succ, List.getElem?_cons_zero]; rfl)); (case hw147 => rfl); (case hy147 => (intro w hSw; go_simp; try with_reducible rfl)); (case hq147 => exact fun _ _ _ h => h); simp only [Act.put, List.setIfInBounds_toArray, List.set_cons_zero, List.set_cons_succ])
    (refine hd_take (i := 14) (oi := ?oi149) (v := ?v149) ?hi149 (by kernel_rfl) (by kernel_rfl) (by kernel_rfl) (by kernel_rfl) (by decide) ?hq149 ?hw149 ?hy149 hHeld ?hr149; (case hi149 => (simp only [List.getElem?_toArray, List.getElem?_cons_succ, List.getElem?_cons_zero]; rfl)); (case hw149 => rfl); (case hy149 => (intro w hSw; go_simp; try with_reducible rfl)); (case hq149 => exact fun _ _ _ h => h); simp only [Act.put, List.setIfInBounds_toArray, List.set_cons_zero, List.set_cons_succ])
    (refine hd_take (i := 15) (oi := ?oi151) (v := ?v151) ?hi151 (by kernel_rfl) (by kernel_rfl) (by kernel_rfl) (by kernel_rfl) (by decide) ?hq151 ?hw151 ?hy151 hHeld ?hr151; (case hi151 => (simp only [List.getElem?_toArray, List.getElem?_cons_succ, List.getElem?_cons_zero]; rfl)); (case hw151 => rfl); (case hy151 => (intro w hSw; go_simp; try with_reducible rfl)); (case hq151 => exact fun _ _ _ h => h); simp only [Act.put, List.setIfInBounds_toArray, List.set_cons_zero, List.set_cons_succ])
    (refine hd_take (i := 16) (oi := ?oi153) (v := ?v153) ?hi153 (by kernel_rfl) (by kernel_rfl) (by kernel_rfl) (by kernel_rfl) (by decide) ?hq153 ?hw153 ?hy153 hHeld ?hr153; (case hi153 => (simp only [List.getElem?_toArray, List.getElem?_cons_succ, List.getElem?_cons_zero]; rfl)); (case hw153 => rfl); (case hy153 => (intro w hSw; go_simp; try with_reducible rfl)); (case hq153 => exact fun _ _ _ h => h); simp only [Act.put, List.setIfInBounds_toArray, List.set_cons_zero, List.set_cons_succ])
    (refine hd_take (i := 17) (oi := ?oi155) (v := ?v155) ?hi155 (by kernel_rfl) (by kernel_rfl) (by kernel_rfl) (by kernel_rfl) (by decide) ?hq155 ?hw155 ?hy155 hHeld ?hr155; (case hi155 => (simp only [List.getElem?_toArray, List.getElem?_cons_succ, List.getElem?_cons_zero]; rfl)); (case hw155 => rfl); (case hy155 => (intro w hSw; go_simp; try with_reducible rfl)); (case hq155 => exact fun _ _ _ h => h); simp only [Act.put, List.setIfInBounds_toArray, List.set_cons_zero, List.set_cons_succ])
    (refine hd_take (i := 18) (oi := ?oi157) (v := ?v157) ?hi157 (by kernel_rfl) (by kernel_rfl) (by kernel_rfl) (by kernel_rfl) (by decide) ?hq157 ?hw157 ?hy157 hHeld ?hr157; (case hi157 => (simp only [List.getElem?_toArray, List.getElem?_cons_succ, List.getElem?_cons_zero]; rfl)); (case hw157 => rfl); (case hy157 => (intro w hSw; go_simp; try with_reducible rfl)); (case hq157 => exact fun _ _ _ h => h); simp only [Act.put, List.setIfInBounds_toArray, List.set_cons_zero, List.set_cons_succ])
    (refine hd_take (i := 19) (oi := ?oi159) (v := ?v159) ?hi159 (by kernel_rfl) (by kernel_rfl) (by kernel_rfl) (by kernel_rfl) (by decide) ?hq159 ?hw159 ?hy159 hHeld ?hr159; (case hi159 => (simp only [List.getElem?_toArray, List.getElem?_cons_succ, List.getElem?_cons_zero]; rfl)); (case hw159 => rfl); (case hy159 => (intro w hSw; go_simp; try with_reducible rfl)); (case hq159 => exact fun _ _ _ h => h); simp only [Act.put, List.setIfInBounds_toArray, List.set_cons_zero, List.set_cons_succ])
    (refine hd_take (i := 20) (oi := ?oi161) (v := ?v161) ?hi161 (by kernel_rfl) (by kernel_rfl) (by kernel_rfl) (by kernel_rfl) (by decide) ?hq161 ?hw161 ?hy161 hHeld ?hr161; (case hi161 => (simp only [List.getElem?_toArray, List.getElem?_cons_succ, List.getElem?_cons_zero]; rfl)); (case hw161 => rfl); (case hy161 => (intro w hSw; go_simp; try with_reducible rfl)); (case hq161 => exact fun _ _ _ h => h); simp only [Act.put, List.setIfInBounds_toArray, List.set_cons_zero, List.set_cons_succ])
    (refine hd_take (i := 21) (oi := ?oi163) (v := ?v163) ?hi163 (by kernel_rfl) (by kernel_rfl) (by kernel_rfl) (by kernel_rfl) (by decide) ?hq163 ?hw163 ?hy163 hHeld ?hr163; (case hi163 => (simp only [List.getElem?_toArray, List.getElem?_cons_succ, List.getElem?_cons_zero]; rfl)); (case hw163 => rfl); (case hy163 => (intro w hSw; go_simp; try with_reducible rfl)); (case hq163 => exact fun _ _ _ h => h); simp only [Act.put, List.setIfInBounds_toArray, List.set_cons_zero, List.set_cons_succ])
    (refine hd_take (i := 22) (oi := ?oi165) (v := ?v165) ?hi165 (by kernel_rfl) (by kernel_rfl) (by kernel_rfl) (by kernel_rfl) (by decide) ?hq165 ?hw165 ?hy165 hHeld ?hr165; (case hi165 => (simp only [List.getElem?_toArray, List.getElem?_cons_succ, List.getElem?_cons_zero]; rfl)); (case hw165 => rfl); (case hy165 => (intro w hSw; go_simp; try with_reducible rfl)); (case hq165 => exact fun _ _ _ h => h); simp only [Act.put, List.setIfInBounds_toArray, List.set_cons_zero, List.set_cons_succ])
    (refine hd_take (i := 23) (oi := ?oi167) (v := ?v167) ?hi167 (by kernel_rfl) (by kernel_rfl) (by kernel_rfl) (by kernel_rfl) (by decide) ?hq167 ?hw167 ?hy167 hHeld ?hr167; (case hi167 => (simp only [List.getElem?_toArray, List.getElem?_cons_succ, List.getElem?_cons_zero]; rfl)); (case hw167 => rfl); (case hy167 => (intro w hSw; go_simp; try with_reducible rfl)); (case hq167 => exact fun _ _ _ h => h); simp only [Act.put, List.setIfInBounds_toArray, List.set_cons_zero, List.set_cons_succ])
    (refine hd_take (i := 24) (oi := ?oi169) (v := ?v169) ?hi169 (by kernel_rfl) (by kernel_rfl) (by kernel_rfl) (by kernel_rfl) (by decide) ?hq169 ?hw169 ?hy169 hHeld ?hr169; (case hi169 => (simp only [List.getElem?_toArray, List.getElem?_cons_succ, List.getElem?_cons_zero]; rfl)); (case hw169 => rfl); (case hy169 => (intro w hSw; go_simp; try with_reducible rfl)); (case hq169 => exact fun _ _ _ h => h); simp only [Act.put, List.setIfInBounds_toArray, List.set_cons_zero, List.set_cons_succ])
    (refine hd_take (i := 25) (oi := ?oi171) (v := ?v171) ?hi171 (by kernel_rfl) (by kernel_rfl) (by kernel_rfl) (by kernel_rfl) (by decide) ?hq171 ?hw171 ?hy171 hHeld ?hr171; (case hi171 => (simp only [List.getElem?_toArray, List.getElem?_cons_succ, List.getElem?_cons_zero]; rfl)); (case hw171 => rfl); (case hy171 => (intro w hSw; go_simp; try with_reducible rfl)); (case hq171 => exact fun _ _ _ h => h); simp only [Act.put, List.setIfInBounds_toArray, List.set_cons_zero, List.set_cons_succ])
    (refine hd_take (i := 26) (oi := ?oi173) (v := ?v173) ?hi173 (by kernel_rfl) (by kernel_rfl) (by kernel_rfl) (by kernel_rfl) (by decide) ?hq173 ?hw173 ?hy173 hHeld ?hr173; (case hi173 => (simp only [List.getElem?_toArray, List.getElem?_cons_succ, List.getElem?_cons_zero]; rfl)); (case hw173 => rfl); (case hy173 => (intro w hSw; go_simp; try with_reducible rfl)); (case hq173 => exact fun _ _ _ h => h); simp only [Act.put, List.setIfInBounds_toArray, List.set_cons_zero, List.set_cons_succ])
    (refine hd_take (i := 27) (oi := ?oi175) (v := ?v175) ?hi175 (by kernel_rfl) (by kernel_rfl) (by kernel_rfl) (by kernel_rfl) (by decide) ?hq175 ?hw175 ?hy175 hHeld ?hr175; (case hi175 => (simp only [List.getElem?_toArray, List.getElem?_cons_succ, List.getElem?_cons_zero]; rfl)); (case hw175 => rfl); (case hy175 => (intro w hSw; go_simp; try with_reducible rfl)); (case hq175 => exact fun _ _ _ h => h); simp only [Act.put, List.setIfInBounds_toArray, List.set_cons_zero, List.set_cons_succ])
    (refine hd_take (i := 28) (oi := ?oi177) (v := ?v177) ?hi177 (by kernel_rfl) (by kernel_rfl) (by kernel_rfl) (by kernel_rfl) (by decide) ?hq177 ?hw177 ?hy177 hHeld ?hr177; (case hi177 => (simp only [List.getElem?_toArray, List.getElem?_cons_succ, List.getElem?_cons_zero]; rfl)); (case hw177 => rfl); (case hy177 => (intro w hSw; go_simp; try with_reducible rfl)); (case hq177 => exact fun _ _ _ h => h); simp only [Act.put, List.setIfInBounds_toArray, List.set_cons_zero, List.set_cons_succ])
    (refine hd_take (i := 29) (oi := ?oi179) (v := ?v179) ?hi179 (by kernel_rfl) (by kernel_rfl) (by kernel_rfl) (by kernel_rfl) (by decide) ?hq179 ?hw179 ?hy179 hHeld ?hr179; (case hi179 => (simp only [List.getElem?_toArray, List.getElem?_cons_succ, List.getElem?_cons_zero]; rfl)); (case hw179 => rfl); (case hy179 => (intro w hSw; go_simp; try with_reducible rfl)); (case hq179 => exact fun _ _ _ h => h); simp only [Act.put, List.setIfInBounds_toArray, List.set_cons_zero, List.set_cons_succ])
    (refine hd_take (i := 30) (oi := ?oi181) (v := ?v181) ?hi181 (by kernel_rfl) (by kernel_rfl) (by kernel_rfl) (by kernel_rfl) (by decide) ?hq181 ?hw181 ?hy181 hHeld ?hr181; (case hi181 => (simp only [List.getElem?_toArray, List.getElem?_cons_succ, List.getElem?_cons_zero]; rfl)); (case hw181 => rfl); (case hy181 => (intro w hSw; go_simp; try with_reducible rfl)); (case hq181 => exact fun _ _ _ h => h); simp only [Act.put, List.setIfInBounds_toArray, List.set_cons_zero, List.set_cons_succ])
    (refine hd_take (i := 31) (oi := ?oi183) (v := ?v183) ?hi183 (by kernel_rfl) (by kernel_rfl) (by kernel_rfl) (by kernel_rfl) (by decide) ?hq183 ?hw183 ?hy183 hHeld ?hr183; (case hi183 => (simp only [List.getElem?_toArray, List.getElem?_cons_succ, List.getElem?_cons_zero]; rfl)); (case hw183 => rfl); (case hy183 => (intro w hSw; go_simp; try with_reducible rfl)); (case hq183 => exact fun _ _ _ h => h); simp only [Act.put, List.setIfInBounds_toArray, List.set_cons_zero, List.set_cons_succ])
    (refine hd_take (i := 32) (oi := ?oi185) (v := ?v185) ?hi185 (by kernel_rfl) (by kernel_rfl) (by kernel_rfl) (by kernel_rfl) (by decide) ?hq185 ?hw185 ?hy185 hHeld ?hr185; (case hi185 => (simp only [List.getElem?_toArray, List.getElem?_cons_succ, List.getElem?_cons_zero]; rfl)); (case hw185 => rfl); (case hy185 => (intro w hSw; go_simp; try with_reducible rfl)); (case hq185 => exact fun _ _ _ h => h); simp only [Act.put, List.setIfInBounds_toArray, List.set_cons_zero, List.set_cons_succ])
    (refine hd_one (i := 33) (oi := ?oi187) ?hi187 (by kernel_rfl) (by decide) ?hr187; (case hi187 => (simp only [List.getElem?_toArray, List.getElem?_cons_succ, List.getElem?_cons_zero]; rfl)); intro K hK)
    go_simp
    go_at_call 46
    refine (sameInts_any [] [] A2 none c2 0 _ (by have := Kd.C_below HC3.out hHeld; rw [HV.out] at this; exact this) (Kd.C_nil _ _)).mono ?_
    rintro e w24 ⟨rfl, hbw24⟩
    simp only [sameI_refl]
    go_simp
    (refine hK.out _ _ ?hS189 (fun hHeld => ?hr189); (case hS189 => exact hbT hHeld hbw24); clear hK K; try simp only [Act.put, List.setIfInBounds_toArray, List.set_cons_zero, List.set_cons_succ])
    (refine hd_take (i := 34) (oi := ?oi190) (v := ?v190) ?hi190 (by kernel_rfl) (by kernel_rfl) (by kernel_rfl) (by kernel_rfl) (by decide) ?hq190 ?hw190 ?hy190 hHeld ?hr190; (case hi190 => (simp only [List.getElem?_toArray, List.getElem?_cons_succ, List.getElem?_cons_zero]; rfl)); (case hw190 => rfl); (case hy190 => (intro w hSw; go_simp; try with_reducible rfl)); (case hq190 => exact fun _ _ _ h => h); simp only [Act.put, List.setIfInBounds_toArray, List.set_cons_zero, List.set_cons_succ])
    (refine hd_done (by kernel_rfl) ?_; simp only [List.drop_succ_cons, List.drop_zero])
    have HBF := Aside0.mk (hbT HW.out hHeld)
    clear hHeld ks0 kt0 kt1 kt2
    go_wp2
    go_ret
    exact ⟨rfl, HBF.out⟩
end Go.Proofs.Ytcgnpmjkeifokaa
-- LTermTells
/- TermTells: Signature, Check, Size and Vars answer just what the document says, errors too, whatever they are handed: for every input. -/
namespace Go.Proofs.Ytcgnpmjkeifokaa
open Go.RowKit Go.WideShapes Go.ChangeShapes Go.ChangeAt Go.Proofs.YtcgnpmjkeifokaaW.PrintWords
set_option linter.unusedVariables false
set_option linter.unusedSimpArgs false
namespace TermTellsRow
theorem own_ : ownKnob Try.prog.godebug = none := by kernel_rfl
theorem laidOut_ : laidOutB Try.prog = true := by kernel_rfl
set_option maxRecDepth 100000 in
theorem lifted (os : Os) (started : os.Started) (H : Type) (enc : TypeId × Value → H) :
    ReturnsInHanded {} Try.checked os 8 .any (Rows.termTellsSpec.pre6 enc Try.prog Try.f8 Rows.termTellsRow.domain false) (Rows.termTellsSpec.post enc Try.prog Try.f8 false true false false) := by
  refine returnsInHanded_of_change_sized (C := Try.checked) own_ started (by kernel_rfl) Try.func8
    (ChangeSpec.witness6 (enc := enc) (C := Try.checked) false ⟨#[], #[.agg #[.slice none 0 0], .agg #[.int .i64 0, .int .i64 0, .slice none 0 0]], []⟩ 8 (by kernel_rfl) (by kernel_rfl) (by kernel_rfl) (by kernel_rfl)) ?_
  intro W base args ds gs before hval0 hW hcnd hsz0 _
  have hval : ∀ (j : Nat) t v, Try.f8.params[j]? = some t → args[j]? = some v → Value.okWide Try.prog W .any base t v := hval0
  have hW' := hW
  obtain ⟨p, q, hA0, hV, rfl, hfz, hnd⟩ := hW
  have hA : DataW.TrodAll enc Try.prog W 0 (fun _ => true) true Try.f8.params.toList args.toList ds p := hA0
  rw [Try.params8] at hA hval
  obtain ⟨v0, vs0, d0, ds0, p0, q0, hargs, rfl, rfl, h0, r0⟩ := trodAll_cons hA
  obtain ⟨v1, vs1, d1, ds1, p1, q1, rfl, rfl, rfl, h1, r1⟩ := trodAll_cons r0
  obtain ⟨rfl, rfl, rfl⟩ := trodAll_nil r1
  obtain rfl : args = #[v0, v1] := by cases args; simp_all
  obtain ⟨rfl, rfl⟩ := trodVars_none hV
  obtain ⟨x0, A0, c0, rfl, l0, G0⟩ := arg_sg (hval 0 24 v0 rfl rfl) h0
  obtain ⟨x1, A1, c1, rfl, l1, G1⟩ := arg_tm (hval 1 46 v1 rfl rfl) h1
  have lt0 : ∀ x ∈ p0, x.block < W.heap.size := by obtain ⟨m, hm⟩ := h0; exact DataW.trod_lt m _ _ _ hm
  have lt1 : ∀ x ∈ p1, x.block < W.heap.size := by obtain ⟨m, hm⟩ := h1; exact DataW.trod_lt m _ _ _ hm
  clear hA0 hval0 hsz0
  refine (termTells_any x0 A0 c0 x1 A1 c1 _ W G0 G1 l1).mono fun e W' ⟨he, bel⟩ => ?_
  subst he
  exact ⟨_, rfl, _, _, _, [], _, [], hW', trodAll_mk1 (shut_bool Try.underlying4 _), (trodAll_cons_mk (Below.trod laidOut_ (by kernel_rfl) (of_decide_eq_true (by kernel_rfl)) h0 bel lt0) (trodAll_cons_mk (Below.trod laidOut_ (by kernel_rfl) (of_decide_eq_true (by kernel_rfl)) h1 bel lt1) trodAll_mk0)), rfl, bel.frame _, fun h => by cases h⟩
theorem over : Rows.termTellsRow.holds Try.pinned (OpenSpec.ofChange Rows.termTellsSpec) :=
  OpenClaim.holds_of_wide 8 Try.f8 rfl rfl rfl rfl rfl rfl rfl ⟨rfl, rfl, rfl, rfl, rfl⟩ rfl rfl rfl rfl rfl (by kernel_rfl) Try.func8 (by kernel_rfl)
    (of_decide_eq_true (by kernel_rfl)) (by unfold Func.isWrapper; first | (rw [if_pos (by decide +kernel)]; kernel_rfl) | (rw [if_neg (by decide +kernel)]; exact ⟨rfl, rfl⟩))
    (fun os started H enc _ => lifted os started H enc)
end TermTellsRow
/-- The statement. -/
theorem termTells_holds : Rows.TermTellsSaid := TermTellsRow.over
#print axioms termTells_holds
end Go.Proofs.Ytcgnpmjkeifokaa
