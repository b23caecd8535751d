/- RewriteFalls: each step makes a lesser term, and what is normal stays as it is: for every input. Part 2: the walks and plain laws that it uses. -/
import Derived.ChangeArms
import Derived.Deep.Strs
import Derived.ChangeOld
import Derived.SizedLaws
import Derived.ProofKit
import Derived.OpenShut
import Derived.MapKept
import Derived.Maps.OwnOps
import Derived.Laws.StructEq
import Derived.Laws.Tables
import Derived.Test.YtcgnpmjkeifokaaMRF1
-- K20
/- term.walk, term.Walk by a function that passes a state on. -/
namespace Go.Proofs.Ytcgnpmjkeifokaa
open Go.RowKit Go.Proofs.YtcgnpmjkeifokaaW.PrintWords
set_option linter.unusedVariables false
set_option linter.unusedSimpArgs false
section
variable {σ : Type}
mutual
def walkT (f : σ → Tm → σ × Bool) : σ → Tm → σ × Bool
  | s, ⟨v, g, l⟩ => if (f s ⟨v, g, l⟩).2 then walkL f (f s ⟨v, g, l⟩).1 l else ((f s ⟨v, g, l⟩).1, false)
def walkL (f : σ → Tm → σ × Bool) : σ → List Tm → σ × Bool
  | s, [] => (s, true)
  | s, t :: ts => if (walkT f s t).2 then walkL f (walkT f s t).1 ts else ((walkT f s t).1, false)
end
theorem walkT_eq (f : σ → Tm → σ × Bool) (s : σ) (t : Tm) : walkT f s t = if (f s t).2 then walkL f (f s t).1 t.f2 else ((f s t).1, false) := by cases t; rw [walkT]
theorem walkL_append (f : σ → Tm → σ × Bool) (a b : List Tm) : ∀ s, walkL f s (a ++ b) = if (walkL f s a).2 then walkL f (walkL f s a).1 b else ((walkL f s a).1, false) := by
  induction a with
  | nil => intro s; simp [walkL]
  | cons t ts ih =>
    intro s
    simp only [List.cons_append, walkL]
    by_cases h : (walkT f s t).2 = true
    · simp only [h, if_true]; exact ih _
    · simp [h]
theorem walkL_take_succ (f : σ → Tm → σ × Bool) (s : σ) (l : List Tm) (k : Nat) (hk : k < l.length) (s1 : σ) (h : walkL f s (l.take k) = (s1, true)) : walkL f s (l.take (k+1)) = walkT f s1 (rd_Tm l k) := by
  rw [List.take_succ_eq_append_getElem hk, walkL_append, h, rd_get l k hk]
  simp only [if_true, walkL]
  by_cases h2 : (walkT f s1 l[k]).2 = true
  · simp only [h2, if_true]; exact Prod.ext rfl h2.symm
  · have h3 : (walkT f s1 l[k]).2 = false := by simpa using h2
    simp only [h3, Bool.false_eq_true, if_false]; exact Prod.ext rfl h3.symm
theorem walkL_bad (f : σ → Tm → σ × Bool) (s : σ) (l : List Tm) (k : Nat) (s1 : σ) (h : walkL f s (l.take k) = (s1, false)) : walkL f s l = (s1, false) := by
  have := walkL_append f (l.take k) (l.drop k) s
  rw [List.take_append_drop, h] at this
  simpa using this
end
section
variable {σ : Type}
theorem walk_mu (f : σ → Tm → σ × Bool) (μ : σ → Nat) (hμ : ∀ s x, μ (f s x).1 ≤ μ s + 1) (t : Tm) : ∀ s, μ (walkT f s t).1 ≤ μ s + szT t := by
  refine Tm.rec (motive_1 := fun t => ∀ s, μ (walkT f s t).1 ≤ μ s + szT t) (motive_2 := fun l => ∀ s, μ (walkL f s l).1 ≤ μ s + szL l) ?_ ?_ ?_ t
  · intro v g l ih s
    rw [walkT, szT]
    have h := hμ s ⟨v, g, l⟩
    split
    · have := ih (f s ⟨v, g, l⟩).1; omega
    · simp only; omega
  · intro s; simp [walkL]
  · intro t ts h1 h2 s
    rw [walkL, szL]
    have h := h1 s
    split
    · have := h2 (walkT f s t).1; omega
    · simp only; omega
theorem walkL_mu (f : σ → Tm → σ × Bool) (μ : σ → Nat) (hμ : ∀ s x, μ (f s x).1 ≤ μ s + 1) (l : List Tm) : ∀ s, μ (walkL f s l).1 ≤ μ s + szL l := by
  induction l with
  | nil => intro s; simp [walkL]
  | cons t ts ih =>
    intro s
    rw [walkL, szL]
    have h := walk_mu f μ hμ t s
    split
    · have := ih (walkT f s t).1; omega
    · simp only; omega
end
/-- All but block b and the row's own block is as it was. -/
structure Fr (b : Nat) (w : World) (ro : Option Nat) (w' : World) : Prop where
  os : w'.os = w.os
  tape : w'.tape = w.tape
  output : w'.output = w.output
  size : w.heap.size ≤ w'.heap.size
  block : ∀ i, i < w.heap.size → i ≠ b → some i ≠ ro → w'.heap[i]? = w.heap[i]?
theorem Fr.of_below {b : Nat} {w w' : World} {ro : Option Nat} (h : Below w.heap.size w w') : Fr b w ro w' := ⟨h.os, h.tape, h.output, h.size, fun i hi _ _ => h.block i hi⟩
def RoNew (w : World) (ro ro' : Option Nat) : Prop := ro' = ro ∨ ∃ k, ro' = some k ∧ w.heap.size ≤ k
theorem RoNew.trans {w w1 : World} {r r1 r2 : Option Nat} (h : RoNew w r r1) (k : RoNew w1 r1 r2) (hs : w.heap.size ≤ w1.heap.size) : RoNew w r r2 := by
  rcases k with rfl | ⟨b, rfl, hb⟩
  · exact h
  · exact .inr ⟨b, rfl, by omega⟩
theorem Fr.trans {b : Nat} {w w1 w2 : World} {ro ro1 : Option Nat} (h : Fr b w ro w1) (k : Fr b w1 ro1 w2) (hr : RoNew w ro ro1) : Fr b w ro w2 :=
  ⟨k.os.trans h.os, k.tape.trans h.tape, k.output.trans h.output, Nat.le_trans h.size k.size, fun i hi hb hn => (k.block i (Nat.lt_of_lt_of_le hi h.size) hb (by
    rcases hr with rfl | ⟨g, rfl, hg⟩
    · exact hn
    · intro e; injection e with e; omega)).trans (h.block i hi hb hn)⟩
/-- A function value that is handed each part and passes a state on. -/
def WkC {σ : Type} (g : Nat) (lb : Array Value) (f : σ → Tm → σ × Bool) (b : Nat) (St : σ → Option Nat → World → Prop) (μ : σ → Nat) (M : Nat) : Prop :=
  ∀ (s : σ) (ro : Option Nat) (x : Tm) (A : Option Addr) (c : Nat) (pv : Value) (okt : Nat → Prop) (W : World), μ s < M → Kd.F kTm W okt A x.f2.length x.f2 → x.f2.length ≤ c → St s ro W →
    Calls Try.prog g (#[pv, .agg #[.int .i64 x.f0, .int .i64 x.f1, .slice A x.f2.length c]] ++ lb) W fun e w' => ∃ ro', e = .returned (.bool (f s x).2) ∧ St (f s x).1 ro' w' ∧ Fr b W ro w' ∧ RoNew W ro ro'
structure StOk {σ : Type} (b : Nat) (St : σ → Option Nat → World → Prop) : Prop where
  below : ∀ s ro W W', St s ro W → Below W.heap.size W W' → St s ro W'
  lt : ∀ s ro W, St s ro W → b < W.heap.size ∧ ∀ k, ro = some k → k < W.heap.size
theorem F_int1 {W : World} {gb : Nat} {x : Int} (hb : W.heap[gb]? = some (.cells #[.int .i64 x] 3 (0, 0))) : Kd.F (Kd.int .i64) W (fun k => False ∨ k = gb) (some ⟨gb, 0, none⟩) 1 [x] :=
  F_lit (d := Kd.int .i64) (xs := [x]) [[.int .i64 x]] hb rfl (by simp) (fun j x' c' hx hc' => by
    cases j with
    | zero => simp at hx hc'; subst hx hc'; exact fun _ _ => rfl
    | succ j => simp at hx)
theorem C_int_move {w w' : World} {A : Option Addr} {p : List Int} (h : Kd.C (Kd.int .i64) w A p.length p) (hm : ∀ a, A = some a → a.block < w.heap.size → w'.heap[a.block]? = w.heap[a.block]?) : Kd.C (Kd.int .i64) w' A p.length p := by
  refine ⟨h.1, h.2.1, fun hn => ?_⟩
  obtain ⟨ad, e, hc⟩ := h.2.2 hn
  refine ⟨ad, e, fun j x hx => ?_⟩
  obtain ⟨c, hc1, hc2, hc3⟩ := hc j x hx
  exact ⟨c, hc1, hc2, fun i u hu => by
    have h2 : w'.cell? (ad.add (j * (Kd.int .i64).sz + i)) = w.cell? (ad.add (j * (Kd.int .i64).sz + i)) := World.cell?_of_block (by rw [addB]; exact hm ad e (by have := World.block_lt_of_cell? w _ (hc3 i u hu); rwa [addB] at this))
    rw [h2]; exact hc3 i u hu⟩
set_option maxHeartbeats 4000000 in
set_option maxRecDepth 100000 in
theorem walk_any {σ : Type} (g : Nat) (lb : Array Value) (f : σ → Tm → σ × Bool) (b : Nat) (St : σ → Option Nat → World → Prop) (eg : ∀ args w, (callFunc g args).run Try.prog w = .ok (.enter g args) w) (μ : σ → Nat) (M : Nat) (hμ : ∀ s x, μ (f s x).1 ≤ μ s + 1) (hd : WkC g lb f b St μ M) (hst : StOk b St) (m : Nat) :
    ∀ (t : Tm) (A : Option Addr) (c : Nat) (p : List Int) (Ap : Option Addr) (cp : Nat) (s : σ) (ro : Option Nat) (okt : Nat → Prop) (w : World), szT t ≤ m → μ s + szT t ≤ M → p.length + szT t ≤ 1000000 → Kd.F kTm w okt A t.f2.length t.f2 → t.f2.length ≤ c → (∀ k, okt k → k ≠ b ∧ some k ≠ ro) → Kd.C (Kd.int .i64) w Ap p.length p → p.length ≤ cp → (∀ a, Ap = some a → a.block ≠ b ∧ some a.block ≠ ro) → St s ro w →
    Calls Try.prog 135 #[.agg #[.int .i64 t.f0, .int .i64 t.f1, .slice A t.f2.length c], .slice Ap p.length cp, .func (.func g) #[] lb] w fun e w' => ∃ ro', e = .returned (.bool (walkT f s t).2) ∧ St (walkT f s t).1 ro' w' ∧ Fr b w ro w' ∧ RoNew w ro ro' := by
  induction m with
  | zero => intro t A c p Ap cp s ro okt w h; have := szT_pos t; omega
  | succ m ih =>
  intro t A c p Ap cp s ro okt w hm hmu hbd hF hc hok hP hpc hAp hS
  have hlen := Kd.F_max hF
  have hbw := (hst.lt _ _ _ hS).1
  have hrw := (hst.lt _ _ _ hS).2
  have IH := Aside0.mk ih
  have HD := Aside0.mk hd
  have HST := Aside0.mk hst
  have HF := Aside0.mk (Kd.F_bound hF)
  have HM := Aside0.mk hm
  have HMU := Aside0.mk hmu
  have HMF := Aside0.mk (hμ s t)
  have HML := Aside0.mk (fun s l => walkL_mu f μ hμ l s)
  have HBD := Aside0.mk hbd
  have HOK := Aside0.mk hok
  have HP := Aside0.mk hP
  have HPC := Aside0.mk hpc
  have HAP := Aside0.mk hAp
  have HS := Aside0.mk hS
  have HRW := Aside0.mk hrw
  have HSZ := Aside0.mk (szT_eq t)
  have HWT := Aside0.mk (walkT_eq f s t)
  have g0 := newAt (w := w) (o := .cells #[.int .i64 t.f0, .int .i64 t.f1, .slice A t.f2.length c] 46) rfl
  have HB := Aside0.mk (below_alloc (Below.refl w.heap.size w) (.cells #[.int .i64 t.f0, .int .i64 t.f1, .slice A t.f2.length c] 46))
  have hWz : (w.alloc (.cells #[.int .i64 t.f0, .int .i64 t.f1, .slice A t.f2.length c] 46)).heap.size = w.heap.size + 1 := by simp
  clear hF ih hm hmu hbd hd hst hμ hok hP hpc hAp hS hrw
  go_enter Try.func135, Try.ntmps135
  go_upto_region 1 with (fail)
  generalize w.alloc (.cells #[.int .i64 t.f0, .int .i64 t.f1, .slice A t.f2.length c] 46) = W at *
  have c0 := (blk_cell g0 0).trans rfl
  have c1 := (blk_cell g0 1).trans rfl
  have c2 := (blk_cell g0 2).trans rfl
  have G0 := Aside0.mk g0
  clear g0
  have HDO := HD.out s ro t A c (.slice Ap p.length cp) _ W (by have := HMU.out; have := HSZ.out; omega) (Kd.F_below HF.out HB.out) hc (HST.out.below _ _ _ _ HS.out HB.out)
  cases hb1 : (f s t).2 with
  | false =>
    have HE : Aside0 (walkT f s t = ((f s t).1, false)) := ⟨by rw [HWT.out, hb1]; rfl⟩
    simp only [hb1] at HDO
    have HDO := Aside0.mk HDO
    clear hb1
    go_wp2_with (refine HDO.out.mono ?_; rintro e w2 ⟨ro2, rfl, hS2, hFr2, hRo2⟩; have HS2 := Aside0.mk hS2; have HFr2 := Aside0.mk hFr2; have HRo2 := Aside0.mk hRo2; clear hS2 hFr2 hRo2 c0 c1 c2)
    go_ret
    exact ⟨ro2, by rw [HE.out]; rfl, by rw [HE.out]; exact HS2.out, (Fr.of_below HB.out).trans HFr2.out (.inl rfl), by
      rcases HRo2.out with h | ⟨k, h, hk⟩
      · exact .inl h
      · exact .inr ⟨k, h, by omega⟩⟩
  | true =>
    have HE : Aside0 (walkT f s t = walkL f (f s t).1 t.f2) := ⟨by rw [HWT.out, hb1]; rfl⟩
    simp only [hb1] at HDO
    have HDO := Aside0.mk HDO
    clear hb1
    generalize hs1 : (f s t).1 = s1 at *
    clear hs1
    go_wp2_with (refine HDO.out.mono ?_; rintro e w2 ⟨ro2, rfl, hS2, hFr2, hRo2⟩; have HS2 := Aside0.mk hS2; have HFr2 := Aside0.mk hFr2; have HRo2 := Aside0.mk hRo2; have hT2 := (hFr2.block w.heap.size (by omega) (by omega) (fun e => absurd (HRW.out _ e.symm) (by omega))).trans G0.out; have t2 := (blk_cell hT2 2).trans rfl; have HT2 := Aside0.mk hT2; have hz2 := hFr2.size; clear hS2 hFr2 hRo2 c0 c1 c2 hT2)
    go_loopw [17] (fun i wr => ∃ (k : Nat) (sk : σ) (rk : Option Nat), k ≤ t.f2.length ∧ i = .int .i64 k ∧ Aside0 (walkL f s1 (t.f2.take k) = (sk, true)) ∧ Aside0 (St sk rk wr) ∧ Aside0 (Fr b w ro wr) ∧ Aside0 (RoNew w ro rk) ∧ Aside0 (wr.heap[w.heap.size]? = some (.cells #[.int .i64 t.f0, .int .i64 t.f1, .slice A t.f2.length c] 46 (0, 0))) ∧ Aside0 (∀ k, rk = some k → k ≠ w.heap.size)) (fun i _ => t.f2.length - (intOf i).toNat)
    case atStart => exact ⟨0, s1, ro2, by omega, rfl, ⟨rfl⟩, HS2, ⟨(Fr.of_below HB.out).trans HFr2.out (.inl rfl)⟩, ⟨by
      rcases HRo2.out with h | ⟨k, h, hk⟩
      · exact .inl h
      · exact .inr ⟨k, h, by omega⟩⟩, HT2, ⟨fun k hk => by
      rcases HRo2.out with h | ⟨k', h, hk'⟩
      · have := HRW.out k (h ▸ hk); omega
      · rw [hk] at h; injection h with h; omega⟩⟩
    case round =>
      obtain ⟨k, sk, rk, hk, rfl, HWL, HSk, HFr, HRo, HTr, HNe⟩ := hrel
      have hzr := HFr.out.size
      have hlr := blk_lt HTr.out
      have HLK := Aside0.mk ((HST.out.lt _ _ _ HSk.out).2)
      by_cases hlt : k < t.f2.length
      · obtain ⟨ad, A2, c2, rfl, E0, E1, E2, hl2, hF2, _⟩ := at_TmF (Kd.F_step HF.out (fun j hj hjl => HFr.out.block j hjl (HOK.out j hj.1).1 (HOK.out j hj.1).2)) (k : Int) (by omega) (by omega)
        simp only [Int.toNat_natCast] at E0 E1 E2
        have HTm := Aside0.mk (szT_mem (rd_mem t.f2 k hlt))
        have HMK : Aside0 (μ sk + szT (rd_Tm t.f2 (k : Int)) ≤ M) := ⟨by have h1 := HML.out s1 (t.f2.take k); rw [HWL.out] at h1; have h2 := szL_take_succ t.f2 k hlt; have h3 := szL_take_le t.f2 (k+1); have h4 := HMF.out; have h5 := HMU.out; have h6 := HSZ.out; simp only at h1; omega⟩
        have HTK := Aside0.mk (walkL_take_succ f s1 t.f2 k hlt sk HWL.out)
        have HF2 := Aside0.mk hF2
        have HC2 := Aside0.mk hl2
        clear hF2 hl2
        have HPr := Aside0.mk (C_int_move HP.out (w' := wr) (fun a ha hl => HFr.out.block _ hl (HAP.out a ha).1 (HAP.out a ha).2))
        go_upto_region 6 with (((with_reducible refine gate_store (t := 46) (p := 8) rfl ?_); refine st_tm 8 rfl rfl rfl rfl rfl (heap_alloc_new _ _) ?_); intro w6 hs6 hG6 hz6; have HS6 := Aside0.mk hs6; have HB6 := Aside0.mk (gbS (below_alloc (Below.refl wr.heap.size wr) _) hG6 (Nat.le_refl _)); clear hs6 hG6 E0 E1 E2)
        have hl6 := blk_lt HS6.out
        have k1 := fun (w' : World) (h : w'.heap[wr.heap.size]? = some (.cells #[.int .i64 (rd_Tm t.f2 (k : Int)).f0, .int .i64 (rd_Tm t.f2 (k : Int)).f1, .slice A2 (rd_Tm t.f2 (k : Int)).f2.length c2] 46 (0, 0))) => (blk_cell h 0).trans rfl
        have k2 := fun (w' : World) (h : w'.heap[wr.heap.size]? = some (.cells #[.int .i64 (rd_Tm t.f2 (k : Int)).f0, .int .i64 (rd_Tm t.f2 (k : Int)).f1, .slice A2 (rd_Tm t.f2 (k : Int)).f2.length c2] 46 (0, 0))) => (blk_cell h 1).trans rfl
        have k3 := fun (w' : World) (h : w'.heap[wr.heap.size]? = some (.cells #[.int .i64 (rd_Tm t.f2 (k : Int)).f0, .int .i64 (rd_Tm t.f2 (k : Int)).f1, .slice A2 (rd_Tm t.f2 (k : Int)).f2.length c2] 46 (0, 0))) => (blk_cell h 2).trans rfl
        cases hbx : (walkT f sk (rd_Tm t.f2 (k : Int))).2 with
        | true =>
          refine hd_region 9 0 (fun w' => w'.heap[wr.heap.size]? = some (.cells #[.int .i64 (rd_Tm t.f2 (k : Int)).f0, .int .i64 (rd_Tm t.f2 (k : Int)).f1, .slice A2 (rd_Tm t.f2 (k : Int)).f2.length c2] 46 (0, 0))) (by kernel_rfl) rfl ?_ (fun W hB => (hB.block _ hl6).trans HS6.out)
          intro W7 hb7 hz7 hHeld
          have HB7 := Aside0.mk hb7
          have hl7 := blk_lt hHeld
          have hHeld7 := Aside0.mk hHeld
          have HP7 := Aside0.mk (Kd.C_below HPr.out (hbT HB6.out HB7.out))
          clear hb7 hz7
          (refine hd_take (i := 0) (oi := ?oi202) (v := ?v202) ?hi202 (by kernel_rfl) (by kernel_rfl) (by kernel_rfl) (by kernel_rfl) (by decide) ?hq202 ?hw202 ?hy202 hHeld ?hr202; (case hi202 => (simp only [List.getElem?_toArray, List.getElem?_cons_succ, List.getElem?_cons_zero]; rfl)); (case hw202 => rfl); (case hy202 => (intro w hSw; go_simp; try with_reducible rfl)); (case hq202 => exact fun _ _ _ h => h); simp only [Act.put, List.setIfInBounds_toArray, List.set_cons_zero, List.set_cons_succ])
          (refine hd_take (i := 1) (oi := ?oi204) (v := ?v204) ?hi204 (by kernel_rfl) (by kernel_rfl) (by kernel_rfl) (by kernel_rfl) (by decide) ?hq204 ?hw204 ?hy204 hHeld ?hr204; (case hi204 => (simp only [List.getElem?_toArray, List.getElem?_cons_succ, List.getElem?_cons_zero]; rfl)); (case hw204 => rfl); (case hy204 => (intro w hSw; go_simp; try with_reducible rfl)); (case hq204 => exact fun _ _ _ h => h); simp only [Act.put, List.setIfInBounds_toArray, List.set_cons_zero, List.set_cons_succ])
          (refine hd_take (i := 3) (oi := ?oi206) (v := ?v206) ?hi206 (by kernel_rfl) (by kernel_rfl) (by kernel_rfl) (by kernel_rfl) (by decide) ?hq206 ?hw206 ?hy206 hHeld ?hr206; (case hi206 => (simp only [List.getElem?_toArray, List.getElem?_cons_succ, List.getElem?_cons_zero]; rfl)); (case hw206 => rfl); (case hy206 => (intro w hSw; go_simp; try with_reducible rfl)); (case hq206 => exact fun _ _ _ h => h); simp only [Act.put, List.setIfInBounds_toArray, List.set_cons_zero, List.set_cons_succ])
          (refine hd_take (i := 6) (oi := ?oi208) (v := ?v208) ?hi208 (by kernel_rfl) (by kernel_rfl) (by kernel_rfl) (by kernel_rfl) (by decide) ?hq208 ?hw208 ?hy208 hHeld ?hr208; (case hi208 => (simp only [List.getElem?_toArray, List.getElem?_cons_succ, List.getElem?_cons_zero]; rfl)); (case hw208 => rfl); (case hy208 => (intro w hSw; go_simp; try with_reducible rfl)); (case hq208 => exact fun _ _ _ h => h); simp only [Act.put, List.setIfInBounds_toArray, List.set_cons_zero, List.set_cons_succ])
          refine hd_two (i := 2) (j := 4) (oi := ?oitrue) (oj := ?ojtrue) ?hitrue ?hjtrue (by kernel_rfl) (by decide) (by decide) ?hatrue ?hbtrue
          case hitrue => (simp only [List.getElem?_toArray, List.getElem?_cons_succ, List.getElem?_cons_zero]; rfl)
          case hjtrue => (simp only [List.getElem?_toArray, List.getElem?_cons_succ, List.getElem?_cons_zero]; rfl)
          case hatrue =>
            intro K hK
            go_simp
            go_at_call 153
            refine (cloneI_any p Ap cp W7 (by have := HBD.out; omega) HP7.out).mono ?_
            rintro e w8 ⟨v8, rfl, hN8, hb8⟩
            go_simp
            (refine hK.out _ _ ?hS212 (fun hHeld => ?hr212); (case hS212 => exact (hb8.block _ hl7).trans hHeld); clear hK K; try simp only [Act.put, List.setIfInBounds_toArray, List.set_cons_zero, List.set_cons_succ])
            have HB8 := Aside0.mk hb8
            have HN8 := Aside0.mk hN8
            clear hb8 hN8
            (refine hd_one (i := 4) (oi := ?oi213) ?hi213 (by kernel_rfl) (by decide) ?hr213; (case hi213 => (simp only [List.getElem?_toArray, List.getElem?_cons_succ, List.getElem?_cons_zero]; rfl)); intro K hK)
            go_simp
            (refine hK.out _ _ ?hS215 (fun hHeld => ?hr215); (case hS215 => exact blk_alloc hHeld _); clear hK K; try simp only [Act.put, List.setIfInBounds_toArray, List.set_cons_zero, List.set_cons_succ])
            (refine hd_one (i := 5) (oi := ?oi216) ?hi216 (by kernel_rfl) (by decide) ?hr216; (case hi216 => (simp only [List.getElem?_toArray, List.getElem?_cons_succ, List.getElem?_cons_zero]; rfl)); intro K hK)
            refine Kd.N_append_rows_step (Kd.int .i64) (w0 := w8.alloc (.cells #[.int .i64 (k : Int)] 3)) W7.heap.size rfl _ _ 22 3 _ 8 rfl Try.underlying22 infoI rfl (by decide) (by decide) v8 p [(k : Int)] (some ⟨w8.heap.size, 0, none⟩) 1 1 (fun _ => True) (fun j => False ∨ j = w8.heap.size) rfl rfl (Kd.N_below HN8.out (below_alloc (Below.refl _ _) _)) (F_int1 (heap_alloc_new _ _)) (fun j hj => ⟨trivial, fun e => by have := Kd.N_lt HN8.out _ e.symm; rcases hj with hj | hj; exact hj; omega⟩) (fun _ _ => trivial) (Below.refl _ _) (by have := HB8.out.size; simp; omega) (by have := HBD.out; omega) ?_
            intro v1 w10 hN10 hB10 hG10 hI10
            have HWA : Aside0 (W7.heap.size ≤ W7.heap.size) := ⟨Nat.le_refl _⟩
            have HB10 : Aside0 (Below W7.heap.size W7 w10) := ⟨(below_alloc HB8.out _).trans hB10⟩
            obtain ⟨A10, c10, rfl⟩ := Kd.N_slice hN10
            have HNB10 : Aside0 (∀ q, (Value.slice A10 (p ++ [(k : Int)]).length c10).ownBlock = some q → W7.heap.size ≤ q) := ⟨fun q hq => by have := Kd.N_base hN10 q hq; have := HWA.out; omega⟩
            have HC10 := Aside0.mk (Kd.N_reads' hN10)
            clear hN10 hB10 hG10 hI10
            (refine hK.out _ _ ?hS218 (fun hHeld => ?hr218); (case hS218 => exact (HB10.out.block _ hl7).trans hHeld7.out); clear hK K; try simp only [Act.put, List.setIfInBounds_toArray, List.set_cons_zero, List.set_cons_succ])
            have HBr := Aside0.mk (hbT (hbT HB6.out HB7.out) HB10.out)
            have hz10 := HBr.out.size
            have hz10b := HB10.out.size
            (refine hd_one (i := 7) (oi := ?oi219) ?hi219 (by kernel_rfl) (by decide) ?hr219; (case hi219 => (simp only [List.getElem?_toArray, List.getElem?_cons_succ, List.getElem?_cons_zero]; rfl)); intro K hK)
            go_simp
            have hIH := IH.out (rd_Tm t.f2 (k : Int)) A2 c2 (p ++ [(k : Int)]) A10 c10 sk rk (fun j => okt j ∧ j < w.heap.size) w10 (by have := HM.out; have := HSZ.out; have := HTm.out; omega) HMK.out (by have := HBD.out; have := HSZ.out; have := HTm.out; simp only [List.length_append, List.length_cons, List.length_nil]; omega) (Kd.F_below HF2.out HBr.out) HC2.out (fun j hj => ⟨(HOK.out j hj.1).1, by
                rcases HRo.out with h | ⟨q, h, hq⟩
                · rw [h]; exact (HOK.out j hj.1).2
                · rw [h]; intro e; injection e with e; have := hj.2; omega⟩) HC10.out.2.2 HC10.out.2.1 (fun a ha => by
                subst ha
                have h1 := HNB10.out a.block rfl
                exact ⟨by omega, fun e => by have := HLK.out _ e.symm; omega⟩) (HST.out.below _ _ _ _ HSk.out HBr.out)
            simp only [hbx, List.length_append, List.length_cons, List.length_nil, Nat.zero_add] at hIH
            go_at_call 135
            refine hIH.mono ?_
            clear hIH
            rintro e w11 ⟨r11, rfl, hS11, hFr11, hRo11⟩
            have HS11 := Aside0.mk hS11
            have HFr11 := Aside0.mk hFr11
            have HRo11 := Aside0.mk hRo11
            clear hS11
            go_simp
            (refine hK.out _ _ ?hS221 (fun hHeld => ?hr221); (case hS221 => exact (hFr11.block _ (blk_lt hHeld) (by omega) (fun e => by have := HLK.out _ e.symm; omega)).trans hHeld); clear hK K; try simp only [Act.put, List.setIfInBounds_toArray, List.set_cons_zero, List.set_cons_succ])
            clear hFr11 hRo11
            (refine hd_take (i := 8) (oi := ?oi222) (v := ?v222) ?hi222 (by kernel_rfl) (by kernel_rfl) (by kernel_rfl) (by kernel_rfl) (by decide) ?hq222 ?hw222 ?hy222 hHeld ?hr222; (case hi222 => (simp only [List.getElem?_toArray, List.getElem?_cons_succ, List.getElem?_cons_zero]; rfl)); (case hw222 => rfl); (case hy222 => (intro w hSw; go_simp; try with_reducible rfl)); (case hq222 => exact fun _ _ _ h => h); simp only [Act.put, List.setIfInBounds_toArray, List.set_cons_zero, List.set_cons_succ])
            (refine hd_done (by kernel_rfl) ?_; simp only [List.drop_succ_cons, List.drop_zero])
            clear hHeld
            have hz11 := HFr11.out.size
            have HFrw : Aside0 (Fr b w ro w11) := ⟨HFr.out.trans ((Fr.of_below HBr.out).trans HFr11.out (.inl rfl)) HRo.out⟩
            have HRow : Aside0 (RoNew w ro r11) := ⟨HRo.out.trans HRo11.out (by omega)⟩
            generalize hxx : walkT f sk (rd_Tm t.f2 (k : Int)) = wx at *
            obtain ⟨sx, bx⟩ := wx
            simp only at hbx
            subst hbx
            have HXX := Aside0.mk hxx
            clear hxx
            go_wp2
            go_roundw
            case rel => exact ⟨k + 1, sx, r11, by omega, by go_num, HTK, HS11, HFrw, HRow, ⟨(HFr11.out.block _ (by omega) (by omega) (fun e => HNe.out _ e.symm rfl)).trans ((HBr.out.block _ hlr).trans HTr.out)⟩, ⟨fun q hq => by
              rcases HRo11.out with h | ⟨q', h, hq'⟩
              · exact HNe.out q (h ▸ hq)
              · rw [hq] at h; injection h with h; omega⟩⟩
            case measure => simp [intOf]; omega
          case hbtrue =>
            intro K hK
            go_simp
            (refine hK.out _ _ ?hS225 (fun hHeld => ?hr225); (case hS225 => exact blk_alloc hHeld _); clear hK K; try simp only [Act.put, List.setIfInBounds_toArray, List.set_cons_zero, List.set_cons_succ])
            have HBa := Aside0.mk (below_alloc (Below.refl W7.heap.size W7) (.cells #[.int .i64 (k : Int)] 3))
            have HGa := Aside0.mk (heap_alloc_new W7 (.cells #[.int .i64 (k : Int)] 3))
            have HZa : Aside0 ((W7.alloc (.cells #[.int .i64 (k : Int)] 3)).heap.size = W7.heap.size + 1) := ⟨by simp⟩
            generalize W7.alloc (.cells #[.int .i64 (k : Int)] 3) = Wa at *
            (refine hd_one (i := 2) (oi := ?oi226) ?hi226 (by kernel_rfl) (by decide) ?hr226; (case hi226 => (simp only [List.getElem?_toArray, List.getElem?_cons_succ, List.getElem?_cons_zero]; rfl)); intro K hK)
            go_simp
            go_at_call 153
            refine (cloneI_any p Ap cp Wa (by have := HBD.out; omega) (Kd.C_below HP7.out HBa.out)).mono ?_
            rintro e w8 ⟨v8, rfl, hN8, hb8⟩
            go_simp
            (refine hK.out _ _ ?hS228 (fun hHeld => ?hr228); (case hS228 => exact (hb8.block _ (blk_lt hHeld)).trans hHeld); clear hK K; try simp only [Act.put, List.setIfInBounds_toArray, List.set_cons_zero, List.set_cons_succ])
            have HB8 := Aside0.mk hb8
            have HN8 := Aside0.mk hN8
            clear hb8 hN8
            (refine hd_one (i := 5) (oi := ?oi229) ?hi229 (by kernel_rfl) (by decide) ?hr229; (case hi229 => (simp only [List.getElem?_toArray, List.getElem?_cons_succ, List.getElem?_cons_zero]; rfl)); intro K hK)
            refine Kd.N_append_rows_step (Kd.int .i64) (w0 := w8) Wa.heap.size rfl _ _ 22 3 _ 8 rfl Try.underlying22 infoI rfl (by decide) (by decide) v8 p [(k : Int)] (some ⟨W7.heap.size, 0, none⟩) 1 1 (fun _ => True) (fun j => False ∨ j = W7.heap.size) rfl rfl HN8.out (F_int1 ((HB8.out.block _ (blk_lt HGa.out)).trans HGa.out)) (fun j hj => ⟨trivial, fun e => by have := Kd.N_base HN8.out _ e.symm; have := HZa.out; rcases hj with hj | hj; exact hj; omega⟩) (fun _ _ => trivial) (Below.refl _ _) HB8.out.size (by have := HBD.out; omega) ?_
            intro v1 w10 hN10 hB10 hG10 hI10
            have HWA : Aside0 (W7.heap.size ≤ Wa.heap.size) := ⟨by have := HZa.out; omega⟩
            have HB10 : Aside0 (Below W7.heap.size W7 w10) := ⟨(hbT HBa.out HB8.out).trans (hbW hB10 (by have := HZa.out; omega))⟩
            obtain ⟨A10, c10, rfl⟩ := Kd.N_slice hN10
            have HNB10 : Aside0 (∀ q, (Value.slice A10 (p ++ [(k : Int)]).length c10).ownBlock = some q → W7.heap.size ≤ q) := ⟨fun q hq => by have := Kd.N_base hN10 q hq; have := HWA.out; omega⟩
            have HC10 := Aside0.mk (Kd.N_reads' hN10)
            clear hN10 hB10 hG10 hI10
            (refine hK.out _ _ ?hS231 (fun hHeld => ?hr231); (case hS231 => exact (HB10.out.block _ hl7).trans hHeld7.out); clear hK K; try simp only [Act.put, List.setIfInBounds_toArray, List.set_cons_zero, List.set_cons_succ])
            have HBr := Aside0.mk (hbT (hbT HB6.out HB7.out) HB10.out)
            have hz10 := HBr.out.size
            have hz10b := HB10.out.size
            (refine hd_one (i := 7) (oi := ?oi232) ?hi232 (by kernel_rfl) (by decide) ?hr232; (case hi232 => (simp only [List.getElem?_toArray, List.getElem?_cons_succ, List.getElem?_cons_zero]; rfl)); intro K hK)
            go_simp
            have hIH := IH.out (rd_Tm t.f2 (k : Int)) A2 c2 (p ++ [(k : Int)]) A10 c10 sk rk (fun j => okt j ∧ j < w.heap.size) w10 (by have := HM.out; have := HSZ.out; have := HTm.out; omega) HMK.out (by have := HBD.out; have := HSZ.out; have := HTm.out; simp only [List.length_append, List.length_cons, List.length_nil]; omega) (Kd.F_below HF2.out HBr.out) HC2.out (fun j hj => ⟨(HOK.out j hj.1).1, by
                rcases HRo.out with h | ⟨q, h, hq⟩
                · rw [h]; exact (HOK.out j hj.1).2
                · rw [h]; intro e; injection e with e; have := hj.2; omega⟩) HC10.out.2.2 HC10.out.2.1 (fun a ha => by
                subst ha
                have h1 := HNB10.out a.block rfl
                exact ⟨by omega, fun e => by have := HLK.out _ e.symm; omega⟩) (HST.out.below _ _ _ _ HSk.out HBr.out)
            simp only [hbx, List.length_append, List.length_cons, List.length_nil, Nat.zero_add] at hIH
            go_at_call 135
            refine hIH.mono ?_
            clear hIH
            rintro e w11 ⟨r11, rfl, hS11, hFr11, hRo11⟩
            have HS11 := Aside0.mk hS11
            have HFr11 := Aside0.mk hFr11
            have HRo11 := Aside0.mk hRo11
            clear hS11
            go_simp
            (refine hK.out _ _ ?hS234 (fun hHeld => ?hr234); (case hS234 => exact (hFr11.block _ (blk_lt hHeld) (by omega) (fun e => by have := HLK.out _ e.symm; omega)).trans hHeld); clear hK K; try simp only [Act.put, List.setIfInBounds_toArray, List.set_cons_zero, List.set_cons_succ])
            clear hFr11 hRo11
            (refine hd_take (i := 8) (oi := ?oi235) (v := ?v235) ?hi235 (by kernel_rfl) (by kernel_rfl) (by kernel_rfl) (by kernel_rfl) (by decide) ?hq235 ?hw235 ?hy235 hHeld ?hr235; (case hi235 => (simp only [List.getElem?_toArray, List.getElem?_cons_succ, List.getElem?_cons_zero]; rfl)); (case hw235 => rfl); (case hy235 => (intro w hSw; go_simp; try with_reducible rfl)); (case hq235 => exact fun _ _ _ h => h); simp only [Act.put, List.setIfInBounds_toArray, List.set_cons_zero, List.set_cons_succ])
            (refine hd_done (by kernel_rfl) ?_; simp only [List.drop_succ_cons, List.drop_zero])
            clear hHeld
            have hz11 := HFr11.out.size
            have HFrw : Aside0 (Fr b w ro w11) := ⟨HFr.out.trans ((Fr.of_below HBr.out).trans HFr11.out (.inl rfl)) HRo.out⟩
            have HRow : Aside0 (RoNew w ro r11) := ⟨HRo.out.trans HRo11.out (by omega)⟩
            generalize hxx : walkT f sk (rd_Tm t.f2 (k : Int)) = wx at *
            obtain ⟨sx, bx⟩ := wx
            simp only at hbx
            subst hbx
            have HXX := Aside0.mk hxx
            clear hxx
            go_wp2
            go_roundw
            case rel => exact ⟨k + 1, sx, r11, by omega, by go_num, HTK, HS11, HFrw, HRow, ⟨(HFr11.out.block _ (by omega) (by omega) (fun e => HNe.out _ e.symm rfl)).trans ((HBr.out.block _ hlr).trans HTr.out)⟩, ⟨fun q hq => by
              rcases HRo11.out with h | ⟨q', h, hq'⟩
              · exact HNe.out q (h ▸ hq)
              · rw [hq] at h; injection h with h; omega⟩⟩
            case measure => simp [intOf]; omega
        | false =>
          refine hd_region 9 0 (fun w' => w'.heap[wr.heap.size]? = some (.cells #[.int .i64 (rd_Tm t.f2 (k : Int)).f0, .int .i64 (rd_Tm t.f2 (k : Int)).f1, .slice A2 (rd_Tm t.f2 (k : Int)).f2.length c2] 46 (0, 0))) (by kernel_rfl) rfl ?_ (fun W hB => (hB.block _ hl6).trans HS6.out)
          intro W7 hb7 hz7 hHeld
          have HB7 := Aside0.mk hb7
          have hl7 := blk_lt hHeld
          have hHeld7 := Aside0.mk hHeld
          have HP7 := Aside0.mk (Kd.C_below HPr.out (hbT HB6.out HB7.out))
          clear hb7 hz7
          (refine hd_take (i := 0) (oi := ?oi238) (v := ?v238) ?hi238 (by kernel_rfl) (by kernel_rfl) (by kernel_rfl) (by kernel_rfl) (by decide) ?hq238 ?hw238 ?hy238 hHeld ?hr238; (case hi238 => (simp only [List.getElem?_toArray, List.getElem?_cons_succ, List.getElem?_cons_zero]; rfl)); (case hw238 => rfl); (case hy238 => (intro w hSw; go_simp; try with_reducible rfl)); (case hq238 => exact fun _ _ _ h => h); simp only [Act.put, List.setIfInBounds_toArray, List.set_cons_zero, List.set_cons_succ])
          (refine hd_take (i := 1) (oi := ?oi240) (v := ?v240) ?hi240 (by kernel_rfl) (by kernel_rfl) (by kernel_rfl) (by kernel_rfl) (by decide) ?hq240 ?hw240 ?hy240 hHeld ?hr240; (case hi240 => (simp only [List.getElem?_toArray, List.getElem?_cons_succ, List.getElem?_cons_zero]; rfl)); (case hw240 => rfl); (case hy240 => (intro w hSw; go_simp; try with_reducible rfl)); (case hq240 => exact fun _ _ _ h => h); simp only [Act.put, List.setIfInBounds_toArray, List.set_cons_zero, List.set_cons_succ])
          (refine hd_take (i := 3) (oi := ?oi242) (v := ?v242) ?hi242 (by kernel_rfl) (by kernel_rfl) (by kernel_rfl) (by kernel_rfl) (by decide) ?hq242 ?hw242 ?hy242 hHeld ?hr242; (case hi242 => (simp only [List.getElem?_toArray, List.getElem?_cons_succ, List.getElem?_cons_zero]; rfl)); (case hw242 => rfl); (case hy242 => (intro w hSw; go_simp; try with_reducible rfl)); (case hq242 => exact fun _ _ _ h => h); simp only [Act.put, List.setIfInBounds_toArray, List.set_cons_zero, List.set_cons_succ])
          (refine hd_take (i := 6) (oi := ?oi244) (v := ?v244) ?hi244 (by kernel_rfl) (by kernel_rfl) (by kernel_rfl) (by kernel_rfl) (by decide) ?hq244 ?hw244 ?hy244 hHeld ?hr244; (case hi244 => (simp only [List.getElem?_toArray, List.getElem?_cons_succ, List.getElem?_cons_zero]; rfl)); (case hw244 => rfl); (case hy244 => (intro w hSw; go_simp; try with_reducible rfl)); (case hq244 => exact fun _ _ _ h => h); simp only [Act.put, List.setIfInBounds_toArray, List.set_cons_zero, List.set_cons_succ])
          refine hd_two (i := 2) (j := 4) (oi := ?oifalse) (oj := ?ojfalse) ?hifalse ?hjfalse (by kernel_rfl) (by decide) (by decide) ?hafalse ?hbfalse
          case hifalse => (simp only [List.getElem?_toArray, List.getElem?_cons_succ, List.getElem?_cons_zero]; rfl)
          case hjfalse => (simp only [List.getElem?_toArray, List.getElem?_cons_succ, List.getElem?_cons_zero]; rfl)
          case hafalse =>
            intro K hK
            go_simp
            go_at_call 153
            refine (cloneI_any p Ap cp W7 (by have := HBD.out; omega) HP7.out).mono ?_
            rintro e w8 ⟨v8, rfl, hN8, hb8⟩
            go_simp
            (refine hK.out _ _ ?hS248 (fun hHeld => ?hr248); (case hS248 => exact (hb8.block _ hl7).trans hHeld); clear hK K; try simp only [Act.put, List.setIfInBounds_toArray, List.set_cons_zero, List.set_cons_succ])
            have HB8 := Aside0.mk hb8
            have HN8 := Aside0.mk hN8
            clear hb8 hN8
            (refine hd_one (i := 4) (oi := ?oi249) ?hi249 (by kernel_rfl) (by decide) ?hr249; (case hi249 => (simp only [List.getElem?_toArray, List.getElem?_cons_succ, List.getElem?_cons_zero]; rfl)); intro K hK)
            go_simp
            (refine hK.out _ _ ?hS251 (fun hHeld => ?hr251); (case hS251 => exact blk_alloc hHeld _); clear hK K; try simp only [Act.put, List.setIfInBounds_toArray, List.set_cons_zero, List.set_cons_succ])
            (refine hd_one (i := 5) (oi := ?oi252) ?hi252 (by kernel_rfl) (by decide) ?hr252; (case hi252 => (simp only [List.getElem?_toArray, List.getElem?_cons_succ, List.getElem?_cons_zero]; rfl)); intro K hK)
            refine Kd.N_append_rows_step (Kd.int .i64) (w0 := w8.alloc (.cells #[.int .i64 (k : Int)] 3)) W7.heap.size rfl _ _ 22 3 _ 8 rfl Try.underlying22 infoI rfl (by decide) (by decide) v8 p [(k : Int)] (some ⟨w8.heap.size, 0, none⟩) 1 1 (fun _ => True) (fun j => False ∨ j = w8.heap.size) rfl rfl (Kd.N_below HN8.out (below_alloc (Below.refl _ _) _)) (F_int1 (heap_alloc_new _ _)) (fun j hj => ⟨trivial, fun e => by have := Kd.N_lt HN8.out _ e.symm; rcases hj with hj | hj; exact hj; omega⟩) (fun _ _ => trivial) (Below.refl _ _) (by have := HB8.out.size; simp; omega) (by have := HBD.out; omega) ?_
            intro v1 w10 hN10 hB10 hG10 hI10
            have HWA : Aside0 (W7.heap.size ≤ W7.heap.size) := ⟨Nat.le_refl _⟩
            have HB10 : Aside0 (Below W7.heap.size W7 w10) := ⟨(below_alloc HB8.out _).trans hB10⟩
            obtain ⟨A10, c10, rfl⟩ := Kd.N_slice hN10
            have HNB10 : Aside0 (∀ q, (Value.slice A10 (p ++ [(k : Int)]).length c10).ownBlock = some q → W7.heap.size ≤ q) := ⟨fun q hq => by have := Kd.N_base hN10 q hq; have := HWA.out; omega⟩
            have HC10 := Aside0.mk (Kd.N_reads' hN10)
            clear hN10 hB10 hG10 hI10
            (refine hK.out _ _ ?hS254 (fun hHeld => ?hr254); (case hS254 => exact (HB10.out.block _ hl7).trans hHeld7.out); clear hK K; try simp only [Act.put, List.setIfInBounds_toArray, List.set_cons_zero, List.set_cons_succ])
            have HBr := Aside0.mk (hbT (hbT HB6.out HB7.out) HB10.out)
            have hz10 := HBr.out.size
            have hz10b := HB10.out.size
            (refine hd_one (i := 7) (oi := ?oi255) ?hi255 (by kernel_rfl) (by decide) ?hr255; (case hi255 => (simp only [List.getElem?_toArray, List.getElem?_cons_succ, List.getElem?_cons_zero]; rfl)); intro K hK)
            go_simp
            have hIH := IH.out (rd_Tm t.f2 (k : Int)) A2 c2 (p ++ [(k : Int)]) A10 c10 sk rk (fun j => okt j ∧ j < w.heap.size) w10 (by have := HM.out; have := HSZ.out; have := HTm.out; omega) HMK.out (by have := HBD.out; have := HSZ.out; have := HTm.out; simp only [List.length_append, List.length_cons, List.length_nil]; omega) (Kd.F_below HF2.out HBr.out) HC2.out (fun j hj => ⟨(HOK.out j hj.1).1, by
                rcases HRo.out with h | ⟨q, h, hq⟩
                · rw [h]; exact (HOK.out j hj.1).2
                · rw [h]; intro e; injection e with e; have := hj.2; omega⟩) HC10.out.2.2 HC10.out.2.1 (fun a ha => by
                subst ha
                have h1 := HNB10.out a.block rfl
                exact ⟨by omega, fun e => by have := HLK.out _ e.symm; omega⟩) (HST.out.below _ _ _ _ HSk.out HBr.out)
            simp only [hbx, List.length_append, List.length_cons, List.length_nil, Nat.zero_add] at hIH
            go_at_call 135
            refine hIH.mono ?_
            clear hIH
            rintro e w11 ⟨r11, rfl, hS11, hFr11, hRo11⟩
            have HS11 := Aside0.mk hS11
            have HFr11 := Aside0.mk hFr11
            have HRo11 := Aside0.mk hRo11
            clear hS11
            go_simp
            (refine hK.out _ _ ?hS257 (fun hHeld => ?hr257); (case hS257 => exact (hFr11.block _ (blk_lt hHeld) (by omega) (fun e => by have := HLK.out _ e.symm; omega)).trans hHeld); clear hK K; try simp only [Act.put, List.setIfInBounds_toArray, List.set_cons_zero, List.set_cons_succ])
            clear hFr11 hRo11
            (refine hd_take (i := 8) (oi := ?oi258) (v := ?v258) ?hi258 (by kernel_rfl) (by kernel_rfl) (by kernel_rfl) (by kernel_rfl) (by decide) ?hq258 ?hw258 ?hy258 hHeld ?hr258; (case hi258 => (simp only [List.getElem?_toArray, List.getElem?_cons_succ, List.getElem?_cons_zero]; rfl)); (case hw258 => rfl); (case hy258 => (intro w hSw; go_simp; try with_reducible rfl)); (case hq258 => exact fun _ _ _ h => h); simp only [Act.put, List.setIfInBounds_toArray, List.set_cons_zero, List.set_cons_succ])
            (refine hd_done (by kernel_rfl) ?_; simp only [List.drop_succ_cons, List.drop_zero])
            clear hHeld
            have hz11 := HFr11.out.size
            have HFrw : Aside0 (Fr b w ro w11) := ⟨HFr.out.trans ((Fr.of_below HBr.out).trans HFr11.out (.inl rfl)) HRo.out⟩
            have HRow : Aside0 (RoNew w ro r11) := ⟨HRo.out.trans HRo11.out (by omega)⟩
            generalize hxx : walkT f sk (rd_Tm t.f2 (k : Int)) = wx at *
            obtain ⟨sx, bx⟩ := wx
            simp only at hbx
            subst hbx
            have HXX := Aside0.mk hxx
            clear hxx
            have HW2 : Aside0 (walkT f s t = (sx, false)) := ⟨by rw [HE.out]; exact walkL_bad f s1 t.f2 (k+1) sx HTK.out⟩
            go_wp2
            go_ret
            first | exact ⟨r11, by rw [HW2.out]; rfl, by rw [HW2.out]; exact HS11.out, HFrw.out, HRow.out⟩ | exact ⟨by rw [HW2.out]; rfl, r11, by rw [HW2.out]; exact HS11.out, HFrw.out, HRow.out⟩
          case hbfalse =>
            intro K hK
            go_simp
            (refine hK.out _ _ ?hS261 (fun hHeld => ?hr261); (case hS261 => exact blk_alloc hHeld _); clear hK K; try simp only [Act.put, List.setIfInBounds_toArray, List.set_cons_zero, List.set_cons_succ])
            have HBa := Aside0.mk (below_alloc (Below.refl W7.heap.size W7) (.cells #[.int .i64 (k : Int)] 3))
            have HGa := Aside0.mk (heap_alloc_new W7 (.cells #[.int .i64 (k : Int)] 3))
            have HZa : Aside0 ((W7.alloc (.cells #[.int .i64 (k : Int)] 3)).heap.size = W7.heap.size + 1) := ⟨by simp⟩
            generalize W7.alloc (.cells #[.int .i64 (k : Int)] 3) = Wa at *
            (refine hd_one (i := 2) (oi := ?oi262) ?hi262 (by kernel_rfl) (by decide) ?hr262; (case hi262 => (simp only [List.getElem?_toArray, List.getElem?_cons_succ, List.getElem?_cons_zero]; rfl)); intro K hK)
            go_simp
            go_at_call 153
            refine (cloneI_any p Ap cp Wa (by have := HBD.out; omega) (Kd.C_below HP7.out HBa.out)).mono ?_
            rintro e w8 ⟨v8, rfl, hN8, hb8⟩
            go_simp
            (refine hK.out _ _ ?hS264 (fun hHeld => ?hr264); (case hS264 => exact (hb8.block _ (blk_lt hHeld)).trans hHeld); clear hK K; try simp only [Act.put, List.setIfInBounds_toArray, List.set_cons_zero, List.set_cons_succ])
            have HB8 := Aside0.mk hb8
            have HN8 := Aside0.mk hN8
            clear hb8 hN8
            (refine hd_one (i := 5) (oi := ?oi265) ?hi265 (by kernel_rfl) (by decide) ?hr265; (case hi265 => (simp only [List.getElem?_toArray, List.getElem?_cons_succ, List.getElem?_cons_zero]; rfl)); intro K hK)
            refine Kd.N_append_rows_step (Kd.int .i64) (w0 := w8) Wa.heap.size rfl _ _ 22 3 _ 8 rfl Try.underlying22 infoI rfl (by decide) (by decide) v8 p [(k : Int)] (some ⟨W7.heap.size, 0, none⟩) 1 1 (fun _ => True) (fun j => False ∨ j = W7.heap.size) rfl rfl HN8.out (F_int1 ((HB8.out.block _ (blk_lt HGa.out)).trans HGa.out)) (fun j hj => ⟨trivial, fun e => by have := Kd.N_base HN8.out _ e.symm; have := HZa.out; rcases hj with hj | hj; exact hj; omega⟩) (fun _ _ => trivial) (Below.refl _ _) HB8.out.size (by have := HBD.out; omega) ?_
            intro v1 w10 hN10 hB10 hG10 hI10
            have HWA : Aside0 (W7.heap.size ≤ Wa.heap.size) := ⟨by have := HZa.out; omega⟩
            have HB10 : Aside0 (Below W7.heap.size W7 w10) := ⟨(hbT HBa.out HB8.out).trans (hbW hB10 (by have := HZa.out; omega))⟩
            obtain ⟨A10, c10, rfl⟩ := Kd.N_slice hN10
            have HNB10 : Aside0 (∀ q, (Value.slice A10 (p ++ [(k : Int)]).length c10).ownBlock = some q → W7.heap.size ≤ q) := ⟨fun q hq => by have := Kd.N_base hN10 q hq; have := HWA.out; omega⟩
            have HC10 := Aside0.mk (Kd.N_reads' hN10)
            clear hN10 hB10 hG10 hI10
            (refine hK.out _ _ ?hS267 (fun hHeld => ?hr267); (case hS267 => exact (HB10.out.block _ hl7).trans hHeld7.out); clear hK K; try simp only [Act.put, List.setIfInBounds_toArray, List.set_cons_zero, List.set_cons_succ])
            have HBr := Aside0.mk (hbT (hbT HB6.out HB7.out) HB10.out)
            have hz10 := HBr.out.size
            have hz10b := HB10.out.size
            (refine hd_one (i := 7) (oi := ?oi268) ?hi268 (by kernel_rfl) (by decide) ?hr268; (case hi268 => (simp only [List.getElem?_toArray, List.getElem?_cons_succ, List.getElem?_cons_zero]; rfl)); intro K hK)
            go_simp
            have hIH := IH.out (rd_Tm t.f2 (k : Int)) A2 c2 (p ++ [(k : Int)]) A10 c10 sk rk (fun j => okt j ∧ j < w.heap.size) w10 (by have := HM.out; have := HSZ.out; have := HTm.out; omega) HMK.out (by have := HBD.out; have := HSZ.out; have := HTm.out; simp only [List.length_append, List.length_cons, List.length_nil]; omega) (Kd.F_below HF2.out HBr.out) HC2.out (fun j hj => ⟨(HOK.out j hj.1).1, by
                rcases HRo.out with h | ⟨q, h, hq⟩
                · rw [h]; exact (HOK.out j hj.1).2
                · rw [h]; intro e; injection e with e; have := hj.2; omega⟩) HC10.out.2.2 HC10.out.2.1 (fun a ha => by
                subst ha
                have h1 := HNB10.out a.block rfl
                exact ⟨by omega, fun e => by have := HLK.out _ e.symm; omega⟩) (HST.out.below _ _ _ _ HSk.out HBr.out)
            simp only [hbx, List.length_append, List.length_cons, List.length_nil, Nat.zero_add] at hIH
            go_at_call 135
            refine hIH.mono ?_
            clear hIH
            rintro e w11 ⟨r11, rfl, hS11, hFr11, hRo11⟩
            have HS11 := Aside0.mk hS11
            have HFr11 := Aside0.mk hFr11
            have HRo11 := Aside0.mk hRo11
            clear hS11
            go_simp
            (refine hK.out _ _ ?hS270 (fun hHeld => ?hr270); (case hS270 => exact (hFr11.block _ (blk_lt hHeld) (by omega) (fun e => by have := HLK.out _ e.symm; omega)).trans hHeld); clear hK K; try simp only [Act.put, List.setIfInBounds_toArray, List.set_cons_zero, List.set_cons_succ])
            clear hFr11 hRo11
            (refine hd_take (i := 8) (oi := ?oi271) (v := ?v271) ?hi271 (by kernel_rfl) (by kernel_rfl) (by kernel_rfl) (by kernel_rfl) (by decide) ?hq271 ?hw271 ?hy271 hHeld ?hr271; (case hi271 => (simp only [List.getElem?_toArray, List.getElem?_cons_succ, List.getElem?_cons_zero]; rfl)); (case hw271 => rfl); (case hy271 => (intro w hSw; go_simp; try with_reducible rfl)); (case hq271 => exact fun _ _ _ h => h); simp only [Act.put, List.setIfInBounds_toArray, List.set_cons_zero, List.set_cons_succ])
            (refine hd_done (by kernel_rfl) ?_; simp only [List.drop_succ_cons, List.drop_zero])
            clear hHeld
            have hz11 := HFr11.out.size
            have HFrw : Aside0 (Fr b w ro w11) := ⟨HFr.out.trans ((Fr.of_below HBr.out).trans HFr11.out (.inl rfl)) HRo.out⟩
            have HRow : Aside0 (RoNew w ro r11) := ⟨HRo.out.trans HRo11.out (by omega)⟩
            generalize hxx : walkT f sk (rd_Tm t.f2 (k : Int)) = wx at *
            obtain ⟨sx, bx⟩ := wx
            simp only at hbx
            subst hbx
            have HXX := Aside0.mk hxx
            clear hxx
            have HW2 : Aside0 (walkT f s t = (sx, false)) := ⟨by rw [HE.out]; exact walkL_bad f s1 t.f2 (k+1) sx HTK.out⟩
            go_wp2
            go_ret
            first | exact ⟨r11, by rw [HW2.out]; rfl, by rw [HW2.out]; exact HS11.out, HFrw.out, HRow.out⟩ | exact ⟨by rw [HW2.out]; rfl, r11, by rw [HW2.out]; exact HS11.out, HFrw.out, HRow.out⟩
      · obtain rfl : k = t.f2.length := by omega
        have HW2 : Aside0 (walkT f s t = (sk, true)) := ⟨by have := HWL.out; rw [List.take_length] at this; rw [HE.out, this]⟩
        go_wp2
        go_ret
        exact ⟨rk, by rw [HW2.out]; rfl, by rw [HW2.out]; exact HSk.out, HFr.out, HRo.out⟩
end Go.Proofs.Ytcgnpmjkeifokaa
-- K21
/- term.Walk; term.Stands and its function. -/
namespace Go.Proofs.Ytcgnpmjkeifokaa
open Go.RowKit Go.Proofs.YtcgnpmjkeifokaaW.PrintWords
set_option linter.unusedVariables false
set_option linter.unusedSimpArgs false
set_option maxHeartbeats 4000000 in
set_option maxRecDepth 100000 in
theorem Walk_any {σ : Type} (g : Nat) (lb : Array Value) (f : σ → Tm → σ × Bool) (b : Nat) (St : σ → Option Nat → World → Prop) (eg : ∀ args w, (callFunc g args).run Try.prog w = .ok (.enter g args) w) (μ : σ → Nat) (M : Nat) (hμ : ∀ s x, μ (f s x).1 ≤ μ s + 1) (hd : WkC g lb f b St μ M) (hst : StOk b St)
    (t : Tm) (A : Option Addr) (c : Nat) (s : σ) (ro : Option Nat) (okt : Nat → Prop) (w : World) (hmu : μ s + szT t ≤ M) (hbd : szT t ≤ 1000000) (hF : Kd.F kTm w okt A t.f2.length t.f2) (hc : t.f2.length ≤ c) (hok : ∀ k, okt k → k ≠ b ∧ some k ≠ ro) (hS : St s ro w) :
    Calls Try.prog 118 #[.agg #[.int .i64 t.f0, .int .i64 t.f1, .slice A t.f2.length c], .func (.func g) #[] lb] w fun e w' => ∃ ro', e = .returned (.bool (walkT f s t).2) ∧ St (walkT f s t).1 ro' w' ∧ Fr b w ro w' ∧ RoNew w ro ro' := by
  have HB := Aside0.mk (below_alloc (Below.refl w.heap.size w) (.cells #[.int .i64 t.f0, .int .i64 t.f1, .slice A t.f2.length c] 46))
  have g0 := newAt (w := w) (o := .cells #[.int .i64 t.f0, .int .i64 t.f1, .slice A t.f2.length c] 46) rfl
  have hWz : (w.alloc (.cells #[.int .i64 t.f0, .int .i64 t.f1, .slice A t.f2.length c] 46)).heap.size = w.heap.size + 1 := by simp
  have HW := Aside0.mk (walk_any g lb f b St eg μ M hμ hd hst (szT t) t A c [] none 0 s ro (fun k => okt k ∧ k < w.heap.size) (w.alloc (.cells #[.int .i64 t.f0, .int .i64 t.f1, .slice A t.f2.length c] 46)) (Nat.le_refl _) hmu (by simpa using hbd) (Kd.F_below (Kd.F_bound hF) HB.out) hc (fun k hk => hok k hk.1) (Kd.C_nil _ _) (Nat.le_refl _) (fun a h => by cases h) (hst.below _ _ _ _ hS HB.out))
  clear hF hok hd hst hS hmu hμ
  go_enter Try.func118, Try.ntmps118
  go_upto_region 1 with (fail)
  generalize w.alloc (.cells #[.int .i64 t.f0, .int .i64 t.f1, .slice A t.f2.length c] 46) = W at *
  have c0 := (blk_cell g0 0).trans rfl
  have c1 := (blk_cell g0 1).trans rfl
  have c2 := (blk_cell g0 2).trans rfl
  clear g0
  simp only [List.length_nil] at HW
  go_wp2_with (go_at_call 135; refine HW.out.mono ?_; rintro e w2 ⟨ro2, rfl, hS2, hFr2, hRo2⟩; have HS2 := Aside0.mk hS2; have HFr2 := Aside0.mk hFr2; have HRo2 := Aside0.mk hRo2; clear hS2 hFr2 hRo2)
  go_ret
  exact ⟨ro2, rfl, HS2.out, (Fr.of_below HB.out).trans HFr2.out (.inl rfl), by
    rcases HRo2.out with h | ⟨k, h, hk⟩
    · exact .inl h
    · exact .inr ⟨k, h, by omega⟩⟩
/-! ### the function of Stands -/
def stF (s : List Int) (x : Tm) : List Int × Bool := (if 0 < x.f0 ∧ hasB s x.f0 = false then s ++ [x.f0] else s, true)
def StS (b : Nat) (s : List Int) (ro : Option Nat) (W : World) : Prop := ∃ v, W.heap[b]? = some (.cells #[v] 22 (0, 0)) ∧ Kd.N (Kd.int .i64) 3 W (b + 1) (fun k => b < k) v s ∧ v.ownBlock = ro
end Go.Proofs.Ytcgnpmjkeifokaa
-- K22
/- The function of term.Stands. -/
namespace Go.Proofs.Ytcgnpmjkeifokaa
open Go.RowKit Go.Proofs.YtcgnpmjkeifokaaW.PrintWords
set_option linter.unusedVariables false
set_option linter.unusedSimpArgs false
end Go.Proofs.Ytcgnpmjkeifokaa
-- K23
/- term.Stands. -/
namespace Go.Proofs.Ytcgnpmjkeifokaa
open Go.RowKit Go.Proofs.YtcgnpmjkeifokaaW.PrintWords
set_option linter.unusedVariables false
set_option linter.unusedSimpArgs false
/-- The variables of terms, in the order in which they are first met from the front. -/
def stL : List Int → List Tm → List Int
  | s, [] => s
  | s, t :: ts => stL (walkT stF s t).1 ts
end Go.Proofs.Ytcgnpmjkeifokaa
-- K24
/- slices.insertionSortOrdered of one number. -/
namespace Go.Proofs.Ytcgnpmjkeifokaa
open Go.RowKit Go.Proofs.YtcgnpmjkeifokaaW.PrintWords
set_option linter.unusedVariables false
set_option linter.unusedSimpArgs false
end Go.Proofs.Ytcgnpmjkeifokaa
-- K25
/- math/bits.Len of one. -/
namespace Go.Proofs.Ytcgnpmjkeifokaa
open Go.RowKit Go.Proofs.YtcgnpmjkeifokaaW.PrintWords
set_option linter.unusedVariables false
end Go.Proofs.Ytcgnpmjkeifokaa
-- K26
/- term.Vars of a term with one variable. -/
namespace Go.Proofs.Ytcgnpmjkeifokaa
open Go.RowKit Go.Proofs.YtcgnpmjkeifokaaW.PrintWords
set_option linter.unusedVariables false
set_option linter.unusedSimpArgs false
end Go.Proofs.Ytcgnpmjkeifokaa
-- K27
/- term.Size of a term that is right. -/
namespace Go.Proofs.Ytcgnpmjkeifokaa
open Go.RowKit Go.Proofs.YtcgnpmjkeifokaaW.PrintWords
set_option linter.unusedVariables false
set_option linter.unusedSimpArgs false
end Go.Proofs.Ytcgnpmjkeifokaa
-- K28
/- superposelaw.termBegun. -/
namespace Go.Proofs.Ytcgnpmjkeifokaa
open Go.RowKit Go.Proofs.YtcgnpmjkeifokaaW.PrintWords
set_option linter.unusedVariables false
set_option linter.unusedSimpArgs false
def tS : Tm := ⟨0, 1, [⟨2, 0, []⟩]⟩
def uS : Tm := ⟨0, 0, []⟩
def rS : Tm := ⟨0, 1, [⟨0, 0, []⟩]⟩
/-- The cells of a term's own block. -/
theorem tm_cells {W : World} {g e : Nat} {a b : Int} {A : Option Addr} {n c : Nat} (h : W.heap[g]? = some (.cells #[.int .i64 a, .int .i64 b, .slice A n c] e (0, 0))) : W.cell? ⟨g, 0, none⟩ = some (.int .i64 a) ∧ W.cell? ⟨g, 1, none⟩ = some (.int .i64 b) ∧ W.cell? ⟨g, 2, none⟩ = some (.slice A n c) :=
  ⟨(blk_cell h 0).trans rfl, (blk_cell h 1).trans rfl, (blk_cell h 2).trans rfl⟩
theorem F_va {W : World} {gb : Nat} (n : Int) (hb : W.heap[gb]? = some (.cells #[.int .i64 n, .int .i64 0, .slice none 0 0] 46 (0, 0))) : Kd.F kTm W (fun k => k = gb) (some ⟨gb, 0, none⟩) 1 [⟨n, 0, []⟩] :=
  Kd.F_mono (F_lit1 (t := ⟨n, 0, []⟩) (ok := fun _ => False) hb (F_none _ _) (Nat.le_refl _)) (fun _ h => h.elim False.elim id)
end Go.Proofs.Ytcgnpmjkeifokaa
-- K29
/- superposelaw.termBegun. -/
namespace Go.Proofs.Ytcgnpmjkeifokaa
open Go.RowKit Go.Proofs.YtcgnpmjkeifokaaW.PrintWords
set_option linter.unusedVariables false
set_option linter.unusedSimpArgs false
end Go.Proofs.Ytcgnpmjkeifokaa
-- KRow
/- From what a claim's row says of an argument (DataW.Trod) to the kinds of this program. -/
namespace Go.Proofs.Ytcgnpmjkeifokaa
open Go.RowKit Go.WideShapes Go.ChangeShapes Go.Proofs.YtcgnpmjkeifokaaW.PrintWords
set_option linter.unusedVariables false
set_option linter.unusedSimpArgs false
theorem sg_cell {W : World} {g e : Nat} {A : Option Addr} {n c : Nat} (h : W.heap[g]? = some (.cells #[.slice A n c] e (0, 0))) : W.cell? ⟨g, 0, none⟩ = some (.slice A n c) := (blk_cell h 0).trans rfl
section
variable {H : Type} {enc : TypeId × Value → H} {P : Program} {w : World} {spare : Nat → Bool} {held : Bool}
/-- What is read with less fuel than n is read by the kind. -/
def Op {α : Type} (enc : TypeId × Value → H) (P : Program) (w : World) (spare : Nat → Bool) (held : Bool) (n : Nat) (d : Kd α) (t : TypeId) : Prop :=
  ∀ fuel cs x, fuel < n → DataW.trod enc P w 0 spare held fuel t cs = some x → ∃ y, d.K w y cs
theorem Op.mono {α : Type} {n m : Nat} {d : Kd α} {t : TypeId} (h : Op enc P w spare held n d t) (hm : m ≤ n) : Op enc P w spare held m d t := fun fuel cs x hf => h fuel cs x (by omega)
theorem op_int {k : IntKind} {t : TypeId} {n : Nat} (ht : P.underlying t = some (.int k)) : Op enc P w spare held n (Kd.int k) t := fun fuel cs x _ h => by
  obtain ⟨z, rfl, _⟩ := DataW.trod_int ht h
  exact ⟨z, rfl⟩
theorem op_slice {α : Type} {d : Kd α} {t e : TypeId} {n : Nat} (ht : P.underlying t = some (.slice e)) (hs : d.sz = P.cellsOf e) (h : Op enc P w spare held n d e) : Op enc P w spare held (n + 1) (Kd.slice e d) t := by
  intro fuel cs x hf hx
  rcases DataW.trod_slice ht hx with ⟨rfl, _⟩ | ⟨a, len, cap, elems, rest, m, rfl, rfl, rfl, _, hl, hm, hlen, hel, hsp, hns⟩
  · exact ⟨[], none, 0, rfl, Nat.le_refl _, Kd.C_nil d w⟩
  · have hall : ∀ i, i < len → ∃ y c, d.K w y c ∧ w.cells? 0 (a.add (i * P.cellsOf e)) (P.cellsOf e) = some c := fun i hi => by
      have h1 := hel i hi
      rw [List.getElem?_eq_getElem (by omega)] at h1
      obtain ⟨c, h2, h3⟩ := Option.bind_eq_some_iff.1 h1
      obtain ⟨y, hy⟩ := h m c _ (by omega) h3
      exact ⟨y, c, hy, h2⟩
    obtain ⟨xs, hxl, hxs⟩ : ∃ xs : List α, xs.length = len ∧ ∀ j p, xs[j]? = some p → ∃ c, d.K w p c ∧ w.cells? 0 (a.add (j * P.cellsOf e)) (P.cellsOf e) = some c := by
      clear hel hlen hx hl hsp hns
      induction len with
      | zero => exact ⟨[], rfl, fun j p hj => by simp at hj⟩
      | succ k ih =>
        obtain ⟨xs, h1, h2⟩ := ih (fun i hi => hall i (by omega))
        obtain ⟨y, c, h3, h4⟩ := hall k (by omega)
        refine ⟨xs ++ [y], by simp [h1], fun j p hj => ?_⟩
        rcases Nat.lt_or_ge j k with hj2 | hj2
        · rw [List.getElem?_append_left (by omega)] at hj; exact h2 j p hj
        · have : j = k := by
            have := (List.getElem?_eq_some_iff.1 hj).1
            simp [h1] at this; omega
          subst this
          rw [List.getElem?_append_right (by omega), h1] at hj
          simp at hj; subst hj
          exact ⟨c, h3, h4⟩
    refine ⟨xs, some a, cap, by rw [hxl], by omega, ⟨rfl, by have hmx : maxLen ≤ 9223372036854775807 := (by decide); omega, fun _ => ⟨a, rfl, fun j p hj => ?_⟩⟩⟩
    obtain ⟨c, h1, h2⟩ := hxs j p hj
    refine ⟨c, d.K_len h1, h1, fun i u hu => ?_⟩
    obtain ⟨_, h4, h5⟩ := World.cells?_some h2
    have hi : i < P.cellsOf e := by have := (List.getElem?_eq_some_iff.1 hu).1; omega
    have h6 := h5 i hi
    rw [hs, ← Addr.add_add]
    rw [h6, hu]
theorem list1 {α : Type} {cs : List α} (h : cs.length = 1) : ∃ a, cs = [a] := by
  match cs, h with
  | [a], _ => exact ⟨a, rfl⟩
theorem list3 {α : Type} {cs : List α} (h : cs.length = 3) : ∃ a b c, cs = [a, b, c] := by
  match cs, h with
  | [a, b, c], _ => exact ⟨a, b, c, rfl⟩
theorem wide_struct {P : Program} {w : World} {r : Reach} {base : Nat} {t : TypeId} {fs : Array Field} {v : Value} (ht : P.underlying t = some (.struct fs)) (h : Value.okWide P w r base t v) : ∃ l : List Value, v = .agg l.toArray := by
  obtain ⟨⟨cs⟩, h, _⟩ := okWide_struct ht h
  exact ⟨cs, h⟩
/-- A field of a struct. -/
theorem op_fld {α : Type} {d : Kd α} {t : TypeId} {n m : Nat} {cs c : List Value} {o : Option (DataW H × List MemPlace)} {y : DataW H × List MemPlace} (h : Op enc P w spare held n d t) (hm : m < n) (hx : DataW.trod enc P w 0 spare held m t cs = o) (ho : o = some y) (hc : cs = c) : ∃ z, d.K w z c := by
  subst hc
  exact h m cs y hm (hx.trans ho)
end
section
variable {H : Type} {enc : TypeId × Value → H} {w : World} {spare : Nat → Bool} {held : Bool}
theorem c_int : Try.prog.cellsOf 3 = 1 := by kernel_rfl
theorem c_ints : Try.prog.cellsOf 22 = 1 := by kernel_rfl
theorem c_tms : Try.prog.cellsOf 44 = 1 := by kernel_rfl
theorem c_tm : Try.prog.cellsOf 46 = 3 := by kernel_rfl
theorem c_sg : Try.prog.cellsOf 24 = 1 := by kernel_rfl
theorem op_tm : ∀ n, Op enc Try.prog w spare held n kTm 46 := by
  intro n
  induction n with
  | zero => intro fuel cs x hf; omega
  | succ n ih =>
    intro fuel cs x hf hx
    obtain ⟨xs, m, rfl, _, hl, hlen, hfs⟩ := DataW.trod_struct Try.underlying46 hx
    have hl3 : cs.length = 3 := hl.trans c_tm
    have hx3 : xs.length = 3 := hlen
    obtain ⟨c0, c1, c2, rfl⟩ := list3 hl3
    have h0 : DataW.trod enc Try.prog w 0 spare held m 3 ((([c0, c1, c2] : List Value).drop 0).take (Try.prog.cellsOf 3)) = xs[0]? := hfs 0 _ rfl
    have h1 : DataW.trod enc Try.prog w 0 spare held m 3 ((([c0, c1, c2] : List Value).drop 1).take (Try.prog.cellsOf 3)) = xs[1]? := hfs 1 _ rfl
    have h2 : DataW.trod enc Try.prog w 0 spare held m 44 ((([c0, c1, c2] : List Value).drop 2).take (Try.prog.cellsOf 44)) = xs[2]? := hfs 2 _ rfl
    rw [c_int] at h0 h1
    rw [c_tms] at h2
    obtain ⟨z0, e0⟩ := op_fld (op_int (n := m + 1) Try.underlying3) (by omega) h0 (List.getElem?_eq_getElem (by omega)) (c := [c0]) rfl
    obtain ⟨z1, e1⟩ := op_fld (op_int (n := m + 1) Try.underlying3) (by omega) h1 (List.getElem?_eq_getElem (by omega)) (c := [c1]) rfl
    obtain ⟨z2, A2, k2, e2, l2, g2⟩ := op_fld (op_slice (n := n) Try.underlying44 c_tm.symm ih) (m := m) (by omega) h2 (List.getElem?_eq_getElem (by omega)) (c := [c2]) rfl
    have e0' : [c0] = [.int .i64 z0] := e0
    have e1' : [c1] = [.int .i64 z1] := e1
    injection e0' with e0' _
    injection e1' with e1' _
    injection e2 with e2 _
    subst e0' e1' e2
    exact ⟨⟨z0, z1, z2⟩, kTm_mk w ⟨z0, z1, z2⟩ l2 g2⟩
theorem op_sg (n : Nat) : Op enc Try.prog w spare held n (Kd.slice 3 (Kd.int .i64)) 24 := by
  intro fuel cs x hf hx
  obtain ⟨xs, m, rfl, _, hl, hlen, hfs⟩ := DataW.trod_struct Try.underlying24 hx
  have hl3 : cs.length = 1 := hl.trans c_sg
  have hx3 : xs.length = 1 := hlen
  obtain ⟨c0, rfl⟩ := list1 hl3
  have h0 : DataW.trod enc Try.prog w 0 spare held m 22 ((([c0] : List Value).drop 0).take (Try.prog.cellsOf 22)) = xs[0]? := hfs 0 _ rfl
  rw [c_ints] at h0
  exact op_fld (op_slice (n := m + 1) Try.underlying22 c_int.symm (op_int Try.underlying3)) (by omega) h0 (List.getElem?_eq_getElem (by omega)) (c := [c0]) rfl
/-! ### arguments -/
variable {W : World} {base : Nat} {v : Value} {d : DataW H} {p : List MemPlace} {sp : Nat → Bool}
set_option maxRecDepth 100000 in
theorem arg_tm (hval : Value.okWide Try.prog W .any base 46 v) (h : DataW.Trod enc Try.prog W 0 sp held 46 v d p) : ∃ (x : Tm) (A : Option Addr) (c : Nat), v = .agg #[.int .i64 x.f0, .int .i64 x.f1, .slice A x.f2.length c] ∧ x.f2.length ≤ c ∧ Kd.F kTm W (fun _ => True) A x.f2.length x.f2 := by
  obtain ⟨cs, rfl⟩ := wide_struct Try.underlying46 hval
  obtain ⟨fuel, hf⟩ := h
  obtain ⟨x, hx⟩ := op_tm (fuel + 1) fuel _ _ (Nat.lt_succ_self _) hf
  obtain ⟨A, c, e, hl, hC⟩ := kTm_open hx
  have e' : cs = [.int .i64 x.f0, .int .i64 x.f1, .slice A x.f2.length c] := e
  subst e'
  exact ⟨x, A, c, rfl, hl, Kd.F_mono (Kd.C_F kTm_heap hC) (fun _ _ => trivial)⟩
set_option maxRecDepth 100000 in
theorem arg_sg (hval : Value.okWide Try.prog W .any base 24 v) (h : DataW.Trod enc Try.prog W 0 sp held 24 v d p) : ∃ (g : List Int) (A : Option Addr) (c : Nat), v = .agg #[.slice A g.length c] ∧ g.length ≤ c ∧ Kd.C (Kd.int .i64) W A g.length g := by
  obtain ⟨cs, rfl⟩ := wide_struct Try.underlying24 hval
  obtain ⟨fuel, hf⟩ := h
  obtain ⟨x, A, c, e, hl, hC⟩ := op_sg (fuel + 1) fuel _ _ (Nat.lt_succ_self _) hf
  have e' : cs = [.slice A x.length c] := e
  subst e'
  exact ⟨x, A, c, rfl, hl, hC⟩
end
end Go.Proofs.Ytcgnpmjkeifokaa
-- KMap
/- Maps keyed by whole numbers, told as the list of their entries in the order in which they came. -/
namespace Go.Proofs.Ytcgnpmjkeifokaa
open Go.RowKit Go.Proofs.YtcgnpmjkeifokaaW.PrintWords
set_option linter.unusedVariables false
set_option linter.unusedSimpArgs false
set_option linter.unusedSectionVars false
section
variable {κ α : Type} [DecidableEq κ]
def mget : List (κ × α) → κ → Option α
  | [], _ => none
  | p :: m, k => if p.1 = k then some p.2 else mget m k
def mset : List (κ × α) → κ → α → List (κ × α)
  | [], k, x => [(k, x)]
  | p :: m, k, x => if p.1 = k then (k, x) :: m else p :: mset m k x
theorem mset_new {m : List (κ × α)} {k : κ} (h : mget m k = none) (x : α) : mset m k x = m ++ [(k, x)] := by
  induction m with
  | nil => rfl
  | cons p m ih =>
    rw [mget] at h
    by_cases hk : p.1 = k
    · rw [if_pos hk] at h; cases h
    · rw [if_neg hk] at h; rw [mset, if_neg hk, ih h]; rfl
theorem mget_set {m : List (κ × α)} {k k' : κ} {x : α} : mget (mset m k x) k' = if k = k' then some x else mget m k' := by
  induction m with
  | nil => rw [mset, mget, mget]; rfl
  | cons p m ih =>
    rw [mset]
    by_cases hk : p.1 = k
    · rw [if_pos hk, mget, mget, hk]
      by_cases h2 : k = k'
      · simp [h2]
      · simp [h2]
    · rw [if_neg hk, mget, mget, ih]
      by_cases h2 : p.1 = k'
      · rw [if_pos h2, if_pos h2, if_neg (fun e => hk (h2.trans e.symm))]
      · rw [if_neg h2, if_neg h2]
/-- Entries and what they are told as. -/
def Ents (ke : κ → Value) (vr : α → Value → Prop) : List MapEntry → List (κ × α) → Prop
  | [], [] => True
  | e :: es, p :: m => e.key = ke p.1 ∧ vr p.2 e.val ∧ Ents ke vr es m
  | _, _ => False
theorem Ents.imp {ke : κ → Value} {vr vr' : α → Value → Prop} (h : ∀ x v, vr x v → vr' x v) : ∀ {es : List MapEntry} {m : List (κ × α)}, Ents ke vr es m → Ents ke vr' es m
  | [], [], _ => trivial
  | _ :: _, _ :: _, hh => ⟨hh.1, h _ _ hh.2.1, Ents.imp h hh.2.2⟩
  | [], _ :: _, hh => hh.elim
  | _ :: _, [], hh => hh.elim
theorem Ents.len {ke : κ → Value} {vr : α → Value → Prop} : ∀ {es : List MapEntry} {m : List (κ × α)}, Ents ke vr es m → es.length = m.length
  | [], [], _ => rfl
  | _ :: _, _ :: _, hh => by simp [Ents.len hh.2.2]
  | [], _ :: _, hh => hh.elim
  | _ :: _, [], hh => hh.elim
theorem Ents.push {ke : κ → Value} {vr : α → Value → Prop} {e : MapEntry} {k : κ} {x : α} (hk : e.key = ke k) (hv : vr x e.val) : ∀ {es : List MapEntry} {m : List (κ × α)}, Ents ke vr es m → Ents ke vr (es ++ [e]) (m ++ [(k, x)])
  | [], [], _ => ⟨hk, hv, trivial⟩
  | _ :: _, _ :: _, hh => ⟨hh.1, hh.2.1, Ents.push hk hv hh.2.2⟩
  | [], _ :: _, hh => hh.elim
  | _ :: _, [], hh => hh.elim
theorem Ents.find {d : TypeDesc} {ke : κ → Value} {vr : α → Value → Prop} (hs : ∀ a b, Instr.sameNow d (ke a) (ke b) = some (decide (a = b))) (k : κ) : ∀ {es : List MapEntry} {m : List (κ × α)} (i : Nat), Ents ke vr es m →
    (mget m k = none ∧ Instr.findNow d (ke k) es i = some none) ∨
    ∃ j e x, mget m k = some x ∧ Instr.findNow d (ke k) es i = some (some (i + j, e.val)) ∧ es[j]? = some e ∧ e.key = ke k ∧ vr x e.val ∧ ∀ y v, vr y v → Ents ke vr (es.modify j fun e => { e with key := ke k, val := v }) (mset m k y)
  | [], [], i, _ => .inl ⟨rfl, rfl⟩
  | e :: es, p :: m, i, hh => by
    by_cases hk : p.1 = k
    · refine .inr ⟨0, e, p.2, by rw [mget, if_pos hk], ?_, rfl, by rw [hh.1, hk], hh.2.1, fun y v hv => ?_⟩
      · rw [Instr.findNow, hh.1, hs]; simp [hk]
      · rw [mset, if_pos hk]; exact ⟨rfl, hv, hh.2.2⟩
    · have hf : Instr.findNow d (ke k) (e :: es) i = Instr.findNow d (ke k) es (i + 1) := by
        rw [Instr.findNow, hh.1, hs]; simp [Ne.symm hk]
      rcases Ents.find hs k (i + 1) hh.2.2 with ⟨h1, h2⟩ | ⟨j, e2, x, h1, h2, h3, h4, h5, h6⟩
      · exact .inl ⟨by rw [mget, if_neg hk, h1], by rw [hf, h2]⟩
      · refine .inr ⟨j + 1, e2, x, by rw [mget, if_neg hk, h1], by rw [hf, h2]; simp; omega, h3, h4, h5, fun y v hv => ?_⟩
        rw [mset, if_neg hk]
        exact ⟨hh.1, hh.2.1, h6 y v hv⟩
  | [], _ :: _, _, hh => hh.elim
  | _ :: _, [], _, hh => hh.elim
/-- Block b is a map. -/
def MapR (W : World) (b : Nat) (ke : κ → Value) (vr : α → Value → Prop) (m : List (κ × α)) : Prop := ∃ es clock, W.heap[b]? = some (.map es clock) ∧ Ents ke vr es.toList m
variable {P : Program} {w : World} {b : Nat} {ke : κ → Value} {vr : α → Value → Prop} {m : List (κ × α)} {t kt et : TypeId} {d : TypeDesc}
theorem MapR.lt (h : MapR w b ke vr m) : b < w.heap.size := by
  obtain ⟨es, clock, hb, _⟩ := h
  exact (Array.getElem?_eq_some_iff.1 hb).1
theorem MapR.step {w' : World} {vr' : α → Value → Prop} (h : MapR w b ke vr m) (hb : w'.heap[b]? = w.heap[b]?) (hv : ∀ x v, vr x v → vr' x v) : MapR w' b ke vr' m := by
  obtain ⟨es, clock, h1, h2⟩ := h
  exact ⟨es, clock, hb.trans h1, h2.imp hv⟩
theorem MapR.made (w : World) : MapR (w.alloc (.map #[] 0)) w.heap.size ke vr ([] : List (κ × α)) := ⟨#[], 0, heap_alloc_new _ _, trivial⟩
theorem MapR.look (h : MapR w b ke vr m) (hs : ∀ a b, Instr.sameNow d (ke a) (ke b) = some (decide (a = b))) (hik : ∀ a, MapKept.IsKey d (ke a)) (ht : P.underlying t = some (.map kt et)) (hk : P.underlying kt = some d) {z : Value} (hz : (zeroValue et).run P w = .ok z w) (k : κ) :
    ∃ v, (Instr.lookup t (.map (some b)) (ke k) true).run P w = .ok (.tuple #[v, .bool (mget m k).isSome]) w ∧ (mget m k = none → v = z) ∧ ∀ x, mget m k = some x → vr x v := by
  obtain ⟨es, clock, hb, hE⟩ := h
  rcases hE.find hs k 0 with ⟨h1, h2⟩ | ⟨j, e, x, h1, h2, h3, h4, h5, _⟩
  · refine ⟨z, ?_, fun _ => rfl, fun x hx => by rw [h1] at hx; cases hx⟩
    simp [Instr.lookup, run_underlying ht, MapKept.run_getObj_map hb, MapKept.run_checkKey hk (hik k), MapKept.run_findKey hk h2, hz, h1, Result.andThen]
  · refine ⟨e.val, ?_, fun hx => (by rw [h1] at hx; cases hx), fun y hy => by rw [h1] at hy; injection hy with hy; subst hy; exact h5⟩
    simp [Instr.lookup, run_underlying ht, MapKept.run_getObj_map hb, MapKept.run_checkKey hk (hik k), MapKept.run_findKey hk h2, h1, Result.andThen]
theorem MapR.look1 (h : MapR w b ke vr m) (hs : ∀ a b, Instr.sameNow d (ke a) (ke b) = some (decide (a = b))) (hik : ∀ a, MapKept.IsKey d (ke a)) (ht : P.underlying t = some (.map kt et)) (hk : P.underlying kt = some d) {z : Value} (hz : (zeroValue et).run P w = .ok z w) (k : κ) :
    ∃ v, (Instr.lookup t (.map (some b)) (ke k) false).run P w = .ok v w ∧ (mget m k = none → v = z) ∧ ∀ x, mget m k = some x → vr x v := by
  obtain ⟨es, clock, hb, hE⟩ := h
  rcases hE.find hs k 0 with ⟨h1, h2⟩ | ⟨j, e, x, h1, h2, h3, h4, h5, _⟩
  · refine ⟨z, ?_, fun _ => rfl, fun x hx => by rw [h1] at hx; cases hx⟩
    simp [Instr.lookup, run_underlying ht, MapKept.run_getObj_map hb, MapKept.run_checkKey hk (hik k), MapKept.run_findKey hk h2, hz, h1, Result.andThen]
  · refine ⟨e.val, ?_, fun hx => (by rw [h1] at hx; cases hx), fun y hy => by rw [h1] at hy; injection hy with hy; subst hy; exact h5⟩
    simp [Instr.lookup, run_underlying ht, MapKept.run_getObj_map hb, MapKept.run_checkKey hk (hik k), MapKept.run_findKey hk h2, h1, Result.andThen]
theorem MapR.upd (h : MapR w b ke vr m) (hs : ∀ a b, Instr.sameNow d (ke a) (ke b) = some (decide (a = b))) (hik : ∀ a, MapKept.IsKey d (ke a)) (ht : P.underlying t = some (.map kt et)) (hk : P.underlying kt = some d) (k : κ) (x : α) {v : Value} (hv : vr x v) :
    ∃ w', (Instr.mapUpdate t (.map (some b)) (ke k) v).run P w = .ok () w' ∧ MapR w' b ke vr (mset m k x) ∧ w.grownBy w' (some b) ∧ w'.heap.size = w.heap.size := by
  obtain ⟨es, clock, hb, hE⟩ := h
  have hgr : ∀ o : Obj, w.grownBy { w with heap := w.heap.setIfInBounds b o } (some b) := fun o => ⟨rfl, rfl, rfl, by simp, fun i hi hne => (MapKept.heap_set (o' := o) hb).2 i (fun e => hne (by rw [e]))⟩
  rcases hE.find hs k 0 with ⟨h1, h2⟩ | ⟨j, e, x0, h1, h2, h3, h4, h5, h6⟩
  · refine ⟨{ w with heap := w.heap.setIfInBounds b (.map (es.push { key := ke k, val := v, born := clock }) (clock + 1)) }, ?_, ⟨_, _, (MapKept.heap_set hb).1, ?_⟩, hgr _, by simp⟩
    · simp [Instr.mapUpdate, run_underlying ht, MapKept.run_getObj_map hb, MapKept.run_checkKey hk (hik k), MapKept.run_findKey hk h2, MapKept.run_setObj_map _ hb, Result.andThen]
    · rw [mset_new h1, Array.toList_push]
      exact Ents.push (e := { key := ke k, val := v, born := clock }) (k := k) (x := x) rfl hv hE
  · have he : es[0 + j]? = some e := by rw [Nat.zero_add, ← Array.getElem?_toList]; exact h3
    refine ⟨{ w with heap := w.heap.setIfInBounds b (.map (es.modify (0 + j) fun e => { e with key := ke k, val := v }) clock) }, ?_, ⟨_, _, (MapKept.heap_set hb).1, ?_⟩, hgr _, by simp⟩
    · simp only [Nat.zero_add] at he h2
      simp [Instr.mapUpdate, run_underlying ht, MapKept.run_getObj_map hb, MapKept.run_checkKey hk (hik k), MapKept.run_findKey hk h2, MapKept.run_setObj_map _ hb, Result.andThen, he, h4, MapKept.run_keyThatStays (hik k)]
    · rw [Nat.zero_add, Array.toList_modify]
      exact h6 x v hv
end
/-! ### keys that are whole numbers -/
def keI (k : Int) : Value := .int .i64 k
theorem sameI (a b : Int) : Instr.sameNow (.int .i64) (keI a) (keI b) = some (decide (a = b)) := by
  unfold keI Instr.sameNow
  simp
  rw [Bool.eq_iff_iff]; simp
theorem isI (a : Int) : MapKept.IsKey (.int .i64) (keI a) := rfl
/-! ### elements that are terms -/
def vrT (W : World) (ok : Nat → Prop) (t : Tm) (v : Value) : Prop := ∃ A c, v = .agg #[.int .i64 t.f0, .int .i64 t.f1, .slice A t.f2.length c] ∧ t.f2.length ≤ c ∧ Kd.F kTm W ok A t.f2.length t.f2
def MapT (W : World) (b : Nat) (ok : Nat → Prop) (m : List (Int × Tm)) : Prop := MapR W b keI (vrT W ok) m
theorem vrT.step {W W' : World} {ok : Nat → Prop} {t : Tm} {v : Value} (h : vrT W ok t v) (hm : ∀ k, ok k → k < W.heap.size → W'.heap[k]? = W.heap[k]?) : vrT W' ok t v := by
  obtain ⟨A, c, h1, h2, h3⟩ := h
  exact ⟨A, c, h1, h2, Kd.F_step h3 hm⟩
theorem MapT.below {W W' : World} {b : Nat} {ok : Nat → Prop} {m : List (Int × Tm)} (h : MapT W b ok m) (hb : Below W.heap.size W W') : MapT W' b ok m :=
  MapR.step h (hb.block _ h.lt) (fun x v hv => hv.step (fun k _ hlt => hb.block k hlt))
theorem MapT.grown {W W' : World} {b g : Nat} {ok : Nat → Prop} {m : List (Int × Tm)} (h : MapT W b ok m) (hg : W.grownBy W' (some g)) (hne : b ≠ g) (hok : ∀ k, ok k → k ≠ g) : MapT W' b ok m :=
  MapR.step h (hg.block _ h.lt (fun e => hne (by injection e))) (fun x v hv => hv.step (fun k hk hlt => hg.block k hlt (fun e => hok k hk (by injection e))))
theorem MapT.mono {W : World} {b : Nat} {ok ok' : Nat → Prop} {m : List (Int × Tm)} (h : MapT W b ok m) (hm : ∀ k, ok k → ok' k) : MapT W b ok' m :=
  MapR.step h rfl (fun x v ⟨A, c, h1, h2, h3⟩ => ⟨A, c, h1, h2, Kd.F_mono h3 hm⟩)
theorem MapT.bound {W : World} {b : Nat} {ok : Nat → Prop} {m : List (Int × Tm)} (h : MapT W b ok m) : MapT W b (fun k => ok k ∧ k < W.heap.size) m :=
  MapR.step h rfl (fun x v ⟨A, c, h1, h2, h3⟩ => ⟨A, c, h1, h2, Kd.F_bound h3⟩)
theorem zeroTm (w : World) : (zeroValue 46).run Try.prog w = .ok (.agg #[.int .i64 0, .int .i64 0, .slice none 0 0]) w := by kernel_rfl
def T_map : TypeId := 121
theorem un_map : Try.prog.underlying T_map = some (.map 3 46) := Try.underlying121
def mgetT (m : List (Int × Tm)) (k : Int) : Tm := (mget m k).getD zTm
def mhas (m : List (Int × Tm)) (k : Int) : Bool := (mget m k).isSome
section
variable {ops : Array Oper} {rest : List Oper} {o : Oper} {a : Act} {Q : Exit → Act → World → Prop} {w : World} {b : Nat} {ok : Nat → Prop} {m : List (Int × Tm)}
/-- A look-up, at the operation. -/
theorem wp_lookT (hg : o.guard = none) (mp x : Operand) (hop : o.op = Op.lookup T_map mp x true) (hm : a.eval mp = .map (some b)) (h : MapT w b ok m) (k : Int) (hx : a.eval x = .int .i64 k)
    (hK : ∀ A c, (mgetT m k).f2.length ≤ c → Kd.F kTm w ok A (mgetT m k).f2.length (mgetT m k).f2 → wpList Try.prog ops Q rest (a.put o.dst (.tuple #[.agg #[.int .i64 (mgetT m k).f0, .int .i64 (mgetT m k).f1, .slice A (mgetT m k).f2.length c], .bool (mhas m k)])) w) :
    wpList Try.prog ops Q (o :: rest) a w := by
  refine wpList_plain hg fun K' hK' => ?_
  obtain ⟨v, hrun, h1, h2⟩ := MapR.look h sameI isI un_map Try.underlying3 (zeroTm w) k
  have hv : ∃ A c, v = .agg #[.int .i64 (mgetT m k).f0, .int .i64 (mgetT m k).f1, .slice A (mgetT m k).f2.length c] ∧ (mgetT m k).f2.length ≤ c ∧ Kd.F kTm w ok A (mgetT m k).f2.length (mgetT m k).f2 := by
    unfold mgetT
    cases hh : mget m k with
    | none => exact ⟨none, 0, h1 hh, Nat.le_refl _, F_none _ _⟩
    | some x => exact h2 x hh
  obtain ⟨A, c, rfl, h3, h4⟩ := hv
  unfold Oper.wp
  have hrun2 : (Instr.lookup T_map (.map (some b)) (.int .i64 k) true).run Try.prog w = .ok (.tuple #[.agg #[.int .i64 (mgetT m k).f0, .int .i64 (mgetT m k).f1, .slice A (mgetT m k).f2.length c], .bool (mhas m k)]) w := hrun
  simp [execOp, hop, hm, hx, hrun2, Result.andThen]
  exact hK' _ _ (hK A c h3 h4)
/-- A store into a map, at the operation. -/
theorem wp_updT (hg : o.guard = none) (mp x v : Operand) (hop : o.op = Op.mapUpdate T_map mp x v) (hm : a.eval mp = .map (some b)) (h : MapT w b ok m) (k : Int) (hx : a.eval x = .int .i64 k) (t : Tm) (A : Option Addr) (c : Nat) (hv : a.eval v = .agg #[.int .i64 t.f0, .int .i64 t.f1, .slice A t.f2.length c]) (hc : t.f2.length ≤ c) (hF : Kd.F kTm w ok A t.f2.length t.f2) (hok : ∀ k, ok k → k ≠ b)
    (hK : ∀ w', MapT w' b ok (mset m k t) → w.grownBy w' (some b) → wpList Try.prog ops Q rest (a.put o.dst undef) w') :
    wpList Try.prog ops Q (o :: rest) a w := by
  refine wpList_plain hg fun K' hK' => ?_
  obtain ⟨w', hrun, h1, h2, _⟩ := MapR.upd h sameI isI un_map Try.underlying3 k t (v := .agg #[.int .i64 t.f0, .int .i64 t.f1, .slice A t.f2.length c]) ⟨A, c, rfl, hc, hF⟩
  have hM : MapT w' b ok (mset m k t) := MapR.step h1 rfl (fun x v hv => hv.step (fun k hk hlt => h2.block k hlt (fun e => hok k hk (by injection e))))
  unfold Oper.wp
  have hrun2 : (Instr.mapUpdate T_map (.map (some b)) (.int .i64 k) (.agg #[.int .i64 t.f0, .int .i64 t.f1, .slice A t.f2.length c])).run Try.prog w = .ok () w' := hrun
  simp [execOp, hop, hm, hx, hv, hrun2, Result.andThen]
  exact hK' _ _ (hK w' hM h2)
end
theorem MapT.made (w : World) (ok : Nat → Prop) : MapT (w.alloc (.map #[] 0)) w.heap.size ok [] := MapR.made w
end Go.Proofs.Ytcgnpmjkeifokaa
-- KMapB
/- Maps whose keys are two numbers and whose elements are truth values, told as the list of their entries. -/
namespace Go.Proofs.Ytcgnpmjkeifokaa
open Go.RowKit Go.Proofs.YtcgnpmjkeifokaaW.PrintWords
set_option linter.unusedVariables false
set_option linter.unusedSimpArgs false
set_option linter.unusedSectionVars false
section
variable {κ α : Type} [DecidableEq κ]
/-- What must be of keys that are compared by asking. -/
structure KeyQ (P : Program) (kt : TypeId) (ke : κ → Value) : Prop where
  chk : ∀ (e : Bool) (a : κ) (w : World), (Instr.checkKey e 10000 kt (ke a)).run P w = .ok () w
  eq : ∀ (a b : κ) (w : World), (Op.equal kt (ke a) (ke b)).run P w = .ok (decide (a = b)) w
  stays : ∀ (a : κ) (w : World), (Instr.keyThatStays (ke a) (ke a)).run P w = .ok (ke a) w
  und : ∃ d, P.underlying kt = some d ∧ ∀ a b, Instr.sameNow d (ke a) (ke b) = none
variable {P : Program} {w : World} {b : Nat} {ke : κ → Value} {vr : α → Value → Prop} {m : List (κ × α)} {t kt et : TypeId}
theorem Ents.ask (hq : KeyQ P kt ke) (k : κ) (w : World) : ∀ {es : List MapEntry} {m : List (κ × α)} (i : Nat), Ents ke vr es m →
    (mget m k = none ∧ (Instr.findAsking kt (ke k) es i).run P w = .ok none w) ∨
    ∃ j e x, mget m k = some x ∧ (Instr.findAsking kt (ke k) es i).run P w = .ok (some (i + j, e.val)) w ∧ es[j]? = some e ∧ e.key = ke k ∧ vr x e.val ∧ ∀ y v, vr y v → Ents ke vr (es.modify j fun e => { e with key := ke k, val := v }) (mset m k y)
  | [], [], i, _ => .inl ⟨rfl, by simp [Instr.findAsking]⟩
  | e :: es, p :: m, i, hh => by
    have hr := hq.eq k p.1 w
    by_cases hk : p.1 = k
    · refine .inr ⟨0, e, p.2, by rw [mget, if_pos hk], ?_, rfl, by rw [hh.1, hk], hh.2.1, fun y v hv => ?_⟩
      · rw [Instr.findAsking, hh.1, hk]
        have hr2 := hq.eq k k w
        simp [hr2, Result.andThen]
      · rw [mset, if_pos hk]; exact ⟨rfl, hv, hh.2.2⟩
    · have hf : (Instr.findAsking kt (ke k) (e :: es) i).run P w = (Instr.findAsking kt (ke k) es (i + 1)).run P w := by
        rw [Instr.findAsking, hh.1]; simp [hr, Ne.symm hk, Result.andThen]
      rcases Ents.ask hq k w (i + 1) hh.2.2 with ⟨h1, h2⟩ | ⟨j, e2, x, h1, h2, h3, h4, h5, h6⟩
      · exact .inl ⟨by rw [mget, if_neg hk, h1], by rw [hf, h2]⟩
      · refine .inr ⟨j + 1, e2, x, by rw [mget, if_neg hk, h1], by rw [hf, h2]; simp; omega, h3, h4, h5, fun y v hv => ?_⟩
        rw [mset, if_neg hk]
        exact ⟨hh.1, hh.2.1, h6 y v hv⟩
  | [], _ :: _, _, hh => hh.elim
  | _ :: _, [], _, hh => hh.elim
theorem run_ask (hq : KeyQ P kt ke) (k : κ) (w : World) {es : List MapEntry} {m : List (κ × α)} (hE : Ents ke vr es m) : (Instr.findKey kt (ke k) es).run P w = (Instr.findAsking kt (ke k) es 0).run P w := by
  obtain ⟨d, hd, hn⟩ := hq.und
  match es, m, hE with
  | [], [], _ => simp [Instr.findKey, run_underlying hd, Instr.findNow, Instr.findAsking, Result.andThen]
  | e :: es, p :: m, hh => simp [Instr.findKey, run_underlying hd, Instr.findNow, hh.1, hn, Result.andThen]
theorem MapR.lookQ (h : MapR w b ke vr m) (hq : KeyQ P kt ke) (ht : P.underlying t = some (.map kt et)) {z : Value} (hz : (zeroValue et).run P w = .ok z w) (k : κ) :
    ∃ v, (Instr.lookup t (.map (some b)) (ke k) false).run P w = .ok v w ∧ (mget m k = none → v = z) ∧ ∀ x, mget m k = some x → vr x v := by
  obtain ⟨es, clock, hb, hE⟩ := h
  have hf := run_ask hq k w hE
  rcases hE.ask hq k w 0 with ⟨h1, h2⟩ | ⟨j, e, x, h1, h2, h3, h4, h5, _⟩
  · refine ⟨z, ?_, fun _ => rfl, fun x hx => by rw [h1] at hx; cases hx⟩
    simp [Instr.lookup, run_underlying ht, MapKept.run_getObj_map hb, hq.chk, hf, h2, hz, h1, Result.andThen]
  · refine ⟨e.val, ?_, fun hx => (by rw [h1] at hx; cases hx), fun y hy => by rw [h1] at hy; injection hy with hy; subst hy; exact h5⟩
    simp [Instr.lookup, run_underlying ht, MapKept.run_getObj_map hb, hq.chk, hf, h2, h1, Result.andThen]
theorem MapR.updQ (h : MapR w b ke vr m) (hq : KeyQ P kt ke) (ht : P.underlying t = some (.map kt et)) (k : κ) (x : α) {v : Value} (hv : vr x v) :
    ∃ w', (Instr.mapUpdate t (.map (some b)) (ke k) v).run P w = .ok () w' ∧ MapR w' b ke vr (mset m k x) ∧ w.grownBy w' (some b) ∧ w'.heap.size = w.heap.size := by
  obtain ⟨es, clock, hb, hE⟩ := h
  have hf := run_ask hq k w hE
  have hgr : ∀ o : Obj, w.grownBy { w with heap := w.heap.setIfInBounds b o } (some b) := fun o => ⟨rfl, rfl, rfl, by simp, fun i hi hne => (MapKept.heap_set (o' := o) hb).2 i (fun e => hne (by rw [e]))⟩
  rcases hE.ask hq k w 0 with ⟨h1, h2⟩ | ⟨j, e, x0, h1, h2, h3, h4, h5, h6⟩
  · refine ⟨{ w with heap := w.heap.setIfInBounds b (.map (es.push { key := ke k, val := v, born := clock }) (clock + 1)) }, ?_, ⟨_, _, (MapKept.heap_set hb).1, ?_⟩, hgr _, by simp⟩
    · simp [Instr.mapUpdate, run_underlying ht, MapKept.run_getObj_map hb, hq.chk, hf, h2, MapKept.run_setObj_map _ hb, Result.andThen]
    · rw [mset_new h1, Array.toList_push]
      exact Ents.push (e := { key := ke k, val := v, born := clock }) (k := k) (x := x) rfl hv hE
  · have he : es[0 + j]? = some e := by rw [Nat.zero_add, ← Array.getElem?_toList]; exact h3
    refine ⟨{ w with heap := w.heap.setIfInBounds b (.map (es.modify (0 + j) fun e => { e with key := ke k, val := v }) clock) }, ?_, ⟨_, _, (MapKept.heap_set hb).1, ?_⟩, hgr _, by simp⟩
    · simp only [Nat.zero_add] at he h2
      simp [Instr.mapUpdate, run_underlying ht, MapKept.run_getObj_map hb, hq.chk, hf, h2, MapKept.run_setObj_map _ hb, Result.andThen, he, h4, hq.stays]
    · rw [Nat.zero_add, Array.toList_modify]
      exact h6 x v hv
end
/-! ### two numbers -/
def keP (k : Int × Int) : Value := .agg #[.int .i64 k.1, .int .i64 k.2]
theorem un_pair : Try.prog.underlying 140 = some (.array 2 3) := Try.underlying140
theorem eqP_run (a b : Int × Int) (w : World) : (Op.equal 140 (keP a) (keP b)).run Try.prog w = .ok (decide (a = b)) w := by
  have u3 := Try.underlying3
  have a3 := Try.isAgg3
  have z3 := Try.sizeOf3
  unfold Op.equal Op.maxDepth keP
  rw [show (10000 : Nat) = 9999 + 1 from rfl, Op.equalIn]
  simp only [Sem.run_bind, run_underlying un_pair, Result.andThen_ok]
  simp only [Std.Legacy.Range.forIn_eq_forIn_range', Std.Legacy.Range.size, Nat.sub_zero, Nat.add_sub_cancel, Nat.div_one, List.range'_succ, List.range'_zero, List.forIn_cons, List.forIn_nil]
  obtain ⟨a1, a2⟩ := a
  obtain ⟨b1, b2⟩ := b
  go_simp
  by_cases h1 : a1 = b1 <;> by_cases h2 : a2 = b2 <;> simp [h1, h2]
theorem chkP_run (e : Bool) (a : Int × Int) (w : World) : (Instr.checkKey e 10000 140 (keP a)).run Try.prog w = .ok () w := by
  have u3 := Try.underlying3
  have a3 := Try.isAgg3
  have z3 := Try.sizeOf3
  unfold keP
  rw [show (10000 : Nat) = 9999 + 1 from rfl, Instr.checkKey]
  simp only [Sem.run_bind, run_underlying un_pair, Result.andThen_ok]
  simp only [Std.Legacy.Range.forIn_eq_forIn_range', Std.Legacy.Range.size, Nat.sub_zero, Nat.add_sub_cancel, Nat.div_one, List.range'_succ, List.range'_zero, List.forIn_cons, List.forIn_nil]
  have hck : ∀ (x : Int) (w : World), (Instr.checkKey e 9999 3 (.int .i64 x)).run Try.prog w = .ok () w := fun x w => MapKept.run_checkKey (w := w) Try.underlying3 (isI x) e 9998
  go_simp
theorem keyP : KeyQ Try.prog 140 keP where
  chk := chkP_run
  eq := eqP_run
  stays := fun a w => by
    have hs : Instr.sameBits 10000 (keP a) (keP a) = true := by
      unfold keP
      show Instr.sameBits (9999 + 1) _ _ = true
      simp [Instr.sameBits]
    simp [Instr.keyThatStays, hs]
  und := ⟨_, un_pair, fun a b => rfl⟩
def vrB (x : Bool) (v : Value) : Prop := v = .bool x
def MapB (W : World) (b : Nat) (m : List ((Int × Int) × Bool)) : Prop := MapR W b keP vrB m
theorem MapB.below {W W' : World} {b : Nat} {m : List ((Int × Int) × Bool)} (h : MapB W b m) (hb : Below W.heap.size W W') : MapB W' b m := MapR.step h (hb.block _ h.lt) (fun _ _ hv => hv)
theorem MapB.grown {W W' : World} {b g : Nat} {m : List ((Int × Int) × Bool)} (h : MapB W b m) (hg : W.grownBy W' (some g)) (hne : b ≠ g) : MapB W' b m := MapR.step h (hg.block _ h.lt (fun e => hne (by injection e))) (fun _ _ hv => hv)
theorem MapB.made (w : World) : MapB (w.alloc (.map #[] 0)) w.heap.size [] := MapR.made w
theorem zeroB (w : World) : (zeroValue 4).run Try.prog w = .ok (.bool false) w := by kernel_rfl
def T_mapB : TypeId := 136
theorem un_mapB : Try.prog.underlying T_mapB = some (.map 140 4) := Try.underlying136
def mgetB (m : List ((Int × Int) × Bool)) (k : Int × Int) : Bool := (mget m k).getD false
section
variable {ops : Array Oper} {rest : List Oper} {o : Oper} {a : Act} {Q : Exit → Act → World → Prop} {w : World} {b : Nat} {m : List ((Int × Int) × Bool)}
theorem run_lookB (h : MapB w b m) (i k : Int) : (Instr.lookup T_mapB (.map (some b)) (.agg #[.int .i64 i, .int .i64 k]) false).run Try.prog w = .ok (.bool (mgetB m (i, k))) w := by
  obtain ⟨v, hrun, h1, h2⟩ := MapR.lookQ h keyP un_mapB (zeroB w) (i, k)
  have hv : v = .bool (mgetB m (i, k)) := by
    unfold mgetB
    cases hh : mget m (i, k) with
    | none => exact h1 hh
    | some x => exact h2 x hh
  subst hv
  exact hrun
theorem wp_lookB (hg : o.guard = none) (mp x : Operand) (hop : o.op = Op.lookup T_mapB mp x false) (hm : a.eval mp = .map (some b)) (h : MapB w b m) (i k : Int) (hx : a.eval x = .agg #[.int .i64 i, .int .i64 k])
    (hK : wpList Try.prog ops Q rest (a.put o.dst (.bool (mgetB m (i, k)))) w) : wpList Try.prog ops Q (o :: rest) a w := by
  refine wpList_plain hg fun K' hK' => ?_
  have hrun2 := run_lookB h i k
  unfold Oper.wp
  simp [execOp, hop, hm, hx, hrun2, Result.andThen]
  exact hK' _ _ hK
theorem wp_updB (hg : o.guard = none) (mp x v : Operand) (hop : o.op = Op.mapUpdate T_mapB mp x v) (hm : a.eval mp = .map (some b)) (h : MapB w b m) (i k : Int) (hx : a.eval x = .agg #[.int .i64 i, .int .i64 k]) (t : Bool) (hv : a.eval v = .bool t)
    (hK : ∀ w', MapB w' b (mset m (i, k) t) → w.grownBy w' (some b) → wpList Try.prog ops Q rest (a.put o.dst undef) w') :
    wpList Try.prog ops Q (o :: rest) a w := by
  refine wpList_plain hg fun K' hK' => ?_
  obtain ⟨w', hrun, h1, h2, _⟩ := MapR.updQ h keyP un_mapB (i, k) t (v := .bool t) rfl
  unfold Oper.wp
  have hrun2 : (Instr.mapUpdate T_mapB (.map (some b)) (.agg #[.int .i64 i, .int .i64 k]) (.bool t)).run Try.prog w = .ok () w' := hrun
  simp [execOp, hop, hm, hx, hv, hrun2, Result.andThen]
  exact hK' _ _ (hK w' h1 h2)
end
end Go.Proofs.Ytcgnpmjkeifokaa
-- K90
/- The parts of a term with the numbers of their arguments: order.parts; slices.EqualFunc over numbers. -/
namespace Go.Proofs.Ytcgnpmjkeifokaa
open Go.RowKit Go.Proofs.YtcgnpmjkeifokaaW.PrintWords
set_option linter.unusedVariables false
set_option linter.unusedSimpArgs false
structure Pt where
  f0 : Tm
  f1 : List Int
def zPt : Pt := ⟨zTm, []⟩
def kPt : Kd Pt := Kd.iso (Kd.pair kTm (Kd.slice 3 (Kd.int .i64))) (fun x : Pt => (x.f0, x.f1))
theorem infoPt : (Try.prog.info? 156).map (fun i => (i.zero, i.size, i.bytes)) = some (some (.agg #[.int .i64 0, .int .i64 0, .slice none 0 0, .slice none 0 0]), kPt.sz, 64) := by kernel_rfl
theorem kPt_open {w : World} {x : Pt} {cs : List Value} (h : kPt.K w x cs) : ∃ A2 c2 A3 c3, cs = [.int .i64 x.f0.f0, .int .i64 x.f0.f1, .slice A2 x.f0.f2.length c2, .slice A3 x.f1.length c3] ∧ x.f0.f2.length ≤ c2 ∧ kTm.C w A2 x.f0.f2.length x.f0.f2 ∧ x.f1.length ≤ c3 ∧ (Kd.int .i64).C w A3 x.f1.length x.f1 := by
  obtain ⟨_, _, rfl, s0, ⟨A3, c3, rfl, l3, g3⟩⟩ := h
  obtain ⟨A2, c2, rfl, l2, g2⟩ := kTm_open s0
  exact ⟨A2, c2, A3, c3, rfl, l2, g2, l3, g3⟩
theorem kPt_mk (w : World) (x : Pt) {A2 : Option Addr} {c2 : Nat} (l2 : x.f0.f2.length ≤ c2) (g2 : kTm.C w A2 x.f0.f2.length x.f0.f2) {A3 : Option Addr} {c3 : Nat} (l3 : x.f1.length ≤ c3) (g3 : (Kd.int .i64).C w A3 x.f1.length x.f1) : kPt.K w x [.int .i64 x.f0.f0, .int .i64 x.f0.f1, .slice A2 x.f0.f2.length c2, .slice A3 x.f1.length c3] :=
  ⟨[.int .i64 x.f0.f0, .int .i64 x.f0.f1, .slice A2 x.f0.f2.length c2], [.slice A3 x.f1.length c3], rfl, kTm_mk w x.f0 l2 g2, ⟨A3, c3, rfl, l3, g3⟩⟩
theorem kPt_openF {W : World} {ok : Nat → Prop} {x : Pt} {cs : List Value} (h : Kd.FK kPt W ok x cs) : ∃ A2 c2 A3 c3, cs = [.int .i64 x.f0.f0, .int .i64 x.f0.f1, .slice A2 x.f0.f2.length c2, .slice A3 x.f1.length c3] ∧ x.f0.f2.length ≤ c2 ∧ Kd.F kTm W ok A2 x.f0.f2.length x.f0.f2 ∧ x.f1.length ≤ c3 ∧ Kd.F (Kd.int .i64) W ok A3 x.f1.length x.f1 := by
  obtain ⟨A2, c2, A3, c3, rfl, l2, _, l3, _⟩ := kPt_open (Kd.FK_now h)
  refine ⟨A2, c2, A3, c3, rfl, l2, fun W' hW => ?_, l3, fun W' hW => ?_⟩
  · obtain ⟨A2_, c2_, A3_, c3_, he, l2_, g2_, l3_, g3_⟩ := kPt_open (h W' hW)
    injection (Option.some.inj (show some (Value.slice A2 x.f0.f2.length c2) = some (Value.slice A2_ x.f0.f2.length c2_) from congrArg (fun l => l[2]?) he)) with ha_ _ _
    rw [ha_]; exact g2_
  · obtain ⟨A2_, c2_, A3_, c3_, he, l2_, g2_, l3_, g3_⟩ := kPt_open (h W' hW)
    injection (Option.some.inj (show some (Value.slice A3 x.f1.length c3) = some (Value.slice A3_ x.f1.length c3_) from congrArg (fun l => l[3]?) he)) with ha_ _ _
    rw [ha_]; exact g3_
theorem kPt_mkF (W : World) (ok : Nat → Prop) (x : Pt) {A2 : Option Addr} {c2 : Nat} (l2 : x.f0.f2.length ≤ c2) (g2 : Kd.F kTm W ok A2 x.f0.f2.length x.f0.f2) {A3 : Option Addr} {c3 : Nat} (l3 : x.f1.length ≤ c3) (g3 : Kd.F (Kd.int .i64) W ok A3 x.f1.length x.f1) : Kd.FK kPt W ok x [.int .i64 x.f0.f0, .int .i64 x.f0.f1, .slice A2 x.f0.f2.length c2, .slice A3 x.f1.length c3] := fun W2 hW => kPt_mk W2 x l2 (g2 W2 hW) l3 (g3 W2 hW)
def rd_Pt (xs : List Pt) (i : Nat) : Pt := xs.getD i zPt
theorem rdPt_get (l : List Pt) (i : Nat) (h : i < l.length) : rd_Pt l i = l[i] := by unfold rd_Pt; simp [List.getD_eq_getElem?_getD, h]
theorem at_Pt {w : World} {ok : Nat → Prop} {A : Option Addr} {n : Nat} {xs : List Pt} (h : Kd.F kPt w ok A n xs) (i : Nat) (h1 : i < n) : ∃ ad A2 c2 A3 c3, A = some ad ∧ w.cell? (ad.add (i * 4)) = some (.int .i64 (rd_Pt xs i).f0.f0) ∧
    w.cell? ⟨(ad.add (i * 4)).block, (ad.add (i * 4)).off + 1, none⟩ = some (.int .i64 (rd_Pt xs i).f0.f1) ∧ w.cell? ⟨(ad.add (i * 4)).block, (ad.add (i * 4)).off + 2, none⟩ = some (.slice A2 (rd_Pt xs i).f0.f2.length c2) ∧ w.cell? ⟨(ad.add (i * 4)).block, (ad.add (i * 4)).off + 3, none⟩ = some (.slice A3 (rd_Pt xs i).f1.length c3) ∧
    (rd_Pt xs i).f0.f2.length ≤ c2 ∧ Kd.F kTm w ok A2 (rd_Pt xs i).f0.f2.length (rd_Pt xs i).f0.f2 ∧ (rd_Pt xs i).f1.length ≤ c3 ∧ Kd.F (Kd.int .i64) w ok A3 (rd_Pt xs i).f1.length (rd_Pt xs i).f1 ∧ ok ad.block := by
  obtain ⟨ad, c, e, _, hK, hc0, hin⟩ := Kd.F_get h zPt (i : Int) (by omega) (by omega)
  have hc : ∀ j u, c[j]? = some u → w.cell? (ad.add (i * 4 + j)) = some u := hc0
  obtain ⟨A2, c2, A3, c3, rfl, l2, g2, l3, g3⟩ := kPt_openF hK
  exact ⟨ad, A2, c2, A3, c3, e, hc 0 _ rfl, by rw [← add_field _ _ 1 (by omega)]; exact hc 1 _ rfl, by rw [← add_field _ _ 2 (by omega)]; exact hc 2 _ rfl, by rw [← add_field _ _ 3 (by omega)]; exact hc 3 _ rfl, l2, g2, l3, g3, hin (by decide)⟩
/-! ### the parts, plain -/
mutual
def prT : Nat → Tm → List Pt
  | n, ⟨v, f, l⟩ => (prL n l).1 ++ [⟨⟨v, f, l⟩, (prL n l).2⟩]
def prL : Nat → List Tm → List Pt × List Int
  | _, [] => ([], [])
  | n, t :: ts => (prT n t ++ (prL (n + (prT n t).length) ts).1, (((n + (prT n t).length : Nat) : Int) - 1) :: (prL (n + (prT n t).length) ts).2)
end
theorem prT_eq (n : Nat) (t : Tm) : prT n t = (prL n t.f2).1 ++ [⟨t, (prL n t.f2).2⟩] := by cases t; rw [prT]
theorem pr_len (t : Tm) : ∀ n, (prT n t).length = szT t := by
  refine Tm.rec (motive_1 := fun t => ∀ n, (prT n t).length = szT t) (motive_2 := fun l => ∀ n, (prL n l).1.length = szL l) ?_ ?_ ?_ t
  · intro v f l ih n; rw [prT, List.length_append, ih, szT]; simp; omega
  · intro n; rw [prL, szL]; rfl
  · intro t ts h1 h2 n
    rw [prL, szL]
    simp only [List.length_append, h1, h2]
theorem prL_len (l : List Tm) : ∀ n, (prL n l).1.length = szL l ∧ (prL n l).2.length = l.length := by
  induction l with
  | nil => intro n; rw [prL, szL]; exact ⟨rfl, rfl⟩
  | cons t ts ih => intro n; rw [prL, szL]; simp only [List.length_append, List.length_cons, pr_len, (ih _).1, (ih _).2]; exact ⟨trivial, trivial⟩
theorem prL_append (a b : List Tm) : ∀ n, prL n (a ++ b) = ((prL n a).1 ++ (prL (n + szL a) b).1, (prL n a).2 ++ (prL (n + szL a) b).2) := by
  induction a with
  | nil => intro n; rw [List.nil_append, prL, szL]; rfl
  | cons t ts ih =>
    intro n
    rw [List.cons_append, prL, prL, ih, szL, pr_len, Nat.add_assoc]
    simp
theorem prL_take (l : List Tm) (n k : Nat) (hk : k < l.length) : prL n (l.take (k+1)) = ((prL n (l.take k)).1 ++ prT (n + szL (l.take k)) (rd_Tm l k), (prL n (l.take k)).2 ++ [((n + szL (l.take k) + szT (rd_Tm l k) : Nat) : Int) - 1]) := by
  rw [List.take_succ_eq_append_getElem hk, prL_append, rd_get l k hk]
  rw [prL, prL, pr_len]
  simp
theorem gbW {w w1 w2 : World} {r r1 : Option Nat} (h : w.grownBy w1 r) (k : w1.grownBy w2 r1) (hr : ∀ b, r1 = some b → r1 ≠ r → w.heap.size ≤ b) : w.grownBy w2 r :=
  ⟨k.os.trans h.os, k.tape.trans h.tape, k.output.trans h.output, Nat.le_trans h.size k.size, fun i hi hn => (k.block i (Nat.lt_of_lt_of_le hi h.size) (fun e => by
    have := hr i e.symm (fun e2 => hn (e.trans e2))
    omega)).trans (h.block i hi hn)⟩
set_option maxHeartbeats 4000000 in
set_option maxRecDepth 100000 in
theorem parts_any (m : Nat) : ∀ (t : Tm) (A : Option Addr) (c : Nat) (v : Value) (xs : List Pt) (base : Nat) (ok okt : Nat → Prop) (w : World), szT t ≤ m → (xs.length + szT t) * 64 ≤ 140737488355328 →
    Kd.N kPt 156 w base ok v xs → Kd.F kTm w okt A t.f2.length t.f2 → t.f2.length ≤ c → (∀ k, okt k → ok k ∧ some k ≠ v.ownBlock) → (∀ k, w.heap.size ≤ k → ok k) → base ≤ w.heap.size →
    Calls Try.prog 110 #[v, .agg #[.int .i64 t.f0, .int .i64 t.f1, .slice A t.f2.length c]] w fun e w' => ∃ v1, e = .returned v1 ∧ Kd.N kPt 156 w' base ok v1 (xs ++ prT xs.length t) ∧ w.grownBy w' v.ownBlock ∧ InOrNew w v v1 := by
  induction m with
  | zero => intro t A c v xs base ok okt w h; have := szT_pos t; omega
  | succ m ih =>
  intro t A c v xs base ok okt w hm hbd hN hF hcap hokt hfresh hbase
  have hlen := Kd.F_max hF
  have hlt0 := Kd.N_lt hN
  have IH := Aside0.mk ih
  have HF := Aside0.mk (Kd.F_bound hF)
  have HN := Aside0.mk hN
  have HS := Aside0.mk (szT_eq t)
  have HM := Aside0.mk hm
  have HBD := Aside0.mk hbd
  have HO := Aside0.mk hokt
  have HFr := Aside0.mk hfresh
  have HCap := Aside0.mk hcap
  have HL0 := Aside0.mk hlt0
  clear hm hF ih hN hbd hokt hfresh hcap hlt0
  go_enter Try.func110, Try.ntmps110
  go_wp2
  go_loopw [0, 5, 11] (fun v0 v5 i wr => ∃ (k : Nat) (vk ak : Value), k ≤ t.f2.length ∧ i = .int .i64 k ∧ vk = v0 ∧ ak = v5 ∧ Aside0 (Kd.N kPt 156 wr base (fun j => ok j ∧ some j ≠ ak.ownBlock) vk (xs ++ (prL xs.length (t.f2.take k)).1)) ∧ Aside0 (Kd.N (Kd.int .i64) 3 wr (w.heap.size + 1) (fun j => w.heap.size < j ∧ some j ≠ vk.ownBlock) ak (prL xs.length (t.f2.take k)).2) ∧ Aside0 (w.grownBy wr v.ownBlock) ∧ Aside0 (vk.ownBlock = v.ownBlock ∨ ∃ b, vk.ownBlock = some b ∧ w.heap.size + 1 ≤ b) ∧ wr.heap[w.heap.size]? = some (.cells #[.int .i64 t.f0, .int .i64 t.f1, .slice A t.f2.length c] 46 (0, 0))) (fun _ _ i _ => t.f2.length - (intOf i).toNat)
  case atStart => exact ⟨0, v, _, by omega, rfl, rfl, rfl, ⟨by simpa [prL] using Kd.N_apart_nil (Kd.N_alloc HN.out _)⟩, ⟨by rw [List.take_zero, prL]; exact Kd.N_nil _ _ _ _ _⟩, ⟨gbOf (below_alloc (Below.refl _ _) _) _⟩, ⟨.inl rfl⟩, heap_alloc_new _ _⟩
  case round =>
    obtain ⟨k, vk, ak, hk, rfl, rfl, rfl, HNk, HAk, HG, HI, hg⟩ := hrel
    have g0 := (blk_cell hg 0).trans rfl
    have g1 := (blk_cell hg 1).trans rfl
    have g2 := (blk_cell hg 2).trans rfl
    have HGb := Aside0.mk hg
    have hsz := HG.out.size
    have hg3 := blk_lt hg
    have HFr2 := Aside0.mk (Kd.F_step HF.out (fun k hk hlt => HG.out.block k hlt (HO.out k hk.1).2))
    have HAlt := Aside0.mk (Kd.N_lt HAk.out)
    have HAba := Aside0.mk (Kd.N_base HAk.out)
    have HVlt := Aside0.mk (Kd.N_lt HNk.out)
    have HOk : Aside0 (∀ k, (okt k ∧ k < w.heap.size) → (ok k ∧ some k ≠ ak.ownBlock) ∧ some k ≠ vk.ownBlock) := ⟨fun k hk => ⟨⟨(HO.out k hk.1).1, fun e => by have := HAba.out _ e.symm; have := hk.2; omega⟩, by
      rcases HI.out with h | ⟨b, h, hb⟩
      · rw [h]; exact (HO.out k hk.1).2
      · rw [h]; intro e; injection e with e; have := hk.2; omega⟩⟩
    have hne : Aside0 (some w.heap.size ≠ vk.ownBlock) := ⟨by
      rcases HI.out with h | ⟨b, h, hb⟩
      · rw [h]; intro e; have := HL0.out _ e.symm; omega
      · rw [h]; intro e; injection e with e; omega⟩
    have hnea : Aside0 (some w.heap.size ≠ ak.ownBlock) := ⟨fun e => by have := HAba.out _ e.symm; omega⟩
    have HPL := Aside0.mk (prL_len (t.f2.take k) xs.length)
    clear hg
    by_cases hlt : k < t.f2.length
    · obtain ⟨ad, A2, c2, rfl, E0, E1, E2, hl2, hF2, _⟩ := at_TmF HFr2.out (k : Int) (by omega) (by omega)
      simp only [Int.toNat_natCast] at E0 E1 E2
      have HT := Aside0.mk (szT_mem (rd_mem t.f2 k hlt))
      have HTs := Aside0.mk (szL_take_succ t.f2 k hlt)
      have HTl := Aside0.mk (szL_take_le t.f2 (k+1))
      have HP := Aside0.mk (prL_take t.f2 xs.length k hlt)
      have HF2 := Aside0.mk hF2
      have HC2 := Aside0.mk hl2
      clear hF2 hl2
      have HB5 := Aside0.mk (below_alloc (Below.refl wr.heap.size wr) (.cells #[.int .i64 zTm.f0, .int .i64 zTm.f1, .slice none zTm.f2.length 0] 46))
      go_upto_region 5 with (((with_reducible refine gate_store (t := 46) (p := 7) rfl ?_); refine st_tm 7 rfl rfl rfl rfl rfl (heap_alloc_new _ _) ?_); intro w4 hs4 hG4 hz4; have GX := Aside0.mk hs4; have HB4 := Aside0.mk (gbS (below_alloc (Below.refl wr.heap.size wr) _) hG4 (Nat.le_refl _)); have HZ4 := Aside0.mk hz4; clear hs4 hG4 hz4 E0 E1 E2)
      obtain ⟨x0, x1, x2⟩ := tm_cells GX.out
      go_upto_region 6 with (go_at_call 110; refine (IH.out (rd_Tm t.f2 k) A2 c2 vk _ base _ _ _ ?_ ?_ (Kd.N_below HNk.out HB4.out) (Kd.F_below HF2.out HB4.out) HC2.out HOk.out ?_ ?_).mono ?_; (have := HS.out; have := HM.out; have := HT.out; omega); (have h1 := HS.out; have h2 := HBD.out; have h3 := HTs.out; have h4 := HTl.out; have h5 := HPL.out.1; rw [List.length_append, h5]; omega); exact fun j hj => ⟨HFr.out j (by have := HB4.out.size; omega), fun e => by have := HAlt.out _ e.symm; have := HB4.out.size; omega⟩; (have := HB4.out.size; omega); rintro e w5 ⟨v1, rfl, hN1, hG1, hI1⟩; have HN1 := Aside0.mk hN1; have HG1 := Aside0.mk hG1; have HI1 := Aside0.mk hI1; clear hN1 hG1 hI1 x0 x1 x2)
      have HA5 : Aside0 (Kd.N (Kd.int .i64) 3 w5 (w.heap.size + 1) (fun j => w.heap.size < j ∧ some j ≠ v1.ownBlock) ak (prL xs.length (t.f2.take k)).2) := ⟨by
        have h1 := Kd.N_bound (Kd.N_grown (Kd.N_bound (Kd.N_below (Kd.N_bound HAk.out) HB4.out)) HG1.out (fun j hj => hj.1.1.2))
        refine Kd.N_mono h1 (fun j hj => ⟨hj.1.1.1.1, ?_⟩)
        rcases HI1.out with h | ⟨b, h, hb⟩
        · rw [h]; exact hj.1.1.1.2
        · rw [h]; intro e; injection e with e; have := hj.1.1.2; have := HB4.out.size; omega⟩
      have hz5 : w.heap.size + 1 ≤ w5.heap.size := by have := HB4.out.size; have := HG1.out.size; omega
      have HLEN : Aside0 ((xs ++ (prL xs.length (t.f2.take k)).1 ++ prT (xs ++ (prL xs.length (t.f2.take k)).1).length (rd_Tm t.f2 k)).length = xs.length + szL (t.f2.take k) + szT (rd_Tm t.f2 k)) := ⟨by rw [List.length_append, List.length_append, HPL.out.1, pr_len]⟩
      have HLE2 : Aside0 ((xs ++ (prL xs.length (t.f2.take k)).1).length = xs.length + szL (t.f2.take k)) := ⟨by rw [List.length_append, HPL.out.1]⟩
      obtain ⟨A9, c9, rfl⟩ := Kd.N_slice HN1.out
      have HNX : Aside0 (xs ++ (prL xs.length (t.f2.take (k+1))).1 = xs ++ (prL xs.length (t.f2.take k)).1 ++ prT (xs ++ (prL xs.length (t.f2.take k)).1).length (rd_Tm t.f2 k)) := ⟨by rw [HP.out, HLE2.out, List.append_assoc]⟩
      have HAX : Aside0 ((prL xs.length (t.f2.take (k+1))).2 = (prL xs.length (t.f2.take k)).2 ++ [((xs.length + szL (t.f2.take k) + szT (rd_Tm t.f2 k) : Nat) : Int) - 1]) := ⟨by rw [HP.out]⟩
      rw [← HLEN.out] at HAX
      have HLB : Aside0 ((xs ++ (prL xs.length (t.f2.take k)).1 ++ prT (xs ++ (prL xs.length (t.f2.take k)).1).length (rd_Tm t.f2 k)).length ≤ 100000000000000) := ⟨by have h1 := HS.out; have h2 := HBD.out; have h3 := HTs.out; have h4 := HTl.out; rw [HLEN.out]; omega⟩
      have HAL : Aside0 ((prL xs.length (t.f2.take k)).2.length ≤ 2199023255552) := ⟨by have h5 := HPL.out.2; have := szL_len (t.f2.take k); have h4 := szL_take_le t.f2 k; have h1 := HS.out; have h2 := HBD.out; omega⟩
      have hnz := HLEN.out
      have hsp := szT_pos (rd_Tm t.f2 k)
      generalize xs ++ (prL xs.length (t.f2.take k)).1 ++ prT (xs ++ (prL xs.length (t.f2.take k)).1).length (rd_Tm t.f2 k) = ys at *
      have hy1 : (1 : Int) ≤ ys.length := by omega
      have hy2 : (ys.length : Int) ≤ 100000000000000 := by have := HLB.out; omega
      have HV9 := Aside0.mk (Kd.N_lt HN1.out)
      clear hnz hsp
      have hw1 : IntKind.i64.wrap ((ys.length : Int) - 1) = (ys.length : Int) - 1 := IntWalk.i64_in _ (by omega)
      go_wp2_with (at_builtin; refine Kd.N_append (Kd.int .i64) (w0 := w5) (w.heap.size + 1) rfl _ _ 22 3 _ 8 rfl Try.underlying22 infoI rfl (by decide) (by decide) ak _ ((ys.length : Int) - 1) _ (fun j => w.heap.size < j ∧ some j ≠ (Value.slice A9 ys.length c9).ownBlock) (fun _ => False) rfl rfl (fun _ _ => rfl) (fun _ h => h.elim) (fun j hj => ⟨by omega, fun e => by have := HV9.out j e.symm; omega⟩) HA5.out (Below.refl _ _) (by omega) ?_ ?_; (have := HAL.out; omega); intro v2 w6 hN2 hB2 hG2 hI2; have HN2 := Aside0.mk hN2; have HG2 := Aside0.mk hG2; have HI2 := Aside0.mk hI2; clear hN2 hB2 hG2 hI2)
      go_roundw
      case rel =>
        refine ⟨k + 1, Value.slice A9 ys.length c9, v2, by omega, by go_num, rfl, rfl, ⟨?_⟩, ⟨by rw [HAX.out]; exact HN2.out⟩, ⟨?_⟩, ⟨?_⟩, ?_⟩
        · rw [HNX.out]
          have h1 := Kd.N_grown (Kd.N_bound HN1.out) HG2.out (fun j hj => hj.1.2)
          refine Kd.N_mono h1 (fun j hj => ⟨hj.1.1, ?_⟩)
          rcases HI2.out with h | ⟨b, h, hb⟩
          · rw [h]; exact hj.1.2
          · rw [h]; intro e; injection e with e; have := hj.2; omega
        · refine gbW (gbW (gbW HG.out (gbOf HB4.out none) (fun b hb _ => by cases hb)) HG1.out (fun b hb hne2 => ?_)) HG2.out (fun b hb _ => by have := HAba.out b hb; omega)
          rcases HI.out with h | ⟨b2, h, hb2⟩
          · exact absurd h hne2
          · rw [h] at hb; injection hb with hb; omega
        · rcases HI1.out with h | ⟨b, h, hb⟩
          · rw [h]; exact HI.out
          · exact .inr ⟨b, h, by have := HB4.out.size; omega⟩
        · exact (HG2.out.block _ (by omega) hnea.out).trans ((HG1.out.block _ (by have := HB4.out.size; omega) hne.out).trans ((HB4.out.block _ hg3).trans HGb.out))
      case measure => simp [intOf]; omega
    · obtain rfl : k = t.f2.length := by omega
      have HLX : Aside0 ((xs ++ (prL xs.length (t.f2.take t.f2.length)).1).length = xs.length + szL t.f2) := ⟨by rw [List.length_append, HPL.out.1, List.take_length]⟩
      obtain ⟨Aa, ca, rfl⟩ := Kd.N_slice HAk.out
      have HAr := Aside0.mk (Kd.N_reads' HAk.out).2.1
      have HAF := Aside0.mk (Kd.F_bound (Kd.N_F HAk.out))
      have HPX : Aside0 (prT xs.length t = (prL xs.length (t.f2.take t.f2.length)).1 ++ [⟨t, (prL xs.length (t.f2.take t.f2.length)).2⟩]) := ⟨by rw [List.take_length, ← prT_eq]⟩
      simp only [List.take_length] at HNk HAk HAr HAF HPX HPL HLX
      go_wp2_with (at_builtin; refine Kd.N_append kPt (w0 := wr) base rfl _ _ 134 156 _ 64 rfl Try.underlying134 infoPt rfl (by decide) (by decide) vk _ (⟨t, (prL xs.length (t.f2)).2⟩ : Pt) _ ok (fun j => (okt j ∧ j < w.heap.size) ∨ ((w.heap.size < j ∧ some j ≠ vk.ownBlock) ∧ j < wr.heap.size)) rfl rfl (kPt_mkF wr _ ⟨t, (prL xs.length (t.f2)).2⟩ HCap.out (Kd.F_mono HFr2.out (fun j hj => .inl hj)) HAr.out (Kd.F_mono HAF.out (fun j hj => .inr hj))) ?_ (fun k hk => HFr.out k (by omega)) (Kd.N_mono HNk.out (fun j hj => hj.1)) (Below.refl _ _) (by omega) ?_ ?_; (intro j hj; rcases hj with hj | hj; exact ⟨(HO.out j hj.1).1, (HOk.out j hj).2⟩; exact ⟨HFr.out j (by omega), hj.1.2⟩); (have h1 := HS.out; have h2 := HBD.out; have h5 := HLX.out; rw [h5]; omega); intro v1 w1 hN1 hB1 hG1 hI1)
      go_ret
      refine ⟨v1, rfl, ?_, gbT HG.out hG1 ?_, ?_⟩
      · rw [HPX.out, ← List.append_assoc]; exact hN1
      · rcases HI.out with h | ⟨b, h, hb⟩
        · exact .inl h
        · exact .inr ⟨b, h, by omega⟩
      · rcases hI1 with h | ⟨b, h, hb⟩
        · rcases HI.out with h' | ⟨b, h', hb⟩
          · exact .inl (h.trans h')
          · exact .inr ⟨b, h.trans h', by omega⟩
        · exact .inr ⟨b, h, by omega⟩
end Go.Proofs.Ytcgnpmjkeifokaa
-- K91
/- slices.EqualFunc over numbers; what the order's comparer asks of its maps. -/
namespace Go.Proofs.Ytcgnpmjkeifokaa
open Go.RowKit Go.Proofs.YtcgnpmjkeifokaaW.PrintWords
set_option linter.unusedVariables false
set_option linter.unusedSimpArgs false
set_option maxHeartbeats 4000000 in
set_option maxRecDepth 100000 in
theorem equalFuncI_any (g : Nat) (lb : Array Value) (p : Int → Int → Bool) (eg : ∀ args w, (callFunc g args).run Try.prog w = .ok (.enter g args) w) (xs ys : List Int) (A B : Option Addr) (c d : Nat) (w : World) (hF : Kd.C (Kd.int .i64) w A xs.length xs) (hF2 : Kd.C (Kd.int .i64) w B ys.length ys)
    (hp : ∀ x, x ∈ xs → ∀ y, y ∈ ys → ∀ (W : World), Below w.heap.size w W →
      Calls Try.prog g (#[.int .i64 x, .int .i64 y] ++ lb) W fun e w' => e = .returned (.bool (p x y)) ∧ Below W.heap.size W w') :
    Calls Try.prog 131 #[.slice A xs.length c, .slice B ys.length d, .func (.func g) #[] lb] w fun e w' => e = .returned (.bool (eqF p xs ys)) ∧ Below w.heap.size w w' := by
  have hlen := hF.2.1
  have hlen2 := hF2.2.1
  have HF := Aside0.mk hF
  have HF2 := Aside0.mk hF2
  have HP := Aside0.mk hp
  clear hF hF2 hp
  by_cases hn : xs.length = ys.length
  · have hB := bneF (a := xs.length) (b := ys.length) (by omega)
    have HN := Aside0.mk hn
    have hle : xs.length ≤ ys.length := by omega
    have hB' : (xs.length != ys.length) = false := by simp [hn]
    clear hn
    go_enter Try.func131, Try.ntmps131
    go_wp2
    go_loopw [17] (fun i wr => ∃ k : Nat, k ≤ xs.length ∧ i = .int .i64 k ∧ Aside0 (eqF p xs ys = eqF p (xs.drop k) (ys.drop k)) ∧ Aside0 (Below w.heap.size w wr)) (fun i _ => xs.length - (intOf i).toNat)
    case atStart => exact ⟨0, by omega, rfl, ⟨by simp⟩, ⟨Below.refl _ _⟩⟩
    case round =>
      obtain ⟨k, hk, rfl, h0, hb⟩ := hrel
      by_cases hlt : k < xs.length
      · have hlt2 : k < ys.length := by omega
        obtain ⟨ad, rfl, E0⟩ := at_Int (Kd.C_below HF.out hb.out) (k : Int) (by omega) (by omega)
        obtain ⟨bd, rfl, G0⟩ := at_Int (Kd.C_below HF2.out hb.out) (k : Int) (by omega) (by omega)
        simp only [Int.toNat_natCast] at E0 G0
        have HE := Aside0.mk (eqF_drop (p := p) hlt hlt2)
        have e1 : xs.getD k 0 = xs[k] := by simp [List.getD_eq_getElem?_getD, hlt]
        have e2 : ys.getD k 0 = ys[k] := by simp [List.getD_eq_getElem?_getD, hlt2]
        have HX := Aside0.mk (HP.out _ (List.getElem_mem hlt) _ (List.getElem_mem hlt2))
        rw [← e1, ← e2] at HX HE
        have hki : (k : Int) < xs.length := by omega
        clear e1 e2
        generalize xs.getD k 0 = x at *
        generalize ys.getD k 0 = y at *
        go_wp2_with (fail)
        refine (HX.out _ hb.out).mono ?_
        rintro e w2 ⟨rfl, hb2⟩
        have HB3 := Aside0.mk (hbT hb.out hb2)
        clear hb2 E0 G0
        cases hpx : p x y with
        | true =>
          have HR := Aside0.mk (show eqF p xs ys = eqF p (xs.drop (k+1)) (ys.drop (k+1)) by rw [h0.out, HE.out, hpx, Bool.true_and])
          clear h0 HE HX hpx
          go_wp2
          go_roundw
          case rel => exact ⟨k + 1, by omega, by go_num, HR, HB3⟩
          case measure => simp [intOf]; omega
        | false =>
          have HR := Aside0.mk (show eqF p xs ys = false by rw [h0.out, HE.out, hpx, Bool.false_and])
          clear h0 HE HX hpx
          go_wp2
          go_ret
          exact ⟨ret_bool HR.out.symm, HB3.out⟩
      · obtain rfl : k = xs.length := by omega
        have HR := Aside0.mk (show eqF p xs ys = true by rw [h0.out]; exact eqF_end HN.out)
        clear h0
        go_wp2
        go_ret
        exact ⟨ret_bool HR.out.symm, hb.out⟩
  · have hB := bneT (a := xs.length) (b := ys.length) (by omega)
    have hB' : (xs.length != ys.length) = true := by simp [hn]
    have HR := Aside0.mk (eqF_len (p := p) hn)
    clear hn
    go_enter Try.func131, Try.ntmps131
    go_wp2
    go_ret
    exact ⟨ret_bool HR.out.symm, Below.refl _ _⟩
/-- The comparer's block. -/
def cmpC (As At : Option Addr) (n m c d bs ba : Nat) : Array Value := #[.slice As n c, .slice At m d, .map (some bs), .map (some ba)]
theorem cmp_cells {W : World} {g e : Nat} {As At : Option Addr} {n m c d bs ba : Nat} (h : W.heap[g]? = some (.cells (cmpC As At n m c d bs ba) e (0, 0))) :
    W.cell? ⟨g, 0, none⟩ = some (.slice As n c) ∧ W.cell? ⟨g, 1, none⟩ = some (.slice At m d) ∧ W.cell? ⟨g, 2, none⟩ = some (.map (some bs)) ∧ W.cell? ⟨g, 3, none⟩ = some (.map (some ba)) := ⟨(blk_cell h 0).trans rfl, (blk_cell h 1).trans rfl, (blk_cell h 2).trans rfl, (blk_cell h 3).trans rfl⟩
theorem one_cell {W : World} {g e : Nat} {v : Value} (h : W.heap[g]? = some (.cells #[v] e (0, 0))) : W.cell? ⟨g, 0, none⟩ = some v := (blk_cell h 0).trans rfl
theorem build_pair (a b : Int) (w : World) : (Instr.build 140 #[(0, .int .i64 a), (1, .int .i64 b)]).run Try.prog w = .ok (.agg #[.int .i64 a, .int .i64 b]) w := run_build w 140 _ _ (by kernel_rfl)
set_option maxHeartbeats 4000000 in
set_option maxRecDepth 100000 in
theorem one1_any (a b : Int) (bb bc : Nat) (As At : Option Addr) (n m c d bs ba : Nat) (ms : List ((Int × Int) × Bool)) (W : World) (hb : W.heap[bb]? = some (.cells #[.pointer (some ⟨bc, 0, none⟩)] 133 (0, 0))) (hc : W.heap[bc]? = some (.cells (cmpC As At n m c d bs ba) 138 (0, 0))) (hM : MapB W bs ms) :
    Calls Try.prog 132 #[.int .i64 a, .int .i64 b, .pointer (some ⟨bb, 0, none⟩)] W fun e w' => e = .returned (.bool (mgetB ms (a, b))) ∧ Below W.heap.size W w' := by
  have p0 := one_cell hb
  obtain ⟨c0, c1, c2, c3⟩ := cmp_cells hc
  have HM := Aside0.mk hM
  have bp := build_pair
  clear hb hc hM
  go_enter Try.func132, Try.ntmps132
  go_wp2_with (at_lookup; refine wp_lookB rfl _ _ rfl rfl HM.out a b rfl ?_)
  go_ret
  exact ⟨rfl, Below.refl _ _⟩
def gr1 (ms ma : List ((Int × Int) × Bool)) (k a : Int) : Bool := mgetB ms (a, k) || mgetB ma (a, k)
def gr2 (ma : List ((Int × Int) × Bool)) (i b : Int) : Bool := !mgetB ma (i, b)
set_option maxHeartbeats 4000000 in
set_option maxRecDepth 100000 in
theorem greater1_any (a k : Int) (bb bk bc : Nat) (As At : Option Addr) (n m c d bs ba : Nat) (ms ma : List ((Int × Int) × Bool)) (W : World) (hb : W.heap[bb]? = some (.cells #[.pointer (some ⟨bc, 0, none⟩)] 133 (0, 0))) (hk : W.heap[bk]? = some (.cells #[.int .i64 k] 3 (0, 0))) (hc : W.heap[bc]? = some (.cells (cmpC As At n m c d bs ba) 138 (0, 0))) (hM : MapB W bs ms) (hM2 : MapB W ba ma) :
    Calls Try.prog 151 #[.int .i64 a, .pointer (some ⟨bb, 0, none⟩), .pointer (some ⟨bk, 0, none⟩)] W fun e w' => e = .returned (.bool (gr1 ms ma k a)) ∧ Below W.heap.size W w' := by
  have p0 := one_cell hb
  have i0 := one_cell hk
  obtain ⟨c0, c1, c2, c3⟩ := cmp_cells hc
  have bp := build_pair
  have hr1 : ∀ d os, (Instr.lookup 136 (.map (some bs)) (.agg #[.int .i64 a, .int .i64 k]) false).run Try.prog (Go.Sort.grow (redrawn W d) os) = .ok (.bool (mgetB ms (a, k))) (Go.Sort.grow (redrawn W d) os) := fun d os => run_lookB (hM.below (below_regrown W d os)) a k
  have hr2 : ∀ d os, (Instr.lookup 136 (.map (some ba)) (.agg #[.int .i64 a, .int .i64 k]) false).run Try.prog (Go.Sort.grow (redrawn W d) os) = .ok (.bool (mgetB ma (a, k))) (Go.Sort.grow (redrawn W d) os) := fun d os => run_lookB (hM2.below (below_regrown W d os)) a k
  have q0 := fun d os => cell_regrown p0 d os
  have q1 := fun d os => cell_regrown i0 d os
  have q2 := fun d os => cell_regrown c2 d os
  have q3 := fun d os => cell_regrown c3 d os
  have HR : Aside0 (gr1 ms ma k a = (mgetB ms (a, k) || mgetB ma (a, k))) := ⟨rfl⟩
  clear hb hk hc hM hM2 p0 i0 c0 c1 c2 c3
  generalize mgetB ms (a, k) = x at *
  generalize mgetB ma (a, k) = y at *
  go_enter Try.func151, Try.ntmps151
  go_upto_region 1 with (fail)
  cases x with
  | true =>
    (refine wq_draws (by kernel_rfl) (by kernel_rfl) ?_; (repeat (refine wq_step (fun K hK => ?_); go_simp; first | (refine hK _ ?_; clear hK K) | (apply Exists.intro; refine ⟨fun _ => ?_, hK _ ?_⟩; ((fail)); clear hK K))); refine wq_nil ?_; intro W2 hbW2)
    go_wp2
    go_ret
    exact ⟨ret_bool HR.out.symm, hbW2⟩
  | false =>
    (refine wq_draws (by kernel_rfl) (by kernel_rfl) ?_; (repeat (refine wq_step (fun K hK => ?_); go_simp; first | (refine hK _ ?_; clear hK K) | (apply Exists.intro; refine ⟨fun _ => ?_, hK _ ?_⟩; ((fail)); clear hK K))); refine wq_nil ?_; intro W2 hbW2)
    go_wp2
    go_ret
    exact ⟨ret_bool HR.out.symm, hbW2⟩
end Go.Proofs.Ytcgnpmjkeifokaa
-- K92
/- order.(*comparer).greater. -/
namespace Go.Proofs.Ytcgnpmjkeifokaa
open Go.RowKit Go.Proofs.YtcgnpmjkeifokaaW.PrintWords
set_option linter.unusedVariables false
set_option linter.unusedSimpArgs false
set_option maxHeartbeats 4000000 in
set_option maxRecDepth 100000 in
theorem greater2_any (b i : Int) (bb bk bc : Nat) (As At : Option Addr) (n m c d bs ba : Nat) (ma : List ((Int × Int) × Bool)) (W : World) (hb : W.heap[bb]? = some (.cells #[.pointer (some ⟨bc, 0, none⟩)] 133 (0, 0))) (hk : W.heap[bk]? = some (.cells #[.int .i64 i] 3 (0, 0))) (hc : W.heap[bc]? = some (.cells (cmpC As At n m c d bs ba) 138 (0, 0))) (hM2 : MapB W ba ma) :
    Calls Try.prog 152 #[.int .i64 b, .pointer (some ⟨bb, 0, none⟩), .pointer (some ⟨bk, 0, none⟩)] W fun e w' => e = .returned (.bool (gr2 ma i b)) ∧ Below W.heap.size W w' := by
  have p0 := one_cell hb
  have i0 := one_cell hk
  obtain ⟨c0, c1, c2, c3⟩ := cmp_cells hc
  have bp := build_pair
  have hr2 : ∀ d os, (Instr.lookup 136 (.map (some ba)) (.agg #[.int .i64 i, .int .i64 b]) false).run Try.prog (Go.Sort.grow (redrawn W d) os) = .ok (.bool (mgetB ma (i, b))) (Go.Sort.grow (redrawn W d) os) := fun d os => run_lookB (hM2.below (below_regrown W d os)) i b
  have q0 := fun d os => cell_regrown p0 d os
  have q1 := fun d os => cell_regrown i0 d os
  have q3 := fun d os => cell_regrown c3 d os
  have HR : Aside0 (gr2 ma i b = !mgetB ma (i, b)) := ⟨rfl⟩
  clear hb hk hc hM2 p0 i0 c0 c1 c2 c3
  generalize mgetB ma (i, b) = y at *
  go_enter Try.func152, Try.ntmps152
  go_upto_region 1 with (fail)
  (refine wq_draws (by kernel_rfl) (by kernel_rfl) ?_; (repeat (refine wq_step (fun K hK => ?_); go_simp; first | (refine hK _ ?_; clear hK K) | (apply Exists.intro; refine ⟨fun _ => ?_, hK _ ?_⟩; ((fail)); clear hK K))); refine wq_nil ?_; intro W2 hbW2)
  go_wp2
  go_ret
  exact ⟨ret_bool HR.out.symm, hbW2⟩
def lexM (ms ma : List ((Int × Int) × Bool)) : List Int → List Int → Bool
  | a :: xs, b :: ys => if mgetB ms (a, b) = true then lexM ms ma xs ys else mgetB ma (a, b)
  | _, _ => false
theorem lexM_drop {ms ma : List ((Int × Int) × Bool)} {l l' : List Int} {i : Nat} (h : i < l.length) (h' : i < l'.length) : lexM ms ma (l.drop i) (l'.drop i) = if mgetB ms (l[i], l'[i]) = true then lexM ms ma (l.drop (i+1)) (l'.drop (i+1)) else mgetB ma (l[i], l'[i]) := by
  rw [List.drop_eq_getElem_cons h, List.drop_eq_getElem_cons h', lexM]
theorem lexM_end {ms ma : List ((Int × Int) × Bool)} {l l' : List Int} : lexM ms ma (l.drop l.length) l' = false := by
  rw [List.drop_length]; cases l' <;> rfl
def grB (ms ma : List ((Int × Int) × Bool)) (s t : Pt) (i k : Int) : Bool :=
  if 0 < s.f0.f0 then false else if anyB (gr1 ms ma k) s.f1 = true then true
  else if 0 < t.f0.f0 ∨ s.f0.f1 < t.f0.f1 ∨ anyB (gr2 ma i) t.f1 = true then false
  else if t.f0.f1 < s.f0.f1 then true else lexM ms ma s.f1 t.f1
theorem pt_cells {W : World} {g e : Nat} {x : Pt} {A2 A3 : Option Addr} {c2 c3 : Nat} (h : W.heap[g]? = some (.cells #[.int .i64 x.f0.f0, .int .i64 x.f0.f1, .slice A2 x.f0.f2.length c2, .slice A3 x.f1.length c3] e (0, 0))) :
    W.cell? ⟨g, 0, none⟩ = some (.int .i64 x.f0.f0) ∧ W.cell? ⟨g, 1, none⟩ = some (.int .i64 x.f0.f1) ∧ W.cell? ⟨g, 2, none⟩ = some (.slice A2 x.f0.f2.length c2) ∧ W.cell? ⟨g, 3, none⟩ = some (.slice A3 x.f1.length c3) := ⟨(blk_cell h 0).trans rfl, (blk_cell h 1).trans rfl, (blk_cell h 2).trans rfl, (blk_cell h 3).trans rfl⟩
theorem pair_cells {W : World} {g e : Nat} {a b : Int} (h : W.heap[g]? = some (.cells #[.int .i64 a, .int .i64 b] e (0, 0))) : W.cell? ⟨g, 0, none⟩ = some (.int .i64 a) ∧ W.cell? ⟨g, 1, none⟩ = some (.int .i64 b) := ⟨(blk_cell h 0).trans rfl, (blk_cell h 1).trans rfl⟩
set_option maxHeartbeats 4000000 in
set_option maxRecDepth 100000 in
theorem greaterM_any (s t : Pt) (i k : Int) (A2 A3 B2 B3 : Option Addr) (c2 c3 d2 d3 : Nat) (bc : Nat) (As At : Option Addr) (n m c d bs ba : Nat) (ms ma : List ((Int × Int) × Bool)) (w : World) (hc : w.heap[bc]? = some (.cells (cmpC As At n m c d bs ba) 138 (0, 0))) (hM : MapB w bs ms) (hM2 : MapB w ba ma)
    (hS : Kd.C (Kd.int .i64) w A3 s.f1.length s.f1) (hT : Kd.C (Kd.int .i64) w B3 t.f1.length t.f1) (hln : ¬ 0 < s.f0.f0 → ¬ 0 < t.f0.f0 → s.f0.f1 = t.f0.f1 → s.f1.length ≤ t.f1.length) :
    Calls Try.prog 133 #[.pointer (some ⟨bc, 0, none⟩), .agg #[.int .i64 s.f0.f0, .int .i64 s.f0.f1, .slice A2 s.f0.f2.length c2, .slice A3 s.f1.length c3], .agg #[.int .i64 t.f0.f0, .int .i64 t.f0.f1, .slice B2 t.f0.f2.length d2, .slice B3 t.f1.length d3], .int .i64 i, .int .i64 k] w
      fun e w' => e = .returned (.bool (grB ms ma s t i k)) ∧ Below w.heap.size w w' := by
  have hl1 := hS.2.1
  have hl2 := hT.2.1
  have HS := Aside0.mk hS
  have HT := Aside0.mk hT
  have HM := Aside0.mk hM
  have HM2 := Aside0.mk hM2
  have HC := Aside0.mk hc
  have HLN := Aside0.mk hln
  clear hS hT hM hM2 hc hln
  let o0 : Obj := .cells #[.pointer (some ⟨bc, 0, none⟩)] 133
  have g0 := blk_alloc (blk_alloc (blk_alloc (blk_alloc (newAt (w := w) (o := .cells #[.pointer (some ⟨bc, 0, none⟩)] 133) rfl) (.cells #[.int .i64 s.f0.f0, .int .i64 s.f0.f1, .slice A2 s.f0.f2.length c2, .slice A3 s.f1.length c3] 156)) (.cells #[.int .i64 t.f0.f0, .int .i64 t.f0.f1, .slice B2 t.f0.f2.length d2, .slice B3 t.f1.length d3] 156)) (.cells #[.int .i64 i] 3)) (.cells #[.int .i64 k] 3)
  have g1 := blk_alloc (blk_alloc (blk_alloc (newAt (w := w.alloc (.cells #[.pointer (some ⟨bc, 0, none⟩)] 133)) (k := w.heap.size + 1) (o := .cells #[.int .i64 s.f0.f0, .int .i64 s.f0.f1, .slice A2 s.f0.f2.length c2, .slice A3 s.f1.length c3] 156) (by simp)) (.cells #[.int .i64 t.f0.f0, .int .i64 t.f0.f1, .slice B2 t.f0.f2.length d2, .slice B3 t.f1.length d3] 156)) (.cells #[.int .i64 i] 3)) (.cells #[.int .i64 k] 3)
  have g2 := blk_alloc (blk_alloc (newAt (w := (w.alloc (.cells #[.pointer (some ⟨bc, 0, none⟩)] 133)).alloc (.cells #[.int .i64 s.f0.f0, .int .i64 s.f0.f1, .slice A2 s.f0.f2.length c2, .slice A3 s.f1.length c3] 156)) (k := w.heap.size + 1 + 1) (o := .cells #[.int .i64 t.f0.f0, .int .i64 t.f0.f1, .slice B2 t.f0.f2.length d2, .slice B3 t.f1.length d3] 156) (by simp)) (.cells #[.int .i64 i] 3)) (.cells #[.int .i64 k] 3)
  have g3 := blk_alloc (newAt (w := ((w.alloc (.cells #[.pointer (some ⟨bc, 0, none⟩)] 133)).alloc (.cells #[.int .i64 s.f0.f0, .int .i64 s.f0.f1, .slice A2 s.f0.f2.length c2, .slice A3 s.f1.length c3] 156)).alloc (.cells #[.int .i64 t.f0.f0, .int .i64 t.f0.f1, .slice B2 t.f0.f2.length d2, .slice B3 t.f1.length d3] 156)) (k := w.heap.size + 1 + 1 + 1) (o := .cells #[.int .i64 i] 3) (by simp)) (.cells #[.int .i64 k] 3)
  have g4 := newAt (w := (((w.alloc (.cells #[.pointer (some ⟨bc, 0, none⟩)] 133)).alloc (.cells #[.int .i64 s.f0.f0, .int .i64 s.f0.f1, .slice A2 s.f0.f2.length c2, .slice A3 s.f1.length c3] 156)).alloc (.cells #[.int .i64 t.f0.f0, .int .i64 t.f0.f1, .slice B2 t.f0.f2.length d2, .slice B3 t.f1.length d3] 156)).alloc (.cells #[.int .i64 i] 3)) (k := w.heap.size + 1 + 1 + 1 + 1) (o := .cells #[.int .i64 k] 3) (by simp)
  have HB := Aside0.mk (below_alloc (below_alloc (below_alloc (below_alloc (below_alloc (Below.refl w.heap.size w) (.cells #[.pointer (some ⟨bc, 0, none⟩)] 133)) (.cells #[.int .i64 s.f0.f0, .int .i64 s.f0.f1, .slice A2 s.f0.f2.length c2, .slice A3 s.f1.length c3] 156)) (.cells #[.int .i64 t.f0.f0, .int .i64 t.f0.f1, .slice B2 t.f0.f2.length d2, .slice B3 t.f1.length d3] 156)) (.cells #[.int .i64 i] 3)) (.cells #[.int .i64 k] 3))
  clear o0
  go_enter Try.func133, Try.ntmps133
  go_upto_region 1 with (fail)
  generalize ((((w.alloc (.cells #[.pointer (some ⟨bc, 0, none⟩)] 133)).alloc (.cells #[.int .i64 s.f0.f0, .int .i64 s.f0.f1, .slice A2 s.f0.f2.length c2, .slice A3 s.f1.length c3] 156)).alloc (.cells #[.int .i64 t.f0.f0, .int .i64 t.f0.f1, .slice B2 t.f0.f2.length d2, .slice B3 t.f1.length d3] 156)).alloc (.cells #[.int .i64 i] 3)).alloc (.cells #[.int .i64 k] 3) = W at *
  have G0 := Aside0.mk g0
  have G1 := Aside0.mk g1
  have G2 := Aside0.mk g2
  have G3 := Aside0.mk g3
  have G4 := Aside0.mk g4
  clear g0 g1 g2 g3 g4
  obtain ⟨s0, s1, s2, s3⟩ := pt_cells G1.out
  by_cases h0 : 0 < s.f0.f0
  · have HR : Aside0 (grB ms ma s t i k = false) := ⟨by unfold grB; rw [if_pos h0]⟩
    go_wp2
    go_ret
    exact ⟨ret_bool HR.out.symm, HB.out⟩
  · have HR0 : Aside0 (grB ms ma s t i k = if anyB (gr1 ms ma k) s.f1 = true then true else if 0 < t.f0.f0 ∨ s.f0.f1 < t.f0.f1 ∨ anyB (gr2 ma i) t.f1 = true then false else if t.f0.f1 < s.f0.f1 then true else lexM ms ma s.f1 t.f1) := ⟨by unfold grB; rw [if_neg h0]⟩
    have H0 := Aside0.mk h0
    have HCW := Aside0.mk ((HB.out.block _ (blk_lt HC.out)).trans HC.out)
    have HMW := Aside0.mk (HM.out.below HB.out)
    have HMW2 := Aside0.mk (HM2.out.below HB.out)
    have C1 := Aside0.mk (containsFunc_int 151 #[.pointer (some ⟨w.heap.size, 0, none⟩), .pointer (some ⟨w.heap.size + 1 + 1 + 1 + 1, 0, none⟩)] (gr1 ms ma k) (enters_of Try.func151 (by kernel_rfl) rfl) s.f1 A3 c3 W (Kd.C_below HS.out HB.out) (fun x _ W' hb => greater1_any x k w.heap.size (w.heap.size + 1 + 1 + 1 + 1) bc As At n m c d bs ba ms ma W' ((hb.block _ (blk_lt G0.out)).trans G0.out) ((hb.block _ (blk_lt G4.out)).trans G4.out) ((hb.block _ (blk_lt HCW.out)).trans HCW.out) (HMW.out.below hb) (HMW2.out.below hb)))
    go_wp2_with (fail)
    refine C1.out.mono ?_
    rintro e w2 ⟨rfl, hb2⟩
    have HB2 := Aside0.mk hb2
    clear hb2 C1 s0 s1 s2 s3
    have HW2 := Aside0.mk (hbT HB.out HB2.out)
    cases ha : anyB (gr1 ms ma k) s.f1 with
    | true =>
      have HR : Aside0 (grB ms ma s t i k = true) := ⟨by rw [HR0.out, if_pos ha]⟩
      clear ha
      go_wp2
      go_ret
      exact ⟨ret_bool HR.out.symm, HW2.out⟩
    | false =>
      have HR1 : Aside0 (grB ms ma s t i k = if 0 < t.f0.f0 ∨ s.f0.f1 < t.f0.f1 ∨ anyB (gr2 ma i) t.f1 = true then false else if t.f0.f1 < s.f0.f1 then true else lexM ms ma s.f1 t.f1) := ⟨by rw [HR0.out, if_neg (by rw [ha]; decide)]⟩
      clear ha HR0
      obtain ⟨s0, s1, s2, s3⟩ := pt_cells ((HB2.out.block _ (blk_lt G1.out)).trans G1.out)
      obtain ⟨t0, t1, t2, t3⟩ := pt_cells ((HB2.out.block _ (blk_lt G2.out)).trans G2.out)
      by_cases h1 : 0 < t.f0.f0
      · have HR : Aside0 (grB ms ma s t i k = false) := ⟨by rw [HR1.out, if_pos (.inl h1)]⟩
        go_wp2
        go_ret
        exact ⟨ret_bool HR.out.symm, HW2.out⟩
      · by_cases h2 : s.f0.f1 < t.f0.f1
        · have HR : Aside0 (grB ms ma s t i k = false) := ⟨by rw [HR1.out, if_pos (.inr (.inl h2))]⟩
          go_wp2
          go_ret
          exact ⟨ret_bool HR.out.symm, HW2.out⟩
        · have G02 := Aside0.mk ((HB2.out.block _ (blk_lt G0.out)).trans G0.out)
          have G32 := Aside0.mk ((HB2.out.block _ (blk_lt G3.out)).trans G3.out)
          have HC2 := Aside0.mk ((HB2.out.block _ (blk_lt HCW.out)).trans HCW.out)
          have HMA2 := Aside0.mk (HMW2.out.below HB2.out)
          have C2 := Aside0.mk (containsFunc_int 152 #[.pointer (some ⟨w.heap.size, 0, none⟩), .pointer (some ⟨w.heap.size + 1 + 1 + 1, 0, none⟩)] (gr2 ma i) (enters_of Try.func152 (by kernel_rfl) rfl) t.f1 B3 d3 w2 (Kd.C_below HT.out HW2.out) (fun x _ W' hb => greater2_any x i w.heap.size (w.heap.size + 1 + 1 + 1) bc As At n m c d bs ba ma W' ((hb.block _ (blk_lt G02.out)).trans G02.out) ((hb.block _ (blk_lt G32.out)).trans G32.out) ((hb.block _ (blk_lt HC2.out)).trans HC2.out) (HMA2.out.below hb)))
          go_wp2_with (fail)
          refine C2.out.mono ?_
          rintro e w3 ⟨rfl, hb3⟩
          have HB3 := Aside0.mk (hbT HB2.out hb3)
          clear hb3 C2 s0 s1 s2 s3 t0 t1 t2 t3 G02 G32 HC2 HMA2
          have HW3 := Aside0.mk (hbT HB.out HB3.out)
          cases hb : anyB (gr2 ma i) t.f1 with
          | true =>
            have HR : Aside0 (grB ms ma s t i k = false) := ⟨by rw [HR1.out, if_pos (.inr (.inr hb))]⟩
            clear hb
            go_wp2
            go_ret
            exact ⟨ret_bool HR.out.symm, HW3.out⟩
          | false =>
            have HR2 : Aside0 (grB ms ma s t i k = if t.f0.f1 < s.f0.f1 then true else lexM ms ma s.f1 t.f1) := ⟨by rw [HR1.out, if_neg (by rw [hb]; simp [h1, h2])]⟩
            clear hb HR1
            obtain ⟨s0, s1, s2, s3⟩ := pt_cells ((HB3.out.block _ (blk_lt G1.out)).trans G1.out)
            obtain ⟨t0, t1, t2, t3⟩ := pt_cells ((HB3.out.block _ (blk_lt G2.out)).trans G2.out)
            by_cases h3 : t.f0.f1 < s.f0.f1
            · have HR : Aside0 (grB ms ma s t i k = true) := ⟨by rw [HR2.out, if_pos h3]⟩
              go_wp2
              go_ret
              exact ⟨ret_bool HR.out.symm, HW3.out⟩
            · have HR3 : Aside0 (grB ms ma s t i k = lexM ms ma s.f1 t.f1) := ⟨by rw [HR2.out, if_neg h3]⟩
              have hle := HLN.out H0.out h1 (by omega)
              go_wp2
              clear s0 s1 s2 s3 t0 t1 t2 t3 HR2
              go_loopw [55] (fun i' wr => ∃ j : Nat, j ≤ s.f1.length ∧ i' = .int .i64 j ∧ Aside0 (lexM ms ma s.f1 t.f1 = lexM ms ma (s.f1.drop j) (t.f1.drop j)) ∧ Aside0 (Below w3.heap.size w3 wr)) (fun i' _ => s.f1.length - (intOf i').toNat)
              case atStart => exact ⟨0, by omega, rfl, ⟨by simp⟩, ⟨Below.refl _ _⟩⟩
              case round =>
                obtain ⟨j, hj, rfl, HJ, HBr⟩ := hrel
                have HB3r := Aside0.mk (hbT HB3.out HBr.out)
                have HWr := Aside0.mk (hbT HB.out HB3r.out)
                by_cases hlt : j < s.f1.length
                · have hlt2 : j < t.f1.length := by omega
                  obtain ⟨ad, rfl, E0⟩ := at_Int (Kd.C_below HS.out HWr.out) (j : Int) (by omega) (by omega)
                  obtain ⟨bd, rfl, F0⟩ := at_Int (Kd.C_below HT.out HWr.out) (j : Int) (by omega) (by omega)
                  simp only [Int.toNat_natCast] at E0 F0
                  have HX := Aside0.mk (lexM_drop (ms := ms) (ma := ma) hlt hlt2)
                  have e1 : s.f1.getD j 0 = s.f1[j] := by simp [List.getD_eq_getElem?_getD, hlt]
                  have e2 : t.f1.getD j 0 = t.f1[j] := by simp [List.getD_eq_getElem?_getD, hlt2]
                  rw [← e1, ← e2] at HX
                  clear e1 e2
                  generalize s.f1.getD j 0 = a at *
                  generalize t.f1.getD j 0 = b at *
                  have hji : (j : Int) < s.f1.length := by omega
                  have hji2 : (j : Int) < t.f1.length := by omega
                  obtain ⟨t0, t1, t2, t3⟩ := pt_cells ((HB3r.out.block _ (blk_lt G2.out)).trans G2.out)
                  have bp := build_pair
                  have HBn := Aside0.mk (below_alloc (Below.refl wr.heap.size wr) (.cells #[.int .i64 a, .int .i64 b] 140))
                  have HN := Aside0.mk (heap_alloc_new wr (.cells #[.int .i64 a, .int .i64 b] 140))
                  go_upto_region 13 with (fail)
                  generalize wr.alloc (.cells #[.int .i64 a, .int .i64 b] 140) = W4 at *
                  clear t0 t1 t2 t3 E0 F0 bp
                  have HW4 := Aside0.mk (hbT HB3r.out HBn.out)
                  have p0 := one_cell ((HW4.out.block _ (blk_lt G0.out)).trans G0.out)
                  obtain ⟨c0, c1, c2', c3'⟩ := cmp_cells ((HW4.out.block _ (blk_lt HCW.out)).trans HCW.out)
                  obtain ⟨n0, n1⟩ := pair_cells HN.out
                  have hr1 : ∀ d os, (Instr.lookup 136 (.map (some bs)) (.agg #[.int .i64 a, .int .i64 b]) false).run Try.prog (Go.Sort.grow (redrawn W4 d) os) = .ok (.bool (mgetB ms (a, b))) (Go.Sort.grow (redrawn W4 d) os) := fun d os => run_lookB ((HMW.out.below HW4.out).below (below_regrown W4 d os)) a b
                  have q0 := fun d os => cell_regrown p0 d os
                  have q1 := fun d os => cell_regrown n0 d os
                  have q2 := fun d os => cell_regrown n1 d os
                  have q3 := fun d os => cell_regrown c2' d os
                  have HBX := Aside0.mk (hbT HBr.out HBn.out)
                  cases hx : mgetB ms (a, b) with
                  | true =>
                    have HR5 : Aside0 (lexM ms ma s.f1 t.f1 = lexM ms ma (s.f1.drop (j+1)) (t.f1.drop (j+1))) := ⟨by rw [HJ.out, HX.out, if_pos hx]⟩
                    rw [hx] at hr1
                    clear hx c0 c1 c2' c3' n0 n1 p0
                    (refine wq_draws (by kernel_rfl) (by kernel_rfl) ?_; (repeat (refine wq_step (fun K hK => ?_); go_simp; first | (refine hK _ ?_; clear hK K) | (apply Exists.intro; refine ⟨fun _ => ?_, hK _ ?_⟩; ((fail)); clear hK K))); refine wq_nil ?_; intro W2 hbW2)
                    have HBW := Aside0.mk (hbT HBX.out hbW2)
                    clear hr1 q0 q1 q2 q3 hbW2
                    go_wp2
                    go_roundw
                    case rel => exact ⟨j + 1, by omega, by go_num, HR5, HBW⟩
                    case measure => simp [intOf]; omega
                  | false =>
                    have HR5 : Aside0 (grB ms ma s t i k = mgetB ma (a, b)) := ⟨by rw [HR3.out, HJ.out, HX.out, if_neg (by rw [hx]; decide)]⟩
                    rw [hx] at hr1
                    clear hx c0 c1 c2' c3' n0 n1 p0
                    (refine wq_draws (by kernel_rfl) (by kernel_rfl) ?_; (repeat (refine wq_step (fun K hK => ?_); go_simp; first | (refine hK _ ?_; clear hK K) | (apply Exists.intro; refine ⟨fun _ => ?_, hK _ ?_⟩; ((fail)); clear hK K))); refine wq_nil ?_; intro W2 hbW2)
                    have HW5 := Aside0.mk (hbT HW4.out hbW2)
                    have HW45 := Aside0.mk hbW2
                    clear hr1 q0 q1 q2 q3 hbW2
                    go_upto_region 14 with (fail)
                    have p0 := one_cell ((HW5.out.block _ (blk_lt G0.out)).trans G0.out)
                    obtain ⟨c0, c1, c2', c3'⟩ := cmp_cells ((HW5.out.block _ (blk_lt HCW.out)).trans HCW.out)
                    obtain ⟨n0, n1⟩ := pair_cells ((HW45.out.block _ (blk_lt HN.out)).trans HN.out)
                    rename World => W6
                    have hr1 : ∀ d os, (Instr.lookup 136 (.map (some ba)) (.agg #[.int .i64 a, .int .i64 b]) false).run Try.prog (Go.Sort.grow (redrawn W6 d) os) = .ok (.bool (mgetB ma (a, b))) (Go.Sort.grow (redrawn W6 d) os) := fun d os => run_lookB ((HMW2.out.below HW5.out).below (below_regrown W6 d os)) a b
                    have q0 := fun d os => cell_regrown p0 d os
                    have q1 := fun d os => cell_regrown n0 d os
                    have q2 := fun d os => cell_regrown n1 d os
                    have q3 := fun d os => cell_regrown c3' d os
                    clear c0 c1 c2' c3' n0 n1 p0
                    generalize mgetB ma (a, b) = y at *
                    (refine wq_draws (by kernel_rfl) (by kernel_rfl) ?_; (repeat (refine wq_step (fun K hK => ?_); go_simp; first | (refine hK _ ?_; clear hK K) | (apply Exists.intro; refine ⟨fun _ => ?_, hK _ ?_⟩; ((fail)); clear hK K))); refine wq_nil ?_; intro W2 hbW2)
                    go_wp2
                    go_ret
                    exact ⟨ret_bool HR5.out.symm, hbT HB.out (hbT HW5.out hbW2)⟩
                · obtain rfl : j = s.f1.length := by omega
                  have HR5 : Aside0 (grB ms ma s t i k = false) := ⟨by rw [HR3.out, HJ.out]; exact lexM_end⟩
                  go_wp2
                  go_ret
                  exact ⟨ret_bool HR5.out.symm, HWr.out⟩
end Go.Proofs.Ytcgnpmjkeifokaa
-- KCut
/- Ways that meet again: the goal behind them is told once, for whatever the ways leave. -/
namespace Go.Proofs.Ytcgnpmjkeifokaa
open Go.RowKit Go.Proofs.YtcgnpmjkeifokaaW.PrintWords
set_option linter.unusedVariables false
theorem addZ (g j : Nat) : (⟨g, 0, none⟩ : Addr).add j = ⟨g, 0 + j, none⟩ := by
  unfold Addr.add
  by_cases h : j = 0
  · rw [if_pos h, h]
  · rw [if_neg h]
theorem useT {T G : Prop} (h : T) (e : T = G) : G := e ▸ h
theorem cutT2 {G : Prop} {α β : Type} (S : α → β → World → Prop) (T : α → β → World → Prop) (main : (∀ a b w, S a b w → T a b w) → G) (key : ∀ a b w, S a b w → T a b w) : G := main key
end Go.Proofs.Ytcgnpmjkeifokaa
