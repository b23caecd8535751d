/- ModelHangs: in a model in which a clause holds all hold that it subsumes, and those that are always hold in all; a clause tidied holds just if it did: for every input. Part 2: the walks and plain laws that it uses. -/
import Derived.Shelf.Abstract
import Derived.Lib.SliceRun
import Derived.Deep.AppendLies
import Derived.ChangeArms
import Derived.Deep.Strs
import Derived.ChangeOld
import Derived.SizedLaws
import Derived.ProofKit
import Derived.OpenShut
import Derived.MapKept
import Derived.Maps.OwnOps
import Derived.Test.YtcgnpmjkeifokaaMMH1
-- K14
/- term.Mapped by a function that only reads and makes what is new; term.Copied. -/
namespace Go.Proofs.Ytcgnpmjkeifokaa
open Go.RowKit Go.Proofs.YtcgnpmjkeifokaaW.PrintWords
set_option linter.unusedVariables false
set_option linter.unusedSimpArgs false
mutual
def mapT (δ : Tm → Option Tm) : Tm → Tm
  | ⟨v, f, l⟩ => match δ ⟨v, f, l⟩ with | some u => u | none => ⟨v, f, mapL δ l⟩
def mapL (δ : Tm → Option Tm) : List Tm → List Tm
  | [] => []
  | t :: ts => mapT δ t :: mapL δ ts
end
theorem mapT_some {δ : Tm → Option Tm} {t u : Tm} (h : δ t = some u) : mapT δ t = u := by cases t; rw [mapT, h]
theorem mapT_none {δ : Tm → Option Tm} {t : Tm} (h : δ t = none) : mapT δ t = ⟨t.f0, t.f1, mapL δ t.f2⟩ := by cases t; rw [mapT, h]
theorem mapL_len (δ : Tm → Option Tm) (l : List Tm) : (mapL δ l).length = l.length := by
  induction l with
  | nil => simp [mapL]
  | cons t ts ih => simp [mapL, ih]
theorem mapL_append (δ : Tm → Option Tm) (a b : List Tm) : mapL δ (a ++ b) = mapL δ a ++ mapL δ b := by
  induction a with
  | nil => simp [mapL]
  | cons t ts ih => simp [mapL, ih]
theorem mapL_take_succ (δ : Tm → Option Tm) (l : List Tm) (i : Nat) (h : i < l.length) : mapL δ (l.take (i+1)) = mapL δ (l.take i) ++ [mapT δ (rd_Tm l i)] := by
  rw [List.take_succ_eq_append_getElem h, mapL_append, rd_get l i h]; simp [mapL]
/-- A function value that answers δ, reading what stands at w0 and making what is new. -/
def DoC (g : Nat) (lb : Array Value) (δ : Tm → Option Tm) (ok : Nat → Prop) (w0 : World) : Prop :=
  ∀ (x : Tm) (A : Option Addr) (c : Nat) (W : World), Below w0.heap.size w0 W → Kd.F kTm W ok A x.f2.length x.f2 → x.f2.length ≤ c →
    Calls Try.prog g (#[.agg #[.int .i64 x.f0, .int .i64 x.f1, .slice A x.f2.length c]] ++ lb) W fun e w' => ∃ (r : Tm) (A' : Option Addr) (c' : Nat), e = .returned (.tuple #[.agg #[.int .i64 r.f0, .int .i64 r.f1, .slice A' r.f2.length c'], .bool (δ x).isSome]) ∧ r.f2.length ≤ c' ∧
      (∀ u, δ x = some u → r = u ∧ Kd.F kTm w' (fun k => W.heap.size ≤ k) A' r.f2.length r.f2) ∧ Below W.heap.size W w'
theorem hbW {w w' : World} {B B' : Nat} (h : Below B w w') (hB : B' ≤ B) : Below B' w w' := ⟨h.os, h.tape, h.output, h.size, fun i hi => h.block i (Nat.lt_of_lt_of_le hi hB)⟩
set_option maxHeartbeats 4000000 in
set_option maxRecDepth 100000 in
theorem mapped_any (g : Nat) (lb : Array Value) (δ : Tm → Option Tm) (ok : Nat → Prop) (w0 : World) (eg : ∀ args w, (callFunc g args).run Try.prog w = .ok (.enter g args) w) (hd : DoC g lb δ ok w0) (m : Nat) :
    ∀ (t : Tm) (A : Option Addr) (c : Nat) (w : World), szT t ≤ m → szT t * 40 ≤ 140737488355328 → Below w0.heap.size w0 w → Kd.F kTm w (fun k => ok k ∧ k < w0.heap.size) A t.f2.length t.f2 → t.f2.length ≤ c →
    Calls Try.prog 106 #[.agg #[.int .i64 t.f0, .int .i64 t.f1, .slice A t.f2.length c], .func (.func g) #[] lb] w fun e w' => ∃ A' c', e = .returned (.agg #[.int .i64 (mapT δ t).f0, .int .i64 (mapT δ t).f1, .slice A' (mapT δ t).f2.length c']) ∧ (mapT δ t).f2.length ≤ c' ∧ Kd.F kTm w' (fun k => w.heap.size ≤ k) A' (mapT δ t).f2.length (mapT δ t).f2 ∧ Below w.heap.size w w' := by
  induction m with
  | zero => intro t A c w h; have := szT_pos t; omega
  | succ m ih =>
  intro t A c w hm hbd hB0 hF hc
  have hlen := Kd.F_max hF
  have IH := Aside0.mk ih
  have HD := Aside0.mk hd
  have HF := Aside0.mk hF
  have HM := Aside0.mk hm
  have HBD := Aside0.mk hbd
  have HS := Aside0.mk (szT_eq t)
  have HB0 := Aside0.mk hB0
  have hz0 := hB0.size
  clear hF ih hm hbd hd hB0
  have g0 := newAt (w := w) (o := .cells #[.int .i64 t.f0, .int .i64 t.f1, .slice A t.f2.length c] 46) rfl
  have g1 := blk_alloc g0 (.cells #[.int .i64 0, .int .i64 0, .slice none 0 0] 46)
  have g2 := newAt (w := w.alloc (.cells #[.int .i64 t.f0, .int .i64 t.f1, .slice A t.f2.length c] 46)) (o := .cells #[.int .i64 0, .int .i64 0, .slice none 0 0] 46) (k := w.heap.size + 1) (by simp)
  have HB := Aside0.mk (below_alloc (below_alloc (Below.refl w.heap.size w) (.cells #[.int .i64 t.f0, .int .i64 t.f1, .slice A t.f2.length c] 46)) (.cells #[.int .i64 0, .int .i64 0, .slice none 0 0] 46))
  go_enter Try.func106, Try.ntmps106
  go_upto_region 1 with (fail)
  generalize (w.alloc (.cells #[.int .i64 t.f0, .int .i64 t.f1, .slice A t.f2.length c] 46)).alloc (.cells #[.int .i64 0, .int .i64 0, .slice none 0 0] 46) = W at *
  have c0 := (blk_cell g1 0).trans rfl
  have c1 := (blk_cell g1 1).trans rfl
  have c2 := (blk_cell g1 2).trans rfl
  have HT := Aside0.mk g1
  have HR := Aside0.mk g2
  have hl1 := blk_lt g2
  clear g0 g1 g2
  have hWz : w0.heap.size ≤ W.heap.size := by have := HB.out.size; omega
  have HBW : Aside0 (Below w0.heap.size w0 W) := ⟨below_then HB0.out hz0 HB.out⟩
  have HFW := Aside0.mk (Kd.F_below HF.out HB.out)
  go_upto_region 2 with (first | (refine (HD.out t A c W HBW.out (Kd.F_mono HFW.out (fun _ h => h.1)) hc).mono ?_; rintro e w2 ⟨r, A', c', rfl, hrc, hru, hb2⟩; have HRU := Aside0.mk hru; have HB2 := Aside0.mk hb2; clear hru hb2 c0 c1 c2) | (((with_reducible refine gate_store (t := 46) (p := 5) rfl ?_); refine st_tm 5 rfl rfl rfl rfl rfl (heap_alloc_new _ _) ?_); intro w3 hs3 hG3 hz3; have HS3 := Aside0.mk hs3; have HG3 := Aside0.mk hG3; clear hs3 hG3))
  have g1 := HB2.out.block _ (blk_lt HT.out) |>.trans HT.out
  have g2 := HB2.out.block _ hl1 |>.trans HR.out
  have hz2 := HB2.out.size
  have HB23 := Aside0.mk (gbS (below_alloc (Below.refl w2.heap.size w2) _) HG3.out (Nat.le_refl _))
  have hz3' := HB23.out.size
  have p3 := (blk_cell HS3.out 0).trans rfl
  have p4 := (blk_cell HS3.out 1).trans rfl
  have p5 := (blk_cell HS3.out 2).trans rfl
  have HT3 := Aside0.mk ((HB23.out.block _ (blk_lt g1)).trans g1)
  have HR3 := Aside0.mk ((HB23.out.block _ (blk_lt g2)).trans g2)
  have HB3 := Aside0.mk (hbT (hbT HB.out HB2.out) HB23.out)
  clear g1 g2 HT HR HS3 HG3 hz3
  rcases hδ : δ t with _ | u
  · have hB : (δ t).isSome = false := by rw [hδ]; rfl
    have HE := Aside0.mk (mapT_none hδ)
    have hT3 := HT3.out
    have t2 := (blk_cell hT3 2).trans rfl
    have hl3 := blk_lt hT3
    clear hδ HRU p3 p4 p5 hT3
    simp only [Option.isSome_none]
    clear hB
    go_wp2
    go_loopw [7, 21] (fun v7 i wr => ∃ (k : Nat) (vk : Value), k ≤ t.f2.length ∧ i = .int .i64 k ∧ vk = v7 ∧ Aside0 (Kd.N kTm 46 wr (w.heap.size + 2) (fun k => w.heap.size + 2 ≤ k) vk (mapL δ (t.f2.take k))) ∧ Aside0 (Below w.heap.size w wr) ∧ Aside0 (wr.heap[w.heap.size]? = some (.cells #[.int .i64 t.f0, .int .i64 t.f1, .slice A t.f2.length c] 46 (0, 0))) ∧ Aside0 (wr.heap[w.heap.size + 1]? = some (.cells #[.int .i64 0, .int .i64 0, .slice none 0 0] 46 (0, 0)))) (fun _ i _ => t.f2.length - (intOf i).toNat)
    case atStart => exact ⟨0, _, by omega, rfl, rfl, ⟨by simpa [mapL] using Kd.N_nil kTm _ _ _ _⟩, HB3, HT3, HR3⟩
    case round =>
      obtain ⟨k, vk, hk, rfl, rfl, HNk, HBr, HTr, HRr⟩ := hrel
      have hzr := HBr.out.size
      have hl4 := blk_lt HRr.out
      by_cases hlt : k < t.f2.length
      · obtain ⟨ad, A2, c2, rfl, E0, E1, E2, hl2, hF2, _⟩ := at_TmF (Kd.F_below HF.out HBr.out) (k : Int) (by omega) (by omega)
        simp only [Int.toNat_natCast] at E0 E1 E2
        have HTm := Aside0.mk (szT_mem (rd_mem t.f2 k hlt))
        have HP := Aside0.mk (mapL_take_succ δ t.f2 k hlt)
        have HF2 := Aside0.mk hF2
        have HC2 := Aside0.mk hl2
        have HLt := Aside0.mk (Kd.N_lt HNk.out)
        clear hF2 hl2
        go_wp2_with (first | (((with_reducible refine gate_store (t := 46) (p := 9) rfl ?_); refine st_tm 9 rfl rfl rfl rfl rfl (heap_alloc_new _ _) ?_); intro w4 hs4 hG4 hz4; have s0 := (blk_cell hs4 0).trans rfl; have s1 := (blk_cell hs4 1).trans rfl; have s2 := (blk_cell hs4 2).trans rfl; have HBr4 := Aside0.mk (gbS (below_alloc (Below.refl wr.heap.size wr) _) hG4 (Nat.le_refl _)); have hz4' := HBr4.out.size; clear hs4 hG4 E0 E1 E2) | (go_at_call 106; refine (IH.out (rd_Tm t.f2 k) A2 c2 _ ?_ ?_ ?_ (Kd.F_below HF2.out HBr4.out) HC2.out).mono ?_; (have := HS.out; have := HM.out; have := HTm.out; omega); (have := HS.out; have := HBD.out; have := HTm.out; omega); exact below_then HB0.out hz0 (hbT HBr.out HBr4.out); rintro e w5 ⟨A5, c5, rfl, h5, hF5, hb5⟩; have HF5 := Aside0.mk hF5; have HB5 := Aside0.mk hb5; have hz5 := hb5.size; clear hF5 hb5) | (at_builtin; refine Kd.N_append kTm (w0 := w5) (w.heap.size + 2) rfl _ _ 44 46 _ 40 rfl Try.underlying44 infoTm rfl (by decide) (by decide) vk _ (mapT δ (rd_Tm t.f2 k)) _ (fun k => w.heap.size + 2 ≤ k) (fun k => w4.heap.size ≤ k) rfl rfl (kTm_mkF w5 _ _ h5 HF5.out) ?_ (fun k hk => by omega) (Kd.N_below (Kd.N_below HNk.out HBr4.out) HB5.out) (Below.refl _ _) (by omega) ?_ ?_; (intro k' hk'; refine ⟨by omega, fun e => ?_⟩; have := HLt.out _ e.symm; simp at hz4; omega); (have h1 := HS.out; have h2 := HBD.out; rw [mapL_len]; have h3 := szL_len t.f2; have h4 := List.length_take_le k t.f2; omega); intro v1 w6 hN1 hB1 hG1 hI1; have HN1 := Aside0.mk hN1; have HB1 := Aside0.mk hB1; clear hN1 hB1 hG1 hI1))
        go_roundw
        case rel =>
          have hb5 := hbT (hbT HBr.out HBr4.out) HB5.out
          exact ⟨k + 1, v1, by omega, by go_num, rfl, ⟨by rw [HP.out]; exact HN1.out⟩, ⟨hb5.trans (hbW HB1.out (by omega))⟩, ⟨(HB1.out.block _ (by omega)).trans ((HB5.out.block _ (by omega)).trans ((HBr4.out.block _ (by omega)).trans HTr.out))⟩, ⟨(HB1.out.block _ (by omega)).trans ((HB5.out.block _ (by omega)).trans ((HBr4.out.block _ (by omega)).trans HRr.out))⟩⟩
        case measure => simp [intOf]; omega
      · obtain rfl : k = t.f2.length := by omega
        obtain ⟨Av, cv, rfl⟩ := Kd.N_slice HNk.out
        have HN := Aside0.mk HNk.out
        simp only [List.take_length] at HN
        simp only [List.take_length]
        have hmc := (Kd.N_reads' HN.out).2.1
        have HNB := Aside0.mk (Kd.N_base HN.out)
        have HTr2 := HTr.out
        clear HNk
        go_wp2_with (first | (((with_reducible refine gate_store (t := 44) (p := 33) rfl ?_); refine st_args 33 rfl rfl rfl rfl rfl HTr.out ?_); intro w4 hs4 hG4 hz4; have HG4 := Aside0.mk hG4; have p0 := (blk_cell hs4 0).trans rfl; have p1 := (blk_cell hs4 1).trans rfl; have p2 := (blk_cell hs4 2).trans rfl; have HR4 := Aside0.mk ((hG4.block _ hl4 (by simp)).trans HRr.out); clear hs4 hG4 HTr2) | (((with_reducible refine gate_store (t := 46) (p := 4) rfl ?_); refine st_tm 4 rfl rfl rfl rfl rfl HR4.out ?_); intro w5 hs5 hG5 hz5; have HS5 := Aside0.mk hs5; have HG5 := Aside0.mk hG5; clear hs5 hG5 p0 p1 p2))
        ((try simp only [Exit.inBlock, Exit.then]); refine bodyPost_ret (results_cell_row rfl _ _ _ 46 _ (0, 0) _ rfl HS5.out Try.underlying46 rfl (by kernel_rfl)) rfl ?_)
        exact ⟨Av, cv, by rw [HE.out], by rw [HE.out]; exact hmc, by rw [HE.out]; exact Kd.F_mono (Kd.F_grown (Kd.F_grown (Kd.N_F HN.out) HG4.out (fun k hk => by intro e; injection e with e; omega)) HG5.out (fun k hk => by intro e; injection e with e; omega)) (fun k hk => by omega), gbS (gbS HBr.out HG4.out (by omega)) HG5.out (by omega)⟩
  · have hB : (δ t).isSome = true := by rw [hδ]; rfl
    obtain ⟨hru, hFu⟩ := HRU.out u hδ
    have HE := Aside0.mk ((mapT_some hδ).trans hru.symm)
    have HFu := Aside0.mk hFu
    clear hFu hru hδ HRU
    go_wp2_with (((with_reducible refine gate_store (t := 46) (p := 4) rfl ?_); refine st_tm 4 rfl rfl rfl rfl rfl HR3.out ?_); intro w4 hs4 hG4 hz4; have HS4 := Aside0.mk hs4; have HG4 := Aside0.mk hG4; clear hs4 hG4 p3 p4 p5)
    ((try simp only [Exit.inBlock, Exit.then]); refine bodyPost_ret (results_cell_row rfl _ _ _ 46 _ (0, 0) _ rfl HS4.out Try.underlying46 rfl (by kernel_rfl)) rfl ?_)
    exact ⟨A', c', by rw [HE.out], by rw [HE.out]; exact hrc, by rw [HE.out]; exact Kd.F_mono (Kd.F_grown (Kd.F_below HFu.out HB23.out) HG4.out (fun k hk => by intro e; injection e with e; omega)) (fun k hk => by omega), gbS HB3.out HG4.out (by omega)⟩
theorem copied1_any (x : Tm) (A : Option Addr) (c : Nat) (W : World) (hF : Kd.F kTm W (fun _ => True) A x.f2.length x.f2) :
    Calls Try.prog 107 #[.agg #[.int .i64 x.f0, .int .i64 x.f1, .slice A x.f2.length c]] W fun e w' => e = .returned (.tuple #[.agg #[.int .i64 x.f0, .int .i64 x.f1, .slice A x.f2.length c], .bool false]) ∧ Below W.heap.size W w' := by
  have g0 := newAt (w := W) (o := .cells #[.int .i64 x.f0, .int .i64 x.f1, .slice A x.f2.length c] 46) rfl
  have g1 := blk_alloc g0 (.cells #[.int .i64 0, .int .i64 0, .slice none 0 0] 46)
  have g2 := newAt (w := W.alloc (.cells #[.int .i64 x.f0, .int .i64 x.f1, .slice A x.f2.length c] 46)) (o := .cells #[.int .i64 0, .int .i64 0, .slice none 0 0] 46) (k := W.heap.size + 1) (by simp)
  have HB := Aside0.mk (below_alloc (below_alloc (Below.refl W.heap.size W) (.cells #[.int .i64 x.f0, .int .i64 x.f1, .slice A x.f2.length c] 46)) (.cells #[.int .i64 0, .int .i64 0, .slice none 0 0] 46))
  clear hF
  go_enter Try.func107, Try.ntmps107
  go_upto_region 1 with (fail)
  generalize (W.alloc (.cells #[.int .i64 x.f0, .int .i64 x.f1, .slice A x.f2.length c] 46)).alloc (.cells #[.int .i64 0, .int .i64 0, .slice none 0 0] 46) = W2 at *
  have c0 := (blk_cell g1 0).trans rfl
  have c1 := (blk_cell g1 1).trans rfl
  have c2 := (blk_cell g1 2).trans rfl
  have HR := Aside0.mk g2
  clear g0 g1 g2
  go_wp2_with (((with_reducible refine gate_store (t := 46) (p := 2) rfl ?_); refine st_tm 2 rfl rfl rfl rfl rfl HR.out ?_); intro w1 hs1 hG1 hz1; have HS1 := Aside0.mk hs1; have HG1 := Aside0.mk hG1; clear hs1 hG1 c0 c1 c2)
  ((try simp only [Exit.inBlock, Exit.then]); refine bodyPost_ret (results_ct rfl _ _ _ 46 _ (0, 0) _ rfl HS1.out Try.underlying46 rfl (by kernel_rfl)) rfl ?_)
  exact ⟨rfl, gbS HB.out HG1.out (by omega)⟩
theorem mapT_id (t : Tm) : mapT (fun _ => none) t = t := by
  refine Tm.rec (motive_1 := fun t => mapT (fun _ => none) t = t) (motive_2 := fun l => mapL (fun _ => none) l = l) ?_ ?_ ?_ t
  · intro v f l ih; rw [mapT_none rfl, ih]
  · rfl
  · intro t ts h1 h2; rw [mapL, h1, h2]
set_option maxHeartbeats 4000000 in
set_option maxRecDepth 100000 in
theorem copied_any (t : Tm) (A : Option Addr) (c : Nat) (ok : Nat → Prop) (w : World) (hbd : szT t * 40 ≤ 140737488355328) (hF : Kd.F kTm w ok A t.f2.length t.f2) (hc : t.f2.length ≤ c) :
    Calls Try.prog 67 #[.agg #[.int .i64 t.f0, .int .i64 t.f1, .slice A t.f2.length c]] w fun e w' => ∃ A' c', e = .returned (.agg #[.int .i64 t.f0, .int .i64 t.f1, .slice A' t.f2.length c']) ∧ t.f2.length ≤ c' ∧ Kd.F kTm w' (fun k => w.heap.size ≤ k) A' t.f2.length t.f2 ∧ Below w.heap.size w w' := by
  have hlen := Kd.F_max hF
  have HF := Aside0.mk (Kd.F_bound hF)
  have g0 := newAt (w := w) (o := .cells #[.int .i64 t.f0, .int .i64 t.f1, .slice A t.f2.length c] 46) rfl
  have g1 := blk_alloc g0 (.cells #[.int .i64 0, .int .i64 0, .slice none 0 0] 46)
  have g2 := newAt (w := w.alloc (.cells #[.int .i64 t.f0, .int .i64 t.f1, .slice A t.f2.length c] 46)) (o := .cells #[.int .i64 0, .int .i64 0, .slice none 0 0] 46) (k := w.heap.size + 1) (by simp)
  have HB := Aside0.mk (below_alloc (below_alloc (Below.refl w.heap.size w) (.cells #[.int .i64 t.f0, .int .i64 t.f1, .slice A t.f2.length c] 46)) (.cells #[.int .i64 0, .int .i64 0, .slice none 0 0] 46))
  clear hF
  go_enter Try.func67, Try.ntmps67
  go_upto_region 1 with (fail)
  generalize (w.alloc (.cells #[.int .i64 t.f0, .int .i64 t.f1, .slice A t.f2.length c] 46)).alloc (.cells #[.int .i64 0, .int .i64 0, .slice none 0 0] 46) = W at *
  have c0 := (blk_cell g1 0).trans rfl
  have c1 := (blk_cell g1 1).trans rfl
  have c2 := (blk_cell g1 2).trans rfl
  have HR := Aside0.mk g2
  have hl1 := blk_lt g2
  clear g0 g1 g2
  have HM : Aside0 (∀ A c, Kd.F kTm W (fun k => ok k ∧ k < w.heap.size) A t.f2.length t.f2 → t.f2.length ≤ c → Calls Try.prog 106 #[.agg #[.int .i64 t.f0, .int .i64 t.f1, .slice A t.f2.length c], .func (.func 107) #[] #[]] W fun e w' => ∃ A' c', e = .returned (.agg #[.int .i64 t.f0, .int .i64 t.f1, .slice A' t.f2.length c']) ∧ t.f2.length ≤ c' ∧ Kd.F kTm w' (fun k => W.heap.size ≤ k) A' t.f2.length t.f2 ∧ Below W.heap.size W w') := ⟨by
    intro A c hF hc
    have := mapped_any 107 #[] (fun _ => none) (fun _ => True) W (enters_of Try.func107 (by kernel_rfl) rfl) (fun x A c W' hB hF hc => (copied1_any x A c W' hF).mono fun e w' h => ⟨x, A, c, h.1, hc, (fun u h' => nomatch h'), h.2⟩) (szT t) t A c W (Nat.le_refl _) hbd (Below.refl _ _) (Kd.F_mono (Kd.F_bound hF) (fun k hk => ⟨trivial, hk.2⟩)) hc
    rwa [mapT_id] at this⟩
  go_wp2_with (first | (go_at_call 106; refine (HM.out A c (Kd.F_below HF.out HB.out) hc).mono ?_; rintro e w2 ⟨A', c', rfl, hc', hF2, hb2⟩; have HF2 := Aside0.mk hF2; have HB2 := Aside0.mk hb2; have HR2 := Aside0.mk ((hb2.block _ hl1).trans HR.out); clear hF2 hb2 c0 c1 c2) | (((with_reducible refine gate_store (t := 46) (p := 2) rfl ?_); refine st_tm 2 rfl rfl rfl rfl rfl HR2.out ?_); intro w1 hs1 hG1 hz1; have HS1 := Aside0.mk hs1; have HG1 := Aside0.mk hG1; clear hs1 hG1))
  ((try simp only [Exit.inBlock, Exit.then]); refine bodyPost_ret (results_cell_row rfl _ _ _ 46 _ (0, 0) _ rfl HS1.out Try.underlying46 rfl (by kernel_rfl)) rfl ?_)
  exact ⟨A', c', rfl, hc', Kd.F_mono (Kd.F_grown HF2.out HG1.out (fun k hk => by intro e; injection e with e; omega)) (fun k hk => by omega), gbS (hbT HB.out HB2.out) HG1.out (by omega)⟩
end Go.Proofs.Ytcgnpmjkeifokaa
-- K15
/- slices.Clone of terms; term.Lay. -/
namespace Go.Proofs.Ytcgnpmjkeifokaa
open Go.RowKit Go.Proofs.YtcgnpmjkeifokaaW.PrintWords
set_option linter.unusedVariables false
set_option linter.unusedSimpArgs false
def layP : Tm → List Int → Tm → Tm
  | _, [], u => u
  | t, i :: p, u => ⟨t.f0, t.f1, t.f2.set i.toNat (layP (rd_Tm t.f2 i) p u)⟩
theorem atB_cons {t : Tm} {y : Int} {p : List Int} (h : atB t (y :: p) = true) : 0 ≤ y ∧ y < t.f2.length ∧ atB (rd_Tm t.f2 y) p = true := by
  unfold atB at h ⊢
  rw [atP] at h
  by_cases hb : 0 ≤ y ∧ y < t.f2.length
  · rw [if_pos hb] at h; exact ⟨hb.1, hb.2, h⟩
  · rw [if_neg hb] at h; cases h
theorem rd_mem' (l : List Tm) (y : Int) (h0 : 0 ≤ y) (h1 : y < l.length) : rd_Tm l y ∈ l := by
  have := rd_mem l y.toNat (by omega)
  rwa [show ((y.toNat : Nat) : Int) = y by omega] at this
end Go.Proofs.Ytcgnpmjkeifokaa
-- K16
/- superposeref.PutOf. -/
namespace Go.Proofs.Ytcgnpmjkeifokaa
open Go.RowKit Go.Proofs.YtcgnpmjkeifokaaW.PrintWords
set_option linter.unusedVariables false
set_option linter.unusedSimpArgs false
def putP : Tm → List Int → Tm → Tm
  | _, [], u => u
  | t, i :: p, u => ⟨0, t.f1, t.f2.set i.toNat (putP (rd_Tm t.f2 i) p u)⟩
theorem addB (a : Addr) (n : Nat) : (a.add n).block = a.block := by unfold Addr.add; split <;> rfl
theorem oldg {w w' : World} {row : Option Nat} (h : w.grownBy w' row) {a : Addr} {v : Value} (hv : w.cell? a = some v) (hne : some a.block ≠ row) : w'.cell? a = some v := by
  have := h.block a.block (World.block_lt_of_cell? w _ hv) hne
  unfold World.cell? at hv ⊢
  rw [this]; exact hv
theorem set_take_succ (l : List Tm) (i k : Nat) (r : Tm) (h : k < l.length) : (l.set i r).take (k+1) = (l.set i r).take k ++ [if i = k then r else rd_Tm l k] := by
  rw [List.take_succ_eq_append_getElem (by simpa using h), List.getElem_set, rd_get l k h]
theorem gbU {w w1 w2 : World} {row : Option Nat} (h : Below w.heap.size w w1) (k : w1.grownBy w2 row) (hr : ∀ b, b < w.heap.size → some b ≠ row) : Below w.heap.size w w2 :=
  ⟨k.os.trans h.os, k.tape.trans h.tape, k.output.trans h.output, Nat.le_trans h.size k.size, fun i hi => (k.block i (Nat.lt_of_lt_of_le hi h.size) (hr i hi)).trans (h.block i hi)⟩
end Go.Proofs.Ytcgnpmjkeifokaa
-- K17
/- term.At, term.Put, superposelaw.fn, va, small, termIs. -/
namespace Go.Proofs.Ytcgnpmjkeifokaa
open Go.RowKit Go.Proofs.YtcgnpmjkeifokaaW.PrintWords
set_option linter.unusedVariables false
set_option linter.unusedSimpArgs false
/-- What At answers. -/
def atE (g : List Int) (t : Tm) (p : List Int) : Int := if chkTs g [t] ≠ 0 then chkTs g [t] else if atB t p then 0 else 5
def atR (g : List Int) (t : Tm) (p : List Int) : Tm := if chkTs g [t] ≠ 0 then zTm else atT t p
theorem chkTs_ok {g : List Int} {l : List Tm} (h : chkTs g l = 0) : sigE g = 0 ∧ ∀ x ∈ l, okT g x := by
  unfold chkTs at h
  by_cases hs : sigE g = 0
  · refine ⟨hs, ?_⟩
    rw [if_neg (by simpa using hs)] at h
    induction l with
    | nil => intro x hx; cases hx
    | cons a l ih =>
      simp only [fe] at h
      by_cases ha : chkT g a = 0
      · simp only [ha, ne_eq, not_true_eq_false, if_false] at h
        intro x hx
        cases hx with
        | head => exact chkT_ok.1 ha
        | tail _ hx => exact ih h x hx
      · simp only [ne_eq, ha, not_false_eq_true, if_true] at h
  · rw [if_pos hs] at h; exact absurd h hs
theorem atT_none {t : Tm} {p : List Int} (h : atB t p = false) : atT t p = zTm := by
  unfold atT; unfold atB at h
  cases hh : atP t p with
  | none => rfl
  | some x => rw [hh] at h; cases h
theorem atP_sz : ∀ (p : List Int) (t x : Tm), atP t p = some x → szT x ≤ szT t
  | [], t, x, h => by rw [atP] at h; injection h with h; subst h; exact Nat.le_refl _
  | i :: p, t, x, h => by
    rw [atP] at h
    by_cases hb : 0 ≤ i ∧ i < t.f2.length
    · rw [if_pos hb] at h
      have h1 := atP_sz p _ _ h
      have h2 := szT_mem (rd_mem' t.f2 i hb.1 hb.2)
      have h3 := szT_eq t
      omega
    · rw [if_neg hb] at h; cases h
theorem atT_sz (t : Tm) (p : List Int) : szT (atT t p) ≤ szT t := by
  unfold atT
  cases h : atP t p with
  | none => have h1 : szT zTm = 1 := rfl; have := szT_pos t; simp; omega
  | some x => exact atP_sz p t x h
/-- What Put answers. -/
def putE (g : List Int) (t u : Tm) (p : List Int) : Int := if chkTs g [t, u] ≠ 0 then chkTs g [t, u] else if atB t p then (if 120 < szT (putP t p u) then 2 else 0) else 5
def putR (g : List Int) (t u : Tm) (p : List Int) : Tm := if putE g t u p ≠ 0 then zTm else putP t p u
theorem layP_putP (g : List Int) (u : Tm) : ∀ (p : List Int) (t : Tm), formE g t = 0 → atB t p = true → layP t p u = putP t p u
  | [], t, _, _ => rfl
  | y :: p, t, hf, ha => by
    obtain ⟨h0, h1, h2⟩ := atB_cons ha
    rw [formE_eq] at hf
    by_cases hl : formEL g t.f2 = 0
    · rw [if_neg (by simpa using hl)] at hf
      have hv : t.f0 = 0 := by
        by_cases hv : t.f0 = 0
        · exact hv
        · unfold partE at hf
          rw [if_pos hv] at hf
          split at hf
          · split at hf
            · omega
            · cases hf
          · cases hf
      have hr := layP_putP g u p (rd_Tm t.f2 y) (formEL_mem hl _ (rd_mem' t.f2 y h0 h1)) h2
      rw [layP, putP, hr, hv]
    · rw [if_pos hl] at hf; exact absurd hf hl
end Go.Proofs.Ytcgnpmjkeifokaa
-- K18
/- superposelaw.fn, va, small, termIs. -/
namespace Go.Proofs.Ytcgnpmjkeifokaa
open Go.RowKit Go.Proofs.YtcgnpmjkeifokaaW.PrintWords
set_option linter.unusedVariables false
set_option linter.unusedSimpArgs false
theorem fn_any (n : Int) (A : Option Addr) (k c : Nat) (w : World) :
    Calls Try.prog 62 #[.int .i64 n, .slice A k c] w fun e w' => e = .returned (.agg #[.int .i64 0, .int .i64 n, .slice A k c]) ∧ Below w.heap.size w w' := by
  have g0 := newAt (w := w) (o := .cells #[.int .i64 0, .int .i64 0, .slice none 0 0] 46) rfl
  have HB := Aside0.mk (below_alloc (Below.refl w.heap.size w) (.cells #[.int .i64 0, .int .i64 0, .slice none 0 0] 46))
  go_enter Try.func62, Try.ntmps62
  go_upto_region 1 with (fail)
  generalize w.alloc (.cells #[.int .i64 0, .int .i64 0, .slice none 0 0] 46) = W at *
  have HR := Aside0.mk g0
  clear g0
  go_wp2_with (((with_reducible refine gate_store (t := 46) (p := 4) rfl ?_); refine st_tm 4 rfl rfl rfl rfl rfl HR.out ?_); intro w1 hs1 hG1 hz1; have HS1 := Aside0.mk hs1; have HG1 := Aside0.mk hG1; clear hs1 hG1)
  ((try simp only [Exit.inBlock, Exit.then]); refine bodyPost_ret (results_cell_row rfl _ _ _ 46 _ (0, 0) _ rfl HS1.out Try.underlying46 rfl (by kernel_rfl)) rfl ?_)
  exact ⟨rfl, gbS HB.out HG1.out (Nat.le_refl _)⟩
theorem va_any (n : Int) (w : World) :
    Calls Try.prog 61 #[.int .i64 n] w fun e w' => e = .returned (.agg #[.int .i64 n, .int .i64 0, .slice none 0 0]) ∧ Below w.heap.size w w' := by
  have g0 := newAt (w := w) (o := .cells #[.int .i64 0, .int .i64 0, .slice none 0 0] 46) rfl
  have HB := Aside0.mk (below_alloc (Below.refl w.heap.size w) (.cells #[.int .i64 0, .int .i64 0, .slice none 0 0] 46))
  go_enter Try.func61, Try.ntmps61
  go_upto_region 1 with (fail)
  generalize w.alloc (.cells #[.int .i64 0, .int .i64 0, .slice none 0 0] 46) = W at *
  have HR := Aside0.mk g0
  clear g0
  go_wp2_with (((with_reducible refine gate_store (t := 46) (p := 2) rfl ?_); refine st_tm 2 rfl rfl rfl rfl rfl HR.out ?_); intro w1 hs1 hG1 hz1; have HS1 := Aside0.mk hs1; have HG1 := Aside0.mk hG1; clear hs1 hG1)
  ((try simp only [Exit.inBlock, Exit.then]); refine bodyPost_ret (results_cell_row rfl _ _ _ 46 _ (0, 0) _ rfl HS1.out Try.underlying46 rfl (by kernel_rfl)) rfl ?_)
  exact ⟨rfl, gbS HB.out HG1.out (Nat.le_refl _)⟩
theorem sizeSg : (Try.prog.info? 24).map (·.size) = some 1 := by kernel_rfl
theorem small_any (w : World) :
    Calls Try.prog 63 #[] w fun e w' => ∃ A, e = .returned (.agg #[.slice A 2 2]) ∧ Kd.C (Kd.int .i64) w' A 2 [0, 1] ∧ Below w.heap.size w w' := by
  have g0 := newAt (w := w) (o := .cells #[.slice none 0 0] 24) rfl
  have HB := Aside0.mk (below_alloc (Below.refl w.heap.size w) (.cells #[.slice none 0 0] 24))
  go_enter Try.func63, Try.ntmps63
  go_upto_region 1 with (fail)
  generalize w.alloc (.cells #[.slice none 0 0] 24) = W at *
  have HR := Aside0.mk (blk_alloc g0 (.cells #[.int .i64 0, .int .i64 1] 3))
  have hN := heap_alloc_new W (.cells #[.int .i64 0, .int .i64 1] 3)
  have hlt := blk_lt g0
  have HN := Aside0.mk hN
  clear g0 hN
  go_wp2_with ((with_reducible refine gate_store (t := 24) (p := 0) rfl ?_); refine st_blk rfl rfl rfl #[.slice (some ⟨W.heap.size, 0, none⟩) 2 2] [.slice (some ⟨W.heap.size, 0, none⟩) 2 2] rfl rfl rfl sizeSg (one1 _ _ _) HR.out (Nat.le_refl 1) rfl ?_; intro w1 hs1 hG1 hz1; have HS1 := Aside0.mk hs1; have HG1 := Aside0.mk hG1; clear hs1 hG1)
  refine bodyPost_ret (results_cell_row rfl _ _ _ 24 _ (0, 0) _ rfl HS1.out Try.underlying24 rfl (by kernel_rfl)) rfl ?_
  refine ⟨_, rfl, ?_, gbS (below_alloc HB.out _) HG1.out (by omega)⟩
  have h1 : w1.heap[W.heap.size]? = some (.cells #[.int .i64 0, .int .i64 1] 3 (0, 0)) := (HG1.out.block _ (blk_lt HN.out) (by intro e; injection e with e; omega)).trans HN.out
  refine ⟨rfl, by decide, fun _ => ⟨_, rfl, ?_⟩⟩
  intro j p hp
  match j with
  | 0 =>
    simp at hp; subst hp
    refine ⟨[.int .i64 0], rfl, rfl, fun i u hu => ?_⟩
    match i with
    | 0 => simp at hu; subst hu; exact (blk_cell h1 0).trans rfl
    | i + 1 => simp at hu
  | 1 =>
    simp at hp; subst hp
    refine ⟨[.int .i64 1], rfl, rfl, fun i u hu => ?_⟩
    match i with
    | 0 => simp at hu; subst hu; exact (blk_cell h1 1).trans rfl
    | i + 1 => simp at hu
  | j + 2 => simp at hp
end Go.Proofs.Ytcgnpmjkeifokaa
-- K19
/- slices.Index, Contains, Clone over whole numbers; superposeref.Has. -/
namespace Go.Proofs.Ytcgnpmjkeifokaa
open Go.RowKit Go.Proofs.YtcgnpmjkeifokaaW.PrintWords
set_option linter.unusedVariables false
set_option linter.unusedSimpArgs false
def eqP (y : Int) : Int → Bool := fun x => decide (y = x)
def hasB (xs : List Int) (y : Int) : Bool := xs.any (eqP y)
theorem hasB_iff {xs : List Int} {y : Int} : hasB xs y = true ↔ y ∈ xs := by
  unfold hasB eqP
  rw [List.any_eq_true]
  constructor
  · rintro ⟨x, hx, h⟩; rw [decide_eq_true_eq] at h; exact h ▸ hx
  · intro h; exact ⟨y, h, by simp⟩
set_option maxHeartbeats 4000000 in
set_option maxRecDepth 100000 in
theorem index_int (xs : List Int) (y : Int) (A : Option Addr) (c : Nat) (w : World) (hC : Kd.C (Kd.int .i64) w A xs.length xs) :
    Calls Try.prog 136 #[.slice A xs.length c, .int .i64 y] w fun e w' => e = .returned (.int .i64 (idxB (eqP y) xs)) ∧ Below w.heap.size w w' := by
  have hlen := hC.2.1
  have HC := Aside0.mk hC
  clear hC
  go_enter Try.func136, Try.ntmps136
  go_wp2
  go_loopw [8] (fun i wr => ∃ k : Nat, k ≤ xs.length ∧ i = .int .i64 k ∧ Aside0 ((xs.take k).all (fun x => !eqP y x) = true) ∧ Below w.heap.size w wr) (fun i _ => xs.length - (intOf i).toNat)
  case atStart => exact ⟨0, by omega, rfl, ⟨rfl⟩, Below.refl _ _⟩
  case round =>
    obtain ⟨k, hk, rfl, h0, hb⟩ := hrel
    by_cases hlt : k < xs.length
    · obtain ⟨ad, rfl, e0⟩ := at_Int (Kd.C_below HC.out hb) (k : Int) (by omega) (by omega)
      simp only [Int.toNat_natCast] at e0
      have HX : Aside0 (xs.getD k 0 = xs[k]) := ⟨by simp [List.getD_eq_getElem?_getD, hlt]⟩
      by_cases hp : y = xs.getD k 0
      · have hpb : (y == xs.getD k 0) = true := by simpa using hp
        have HR : Aside0 (idxB (eqP y) xs = k) := ⟨idxB_at hlt h0.out (by unfold eqP; rw [← HX.out]; simpa using hp)⟩
        clear hp
        generalize xs.getD k 0 = z at *
        go_wp2
        go_ret
        exact ⟨ret_int HR.out.symm, hb⟩
      · have hpb : (y == xs.getD k 0) = false := by simpa using hp
        have HR : Aside0 ((xs.take (k+1)).all (fun x => !eqP y x) = true) := ⟨take_all_succ hlt h0.out (by unfold eqP; rw [← HX.out]; simpa using hp)⟩
        clear hp
        generalize xs.getD k 0 = z at *
        go_wp2
        go_roundw
        case rel => exact ⟨k + 1, by omega, by go_num, HR, hb⟩
        case measure => simp [intOf]; omega
    · obtain rfl : k = xs.length := by omega
      have HR : Aside0 (idxB (eqP y) xs = -1) := ⟨idxB_none (by have := h0.out; rwa [List.take_length] at this)⟩
      go_wp2
      go_ret
      exact ⟨ret_int HR.out.symm, hb⟩
theorem contains_int (xs : List Int) (y : Int) (A : Option Addr) (c : Nat) (w : World) (hC : Kd.C (Kd.int .i64) w A xs.length xs) :
    Calls Try.prog 120 #[.slice A xs.length c, .int .i64 y] w fun e w' => e = .returned (.bool (hasB xs y)) ∧ Below w.heap.size w w' := by
  have HI := Aside0.mk (index_int xs y A c w hC)
  have HA := Aside0.mk (idxB_any (eqP y) xs)
  clear hC
  generalize idxB (eqP y) xs = r at *
  have HH : Aside0 (decide (0 ≤ r) = hasB xs y) := ⟨HA.out⟩
  go_enter Try.func120, Try.ntmps120
  go_wp2_with (go_at_call 136; refine HI.out.mono ?_; rintro e w2 ⟨rfl, hb2⟩)
  go_ret
  exact ⟨ret_bool HH.out, hb2⟩
theorem infoI : (Try.prog.info? 3).map (fun i => (i.zero, i.size, i.bytes)) = some (some (.int .i64 0), (Kd.int .i64).sz, 8) := by kernel_rfl
set_option maxHeartbeats 4000000 in
set_option maxRecDepth 100000 in
theorem cloneI_any (xs : List Int) (A : Option Addr) (c : Nat) (w : World) (hbd : xs.length * 8 ≤ 140737488355328) (hC : Kd.C (Kd.int .i64) w A xs.length xs) :
    Calls Try.prog 153 #[.slice A xs.length c] w fun e w' => ∃ v1, e = .returned v1 ∧ Kd.N (Kd.int .i64) 3 w' w.heap.size (fun _ => True) v1 xs ∧ Below w.heap.size w w' := by
  cases A with
  | none =>
    have hx : xs = [] := by
      cases xs with
      | nil => rfl
      | cons x xs => obtain ⟨ad, h, _⟩ := hC.2.2 (by simp); cases h
    subst hx
    have hq : ∀ (w : World), (binOp .eql 22 (.slice none 0 c) (.slice none 0 0)).run Try.prog w = .ok (.bool true) w := fun w => Lib.run_eql_slice_nil w _ 3 none _ c 0 0 Try.underlying22
    clear hC
    simp only [List.length_nil]
    go_enter Try.func153, Try.ntmps153
    go_wp2
    go_ret
    exact ⟨_, rfl, Kd.N_nil _ _ _ _ _, Below.refl _ _⟩
  | some ad =>
    have hq : ∀ (w : World), (binOp .eql 22 (.slice (some ad) xs.length c) (.slice none 0 0)).run Try.prog w = .ok (.bool false) w := fun w => Lib.run_eql_slice_nil w _ 3 (some ad) xs.length c 0 0 Try.underlying22
    have HF := Aside0.mk (Kd.C_F (Kd.heap_int .i64) hC)
    clear hC
    go_enter Try.func153, Try.ntmps153
    go_wp2_with (first | ((with_reducible refine gate_dst (N := 5) rfl ?_); refine Kd.N_lit (Kd.int .i64) (w0 := w) w.heap.size 3 rfl rfl (xs := []) (inner := []) (ok := fun _ => True) (okp := fun _ => False) ?hr ⟨rfl, fun j y hy => by simp at hy⟩ (fun _ h => h.elim) trivial (Below.refl _ _) (Nat.le_refl _) (by decide) ?_; (case hr => first | (go_simp; done) | (go_simp; rfl)); intro v1 w1 hN1 hB1 hG1 hI1; have HN1 := Aside0.mk hN1; have HB1 := Aside0.mk hB1; have HI1 := Aside0.mk hI1; clear hN1 hB1 hG1 hI1) | (at_builtin; refine Kd.N_append_rows (Kd.int .i64) (w0 := w) w.heap.size rfl _ _ 22 3 _ 8 rfl Try.underlying22 infoI rfl (by decide) (by decide) v1 [] xs (some ad) xs.length c _ (fun k => k < w.heap.size) rfl rfl HN1.out (Kd.F_below HF.out HB1.out) ?_ (fun k hk => trivial) HB1.out HB1.out.size (by simpa using hbd) ?_; (intro k hk; refine ⟨trivial, fun e => ?_⟩; obtain ⟨b, hb, hb2⟩ := HI1.out; rw [hb] at e; injection e with e; omega); intro v2 w2 hN2 hB2 hG2 hI2; have HN2 := Aside0.mk hN2; have HB2 := Aside0.mk hB2; clear hN2 hB2 hG2 hI2))
    go_ret
    exact ⟨v2, rfl, HN2.out, HB2.out⟩
end Go.Proofs.Ytcgnpmjkeifokaa
-- K20
/- term.walk, term.Walk by a function that passes a state on. -/
namespace Go.Proofs.Ytcgnpmjkeifokaa
open Go.RowKit Go.Proofs.YtcgnpmjkeifokaaW.PrintWords
set_option linter.unusedVariables false
set_option linter.unusedSimpArgs false
section
variable {σ : Type}
mutual
def walkT (f : σ → Tm → σ × Bool) : σ → Tm → σ × Bool
  | s, ⟨v, g, l⟩ => if (f s ⟨v, g, l⟩).2 then walkL f (f s ⟨v, g, l⟩).1 l else ((f s ⟨v, g, l⟩).1, false)
def walkL (f : σ → Tm → σ × Bool) : σ → List Tm → σ × Bool
  | s, [] => (s, true)
  | s, t :: ts => if (walkT f s t).2 then walkL f (walkT f s t).1 ts else ((walkT f s t).1, false)
end
theorem walkT_eq (f : σ → Tm → σ × Bool) (s : σ) (t : Tm) : walkT f s t = if (f s t).2 then walkL f (f s t).1 t.f2 else ((f s t).1, false) := by cases t; rw [walkT]
theorem walkL_append (f : σ → Tm → σ × Bool) (a b : List Tm) : ∀ s, walkL f s (a ++ b) = if (walkL f s a).2 then walkL f (walkL f s a).1 b else ((walkL f s a).1, false) := by
  induction a with
  | nil => intro s; simp [walkL]
  | cons t ts ih =>
    intro s
    simp only [List.cons_append, walkL]
    by_cases h : (walkT f s t).2 = true
    · simp only [h, if_true]; exact ih _
    · simp [h]
theorem walkL_take_succ (f : σ → Tm → σ × Bool) (s : σ) (l : List Tm) (k : Nat) (hk : k < l.length) (s1 : σ) (h : walkL f s (l.take k) = (s1, true)) : walkL f s (l.take (k+1)) = walkT f s1 (rd_Tm l k) := by
  rw [List.take_succ_eq_append_getElem hk, walkL_append, h, rd_get l k hk]
  simp only [if_true, walkL]
  by_cases h2 : (walkT f s1 l[k]).2 = true
  · simp only [h2, if_true]; exact Prod.ext rfl h2.symm
  · have h3 : (walkT f s1 l[k]).2 = false := by simpa using h2
    simp only [h3, Bool.false_eq_true, if_false]; exact Prod.ext rfl h3.symm
theorem walkL_bad (f : σ → Tm → σ × Bool) (s : σ) (l : List Tm) (k : Nat) (s1 : σ) (h : walkL f s (l.take k) = (s1, false)) : walkL f s l = (s1, false) := by
  have := walkL_append f (l.take k) (l.drop k) s
  rw [List.take_append_drop, h] at this
  simpa using this
end
section
variable {σ : Type}
theorem walk_mu (f : σ → Tm → σ × Bool) (μ : σ → Nat) (hμ : ∀ s x, μ (f s x).1 ≤ μ s + 1) (t : Tm) : ∀ s, μ (walkT f s t).1 ≤ μ s + szT t := by
  refine Tm.rec (motive_1 := fun t => ∀ s, μ (walkT f s t).1 ≤ μ s + szT t) (motive_2 := fun l => ∀ s, μ (walkL f s l).1 ≤ μ s + szL l) ?_ ?_ ?_ t
  · intro v g l ih s
    rw [walkT, szT]
    have h := hμ s ⟨v, g, l⟩
    split
    · have := ih (f s ⟨v, g, l⟩).1; omega
    · simp only; omega
  · intro s; simp [walkL]
  · intro t ts h1 h2 s
    rw [walkL, szL]
    have h := h1 s
    split
    · have := h2 (walkT f s t).1; omega
    · simp only; omega
theorem walkL_mu (f : σ → Tm → σ × Bool) (μ : σ → Nat) (hμ : ∀ s x, μ (f s x).1 ≤ μ s + 1) (l : List Tm) : ∀ s, μ (walkL f s l).1 ≤ μ s + szL l := by
  induction l with
  | nil => intro s; simp [walkL]
  | cons t ts ih =>
    intro s
    rw [walkL, szL]
    have h := walk_mu f μ hμ t s
    split
    · have := ih (walkT f s t).1; omega
    · simp only; omega
end
/-- All but block b and the row's own block is as it was. -/
structure Fr (b : Nat) (w : World) (ro : Option Nat) (w' : World) : Prop where
  os : w'.os = w.os
  tape : w'.tape = w.tape
  output : w'.output = w.output
  size : w.heap.size ≤ w'.heap.size
  block : ∀ i, i < w.heap.size → i ≠ b → some i ≠ ro → w'.heap[i]? = w.heap[i]?
theorem Fr.of_below {b : Nat} {w w' : World} {ro : Option Nat} (h : Below w.heap.size w w') : Fr b w ro w' := ⟨h.os, h.tape, h.output, h.size, fun i hi _ _ => h.block i hi⟩
def RoNew (w : World) (ro ro' : Option Nat) : Prop := ro' = ro ∨ ∃ k, ro' = some k ∧ w.heap.size ≤ k
theorem RoNew.trans {w w1 : World} {r r1 r2 : Option Nat} (h : RoNew w r r1) (k : RoNew w1 r1 r2) (hs : w.heap.size ≤ w1.heap.size) : RoNew w r r2 := by
  rcases k with rfl | ⟨b, rfl, hb⟩
  · exact h
  · exact .inr ⟨b, rfl, by omega⟩
theorem Fr.trans {b : Nat} {w w1 w2 : World} {ro ro1 : Option Nat} (h : Fr b w ro w1) (k : Fr b w1 ro1 w2) (hr : RoNew w ro ro1) : Fr b w ro w2 :=
  ⟨k.os.trans h.os, k.tape.trans h.tape, k.output.trans h.output, Nat.le_trans h.size k.size, fun i hi hb hn => (k.block i (Nat.lt_of_lt_of_le hi h.size) hb (by
    rcases hr with rfl | ⟨g, rfl, hg⟩
    · exact hn
    · intro e; injection e with e; omega)).trans (h.block i hi hb hn)⟩
/-- A function value that is handed each part and passes a state on. -/
def WkC {σ : Type} (g : Nat) (lb : Array Value) (f : σ → Tm → σ × Bool) (b : Nat) (St : σ → Option Nat → World → Prop) (μ : σ → Nat) (M : Nat) : Prop :=
  ∀ (s : σ) (ro : Option Nat) (x : Tm) (A : Option Addr) (c : Nat) (pv : Value) (okt : Nat → Prop) (W : World), μ s < M → Kd.F kTm W okt A x.f2.length x.f2 → x.f2.length ≤ c → St s ro W →
    Calls Try.prog g (#[pv, .agg #[.int .i64 x.f0, .int .i64 x.f1, .slice A x.f2.length c]] ++ lb) W fun e w' => ∃ ro', e = .returned (.bool (f s x).2) ∧ St (f s x).1 ro' w' ∧ Fr b W ro w' ∧ RoNew W ro ro'
structure StOk {σ : Type} (b : Nat) (St : σ → Option Nat → World → Prop) : Prop where
  below : ∀ s ro W W', St s ro W → Below W.heap.size W W' → St s ro W'
  lt : ∀ s ro W, St s ro W → b < W.heap.size ∧ ∀ k, ro = some k → k < W.heap.size
theorem F_int1 {W : World} {gb : Nat} {x : Int} (hb : W.heap[gb]? = some (.cells #[.int .i64 x] 3 (0, 0))) : Kd.F (Kd.int .i64) W (fun k => False ∨ k = gb) (some ⟨gb, 0, none⟩) 1 [x] :=
  F_lit (d := Kd.int .i64) (xs := [x]) [[.int .i64 x]] hb rfl (by simp) (fun j x' c' hx hc' => by
    cases j with
    | zero => simp at hx hc'; subst hx hc'; exact fun _ _ => rfl
    | succ j => simp at hx)
theorem C_int_move {w w' : World} {A : Option Addr} {p : List Int} (h : Kd.C (Kd.int .i64) w A p.length p) (hm : ∀ a, A = some a → a.block < w.heap.size → w'.heap[a.block]? = w.heap[a.block]?) : Kd.C (Kd.int .i64) w' A p.length p := by
  refine ⟨h.1, h.2.1, fun hn => ?_⟩
  obtain ⟨ad, e, hc⟩ := h.2.2 hn
  refine ⟨ad, e, fun j x hx => ?_⟩
  obtain ⟨c, hc1, hc2, hc3⟩ := hc j x hx
  exact ⟨c, hc1, hc2, fun i u hu => by
    have h2 : w'.cell? (ad.add (j * (Kd.int .i64).sz + i)) = w.cell? (ad.add (j * (Kd.int .i64).sz + i)) := World.cell?_of_block (by rw [addB]; exact hm ad e (by have := World.block_lt_of_cell? w _ (hc3 i u hu); rwa [addB] at this))
    rw [h2]; exact hc3 i u hu⟩
set_option maxHeartbeats 4000000 in
set_option maxRecDepth 100000 in
theorem walk_any {σ : Type} (g : Nat) (lb : Array Value) (f : σ → Tm → σ × Bool) (b : Nat) (St : σ → Option Nat → World → Prop) (eg : ∀ args w, (callFunc g args).run Try.prog w = .ok (.enter g args) w) (μ : σ → Nat) (M : Nat) (hμ : ∀ s x, μ (f s x).1 ≤ μ s + 1) (hd : WkC g lb f b St μ M) (hst : StOk b St) (m : Nat) :
    ∀ (t : Tm) (A : Option Addr) (c : Nat) (p : List Int) (Ap : Option Addr) (cp : Nat) (s : σ) (ro : Option Nat) (okt : Nat → Prop) (w : World), szT t ≤ m → μ s + szT t ≤ M → p.length + szT t ≤ 1000000 → Kd.F kTm w okt A t.f2.length t.f2 → t.f2.length ≤ c → (∀ k, okt k → k ≠ b ∧ some k ≠ ro) → Kd.C (Kd.int .i64) w Ap p.length p → p.length ≤ cp → (∀ a, Ap = some a → a.block ≠ b ∧ some a.block ≠ ro) → St s ro w →
    Calls Try.prog 135 #[.agg #[.int .i64 t.f0, .int .i64 t.f1, .slice A t.f2.length c], .slice Ap p.length cp, .func (.func g) #[] lb] w fun e w' => ∃ ro', e = .returned (.bool (walkT f s t).2) ∧ St (walkT f s t).1 ro' w' ∧ Fr b w ro w' ∧ RoNew w ro ro' := by
  induction m with
  | zero => intro t A c p Ap cp s ro okt w h; have := szT_pos t; omega
  | succ m ih =>
  intro t A c p Ap cp s ro okt w hm hmu hbd hF hc hok hP hpc hAp hS
  have hlen := Kd.F_max hF
  have hbw := (hst.lt _ _ _ hS).1
  have hrw := (hst.lt _ _ _ hS).2
  have IH := Aside0.mk ih
  have HD := Aside0.mk hd
  have HST := Aside0.mk hst
  have HF := Aside0.mk (Kd.F_bound hF)
  have HM := Aside0.mk hm
  have HMU := Aside0.mk hmu
  have HMF := Aside0.mk (hμ s t)
  have HML := Aside0.mk (fun s l => walkL_mu f μ hμ l s)
  have HBD := Aside0.mk hbd
  have HOK := Aside0.mk hok
  have HP := Aside0.mk hP
  have HPC := Aside0.mk hpc
  have HAP := Aside0.mk hAp
  have HS := Aside0.mk hS
  have HRW := Aside0.mk hrw
  have HSZ := Aside0.mk (szT_eq t)
  have HWT := Aside0.mk (walkT_eq f s t)
  have g0 := newAt (w := w) (o := .cells #[.int .i64 t.f0, .int .i64 t.f1, .slice A t.f2.length c] 46) rfl
  have HB := Aside0.mk (below_alloc (Below.refl w.heap.size w) (.cells #[.int .i64 t.f0, .int .i64 t.f1, .slice A t.f2.length c] 46))
  have hWz : (w.alloc (.cells #[.int .i64 t.f0, .int .i64 t.f1, .slice A t.f2.length c] 46)).heap.size = w.heap.size + 1 := by simp
  clear hF ih hm hmu hbd hd hst hμ hok hP hpc hAp hS hrw
  go_enter Try.func135, Try.ntmps135
  go_upto_region 1 with (fail)
  generalize w.alloc (.cells #[.int .i64 t.f0, .int .i64 t.f1, .slice A t.f2.length c] 46) = W at *
  have c0 := (blk_cell g0 0).trans rfl
  have c1 := (blk_cell g0 1).trans rfl
  have c2 := (blk_cell g0 2).trans rfl
  have G0 := Aside0.mk g0
  clear g0
  have HDO := HD.out s ro t A c (.slice Ap p.length cp) _ W (by have := HMU.out; have := HSZ.out; omega) (Kd.F_below HF.out HB.out) hc (HST.out.below _ _ _ _ HS.out HB.out)
  cases hb1 : (f s t).2 with
  | false =>
    have HE : Aside0 (walkT f s t = ((f s t).1, false)) := ⟨by rw [HWT.out, hb1]; rfl⟩
    simp only [hb1] at HDO
    have HDO := Aside0.mk HDO
    clear hb1
    go_wp2_with (refine HDO.out.mono ?_; rintro e w2 ⟨ro2, rfl, hS2, hFr2, hRo2⟩; have HS2 := Aside0.mk hS2; have HFr2 := Aside0.mk hFr2; have HRo2 := Aside0.mk hRo2; clear hS2 hFr2 hRo2 c0 c1 c2)
    go_ret
    exact ⟨ro2, by rw [HE.out]; rfl, by rw [HE.out]; exact HS2.out, (Fr.of_below HB.out).trans HFr2.out (.inl rfl), by
      rcases HRo2.out with h | ⟨k, h, hk⟩
      · exact .inl h
      · exact .inr ⟨k, h, by omega⟩⟩
  | true =>
    have HE : Aside0 (walkT f s t = walkL f (f s t).1 t.f2) := ⟨by rw [HWT.out, hb1]; rfl⟩
    simp only [hb1] at HDO
    have HDO := Aside0.mk HDO
    clear hb1
    generalize hs1 : (f s t).1 = s1 at *
    clear hs1
    go_wp2_with (refine HDO.out.mono ?_; rintro e w2 ⟨ro2, rfl, hS2, hFr2, hRo2⟩; have HS2 := Aside0.mk hS2; have HFr2 := Aside0.mk hFr2; have HRo2 := Aside0.mk hRo2; have hT2 := (hFr2.block w.heap.size (by omega) (by omega) (fun e => absurd (HRW.out _ e.symm) (by omega))).trans G0.out; have t2 := (blk_cell hT2 2).trans rfl; have HT2 := Aside0.mk hT2; have hz2 := hFr2.size; clear hS2 hFr2 hRo2 c0 c1 c2 hT2)
    go_loopw [17] (fun i wr => ∃ (k : Nat) (sk : σ) (rk : Option Nat), k ≤ t.f2.length ∧ i = .int .i64 k ∧ Aside0 (walkL f s1 (t.f2.take k) = (sk, true)) ∧ Aside0 (St sk rk wr) ∧ Aside0 (Fr b w ro wr) ∧ Aside0 (RoNew w ro rk) ∧ Aside0 (wr.heap[w.heap.size]? = some (.cells #[.int .i64 t.f0, .int .i64 t.f1, .slice A t.f2.length c] 46 (0, 0))) ∧ Aside0 (∀ k, rk = some k → k ≠ w.heap.size)) (fun i _ => t.f2.length - (intOf i).toNat)
    case atStart => exact ⟨0, s1, ro2, by omega, rfl, ⟨rfl⟩, HS2, ⟨(Fr.of_below HB.out).trans HFr2.out (.inl rfl)⟩, ⟨by
      rcases HRo2.out with h | ⟨k, h, hk⟩
      · exact .inl h
      · exact .inr ⟨k, h, by omega⟩⟩, HT2, ⟨fun k hk => by
      rcases HRo2.out with h | ⟨k', h, hk'⟩
      · have := HRW.out k (h ▸ hk); omega
      · rw [hk] at h; injection h with h; omega⟩⟩
    case round =>
      obtain ⟨k, sk, rk, hk, rfl, HWL, HSk, HFr, HRo, HTr, HNe⟩ := hrel
      have hzr := HFr.out.size
      have hlr := blk_lt HTr.out
      have HLK := Aside0.mk ((HST.out.lt _ _ _ HSk.out).2)
      by_cases hlt : k < t.f2.length
      · obtain ⟨ad, A2, c2, rfl, E0, E1, E2, hl2, hF2, _⟩ := at_TmF (Kd.F_step HF.out (fun j hj hjl => HFr.out.block j hjl (HOK.out j hj.1).1 (HOK.out j hj.1).2)) (k : Int) (by omega) (by omega)
        simp only [Int.toNat_natCast] at E0 E1 E2
        have HTm := Aside0.mk (szT_mem (rd_mem t.f2 k hlt))
        have HMK : Aside0 (μ sk + szT (rd_Tm t.f2 (k : Int)) ≤ M) := ⟨by have h1 := HML.out s1 (t.f2.take k); rw [HWL.out] at h1; have h2 := szL_take_succ t.f2 k hlt; have h3 := szL_take_le t.f2 (k+1); have h4 := HMF.out; have h5 := HMU.out; have h6 := HSZ.out; simp only at h1; omega⟩
        have HTK := Aside0.mk (walkL_take_succ f s1 t.f2 k hlt sk HWL.out)
        have HF2 := Aside0.mk hF2
        have HC2 := Aside0.mk hl2
        clear hF2 hl2
        have HPr := Aside0.mk (C_int_move HP.out (w' := wr) (fun a ha hl => HFr.out.block _ hl (HAP.out a ha).1 (HAP.out a ha).2))
        go_upto_region 6 with (((with_reducible refine gate_store (t := 46) (p := 8) rfl ?_); refine st_tm 8 rfl rfl rfl rfl rfl (heap_alloc_new _ _) ?_); intro w6 hs6 hG6 hz6; have HS6 := Aside0.mk hs6; have HB6 := Aside0.mk (gbS (below_alloc (Below.refl wr.heap.size wr) _) hG6 (Nat.le_refl _)); clear hs6 hG6 E0 E1 E2)
        have hl6 := blk_lt HS6.out
        have k1 := fun (w' : World) (h : w'.heap[wr.heap.size]? = some (.cells #[.int .i64 (rd_Tm t.f2 (k : Int)).f0, .int .i64 (rd_Tm t.f2 (k : Int)).f1, .slice A2 (rd_Tm t.f2 (k : Int)).f2.length c2] 46 (0, 0))) => (blk_cell h 0).trans rfl
        have k2 := fun (w' : World) (h : w'.heap[wr.heap.size]? = some (.cells #[.int .i64 (rd_Tm t.f2 (k : Int)).f0, .int .i64 (rd_Tm t.f2 (k : Int)).f1, .slice A2 (rd_Tm t.f2 (k : Int)).f2.length c2] 46 (0, 0))) => (blk_cell h 1).trans rfl
        have k3 := fun (w' : World) (h : w'.heap[wr.heap.size]? = some (.cells #[.int .i64 (rd_Tm t.f2 (k : Int)).f0, .int .i64 (rd_Tm t.f2 (k : Int)).f1, .slice A2 (rd_Tm t.f2 (k : Int)).f2.length c2] 46 (0, 0))) => (blk_cell h 2).trans rfl
        cases hbx : (walkT f sk (rd_Tm t.f2 (k : Int))).2 with
        | true =>
          refine hd_region 9 0 (fun w' => w'.heap[wr.heap.size]? = some (.cells #[.int .i64 (rd_Tm t.f2 (k : Int)).f0, .int .i64 (rd_Tm t.f2 (k : Int)).f1, .slice A2 (rd_Tm t.f2 (k : Int)).f2.length c2] 46 (0, 0))) (by kernel_rfl) rfl ?_ (fun W hB => (hB.block _ hl6).trans HS6.out)
          intro W7 hb7 hz7 hHeld
          have HB7 := Aside0.mk hb7
          have hl7 := blk_lt hHeld
          have hHeld7 := Aside0.mk hHeld
          have HP7 := Aside0.mk (Kd.C_below HPr.out (hbT HB6.out HB7.out))
          clear hb7 hz7
          (refine hd_take (i := 0) (oi := ?oi202) (v := ?v202) ?hi202 (by kernel_rfl) (by kernel_rfl) (by kernel_rfl) (by kernel_rfl) (by decide) ?hq202 ?hw202 ?hy202 hHeld ?hr202; (case hi202 => (simp only [List.getElem?_toArray, List.getElem?_cons_succ, List.getElem?_cons_zero]; rfl)); (case hw202 => rfl); (case hy202 => (intro w hSw; go_simp; try with_reducible rfl)); (case hq202 => exact fun _ _ _ h => h); simp only [Act.put, List.setIfInBounds_toArray, List.set_cons_zero, List.set_cons_succ])
          (refine hd_take (i := 1) (oi := ?oi204) (v := ?v204) ?hi204 (by kernel_rfl) (by kernel_rfl) (by kernel_rfl) (by kernel_rfl) (by decide) ?hq204 ?hw204 ?hy204 hHeld ?hr204; (case hi204 => (simp only [List.getElem?_toArray, List.getElem?_cons_succ, List.getElem?_cons_zero]; rfl)); (case hw204 => rfl); (case hy204 => (intro w hSw; go_simp; try with_reducible rfl)); (case hq204 => exact fun _ _ _ h => h); simp only [Act.put, List.setIfInBounds_toArray, List.set_cons_zero, List.set_cons_succ])
          (refine hd_take (i := 3) (oi := ?oi206) (v := ?v206) ?hi206 (by kernel_rfl) (by kernel_rfl) (by kernel_rfl) (by kernel_rfl) (by decide) ?hq206 ?hw206 ?hy206 hHeld ?hr206; (case hi206 => (simp only [List.getElem?_toArray, List.getElem?_cons_succ, List.getElem?_cons_zero]; rfl)); (case hw206 => rfl); (case hy206 => (intro w hSw; go_simp; try with_reducible rfl)); (case hq206 => exact fun _ _ _ h => h); simp only [Act.put, List.setIfInBounds_toArray, List.set_cons_zero, List.set_cons_succ])
          (refine hd_take (i := 6) (oi := ?oi208) (v := ?v208) ?hi208 (by kernel_rfl) (by kernel_rfl) (by kernel_rfl) (by kernel_rfl) (by decide) ?hq208 ?hw208 ?hy208 hHeld ?hr208; (case hi208 => (simp only [List.getElem?_toArray, List.getElem?_cons_succ, List.getElem?_cons_zero]; rfl)); (case hw208 => rfl); (case hy208 => (intro w hSw; go_simp; try with_reducible rfl)); (case hq208 => exact fun _ _ _ h => h); simp only [Act.put, List.setIfInBounds_toArray, List.set_cons_zero, List.set_cons_succ])
          refine hd_two (i := 2) (j := 4) (oi := ?oitrue) (oj := ?ojtrue) ?hitrue ?hjtrue (by kernel_rfl) (by decide) (by decide) ?hatrue ?hbtrue
          case hitrue => (simp only [List.getElem?_toArray, List.getElem?_cons_succ, List.getElem?_cons_zero]; rfl)
          case hjtrue => (simp only [List.getElem?_toArray, List.getElem?_cons_succ, List.getElem?_cons_zero]; rfl)
          case hatrue =>
            intro K hK
            go_simp
            go_at_call 153
            refine (cloneI_any p Ap cp W7 (by have := HBD.out; omega) HP7.out).mono ?_
            rintro e w8 ⟨v8, rfl, hN8, hb8⟩
            go_simp
            (refine hK.out _ _ ?hS212 (fun hHeld => ?hr212); (case hS212 => exact (hb8.block _ hl7).trans hHeld); clear hK K; try simp only [Act.put, List.setIfInBounds_toArray, List.set_cons_zero, List.set_cons_succ])
            have HB8 := Aside0.mk hb8
            have HN8 := Aside0.mk hN8
            clear hb8 hN8
            (refine hd_one (i := 4) (oi := ?oi213) ?hi213 (by kernel_rfl) (by decide) ?hr213; (case hi213 => (simp only [List.getElem?_toArray, List.getElem?_cons_succ, List.getElem?_cons_zero]; rfl)); intro K hK)
            go_simp
            (refine hK.out _ _ ?hS215 (fun hHeld => ?hr215); (case hS215 => exact blk_alloc hHeld _); clear hK K; try simp only [Act.put, List.setIfInBounds_toArray, List.set_cons_zero, List.set_cons_succ])
            (refine hd_one (i := 5) (oi := ?oi216) ?hi216 (by kernel_rfl) (by decide) ?hr216; (case hi216 => (simp only [List.getElem?_toArray, List.getElem?_cons_succ, List.getElem?_cons_zero]; rfl)); intro K hK)
            refine Kd.N_append_rows_step (Kd.int .i64) (w0 := w8.alloc (.cells #[.int .i64 (k : Int)] 3)) W7.heap.size rfl _ _ 22 3 _ 8 rfl Try.underlying22 infoI rfl (by decide) (by decide) v8 p [(k : Int)] (some ⟨w8.heap.size, 0, none⟩) 1 1 (fun _ => True) (fun j => False ∨ j = w8.heap.size) rfl rfl (Kd.N_below HN8.out (below_alloc (Below.refl _ _) _)) (F_int1 (heap_alloc_new _ _)) (fun j hj => ⟨trivial, fun e => by have := Kd.N_lt HN8.out _ e.symm; rcases hj with hj | hj; exact hj; omega⟩) (fun _ _ => trivial) (Below.refl _ _) (by have := HB8.out.size; simp; omega) (by have := HBD.out; omega) ?_
            intro v1 w10 hN10 hB10 hG10 hI10
            have HWA : Aside0 (W7.heap.size ≤ W7.heap.size) := ⟨Nat.le_refl _⟩
            have HB10 : Aside0 (Below W7.heap.size W7 w10) := ⟨(below_alloc HB8.out _).trans hB10⟩
            obtain ⟨A10, c10, rfl⟩ := Kd.N_slice hN10
            have HNB10 : Aside0 (∀ q, (Value.slice A10 (p ++ [(k : Int)]).length c10).ownBlock = some q → W7.heap.size ≤ q) := ⟨fun q hq => by have := Kd.N_base hN10 q hq; have := HWA.out; omega⟩
            have HC10 := Aside0.mk (Kd.N_reads' hN10)
            clear hN10 hB10 hG10 hI10
            (refine hK.out _ _ ?hS218 (fun hHeld => ?hr218); (case hS218 => exact (HB10.out.block _ hl7).trans hHeld7.out); clear hK K; try simp only [Act.put, List.setIfInBounds_toArray, List.set_cons_zero, List.set_cons_succ])
            have HBr := Aside0.mk (hbT (hbT HB6.out HB7.out) HB10.out)
            have hz10 := HBr.out.size
            have hz10b := HB10.out.size
            (refine hd_one (i := 7) (oi := ?oi219) ?hi219 (by kernel_rfl) (by decide) ?hr219; (case hi219 => (simp only [List.getElem?_toArray, List.getElem?_cons_succ, List.getElem?_cons_zero]; rfl)); intro K hK)
            go_simp
            have hIH := IH.out (rd_Tm t.f2 (k : Int)) A2 c2 (p ++ [(k : Int)]) A10 c10 sk rk (fun j => okt j ∧ j < w.heap.size) w10 (by have := HM.out; have := HSZ.out; have := HTm.out; omega) HMK.out (by have := HBD.out; have := HSZ.out; have := HTm.out; simp only [List.length_append, List.length_cons, List.length_nil]; omega) (Kd.F_below HF2.out HBr.out) HC2.out (fun j hj => ⟨(HOK.out j hj.1).1, by
                rcases HRo.out with h | ⟨q, h, hq⟩
                · rw [h]; exact (HOK.out j hj.1).2
                · rw [h]; intro e; injection e with e; have := hj.2; omega⟩) HC10.out.2.2 HC10.out.2.1 (fun a ha => by
                subst ha
                have h1 := HNB10.out a.block rfl
                exact ⟨by omega, fun e => by have := HLK.out _ e.symm; omega⟩) (HST.out.below _ _ _ _ HSk.out HBr.out)
            simp only [hbx, List.length_append, List.length_cons, List.length_nil, Nat.zero_add] at hIH
            go_at_call 135
            refine hIH.mono ?_
            clear hIH
            rintro e w11 ⟨r11, rfl, hS11, hFr11, hRo11⟩
            have HS11 := Aside0.mk hS11
            have HFr11 := Aside0.mk hFr11
            have HRo11 := Aside0.mk hRo11
            clear hS11
            go_simp
            (refine hK.out _ _ ?hS221 (fun hHeld => ?hr221); (case hS221 => exact (hFr11.block _ (blk_lt hHeld) (by omega) (fun e => by have := HLK.out _ e.symm; omega)).trans hHeld); clear hK K; try simp only [Act.put, List.setIfInBounds_toArray, List.set_cons_zero, List.set_cons_succ])
            clear hFr11 hRo11
            (refine hd_take (i := 8) (oi := ?oi222) (v := ?v222) ?hi222 (by kernel_rfl) (by kernel_rfl) (by kernel_rfl) (by kernel_rfl) (by decide) ?hq222 ?hw222 ?hy222 hHeld ?hr222; (case hi222 => (simp only [List.getElem?_toArray, List.getElem?_cons_succ, List.getElem?_cons_zero]; rfl)); (case hw222 => rfl); (case hy222 => (intro w hSw; go_simp; try with_reducible rfl)); (case hq222 => exact fun _ _ _ h => h); simp only [Act.put, List.setIfInBounds_toArray, List.set_cons_zero, List.set_cons_succ])
            (refine hd_done (by kernel_rfl) ?_; simp only [List.drop_succ_cons, List.drop_zero])
            clear hHeld
            have hz11 := HFr11.out.size
            have HFrw : Aside0 (Fr b w ro w11) := ⟨HFr.out.trans ((Fr.of_below HBr.out).trans HFr11.out (.inl rfl)) HRo.out⟩
            have HRow : Aside0 (RoNew w ro r11) := ⟨HRo.out.trans HRo11.out (by omega)⟩
            generalize hxx : walkT f sk (rd_Tm t.f2 (k : Int)) = wx at *
            obtain ⟨sx, bx⟩ := wx
            simp only at hbx
            subst hbx
            have HXX := Aside0.mk hxx
            clear hxx
            go_wp2
            go_roundw
            case rel => exact ⟨k + 1, sx, r11, by omega, by go_num, HTK, HS11, HFrw, HRow, ⟨(HFr11.out.block _ (by omega) (by omega) (fun e => HNe.out _ e.symm rfl)).trans ((HBr.out.block _ hlr).trans HTr.out)⟩, ⟨fun q hq => by
              rcases HRo11.out with h | ⟨q', h, hq'⟩
              · exact HNe.out q (h ▸ hq)
              · rw [hq] at h; injection h with h; omega⟩⟩
            case measure => simp [intOf]; omega
          case hbtrue =>
            intro K hK
            go_simp
            (refine hK.out _ _ ?hS225 (fun hHeld => ?hr225); (case hS225 => exact blk_alloc hHeld _); clear hK K; try simp only [Act.put, List.setIfInBounds_toArray, List.set_cons_zero, List.set_cons_succ])
            have HBa := Aside0.mk (below_alloc (Below.refl W7.heap.size W7) (.cells #[.int .i64 (k : Int)] 3))
            have HGa := Aside0.mk (heap_alloc_new W7 (.cells #[.int .i64 (k : Int)] 3))
            have HZa : Aside0 ((W7.alloc (.cells #[.int .i64 (k : Int)] 3)).heap.size = W7.heap.size + 1) := ⟨by simp⟩
            generalize W7.alloc (.cells #[.int .i64 (k : Int)] 3) = Wa at *
            (refine hd_one (i := 2) (oi := ?oi226) ?hi226 (by kernel_rfl) (by decide) ?hr226; (case hi226 => (simp only [List.getElem?_toArray, List.getElem?_cons_succ, List.getElem?_cons_zero]; rfl)); intro K hK)
            go_simp
            go_at_call 153
            refine (cloneI_any p Ap cp Wa (by have := HBD.out; omega) (Kd.C_below HP7.out HBa.out)).mono ?_
            rintro e w8 ⟨v8, rfl, hN8, hb8⟩
            go_simp
            (refine hK.out _ _ ?hS228 (fun hHeld => ?hr228); (case hS228 => exact (hb8.block _ (blk_lt hHeld)).trans hHeld); clear hK K; try simp only [Act.put, List.setIfInBounds_toArray, List.set_cons_zero, List.set_cons_succ])
            have HB8 := Aside0.mk hb8
            have HN8 := Aside0.mk hN8
            clear hb8 hN8
            (refine hd_one (i := 5) (oi := ?oi229) ?hi229 (by kernel_rfl) (by decide) ?hr229; (case hi229 => (simp only [List.getElem?_toArray, List.getElem?_cons_succ, List.getElem?_cons_zero]; rfl)); intro K hK)
            refine Kd.N_append_rows_step (Kd.int .i64) (w0 := w8) Wa.heap.size rfl _ _ 22 3 _ 8 rfl Try.underlying22 infoI rfl (by decide) (by decide) v8 p [(k : Int)] (some ⟨W7.heap.size, 0, none⟩) 1 1 (fun _ => True) (fun j => False ∨ j = W7.heap.size) rfl rfl HN8.out (F_int1 ((HB8.out.block _ (blk_lt HGa.out)).trans HGa.out)) (fun j hj => ⟨trivial, fun e => by have := Kd.N_base HN8.out _ e.symm; have := HZa.out; rcases hj with hj | hj; exact hj; omega⟩) (fun _ _ => trivial) (Below.refl _ _) HB8.out.size (by have := HBD.out; omega) ?_
            intro v1 w10 hN10 hB10 hG10 hI10
            have HWA : Aside0 (W7.heap.size ≤ Wa.heap.size) := ⟨by have := HZa.out; omega⟩
            have HB10 : Aside0 (Below W7.heap.size W7 w10) := ⟨(hbT HBa.out HB8.out).trans (hbW hB10 (by have := HZa.out; omega))⟩
            obtain ⟨A10, c10, rfl⟩ := Kd.N_slice hN10
            have HNB10 : Aside0 (∀ q, (Value.slice A10 (p ++ [(k : Int)]).length c10).ownBlock = some q → W7.heap.size ≤ q) := ⟨fun q hq => by have := Kd.N_base hN10 q hq; have := HWA.out; omega⟩
            have HC10 := Aside0.mk (Kd.N_reads' hN10)
            clear hN10 hB10 hG10 hI10
            (refine hK.out _ _ ?hS231 (fun hHeld => ?hr231); (case hS231 => exact (HB10.out.block _ hl7).trans hHeld7.out); clear hK K; try simp only [Act.put, List.setIfInBounds_toArray, List.set_cons_zero, List.set_cons_succ])
            have HBr := Aside0.mk (hbT (hbT HB6.out HB7.out) HB10.out)
            have hz10 := HBr.out.size
            have hz10b := HB10.out.size
            (refine hd_one (i := 7) (oi := ?oi232) ?hi232 (by kernel_rfl) (by decide) ?hr232; (case hi232 => (simp only [List.getElem?_toArray, List.getElem?_cons_succ, List.getElem?_cons_zero]; rfl)); intro K hK)
            go_simp
            have hIH := IH.out (rd_Tm t.f2 (k : Int)) A2 c2 (p ++ [(k : Int)]) A10 c10 sk rk (fun j => okt j ∧ j < w.heap.size) w10 (by have := HM.out; have := HSZ.out; have := HTm.out; omega) HMK.out (by have := HBD.out; have := HSZ.out; have := HTm.out; simp only [List.length_append, List.length_cons, List.length_nil]; omega) (Kd.F_below HF2.out HBr.out) HC2.out (fun j hj => ⟨(HOK.out j hj.1).1, by
                rcases HRo.out with h | ⟨q, h, hq⟩
                · rw [h]; exact (HOK.out j hj.1).2
                · rw [h]; intro e; injection e with e; have := hj.2; omega⟩) HC10.out.2.2 HC10.out.2.1 (fun a ha => by
                subst ha
                have h1 := HNB10.out a.block rfl
                exact ⟨by omega, fun e => by have := HLK.out _ e.symm; omega⟩) (HST.out.below _ _ _ _ HSk.out HBr.out)
            simp only [hbx, List.length_append, List.length_cons, List.length_nil, Nat.zero_add] at hIH
            go_at_call 135
            refine hIH.mono ?_
            clear hIH
            rintro e w11 ⟨r11, rfl, hS11, hFr11, hRo11⟩
            have HS11 := Aside0.mk hS11
            have HFr11 := Aside0.mk hFr11
            have HRo11 := Aside0.mk hRo11
            clear hS11
            go_simp
            (refine hK.out _ _ ?hS234 (fun hHeld => ?hr234); (case hS234 => exact (hFr11.block _ (blk_lt hHeld) (by omega) (fun e => by have := HLK.out _ e.symm; omega)).trans hHeld); clear hK K; try simp only [Act.put, List.setIfInBounds_toArray, List.set_cons_zero, List.set_cons_succ])
            clear hFr11 hRo11
            (refine hd_take (i := 8) (oi := ?oi235) (v := ?v235) ?hi235 (by kernel_rfl) (by kernel_rfl) (by kernel_rfl) (by kernel_rfl) (by decide) ?hq235 ?hw235 ?hy235 hHeld ?hr235; (case hi235 => (simp only [List.getElem?_toArray, List.getElem?_cons_succ, List.getElem?_cons_zero]; rfl)); (case hw235 => rfl); (case hy235 => (intro w hSw; go_simp; try with_reducible rfl)); (case hq235 => exact fun _ _ _ h => h); simp only [Act.put, List.setIfInBounds_toArray, List.set_cons_zero, List.set_cons_succ])
            (refine hd_done (by kernel_rfl) ?_; simp only [List.drop_succ_cons, List.drop_zero])
            clear hHeld
            have hz11 := HFr11.out.size
            have HFrw : Aside0 (Fr b w ro w11) := ⟨HFr.out.trans ((Fr.of_below HBr.out).trans HFr11.out (.inl rfl)) HRo.out⟩
            have HRow : Aside0 (RoNew w ro r11) := ⟨HRo.out.trans HRo11.out (by omega)⟩
            generalize hxx : walkT f sk (rd_Tm t.f2 (k : Int)) = wx at *
            obtain ⟨sx, bx⟩ := wx
            simp only at hbx
            subst hbx
            have HXX := Aside0.mk hxx
            clear hxx
            go_wp2
            go_roundw
            case rel => exact ⟨k + 1, sx, r11, by omega, by go_num, HTK, HS11, HFrw, HRow, ⟨(HFr11.out.block _ (by omega) (by omega) (fun e => HNe.out _ e.symm rfl)).trans ((HBr.out.block _ hlr).trans HTr.out)⟩, ⟨fun q hq => by
              rcases HRo11.out with h | ⟨q', h, hq'⟩
              · exact HNe.out q (h ▸ hq)
              · rw [hq] at h; injection h with h; omega⟩⟩
            case measure => simp [intOf]; omega
        | false =>
          refine hd_region 9 0 (fun w' => w'.heap[wr.heap.size]? = some (.cells #[.int .i64 (rd_Tm t.f2 (k : Int)).f0, .int .i64 (rd_Tm t.f2 (k : Int)).f1, .slice A2 (rd_Tm t.f2 (k : Int)).f2.length c2] 46 (0, 0))) (by kernel_rfl) rfl ?_ (fun W hB => (hB.block _ hl6).trans HS6.out)
          intro W7 hb7 hz7 hHeld
          have HB7 := Aside0.mk hb7
          have hl7 := blk_lt hHeld
          have hHeld7 := Aside0.mk hHeld
          have HP7 := Aside0.mk (Kd.C_below HPr.out (hbT HB6.out HB7.out))
          clear hb7 hz7
          (refine hd_take (i := 0) (oi := ?oi238) (v := ?v238) ?hi238 (by kernel_rfl) (by kernel_rfl) (by kernel_rfl) (by kernel_rfl) (by decide) ?hq238 ?hw238 ?hy238 hHeld ?hr238; (case hi238 => (simp only [List.getElem?_toArray, List.getElem?_cons_succ, List.getElem?_cons_zero]; rfl)); (case hw238 => rfl); (case hy238 => (intro w hSw; go_simp; try with_reducible rfl)); (case hq238 => exact fun _ _ _ h => h); simp only [Act.put, List.setIfInBounds_toArray, List.set_cons_zero, List.set_cons_succ])
          (refine hd_take (i := 1) (oi := ?oi240) (v := ?v240) ?hi240 (by kernel_rfl) (by kernel_rfl) (by kernel_rfl) (by kernel_rfl) (by decide) ?hq240 ?hw240 ?hy240 hHeld ?hr240; (case hi240 => (simp only [List.getElem?_toArray, List.getElem?_cons_succ, List.getElem?_cons_zero]; rfl)); (case hw240 => rfl); (case hy240 => (intro w hSw; go_simp; try with_reducible rfl)); (case hq240 => exact fun _ _ _ h => h); simp only [Act.put, List.setIfInBounds_toArray, List.set_cons_zero, List.set_cons_succ])
          (refine hd_take (i := 3) (oi := ?oi242) (v := ?v242) ?hi242 (by kernel_rfl) (by kernel_rfl) (by kernel_rfl) (by kernel_rfl) (by decide) ?hq242 ?hw242 ?hy242 hHeld ?hr242; (case hi242 => (simp only [List.getElem?_toArray, List.getElem?_cons_succ, List.getElem?_cons_zero]; rfl)); (case hw242 => rfl); (case hy242 => (intro w hSw; go_simp; try with_reducible rfl)); (case hq242 => exact fun _ _ _ h => h); simp only [Act.put, List.setIfInBounds_toArray, List.set_cons_zero, List.set_cons_succ])
          (refine hd_take (i := 6) (oi := ?oi244) (v := ?v244) ?hi244 (by kernel_rfl) (by kernel_rfl) (by kernel_rfl) (by kernel_rfl) (by decide) ?hq244 ?hw244 ?hy244 hHeld ?hr244; (case hi244 => (simp only [List.getElem?_toArray, List.getElem?_cons_succ, List.getElem?_cons_zero]; rfl)); (case hw244 => rfl); (case hy244 => (intro w hSw; go_simp; try with_reducible rfl)); (case hq244 => exact fun _ _ _ h => h); simp only [Act.put, List.setIfInBounds_toArray, List.set_cons_zero, List.set_cons_succ])
          refine hd_two (i := 2) (j := 4) (oi := ?oifalse) (oj := ?ojfalse) ?hifalse ?hjfalse (by kernel_rfl) (by decide) (by decide) ?hafalse ?hbfalse
          case hifalse => (simp only [List.getElem?_toArray, List.getElem?_cons_succ, List.getElem?_cons_zero]; rfl)
          case hjfalse => (simp only [List.getElem?_toArray, List.getElem?_cons_succ, List.getElem?_cons_zero]; rfl)
          case hafalse =>
            intro K hK
            go_simp
            go_at_call 153
            refine (cloneI_any p Ap cp W7 (by have := HBD.out; omega) HP7.out).mono ?_
            rintro e w8 ⟨v8, rfl, hN8, hb8⟩
            go_simp
            (refine hK.out _ _ ?hS248 (fun hHeld => ?hr248); (case hS248 => exact (hb8.block _ hl7).trans hHeld); clear hK K; try simp only [Act.put, List.setIfInBounds_toArray, List.set_cons_zero, List.set_cons_succ])
            have HB8 := Aside0.mk hb8
            have HN8 := Aside0.mk hN8
            clear hb8 hN8
            (refine hd_one (i := 4) (oi := ?oi249) ?hi249 (by kernel_rfl) (by decide) ?hr249; (case hi249 => (simp only [List.getElem?_toArray, List.getElem?_cons_succ, List.getElem?_cons_zero]; rfl)); intro K hK)
            go_simp
            (refine hK.out _ _ ?hS251 (fun hHeld => ?hr251); (case hS251 => exact blk_alloc hHeld _); clear hK K; try simp only [Act.put, List.setIfInBounds_toArray, List.set_cons_zero, List.set_cons_succ])
            (refine hd_one (i := 5) (oi := ?oi252) ?hi252 (by kernel_rfl) (by decide) ?hr252; (case hi252 => (simp only [List.getElem?_toArray, List.getElem?_cons_succ, List.getElem?_cons_zero]; rfl)); intro K hK)
            refine Kd.N_append_rows_step (Kd.int .i64) (w0 := w8.alloc (.cells #[.int .i64 (k : Int)] 3)) W7.heap.size rfl _ _ 22 3 _ 8 rfl Try.underlying22 infoI rfl (by decide) (by decide) v8 p [(k : Int)] (some ⟨w8.heap.size, 0, none⟩) 1 1 (fun _ => True) (fun j => False ∨ j = w8.heap.size) rfl rfl (Kd.N_below HN8.out (below_alloc (Below.refl _ _) _)) (F_int1 (heap_alloc_new _ _)) (fun j hj => ⟨trivial, fun e => by have := Kd.N_lt HN8.out _ e.symm; rcases hj with hj | hj; exact hj; omega⟩) (fun _ _ => trivial) (Below.refl _ _) (by have := HB8.out.size; simp; omega) (by have := HBD.out; omega) ?_
            intro v1 w10 hN10 hB10 hG10 hI10
            have HWA : Aside0 (W7.heap.size ≤ W7.heap.size) := ⟨Nat.le_refl _⟩
            have HB10 : Aside0 (Below W7.heap.size W7 w10) := ⟨(below_alloc HB8.out _).trans hB10⟩
            obtain ⟨A10, c10, rfl⟩ := Kd.N_slice hN10
            have HNB10 : Aside0 (∀ q, (Value.slice A10 (p ++ [(k : Int)]).length c10).ownBlock = some q → W7.heap.size ≤ q) := ⟨fun q hq => by have := Kd.N_base hN10 q hq; have := HWA.out; omega⟩
            have HC10 := Aside0.mk (Kd.N_reads' hN10)
            clear hN10 hB10 hG10 hI10
            (refine hK.out _ _ ?hS254 (fun hHeld => ?hr254); (case hS254 => exact (HB10.out.block _ hl7).trans hHeld7.out); clear hK K; try simp only [Act.put, List.setIfInBounds_toArray, List.set_cons_zero, List.set_cons_succ])
            have HBr := Aside0.mk (hbT (hbT HB6.out HB7.out) HB10.out)
            have hz10 := HBr.out.size
            have hz10b := HB10.out.size
            (refine hd_one (i := 7) (oi := ?oi255) ?hi255 (by kernel_rfl) (by decide) ?hr255; (case hi255 => (simp only [List.getElem?_toArray, List.getElem?_cons_succ, List.getElem?_cons_zero]; rfl)); intro K hK)
            go_simp
            have hIH := IH.out (rd_Tm t.f2 (k : Int)) A2 c2 (p ++ [(k : Int)]) A10 c10 sk rk (fun j => okt j ∧ j < w.heap.size) w10 (by have := HM.out; have := HSZ.out; have := HTm.out; omega) HMK.out (by have := HBD.out; have := HSZ.out; have := HTm.out; simp only [List.length_append, List.length_cons, List.length_nil]; omega) (Kd.F_below HF2.out HBr.out) HC2.out (fun j hj => ⟨(HOK.out j hj.1).1, by
                rcases HRo.out with h | ⟨q, h, hq⟩
                · rw [h]; exact (HOK.out j hj.1).2
                · rw [h]; intro e; injection e with e; have := hj.2; omega⟩) HC10.out.2.2 HC10.out.2.1 (fun a ha => by
                subst ha
                have h1 := HNB10.out a.block rfl
                exact ⟨by omega, fun e => by have := HLK.out _ e.symm; omega⟩) (HST.out.below _ _ _ _ HSk.out HBr.out)
            simp only [hbx, List.length_append, List.length_cons, List.length_nil, Nat.zero_add] at hIH
            go_at_call 135
            refine hIH.mono ?_
            clear hIH
            rintro e w11 ⟨r11, rfl, hS11, hFr11, hRo11⟩
            have HS11 := Aside0.mk hS11
            have HFr11 := Aside0.mk hFr11
            have HRo11 := Aside0.mk hRo11
            clear hS11
            go_simp
            (refine hK.out _ _ ?hS257 (fun hHeld => ?hr257); (case hS257 => exact (hFr11.block _ (blk_lt hHeld) (by omega) (fun e => by have := HLK.out _ e.symm; omega)).trans hHeld); clear hK K; try simp only [Act.put, List.setIfInBounds_toArray, List.set_cons_zero, List.set_cons_succ])
            clear hFr11 hRo11
            (refine hd_take (i := 8) (oi := ?oi258) (v := ?v258) ?hi258 (by kernel_rfl) (by kernel_rfl) (by kernel_rfl) (by kernel_rfl) (by decide) ?hq258 ?hw258 ?hy258 hHeld ?hr258; (case hi258 => (simp only [List.getElem?_toArray, List.getElem?_cons_succ, List.getElem?_cons_zero]; rfl)); (case hw258 => rfl); (case hy258 => (intro w hSw; go_simp; try with_reducible rfl)); (case hq258 => exact fun _ _ _ h => h); simp only [Act.put, List.setIfInBounds_toArray, List.set_cons_zero, List.set_cons_succ])
            (refine hd_done (by kernel_rfl) ?_; simp only [List.drop_succ_cons, List.drop_zero])
            clear hHeld
            have hz11 := HFr11.out.size
            have HFrw : Aside0 (Fr b w ro w11) := ⟨HFr.out.trans ((Fr.of_below HBr.out).trans HFr11.out (.inl rfl)) HRo.out⟩
            have HRow : Aside0 (RoNew w ro r11) := ⟨HRo.out.trans HRo11.out (by omega)⟩
            generalize hxx : walkT f sk (rd_Tm t.f2 (k : Int)) = wx at *
            obtain ⟨sx, bx⟩ := wx
            simp only at hbx
            subst hbx
            have HXX := Aside0.mk hxx
            clear hxx
            have HW2 : Aside0 (walkT f s t = (sx, false)) := ⟨by rw [HE.out]; exact walkL_bad f s1 t.f2 (k+1) sx HTK.out⟩
            go_wp2
            go_ret
            first | exact ⟨r11, by rw [HW2.out]; rfl, by rw [HW2.out]; exact HS11.out, HFrw.out, HRow.out⟩ | exact ⟨by rw [HW2.out]; rfl, r11, by rw [HW2.out]; exact HS11.out, HFrw.out, HRow.out⟩
          case hbfalse =>
            intro K hK
            go_simp
            (refine hK.out _ _ ?hS261 (fun hHeld => ?hr261); (case hS261 => exact blk_alloc hHeld _); clear hK K; try simp only [Act.put, List.setIfInBounds_toArray, List.set_cons_zero, List.set_cons_succ])
            have HBa := Aside0.mk (below_alloc (Below.refl W7.heap.size W7) (.cells #[.int .i64 (k : Int)] 3))
            have HGa := Aside0.mk (heap_alloc_new W7 (.cells #[.int .i64 (k : Int)] 3))
            have HZa : Aside0 ((W7.alloc (.cells #[.int .i64 (k : Int)] 3)).heap.size = W7.heap.size + 1) := ⟨by simp⟩
            generalize W7.alloc (.cells #[.int .i64 (k : Int)] 3) = Wa at *
            (refine hd_one (i := 2) (oi := ?oi262) ?hi262 (by kernel_rfl) (by decide) ?hr262; (case hi262 => (simp only [List.getElem?_toArray, List.getElem?_cons_succ, List.getElem?_cons_zero]; rfl)); intro K hK)
            go_simp
            go_at_call 153
            refine (cloneI_any p Ap cp Wa (by have := HBD.out; omega) (Kd.C_below HP7.out HBa.out)).mono ?_
            rintro e w8 ⟨v8, rfl, hN8, hb8⟩
            go_simp
            (refine hK.out _ _ ?hS264 (fun hHeld => ?hr264); (case hS264 => exact (hb8.block _ (blk_lt hHeld)).trans hHeld); clear hK K; try simp only [Act.put, List.setIfInBounds_toArray, List.set_cons_zero, List.set_cons_succ])
            have HB8 := Aside0.mk hb8
            have HN8 := Aside0.mk hN8
            clear hb8 hN8
            (refine hd_one (i := 5) (oi := ?oi265) ?hi265 (by kernel_rfl) (by decide) ?hr265; (case hi265 => (simp only [List.getElem?_toArray, List.getElem?_cons_succ, List.getElem?_cons_zero]; rfl)); intro K hK)
            refine Kd.N_append_rows_step (Kd.int .i64) (w0 := w8) Wa.heap.size rfl _ _ 22 3 _ 8 rfl Try.underlying22 infoI rfl (by decide) (by decide) v8 p [(k : Int)] (some ⟨W7.heap.size, 0, none⟩) 1 1 (fun _ => True) (fun j => False ∨ j = W7.heap.size) rfl rfl HN8.out (F_int1 ((HB8.out.block _ (blk_lt HGa.out)).trans HGa.out)) (fun j hj => ⟨trivial, fun e => by have := Kd.N_base HN8.out _ e.symm; have := HZa.out; rcases hj with hj | hj; exact hj; omega⟩) (fun _ _ => trivial) (Below.refl _ _) HB8.out.size (by have := HBD.out; omega) ?_
            intro v1 w10 hN10 hB10 hG10 hI10
            have HWA : Aside0 (W7.heap.size ≤ Wa.heap.size) := ⟨by have := HZa.out; omega⟩
            have HB10 : Aside0 (Below W7.heap.size W7 w10) := ⟨(hbT HBa.out HB8.out).trans (hbW hB10 (by have := HZa.out; omega))⟩
            obtain ⟨A10, c10, rfl⟩ := Kd.N_slice hN10
            have HNB10 : Aside0 (∀ q, (Value.slice A10 (p ++ [(k : Int)]).length c10).ownBlock = some q → W7.heap.size ≤ q) := ⟨fun q hq => by have := Kd.N_base hN10 q hq; have := HWA.out; omega⟩
            have HC10 := Aside0.mk (Kd.N_reads' hN10)
            clear hN10 hB10 hG10 hI10
            (refine hK.out _ _ ?hS267 (fun hHeld => ?hr267); (case hS267 => exact (HB10.out.block _ hl7).trans hHeld7.out); clear hK K; try simp only [Act.put, List.setIfInBounds_toArray, List.set_cons_zero, List.set_cons_succ])
            have HBr := Aside0.mk (hbT (hbT HB6.out HB7.out) HB10.out)
            have hz10 := HBr.out.size
            have hz10b := HB10.out.size
            (refine hd_one (i := 7) (oi := ?oi268) ?hi268 (by kernel_rfl) (by decide) ?hr268; (case hi268 => (simp only [List.getElem?_toArray, List.getElem?_cons_succ, List.getElem?_cons_zero]; rfl)); intro K hK)
            go_simp
            have hIH := IH.out (rd_Tm t.f2 (k : Int)) A2 c2 (p ++ [(k : Int)]) A10 c10 sk rk (fun j => okt j ∧ j < w.heap.size) w10 (by have := HM.out; have := HSZ.out; have := HTm.out; omega) HMK.out (by have := HBD.out; have := HSZ.out; have := HTm.out; simp only [List.length_append, List.length_cons, List.length_nil]; omega) (Kd.F_below HF2.out HBr.out) HC2.out (fun j hj => ⟨(HOK.out j hj.1).1, by
                rcases HRo.out with h | ⟨q, h, hq⟩
                · rw [h]; exact (HOK.out j hj.1).2
                · rw [h]; intro e; injection e with e; have := hj.2; omega⟩) HC10.out.2.2 HC10.out.2.1 (fun a ha => by
                subst ha
                have h1 := HNB10.out a.block rfl
                exact ⟨by omega, fun e => by have := HLK.out _ e.symm; omega⟩) (HST.out.below _ _ _ _ HSk.out HBr.out)
            simp only [hbx, List.length_append, List.length_cons, List.length_nil, Nat.zero_add] at hIH
            go_at_call 135
            refine hIH.mono ?_
            clear hIH
            rintro e w11 ⟨r11, rfl, hS11, hFr11, hRo11⟩
            have HS11 := Aside0.mk hS11
            have HFr11 := Aside0.mk hFr11
            have HRo11 := Aside0.mk hRo11
            clear hS11
            go_simp
            (refine hK.out _ _ ?hS270 (fun hHeld => ?hr270); (case hS270 => exact (hFr11.block _ (blk_lt hHeld) (by omega) (fun e => by have := HLK.out _ e.symm; omega)).trans hHeld); clear hK K; try simp only [Act.put, List.setIfInBounds_toArray, List.set_cons_zero, List.set_cons_succ])
            clear hFr11 hRo11
            (refine hd_take (i := 8) (oi := ?oi271) (v := ?v271) ?hi271 (by kernel_rfl) (by kernel_rfl) (by kernel_rfl) (by kernel_rfl) (by decide) ?hq271 ?hw271 ?hy271 hHeld ?hr271; (case hi271 => (simp only [List.getElem?_toArray, List.getElem?_cons_succ, List.getElem?_cons_zero]; rfl)); (case hw271 => rfl); (case hy271 => (intro w hSw; go_simp; try with_reducible rfl)); (case hq271 => exact fun _ _ _ h => h); simp only [Act.put, List.setIfInBounds_toArray, List.set_cons_zero, List.set_cons_succ])
            (refine hd_done (by kernel_rfl) ?_; simp only [List.drop_succ_cons, List.drop_zero])
            clear hHeld
            have hz11 := HFr11.out.size
            have HFrw : Aside0 (Fr b w ro w11) := ⟨HFr.out.trans ((Fr.of_below HBr.out).trans HFr11.out (.inl rfl)) HRo.out⟩
            have HRow : Aside0 (RoNew w ro r11) := ⟨HRo.out.trans HRo11.out (by omega)⟩
            generalize hxx : walkT f sk (rd_Tm t.f2 (k : Int)) = wx at *
            obtain ⟨sx, bx⟩ := wx
            simp only at hbx
            subst hbx
            have HXX := Aside0.mk hxx
            clear hxx
            have HW2 : Aside0 (walkT f s t = (sx, false)) := ⟨by rw [HE.out]; exact walkL_bad f s1 t.f2 (k+1) sx HTK.out⟩
            go_wp2
            go_ret
            first | exact ⟨r11, by rw [HW2.out]; rfl, by rw [HW2.out]; exact HS11.out, HFrw.out, HRow.out⟩ | exact ⟨by rw [HW2.out]; rfl, r11, by rw [HW2.out]; exact HS11.out, HFrw.out, HRow.out⟩
      · obtain rfl : k = t.f2.length := by omega
        have HW2 : Aside0 (walkT f s t = (sk, true)) := ⟨by have := HWL.out; rw [List.take_length] at this; rw [HE.out, this]⟩
        go_wp2
        go_ret
        exact ⟨rk, by rw [HW2.out]; rfl, by rw [HW2.out]; exact HSk.out, HFr.out, HRo.out⟩
end Go.Proofs.Ytcgnpmjkeifokaa
-- K21
/- term.Walk; term.Stands and its function. -/
namespace Go.Proofs.Ytcgnpmjkeifokaa
open Go.RowKit Go.Proofs.YtcgnpmjkeifokaaW.PrintWords
set_option linter.unusedVariables false
set_option linter.unusedSimpArgs false
set_option maxHeartbeats 4000000 in
set_option maxRecDepth 100000 in
theorem Walk_any {σ : Type} (g : Nat) (lb : Array Value) (f : σ → Tm → σ × Bool) (b : Nat) (St : σ → Option Nat → World → Prop) (eg : ∀ args w, (callFunc g args).run Try.prog w = .ok (.enter g args) w) (μ : σ → Nat) (M : Nat) (hμ : ∀ s x, μ (f s x).1 ≤ μ s + 1) (hd : WkC g lb f b St μ M) (hst : StOk b St)
    (t : Tm) (A : Option Addr) (c : Nat) (s : σ) (ro : Option Nat) (okt : Nat → Prop) (w : World) (hmu : μ s + szT t ≤ M) (hbd : szT t ≤ 1000000) (hF : Kd.F kTm w okt A t.f2.length t.f2) (hc : t.f2.length ≤ c) (hok : ∀ k, okt k → k ≠ b ∧ some k ≠ ro) (hS : St s ro w) :
    Calls Try.prog 118 #[.agg #[.int .i64 t.f0, .int .i64 t.f1, .slice A t.f2.length c], .func (.func g) #[] lb] w fun e w' => ∃ ro', e = .returned (.bool (walkT f s t).2) ∧ St (walkT f s t).1 ro' w' ∧ Fr b w ro w' ∧ RoNew w ro ro' := by
  have HB := Aside0.mk (below_alloc (Below.refl w.heap.size w) (.cells #[.int .i64 t.f0, .int .i64 t.f1, .slice A t.f2.length c] 46))
  have g0 := newAt (w := w) (o := .cells #[.int .i64 t.f0, .int .i64 t.f1, .slice A t.f2.length c] 46) rfl
  have hWz : (w.alloc (.cells #[.int .i64 t.f0, .int .i64 t.f1, .slice A t.f2.length c] 46)).heap.size = w.heap.size + 1 := by simp
  have HW := Aside0.mk (walk_any g lb f b St eg μ M hμ hd hst (szT t) t A c [] none 0 s ro (fun k => okt k ∧ k < w.heap.size) (w.alloc (.cells #[.int .i64 t.f0, .int .i64 t.f1, .slice A t.f2.length c] 46)) (Nat.le_refl _) hmu (by simpa using hbd) (Kd.F_below (Kd.F_bound hF) HB.out) hc (fun k hk => hok k hk.1) (Kd.C_nil _ _) (Nat.le_refl _) (fun a h => by cases h) (hst.below _ _ _ _ hS HB.out))
  clear hF hok hd hst hS hmu hμ
  go_enter Try.func118, Try.ntmps118
  go_upto_region 1 with (fail)
  generalize w.alloc (.cells #[.int .i64 t.f0, .int .i64 t.f1, .slice A t.f2.length c] 46) = W at *
  have c0 := (blk_cell g0 0).trans rfl
  have c1 := (blk_cell g0 1).trans rfl
  have c2 := (blk_cell g0 2).trans rfl
  clear g0
  simp only [List.length_nil] at HW
  go_wp2_with (go_at_call 135; refine HW.out.mono ?_; rintro e w2 ⟨ro2, rfl, hS2, hFr2, hRo2⟩; have HS2 := Aside0.mk hS2; have HFr2 := Aside0.mk hFr2; have HRo2 := Aside0.mk hRo2; clear hS2 hFr2 hRo2)
  go_ret
  exact ⟨ro2, rfl, HS2.out, (Fr.of_below HB.out).trans HFr2.out (.inl rfl), by
    rcases HRo2.out with h | ⟨k, h, hk⟩
    · exact .inl h
    · exact .inr ⟨k, h, by omega⟩⟩
/-! ### the function of Stands -/
def stF (s : List Int) (x : Tm) : List Int × Bool := (if 0 < x.f0 ∧ hasB s x.f0 = false then s ++ [x.f0] else s, true)
theorem stF_mu (s : List Int) (x : Tm) : (stF s x).1.length ≤ s.length + 1 := by unfold stF; simp only; split <;> simp
def StS (b : Nat) (s : List Int) (ro : Option Nat) (W : World) : Prop := ∃ v, W.heap[b]? = some (.cells #[v] 22 (0, 0)) ∧ Kd.N (Kd.int .i64) 3 W (b + 1) (fun k => b < k) v s ∧ v.ownBlock = ro
theorem StS_ok (b : Nat) : StOk b (StS b) where
  below := fun s ro W W' ⟨v, h1, h2, h3⟩ hB => ⟨v, (hB.block _ (blk_lt h1)).trans h1, Kd.N_below h2 hB, h3⟩
  lt := fun s ro W ⟨v, h1, h2, h3⟩ => ⟨blk_lt h1, fun k hk => Kd.N_lt h2 k (h3.trans hk)⟩
end Go.Proofs.Ytcgnpmjkeifokaa
-- K22
/- The function of term.Stands. -/
namespace Go.Proofs.Ytcgnpmjkeifokaa
open Go.RowKit Go.Proofs.YtcgnpmjkeifokaaW.PrintWords
set_option linter.unusedVariables false
set_option linter.unusedSimpArgs false
theorem sizeIs : (Try.prog.info? 22).map (·.size) = some 1 := by kernel_rfl
set_option maxHeartbeats 4000000 in
set_option maxRecDepth 100000 in
theorem stands1_any (b M : Nat) (hM : M * 8 ≤ 140737488355328) : WkC 119 #[.pointer (some ⟨b, 0, none⟩)] stF b (StS b) List.length M := by
  intro s ro x A c pv okt W hlt hF hc hS
  obtain ⟨v, h1, h2, hro⟩ := hS
  show Calls Try.prog 119 #[pv, .agg #[.int .i64 x.f0, .int .i64 x.f1, .slice A x.f2.length c], .pointer (some ⟨b, 0, none⟩)] W _
  obtain ⟨Av, cv, rfl⟩ := Kd.N_slice h2
  have HRO := Aside0.mk hro
  have HN := Aside0.mk h2
  have HBL := Aside0.mk hlt
  have hbW := blk_lt h1
  have HB := Aside0.mk (below_alloc (Below.refl W.heap.size W) (.cells #[.int .i64 x.f0, .int .i64 x.f1, .slice A x.f2.length c] 46))
  have g0 := newAt (w := W) (o := .cells #[.int .i64 x.f0, .int .i64 x.f1, .slice A x.f2.length c] 46) rfl
  have g1 := blk_alloc h1 (.cells #[.int .i64 x.f0, .int .i64 x.f1, .slice A x.f2.length c] 46)
  have hz1 : (W.alloc (.cells #[.int .i64 x.f0, .int .i64 x.f1, .slice A x.f2.length c] 46)).heap.size = W.heap.size + 1 := by simp
  clear h1 h2 hF hro hlt
  go_enter Try.func119, Try.ntmps119
  go_upto_region 1 with (fail)
  generalize W.alloc (.cells #[.int .i64 x.f0, .int .i64 x.f1, .slice A x.f2.length c] 46) = W1 at *
  have c0 := (blk_cell g0 0).trans rfl
  have b0 := (blk_cell g1 0).trans rfl
  have G1 := Aside0.mk g1
  have G0 := Aside0.mk g0
  have HN1 := Aside0.mk (Kd.N_below HN.out HB.out)
  clear g0 g1
  by_cases hp : 0 < x.f0
  · cases hh : hasB s x.f0 with
    | true =>
      have HF : Aside0 (stF s x = (s, true)) := ⟨by unfold stF; rw [if_neg (by simp [hh])]⟩
      go_wp2_with (go_at_call 120; refine (contains_int s x.f0 Av cv W1 (Kd.N_reads' HN1.out).2.2).mono ?_; rintro e w2 ⟨rfl, hb2⟩; simp only [hh]; have HB2 := Aside0.mk hb2; clear hb2 c0 b0)
      go_ret
      first | exact ⟨ro, by rw [HF.out]; rfl, by rw [HF.out]; exact (StS_ok b).below _ _ _ _ ⟨_, G1.out, HN1.out, HRO.out⟩ HB2.out, Fr.of_below (hbT HB.out HB2.out), .inl rfl⟩ | exact ⟨by rw [HF.out]; rfl, ro, by rw [HF.out]; exact (StS_ok b).below _ _ _ _ ⟨_, G1.out, HN1.out, HRO.out⟩ HB2.out, Fr.of_below (hbT HB.out HB2.out), .inl rfl⟩
    | false =>
      have HF : Aside0 (stF s x = (s ++ [x.f0], true)) := ⟨by unfold stF; rw [if_pos ⟨hp, hh⟩]⟩
      go_upto_region 2 with (go_at_call 120; refine (contains_int s x.f0 Av cv W1 (Kd.N_reads' HN1.out).2.2).mono ?_; rintro e w2 ⟨rfl, hb2⟩; simp only [hh]; have HB2 := Aside0.mk hb2; have G2 := Aside0.mk ((hb2.block _ (blk_lt G1.out)).trans G1.out); have G02 := Aside0.mk ((hb2.block _ (blk_lt G0.out)).trans G0.out); have HN2 := Aside0.mk (Kd.N_below HN1.out hb2); have hz2 := hb2.size; clear hb2 c0 b0)
      have b0 := (blk_cell G2.out 0).trans rfl
      have c0 := (blk_cell G02.out 0).trans rfl
      go_wp2_with (first | (at_builtin; refine Kd.N_append (Kd.int .i64) (w0 := w2) (b + 1) rfl _ _ 22 3 _ 8 rfl Try.underlying22 infoI rfl (by decide) (by decide) (.slice Av s.length cv) s x.f0 [.int .i64 x.f0] (fun k => b < k) (fun _ => False) rfl rfl (fun _ _ => rfl) (fun _ h => h.elim) (fun k hk => by omega) HN2.out (Below.refl _ _) (by omega) ?_ ?_; (have := HBL.out; omega); intro v3 w3 hN3 hB3 hG3 hI3; obtain ⟨A3, c3, rfl⟩ := Kd.N_slice hN3; have HN3 := Aside0.mk hN3; have HB3 := Aside0.mk hB3; have HG3 := Aside0.mk hG3; have HI3 := Aside0.mk hI3; have G3 := Aside0.mk ((hB3.block b (by omega)).trans G2.out); clear hN3 hB3 hG3 hI3 b0 c0) | ((with_reducible refine gate_store (t := 22) (p := 2) rfl ?_); refine st_blk rfl rfl rfl #[.slice A3 (s ++ [x.f0]).length c3] [.slice A3 (s ++ [x.f0]).length c3] rfl rfl rfl sizeIs (one1 _ _ _) G3.out (Nat.le_refl 1) rfl ?_; intro w4 hs4 hG4 hz4; have HS4 := Aside0.mk hs4; have HG4 := Aside0.mk hG4; clear hs4 hG4))
      go_ret
      have hz3 := HG3.out.size
      have hSt : StS b (s ++ [x.f0]) (Value.slice A3 (s ++ [x.f0]).length c3).ownBlock w4 := ⟨_, HS4.out, Kd.N_grown HN3.out HG4.out (fun k hk => by intro e; injection e with e; omega), rfl⟩
      have hFr : Fr b W ro w4 := ⟨HG4.out.os.trans (HG3.out.os.trans (hbT HB.out HB2.out).os), HG4.out.tape.trans (HG3.out.tape.trans (hbT HB.out HB2.out).tape), HG4.out.output.trans (HG3.out.output.trans (hbT HB.out HB2.out).output), by have := HG4.out.size; omega, fun i hi hb hn => (HG4.out.block i (by omega) (by intro e; injection e with e; omega)).trans ((HG3.out.block i (by omega) (by rw [HRO.out]; exact hn)).trans ((hbT HB.out HB2.out).block i hi))⟩
      have hRo : RoNew W ro (Value.slice A3 (s ++ [x.f0]).length c3).ownBlock := by
        rcases HI3.out with h | ⟨q, h, hq⟩
        · exact .inl (h.trans HRO.out)
        · exact .inr ⟨q, h, by omega⟩
      first | exact ⟨_, by rw [HF.out]; rfl, by rw [HF.out]; exact hSt, hFr, hRo⟩ | exact ⟨by rw [HF.out]; rfl, _, by rw [HF.out]; exact hSt, hFr, hRo⟩
  · have HF : Aside0 (stF s x = (s, true)) := ⟨by unfold stF; rw [if_neg (by simp [hp])]⟩
    go_wp2
    go_ret
    first | exact ⟨ro, by rw [HF.out]; rfl, by rw [HF.out]; exact ⟨_, G1.out, HN1.out, HRO.out⟩, Fr.of_below HB.out, .inl rfl⟩ | exact ⟨by rw [HF.out]; rfl, ro, by rw [HF.out]; exact ⟨_, G1.out, HN1.out, HRO.out⟩, Fr.of_below HB.out, .inl rfl⟩
end Go.Proofs.Ytcgnpmjkeifokaa
-- K23
/- term.Stands. -/
namespace Go.Proofs.Ytcgnpmjkeifokaa
open Go.RowKit Go.Proofs.YtcgnpmjkeifokaaW.PrintWords
set_option linter.unusedVariables false
set_option linter.unusedSimpArgs false
/-- The variables of terms, in the order in which they are first met from the front. -/
def stL : List Int → List Tm → List Int
  | s, [] => s
  | s, t :: ts => stL (walkT stF s t).1 ts
theorem stL_append (a b : List Tm) : ∀ s, stL s (a ++ b) = stL (stL s a) b := by
  induction a with
  | nil => intro s; rfl
  | cons t ts ih => intro s; simp only [List.cons_append, stL]; exact ih _
theorem stL_take_succ (s : List Int) (l : List Tm) (k : Nat) (hk : k < l.length) : stL s (l.take (k+1)) = (walkT stF (stL s (l.take k)) (rd_Tm l k)).1 := by
  rw [List.take_succ_eq_append_getElem hk, stL_append, rd_get l k hk]; rfl
theorem stL_len (l : List Tm) : ∀ s, (stL s l).length ≤ s.length + szL l := by
  induction l with
  | nil => intro s; simp [stL]
  | cons t ts ih =>
    intro s
    have h1 := ih (walkT stF s t).1
    have h2 := walk_mu stF List.length stF_mu t s
    simp only [stL, szL]; omega
set_option maxHeartbeats 4000000 in
set_option maxRecDepth 100000 in
theorem stands_any (l : List Tm) (A : Option Addr) (c : Nat) (ok : Nat → Prop) (w : World) (hbd : szL l ≤ 1000000) (hF : Kd.F kTm w ok A l.length l) :
    Calls Try.prog 80 #[.slice A l.length c] w fun e w' => ∃ v1, e = .returned v1 ∧ Kd.N (Kd.int .i64) 3 w' (w.heap.size + 1) (fun k => w.heap.size < k) v1 (stL [] l) ∧ Below w.heap.size w w' := by
  have hlen := Kd.F_max hF
  have HF := Aside0.mk (Kd.F_bound hF)
  have HBD := Aside0.mk hbd
  clear hF hbd
  have eg := enters_of Try.func119 (by kernel_rfl) rfl
  go_enter Try.func80, Try.ntmps80
  go_wp2
  go_loopw [8] (fun i wr => ∃ (k : Nat) (ro : Option Nat), k ≤ l.length ∧ i = .int .i64 k ∧ Aside0 (StS w.heap.size (stL [] (l.take k)) ro wr) ∧ Aside0 (Below w.heap.size w wr)) (fun i _ => l.length - (intOf i).toNat)
  case atStart => exact ⟨0, none, by omega, rfl, ⟨⟨_, heap_alloc_new _ _, Kd.N_nil _ _ _ _ _, rfl⟩⟩, ⟨below_alloc (Below.refl _ _) _⟩⟩
  case round =>
    obtain ⟨k, ro, hk, rfl, HS, HB⟩ := hrel
    have hzr := HB.out.size
    have hlt2 := ((StS_ok w.heap.size).lt _ _ _ HS.out).1
    by_cases hlt : k < l.length
    · obtain ⟨ad, A2, c2, rfl, E0, E1, E2, hl2, hF2, _⟩ := at_TmF (Kd.F_below HF.out HB.out) (k : Int) (by omega) (by omega)
      simp only [Int.toNat_natCast] at E0 E1 E2
      have HTm := Aside0.mk (szT_mem (rd_mem l k hlt))
      have HTK := Aside0.mk (stL_take_succ [] l k hlt)
      have HLN := Aside0.mk (stL_len (l.take k) [])
      have HLE := Aside0.mk (szL_take_le l k)
      have HROB : Aside0 (∀ q, ro = some q → w.heap.size + 1 ≤ q) := ⟨fun q hq => by obtain ⟨v, _, h2, h3⟩ := HS.out; exact Kd.N_base h2 q (h3.trans hq)⟩
      have HF2 := Aside0.mk hF2
      have HC2 := Aside0.mk hl2
      clear hF2 hl2
      go_wp2_with (first | (((with_reducible refine gate_store (t := 46) (p := 5) rfl ?_); refine st_tm 5 rfl rfl rfl rfl rfl (heap_alloc_new _ _) ?_); intro w4 hs4 hG4 hz4; have s0 := (blk_cell hs4 0).trans rfl; have s1 := (blk_cell hs4 1).trans rfl; have s2 := (blk_cell hs4 2).trans rfl; have HB4 := Aside0.mk (gbS (below_alloc (Below.refl wr.heap.size wr) _) hG4 (Nat.le_refl _)); have hz4' := HB4.out.size; clear hs4 hG4 E0 E1 E2) | (go_at_call 118; refine (Walk_any 119 #[.pointer (some ⟨w.heap.size, 0, none⟩)] stF w.heap.size (StS w.heap.size) eg List.length 2000000 stF_mu (stands1_any _ _ (by decide)) (StS_ok _) (rd_Tm l (k : Int)) A2 c2 (stL [] (l.take k)) ro (fun j => ok j ∧ j < w.heap.size) w4 ?_ ?_ (Kd.F_below HF2.out HB4.out) HC2.out ?_ ((StS_ok _).below _ _ _ _ HS.out HB4.out)).mono ?_; (have := HLN.out; have := HLE.out; have := HTm.out; have := HBD.out; simp only [List.length_nil] at *; omega); (have := HTm.out; have := HBD.out; omega); (exact fun j hj => ⟨by have := hj.2; omega, fun e => by have := HROB.out _ e.symm; have := hj.2; omega⟩); rintro e w5 ⟨r5, rfl, hS5, hFr5, hRo5⟩; have HS5 := Aside0.mk hS5; have HFr5 := Aside0.mk hFr5; clear hS5 hFr5 hRo5 s0 s1 s2))
      go_roundw
      case rel => exact ⟨k + 1, r5, by omega, by go_num, ⟨by rw [HTK.out]; exact HS5.out⟩, ⟨by
        have h4 := hbT HB.out HB4.out
        have h5 := HFr5.out
        exact ⟨h5.os.trans h4.os, h5.tape.trans h4.tape, h5.output.trans h4.output, Nat.le_trans h4.size h5.size, fun i hi => (h5.block i (by omega) (by omega) (fun e => by have := HROB.out _ e.symm; omega)).trans (h4.block i hi)⟩⟩⟩
      case measure => simp [intOf]; omega
    · obtain rfl : k = l.length := by omega
      obtain ⟨v, h1, h2, h3⟩ := HS.out
      rw [List.take_length] at h2
      have HN := Aside0.mk h2
      have b0 := (blk_cell h1 0).trans rfl
      clear h1 h2 h3
      go_wp2
      go_ret
      first | exact ⟨v, rfl, HN.out, HB.out⟩ | exact ⟨rfl, v, HN.out, HB.out⟩
end Go.Proofs.Ytcgnpmjkeifokaa
-- K24
/- slices.insertionSortOrdered of one number. -/
namespace Go.Proofs.Ytcgnpmjkeifokaa
open Go.RowKit Go.Proofs.YtcgnpmjkeifokaaW.PrintWords
set_option linter.unusedVariables false
set_option linter.unusedSimpArgs false
end Go.Proofs.Ytcgnpmjkeifokaa
-- K25
/- math/bits.Len of one. -/
namespace Go.Proofs.Ytcgnpmjkeifokaa
open Go.RowKit Go.Proofs.YtcgnpmjkeifokaaW.PrintWords
set_option linter.unusedVariables false
end Go.Proofs.Ytcgnpmjkeifokaa
-- K26
/- term.Vars of a term with one variable. -/
namespace Go.Proofs.Ytcgnpmjkeifokaa
open Go.RowKit Go.Proofs.YtcgnpmjkeifokaaW.PrintWords
set_option linter.unusedVariables false
set_option linter.unusedSimpArgs false
end Go.Proofs.Ytcgnpmjkeifokaa
-- K27
/- term.Size of a term that is right. -/
namespace Go.Proofs.Ytcgnpmjkeifokaa
open Go.RowKit Go.Proofs.YtcgnpmjkeifokaaW.PrintWords
set_option linter.unusedVariables false
set_option linter.unusedSimpArgs false
end Go.Proofs.Ytcgnpmjkeifokaa
-- K28
/- superposelaw.termBegun. -/
namespace Go.Proofs.Ytcgnpmjkeifokaa
open Go.RowKit Go.Proofs.YtcgnpmjkeifokaaW.PrintWords
set_option linter.unusedVariables false
set_option linter.unusedSimpArgs false
def tS : Tm := ⟨0, 1, [⟨2, 0, []⟩]⟩
def uS : Tm := ⟨0, 0, []⟩
def rS : Tm := ⟨0, 1, [⟨0, 0, []⟩]⟩
theorem putR_s : putR [0, 1] tS uS [0] = rS := by rfl
theorem putE_s : putE [0, 1] tS uS [0] = 0 := by rfl
theorem chk_rS : chkTs [0, 1] [rS] = 0 := by rfl
theorem chk_tS : chkTs [0, 1] [tS] = 0 := by rfl
theorem st_tS : stL [] [tS] = [2] := by rfl
theorem sz_rS : szT rS = 2 := by rfl
theorem sig_s : sigE [0, 1] = 0 := by rfl
/-- The cells of a term's own block. -/
theorem tm_cells {W : World} {g e : Nat} {a b : Int} {A : Option Addr} {n c : Nat} (h : W.heap[g]? = some (.cells #[.int .i64 a, .int .i64 b, .slice A n c] e (0, 0))) : W.cell? ⟨g, 0, none⟩ = some (.int .i64 a) ∧ W.cell? ⟨g, 1, none⟩ = some (.int .i64 b) ∧ W.cell? ⟨g, 2, none⟩ = some (.slice A n c) :=
  ⟨(blk_cell h 0).trans rfl, (blk_cell h 1).trans rfl, (blk_cell h 2).trans rfl⟩
theorem F_va {W : World} {gb : Nat} (n : Int) (hb : W.heap[gb]? = some (.cells #[.int .i64 n, .int .i64 0, .slice none 0 0] 46 (0, 0))) : Kd.F kTm W (fun k => k = gb) (some ⟨gb, 0, none⟩) 1 [⟨n, 0, []⟩] :=
  Kd.F_mono (F_lit1 (t := ⟨n, 0, []⟩) (ok := fun _ => False) hb (F_none _ _) (Nat.le_refl _)) (fun _ h => h.elim False.elim id)
theorem C_n {W : World} {gb : Nat} {x : Int} (hb : W.heap[gb]? = some (.cells #[.int .i64 x] 3 (0, 0))) : Kd.C (Kd.int .i64) W (some ⟨gb, 0, none⟩) 1 [x] := Kd.F_now (F_int1 hb)
end Go.Proofs.Ytcgnpmjkeifokaa
-- K29
/- superposelaw.termBegun. -/
namespace Go.Proofs.Ytcgnpmjkeifokaa
open Go.RowKit Go.Proofs.YtcgnpmjkeifokaaW.PrintWords
set_option linter.unusedVariables false
set_option linter.unusedSimpArgs false
end Go.Proofs.Ytcgnpmjkeifokaa
-- KRow
/- From what a claim's row says of an argument (DataW.Trod) to the kinds of this program. -/
namespace Go.Proofs.Ytcgnpmjkeifokaa
open Go.RowKit Go.WideShapes Go.ChangeShapes Go.Proofs.YtcgnpmjkeifokaaW.PrintWords
set_option linter.unusedVariables false
set_option linter.unusedSimpArgs false
theorem sg_cell {W : World} {g e : Nat} {A : Option Addr} {n c : Nat} (h : W.heap[g]? = some (.cells #[.slice A n c] e (0, 0))) : W.cell? ⟨g, 0, none⟩ = some (.slice A n c) := (blk_cell h 0).trans rfl
section
variable {H : Type} {enc : TypeId × Value → H} {P : Program} {w : World} {spare : Nat → Bool} {held : Bool}
/-- What is read with less fuel than n is read by the kind. -/
def Op {α : Type} (enc : TypeId × Value → H) (P : Program) (w : World) (spare : Nat → Bool) (held : Bool) (n : Nat) (d : Kd α) (t : TypeId) : Prop :=
  ∀ fuel cs x, fuel < n → DataW.trod enc P w 0 spare held fuel t cs = some x → ∃ y, d.K w y cs
theorem Op.mono {α : Type} {n m : Nat} {d : Kd α} {t : TypeId} (h : Op enc P w spare held n d t) (hm : m ≤ n) : Op enc P w spare held m d t := fun fuel cs x hf => h fuel cs x (by omega)
theorem op_int {k : IntKind} {t : TypeId} {n : Nat} (ht : P.underlying t = some (.int k)) : Op enc P w spare held n (Kd.int k) t := fun fuel cs x _ h => by
  obtain ⟨z, rfl, _⟩ := DataW.trod_int ht h
  exact ⟨z, rfl⟩
theorem op_bool {t : TypeId} {n : Nat} (ht : P.underlying t = some .bool) : Op enc P w spare held n Kd.bool t := fun fuel cs x _ h => by
  obtain ⟨z, rfl, _⟩ := DataW.trod_bool ht h
  exact ⟨z, rfl⟩
theorem op_slice {α : Type} {d : Kd α} {t e : TypeId} {n : Nat} (ht : P.underlying t = some (.slice e)) (hs : d.sz = P.cellsOf e) (h : Op enc P w spare held n d e) : Op enc P w spare held (n + 1) (Kd.slice e d) t := by
  intro fuel cs x hf hx
  rcases DataW.trod_slice ht hx with ⟨rfl, _⟩ | ⟨a, len, cap, elems, rest, m, rfl, rfl, rfl, _, hl, hm, hlen, hel, hsp, hns⟩
  · exact ⟨[], none, 0, rfl, Nat.le_refl _, Kd.C_nil d w⟩
  · have hall : ∀ i, i < len → ∃ y c, d.K w y c ∧ w.cells? 0 (a.add (i * P.cellsOf e)) (P.cellsOf e) = some c := fun i hi => by
      have h1 := hel i hi
      rw [List.getElem?_eq_getElem (by omega)] at h1
      obtain ⟨c, h2, h3⟩ := Option.bind_eq_some_iff.1 h1
      obtain ⟨y, hy⟩ := h m c _ (by omega) h3
      exact ⟨y, c, hy, h2⟩
    obtain ⟨xs, hxl, hxs⟩ : ∃ xs : List α, xs.length = len ∧ ∀ j p, xs[j]? = some p → ∃ c, d.K w p c ∧ w.cells? 0 (a.add (j * P.cellsOf e)) (P.cellsOf e) = some c := by
      clear hel hlen hx hl hsp hns
      induction len with
      | zero => exact ⟨[], rfl, fun j p hj => by simp at hj⟩
      | succ k ih =>
        obtain ⟨xs, h1, h2⟩ := ih (fun i hi => hall i (by omega))
        obtain ⟨y, c, h3, h4⟩ := hall k (by omega)
        refine ⟨xs ++ [y], by simp [h1], fun j p hj => ?_⟩
        rcases Nat.lt_or_ge j k with hj2 | hj2
        · rw [List.getElem?_append_left (by omega)] at hj; exact h2 j p hj
        · have : j = k := by
            have := (List.getElem?_eq_some_iff.1 hj).1
            simp [h1] at this; omega
          subst this
          rw [List.getElem?_append_right (by omega), h1] at hj
          simp at hj; subst hj
          exact ⟨c, h3, h4⟩
    refine ⟨xs, some a, cap, by rw [hxl], by omega, ⟨rfl, by have hmx : maxLen ≤ 9223372036854775807 := (by decide); omega, fun _ => ⟨a, rfl, fun j p hj => ?_⟩⟩⟩
    obtain ⟨c, h1, h2⟩ := hxs j p hj
    refine ⟨c, d.K_len h1, h1, fun i u hu => ?_⟩
    obtain ⟨_, h4, h5⟩ := World.cells?_some h2
    have hi : i < P.cellsOf e := by have := (List.getElem?_eq_some_iff.1 hu).1; omega
    have h6 := h5 i hi
    rw [hs, ← Addr.add_add]
    rw [h6, hu]
theorem list1 {α : Type} {cs : List α} (h : cs.length = 1) : ∃ a, cs = [a] := by
  match cs, h with
  | [a], _ => exact ⟨a, rfl⟩
theorem list3 {α : Type} {cs : List α} (h : cs.length = 3) : ∃ a b c, cs = [a, b, c] := by
  match cs, h with
  | [a, b, c], _ => exact ⟨a, b, c, rfl⟩
theorem list7 {α : Type} {cs : List α} (h : cs.length = 7) : ∃ a b c d e f g, cs = [a, b, c, d, e, f, g] := by
  match cs, h with
  | [a, b, c, d, e, f, g], _ => exact ⟨a, b, c, d, e, f, g, rfl⟩
theorem wide_struct {P : Program} {w : World} {r : Reach} {base : Nat} {t : TypeId} {fs : Array Field} {v : Value} (ht : P.underlying t = some (.struct fs)) (h : Value.okWide P w r base t v) : ∃ l : List Value, v = .agg l.toArray := by
  obtain ⟨⟨cs⟩, h, _⟩ := okWide_struct ht h
  exact ⟨cs, h⟩
/-- A field of a struct. -/
theorem op_fld {α : Type} {d : Kd α} {t : TypeId} {n m : Nat} {cs c : List Value} {o : Option (DataW H × List MemPlace)} {y : DataW H × List MemPlace} (h : Op enc P w spare held n d t) (hm : m < n) (hx : DataW.trod enc P w 0 spare held m t cs = o) (ho : o = some y) (hc : cs = c) : ∃ z, d.K w z c := by
  subst hc
  exact h m cs y hm (hx.trans ho)
end
section
variable {H : Type} {enc : TypeId × Value → H} {w : World} {spare : Nat → Bool} {held : Bool}
theorem c_int : Try.prog.cellsOf 3 = 1 := by kernel_rfl
theorem c_bool : Try.prog.cellsOf 4 = 1 := by kernel_rfl
theorem c_ints : Try.prog.cellsOf 22 = 1 := by kernel_rfl
theorem c_tms : Try.prog.cellsOf 44 = 1 := by kernel_rfl
theorem c_tm : Try.prog.cellsOf 46 = 3 := by kernel_rfl
theorem c_li : Try.prog.cellsOf 84 = 7 := by kernel_rfl
theorem c_cl : Try.prog.cellsOf 26 = 1 := by kernel_rfl
theorem c_sg : Try.prog.cellsOf 24 = 1 := by kernel_rfl
theorem op_tm : ∀ n, Op enc Try.prog w spare held n kTm 46 := by
  intro n
  induction n with
  | zero => intro fuel cs x hf; omega
  | succ n ih =>
    intro fuel cs x hf hx
    obtain ⟨xs, m, rfl, _, hl, hlen, hfs⟩ := DataW.trod_struct Try.underlying46 hx
    have hl3 : cs.length = 3 := hl.trans c_tm
    have hx3 : xs.length = 3 := hlen
    obtain ⟨c0, c1, c2, rfl⟩ := list3 hl3
    have h0 : DataW.trod enc Try.prog w 0 spare held m 3 ((([c0, c1, c2] : List Value).drop 0).take (Try.prog.cellsOf 3)) = xs[0]? := hfs 0 _ rfl
    have h1 : DataW.trod enc Try.prog w 0 spare held m 3 ((([c0, c1, c2] : List Value).drop 1).take (Try.prog.cellsOf 3)) = xs[1]? := hfs 1 _ rfl
    have h2 : DataW.trod enc Try.prog w 0 spare held m 44 ((([c0, c1, c2] : List Value).drop 2).take (Try.prog.cellsOf 44)) = xs[2]? := hfs 2 _ rfl
    rw [c_int] at h0 h1
    rw [c_tms] at h2
    obtain ⟨z0, e0⟩ := op_fld (op_int (n := m + 1) Try.underlying3) (by omega) h0 (List.getElem?_eq_getElem (by omega)) (c := [c0]) rfl
    obtain ⟨z1, e1⟩ := op_fld (op_int (n := m + 1) Try.underlying3) (by omega) h1 (List.getElem?_eq_getElem (by omega)) (c := [c1]) rfl
    obtain ⟨z2, A2, k2, e2, l2, g2⟩ := op_fld (op_slice (n := n) Try.underlying44 c_tm.symm ih) (m := m) (by omega) h2 (List.getElem?_eq_getElem (by omega)) (c := [c2]) rfl
    have e0' : [c0] = [.int .i64 z0] := e0
    have e1' : [c1] = [.int .i64 z1] := e1
    injection e0' with e0' _
    injection e1' with e1' _
    injection e2 with e2 _
    subst e0' e1' e2
    exact ⟨⟨z0, z1, z2⟩, kTm_mk w ⟨z0, z1, z2⟩ l2 g2⟩
theorem op_li : ∀ n, Op enc Try.prog w spare held n kLi 84 := by
  intro n fuel cs x hf hx
  obtain ⟨xs, m, rfl, _, hl, hlen, hfs⟩ := DataW.trod_struct Try.underlying84 hx
  have hl3 : cs.length = 7 := hl.trans c_li
  have hx3 : xs.length = 3 := hlen
  obtain ⟨c0, c1, c2, c3, c4, c5, c6, rfl⟩ := list7 hl3
  have h0 : DataW.trod enc Try.prog w 0 spare held m 4 ((([c0, c1, c2, c3, c4, c5, c6] : List Value).drop 0).take (Try.prog.cellsOf 4)) = xs[0]? := hfs 0 _ rfl
  have h1 : DataW.trod enc Try.prog w 0 spare held m 46 ((([c0, c1, c2, c3, c4, c5, c6] : List Value).drop 1).take (Try.prog.cellsOf 46)) = xs[1]? := hfs 1 _ rfl
  have h2 : DataW.trod enc Try.prog w 0 spare held m 46 ((([c0, c1, c2, c3, c4, c5, c6] : List Value).drop 4).take (Try.prog.cellsOf 46)) = xs[2]? := hfs 2 _ rfl
  rw [c_bool] at h0
  rw [c_tm] at h1 h2
  obtain ⟨z0, e0⟩ := op_fld (op_bool (n := m + 1) Try.underlying4) (by omega) h0 (List.getElem?_eq_getElem (by omega)) (c := [c0]) rfl
  obtain ⟨z1, e1⟩ := op_fld (op_tm (m + 1)) (by omega) h1 (List.getElem?_eq_getElem (by omega)) (c := [c1, c2, c3]) rfl
  obtain ⟨z2, e2⟩ := op_fld (op_tm (m + 1)) (by omega) h2 (List.getElem?_eq_getElem (by omega)) (c := [c4, c5, c6]) rfl
  exact ⟨⟨z0, z1, z2⟩, [c0], [c1, c2, c3, c4, c5, c6], rfl, e0, [c1, c2, c3], [c4, c5, c6], rfl, e1, e2⟩
theorem op_cl (n : Nat) : Op enc Try.prog w spare held n kCl 26 := (op_slice (n := n) Try.underlying26 c_li.symm (op_li n)).mono (by omega)
theorem op_sg (n : Nat) : Op enc Try.prog w spare held n (Kd.slice 3 (Kd.int .i64)) 24 := by
  intro fuel cs x hf hx
  obtain ⟨xs, m, rfl, _, hl, hlen, hfs⟩ := DataW.trod_struct Try.underlying24 hx
  have hl3 : cs.length = 1 := hl.trans c_sg
  have hx3 : xs.length = 1 := hlen
  obtain ⟨c0, rfl⟩ := list1 hl3
  have h0 : DataW.trod enc Try.prog w 0 spare held m 22 ((([c0] : List Value).drop 0).take (Try.prog.cellsOf 22)) = xs[0]? := hfs 0 _ rfl
  rw [c_ints] at h0
  exact op_fld (op_slice (n := m + 1) Try.underlying22 c_int.symm (op_int Try.underlying3)) (by omega) h0 (List.getElem?_eq_getElem (by omega)) (c := [c0]) rfl
/-! ### arguments -/
variable {W : World} {base : Nat} {v : Value} {d : DataW H} {p : List MemPlace} {sp : Nat → Bool}
set_option maxRecDepth 100000 in
theorem arg_tm (hval : Value.okWide Try.prog W .any base 46 v) (h : DataW.Trod enc Try.prog W 0 sp held 46 v d p) : ∃ (x : Tm) (A : Option Addr) (c : Nat), v = .agg #[.int .i64 x.f0, .int .i64 x.f1, .slice A x.f2.length c] ∧ x.f2.length ≤ c ∧ Kd.F kTm W (fun _ => True) A x.f2.length x.f2 := by
  obtain ⟨cs, rfl⟩ := wide_struct Try.underlying46 hval
  obtain ⟨fuel, hf⟩ := h
  obtain ⟨x, hx⟩ := op_tm (fuel + 1) fuel _ _ (Nat.lt_succ_self _) hf
  obtain ⟨A, c, e, hl, hC⟩ := kTm_open hx
  have e' : cs = [.int .i64 x.f0, .int .i64 x.f1, .slice A x.f2.length c] := e
  subst e'
  exact ⟨x, A, c, rfl, hl, Kd.F_mono (Kd.C_F kTm_heap hC) (fun _ _ => trivial)⟩
set_option maxRecDepth 100000 in
theorem arg_sg (hval : Value.okWide Try.prog W .any base 24 v) (h : DataW.Trod enc Try.prog W 0 sp held 24 v d p) : ∃ (g : List Int) (A : Option Addr) (c : Nat), v = .agg #[.slice A g.length c] ∧ g.length ≤ c ∧ Kd.C (Kd.int .i64) W A g.length g := by
  obtain ⟨cs, rfl⟩ := wide_struct Try.underlying24 hval
  obtain ⟨fuel, hf⟩ := h
  obtain ⟨x, A, c, e, hl, hC⟩ := op_sg (fuel + 1) fuel _ _ (Nat.lt_succ_self _) hf
  have e' : cs = [.slice A x.length c] := e
  subst e'
  exact ⟨x, A, c, rfl, hl, hC⟩
set_option maxRecDepth 100000 in
theorem arg_ints (hval : Value.okWide Try.prog W .any base 22 v) (h : DataW.Trod enc Try.prog W 0 sp held 22 v d p) : ∃ (g : List Int) (A : Option Addr) (c : Nat), v = .slice A g.length c ∧ g.length ≤ c ∧ Kd.C (Kd.int .i64) W A g.length g := by
  obtain ⟨a, len, cap, rfl⟩ := okWide_slice Try.underlying22 hval
  obtain ⟨fuel, hf⟩ := h
  obtain ⟨x, A, c, e, hl, hC⟩ := op_slice (n := fuel) Try.underlying22 c_int.symm (op_int Try.underlying3) fuel _ _ (Nat.lt_succ_self _) hf
  have e' : [Value.slice a len cap] = [.slice A x.length c] := e
  injection e' with e' _
  injection e' with h1 h2 h3
  subst h1 h2 h3
  exact ⟨x, a, cap, rfl, hl, hC⟩
set_option maxRecDepth 100000 in
theorem arg_cl (hval : Value.okWide Try.prog W .any base 26 v) (h : DataW.Trod enc Try.prog W 0 sp held 26 v d p) : ∃ (g : List Li) (A : Option Addr) (c : Nat), v = .slice A g.length c ∧ g.length ≤ c ∧ Kd.F kLi W (fun _ => True) A g.length g := by
  obtain ⟨a, len, cap, rfl⟩ := okWide_slice Try.underlying26 hval
  obtain ⟨fuel, hf⟩ := h
  obtain ⟨x, A, c, e, hl, hC⟩ := op_cl (fuel + 1) fuel _ _ (Nat.lt_succ_self _) hf
  have e' : [Value.slice a len cap] = [.slice A x.length c] := e
  injection e' with e' _
  injection e' with h1 h2 h3
  subst h1 h2 h3
  exact ⟨x, a, cap, rfl, hl, Kd.F_mono (Kd.C_F kLi_heap hC) (fun _ _ => trivial)⟩
end
end Go.Proofs.Ytcgnpmjkeifokaa
-- KMap
/- Maps keyed by whole numbers, told as the list of their entries in the order in which they came. -/
namespace Go.Proofs.Ytcgnpmjkeifokaa
open Go.RowKit Go.Proofs.YtcgnpmjkeifokaaW.PrintWords
set_option linter.unusedVariables false
set_option linter.unusedSimpArgs false
set_option linter.unusedSectionVars false
section
variable {κ α : Type} [DecidableEq κ]
def mget : List (κ × α) → κ → Option α
  | [], _ => none
  | p :: m, k => if p.1 = k then some p.2 else mget m k
def mset : List (κ × α) → κ → α → List (κ × α)
  | [], k, x => [(k, x)]
  | p :: m, k, x => if p.1 = k then (k, x) :: m else p :: mset m k x
theorem mset_new {m : List (κ × α)} {k : κ} (h : mget m k = none) (x : α) : mset m k x = m ++ [(k, x)] := by
  induction m with
  | nil => rfl
  | cons p m ih =>
    rw [mget] at h
    by_cases hk : p.1 = k
    · rw [if_pos hk] at h; cases h
    · rw [if_neg hk] at h; rw [mset, if_neg hk, ih h]; rfl
theorem mget_set {m : List (κ × α)} {k k' : κ} {x : α} : mget (mset m k x) k' = if k = k' then some x else mget m k' := by
  induction m with
  | nil => rw [mset, mget, mget]; rfl
  | cons p m ih =>
    rw [mset]
    by_cases hk : p.1 = k
    · rw [if_pos hk, mget, mget, hk]
      by_cases h2 : k = k'
      · simp [h2]
      · simp [h2]
    · rw [if_neg hk, mget, mget, ih]
      by_cases h2 : p.1 = k'
      · rw [if_pos h2, if_pos h2, if_neg (fun e => hk (h2.trans e.symm))]
      · rw [if_neg h2, if_neg h2]
theorem mset_len (m : List (κ × α)) (k : κ) (x : α) : (mset m k x).length ≤ m.length + 1 := by
  induction m with
  | nil => simp [mset]
  | cons p m ih =>
    rw [mset]
    by_cases hk : p.1 = k
    · simp [hk]
    · simp [hk]; omega
/-- Entries and what they are told as. -/
def Ents (ke : κ → Value) (vr : α → Value → Prop) : List MapEntry → List (κ × α) → Prop
  | [], [] => True
  | e :: es, p :: m => e.key = ke p.1 ∧ vr p.2 e.val ∧ Ents ke vr es m
  | _, _ => False
theorem Ents.imp {ke : κ → Value} {vr vr' : α → Value → Prop} (h : ∀ x v, vr x v → vr' x v) : ∀ {es : List MapEntry} {m : List (κ × α)}, Ents ke vr es m → Ents ke vr' es m
  | [], [], _ => trivial
  | _ :: _, _ :: _, hh => ⟨hh.1, h _ _ hh.2.1, Ents.imp h hh.2.2⟩
  | [], _ :: _, hh => hh.elim
  | _ :: _, [], hh => hh.elim
theorem Ents.len {ke : κ → Value} {vr : α → Value → Prop} : ∀ {es : List MapEntry} {m : List (κ × α)}, Ents ke vr es m → es.length = m.length
  | [], [], _ => rfl
  | _ :: _, _ :: _, hh => by simp [Ents.len hh.2.2]
  | [], _ :: _, hh => hh.elim
  | _ :: _, [], hh => hh.elim
theorem Ents.push {ke : κ → Value} {vr : α → Value → Prop} {e : MapEntry} {k : κ} {x : α} (hk : e.key = ke k) (hv : vr x e.val) : ∀ {es : List MapEntry} {m : List (κ × α)}, Ents ke vr es m → Ents ke vr (es ++ [e]) (m ++ [(k, x)])
  | [], [], _ => ⟨hk, hv, trivial⟩
  | _ :: _, _ :: _, hh => ⟨hh.1, hh.2.1, Ents.push hk hv hh.2.2⟩
  | [], _ :: _, hh => hh.elim
  | _ :: _, [], hh => hh.elim
theorem Ents.find {d : TypeDesc} {ke : κ → Value} {vr : α → Value → Prop} (hs : ∀ a b, Instr.sameNow d (ke a) (ke b) = some (decide (a = b))) (k : κ) : ∀ {es : List MapEntry} {m : List (κ × α)} (i : Nat), Ents ke vr es m →
    (mget m k = none ∧ Instr.findNow d (ke k) es i = some none) ∨
    ∃ j e x, mget m k = some x ∧ Instr.findNow d (ke k) es i = some (some (i + j, e.val)) ∧ es[j]? = some e ∧ e.key = ke k ∧ vr x e.val ∧ ∀ y v, vr y v → Ents ke vr (es.modify j fun e => { e with key := ke k, val := v }) (mset m k y)
  | [], [], i, _ => .inl ⟨rfl, rfl⟩
  | e :: es, p :: m, i, hh => by
    by_cases hk : p.1 = k
    · refine .inr ⟨0, e, p.2, by rw [mget, if_pos hk], ?_, rfl, by rw [hh.1, hk], hh.2.1, fun y v hv => ?_⟩
      · rw [Instr.findNow, hh.1, hs]; simp [hk]
      · rw [mset, if_pos hk]; exact ⟨rfl, hv, hh.2.2⟩
    · have hf : Instr.findNow d (ke k) (e :: es) i = Instr.findNow d (ke k) es (i + 1) := by
        rw [Instr.findNow, hh.1, hs]; simp [Ne.symm hk]
      rcases Ents.find hs k (i + 1) hh.2.2 with ⟨h1, h2⟩ | ⟨j, e2, x, h1, h2, h3, h4, h5, h6⟩
      · exact .inl ⟨by rw [mget, if_neg hk, h1], by rw [hf, h2]⟩
      · refine .inr ⟨j + 1, e2, x, by rw [mget, if_neg hk, h1], by rw [hf, h2]; simp; omega, h3, h4, h5, fun y v hv => ?_⟩
        rw [mset, if_neg hk]
        exact ⟨hh.1, hh.2.1, h6 y v hv⟩
  | [], _ :: _, _, hh => hh.elim
  | _ :: _, [], _, hh => hh.elim
/-- Block b is a map. -/
def MapR (W : World) (b : Nat) (ke : κ → Value) (vr : α → Value → Prop) (m : List (κ × α)) : Prop := ∃ es clock, W.heap[b]? = some (.map es clock) ∧ Ents ke vr es.toList m
variable {P : Program} {w : World} {b : Nat} {ke : κ → Value} {vr : α → Value → Prop} {m : List (κ × α)} {t kt et : TypeId} {d : TypeDesc}
theorem MapR.lt (h : MapR w b ke vr m) : b < w.heap.size := by
  obtain ⟨es, clock, hb, _⟩ := h
  exact (Array.getElem?_eq_some_iff.1 hb).1
theorem MapR.step {w' : World} {vr' : α → Value → Prop} (h : MapR w b ke vr m) (hb : w'.heap[b]? = w.heap[b]?) (hv : ∀ x v, vr x v → vr' x v) : MapR w' b ke vr' m := by
  obtain ⟨es, clock, h1, h2⟩ := h
  exact ⟨es, clock, hb.trans h1, h2.imp hv⟩
theorem MapR.made (w : World) : MapR (w.alloc (.map #[] 0)) w.heap.size ke vr ([] : List (κ × α)) := ⟨#[], 0, heap_alloc_new _ _, trivial⟩
theorem MapR.look (h : MapR w b ke vr m) (hs : ∀ a b, Instr.sameNow d (ke a) (ke b) = some (decide (a = b))) (hik : ∀ a, MapKept.IsKey d (ke a)) (ht : P.underlying t = some (.map kt et)) (hk : P.underlying kt = some d) {z : Value} (hz : (zeroValue et).run P w = .ok z w) (k : κ) :
    ∃ v, (Instr.lookup t (.map (some b)) (ke k) true).run P w = .ok (.tuple #[v, .bool (mget m k).isSome]) w ∧ (mget m k = none → v = z) ∧ ∀ x, mget m k = some x → vr x v := by
  obtain ⟨es, clock, hb, hE⟩ := h
  rcases hE.find hs k 0 with ⟨h1, h2⟩ | ⟨j, e, x, h1, h2, h3, h4, h5, _⟩
  · refine ⟨z, ?_, fun _ => rfl, fun x hx => by rw [h1] at hx; cases hx⟩
    simp [Instr.lookup, run_underlying ht, MapKept.run_getObj_map hb, MapKept.run_checkKey hk (hik k), MapKept.run_findKey hk h2, hz, h1, Result.andThen]
  · refine ⟨e.val, ?_, fun hx => (by rw [h1] at hx; cases hx), fun y hy => by rw [h1] at hy; injection hy with hy; subst hy; exact h5⟩
    simp [Instr.lookup, run_underlying ht, MapKept.run_getObj_map hb, MapKept.run_checkKey hk (hik k), MapKept.run_findKey hk h2, h1, Result.andThen]
theorem MapR.look1 (h : MapR w b ke vr m) (hs : ∀ a b, Instr.sameNow d (ke a) (ke b) = some (decide (a = b))) (hik : ∀ a, MapKept.IsKey d (ke a)) (ht : P.underlying t = some (.map kt et)) (hk : P.underlying kt = some d) {z : Value} (hz : (zeroValue et).run P w = .ok z w) (k : κ) :
    ∃ v, (Instr.lookup t (.map (some b)) (ke k) false).run P w = .ok v w ∧ (mget m k = none → v = z) ∧ ∀ x, mget m k = some x → vr x v := by
  obtain ⟨es, clock, hb, hE⟩ := h
  rcases hE.find hs k 0 with ⟨h1, h2⟩ | ⟨j, e, x, h1, h2, h3, h4, h5, _⟩
  · refine ⟨z, ?_, fun _ => rfl, fun x hx => by rw [h1] at hx; cases hx⟩
    simp [Instr.lookup, run_underlying ht, MapKept.run_getObj_map hb, MapKept.run_checkKey hk (hik k), MapKept.run_findKey hk h2, hz, h1, Result.andThen]
  · refine ⟨e.val, ?_, fun hx => (by rw [h1] at hx; cases hx), fun y hy => by rw [h1] at hy; injection hy with hy; subst hy; exact h5⟩
    simp [Instr.lookup, run_underlying ht, MapKept.run_getObj_map hb, MapKept.run_checkKey hk (hik k), MapKept.run_findKey hk h2, h1, Result.andThen]
theorem MapR.upd (h : MapR w b ke vr m) (hs : ∀ a b, Instr.sameNow d (ke a) (ke b) = some (decide (a = b))) (hik : ∀ a, MapKept.IsKey d (ke a)) (ht : P.underlying t = some (.map kt et)) (hk : P.underlying kt = some d) (k : κ) (x : α) {v : Value} (hv : vr x v) :
    ∃ w', (Instr.mapUpdate t (.map (some b)) (ke k) v).run P w = .ok () w' ∧ MapR w' b ke vr (mset m k x) ∧ w.grownBy w' (some b) ∧ w'.heap.size = w.heap.size := by
  obtain ⟨es, clock, hb, hE⟩ := h
  have hgr : ∀ o : Obj, w.grownBy { w with heap := w.heap.setIfInBounds b o } (some b) := fun o => ⟨rfl, rfl, rfl, by simp, fun i hi hne => (MapKept.heap_set (o' := o) hb).2 i (fun e => hne (by rw [e]))⟩
  rcases hE.find hs k 0 with ⟨h1, h2⟩ | ⟨j, e, x0, h1, h2, h3, h4, h5, h6⟩
  · refine ⟨{ w with heap := w.heap.setIfInBounds b (.map (es.push { key := ke k, val := v, born := clock }) (clock + 1)) }, ?_, ⟨_, _, (MapKept.heap_set hb).1, ?_⟩, hgr _, by simp⟩
    · simp [Instr.mapUpdate, run_underlying ht, MapKept.run_getObj_map hb, MapKept.run_checkKey hk (hik k), MapKept.run_findKey hk h2, MapKept.run_setObj_map _ hb, Result.andThen]
    · rw [mset_new h1, Array.toList_push]
      exact Ents.push (e := { key := ke k, val := v, born := clock }) (k := k) (x := x) rfl hv hE
  · have he : es[0 + j]? = some e := by rw [Nat.zero_add, ← Array.getElem?_toList]; exact h3
    refine ⟨{ w with heap := w.heap.setIfInBounds b (.map (es.modify (0 + j) fun e => { e with key := ke k, val := v }) clock) }, ?_, ⟨_, _, (MapKept.heap_set hb).1, ?_⟩, hgr _, by simp⟩
    · simp only [Nat.zero_add] at he h2
      simp [Instr.mapUpdate, run_underlying ht, MapKept.run_getObj_map hb, MapKept.run_checkKey hk (hik k), MapKept.run_findKey hk h2, MapKept.run_setObj_map _ hb, Result.andThen, he, h4, MapKept.run_keyThatStays (hik k)]
    · rw [Nat.zero_add, Array.toList_modify]
      exact h6 x v hv
end
/-! ### keys that are whole numbers -/
def keI (k : Int) : Value := .int .i64 k
theorem sameI (a b : Int) : Instr.sameNow (.int .i64) (keI a) (keI b) = some (decide (a = b)) := by
  unfold keI Instr.sameNow
  simp
  rw [Bool.eq_iff_iff]; simp
theorem isI (a : Int) : MapKept.IsKey (.int .i64) (keI a) := rfl
/-! ### elements that are terms -/
def vrT (W : World) (ok : Nat → Prop) (t : Tm) (v : Value) : Prop := ∃ A c, v = .agg #[.int .i64 t.f0, .int .i64 t.f1, .slice A t.f2.length c] ∧ t.f2.length ≤ c ∧ Kd.F kTm W ok A t.f2.length t.f2
def MapT (W : World) (b : Nat) (ok : Nat → Prop) (m : List (Int × Tm)) : Prop := MapR W b keI (vrT W ok) m
theorem vrT.step {W W' : World} {ok : Nat → Prop} {t : Tm} {v : Value} (h : vrT W ok t v) (hm : ∀ k, ok k → k < W.heap.size → W'.heap[k]? = W.heap[k]?) : vrT W' ok t v := by
  obtain ⟨A, c, h1, h2, h3⟩ := h
  exact ⟨A, c, h1, h2, Kd.F_step h3 hm⟩
theorem MapT.below {W W' : World} {b : Nat} {ok : Nat → Prop} {m : List (Int × Tm)} (h : MapT W b ok m) (hb : Below W.heap.size W W') : MapT W' b ok m :=
  MapR.step h (hb.block _ h.lt) (fun x v hv => hv.step (fun k _ hlt => hb.block k hlt))
theorem MapT.grown {W W' : World} {b g : Nat} {ok : Nat → Prop} {m : List (Int × Tm)} (h : MapT W b ok m) (hg : W.grownBy W' (some g)) (hne : b ≠ g) (hok : ∀ k, ok k → k ≠ g) : MapT W' b ok m :=
  MapR.step h (hg.block _ h.lt (fun e => hne (by injection e))) (fun x v hv => hv.step (fun k hk hlt => hg.block k hlt (fun e => hok k hk (by injection e))))
theorem MapT.mono {W : World} {b : Nat} {ok ok' : Nat → Prop} {m : List (Int × Tm)} (h : MapT W b ok m) (hm : ∀ k, ok k → ok' k) : MapT W b ok' m :=
  MapR.step h rfl (fun x v ⟨A, c, h1, h2, h3⟩ => ⟨A, c, h1, h2, Kd.F_mono h3 hm⟩)
theorem MapT.bound {W : World} {b : Nat} {ok : Nat → Prop} {m : List (Int × Tm)} (h : MapT W b ok m) : MapT W b (fun k => ok k ∧ k < W.heap.size) m :=
  MapR.step h rfl (fun x v ⟨A, c, h1, h2, h3⟩ => ⟨A, c, h1, h2, Kd.F_bound h3⟩)
theorem zeroTm (w : World) : (zeroValue 46).run Try.prog w = .ok (.agg #[.int .i64 0, .int .i64 0, .slice none 0 0]) w := by kernel_rfl
def T_map : TypeId := 121
theorem un_map : Try.prog.underlying T_map = some (.map 3 46) := Try.underlying121
def mgetT (m : List (Int × Tm)) (k : Int) : Tm := (mget m k).getD zTm
def mhas (m : List (Int × Tm)) (k : Int) : Bool := (mget m k).isSome
section
variable {ops : Array Oper} {rest : List Oper} {o : Oper} {a : Act} {Q : Exit → Act → World → Prop} {w : World} {b : Nat} {ok : Nat → Prop} {m : List (Int × Tm)}
/-- A look-up, at the operation. -/
theorem wp_lookT (hg : o.guard = none) (mp x : Operand) (hop : o.op = Op.lookup T_map mp x true) (hm : a.eval mp = .map (some b)) (h : MapT w b ok m) (k : Int) (hx : a.eval x = .int .i64 k)
    (hK : ∀ A c, (mgetT m k).f2.length ≤ c → Kd.F kTm w ok A (mgetT m k).f2.length (mgetT m k).f2 → wpList Try.prog ops Q rest (a.put o.dst (.tuple #[.agg #[.int .i64 (mgetT m k).f0, .int .i64 (mgetT m k).f1, .slice A (mgetT m k).f2.length c], .bool (mhas m k)])) w) :
    wpList Try.prog ops Q (o :: rest) a w := by
  refine wpList_plain hg fun K' hK' => ?_
  obtain ⟨v, hrun, h1, h2⟩ := MapR.look h sameI isI un_map Try.underlying3 (zeroTm w) k
  have hv : ∃ A c, v = .agg #[.int .i64 (mgetT m k).f0, .int .i64 (mgetT m k).f1, .slice A (mgetT m k).f2.length c] ∧ (mgetT m k).f2.length ≤ c ∧ Kd.F kTm w ok A (mgetT m k).f2.length (mgetT m k).f2 := by
    unfold mgetT
    cases hh : mget m k with
    | none => exact ⟨none, 0, h1 hh, Nat.le_refl _, F_none _ _⟩
    | some x => exact h2 x hh
  obtain ⟨A, c, rfl, h3, h4⟩ := hv
  unfold Oper.wp
  have hrun2 : (Instr.lookup T_map (.map (some b)) (.int .i64 k) true).run Try.prog w = .ok (.tuple #[.agg #[.int .i64 (mgetT m k).f0, .int .i64 (mgetT m k).f1, .slice A (mgetT m k).f2.length c], .bool (mhas m k)]) w := hrun
  simp [execOp, hop, hm, hx, hrun2, Result.andThen]
  exact hK' _ _ (hK A c h3 h4)
/-- A store into a map, at the operation. -/
theorem wp_updT (hg : o.guard = none) (mp x v : Operand) (hop : o.op = Op.mapUpdate T_map mp x v) (hm : a.eval mp = .map (some b)) (h : MapT w b ok m) (k : Int) (hx : a.eval x = .int .i64 k) (t : Tm) (A : Option Addr) (c : Nat) (hv : a.eval v = .agg #[.int .i64 t.f0, .int .i64 t.f1, .slice A t.f2.length c]) (hc : t.f2.length ≤ c) (hF : Kd.F kTm w ok A t.f2.length t.f2) (hok : ∀ k, ok k → k ≠ b)
    (hK : ∀ w', MapT w' b ok (mset m k t) → w.grownBy w' (some b) → wpList Try.prog ops Q rest (a.put o.dst undef) w') :
    wpList Try.prog ops Q (o :: rest) a w := by
  refine wpList_plain hg fun K' hK' => ?_
  obtain ⟨w', hrun, h1, h2, _⟩ := MapR.upd h sameI isI un_map Try.underlying3 k t (v := .agg #[.int .i64 t.f0, .int .i64 t.f1, .slice A t.f2.length c]) ⟨A, c, rfl, hc, hF⟩
  have hM : MapT w' b ok (mset m k t) := MapR.step h1 rfl (fun x v hv => hv.step (fun k hk hlt => h2.block k hlt (fun e => hok k hk (by injection e))))
  unfold Oper.wp
  have hrun2 : (Instr.mapUpdate T_map (.map (some b)) (.int .i64 k) (.agg #[.int .i64 t.f0, .int .i64 t.f1, .slice A t.f2.length c])).run Try.prog w = .ok () w' := hrun
  simp [execOp, hop, hm, hx, hv, hrun2, Result.andThen]
  exact hK' _ _ (hK w' hM h2)
end
theorem MapT.made (w : World) (ok : Nat → Prop) : MapT (w.alloc (.map #[] 0)) w.heap.size ok [] := MapR.made w
end Go.Proofs.Ytcgnpmjkeifokaa
-- KCut
/- Ways that meet again: the goal behind them is told once, for whatever the ways leave. -/
namespace Go.Proofs.Ytcgnpmjkeifokaa
open Go.RowKit Go.Proofs.YtcgnpmjkeifokaaW.PrintWords
set_option linter.unusedVariables false
theorem any_none {α : Type} {p : α → Bool} {l : List α} (h : (l.take l.length).any p = false) : l.any p = false := by rwa [List.take_length] at h
theorem addZ (g j : Nat) : (⟨g, 0, none⟩ : Addr).add j = ⟨g, 0 + j, none⟩ := by
  unfold Addr.add
  by_cases h : j = 0
  · rw [if_pos h, h]
  · rw [if_neg h]
theorem anyL_take {α : Type} {p : α → Bool} {l : List α} {k : Nat} (hk : k < l.length) (h0 : (l.take k).any p = false) : (l.take (k+1)).any p = p l[k] := by
  rw [List.take_succ_eq_append_getElem hk, List.any_append, h0]; simp
theorem anyL_at {α : Type} {p : α → Bool} {l : List α} {k : Nat} (hk : k < l.length) (h : p l[k] = true) : l.any p = true := List.any_eq_true.2 ⟨_, List.getElem_mem hk, h⟩
theorem useT {T G : Prop} (h : T) (e : T = G) : G := e ▸ h
theorem cutT1 {G : Prop} {α : Type} (S : α → World → Prop) (T : α → World → Prop) (main : (∀ a w, S a w → T a w) → G) (key : ∀ a w, S a w → T a w) : G := main key
theorem cutT2 {G : Prop} {α β : Type} (S : α → β → World → Prop) (T : α → β → World → Prop) (main : (∀ a b w, S a b w → T a b w) → G) (key : ∀ a b w, S a b w → T a b w) : G := main key
theorem cutT3 {G : Prop} {α β γ : Type} (S : α → β → γ → World → Prop) (T : α → β → γ → World → Prop) (main : (∀ a b c w, S a b c w → T a b c w) → G) (key : ∀ a b c w, S a b c w → T a b c w) : G := main key
theorem cutT4 {G : Prop} {α β γ δ : Type} (S : α → β → γ → δ → World → Prop) (T : α → β → γ → δ → World → Prop) (main : (∀ a b c d w, S a b c d w → T a b c d w) → G) (key : ∀ a b c d w, S a b c d w → T a b c d w) : G := main key
theorem cutT5 {G : Prop} {α β γ δ ε : Type} (S : α → β → γ → δ → ε → World → Prop) (T : α → β → γ → δ → ε → World → Prop) (main : (∀ a b c d e w, S a b c d e w → T a b c d e w) → G) (key : ∀ a b c d e w, S a b c d e w → T a b c d e w) : G := main key
end Go.Proofs.Ytcgnpmjkeifokaa
-- KLi
/- Literals in blocks of their own; rows of literals. -/
namespace Go.Proofs.Ytcgnpmjkeifokaa
open Go.RowKit Go.Proofs.YtcgnpmjkeifokaaW.PrintWords
set_option linter.unusedVariables false
set_option linter.unusedSimpArgs false
theorem sizeLi : (Try.prog.info? 84).map (·.size) = some 7 := by kernel_rfl
theorem one7 (y : Bool) (a b : Int) (A : Option Addr) (n c : Nat) (a' b' : Int) (A' : Option Addr) (n' c' : Nat) : ∀ q ∈ [Value.bool y, .int .i64 a, .int .i64 b, .slice A n c, .int .i64 a', .int .i64 b', .slice A' n' c'], q.oneCell' = true := by
  intro q hq
  simp only [List.mem_cons, List.not_mem_nil, or_false] at hq
  rcases hq with rfl | rfl | rfl | rfl | rfl | rfl | rfl <;> rfl
section
variable {ops : Array Oper} {rest : List Oper} {o : Oper} {act : Act} {Q : Exit → Act → World → Prop} {W : World}
/-- A literal into a literal's own block. -/
theorem st_li (p : Tmp) {x : Operand} (ho : o.op = .store 84 (.tmp p) x) (hgd : o.guard = none) (hN : o.dst = none) {g : Nat} {y z : Bool} {a b a' b' q r q' r' : Int} {A A' B B' : Option Addr} {n c n' c' k d k' d' : Nat}
    (haddr : act.eval (.tmp p) = .pointer (some ⟨g, 0, none⟩)) (hx : act.eval x = .agg #[.bool z, .int .i64 a', .int .i64 b', .slice A' n' c', .int .i64 q', .int .i64 r', .slice B' k' d'])
    (hh : W.heap[g]? = some (.cells #[.bool y, .int .i64 a, .int .i64 b, .slice A n c, .int .i64 q, .int .i64 r, .slice B k d] 84 (0, 0)))
    (h : ∀ w1, w1.heap[g]? = some (.cells #[.bool z, .int .i64 a', .int .i64 b', .slice A' n' c', .int .i64 q', .int .i64 r', .slice B' k' d'] 84 (0, 0)) → W.grownBy w1 (some g) → w1.heap.size = W.heap.size → wpList Try.prog ops Q rest act w1) : wpList Try.prog ops Q (o :: rest) act W :=
  st_blk hgd hN ho #[.bool z, .int .i64 a', .int .i64 b', .slice A' n' c', .int .i64 q', .int .i64 r', .slice B' k' d'] [.bool z, .int .i64 a', .int .i64 b', .slice A' n' c', .int .i64 q', .int .i64 r', .slice B' k' d'] haddr hx rfl sizeLi (one7 _ _ _ _ _ _ _ _ _ _ _) hh (Nat.le_refl 7) rfl h
end
theorem li_cells {W : World} {g e : Nat} {y : Bool} {a b q r : Int} {A B : Option Addr} {n c k d : Nat} (h : W.heap[g]? = some (.cells #[.bool y, .int .i64 a, .int .i64 b, .slice A n c, .int .i64 q, .int .i64 r, .slice B k d] e (0, 0))) :
    W.cell? ⟨g, 0, none⟩ = some (.bool y) ∧ W.cell? ⟨g, 1, none⟩ = some (.int .i64 a) ∧ W.cell? ⟨g, 2, none⟩ = some (.int .i64 b) ∧ W.cell? ⟨g, 3, none⟩ = some (.slice A n c) ∧ W.cell? ⟨g, 4, none⟩ = some (.int .i64 q) ∧ W.cell? ⟨g, 5, none⟩ = some (.int .i64 r) ∧ W.cell? ⟨g, 6, none⟩ = some (.slice B k d) :=
  ⟨(blk_cell h 0).trans rfl, (blk_cell h 1).trans rfl, (blk_cell h 2).trans rfl, (blk_cell h 3).trans rfl, (blk_cell h 4).trans rfl, (blk_cell h 5).trans rfl, (blk_cell h 6).trans rfl⟩
/-- A literal's two terms, read. -/
structure LiF (W : World) (ok : Nat → Prop) (x : Li) (A3 : Option Addr) (c3 : Nat) (A6 : Option Addr) (c6 : Nat) : Prop where
  l3 : x.f1.f2.length ≤ c3
  F3 : Kd.F kTm W ok A3 x.f1.f2.length x.f1.f2
  l6 : x.f2.f2.length ≤ c6
  F6 : Kd.F kTm W ok A6 x.f2.f2.length x.f2.f2
theorem LiF.below {W W' : World} {ok : Nat → Prop} {x : Li} {A3 : Option Addr} {c3 : Nat} {A6 : Option Addr} {c6 : Nat} (h : LiF W ok x A3 c3 A6 c6) (hb : Below W.heap.size W W') : LiF W' ok x A3 c3 A6 c6 := ⟨h.l3, Kd.F_below h.F3 hb, h.l6, Kd.F_below h.F6 hb⟩
theorem LiF.mono {W : World} {ok ok' : Nat → Prop} {x : Li} {A3 : Option Addr} {c3 : Nat} {A6 : Option Addr} {c6 : Nat} (h : LiF W ok x A3 c3 A6 c6) (hm : ∀ k, ok k → ok' k) : LiF W ok' x A3 c3 A6 c6 := ⟨h.l3, Kd.F_mono h.F3 hm, h.l6, Kd.F_mono h.F6 hm⟩
theorem LiF.bound {W : World} {ok : Nat → Prop} {x : Li} {A3 : Option Addr} {c3 : Nat} {A6 : Option Addr} {c6 : Nat} (h : LiF W ok x A3 c3 A6 c6) : LiF W (fun k => ok k ∧ k < W.heap.size) x A3 c3 A6 c6 := ⟨h.l3, Kd.F_bound h.F3, h.l6, Kd.F_bound h.F6⟩
theorem LiF.grown {W W' : World} {ok : Nat → Prop} {x : Li} {A3 : Option Addr} {c3 : Nat} {A6 : Option Addr} {c6 g : Nat} (h : LiF W ok x A3 c3 A6 c6) (hg : W.grownBy W' (some g)) (hne : ∀ k, ok k → k ≠ g) : LiF W' ok x A3 c3 A6 c6 := ⟨h.l3, Kd.F_grown h.F3 hg (fun k hk e => hne k hk (by injection e)), h.l6, Kd.F_grown h.F6 hg (fun k hk e => hne k hk (by injection e))⟩
theorem LiF.FK {W : World} {ok : Nat → Prop} {x : Li} {A3 : Option Addr} {c3 : Nat} {A6 : Option Addr} {c6 : Nat} (h : LiF W ok x A3 c3 A6 c6) : Kd.FK kLi W ok x [.bool x.f0, .int .i64 x.f1.f0, .int .i64 x.f1.f1, .slice A3 x.f1.f2.length c3, .int .i64 x.f2.f0, .int .i64 x.f2.f1, .slice A6 x.f2.f2.length c6] := kLi_mkF W ok x h.l3 h.F3 h.l6 h.F6
/-- An element of a row of literals. -/
theorem at_Lit {w : World} {ok : Nat → Prop} {A : Option Addr} {n : Nat} {xs : List Li} (h : Kd.F kLi w ok A n xs) (i : Nat) (h1 : i < n) : ∃ ad A3 c3 A6 c6, A = some ad ∧ w.cell? (ad.add (i * 7)) = some (.bool (rd_Li xs i).f0) ∧
    w.cell? ⟨(ad.add (i * 7)).block, (ad.add (i * 7)).off + 1, none⟩ = some (.int .i64 (rd_Li xs i).f1.f0) ∧ w.cell? ⟨(ad.add (i * 7)).block, (ad.add (i * 7)).off + 2, none⟩ = some (.int .i64 (rd_Li xs i).f1.f1) ∧ w.cell? ⟨(ad.add (i * 7)).block, (ad.add (i * 7)).off + 3, none⟩ = some (.slice A3 (rd_Li xs i).f1.f2.length c3) ∧
    w.cell? ⟨(ad.add (i * 7)).block, (ad.add (i * 7)).off + 4, none⟩ = some (.int .i64 (rd_Li xs i).f2.f0) ∧ w.cell? ⟨(ad.add (i * 7)).block, (ad.add (i * 7)).off + 5, none⟩ = some (.int .i64 (rd_Li xs i).f2.f1) ∧ w.cell? ⟨(ad.add (i * 7)).block, (ad.add (i * 7)).off + 6, none⟩ = some (.slice A6 (rd_Li xs i).f2.f2.length c6) ∧ LiF w ok (rd_Li xs i) A3 c3 A6 c6 ∧ ok ad.block := by
  obtain ⟨ad, A3, c3, A6, c6, e, e0, e1, e2, e3, e4, e5, e6, l3, g3, l6, g6, hk⟩ := at_LiF h (i : Int) (by omega) (by omega)
  simp only [Int.toNat_natCast] at e0 e1 e2 e3 e4 e5 e6
  exact ⟨ad, A3, c3, A6, c6, e, e0, e1, e2, e3, e4, e5, e6, ⟨l3, g3, l6, g6⟩, hk⟩
theorem rdLi_mem (l : List Li) (i : Nat) (h : i < l.length) : rd_Li l i ∈ l := by rw [rdLi_get l i h]; exact List.getElem_mem h
def turnL (x : Li) : Li := ⟨x.f0, x.f2, x.f1⟩
theorem LiF.turn {W : World} {ok : Nat → Prop} {x : Li} {A3 : Option Addr} {c3 : Nat} {A6 : Option Addr} {c6 : Nat} (h : LiF W ok x A3 c3 A6 c6) : LiF W ok (turnL x) A6 c6 A3 c3 := ⟨h.l6, h.F6, h.l3, h.F3⟩
/-- A row of two literals that was just laid. -/
theorem F_li2 {W : World} {ok : Nat → Prop} {gb : Nat} {x y : Li} {A3 A6 B3 B6 : Option Addr} {c3 c6 d3 d6 : Nat} (hb : W.heap[gb]? = some (.cells #[.bool x.f0, .int .i64 x.f1.f0, .int .i64 x.f1.f1, .slice A3 x.f1.f2.length c3, .int .i64 x.f2.f0, .int .i64 x.f2.f1, .slice A6 x.f2.f2.length c6, .bool y.f0, .int .i64 y.f1.f0, .int .i64 y.f1.f1, .slice B3 y.f1.f2.length d3, .int .i64 y.f2.f0, .int .i64 y.f2.f1, .slice B6 y.f2.f2.length d6] 84 (0, 0)))
    (hx : LiF W ok x A3 c3 A6 c6) (hy : LiF W ok y B3 d3 B6 d6) : Kd.F kLi W (fun k => ok k ∨ k = gb) (some ⟨gb, 0, none⟩) [x, y].length [x, y] :=
  F_lit (d := kLi) [[.bool x.f0, .int .i64 x.f1.f0, .int .i64 x.f1.f1, .slice A3 x.f1.f2.length c3, .int .i64 x.f2.f0, .int .i64 x.f2.f1, .slice A6 x.f2.f2.length c6], [.bool y.f0, .int .i64 y.f1.f0, .int .i64 y.f1.f1, .slice B3 y.f1.f2.length d3, .int .i64 y.f2.f0, .int .i64 y.f2.f1, .slice B6 y.f2.f2.length d6]] hb rfl (by simp) (fun j z c' hz hc' => by
    match j with
    | 0 => simp at hz hc'; subst hz hc'; exact hx.FK
    | 1 => simp at hz hc'; subst hz hc'; exact hy.FK
    | j + 2 => simp at hz)
theorem dropLi {w : World} {ok : Nat → Prop} {av : Addr} {x : Li} {xs : List Li} {c : Nat} (h : Kd.F kLi w ok (some av) (x :: xs).length (x :: xs)) (hc : (x :: xs).length ≤ c) : Kd.F kLi w ok (if c = 1 then some av else some { block := av.block, off := av.off + 7 : Addr }) xs.length xs := by
  refine Kd.F_imp h (fun W' hC => ?_)
  have h1 := Kd.C_drop (m := 1) hC (by simp) hc
  have e2 : (some av).map (·.add (1 * kLi.sz)) = some { block := av.block, off := av.off + 7 : Addr } := by
    have : kLi.sz = 7 := rfl
    rw [this]; simp [Addr.add]
  rw [e2] at h1
  exact h1
end Go.Proofs.Ytcgnpmjkeifokaa
