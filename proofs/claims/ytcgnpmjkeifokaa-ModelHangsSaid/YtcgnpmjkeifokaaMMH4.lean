/- ModelHangs: in a model in which a clause holds all hold that it subsumes, and those that are always hold in all; a clause tidied holds just if it did: for every input. Part 4: the walks and plain laws that it uses. -/
import Derived.Test.YtcgnpmjkeifokaaMMH3
-- K58
/- clause.Tidy; what a list of clauses that is right holds. -/
namespace Go.Proofs.Ytcgnpmjkeifokaa
open Go.RowKit Go.Proofs.YtcgnpmjkeifokaaW.PrintWords
set_option linter.unusedVariables false
set_option linter.unusedSimpArgs false
theorem chkLi_ok {g : List Int} {x : Li} (h : chkLi g x = 0) : okT g x.f1 ∧ okT g x.f2 := by
  unfold chkLi at h
  by_cases h1 : chkT g x.f1 = 0
  · rw [if_neg (by simpa using h1)] at h; exact ⟨chkT_ok.1 h1, chkT_ok.1 h⟩
  · rw [if_pos h1] at h; exact absurd h h1
theorem chkC_ok {g : List Int} {c : List Li} (h : chkC g c = 0) : c.length ≤ 8 ∧ ∀ x ∈ c, okT g x.f1 ∧ okT g x.f2 := by
  unfold chkC at h
  by_cases h1 : 8 < c.length
  · rw [if_pos h1] at h; cases h
  · rw [if_neg h1] at h; exact ⟨by omega, fun x hx => chkLi_ok (fe_mem h x hx)⟩
theorem chkCs_ok {g : List Int} {l : List (List Li)} (h : chkCs g l = 0) : ∀ c ∈ l, c.length ≤ 8 ∧ ∀ x ∈ c, okT g x.f1 ∧ okT g x.f2 := by
  unfold chkCs at h
  by_cases h1 : sigE g = 0
  · rw [if_neg (by simpa using h1)] at h
    by_cases h2 : 60 < l.length
    · rw [if_pos h2] at h; cases h
    · rw [if_neg h2] at h; exact fun c hc => chkC_ok (fe_mem h c hc)
  · rw [if_pos h1] at h; exact absurd h h1
theorem okC_tms {g : List Int} {c : List Li} (h : ∀ x ∈ c, okT g x.f1 ∧ okT g x.f2) : ∀ t ∈ tmsL c, formE g t = 0 := by
  intro t ht
  obtain ⟨l, hl, h2⟩ := tmsL_mem ht
  rcases h2 with rfl | rfl
  · exact (h l hl).1.2
  · exact (h l hl).2.2
theorem okC_sz {g : List Int} : ∀ {c : List Li}, (∀ x ∈ c, okT g x.f1 ∧ okT g x.f2) → szL (tmsL c) ≤ c.length * 240
  | [], _ => by simp [tmsL, szL]
  | l :: c, h => by
    have h1 := okC_sz (c := c) (fun x hx => h x (by simp [hx]))
    have h2 := h l (by simp)
    have h3 := h2.1.1
    have h4 := h2.2.1
    simp only [tmsL, szL, List.length_cons]; omega
def tidR (g : List Int) (c : List Li) : List Li := if chkCs g [c] = 0 then tidyL c else []
set_option maxHeartbeats 4000000 in
set_option maxRecDepth 100000 in
theorem tidy_any (g : List Int) (Ag : Option Addr) (cg : Nat) (c : List Li) (Ac : Option Addr) (cc : Nat) (okc : Nat → Prop) (w : World) (hG : Kd.C (Kd.int .i64) w Ag g.length g) (hF : Kd.F kLi w okc Ac c.length c) (hc : c.length ≤ cc) :
    Calls Try.prog 11 #[.agg #[.slice Ag g.length cg], .slice Ac c.length cc] w fun e w' => ∃ A' c', e = .returned (.tuple #[.slice A' (tidR g c).length c', .int .i64 (chkCs g [c])]) ∧ (tidR g c).length ≤ c' ∧ Kd.F kLi w' (fun k => w.heap.size ≤ k) A' (tidR g c).length (tidR g c) ∧ Below w.heap.size w w' := by
  have HF := Aside0.mk hF
  have HG := Aside0.mk hG
  clear hF hG
  have g0 := newAt (w := w) (o := .cells #[.slice Ag g.length cg] 24) rfl
  have HB := Aside0.mk (below_alloc (Below.refl w.heap.size w) (.cells #[.slice Ag g.length cg] 24))
  go_enter Try.func11, Try.ntmps11
  go_upto_region 1 with (fail)
  generalize w.alloc (.cells #[.slice Ag g.length cg] 24) = W at *
  have s0 := sg_cell g0
  clear g0
  go_upto_region 2 with (go_at_call 51; refine (clauseOne_any g Ag cg c Ac cc _ _ (Kd.C_below HG.out HB.out) (Kd.F_below HF.out HB.out) hc).mono ?_; rintro e w2 ⟨rfl, hb2⟩; have HB2 := Aside0.mk hb2; clear hb2 s0)
  have HB02 := Aside0.mk (hbT HB.out HB2.out)
  by_cases h0 : chkCs g [c] = 0
  · have h0b := bneF h0
    have HR : Aside0 (tidR g c = tidyL c) := ⟨by unfold tidR; rw [if_pos h0]⟩
    have hk := chkCs_ok h0 c (by simp)
    have hs := okC_sz hk.2
    have hl := hk.1
    have HN := Aside0.mk (neat_any g c Ac cc _ w2 (by omega) (by omega) (okC_tms hk.2) (Kd.F_below HF.out HB02.out))
    have H0 := Aside0.mk h0
    clear h0 hk hs hl
    go_wp2_with (go_at_call 52; refine HN.out.mono ?_; rintro e w3 ⟨A', c', rfl, hc', hF3, hb3⟩; have HF3 := Aside0.mk hF3; have HB3 := Aside0.mk hb3; clear hb3 hF3)
    go_ret2
    refine ⟨A', c', by rw [HR.out, H0.out]; rfl, by rw [HR.out]; exact hc', ?_, hbT HB02.out HB3.out⟩
    rw [HR.out]
    exact Kd.F_mono HF3.out (fun q hq => by have := HB02.out.size; omega)
  · have h0b := bneT h0
    have HR : Aside0 (tidR g c = []) := ⟨by unfold tidR; rw [if_neg h0]⟩
    clear h0
    go_wp2
    go_ret2
    refine ⟨none, 0, by rw [HR.out]; rfl, by rw [HR.out]; exact Nat.le_refl _, ?_, HB02.out⟩
    rw [HR.out]
    exact fun W' _ => Kd.C_nil _ _
/-! ### clauseBegun's clauses -/
def cS : List Li := [⟨true, ⟨7, 0, []⟩, ⟨0, 0, []⟩⟩, ⟨false, ⟨3, 0, []⟩, ⟨3, 0, []⟩⟩]
def dS : List Li := [⟨true, ⟨0, 0, []⟩, ⟨0, 1, [⟨0, 0, []⟩]⟩⟩]
def tS1 : List Li := [⟨true, ⟨1, 0, []⟩, ⟨0, 0, []⟩⟩]
theorem chk_cS : chkCs [0, 1] [cS] = 0 := by rfl
theorem tid_cS : tidR [0, 1] cS = tS1 := by rfl
theorem chk_dS : chkCs [0, 1] [tS1, dS] = 0 := by rfl
theorem sub_dS : subB [0, 1] tS1 dS = true := by rfl
theorem alw_cS : alwR [0, 1] cS = false := by rfl
end Go.Proofs.Ytcgnpmjkeifokaa
-- K59
/- superposelaw.clauseBegun. -/
namespace Go.Proofs.Ytcgnpmjkeifokaa
open Go.RowKit Go.Proofs.YtcgnpmjkeifokaaW.PrintWords
set_option linter.unusedVariables false
set_option linter.unusedSimpArgs false
theorem LiF_v (W : World) (y : Bool) (a b a' b' : Int) : LiF W (fun _ => False) ⟨y, ⟨a, b, []⟩, ⟨a', b', []⟩⟩ none 0 none 0 := ⟨Nat.le_refl _, fun W' _ => Kd.C_nil _ _, Nat.le_refl _, fun W' _ => Kd.C_nil _ _⟩
/-- A row of one literal that was just laid. -/
theorem F_li1 {W : World} {ok : Nat → Prop} {gb : Nat} {x : Li} {A3 A6 : Option Addr} {c3 c6 : Nat} (hb : W.heap[gb]? = some (.cells #[.bool x.f0, .int .i64 x.f1.f0, .int .i64 x.f1.f1, .slice A3 x.f1.f2.length c3, .int .i64 x.f2.f0, .int .i64 x.f2.f1, .slice A6 x.f2.f2.length c6] 84 (0, 0)))
    (hx : LiF W ok x A3 c3 A6 c6) : Kd.F kLi W (fun k => ok k ∨ k = gb) (some ⟨gb, 0, none⟩) [x].length [x] :=
  F_lit (d := kLi) [[.bool x.f0, .int .i64 x.f1.f0, .int .i64 x.f1.f1, .slice A3 x.f1.f2.length c3, .int .i64 x.f2.f0, .int .i64 x.f2.f1, .slice A6 x.f2.f2.length c6]] hb rfl (by simp) (fun j z c' hz hc' => by
    match j with
    | 0 => simp at hz hc'; subst hz hc'; exact hx.FK
    | j + 1 => simp at hz)
/-- The first clause, laid. -/
theorem F_cS {W : World} {gb : Nat} (hb : W.heap[gb]? = some (.cells #[.bool true, .int .i64 7, .int .i64 0, .slice none 0 0, .int .i64 0, .int .i64 0, .slice none 0 0, .bool false, .int .i64 3, .int .i64 0, .slice none 0 0, .int .i64 3, .int .i64 0, .slice none 0 0] 84 (0, 0))) :
    Kd.F kLi W (fun _ => True) (some ⟨gb, 0, none⟩) 2 cS :=
  Kd.F_mono (F_li2 (x := ⟨true, ⟨7, 0, []⟩, ⟨0, 0, []⟩⟩) (y := ⟨false, ⟨3, 0, []⟩, ⟨3, 0, []⟩⟩) (ok := fun _ => False) hb (LiF_v W _ _ _ _ _) (LiF_v W _ _ _ _ _)) (fun _ _ => trivial)
theorem F_dS {W : World} {gb bt : Nat} (ht : W.heap[bt]? = some (.cells #[.int .i64 0, .int .i64 0, .slice none 0 0] 46 (0, 0))) (hb : W.heap[gb]? = some (.cells #[.bool true, .int .i64 0, .int .i64 0, .slice none 0 0, .int .i64 0, .int .i64 1, .slice (some ⟨bt, 0, none⟩) 1 1] 84 (0, 0))) :
    Kd.F kLi W (fun _ => True) (some ⟨gb, 0, none⟩) 1 dS :=
  Kd.F_mono (F_li1 (x := ⟨true, ⟨0, 0, []⟩, ⟨0, 1, [⟨0, 0, []⟩]⟩⟩) (ok := fun k => k = bt) hb ⟨Nat.le_refl _, fun W' _ => Kd.C_nil _ _, Nat.le_refl _, F_va 0 ht⟩) (fun _ _ => trivial)
theorem tidy_s (A1 Ac : Option Addr) (w : World) (hG : Kd.C (Kd.int .i64) w A1 2 [0, 1]) (hF : Kd.F kLi w (fun _ => True) Ac 2 cS) :
    Calls Try.prog 11 #[.agg #[.slice A1 2 2], .slice Ac 2 2] w fun e w' => ∃ A' c', e = .returned (.tuple #[.slice A' 1 c', .int .i64 0]) ∧ 1 ≤ c' ∧ Kd.F kLi w' (fun k => w.heap.size ≤ k) A' 1 tS1 ∧ Below w.heap.size w w' := by
  have h := tidy_any [0, 1] A1 2 cS Ac 2 _ w hG hF (Nat.le_refl _)
  rw [tid_cS, chk_cS] at h
  exact h
theorem subs_s (A1 Ac Ad : Option Addr) (c1 c2 : Nat) (w : World) (hG : Kd.C (Kd.int .i64) w A1 2 [0, 1]) (hF : Kd.F kLi w (fun _ => True) Ac 1 tS1) (hc : 1 ≤ c1) (hF2 : Kd.F kLi w (fun _ => True) Ad 1 dS) (hd : 1 ≤ c2) :
    Calls Try.prog 13 #[.agg #[.slice A1 2 2], .slice Ac 1 c1, .slice Ad 1 c2] w fun e w' => e = .returned (.tuple #[.bool true, .int .i64 0]) ∧ Below w.heap.size w w' := by
  have h := subsumes_any [0, 1] A1 2 tS1 dS Ac Ad c1 c2 _ w hG hF hc hF2 hd
  rw [sub_dS, chk_dS] at h
  exact h
theorem alw_s (A1 Ac : Option Addr) (w : World) (hG : Kd.C (Kd.int .i64) w A1 2 [0, 1]) (hF : Kd.F kLi w (fun _ => True) Ac 2 cS) :
    Calls Try.prog 12 #[.agg #[.slice A1 2 2], .slice Ac 2 2] w fun e w' => e = .returned (.tuple #[.bool false, .int .i64 0]) ∧ Below w.heap.size w w' := by
  have h := always_any [0, 1] A1 2 cS Ac 2 _ w hG hF (Nat.le_refl _)
  rw [alw_cS, chk_cS] at h
  exact h
theorem chkc_s (A1 : Option Addr) (b gb : Nat) (w : World) (hG : Kd.C (Kd.int .i64) w A1 2 [0, 1]) (hF : Kd.F kLi w (fun _ => True) (some ⟨b, 0, none⟩) 2 cS) (hb : w.heap[gb]? = some (.cells #[.slice (some ⟨b, 0, none⟩) 2 2] 26 (0, 0))) :
    Calls Try.prog 19 #[.agg #[.slice A1 2 2], .slice (some ⟨gb, 0, none⟩) 1 1] w fun e w' => e = .returned (.int .i64 0) ∧ Below w.heap.size w w' := by
  have h := clauseCheck_any [0, 1] A1 2 [cS] (some ⟨gb, 0, none⟩) 1 _ w hG (F_cl1 (t := cS) hb hF (Nat.le_refl _))
  rw [chk_cS] at h
  exact h
set_option maxHeartbeats 4000000 in
set_option maxRecDepth 100000 in
theorem clauseBegun_any (w : World) : Calls Try.prog 18 #[] w fun e w' => e = .returned (.bool true) ∧ Below w.heap.size w w' := by
  go_enter Try.func18, Try.ntmps18
  go_wp2_with (fail)
  refine (va_any 7 _).mono ?_
  rintro e w1 ⟨rfl, hb1⟩
  have HB1 := Aside0.mk hb1
  clear hb1
  go_wp2_with (fail)
  refine (fn_any 0 _ _ _ _).mono ?_
  rintro e w2 ⟨rfl, hb2⟩
  have HB2 := Aside0.mk (hbT HB1.out hb2)
  clear hb2
  go_wp2_with (fail)
  refine (va_any 3 _).mono ?_
  rintro e w3 ⟨rfl, hb3⟩
  have HB3 := Aside0.mk (hbT HB2.out hb3)
  clear hb3
  go_wp2_with (fail)
  refine (va_any 3 _).mono ?_
  rintro e w4 ⟨rfl, hb4⟩
  have HB4 := Aside0.mk (hbT HB3.out hb4)
  clear hb4
  have HN := Aside0.mk (heap_alloc_new w4 (.cells #[.bool true, .int .i64 7, .int .i64 0, .slice none 0 0, .int .i64 0, .int .i64 0, .slice none 0 0, .bool false, .int .i64 3, .int .i64 0, .slice none 0 0, .int .i64 3, .int .i64 0, .slice none 0 0] 84))
  have HBn := Aside0.mk (hbT HB4.out (below_alloc (Below.refl w4.heap.size w4) (.cells #[.bool true, .int .i64 7, .int .i64 0, .slice none 0 0, .int .i64 0, .int .i64 0, .slice none 0 0, .bool false, .int .i64 3, .int .i64 0, .slice none 0 0, .int .i64 3, .int .i64 0, .slice none 0 0] 84)))
  go_wp2_with (fail)
  generalize w4.alloc (.cells #[.bool true, .int .i64 7, .int .i64 0, .slice none 0 0, .int .i64 0, .int .i64 0, .slice none 0 0, .bool false, .int .i64 3, .int .i64 0, .slice none 0 0, .int .i64 3, .int .i64 0, .slice none 0 0] 84) = W at *
  have HFC := Aside0.mk (F_cS HN.out)
  refine (small_any _).mono ?_
  rintro e w5 ⟨A5, rfl, hC5, hb5⟩
  have HB5 := Aside0.mk hb5
  have HC5 := Aside0.mk hC5
  clear hC5 hb5
  go_wp2_with (fail)
  refine (tidy_s A5 _ _ HC5.out (Kd.F_below HFC.out HB5.out)).mono ?_
  rintro e w6 ⟨A6, c6, rfl, hc6, hF6, hb6⟩
  have HF6 := Aside0.mk (Kd.F_mono hF6 (ok' := fun _ => True) (fun _ _ => trivial))
  have HB6 := Aside0.mk (hbT HB5.out hb6)
  clear hF6 hb6
  go_wp2_with (fail)
  refine (small_any _).mono ?_
  rintro e w7 ⟨A7, rfl, hC7, hb7⟩
  have HB67 := Aside0.mk hb7
  have HC7 := Aside0.mk hC7
  clear hC7 hb7
  go_wp2_with (fail)
  refine (fn_any 0 _ _ _ _).mono ?_
  rintro e w8 ⟨rfl, hb8⟩
  have HB68 := Aside0.mk (hbT HB67.out hb8)
  have HC8 := Aside0.mk (Kd.C_below HC7.out hb8)
  clear hb8
  go_wp2_with (fail)
  refine (fn_any 0 _ _ _ _).mono ?_
  rintro e w9 ⟨rfl, hb9⟩
  have HB69 := Aside0.mk (hbT HB68.out hb9)
  have HC9 := Aside0.mk (Kd.C_below HC8.out hb9)
  clear hb9
  go_wp2_with (fail)
  refine (fn_any 1 _ _ _ _).mono ?_
  rintro e w10 ⟨rfl, hb10⟩
  have HB910 := Aside0.mk (hbA (Below.refl _ w9) _ hb10)
  have HN10 := Aside0.mk ((hb10.block w9.heap.size (by simp)).trans (heap_alloc_new w9 (.cells #[.int .i64 0, .int .i64 0, .slice none 0 0] 46)))
  clear hb10
  have HBa := Aside0.mk (below_alloc (Below.refl w10.heap.size w10) (.cells #[.bool true, .int .i64 0, .int .i64 0, .slice none 0 0, .int .i64 0, .int .i64 1, .slice (some ⟨w9.heap.size, 0, none⟩) 1 1] 84))
  have HNa := Aside0.mk (heap_alloc_new w10 (.cells #[.bool true, .int .i64 0, .int .i64 0, .slice none 0 0, .int .i64 0, .int .i64 1, .slice (some ⟨w9.heap.size, 0, none⟩) 1 1] 84))
  go_wp2_with (fail)
  generalize w10.alloc (.cells #[.bool true, .int .i64 0, .int .i64 0, .slice none 0 0, .int .i64 0, .int .i64 1, .slice (some ⟨w9.heap.size, 0, none⟩) 1 1] 84) = W11 at *
  have HB911 := Aside0.mk (hbT HB910.out HBa.out)
  have HB611 := Aside0.mk (hbT HB69.out HB911.out)
  refine (subs_s A7 _ _ _ _ _ (Kd.C_below HC9.out HB911.out) (Kd.F_below HF6.out HB611.out) hc6 (F_dS ((HBa.out.block _ (blk_lt HN10.out)).trans HN10.out) HNa.out) (Nat.le_refl _)).mono ?_
  rintro e w12 ⟨rfl, hb12⟩
  have HB612 := Aside0.mk (hbT HB611.out hb12)
  clear hb12
  go_wp2_with (fail)
  refine (small_any _).mono ?_
  rintro e w13 ⟨A13, rfl, hC13, hb13⟩
  have HB613 := Aside0.mk (hbT HB612.out hb13)
  have HC13 := Aside0.mk hC13
  clear hC13 hb13
  go_wp2_with (fail)
  refine (alw_s A13 _ _ HC13.out (Kd.F_below HFC.out (hbT HB6.out HB613.out))).mono ?_
  rintro e w14 ⟨rfl, hb14⟩
  have HB614 := Aside0.mk (hbT HB613.out hb14)
  have HBW14 := Aside0.mk (hbT HB6.out HB614.out)
  clear hb14
  obtain ⟨ad, A3, c3, A6', c6', rfl, E0, E1, E2, E3, E4, E5, E6, _, _⟩ := at_Lit (Kd.F_below HF6.out HB614.out) 0 (by omega)
  have e1 : w14.cell? ⟨ad.block, ad.off + 1, none⟩ = some (.int .i64 1) := E1
  clear E0 E1 E2 E3 E4 E5 E6
  go_wp2_with (fail)
  refine (small_any _).mono ?_
  rintro e w15 ⟨A15, rfl, hC15, hb15⟩
  have HBW15 := Aside0.mk (hbT HBW14.out hb15)
  have HC15 := Aside0.mk hC15
  clear hC15 hb15 e1
  have HBb := Aside0.mk (below_alloc (Below.refl w15.heap.size w15) (.cells #[.slice (some ⟨w4.heap.size, 0, none⟩) 2 2] 26))
  have HNb := Aside0.mk (heap_alloc_new w15 (.cells #[.slice (some ⟨w4.heap.size, 0, none⟩) 2 2] 26))
  go_wp2_with (fail)
  refine (chkc_s A15 w4.heap.size _ _ (Kd.C_below HC15.out HBb.out) (Kd.F_below HFC.out (hbT HBW15.out HBb.out)) HNb.out).mono ?_
  rintro e w16 ⟨rfl, hb16⟩
  have HB16 := Aside0.mk (hbT (hbT HBn.out (hbT HBW15.out HBb.out)) hb16)
  clear hb16
  go_wp2
  go_ret
  exact ⟨rfl, HB16.out⟩
end Go.Proofs.Ytcgnpmjkeifokaa
-- K70
/- model.power. -/
namespace Go.Proofs.Ytcgnpmjkeifokaa
open Go.RowKit Go.Proofs.YtcgnpmjkeifokaaW.PrintWords
set_option linter.unusedVariables false
set_option linter.unusedSimpArgs false
def powI (n : Int) : Nat → Int
  | 0 => 1
  | k + 1 => powI n k * n
theorem powI_bd {n : Int} (h0 : 1 ≤ n) (h1 : n ≤ 3) : ∀ k : Nat, k ≤ 8 → 1 ≤ powI n k ∧ powI n k ≤ powI 3 k
  | 0, _ => ⟨Int.le_refl _, Int.le_refl _⟩
  | k + 1, hk => by
    obtain ⟨a, b⟩ := powI_bd h0 h1 k (by omega)
    rw [powI, powI]
    have h2 : powI n k * 1 ≤ powI n k * n := Int.mul_le_mul_of_nonneg_left h0 (by omega)
    have h3 : powI n k * n ≤ powI n k * 3 := Int.mul_le_mul_of_nonneg_left h1 (by omega)
    omega
theorem pow3_bd : ∀ k : Nat, k ≤ 8 → powI 3 k ≤ 6561 := by
  intro k hk
  have : k = 0 ∨ k = 1 ∨ k = 2 ∨ k = 3 ∨ k = 4 ∨ k = 5 ∨ k = 6 ∨ k = 7 ∨ k = 8 := by omega
  rcases this with rfl | rfl | rfl | rfl | rfl | rfl | rfl | rfl | rfl <;> decide
theorem pow_bd {n : Int} (h0 : 1 ≤ n) (h1 : n ≤ 3) (k : Nat) (hk : k ≤ 8) : 1 ≤ powI n k ∧ powI n k ≤ 6561 := by
  have h2 := powI_bd h0 h1 k hk
  have h3 := pow3_bd k hk
  omega
set_option maxHeartbeats 4000000 in
set_option maxRecDepth 100000 in
theorem power_any (n : Int) (k : Nat) (w : World) (h0 : 1 ≤ n) (h1 : n ≤ 3) (hk : k ≤ 8) :
    Calls Try.prog 82 #[.int .i64 n, .int .i64 k] w fun e w' => e = .returned (.int .i64 (powI n k)) ∧ Below w.heap.size w w' := by
  go_enter Try.func82, Try.ntmps82
  go_wp2
  go_loopw [5, 7] (fun v5 i wr => ∃ (j : Nat) (q : Int), j ≤ k ∧ i = .int .i64 j ∧ v5 = .int .i64 q ∧ Aside0 (q = powI n j) ∧ Aside0 (Below w.heap.size w wr)) (fun _ i _ => k - (intOf i).toNat)
  case atStart => exact ⟨0, 1, by omega, rfl, rfl, ⟨rfl⟩, ⟨Below.refl _ _⟩⟩
  case round =>
    obtain ⟨j, q, hj, rfl, rfl, HQ, HB⟩ := hrel
    by_cases hlt : j < k
    · have hb := pow_bd h0 h1 j (by omega)
      have hb2 := pow_bd h0 h1 (j+1) (by omega)
      rw [powI] at hb2
      rw [← HQ.out] at hb hb2
      have hw : IntKind.i64.wrap (q * n) = q * n := IntWalk.i64_in _ (by omega)
      have HR : Aside0 (q * n = powI n (j+1)) := ⟨by rw [powI, HQ.out]⟩
      go_wp2
      go_roundw
      case rel => exact ⟨j + 1, _, by omega, by go_num, rfl, HR, HB⟩
      case measure => simp [intOf]; omega
    · obtain rfl : j = k := by omega
      go_wp2
      go_ret
      exact ⟨ret_int HQ.out, HB.out⟩
end Go.Proofs.Ytcgnpmjkeifokaa
-- K71
/- Rows of rows of numbers; slices.ContainsFunc over them. -/
namespace Go.Proofs.Ytcgnpmjkeifokaa
open Go.RowKit Go.Proofs.YtcgnpmjkeifokaaW.PrintWords
set_option linter.unusedVariables false
set_option linter.unusedSimpArgs false
def kIs : Kd (List Int) := Kd.slice 3 (Kd.int .i64)
def rd_Is (xs : List (List Int)) (i : Nat) : List Int := xs.getD i []
theorem rdIs_get (l : List (List Int)) (i : Nat) (h : i < l.length) : rd_Is l i = l[i] := by unfold rd_Is; simp [List.getD_eq_getElem?_getD, h]
theorem at_Is {w : World} {ok : Nat → Prop} {A : Option Addr} {n : Nat} {xs : List (List Int)} (h : Kd.F kIs w ok A n xs) (i : Nat) (h1 : i < n) : ∃ ad A0 c0, A = some ad ∧ w.cell? (ad.add i) = some (.slice A0 (rd_Is xs i).length c0) ∧ (rd_Is xs i).length ≤ c0 ∧ Kd.F (Kd.int .i64) w ok A0 (rd_Is xs i).length (rd_Is xs i) ∧ ok ad.block := by
  obtain ⟨ad, c, e, _, hK, hc0, hin⟩ := Kd.F_get h [] (i : Int) (by omega) (by omega)
  have hc : ∀ j u, c[j]? = some u → w.cell? (ad.add (i * 1 + j)) = some u := hc0
  obtain ⟨A0, c0, rfl, l0, g0⟩ := Kd.FK_now hK
  refine ⟨ad, A0, c0, e, by have hq := hc 0 _ rfl; rwa [Nat.mul_one, Nat.add_zero] at hq, l0, fun W' hW => ?_, hin (by decide)⟩
  obtain ⟨A1, c1, he, _, g1⟩ := hK W' hW
  injection he with he _
  injection he with ha _ _
  rw [show rd_Is xs i = xs.getD i [] from rfl, ha]; exact g1
set_option maxHeartbeats 4000000 in
set_option maxRecDepth 100000 in
theorem indexFuncR (g : Nat) (lb : Array Value) (p : List Int → Bool) (eg : ∀ args w, (callFunc g args).run Try.prog w = .ok (.enter g args) w) (xs : List (List Int)) (A : Option Addr) (c : Nat) (ok : Nat → Prop) (w : World) (hF : Kd.F kIs w ok A xs.length xs)
    (hp : ∀ x, x ∈ xs → ∀ (A0 : Option Addr) (c0 : Nat) (W : World), Below w.heap.size w W → Kd.F (Kd.int .i64) W ok A0 x.length x → Calls Try.prog g (#[.slice A0 x.length c0] ++ lb) W fun e w' => e = .returned (.bool (p x)) ∧ Below W.heap.size W w') :
    Calls Try.prog 134 #[.slice A xs.length c, .func (.func g) #[] lb] w fun e w' => e = .returned (.int .i64 (idxB p xs)) ∧ Below w.heap.size w w' := by
  have hlen := Kd.F_max hF
  have HF := Aside0.mk hF
  have HP := Aside0.mk hp
  clear hF hp
  go_enter Try.func134, Try.ntmps134
  go_wp2
  go_loopw [8] (fun i wr => ∃ k : Nat, k ≤ xs.length ∧ i = .int .i64 k ∧ Aside0 ((xs.take k).all (fun x => !p x) = true) ∧ Aside0 (Below w.heap.size w wr)) (fun i _ => xs.length - (intOf i).toNat)
  case atStart => exact ⟨0, by omega, rfl, ⟨rfl⟩, ⟨Below.refl _ _⟩⟩
  case round =>
    obtain ⟨k, hk, rfl, h0, hb⟩ := hrel
    by_cases hlt : k < xs.length
    · obtain ⟨ad, A3, c3, rfl, E0, _, hL, _⟩ := at_Is (Kd.F_below HF.out hb.out) k hlt
      have HL := Aside0.mk hL
      have HX := Aside0.mk (HP.out (rd_Is xs k) (by rw [rdIs_get xs k hlt]; exact List.getElem_mem _))
      have H1 := Aside0.mk (fun h => idxB_at (p := p) hlt h0.out h)
      have H2 := Aside0.mk (fun h => take_all_succ (p := fun x => !p x) hlt h0.out h)
      rw [← rdIs_get xs k hlt] at H1 H2
      clear hL
      generalize rd_Is xs k = x at *
      go_wp2_with (fail)
      refine (HX.out A3 c3 _ hb.out HL.out).mono ?_
      rintro e w2 ⟨rfl, hb2⟩
      have HB2 := Aside0.mk (hbT hb.out hb2)
      clear hb2 E0
      cases hpx : p x with
      | true =>
        have HR := Aside0.mk (H1.out hpx)
        clear H1 H2 HX hpx
        go_wp2
        go_ret
        exact ⟨ret_int HR.out.symm, HB2.out⟩
      | false =>
        have HR := Aside0.mk (H2.out (by simp [hpx]))
        clear H1 H2 HX hpx
        go_wp2
        go_roundw
        case rel => exact ⟨k + 1, by omega, by go_num, HR, HB2⟩
        case measure => simp [intOf]; omega
    · obtain rfl : k = xs.length := by omega
      have HR := Aside0.mk (idxB_none (p := p) (l := xs) (by have := h0.out; rwa [List.take_length] at this))
      clear h0
      go_wp2
      go_ret
      exact ⟨ret_int HR.out.symm, hb.out⟩
set_option maxHeartbeats 4000000 in
set_option maxRecDepth 100000 in
theorem containsFuncR (g : Nat) (lb : Array Value) (p : List Int → Bool) (eg : ∀ args w, (callFunc g args).run Try.prog w = .ok (.enter g args) w) (xs : List (List Int)) (A : Option Addr) (c : Nat) (ok : Nat → Prop) (w : World) (hF : Kd.F kIs w ok A xs.length xs)
    (hp : ∀ x, x ∈ xs → ∀ (A0 : Option Addr) (c0 : Nat) (W : World), Below w.heap.size w W → Kd.F (Kd.int .i64) W ok A0 x.length x → Calls Try.prog g (#[.slice A0 x.length c0] ++ lb) W fun e w' => e = .returned (.bool (p x)) ∧ Below W.heap.size W w') :
    Calls Try.prog 115 #[.slice A xs.length c, .func (.func g) #[] lb] w fun e w' => e = .returned (.bool (xs.any p)) ∧ Below w.heap.size w w' := by
  have H := Aside0.mk (idxB_any p xs)
  have HI := Aside0.mk (indexFuncR g lb p eg xs A c ok w hF hp)
  clear hF hp eg
  go_enter Try.func115, Try.ntmps115
  go_wp2_with (fail)
  refine HI.out.mono ?_
  rintro e w2 ⟨rfl, hb2⟩
  generalize idxB p xs = y at *
  go_wp2
  go_ret
  exact ⟨ret_bool H.out, hb2⟩
def offB (sz n : Int) : Bool := decide (n < 0 ∨ sz ≤ n)
theorem md_cells {W : World} {g e : Nat} {sz : Int} {A : Option Addr} {n c : Nat} (h : W.heap[g]? = some (.cells #[.int .i64 sz, .slice A n c] e (0, 0))) : W.cell? ⟨g, 0, none⟩ = some (.int .i64 sz) ∧ W.cell? ⟨g, 1, none⟩ = some (.slice A n c) := ⟨(blk_cell h 0).trans rfl, (blk_cell h 1).trans rfl⟩
set_option maxHeartbeats 4000000 in
set_option maxRecDepth 100000 in
theorem check11_any (sz n : Int) (A : Option Addr) (k c b : Nat) (W : World) (hb : W.heap[b]? = some (.cells #[.int .i64 sz, .slice A k c] 62 (0, 0))) :
    Calls Try.prog 117 #[.int .i64 n, .pointer (some ⟨b, 0, none⟩)] W fun e w' => e = .returned (.bool (offB sz n)) ∧ Below W.heap.size W w' := by
  obtain ⟨s0, s1⟩ := md_cells hb
  clear hb
  by_cases h1 : n < 0
  · have HR : Aside0 (offB sz n = true) := ⟨decide_eq_true (.inl h1)⟩
    go_enter Try.func117, Try.ntmps117
    go_wp2
    go_ret
    exact ⟨ret_bool HR.out.symm, Below.refl _ _⟩
  · by_cases h2 : sz ≤ n
    · have HR : Aside0 (offB sz n = true) := ⟨decide_eq_true (.inr h2)⟩
      go_enter Try.func117, Try.ntmps117
      go_wp2
      go_ret
      exact ⟨ret_bool HR.out.symm, Below.refl _ _⟩
    · have HR : Aside0 (offB sz n = false) := ⟨decide_eq_false (by omega)⟩
      go_enter Try.func117, Try.ntmps117
      go_wp2
      go_ret
      exact ⟨ret_bool HR.out.symm, Below.refl _ _⟩
set_option maxHeartbeats 4000000 in
set_option maxRecDepth 100000 in
theorem check1_any (sz : Int) (row : List Int) (A0 A : Option Addr) (c0 k c b : Nat) (ok : Nat → Prop) (W : World) (hb : W.heap[b]? = some (.cells #[.int .i64 sz, .slice A k c] 62 (0, 0))) (hF : Kd.F (Kd.int .i64) W ok A0 row.length row) :
    Calls Try.prog 116 #[.slice A0 row.length c0, .pointer (some ⟨b, 0, none⟩)] W fun e w' => e = .returned (.bool (anyB (offB sz) row)) ∧ Below W.heap.size W w' := by
  have HC := Aside0.mk (containsFunc_int 117 #[.pointer (some ⟨b, 0, none⟩)] (offB sz) (enters_of Try.func117 (by kernel_rfl) rfl) row A0 c0 W (Kd.F_now hF) (fun x _ W' hB => check11_any sz x A k c b W' ((hB.block _ (blk_lt hb)).trans hb)))
  clear hb hF
  go_enter Try.func116, Try.ntmps116
  go_wp2_with (fail)
  refine HC.out.mono ?_
  rintro e w2 ⟨rfl, hb2⟩
  go_wp2
  go_ret
  exact ⟨rfl, hb2⟩
end Go.Proofs.Ytcgnpmjkeifokaa
-- K72
/- model.Check. -/
namespace Go.Proofs.Ytcgnpmjkeifokaa
open Go.RowKit Go.Proofs.YtcgnpmjkeifokaaW.PrintWords
set_option linter.unusedVariables false
set_option linter.unusedSimpArgs false
def lnQ (sz : Int) (row : List Int) (a : Int) : Bool := (row.length : Int) == powI sz a.toNat
def lnB (sz : Int) (tabs : List (List Int)) (g : List Int) : Bool := eqF (lnQ sz) tabs g
/-- What Check answers. -/
def mdE (g : List Int) (sz : Int) (tabs : List (List Int)) : Int :=
  if sigE g ≠ 0 then sigE g else if sz < 1 ∨ 3 < sz then 3 else if lnB sz tabs g = false then 1 else if tabs.any (anyB (offB sz)) then 5 else 0
theorem sig_ar {g : List Int} (h : sigE g = 0) : ∀ a ∈ g, 0 ≤ a ∧ a ≤ 3 := by
  unfold sigE at h
  by_cases h1 : 12 < g.length
  · rw [if_pos h1] at h; cases h
  · rw [if_neg h1] at h
    by_cases h2 : g.any badAr = true
    · rw [if_pos h2] at h; cases h
    · intro a ha
      have h3 : badAr a = false := by
        cases hb : badAr a with
        | false => rfl
        | true => exact absurd (List.any_eq_true.2 ⟨a, ha, hb⟩) h2
      unfold badAr at h3
      have := of_decide_eq_false h3
      omega
set_option maxHeartbeats 4000000 in
set_option maxRecDepth 100000 in
theorem mdCheck_any (g : List Int) (Ag : Option Addr) (cg : Nat) (sz : Int) (tabs : List (List Int)) (At : Option Addr) (ct : Nat) (ok : Nat → Prop) (w : World) (hG : Kd.C (Kd.int .i64) w Ag g.length g) (hF : Kd.F kIs w ok At tabs.length tabs) :
    Calls Try.prog 79 #[.agg #[.slice Ag g.length cg], .agg #[.int .i64 sz, .slice At tabs.length ct]] w fun e w' => e = .returned (.int .i64 (mdE g sz tabs)) ∧ Below w.heap.size w w' := by
  have hlen := Kd.F_max hF
  have hlen2 := hG.2.1
  have HG := Aside0.mk hG
  have HF := Aside0.mk hF
  clear hG hF
  have g0 := blk_alloc (newAt (w := w) (o := .cells #[.slice Ag g.length cg] 24) rfl) (.cells #[.int .i64 sz, .slice At tabs.length ct] 62)
  have g1 := newAt (w := w.alloc (.cells #[.slice Ag g.length cg] 24)) (o := .cells #[.int .i64 sz, .slice At tabs.length ct] 62) (k := w.heap.size + 1) (by simp)
  have HB := Aside0.mk (below_alloc (below_alloc (Below.refl w.heap.size w) (.cells #[.slice Ag g.length cg] 24)) (.cells #[.int .i64 sz, .slice At tabs.length ct] 62))
  go_enter Try.func79, Try.ntmps79
  go_upto_region 1 with (fail)
  generalize (w.alloc (.cells #[.slice Ag g.length cg] 24)).alloc (.cells #[.int .i64 sz, .slice At tabs.length ct] 62) = W at *
  have HS := Aside0.mk g0
  have HM := Aside0.mk g1
  clear g0 g1
  have s0 := sg_cell HS.out
  go_upto_region 2 with (go_at_call 43; refine (signature_any g Ag cg W (Kd.C_below HG.out HB.out)).mono ?_; rintro e w2 ⟨rfl, hb2⟩; have HB2 := Aside0.mk hb2; clear hb2 s0)
  have HW2 := Aside0.mk (hbT HB.out HB2.out)
  have HS2 := Aside0.mk ((HB2.out.block _ (blk_lt HS.out)).trans HS.out)
  have HM2 := Aside0.mk ((HB2.out.block _ (blk_lt HM.out)).trans HM.out)
  have s0 := sg_cell HS2.out
  obtain ⟨m0, m1⟩ := md_cells HM2.out
  by_cases hs : sigE g = 0
  · have hsb := bneF hs
    have HAR := Aside0.mk (sig_ar hs)
    have HE : Aside0 (mdE g sz tabs = if sz < 1 ∨ 3 < sz then 3 else if lnB sz tabs g = false then 1 else if tabs.any (anyB (offB sz)) then 5 else 0) := ⟨by unfold mdE; rw [if_neg (by simpa using hs)]⟩
    clear hs
    by_cases h1 : sz < 1
    · have HR : Aside0 (mdE g sz tabs = 3) := ⟨by rw [HE.out, if_pos (.inl h1)]⟩
      go_wp2
      go_ret
      exact ⟨ret_int HR.out.symm, HW2.out⟩
    · by_cases h2 : 3 < sz
      · have HR : Aside0 (mdE g sz tabs = 3) := ⟨by rw [HE.out, if_pos (.inr h2)]⟩
        go_wp2
        go_ret
        exact ⟨ret_int HR.out.symm, HW2.out⟩
      · have HE2 : Aside0 (mdE g sz tabs = if lnB sz tabs g = false then 1 else if tabs.any (anyB (offB sz)) then 5 else 0) := ⟨by rw [HE.out, if_neg (by omega)]⟩
        clear HE
        by_cases hn : tabs.length = g.length
        · have hnb := bneF (a := (tabs.length : Int)) (b := (g.length : Int)) (by omega)
          have hnc : (tabs.length != g.length) = false := by simp [hn]
          have HN := Aside0.mk hn
          have hle : tabs.length ≤ g.length := by omega
          clear hn
          go_wp2
          clear s0 m0 m1
          go_loopw [33] (fun i wr => ∃ k : Nat, k ≤ tabs.length ∧ i = .int .i64 k ∧ Aside0 (lnB sz tabs g = eqF (lnQ sz) (tabs.drop k) (g.drop k)) ∧ Aside0 (Below w2.heap.size w2 wr)) (fun i _ => tabs.length - (intOf i).toNat)
          case atStart => exact ⟨0, by omega, rfl, ⟨by simp [lnB]⟩, ⟨Below.refl _ _⟩⟩
          case round =>
            obtain ⟨k, hk, rfl, h0, hb⟩ := hrel
            have HWr := Aside0.mk (hbT HW2.out hb.out)
            have HMr := Aside0.mk ((hb.out.block _ (blk_lt HM2.out)).trans HM2.out)
            have s0 := sg_cell ((hb.out.block _ (blk_lt HS2.out)).trans HS2.out)
            obtain ⟨m0, m1⟩ := md_cells HMr.out
            by_cases hlt : k < tabs.length
            · have hlt2 : k < g.length := by omega
              obtain ⟨ad, A3, c3, rfl, E0, _, _, _⟩ := at_Is (Kd.F_below HF.out HWr.out) k hlt
              obtain ⟨bd, rfl, D0⟩ := at_Int (Kd.C_below HG.out HWr.out) (k : Int) (by omega) (by omega)
              simp only [Int.toNat_natCast] at D0
              have HX := Aside0.mk (eqF_drop (p := lnQ sz) hlt hlt2)
              have hx : g.getD k 0 = g[k] := by simp [List.getD_eq_getElem?_getD, hlt2]
              rw [← rdIs_get tabs k hlt, ← hx] at HX
              have HA := Aside0.mk (HAR.out (g.getD k 0) (by rw [hx]; exact List.getElem_mem _))
              have hki : (k : Int) < tabs.length := by omega
              have hki2 : (k : Int) < g.length := by omega
              clear hx
              generalize rd_Is tabs k = row at *
              generalize g.getD k 0 = a at *
              have PW : Aside0 (∀ W', Calls Try.prog 82 #[.int .i64 sz, .int .i64 a] W' fun e w' => e = .returned (.int .i64 (powI sz a.toNat)) ∧ Below W'.heap.size W' w') := ⟨fun W' => by
                have h := power_any sz a.toNat W' (by omega) (by omega) (by have := HA.out; omega)
                rwa [Int.toNat_of_nonneg HA.out.1] at h⟩
              have q0 := fun d os => cell_regrown s0 d os
              have q1 := fun d os => cell_regrown m0 d os
              have q2 := fun d os => cell_regrown D0 d os
              go_upto_region 11 with (fail)
              clear s0 m0 m1 D0 E0
              (refine wq_draws (by kernel_rfl) (by kernel_rfl) ?_; (repeat (refine wq_step (fun K hK => ?_); go_simp; first | (refine hK _ ?_; clear hK K) | (apply Exists.intro; refine ⟨fun _ => ?_, hK _ ?_⟩; (((with_reducible refine Calls.regrown_of (PW.out _)))); clear hK K))); refine wq_nil ?_; intro W2 hbW2)
              have HBW := Aside0.mk (hbT hb.out hbW2)
              clear hbW2 q0 q1 q2 PW
              by_cases hq : (row.length : Int) = powI sz a.toNat
              · have hqb := bneF hq
                have HR : Aside0 (lnB sz tabs g = eqF (lnQ sz) (tabs.drop (k+1)) (g.drop (k+1))) := ⟨by rw [h0.out, HX.out]; unfold lnQ; rw [beqT hq]; rfl⟩
                clear hq
                go_wp2
                go_roundw
                case rel => exact ⟨k + 1, by omega, by go_num, HR, HBW⟩
                case measure => simp [intOf]; omega
              · have hqb := bneT hq
                have HR : Aside0 (mdE g sz tabs = 1) := ⟨by
                  have : lnB sz tabs g = false := by rw [h0.out, HX.out]; unfold lnQ; rw [beqF hq]; rfl
                  rw [HE2.out, if_pos this]⟩
                clear hq
                go_wp2
                go_ret
                exact ⟨ret_int HR.out.symm, hbT HW2.out HBW.out⟩
            · obtain rfl : k = tabs.length := by omega
              have HL : Aside0 (lnB sz tabs g = true) := ⟨by rw [h0.out]; exact eqF_end HN.out⟩
              have HCF := Aside0.mk (containsFuncR 116 #[.pointer (some ⟨w.heap.size + 1, 0, none⟩)] (anyB (offB sz)) (enters_of Try.func116 (by kernel_rfl) rfl) tabs At ct _ wr (Kd.F_below HF.out HWr.out) (fun x _ A0 c0 W' hB hF' => check1_any sz x A0 At c0 _ _ _ _ W' ((hB.block _ (blk_lt HMr.out)).trans HMr.out) hF'))
              go_wp2_with (fail)
              refine HCF.out.mono ?_
              rintro e w5 ⟨rfl, hb5⟩
              have HB5 := Aside0.mk (hbT HWr.out hb5)
              clear hb5 HCF s0 m0 m1
              cases ha : tabs.any (anyB (offB sz)) with
              | true =>
                have HR : Aside0 (mdE g sz tabs = 5) := ⟨by rw [HE2.out, HL.out, ha]; rfl⟩
                clear ha
                go_wp2
                go_ret
                exact ⟨ret_int HR.out.symm, HB5.out⟩
              | false =>
                have HR : Aside0 (mdE g sz tabs = 0) := ⟨by rw [HE2.out, HL.out, ha]; rfl⟩
                clear ha
                go_wp2
                go_ret
                exact ⟨ret_int HR.out.symm, HB5.out⟩
        · have hnb := bneT (a := (tabs.length : Int)) (b := (g.length : Int)) (by omega)
          have hnc : (tabs.length != g.length) = true := by simp [hn]
          have HR : Aside0 (mdE g sz tabs = 1) := ⟨by
            have : lnB sz tabs g = false := eqF_len hn
            rw [HE2.out, if_pos this]⟩
          go_wp2
          go_ret
          exact ⟨ret_int HR.out.symm, HW2.out⟩
  · have hsb := bneT hs
    have HR : Aside0 (mdE g sz tabs = sigE g) := ⟨by unfold mdE; rw [if_pos hs]⟩
    clear hs
    go_wp2
    go_ret
    exact ⟨ret_int HR.out.symm, HW2.out⟩
end Go.Proofs.Ytcgnpmjkeifokaa
-- K73
/- The value of a term in a model that is right: plain laws. -/
namespace Go.Proofs.Ytcgnpmjkeifokaa
open Go.RowKit Go.Proofs.YtcgnpmjkeifokaaW.PrintWords
set_option linter.unusedVariables false
set_option linter.unusedSimpArgs false
mutual
def valT (sz : Int) (tabs : List (List Int)) (σ : Int → Int) : Tm → Int
  | ⟨v, f, l⟩ => if 0 < v then σ v else (rd_Is tabs f.toNat).getD (valL sz tabs σ 0 l).toNat 0
def valL (sz : Int) (tabs : List (List Int)) (σ : Int → Int) : Int → List Tm → Int
  | acc, [] => acc
  | acc, t :: ts => valL sz tabs σ (acc * sz + valT sz tabs σ t) ts
end
theorem valT_eq (sz : Int) (tabs : List (List Int)) (σ : Int → Int) (t : Tm) : valT sz tabs σ t = if 0 < t.f0 then σ t.f0 else (rd_Is tabs t.f1.toNat).getD (valL sz tabs σ 0 t.f2).toNat 0 := by cases t; rw [valT]
theorem valL_append (sz : Int) (tabs : List (List Int)) (σ : Int → Int) (a b : List Tm) : ∀ acc, valL sz tabs σ acc (a ++ b) = valL sz tabs σ (valL sz tabs σ acc a) b := by
  induction a with
  | nil => intro acc; rw [valL]; rfl
  | cons t ts ih => intro acc; rw [List.cons_append, valL, valL]; exact ih _
theorem valL_take (sz : Int) (tabs : List (List Int)) (σ : Int → Int) (l : List Tm) (k : Nat) (hk : k < l.length) : valL sz tabs σ 0 (l.take (k+1)) = valL sz tabs σ 0 (l.take k) * sz + valT sz tabs σ (rd_Tm l k) := by
  rw [List.take_succ_eq_append_getElem hk, valL_append, valL, valL, rd_get l k hk]
/-- A model that is right. -/
structure MdOk (g : List Int) (sz : Int) (tabs : List (List Int)) : Prop where
  lo : 1 ≤ sz
  hi : sz ≤ 3
  len : tabs.length = g.length
  row : ∀ i, i < g.length → ((rd_Is tabs i).length : Int) = powI sz (g.getD i 0).toNat
  ar : ∀ i, i < g.length → 0 ≤ g.getD i 0 ∧ g.getD i 0 ≤ 3
  cell : ∀ i, i < g.length → ∀ n ∈ rd_Is tabs i, 0 ≤ n ∧ n < sz
theorem eqF_get {α β : Type} {p : α → β → Bool} : ∀ {l : List α} {l' : List β}, eqF p l l' = true → l.length = l'.length ∧ ∀ i (h : i < l.length) (h' : i < l'.length), p l[i] l'[i] = true
  | [], [], _ => ⟨rfl, fun i h => by simp at h⟩
  | [], _ :: _, h => by cases h
  | _ :: _, [], h => by cases h
  | a :: l, b :: l', h => by
    rw [eqF, Bool.and_eq_true] at h
    obtain ⟨h1, h2⟩ := eqF_get h.2
    refine ⟨by simp [h1], fun i hi hi' => ?_⟩
    cases i with
    | zero => exact h.1
    | succ i => exact h2 i (by simpa using hi) (by simpa using hi')
theorem md_ok {g : List Int} {sz : Int} {tabs : List (List Int)} (h : mdE g sz tabs = 0) : MdOk g sz tabs := by
  unfold mdE at h
  by_cases hs : sigE g = 0
  · rw [if_neg (by simpa using hs)] at h
    by_cases h1 : sz < 1 ∨ 3 < sz
    · rw [if_pos h1] at h; cases h
    · rw [if_neg h1] at h
      by_cases h2 : lnB sz tabs g = false
      · rw [if_pos h2] at h; cases h
      · rw [if_neg h2] at h
        by_cases h3 : tabs.any (anyB (offB sz)) = true
        · rw [if_pos h3] at h; cases h
        · obtain ⟨a, b⟩ := eqF_get (show eqF (lnQ sz) tabs g = true by
            cases hb : eqF (lnQ sz) tabs g with
            | true => rfl
            | false => exact absurd hb h2)
          have har := sig_ar hs
          have hgd : ∀ i (hi : i < g.length), g.getD i 0 = g[i] := fun i hi => by simp [List.getD_eq_getElem?_getD, hi]
          refine ⟨by omega, by omega, a, fun i hi => ?_, fun i hi => ?_, fun i hi n hn => ?_⟩
          · have := b i (by omega) hi
            unfold lnQ at this
            rw [rdIs_get _ _ (by omega), hgd i hi]
            simpa using this
          · rw [hgd i hi]; exact har _ (List.getElem_mem _)
          · rw [rdIs_get _ _ (by omega)] at hn
            have h4 : anyB (offB sz) tabs[i] = false := by
              cases hb : anyB (offB sz) tabs[i] with
              | false => rfl
              | true => exact absurd (List.any_eq_true.2 ⟨_, List.getElem_mem _, hb⟩) h3
            have h5 : offB sz n = false := by
              cases hb : offB sz n with
              | false => rfl
              | true =>
                have : anyB (offB sz) tabs[i] = true := List.any_eq_true.2 ⟨n, hn, hb⟩
                rw [this] at h4; cases h4
            have := of_decide_eq_false h5
            omega
  · rw [if_pos hs] at h; exact absurd h hs
theorem powI_succ (sz : Int) (k : Nat) : powI sz (k+1) = powI sz k * sz := rfl
theorem val_bd {g : List Int} {sz : Int} {tabs : List (List Int)} {σ : Int → Int} (hM : MdOk g sz tabs) (t : Tm) : formE g t = 0 → (∀ x ∈ ptsT t, 0 < x.f0 → 0 ≤ σ x.f0 ∧ σ x.f0 < sz) → 0 ≤ valT sz tabs σ t ∧ valT sz tabs σ t < sz := by
  refine Tm.rec (motive_1 := fun t => formE g t = 0 → (∀ x ∈ ptsT t, 0 < x.f0 → 0 ≤ σ x.f0 ∧ σ x.f0 < sz) → 0 ≤ valT sz tabs σ t ∧ valT sz tabs σ t < sz)
    (motive_2 := fun l => formEL g l = 0 → (∀ x ∈ ptsL l, 0 < x.f0 → 0 ≤ σ x.f0 ∧ σ x.f0 < sz) → ∀ (acc : Int) (j : Nat), 0 ≤ acc → acc < powI sz j → 0 ≤ valL sz tabs σ acc l ∧ valL sz tabs σ acc l < powI sz (j + l.length)) ?_ ?_ ?_ t
  · intro v f l ih hf hx
    have hp := formE_parts hf
    rw [formE, if_neg (by simpa using hp.1)] at hf
    rw [valT]
    by_cases hv : 0 < v
    · rw [if_pos hv]
      exact hx ⟨v, f, l⟩ (by rw [ptsT]; simp) hv
    · rw [if_neg hv]
      unfold partE at hf
      have hv0 : v = 0 := by have h2 : 0 ≤ v := hp.2; omega
      rw [if_neg (show ¬ (v ≠ 0) by omega)] at hf
      by_cases hr : 0 ≤ f ∧ f < g.length
      · rw [if_pos (by exact hr)] at hf
        have hi : f.toNat < g.length := by omega
        by_cases hl : (l.length : Int) = g.getD f.toNat 0
        · have hb := ih hp.1 (fun x hy => hx x (by rw [ptsT]; exact List.mem_append.2 (.inl hy))) 0 0 (Int.le_refl _) (by rw [powI]; decide)
          rw [Nat.zero_add] at hb
          have hrow := hM.row f.toNat hi
          have hlt : (valL sz tabs σ 0 l).toNat < (rd_Is tabs f.toNat).length := by
            have : (g.getD f.toNat 0).toNat = l.length := by rw [← hl]; simp
            rw [this] at hrow
            omega
          have e : (rd_Is tabs f.toNat).getD (valL sz tabs σ 0 l).toNat 0 = (rd_Is tabs f.toNat)[(valL sz tabs σ 0 l).toNat] := by simp [List.getD_eq_getElem?_getD, hlt]
          rw [e]
          exact hM.cell f.toNat hi _ (List.getElem_mem _)
        · rw [if_neg (by exact hl)] at hf; cases hf
      · rw [if_neg (by exact hr)] at hf; cases hf
  · intro _ _ acc j h0 h1
    rw [valL]
    exact ⟨h0, h1⟩
  · intro t ts h1 h2 hf hx acc j ha hb
    rw [formEL] at hf
    by_cases hl : formE g t = 0
    · rw [if_neg (by simpa using hl)] at hf
      have hv := h1 hl (fun x hy => hx x (by rw [ptsL]; exact List.mem_append.2 (.inl hy)))
      have hs := hM.lo
      have a1 : 0 ≤ acc * sz := Int.mul_nonneg ha (by omega)
      have a2 : (acc + 1) * sz ≤ powI sz j * sz := Int.mul_le_mul_of_nonneg_right (by omega) (by omega)
      rw [Int.add_mul, Int.one_mul] at a2
      have h3 := h2 hf (fun x hy => hx x (by rw [ptsL]; exact List.mem_append.2 (.inr hy))) (acc * sz + valT sz tabs σ t) (j+1) (by omega) (by rw [powI_succ]; omega)
      rw [valL, List.length_cons]
      rw [show j + 1 + ts.length = j + (ts.length + 1) by omega] at h3
      exact h3
    · rw [if_pos hl] at hf; exact absurd hf hl
end Go.Proofs.Ytcgnpmjkeifokaa
-- K74
/- model.value. -/
namespace Go.Proofs.Ytcgnpmjkeifokaa
open Go.RowKit Go.Proofs.YtcgnpmjkeifokaaW.PrintWords
set_option linter.unusedVariables false
set_option linter.unusedSimpArgs false
theorem pts_arg {t : Tm} {x : Tm} {k : Nat} (hk : k < t.f2.length) (hx : x ∈ ptsT (rd_Tm t.f2 k)) : x ∈ ptsT t := by
  rw [ptsT_eq, List.mem_append]
  refine .inl ?_
  have h1 := ptsL_append (t.f2.take (k+1)) (t.f2.drop (k+1))
  rw [List.take_append_drop] at h1
  rw [h1, ptsL_take_succ t.f2 k hk]
  simp [hx]
/-- A function value that tells what variables are. -/
def DoV (g : Nat) (lb : Array Value) (σ : Int → Int) (vs : Int → Prop) (w0 : World) : Prop :=
  ∀ (v : Int) (W : World), vs v → Below w0.heap.size w0 W → Calls Try.prog g (#[.int .i64 v] ++ lb) W fun e w' => e = .returned (.int .i64 (σ v)) ∧ Below W.heap.size W w'
theorem pow_le {sz : Int} (h0 : 1 ≤ sz) (h1 : sz ≤ 3) (k : Nat) (hk : k ≤ 3) : 1 ≤ powI sz k ∧ powI sz k ≤ 6561 := pow_bd h0 h1 k (by omega)
set_option maxHeartbeats 4000000 in
set_option maxRecDepth 100000 in
theorem value_any (gs : List Int) (sz : Int) (tabs : List (List Int)) (σ : Int → Int) (vs : Int → Prop) (gf : Nat) (lb : Array Value) (eg : ∀ args w, (callFunc gf args).run Try.prog w = .ok (.enter gf args) w) (hM : MdOk gs sz tabs) (hσ : ∀ v, vs v → 0 ≤ σ v ∧ σ v < sz) (w0 : World) (hd : DoV gf lb σ vs w0) (At : Option Addr) (ct : Nat) (okm : Nat → Prop) (n : Nat) :
    ∀ (t : Tm) (A : Option Addr) (c : Nat) (okt : Nat → Prop) (w : World), szT t ≤ n → formE gs t = 0 → (∀ x ∈ ptsT t, 0 < x.f0 → vs x.f0) → Below w0.heap.size w0 w → Kd.F kIs w okm At tabs.length tabs → Kd.F kTm w okt A t.f2.length t.f2 → t.f2.length ≤ c →
    Calls Try.prog 86 #[.agg #[.int .i64 sz, .slice At tabs.length ct], .agg #[.int .i64 t.f0, .int .i64 t.f1, .slice A t.f2.length c], .func (.func gf) #[] lb] w fun e w' => e = .returned (.int .i64 (valT sz tabs σ t)) ∧ Below w.heap.size w w' := by
  induction n with
  | zero => intro t A c okt w h; have := szT_pos t; omega
  | succ n ih =>
  intro t A c okt w hm hf hx hB0 hFm hF hc
  have hlen := Kd.F_max hF
  have hlen2 := Kd.F_max hFm
  have HF := Aside0.mk hF
  have HFM := Aside0.mk hFm
  have IH := Aside0.mk ih
  have HSZ := Aside0.mk hm
  have HS := Aside0.mk (szT_eq t)
  have HE := Aside0.mk (valT_eq sz tabs σ t)
  have HFO := Aside0.mk hf
  have HX := Aside0.mk hx
  have HD := Aside0.mk hd
  have HMO := Aside0.mk hM
  have HSI := Aside0.mk hσ
  have HB0 := Aside0.mk hB0
  have hz0 := hB0.size
  clear hF hFm ih hm hf hx hd hM hσ hB0
  have a0 := blk_alloc (newAt (w := w) (o := .cells #[.int .i64 sz, .slice At tabs.length ct] 62) rfl) (.cells #[.int .i64 t.f0, .int .i64 t.f1, .slice A t.f2.length c] 46)
  have a1 := newAt (w := w.alloc (.cells #[.int .i64 sz, .slice At tabs.length ct] 62)) (o := .cells #[.int .i64 t.f0, .int .i64 t.f1, .slice A t.f2.length c] 46) (k := w.heap.size + 1) (by simp)
  have HB := Aside0.mk (below_alloc (below_alloc (Below.refl w.heap.size w) (.cells #[.int .i64 sz, .slice At tabs.length ct] 62)) (.cells #[.int .i64 t.f0, .int .i64 t.f1, .slice A t.f2.length c] 46))
  go_enter Try.func86, Try.ntmps86
  go_upto_region 1 with (fail)
  generalize (w.alloc (.cells #[.int .i64 sz, .slice At tabs.length ct] 62)).alloc (.cells #[.int .i64 t.f0, .int .i64 t.f1, .slice A t.f2.length c] 46) = W at *
  have GM := Aside0.mk a0
  have GT := Aside0.mk a1
  clear a0 a1
  obtain ⟨p0, p1, p2⟩ := tm_cells GT.out
  have HBW := Aside0.mk (below_then HB0.out hz0 HB.out)
  by_cases hv : 0 < t.f0
  · have HR : Aside0 (valT sz tabs σ t = σ t.f0) := ⟨by rw [HE.out, if_pos hv]⟩
    have HC := Aside0.mk (HD.out t.f0 W (HX.out t (by rw [ptsT_eq]; simp) hv) HBW.out)
    go_wp2_with (fail)
    refine HC.out.mono ?_
    rintro e w2 ⟨rfl, hb2⟩
    go_wp2
    go_ret
    exact ⟨ret_int HR.out.symm, hbT HB.out hb2⟩
  · have HR : Aside0 (valT sz tabs σ t = (rd_Is tabs t.f1.toNat).getD (valL sz tabs σ 0 t.f2).toNat 0) := ⟨by rw [HE.out, if_neg hv]⟩
    have hp := formE_parts HFO.out
    have hq := HFO.out
    rw [formE_eq, if_neg (by simpa using hp.1)] at hq
    unfold partE at hq
    rw [if_neg (show ¬ (t.f0 ≠ 0) by omega)] at hq
    have hr : 0 ≤ t.f1 ∧ t.f1 < gs.length := by
      by_cases hr : 0 ≤ t.f1 ∧ t.f1 < gs.length
      · exact hr
      · rw [if_neg hr] at hq; cases hq
    rw [if_pos hr] at hq
    have hl : (t.f2.length : Int) = gs.getD t.f1.toNat 0 := by
      by_cases hl : (t.f2.length : Int) = gs.getD t.f1.toNat 0
      · exact hl
      · rw [if_neg hl] at hq; cases hq
    have har := HMO.out.ar t.f1.toNat (by omega)
    have hl3 : t.f2.length ≤ 3 := by omega
    have hrow := HMO.out.row t.f1.toNat (by omega)
    have htl := HMO.out.len
    have hlo := HMO.out.lo
    have hhi := HMO.out.hi
    have hVB : ∀ k, k ≤ t.f2.length → 0 ≤ valL sz tabs σ 0 (t.f2.take k) ∧ valL sz tabs σ 0 (t.f2.take k) < powI sz k := by
      intro k
      induction k with
      | zero => intro _; rw [List.take_zero, valL, powI]; omega
      | succ k ih2 =>
        intro hk
        have h1 := ih2 (by omega)
        have hkl : k < t.f2.length := by omega
        have h2 := val_bd (σ := σ) HMO.out (rd_Tm t.f2 k) (formEL_mem hp.1 _ (rd_mem t.f2 k hkl)) (fun x hx hx0 => HSI.out _ (HX.out x (pts_arg hkl hx) hx0))
        rw [valL_take sz tabs σ t.f2 k hkl, powI]
        have a1 : 0 ≤ valL sz tabs σ 0 (t.f2.take k) * sz := Int.mul_nonneg h1.1 (by omega)
        have a2 : (valL sz tabs σ 0 (t.f2.take k) + 1) * sz ≤ powI sz k * sz := Int.mul_le_mul_of_nonneg_right (by omega) (by omega)
        rw [Int.add_mul, Int.one_mul] at a2
        omega
    have HVB := Aside0.mk hVB
    have HROW : Aside0 (((rd_Is tabs t.f1.toNat).length : Int) = powI sz t.f2.length) := ⟨by rw [hrow, ← hl]; simp⟩
    have HFA := Aside0.mk hp.1
    have HTLn := Aside0.mk htl
    clear hVB hrow hl har hq hp HE htl
    go_wp2
    clear p0 p1 p2
    go_loopw [7, 20] (fun v7 i wr => ∃ (k : Nat) (q : Int), k ≤ t.f2.length ∧ i = .int .i64 k ∧ v7 = .int .i64 q ∧ Aside0 (q = valL sz tabs σ 0 (t.f2.take k)) ∧ Aside0 (Below W.heap.size W wr)) (fun _ i _ => t.f2.length - (intOf i).toNat)
    case atStart => exact ⟨0, 0, by omega, rfl, rfl, ⟨by rw [List.take_zero, valL]⟩, ⟨Below.refl _ _⟩⟩
    case round =>
      obtain ⟨k, q, hk, rfl, rfl, HQ, HBr⟩ := hrel
      have HBwr := Aside0.mk (hbT HB.out HBr.out)
      have GMr := Aside0.mk ((HBr.out.block _ (blk_lt GM.out)).trans GM.out)
      have GTr := Aside0.mk ((HBr.out.block _ (blk_lt GT.out)).trans GT.out)
      by_cases hlt : k < t.f2.length
      · obtain ⟨ad, A2, c2, rfl, E0, E1, E2, hl2, hF2, _⟩ := at_TmF (Kd.F_below HF.out HBwr.out) (k : Int) (by omega) (by omega)
        simp only [Int.toNat_natCast] at E0 E1 E2
        have HTm := Aside0.mk (szT_mem (rd_mem t.f2 k hlt))
        have HTK := Aside0.mk (valL_take sz tabs σ t.f2 k hlt)
        have HFX := Aside0.mk (formEL_mem HFA.out _ (rd_mem t.f2 k hlt))
        have HXX : Aside0 (∀ x ∈ ptsT (rd_Tm t.f2 k), 0 < x.f0 → vs x.f0) := ⟨fun x hx h => HX.out x (pts_arg hlt hx) h⟩
        have HF2 := Aside0.mk hF2
        have hbq := HVB.out k (by omega)
        have hbq2 := HVB.out (k+1) (by omega)
        have hpk := pow_le hlo hhi k (by omega)
        have hpk2 := pow_le hlo hhi (k+1) (by omega)
        rw [HTK.out] at hbq2
        rw [← HQ.out] at hbq hbq2 HTK
        have hvx := val_bd (σ := σ) HMO.out (rd_Tm t.f2 k) HFX.out (fun x hx h => HSI.out _ (HXX.out x hx h))
        have hqs : 0 ≤ q * sz ∧ q * sz ≤ 6561 * 3 := ⟨Int.mul_nonneg hbq.1 (by omega), by omega⟩
        have hw1 : IntKind.i64.wrap (q * sz) = q * sz := IntWalk.i64_in _ (by omega)
        clear hF2
        go_upto_region 7 with (((with_reducible refine gate_store (t := 46) (p := 9) rfl ?_); refine st_tm 9 rfl rfl rfl rfl rfl (heap_alloc_new _ _) ?_); intro w4 hs4 hG4 hz4; have GX := Aside0.mk hs4; have HB4 := Aside0.mk (gbS (below_alloc (Below.refl wr.heap.size wr) _) hG4 (Nat.le_refl _)); clear hs4 hG4 hz4 E0 E1 E2)
        obtain ⟨m0, m1⟩ := md_cells ((HB4.out.block _ (blk_lt GMr.out)).trans GMr.out)
        obtain ⟨x0, x1, x2⟩ := tm_cells GX.out
        have HBw4 := Aside0.mk (hbT HBwr.out HB4.out)
        have HB04 := Aside0.mk (below_then HB0.out hz0 HBw4.out)
        have SS : Aside0 (∀ W', Below w4.heap.size w4 W' → Calls Try.prog 86 #[.agg #[.int .i64 sz, .slice At tabs.length ct], .agg #[.int .i64 (rd_Tm t.f2 (k : Int)).f0, .int .i64 (rd_Tm t.f2 (k : Int)).f1, .slice A2 (rd_Tm t.f2 (k : Int)).f2.length c2], .func (.func gf) #[] lb] W' fun e w' => e = .returned (.int .i64 (valT sz tabs σ (rd_Tm t.f2 k))) ∧ Below W'.heap.size W' w') := ⟨fun W' hb => IH.out (rd_Tm t.f2 k) A2 c2 _ W' (by have := HSZ.out; have := HS.out; have := HTm.out; omega) HFX.out HXX.out (HB04.out.trans (hbW hb (by have := HBw4.out.size; omega))) (Kd.F_below HFM.out (hbT HBw4.out hb)) (Kd.F_below HF2.out (hbT HB4.out hb)) hl2⟩
        have q0 := fun d os => cell_regrown m0 d os
        have q1 := fun d os => cell_regrown m1 d os
        have q2 := fun d os => cell_regrown x0 d os
        have q3 := fun d os => cell_regrown x1 d os
        have q4 := fun d os => cell_regrown x2 d os
        have hw2 : IntKind.i64.wrap (q * sz + valT sz tabs σ (rd_Tm t.f2 k)) = q * sz + valT sz tabs σ (rd_Tm t.f2 k) := IntWalk.i64_in _ (by omega)
        clear m0 m1 x0 x1 x2
        (refine wq_draws (by kernel_rfl) (by kernel_rfl) ?_; (repeat (refine wq_step (fun K hK => ?_); go_simp; first | (refine hK _ ?_; clear hK K) | (apply Exists.intro; refine ⟨fun _ => ?_, hK _ ?_⟩; (((with_reducible refine Calls.regrown_of (SS.out _ (below_regrown _ _ _))))); clear hK K))); refine wq_nil ?_; intro W2 hbW2)
        have HBq := Aside0.mk (hbT HBr.out (hbT HB4.out hbW2))
        clear hbW2 q0 q1 q2 q3 q4 SS
        go_wp2
        go_roundw
        case rel => exact ⟨k + 1, _, by omega, by go_num, rfl, ⟨HTK.out.symm⟩, HBq⟩
        case measure => simp [intOf]; omega
      · obtain rfl : k = t.f2.length := by omega
        have hfl : t.f1.toNat < tabs.length := by have := HTLn.out; omega
        have hft : t.f1 < tabs.length := by omega
        have hf0 : 0 ≤ t.f1 := hr.1
        obtain ⟨ad, A0, c0, rfl, E0, _, hFr, _⟩ := at_Is (Kd.F_below HFM.out HBwr.out) t.f1.toNat hfl
        have hqb := HVB.out t.f2.length (Nat.le_refl _)
        rw [← HQ.out] at hqb
        have hql : q < (rd_Is tabs t.f1.toNat).length := by rw [HROW.out]; exact hqb.2
        have hq0 : 0 ≤ q := hqb.1
        obtain ⟨bd, rfl, D0⟩ := at_Int (Kd.F_now hFr) q hq0 hql
        have HRR : Aside0 (valT sz tabs σ t = (rd_Is tabs t.f1.toNat).getD q.toNat 0) := ⟨by
          have h := HQ.out
          rw [List.take_length] at h
          rw [HR.out, ← h]⟩
        obtain ⟨m0, m1⟩ := md_cells GMr.out
        obtain ⟨x0, x1, x2⟩ := tm_cells GTr.out
        clear hFr hqb HROW
        generalize rd_Is tabs t.f1.toNat = row at *
        generalize row.getD q.toNat 0 = z at *
        go_wp2
        go_ret
        exact ⟨ret_int HRR.out.symm, HBwr.out⟩
end Go.Proofs.Ytcgnpmjkeifokaa
-- K75
/- Maps of numbers by numbers; model.Holds$1. -/
namespace Go.Proofs.Ytcgnpmjkeifokaa
open Go.RowKit Go.Proofs.YtcgnpmjkeifokaaW.PrintWords
set_option linter.unusedVariables false
set_option linter.unusedSimpArgs false
set_option linter.unusedSectionVars false
def vrI (x : Int) (v : Value) : Prop := v = .int .i64 x
def MapI (W : World) (b : Nat) (m : List (Int × Int)) : Prop := MapR W b keI vrI m
theorem MapI.below {W W' : World} {b : Nat} {m : List (Int × Int)} (h : MapI W b m) (hb : Below W.heap.size W W') : MapI W' b m := MapR.step h (hb.block _ h.lt) (fun _ _ hv => hv)
theorem MapI.grown {W W' : World} {b g : Nat} {m : List (Int × Int)} (h : MapI W b m) (hg : W.grownBy W' (some g)) (hne : b ≠ g) : MapI W' b m := MapR.step h (hg.block _ h.lt (fun e => hne (by injection e))) (fun _ _ hv => hv)
theorem MapI.made (w : World) : MapI (w.alloc (.map #[] 0)) w.heap.size [] := MapR.made w
theorem zeroI (w : World) : (zeroValue 3).run Try.prog w = .ok (.int .i64 0) w := by kernel_rfl
def T_mapI : TypeId := 112
theorem un_mapI : Try.prog.underlying T_mapI = some (.map 3 3) := Try.underlying112
def mgetI (m : List (Int × Int)) (k : Int) : Int := (mget m k).getD 0
section
variable {ops : Array Oper} {rest : List Oper} {o : Oper} {a : Act} {Q : Exit → Act → World → Prop} {w : World} {b : Nat} {m : List (Int × Int)}
theorem wp_lookI (hg : o.guard = none) (mp x : Operand) (hop : o.op = Op.lookup T_mapI mp x false) (hm : a.eval mp = .map (some b)) (h : MapI w b m) (k : Int) (hx : a.eval x = .int .i64 k)
    (hK : wpList Try.prog ops Q rest (a.put o.dst (.int .i64 (mgetI m k))) w) : wpList Try.prog ops Q (o :: rest) a w := by
  refine wpList_plain hg fun K' hK' => ?_
  obtain ⟨v, hrun, h1, h2⟩ := MapR.look1 h sameI isI un_mapI Try.underlying3 (zeroI w) k
  have hv : v = .int .i64 (mgetI m k) := by
    unfold mgetI
    cases hh : mget m k with
    | none => exact h1 hh
    | some x => exact h2 x hh
  subst hv
  unfold Oper.wp
  have hrun2 : (Instr.lookup T_mapI (.map (some b)) (.int .i64 k) false).run Try.prog w = .ok (.int .i64 (mgetI m k)) w := hrun
  simp [execOp, hop, hm, hx, hrun2, Result.andThen]
  exact hK' _ _ hK
theorem wp_updI (hg : o.guard = none) (mp x v : Operand) (hop : o.op = Op.mapUpdate T_mapI mp x v) (hm : a.eval mp = .map (some b)) (h : MapI w b m) (k : Int) (hx : a.eval x = .int .i64 k) (t : Int) (hv : a.eval v = .int .i64 t)
    (hK : ∀ w', MapI w' b (mset m k t) → w.grownBy w' (some b) → wpList Try.prog ops Q rest (a.put o.dst undef) w') :
    wpList Try.prog ops Q (o :: rest) a w := by
  refine wpList_plain hg fun K' hK' => ?_
  obtain ⟨w', hrun, h1, h2, _⟩ := MapR.upd h sameI isI un_mapI Try.underlying3 k t (v := .int .i64 t) rfl
  unfold Oper.wp
  have hrun2 : (Instr.mapUpdate T_mapI (.map (some b)) (.int .i64 k) (.int .i64 t)).run Try.prog w = .ok () w' := hrun
  simp [execOp, hop, hm, hx, hv, hrun2, Result.andThen]
  exact hK' _ _ (hK w' h1 h2)
end
set_option maxHeartbeats 4000000 in
set_option maxRecDepth 100000 in
theorem holds1_any (m : List (Int × Int)) (b g : Nat) (v : Int) (W : World) (hM : MapI W b m) (hg : W.heap[g]? = some (.cells #[.map (some b)] 112 (0, 0))) :
    Calls Try.prog 83 #[.int .i64 v, .pointer (some ⟨g, 0, none⟩)] W fun e w' => e = .returned (.int .i64 (mgetI m v)) ∧ Below W.heap.size W w' := by
  have HM := Aside0.mk hM
  have m0 := map_cell hg
  clear hM hg
  go_enter Try.func83, Try.ntmps83
  go_wp2_with (at_lookup; refine wp_lookI rfl _ _ rfl rfl HM.out v rfl ?_)
  go_ret
  exact ⟨rfl, Below.refl _ _⟩
end Go.Proofs.Ytcgnpmjkeifokaa
-- K76
/- model.Holds$2. -/
namespace Go.Proofs.Ytcgnpmjkeifokaa
open Go.RowKit Go.Proofs.YtcgnpmjkeifokaaW.PrintWords
set_option linter.unusedVariables false
set_option linter.unusedSimpArgs false
/-- Does a literal hold? -/
def litV (sz : Int) (tabs : List (List Int)) (σ : Int → Int) (l : Li) : Bool := (valT sz tabs σ l.f1 == valT sz tabs σ l.f2) == l.f0
set_option maxHeartbeats 4000000 in
set_option maxRecDepth 100000 in
theorem holds2_any (gs : List Int) (sz : Int) (tabs : List (List Int)) (σ : Int → Int) (vs : Int → Prop) (gf : Nat) (lb : Array Value) (eg : ∀ args w, (callFunc gf args).run Try.prog w = .ok (.enter gf args) w) (hM : MdOk gs sz tabs) (hσ : ∀ v, vs v → 0 ≤ σ v ∧ σ v < sz) (w0 : World) (hd : DoV gf lb σ vs w0) (At : Option Addr) (ct : Nat) (okm : Nat → Prop)
    (l : Li) (A3 A6 : Option Addr) (c3 c6 bm bf : Nat) (okl : Nat → Prop) (W : World) (hf : formE gs l.f1 = 0 ∧ formE gs l.f2 = 0) (hv : ∀ t, (t = l.f1 ∨ t = l.f2) → ∀ x ∈ ptsT t, 0 < x.f0 → vs x.f0) (hB : Below w0.heap.size w0 W) (hFm : Kd.F kIs W okm At tabs.length tabs)
    (hbm : W.heap[bm]? = some (.cells #[.int .i64 sz, .slice At tabs.length ct] 62 (0, 0))) (hbf : W.heap[bf]? = some (.cells #[.func (.func gf) #[] lb] 113 (0, 0))) (hL : LiF W okl l A3 c3 A6 c6) :
    Calls Try.prog 85 #[.agg #[.bool l.f0, .int .i64 l.f1.f0, .int .i64 l.f1.f1, .slice A3 l.f1.f2.length c3, .int .i64 l.f2.f0, .int .i64 l.f2.f1, .slice A6 l.f2.f2.length c6], .pointer (some ⟨bm, 0, none⟩), .pointer (some ⟨bf, 0, none⟩)] W fun e w' => e = .returned (.bool (litV sz tabs σ l)) ∧ Below W.heap.size W w' := by
  have g0 := newAt (w := W) (o := .cells #[.bool l.f0, .int .i64 l.f1.f0, .int .i64 l.f1.f1, .slice A3 l.f1.f2.length c3, .int .i64 l.f2.f0, .int .i64 l.f2.f1, .slice A6 l.f2.f2.length c6] 84) rfl
  have g1 := blk_alloc hbm (.cells #[.bool l.f0, .int .i64 l.f1.f0, .int .i64 l.f1.f1, .slice A3 l.f1.f2.length c3, .int .i64 l.f2.f0, .int .i64 l.f2.f1, .slice A6 l.f2.f2.length c6] 84)
  have g2 := blk_alloc hbf (.cells #[.bool l.f0, .int .i64 l.f1.f0, .int .i64 l.f1.f1, .slice A3 l.f1.f2.length c3, .int .i64 l.f2.f0, .int .i64 l.f2.f1, .slice A6 l.f2.f2.length c6] 84)
  have HB := Aside0.mk (below_alloc (Below.refl W.heap.size W) (.cells #[.bool l.f0, .int .i64 l.f1.f0, .int .i64 l.f1.f1, .slice A3 l.f1.f2.length c3, .int .i64 l.f2.f0, .int .i64 l.f2.f1, .slice A6 l.f2.f2.length c6] 84))
  have hlen := Kd.F_max hFm
  have hz := hB.size
  have VV : Aside0 (∀ (t : Tm) (A : Option Addr) (c : Nat) W', (t = l.f1 ∨ t = l.f2) → Below W.heap.size W W' → Kd.F kTm W' okl A t.f2.length t.f2 → t.f2.length ≤ c → Calls Try.prog 86 #[.agg #[.int .i64 sz, .slice At tabs.length ct], .agg #[.int .i64 t.f0, .int .i64 t.f1, .slice A t.f2.length c], .func (.func gf) #[] lb] W' fun e w' => e = .returned (.int .i64 (valT sz tabs σ t)) ∧ Below W'.heap.size W' w') := ⟨fun t A c W' ht hb hF hc => value_any gs sz tabs σ vs gf lb eg hM hσ w0 hd At ct okm (szT t) t A c okl W' (Nat.le_refl _) (by rcases ht with rfl | rfl; exact hf.1; exact hf.2) (hv t ht) (below_then hB hz hb) (Kd.F_below hFm hb) hF hc⟩
  have HL := Aside0.mk (hL.below HB.out)
  clear hbm hbf hL hFm hd hσ hM hf hv
  go_enter Try.func85, Try.ntmps85
  go_upto_region 1 with (fail)
  generalize W.alloc (.cells #[.bool l.f0, .int .i64 l.f1.f0, .int .i64 l.f1.f1, .slice A3 l.f1.f2.length c3, .int .i64 l.f2.f0, .int .i64 l.f2.f1, .slice A6 l.f2.f2.length c6] 84) = W1 at *
  obtain ⟨x0, x1, x2, x3, x4, x5, x6⟩ := li_cells g0
  obtain ⟨m0, m1⟩ := md_cells g1
  have f0 : W1.cell? ⟨bf, 0, none⟩ = some (.func (.func gf) #[] lb) := (blk_cell g2 0).trans rfl
  clear g0 g1 g2
  have q0 := fun d os => cell_regrown x0 d os
  have q1 := fun d os => cell_regrown x1 d os
  have q2 := fun d os => cell_regrown x2 d os
  have q3 := fun d os => cell_regrown x3 d os
  have q4 := fun d os => cell_regrown x4 d os
  have q5 := fun d os => cell_regrown x5 d os
  have q6 := fun d os => cell_regrown x6 d os
  have q7 := fun d os => cell_regrown m0 d os
  have q8 := fun d os => cell_regrown m1 d os
  have q9 := fun d os => cell_regrown f0 d os
  have S1 : Aside0 (∀ W', Below W1.heap.size W1 W' → Calls Try.prog 86 #[.agg #[.int .i64 sz, .slice At tabs.length ct], .agg #[.int .i64 l.f1.f0, .int .i64 l.f1.f1, .slice A3 l.f1.f2.length c3], .func (.func gf) #[] lb] W' fun e w' => e = .returned (.int .i64 (valT sz tabs σ l.f1)) ∧ Below W'.heap.size W' w') := ⟨fun W' hb => VV.out l.f1 A3 c3 W' (.inl rfl) (hbT HB.out hb) (Kd.F_below HL.out.F3 hb) HL.out.l3⟩
  have S2 : Aside0 (∀ W', Below W1.heap.size W1 W' → Calls Try.prog 86 #[.agg #[.int .i64 sz, .slice At tabs.length ct], .agg #[.int .i64 l.f2.f0, .int .i64 l.f2.f1, .slice A6 l.f2.f2.length c6], .func (.func gf) #[] lb] W' fun e w' => e = .returned (.int .i64 (valT sz tabs σ l.f2)) ∧ Below W'.heap.size W' w') := ⟨fun W' hb => VV.out l.f2 A6 c6 W' (.inr rfl) (hbT HB.out hb) (Kd.F_below HL.out.F6 hb) HL.out.l6⟩
  have HR : Aside0 (litV sz tabs σ l = ((valT sz tabs σ l.f1 == valT sz tabs σ l.f2) == l.f0)) := ⟨rfl⟩
  clear x0 x1 x2 x3 x4 x5 x6 m0 m1 f0 VV
  generalize valT sz tabs σ l.f1 = a1 at *
  generalize valT sz tabs σ l.f2 = a2 at *
  (refine wq_draws (by kernel_rfl) (by kernel_rfl) ?_; (repeat (refine wq_step (fun K hK => ?_); go_simp; first | (refine hK _ ?_; clear hK K) | (apply Exists.intro; refine ⟨fun _ => ?_, hK _ ?_⟩; ((first | (with_reducible refine Calls.regrown_of (S1.out _ (below_regrown _ _ _))) | (with_reducible refine Calls.regrown_of (S2.out _ (below_regrown _ _ _))))); clear hK K))); refine wq_nil ?_; intro W2 hbW2)
  have HBW := Aside0.mk (hbT HB.out hbW2)
  clear hbW2 q0 q1 q2 q3 q4 q5 q6 q7 q8 q9 S1 S2
  go_wp2
  go_ret
  exact ⟨ret_bool HR.out.symm, HBW.out⟩
end Go.Proofs.Ytcgnpmjkeifokaa
-- K77
/- The digits of a number tell all that variables can be; plain laws. -/
namespace Go.Proofs.Ytcgnpmjkeifokaa
open Go.RowKit Go.Proofs.YtcgnpmjkeifokaaW.PrintWords
set_option linter.unusedVariables false
set_option linter.unusedSimpArgs false
def dgN (sz n : Int) : Nat → Int
  | 0 => n
  | k + 1 => dgN sz n k / sz
def dgM (sz : Int) (vs : List Int) (n : Int) : Nat → List (Int × Int)
  | 0 => []
  | k + 1 => mset (dgM sz vs n k) (vs.getD k 0) (dgN sz n k % sz)
theorem dgM_get {sz : Int} {vs : List Int} (hn : vs.Nodup) (n : Int) : ∀ (k : Nat), k ≤ vs.length → ∀ j (hj : j < k) (hl : j < vs.length), mgetI (dgM sz vs n k) vs[j] = dgN sz n j % sz
  | 0, _, j, hj, _ => by omega
  | k + 1, hk, j, hj, hl => by
    have e : vs.getD k 0 = vs[k] := by simp [List.getD_eq_getElem?_getD, show k < vs.length by omega]
    unfold mgetI
    rw [dgM, mget_set, e]
    by_cases h : j = k
    · subst h
      rw [if_pos rfl]; rfl
    · rw [if_neg (fun e2 => h ((List.getElem_inj hn).1 e2).symm)]
      exact dgM_get hn n k (by omega) j (by omega) hl
theorem dgN_bd {sz n : Int} (hs : 1 ≤ sz) (hn : 0 ≤ n) : ∀ k, 0 ≤ dgN sz n k ∧ dgN sz n k ≤ n
  | 0 => ⟨hn, Int.le_refl _⟩
  | k + 1 => by
    obtain ⟨a, b⟩ := dgN_bd hs hn k
    have h := IntWalk.tdiv_le (dgN sz n k) sz a hs
    rw [dgN]
    omega
theorem dgN_shift (sz n : Int) : ∀ k, dgN sz (n / sz) k = dgN sz n (k+1)
  | 0 => rfl
  | k + 1 => by rw [dgN, dgN_shift sz n k]; rfl
/-- Whatever the digits are to be, there is a number that has them. -/
theorem dg_all {sz : Int} (hs : 1 ≤ sz) : ∀ (ds : List Int), (∀ d ∈ ds, 0 ≤ d ∧ d < sz) → ∃ n, 0 ≤ n ∧ n < powI sz ds.length ∧ ∀ j (hj : j < ds.length), dgN sz n j % sz = ds[j]
  | [], _ => ⟨0, Int.le_refl _, by rw [List.length_nil, powI]; decide, fun j hj => by simp at hj⟩
  | d :: ds, h => by
    obtain ⟨n, h0, h1, h2⟩ := dg_all hs ds (fun x hx => h x (by simp [hx]))
    have hd := h d (by simp)
    have a1 : 0 ≤ n * sz := Int.mul_nonneg h0 (by omega)
    have a2 : (n + 1) * sz ≤ powI sz ds.length * sz := Int.mul_le_mul_of_nonneg_right (by omega) (by omega)
    rw [Int.add_mul, Int.one_mul] at a2
    have hq : (n * sz + d) / sz = n := by
      rw [Int.add_comm, Int.add_mul_ediv_right _ _ (by omega), Int.ediv_eq_zero_of_lt hd.1 hd.2]; omega
    have hr : (n * sz + d) % sz = d := by
      rw [Int.add_comm, Int.add_mul_emod_self_right]; exact Int.emod_eq_of_lt hd.1 hd.2
    refine ⟨n * sz + d, by omega, by rw [List.length_cons, powI]; omega, fun j hj => ?_⟩
    cases j with
    | zero => exact hr
    | succ j =>
      rw [← dgN_shift, hq]
      exact h2 j (by simpa using hj)
end Go.Proofs.Ytcgnpmjkeifokaa
-- KSub
/- Subsumption, plain laws: it is reflexive on clauses that are right, and transitive. -/
namespace Go.Proofs.Ytcgnpmjkeifokaa
open Go.RowKit Go.Proofs.YtcgnpmjkeifokaaW.PrintWords
set_option linter.unusedVariables false
set_option linter.unusedSimpArgs false
mutual
def subT (σ : Int → Tm) : Tm → Tm
  | ⟨v, f, l⟩ => if 0 < v then σ v else ⟨0, f, subL σ l⟩
def subL (σ : Int → Tm) : List Tm → List Tm
  | [] => []
  | t :: ts => subT σ t :: subL σ ts
end
theorem subT_eq (σ : Int → Tm) (t : Tm) : subT σ t = if 0 < t.f0 then σ t.f0 else ⟨0, t.f1, subL σ t.f2⟩ := by cases t; rw [subT]
theorem subL_len (σ : Int → Tm) (l : List Tm) : (subL σ l).length = l.length := by
  induction l with
  | nil => simp [subL]
  | cons t ts ih => simp [subL, ih]
theorem subT_comp (σ τ : Int → Tm) (t : Tm) : subT τ (subT σ t) = subT (fun v => subT τ (σ v)) t := by
  refine Tm.rec (motive_1 := fun t => subT τ (subT σ t) = subT (fun v => subT τ (σ v)) t) (motive_2 := fun l => subL τ (subL σ l) = subL (fun v => subT τ (σ v)) l) ?_ ?_ ?_ t
  · intro v f l ih
    rw [subT, subT]
    by_cases h : 0 < v
    · rw [if_pos h, if_pos h]
    · rw [if_neg h, if_neg h, subT, if_neg (by decide), ih]
  · rw [subL, subL, subL]
  · intro t ts h1 h2
    rw [subL, subL, subL, h1, h2]
def Ext (m : List (Int × Tm)) (σ : Int → Tm) : Prop := ∀ v u, mget m v = some u → σ v = u
def Inc (m m' : List (Int × Tm)) : Prop := ∀ v u, mget m v = some u → mget m' v = some u
theorem Inc.refl (m : List (Int × Tm)) : Inc m m := fun _ _ h => h
theorem Inc.trans {a b c : List (Int × Tm)} (h : Inc a b) (k : Inc b c) : Inc a c := fun v u e => k v u (h v u e)
theorem Ext.of {m m' : List (Int × Tm)} {σ : Int → Tm} (h : Ext m' σ) (k : Inc m m') : Ext m σ := fun v u e => h v u (k v u e)
theorem inc_push {m : List (Int × Tm)} (v : Int) (t : Tm) : Inc m (m ++ [(v, t)]) := fun _ _ h => mget_prefix h
theorem grow_sound (p : Tm) : ∀ (t : Tm) (m m' : List (Int × Tm)), growT m p t = (m', true) → Inc m m' ∧ ∀ σ, Ext m' σ → subT σ p = t := by
  refine Tm.rec (motive_1 := fun p => ∀ (t : Tm) (m m' : List (Int × Tm)), growT m p t = (m', true) → Inc m m' ∧ ∀ σ, Ext m' σ → subT σ p = t)
    (motive_2 := fun l => ∀ (ts : List Tm) (m m' : List (Int × Tm)), l.length = ts.length → growL m l ts = (m', true) → Inc m m' ∧ ∀ σ, Ext m' σ → subL σ l = ts) ?_ ?_ ?_ p
  · intro v f l ih t m m' h
    rw [growT] at h
    by_cases hv : 0 < v
    · rw [if_pos hv] at h
      cases hg : mget m v with
      | some u =>
        rw [hg] at h
        simp only [Prod.mk.injEq] at h
        obtain ⟨rfl, he⟩ := h
        refine ⟨Inc.refl _, fun σ hσ => ?_⟩
        rw [subT, if_pos hv, hσ v u hg]
        exact (eqT_iff u t).1 he
      | none =>
        rw [hg] at h
        simp only [Prod.mk.injEq] at h
        obtain ⟨rfl, _⟩ := h
        refine ⟨inc_push v t, fun σ hσ => ?_⟩
        rw [subT, if_pos hv]
        refine hσ v t ?_
        rw [mget_append hg, mget, if_pos rfl]
    · rw [if_neg hv] at h
      by_cases hc : t.f0 = 0 ∧ f = t.f1 ∧ l.length = t.f2.length
      · rw [if_pos hc] at h
        obtain ⟨h1, h2⟩ := ih t.f2 m m' hc.2.2 h
        refine ⟨h1, fun σ hσ => ?_⟩
        rw [subT, if_neg hv, h2 σ hσ]
        obtain ⟨a, b, c⟩ := t
        obtain ⟨e1, e2, _⟩ := hc
        simp only at e1 e2
        subst e1 e2
        rfl
      · rw [if_neg hc] at h
        simp at h
  · intro ts m m' hl h
    cases ts with
    | nil => rw [growL] at h; simp only [Prod.mk.injEq] at h; obtain ⟨rfl, _⟩ := h; exact ⟨Inc.refl _, fun σ _ => by rw [subL]⟩
    | cons a b => simp at hl
  · intro t ts h1 h2 us m m' hl h
    cases us with
    | nil => simp at hl
    | cons u us =>
      rw [growL] at h
      by_cases hb : (growT m t u).2 = true
      · rw [if_pos hb] at h
        obtain ⟨a1, a2⟩ := h1 u m (growT m t u).1 (by rw [← hb])
        obtain ⟨b1, b2⟩ := h2 us _ m' (by simpa using hl) h
        exact ⟨a1.trans b1, fun σ hσ => by rw [subL, a2 σ (hσ.of b1), b2 σ hσ]⟩
      · rw [if_neg hb] at h
        simp at h
theorem grow_complete (σ : Int → Tm) (p : Tm) : ∀ (m : List (Int × Tm)), Ext m σ → (growT m p (subT σ p)).2 = true ∧ Ext (growT m p (subT σ p)).1 σ := by
  refine Tm.rec (motive_1 := fun p => ∀ (m : List (Int × Tm)), Ext m σ → (growT m p (subT σ p)).2 = true ∧ Ext (growT m p (subT σ p)).1 σ)
    (motive_2 := fun l => ∀ (m : List (Int × Tm)), Ext m σ → (growL m l (subL σ l)).2 = true ∧ Ext (growL m l (subL σ l)).1 σ) ?_ ?_ ?_ p
  · intro v f l ih m hm
    rw [growT]
    by_cases hv : 0 < v
    · rw [if_pos hv, subT, if_pos hv]
      cases hg : mget m v with
      | some u => exact ⟨(eqT_iff _ _).2 (hm v u hg).symm, hm⟩
      | none =>
        refine ⟨rfl, fun v' u' h => ?_⟩
        cases hg2 : mget m v' with
        | some u2 => rw [mget_prefix hg2] at h; injection h with h; subst h; exact hm v' _ hg2
        | none =>
          rw [mget_append hg2, mget] at h
          by_cases e : v = v'
          · rw [if_pos e] at h; injection h with h; rw [← e]; exact h
          · rw [if_neg e] at h; cases h
    · rw [if_neg hv, subT, if_neg hv, if_pos ⟨rfl, rfl, (subL_len σ l).symm⟩]
      exact ih m hm
  · intro m hm
    rw [subL, growL]
    exact ⟨rfl, hm⟩
  · intro t ts h1 h2 m hm
    obtain ⟨a, b⟩ := h1 m hm
    rw [subL, growL, if_pos a]
    exact h2 _ b
/-- A literal put in is one of d. -/
def Hits (σ : Int → Tm) (l : Li) (d : List Li) : Prop := ∃ x ∈ d, x.f0 = l.f0 ∧ ((subT σ l.f1 = x.f1 ∧ subT σ l.f2 = x.f2) ∨ (subT σ l.f1 = x.f2 ∧ subT σ l.f2 = x.f1))
theorem covR_iff {m : List (Int × Tm)} {l y : Li} {R : List (Int × Tm) → Bool} : covR m l R y = true ↔ y.f0 = l.f0 ∧ (growT m l.f1 y.f1).2 = true ∧ (growT (growT m l.f1 y.f1).1 l.f2 y.f2).2 = true ∧ R (growT (growT m l.f1 y.f1).1 l.f2 y.f2).1 = true := by
  unfold covR covQ
  simp only [Bool.and_eq_true, beq_iff_eq]
theorem cov_sound (d : List Li) : ∀ (cl : List Li) (m : List (Int × Tm)), covB cl d m = true → ∃ m', Inc m m' ∧ ∀ σ, Ext m' σ → ∀ l ∈ cl, Hits σ l d
  | [], m, _ => ⟨m, Inc.refl _, fun _ _ l hl => by cases hl⟩
  | l :: ls, m, h => by
    rw [covB_cons, List.any_eq_true] at h
    obtain ⟨x, hx, h⟩ := h
    have key : ∀ y, (y = x ∨ y = turnL x) → covR m l (covB ls d) y = true → ∃ m', Inc m m' ∧ ∀ σ, Ext m' σ → ∀ l' ∈ l :: ls, Hits σ l' d := by
      intro y hy hc
      obtain ⟨c0, c1, c2, c3⟩ := covR_iff.1 hc
      obtain ⟨a1, a2⟩ := grow_sound l.f1 y.f1 m _ (Prod.ext rfl c1)
      obtain ⟨b1, b2⟩ := grow_sound l.f2 y.f2 _ _ (Prod.ext rfl c2)
      obtain ⟨m', i, hm'⟩ := cov_sound d ls _ c3
      refine ⟨m', (a1.trans b1).trans i, fun σ hσ l' hl' => ?_⟩
      cases hl' with
      | head =>
        have e1 := a2 σ ((hσ.of i).of b1)
        have e2 := b2 σ (hσ.of i)
        rcases hy with rfl | rfl
        · exact ⟨y, hx, c0, .inl ⟨e1, e2⟩⟩
        · exact ⟨x, hx, c0, .inr ⟨e1, e2⟩⟩
      | tail _ hl' => exact hm' σ hσ l' hl'
    simp only [List.any_cons, List.any_nil, Bool.or_false, Bool.or_eq_true] at h
    rcases h with h | h
    · exact key _ (.inl rfl) h
    · exact key _ (.inr rfl) h
theorem cov_complete (σ : Int → Tm) (d : List Li) : ∀ (cl : List Li) (m : List (Int × Tm)), Ext m σ → (∀ l ∈ cl, Hits σ l d) → covB cl d m = true
  | [], m, _, _ => by rw [covB]
  | l :: ls, m, hm, h => by
    obtain ⟨x, hx, h0, h1⟩ := h l (by simp)
    rw [covB_cons, List.any_eq_true]
    refine ⟨x, hx, ?_⟩
    have key : ∀ y : Li, y.f0 = l.f0 → subT σ l.f1 = y.f1 → subT σ l.f2 = y.f2 → covR m l (covB ls d) y = true := by
      intro y e0 e1 e2
      rw [covR_iff, ← e1, ← e2]
      obtain ⟨a1, a2⟩ := grow_complete σ l.f1 m hm
      obtain ⟨b1, b2⟩ := grow_complete σ l.f2 _ a2
      exact ⟨e0, a1, b1, cov_complete σ d ls _ b2 (fun l' hl' => h l' (by simp [hl']))⟩
    simp only [List.any_cons, List.any_nil, Bool.or_false, Bool.or_eq_true]
    rcases h1 with ⟨e1, e2⟩ | ⟨e1, e2⟩
    · exact .inl (key x h0 e1 e2)
    · exact .inr (key (turnL x) h0 e1 e2)
theorem ext_nil (σ : Int → Tm) : Ext [] σ := fun _ _ h => by cases h
theorem cov_iff (c d : List Li) : covB c d [] = true ↔ ∃ σ, ∀ l ∈ c, Hits σ l d := by
  constructor
  · intro h
    obtain ⟨m', _, hm⟩ := cov_sound d c [] h
    exact ⟨fun v => (mget m' v).getD zTm, hm _ (fun v u e => by show (mget m' v).getD zTm = u; rw [e]; rfl)⟩
  · rintro ⟨σ, h⟩
    exact cov_complete σ d c [] (ext_nil σ) h
theorem cov_trans {a b c : List Li} (h1 : covB a b [] = true) (h2 : covB b c [] = true) : covB a c [] = true := by
  rw [cov_iff] at *
  obtain ⟨σ, hσ⟩ := h1
  obtain ⟨τ, hτ⟩ := h2
  refine ⟨fun v => subT τ (σ v), fun l hl => ?_⟩
  obtain ⟨x, hx, e0, e⟩ := hσ l hl
  obtain ⟨y, hy, f0, f⟩ := hτ x hx
  refine ⟨y, hy, f0.trans e0, ?_⟩
  rw [← subT_comp, ← subT_comp]
  rcases e with ⟨p, q⟩ | ⟨p, q⟩ <;> rw [p, q]
  · exact f
  · exact f.symm.imp (fun h => ⟨h.2, h.1⟩) (fun h => ⟨h.2, h.1⟩)
def idS (v : Int) : Tm := ⟨v, 0, []⟩
theorem sub_id (g : List Int) (t : Tm) : formE g t = 0 → subT idS t = t := by
  refine Tm.rec (motive_1 := fun t => formE g t = 0 → subT idS t = t) (motive_2 := fun l => formEL g l = 0 → subL idS l = l) ?_ ?_ ?_ t
  · intro v f l ih hf
    have hp := formE_parts hf
    rw [formE, if_neg (by simpa using hp.1)] at hf
    rw [subT]
    by_cases hv : 0 < v
    · rw [if_pos hv]
      unfold partE at hf
      rw [if_pos (show v ≠ 0 by omega)] at hf
      split at hf
      · split at hf
        · rename_i h; have hl0 : l = [] := List.length_eq_zero_iff.1 h.1; have hf0 : f = 0 := h.2; subst hl0; subst hf0; rfl
        · cases hf
      · cases hf
    · have h0 : v = 0 := by have h2 : 0 ≤ v := hp.2; omega
      rw [if_neg hv, ih hp.1, h0]
  · intro _; rw [subL]
  · intro t ts h1 h2 hf
    rw [formEL] at hf
    by_cases hl : formE g t = 0
    · rw [if_neg (by simpa using hl)] at hf
      rw [subL, h1 hl, h2 hf]
    · rw [if_pos hl] at hf; exact absurd hf hl
theorem cov_refl {g : List Int} {c : List Li} (h : ∀ t ∈ tmsL c, formE g t = 0) : covB c c [] = true := by
  rw [cov_iff]
  refine ⟨idS, fun l hl => ⟨l, hl, rfl, .inl ?_⟩⟩
  have h2 := tms_mem1 hl
  exact ⟨sub_id g _ (h _ h2.1), sub_id g _ (h _ h2.2)⟩
end Go.Proofs.Ytcgnpmjkeifokaa
-- K78
/- Values of what is put in; plain laws. -/
namespace Go.Proofs.Ytcgnpmjkeifokaa
open Go.RowKit Go.Proofs.YtcgnpmjkeifokaaW.PrintWords
set_option linter.unusedVariables false
set_option linter.unusedSimpArgs false
theorem val_sub (sz : Int) (tabs : List (List Int)) (σ : Int → Int) (τ : Int → Tm) (t : Tm) : valT sz tabs σ (subT τ t) = valT sz tabs (fun v => valT sz tabs σ (τ v)) t := by
  refine Tm.rec (motive_1 := fun t => valT sz tabs σ (subT τ t) = valT sz tabs (fun v => valT sz tabs σ (τ v)) t) (motive_2 := fun l => ∀ acc, valL sz tabs σ acc (subL τ l) = valL sz tabs (fun v => valT sz tabs σ (τ v)) acc l) ?_ ?_ ?_ t
  · intro v f l ih
    rw [subT, valT]
    by_cases hv : 0 < v
    · rw [if_pos hv, if_pos hv]
    · rw [if_neg hv, if_neg hv, valT, if_neg (by decide), ih]
  · intro acc; rw [subL, valL, valL]
  · intro t ts h1 h2 acc
    rw [subL, valL, valL, h1, h2]
/-- What subsumes, holds less often: where the one holds with what is put in, the other one does. -/
theorem hits_lit {sz : Int} {tabs : List (List Int)} {σ : Int → Int} {τ : Int → Tm} {l : Li} {d : List Li} (h : Hits τ l d) (hl : litV sz tabs (fun v => valT sz tabs σ (τ v)) l = true) : d.any (litV sz tabs σ) = true := by
  obtain ⟨x, hx, h0, h1⟩ := h
  refine List.any_eq_true.2 ⟨x, hx, ?_⟩
  unfold litV at hl ⊢
  rw [← val_sub, ← val_sub] at hl
  rw [h0]
  rcases h1 with ⟨p, q⟩ | ⟨p, q⟩
  · rw [p, q] at hl; exact hl
  · rw [p, q] at hl
    rw [show (valT sz tabs σ x.f1 == valT sz tabs σ x.f2) = (valT sz tabs σ x.f2 == valT sz tabs σ x.f1) from by rw [Bool.eq_iff_iff, beq_iff_eq, beq_iff_eq]; exact eq_comm]
    exact hl
/-- Values agree where the variables do. -/
theorem val_congr (sz : Int) (tabs : List (List Int)) (σ σ' : Int → Int) (t : Tm) : (∀ x ∈ ptsT t, 0 < x.f0 → σ x.f0 = σ' x.f0) → valT sz tabs σ t = valT sz tabs σ' t := by
  refine Tm.rec (motive_1 := fun t => (∀ x ∈ ptsT t, 0 < x.f0 → σ x.f0 = σ' x.f0) → valT sz tabs σ t = valT sz tabs σ' t) (motive_2 := fun l => (∀ x ∈ ptsL l, 0 < x.f0 → σ x.f0 = σ' x.f0) → ∀ acc, valL sz tabs σ acc l = valL sz tabs σ' acc l) ?_ ?_ ?_ t
  · intro v f l ih h
    rw [valT, valT]
    by_cases hv : 0 < v
    · rw [if_pos hv, if_pos hv]; exact h ⟨v, f, l⟩ (by rw [ptsT]; simp) hv
    · rw [if_neg hv, if_neg hv, ih (fun x hx => h x (by rw [ptsT]; exact List.mem_append.2 (.inl hx)))]
  · intro _ acc; rw [valL, valL]
  · intro t ts h1 h2 h acc
    rw [valL, valL, h1 (fun x hx => h x (by rw [ptsL]; exact List.mem_append.2 (.inl hx))), h2 (fun x hx => h x (by rw [ptsL]; exact List.mem_append.2 (.inr hx)))]
/-- What is always so holds. -/
theorem alw_holds {sz : Int} {tabs : List (List Int)} {σ : Int → Int} {c : List Li} (h : alwB c = true) : c.any (litV sz tabs σ) = true := by
  obtain ⟨l, hl, h⟩ := List.any_eq_true.1 h
  unfold alwO at h
  rw [Bool.and_eq_true, Bool.or_eq_true] at h
  obtain ⟨h0, h⟩ := h
  rcases h with h | h
  · refine List.any_eq_true.2 ⟨l, hl, ?_⟩
    unfold litV
    rw [(eqT_iff _ _).1 h, h0]; simp
  · obtain ⟨x, hx, h⟩ := List.any_eq_true.1 h
    unfold alwI at h
    rw [Bool.and_eq_true, sidesB_iff] at h
    cases hv : litV sz tabs σ l with
    | true => exact List.any_eq_true.2 ⟨l, hl, hv⟩
    | false =>
      refine List.any_eq_true.2 ⟨x, hx, ?_⟩
      unfold litV at hv ⊢
      have hx0 : x.f0 = false := by simpa using h.1
      rw [h0] at hv
      rw [hx0]
      have hne : (valT sz tabs σ l.f1 == valT sz tabs σ l.f2) = false := by simpa using hv
      have hne2 : valT sz tabs σ l.f1 ≠ valT sz tabs σ l.f2 := by simpa using hne
      rcases h.2 with ⟨p, q⟩ | ⟨p, q⟩
      · rw [p, q, hne]; rfl
      · rw [p, q, show (valT sz tabs σ l.f2 == valT sz tabs σ l.f1) = false from by simpa using hne2.symm]; rfl
end Go.Proofs.Ytcgnpmjkeifokaa
-- K79
/- model.Holds: the digits laid (probe). -/
namespace Go.Proofs.Ytcgnpmjkeifokaa
open Go.RowKit Go.Proofs.YtcgnpmjkeifokaaW.PrintWords
set_option linter.unusedVariables false
set_option linter.unusedSimpArgs false
/-- Does a clause hold for the number n? -/
def hldN (sz : Int) (tabs : List (List Int)) (vs : List Int) (c : List Li) (n : Int) : Bool := c.any (litV sz tabs (mgetI (dgM sz vs n vs.length)))
/-- Does a clause hold for all numbers below k? -/
def hldK (sz : Int) (tabs : List (List Int)) (vs : List Int) (c : List Li) : Nat → Bool
  | 0 => true
  | k + 1 => hldK sz tabs vs c k && hldN sz tabs vs c k
theorem hldK_iff {sz : Int} {tabs : List (List Int)} {vs : List Int} {c : List Li} : ∀ {k : Nat}, hldK sz tabs vs c k = true ↔ ∀ n : Nat, n < k → hldN sz tabs vs c n = true
  | 0 => by simp [hldK]
  | k + 1 => by
    rw [hldK, Bool.and_eq_true, hldK_iff]
    constructor
    · rintro ⟨h1, h2⟩ n hn
      by_cases h : n = k
      · subst h; exact h2
      · exact h1 n (by omega)
    · intro h
      exact ⟨fun n hn => h n (by omega), h k (by omega)⟩
/-- What Holds answers. -/
def hldE (g : List Int) (sz : Int) (tabs : List (List Int)) (c : List Li) : Int :=
  if mdE g sz tabs ≠ 0 then mdE g sz tabs else if chkCs g [c] ≠ 0 then chkCs g [c] else if 8 < (stL [] (tmsL c)).length then 2 else 0
def hldB (g : List Int) (sz : Int) (tabs : List (List Int)) (c : List Li) : Bool :=
  if hldE g sz tabs c = 0 then hldK sz tabs (stL [] (tmsL c)) c (powI sz (stL [] (tmsL c)).length).toNat else false
end Go.Proofs.Ytcgnpmjkeifokaa
-- KTid
/- Tidied twice is tidied once, and what is tidied is right; plain laws. -/
namespace Go.Proofs.Ytcgnpmjkeifokaa
open Go.RowKit Go.Proofs.YtcgnpmjkeifokaaW.PrintWords
set_option linter.unusedVariables false
set_option linter.unusedSimpArgs false
theorem nodup_bound : ∀ (n : Nat) (l : List Int), l.Nodup → (∀ x ∈ l, 1 ≤ x ∧ x ≤ n) → l.length ≤ n
  | 0, l, _, h => by
    cases l with
    | nil => exact Nat.le_refl _
    | cons a l => have := h a (by simp); omega
  | n + 1, l, hn, h => by
    by_cases hm : ((n : Int) + 1) ∈ l
    · have h1 := nodup_bound n (l.erase ((n : Int) + 1)) (hn.erase _) (fun x hx => by
        rw [hn.mem_erase_iff] at hx
        have := h x hx.2
        have := hx.1
        omega)
      rw [List.length_erase, if_pos hm] at h1
      omega
    · have := nodup_bound n l hn (fun x hx => by
        have h2 := h x hx
        have : x ≠ (n : Int) + 1 := fun e => hm (e ▸ hx)
        omega)
      omega
/-! ### terms whose variables are among vs, and that are right -/
mutual
def inV (vs : List Int) : Tm → Prop
  | ⟨v, f, l⟩ => (v ≠ 0 → (v ∈ vs ∧ 0 < v ∧ f = 0 ∧ l = [])) ∧ inVL vs l
def inVL (vs : List Int) : List Tm → Prop
  | [] => True
  | t :: ts => inV vs t ∧ inVL vs ts
end
theorem inVL_mem {vs : List Int} : ∀ {l : List Tm}, inVL vs l ↔ ∀ t ∈ l, inV vs t
  | [] => by rw [inVL]; simp
  | t :: ts => by rw [inVL, inVL_mem]; simp
/-- The number of a variable. -/
def ren (m : List (Int × Tm)) (v : Int) : Int := (mgetT m v).f0
/-- m numbers vs. -/
structure Num (m : List (Int × Tm)) (vs : List Int) : Prop where
  get : ∀ v ∈ vs, mget m v = some ⟨ren m v, 0, []⟩
  pos : ∀ v ∈ vs, 1 ≤ ren m v ∧ ren m v ≤ vs.length
  inj : ∀ v ∈ vs, ∀ u ∈ vs, ren m v = ren m u → v = u
theorem app_inV {m : List (Int × Tm)} {vs : List Int} (hN : Num m vs) {v : Int} (hv : v ∈ vs) (h0 : 0 < v) : appT m ⟨v, 0, []⟩ = ⟨ren m v, 0, []⟩ := by
  rw [appT, if_pos h0, hN.get v hv]; rfl
theorem app_sz {m : List (Int × Tm)} {vs : List Int} (hN : Num m vs) (t : Tm) : inV vs t → szT (appT m t) = szT t := by
  refine Tm.rec (motive_1 := fun t => inV vs t → szT (appT m t) = szT t) (motive_2 := fun l => inVL vs l → szL (appL m l) = szL l) ?_ ?_ ?_ t
  · intro v f l ih h
    rw [inV] at h
    by_cases hv : v = 0
    · rw [appT, if_neg (by omega), szT, szT, ih h.2]
    · obtain ⟨h1, h2, rfl, rfl⟩ := h.1 hv
      rw [app_inV hN h1 h2]
      rfl
  · intro _; rw [appL]
  · intro t ts h1 h2 h
    rw [inVL] at h
    rw [appL, szL, szL, h1 h.1, h2 h.2]
theorem app_form {g : List Int} {m : List (Int × Tm)} {vs : List Int} (hN : Num m vs) (hl : vs.length ≤ 1000) (t : Tm) : inV vs t → formE g t = 0 → formE g (appT m t) = 0 := by
  refine Tm.rec (motive_1 := fun t => inV vs t → formE g t = 0 → formE g (appT m t) = 0) (motive_2 := fun l => inVL vs l → formEL g l = 0 → formEL g (appL m l) = 0) ?_ ?_ ?_ t
  · intro v f l ih h hf
    rw [inV] at h
    by_cases hv : v = 0
    · subst hv
      have hp := formE_parts hf
      rw [formE, if_neg (by simpa using hp.1)] at hf
      rw [appT, if_neg (by omega), formE, ih h.2 hp.1]
      unfold partE at hf ⊢
      simp only [appL_len]
      exact hf
    · obtain ⟨h1, h2, rfl, rfl⟩ := h.1 hv
      rw [app_inV hN h1 h2]
      have := hN.pos v h1
      rw [formE, formEL]
      unfold partE
      simp only [ne_eq, not_true_eq_false, if_false, List.length_nil]
      rw [if_pos (show ren m v ≠ 0 by omega), if_pos ⟨this.1, by omega⟩]
      simp
  · intro _ _; rw [appL, formEL]
  · intro t ts h1 h2 h hf
    rw [inVL] at h
    rw [formEL] at hf
    by_cases hl : formE g t = 0
    · rw [if_neg (by simpa using hl)] at hf
      rw [appL, formEL, h1 h.1 hl, h2 h.2 hf]; simp
    · rw [if_pos hl] at hf; exact absurd hf hl
theorem app_inj {m : List (Int × Tm)} {vs : List Int} (hN : Num m vs) (t : Tm) : ∀ u, inV vs t → inV vs u → appT m t = appT m u → t = u := by
  refine Tm.rec (motive_1 := fun t => ∀ u, inV vs t → inV vs u → appT m t = appT m u → t = u) (motive_2 := fun l => ∀ k, inVL vs l → inVL vs k → appL m l = appL m k → l = k) ?_ ?_ ?_ t
  · intro v f l ih u h hu e
    obtain ⟨v', f', l'⟩ := u
    rw [inV] at h hu
    by_cases hv : v = 0
    · by_cases hv' : v' = 0
      · subst hv hv'
        rw [appT, appT, if_neg (by omega), if_neg (by omega)] at e
        injection e with e1 e2 e3
        rw [e2, ih l' h.2 hu.2 e3]
      · obtain ⟨h1, h2, rfl, rfl⟩ := hu.1 hv'
        subst hv
        rw [app_inV hN h1 h2, appT, if_neg (by omega)] at e
        injection e with e1
        have := hN.pos v' h1
        omega
    · obtain ⟨h1, h2, rfl, rfl⟩ := h.1 hv
      rw [app_inV hN h1 h2] at e
      by_cases hv' : v' = 0
      · subst hv'
        rw [appT, if_neg (by omega)] at e
        injection e with e1
        have := hN.pos v h1
        omega
      · obtain ⟨h1', h2', rfl, rfl⟩ := hu.1 hv'
        rw [app_inV hN h1' h2'] at e
        injection e with e1
        rw [hN.inj v h1 v' h1' e1]
  · intro k _ hk e
    cases k with
    | nil => rfl
    | cons a b => simp [appL] at e
  · intro t ts h1 h2 k h hk e
    cases k with
    | nil => simp [appL] at e
    | cons a b =>
      rw [inVL] at h hk
      rw [appL, appL] at e
      injection e with e1 e2
      rw [h1 a h.1 hk.1 e1, h2 b h.2 hk.2 e2]
theorem app_eqT {m : List (Int × Tm)} {vs : List Int} (hN : Num m vs) {t u : Tm} (ht : inV vs t) (hu : inV vs u) : eqT (appT m t) (appT m u) = eqT t u := by
  rw [Bool.eq_iff_iff, eqT_iff, eqT_iff]
  exact ⟨app_inj hN t u ht hu, fun e => by rw [e]⟩
/-! ### what stays, stays -/
def NoDrop (c : List Li) : Prop := ∀ k, k < c.length → dropB (c.take k) (rd_Li c k) = false
theorem NoDrop.kpt {c : List Li} (h : NoDrop c) : ∀ k, k ≤ c.length → kpt c k = c.take k
  | 0, _ => rfl
  | k + 1, hk => by
    rw [kpt_f (h k (by omega)), NoDrop.kpt h k (by omega), List.take_succ_eq_append_getElem (by omega), rdLi_get c k (by omega)]
theorem NoDrop.all {c : List Li} (h : NoDrop c) : Go.Proofs.Ytcgnpmjkeifokaa.kpt c c.length = c := by rw [h.kpt c.length (Nat.le_refl _), List.take_length]
theorem NoDrop.push {c : List Li} {l : Li} (h : NoDrop c) (hl : dropB c l = false) : NoDrop (c ++ [l]) := by
  intro k hk
  rw [List.length_append, List.length_singleton] at hk
  by_cases hkc : k < c.length
  · have := h k hkc
    rw [rdLi_get _ _ (by simp; omega), List.take_append_of_le_length (by omega), List.getElem_append_left hkc]
    rwa [rdLi_get _ _ hkc] at this
  · obtain rfl : k = c.length := by omega
    rw [rdLi_get _ _ (by simp), List.take_left']
    · simpa using hl
    · rfl
theorem kpt_nodrop (c : List Li) : ∀ k, k ≤ c.length → NoDrop (kpt c k)
  | 0, _ => fun k hk => by simp [kpt] at hk
  | k + 1, hk => by
    have ih := kpt_nodrop c k (by omega)
    cases hd : dropB (c.take k) (rd_Li c k) with
    | true => rw [kpt_t hd]; exact ih
    | false =>
      rw [kpt_f hd]
      refine ih.push ?_
      unfold dropB at hd ⊢
      rw [Bool.or_eq_false_iff] at hd ⊢
      refine ⟨hd.1, ?_⟩
      rw [Bool.eq_false_iff]
      intro h
      obtain ⟨y, hy, hq⟩ := List.any_eq_true.1 h
      have hy2 := (nkp_kpt c k (by omega)).2.2 y hy
      have : (c.take k).any (dupQ (rd_Li c k)) = true := List.any_eq_true.2 ⟨y, hy2, hq⟩
      rw [this] at hd
      exact absurd hd.2 (by simp)
def inC (vs : List Int) (c : List Li) : Prop := ∀ l ∈ c, inV vs l.f1 ∧ inV vs l.f2
theorem app_dup {m : List (Int × Tm)} {vs : List Int} (hN : Num m vs) {x l : Li} (hx : inV vs x.f1 ∧ inV vs x.f2) (hl : inV vs l.f1 ∧ inV vs l.f2) : dupQ ⟨l.f0, appT m l.f1, appT m l.f2⟩ ⟨x.f0, appT m x.f1, appT m x.f2⟩ = dupQ l x := by
  unfold dupQ sidesB
  simp only
  rw [app_eqT hN hx.1 hl.1, app_eqT hN hx.2 hl.2, app_eqT hN hx.1 hl.2, app_eqT hN hx.2 hl.1]
theorem app_nodrop {m : List (Int × Tm)} {vs : List Int} (hN : Num m vs) {c : List Li} (hc : inC vs c) (h : NoDrop c) : NoDrop (appC m c) := by
  intro k hk
  rw [appC_len] at hk
  have h1 := h k hk
  have hm : c[k] ∈ c := List.getElem_mem hk
  rw [rdLi_get _ _ hk] at h1
  have e1 : rd_Li (appC m c) k = ⟨c[k].f0, appT m c[k].f1, appT m c[k].f2⟩ := by rw [rdLi_get _ _ (by rw [appC_len]; exact hk)]; simp [appC]
  have e2 : (appC m c).take k = (c.take k).map (fun l => ⟨l.f0, appT m l.f1, appT m l.f2⟩) := by unfold appC; rw [List.map_take]
  rw [e1, e2]
  unfold dropB at h1 ⊢
  rw [Bool.or_eq_false_iff] at h1 ⊢
  refine ⟨?_, ?_⟩
  · have := h1.1
    unfold trivN at this ⊢
    simp only
    rwa [app_eqT hN (hc _ hm).1 (hc _ hm).2]
  · rw [Bool.eq_false_iff]
    intro hq
    obtain ⟨y, hy, hq⟩ := List.any_eq_true.1 hq
    obtain ⟨x, hx, rfl⟩ := List.mem_map.1 hy
    rw [app_dup hN (hc x (List.mem_of_mem_take hx)) (hc _ hm)] at hq
    have : (c.take k).any (dupQ c[k]) = true := List.any_eq_true.2 ⟨x, hx, hq⟩
    rw [this] at h1
    exact absurd h1.2 (by simp)
end Go.Proofs.Ytcgnpmjkeifokaa
-- KTie
/- Tidied twice is tidied once: the variables' numbers; plain laws. -/
namespace Go.Proofs.Ytcgnpmjkeifokaa
open Go.RowKit Go.Proofs.YtcgnpmjkeifokaaW.PrintWords
set_option linter.unusedVariables false
set_option linter.unusedSimpArgs false
theorem numK_get {vs : List Int} (hn : vs.Nodup) : ∀ (k : Nat), k ≤ vs.length → ∀ j (hj : j < k) (hl : j < vs.length), mget (bds (numK vs k)) vs[j] = some ⟨(j : Int) + 1, 0, []⟩
  | 0, _, j, hj, _ => by omega
  | k + 1, hk, j, hj, hl => by
    rw [numK, bds_append]
    by_cases h : j < k
    · exact mget_prefix (numK_get hn k (by omega) j h hl)
    · obtain rfl : j = k := by omega
      have e : vs.getD j 0 = vs[j] := by simp [List.getD_eq_getElem?_getD, hl]
      have h1 := numK_new hn hl
      rw [e] at h1
      rw [mget_append h1, bds_one, mget, if_pos e]
theorem num_at {vs : List Int} (hn : vs.Nodup) (j : Nat) (hj : j < vs.length) : mget (bds (numB vs)) vs[j] = some ⟨(j : Int) + 1, 0, []⟩ := numK_get hn vs.length (Nat.le_refl _) j hj hj
theorem ren_at {vs : List Int} (hn : vs.Nodup) (j : Nat) (hj : j < vs.length) : ren (bds (numB vs)) vs[j] = (j : Int) + 1 := by
  unfold ren mgetT
  rw [num_at hn j hj]; rfl
theorem num_ok {vs : List Int} (hn : vs.Nodup) : Num (bds (numB vs)) vs where
  get := fun v hv => by
    obtain ⟨j, hj, rfl⟩ := List.getElem_of_mem hv
    rw [num_at hn j hj, ren_at hn j hj]
  pos := fun v hv => by
    obtain ⟨j, hj, rfl⟩ := List.getElem_of_mem hv
    rw [ren_at hn j hj]; omega
  inj := fun v hv u hu e => by
    obtain ⟨j, hj, rfl⟩ := List.getElem_of_mem hv
    obtain ⟨i, hi, rfl⟩ := List.getElem_of_mem hu
    rw [ren_at hn j hj, ren_at hn i hi] at e
    obtain rfl : j = i := by omega
    rfl
/-! ### the variables of what is put in -/
theorem pts_inV {vs : List Int} (t : Tm) : inV vs t → ∀ y ∈ ptsT t, inV vs y := by
  refine Tm.rec (motive_1 := fun t => inV vs t → ∀ y ∈ ptsT t, inV vs y) (motive_2 := fun l => inVL vs l → ∀ y ∈ ptsL l, inV vs y) ?_ ?_ ?_ t
  · intro v f l ih h y hy
    rw [ptsT, List.mem_append] at hy
    rcases hy with hy | hy
    · rw [inV] at h; exact ih h.2 y hy
    · obtain rfl : y = ⟨v, f, l⟩ := by simpa using hy
      exact h
  · intro _ y hy; rw [ptsL] at hy; cases hy
  · intro t ts h1 h2 h y hy
    rw [inVL] at h
    rw [ptsL, List.mem_append] at hy
    rcases hy with hy | hy
    · exact h1 h.1 y hy
    · exact h2 h.2 y hy
theorem pts_app {m : List (Int × Tm)} {vs : List Int} (hN : Num m vs) (t : Tm) : inV vs t → ptsT (appT m t) = (ptsT t).map (appT m) := by
  refine Tm.rec (motive_1 := fun t => inV vs t → ptsT (appT m t) = (ptsT t).map (appT m)) (motive_2 := fun l => inVL vs l → ptsL (appL m l) = (ptsL l).map (appT m)) ?_ ?_ ?_ t
  · intro v f l ih h
    have h0 := h
    rw [inV] at h
    by_cases hv : v = 0
    · subst hv
      rw [ptsT, List.map_append, ← ih h.2]
      rw [show List.map (appT m) [⟨0, f, l⟩] = [appT m ⟨0, f, l⟩] from rfl]
      rw [appT, if_neg (by omega), ptsT]
    · obtain ⟨h1, h2, rfl, rfl⟩ := h.1 hv
      rw [app_inV hN h1 h2, ptsT, ptsT, ptsL]
      show [_] = [appT m _]
      rw [app_inV hN h1 h2]
  · intro _; rw [appL, ptsL]; rfl
  · intro t ts h1 h2 h
    rw [inVL] at h
    rw [appL, ptsL, ptsL, List.map_append, h1 h.1, h2 h.2]
theorem fvP_app {m : List (Int × Tm)} {vs : List Int} (hN : Num m vs) : ∀ (P : List Tm) (s : List Int), (∀ x ∈ P, inV vs x) → (∀ v ∈ s, v ∈ vs) → fvP (s.map (ren m)) (P.map (appT m)) = (fvP s P).map (ren m) ∧ ∀ v ∈ fvP s P, v ∈ vs
  | [], s, _, hs => ⟨rfl, hs⟩
  | x :: P, s, hP, hs => by
    have e1 : ∀ s, fvP s (x :: P) = fvP (stepV s x) P := fun _ => rfl
    have e2 : fvP (s.map (ren m)) ((x :: P).map (appT m)) = fvP (stepV (s.map (ren m)) (appT m x)) (P.map (appT m)) := rfl
    have hx := hP x (by simp)
    have key : stepV (s.map (ren m)) (appT m x) = (stepV s x).map (ren m) ∧ ∀ v ∈ stepV s x, v ∈ vs := by
      obtain ⟨v, f, l⟩ := x
      rw [inV] at hx
      by_cases hv : v = 0
      · subst hv
        rw [appT, if_neg (by omega)]
        unfold stepV
        simp only [Int.lt_irrefl, false_and, if_false]
        exact ⟨trivial, hs⟩
      · obtain ⟨h1, h2, rfl, rfl⟩ := hx.1 hv
        rw [app_inV hN h1 h2]
        have hp := hN.pos v h1
        have hh : hasB (s.map (ren m)) (ren m v) = hasB s v := by
          rw [Bool.eq_iff_iff, hasB_iff, hasB_iff, List.mem_map]
          constructor
          · rintro ⟨u, hu, e⟩
            rw [← hN.inj u (hs u hu) v h1 e]; exact hu
          · intro h; exact ⟨v, h, rfl⟩
        unfold stepV
        simp only [hh]
        by_cases hb : hasB s v = false
        · rw [if_pos ⟨by omega, hb⟩, if_pos ⟨h2, hb⟩]
          refine ⟨by simp, fun u hu => ?_⟩
          rw [List.mem_append] at hu
          rcases hu with hu | hu
          · exact hs u hu
          · obtain rfl : u = v := by simpa using hu
            exact h1
        · rw [if_neg (fun h => hb h.2), if_neg (fun h => hb h.2)]
          exact ⟨rfl, hs⟩
    rw [e1, e2, key.1]
    exact fvP_app hN P _ (fun y hy => hP y (by simp [hy])) key.2
theorem fvL_app {m : List (Int × Tm)} {vs : List Int} (hN : Num m vs) : ∀ (l : List Tm) (s : List Int), (∀ x ∈ l, inV vs x) → (∀ v ∈ s, v ∈ vs) → fvL (s.map (ren m)) (l.map (appT m)) = (fvL s l).map (ren m)
  | [], s, _, _ => rfl
  | t :: ts, s, hl, hs => by
    have ht := hl t (by simp)
    have h := fvP_app hN (ptsT t) s (pts_inV t ht) hs
    rw [List.map_cons, fvL, fvL, pts_app hN t ht, h.1]
    exact fvL_app hN ts _ (fun x hx => hl x (by simp [hx])) h.2
theorem tms_app (m : List (Int × Tm)) (c : List Li) : tmsL (appC m c) = (tmsL c).map (appT m) := by
  induction c with
  | nil => rfl
  | cons l c ih =>
    have e : appC m (l :: c) = ⟨l.f0, appT m l.f1, appT m l.f2⟩ :: appC m c := rfl
    rw [e, tmsL, tmsL, ih]; rfl
/-! ### all variables are told -/
theorem stepV_sub (s : List Int) (x : Tm) : ∀ v ∈ s, v ∈ stepV s x := by
  intro v hv; unfold stepV; split
  · exact List.mem_append.2 (.inl hv)
  · exact hv
theorem stepV_has (s : List Int) (x : Tm) (h : 0 < x.f0) : x.f0 ∈ stepV s x := by
  unfold stepV
  cases hb : hasB s x.f0 with
  | false => rw [if_pos ⟨h, rfl⟩]; simp
  | true => rw [if_neg (by simp)]; exact hasB_iff.1 hb
theorem stepV_from (s : List Int) (x : Tm) : ∀ v ∈ stepV s x, v ∈ s ∨ (v = x.f0 ∧ 0 < v) := by
  intro v hv
  unfold stepV at hv
  split at hv
  · rename_i h
    rw [List.mem_append] at hv
    rcases hv with hv | hv
    · exact .inl hv
    · obtain rfl : v = x.f0 := by simpa using hv
      exact .inr ⟨rfl, h.1⟩
  · exact .inl hv
theorem fvP_sub : ∀ (P : List Tm) (s : List Int), ∀ v ∈ s, v ∈ fvP s P
  | [], _, v, hv => hv
  | x :: P, s, v, hv => fvP_sub P (stepV s x) v (stepV_sub s x v hv)
theorem fvP_has : ∀ (P : List Tm) (s : List Int), ∀ x ∈ P, 0 < x.f0 → x.f0 ∈ fvP s P
  | y :: P, s, x, hx, h => by
    have e : fvP s (y :: P) = fvP (stepV s y) P := rfl
    rw [e]
    cases hx with
    | head => exact fvP_sub P _ _ (stepV_has s _ h)
    | tail _ hx => exact fvP_has P _ x hx h
theorem fvP_from : ∀ (P : List Tm) (s : List Int), ∀ v ∈ fvP s P, v ∈ s ∨ ∃ x ∈ P, v = x.f0 ∧ 0 < v
  | [], _, v, hv => .inl hv
  | x :: P, s, v, hv => by
    rcases fvP_from P (stepV s x) v hv with h | ⟨y, hy, h⟩
    · rcases stepV_from s x v h with h | h
      · exact .inl h
      · exact .inr ⟨x, by simp, h⟩
    · exact .inr ⟨y, by simp [hy], h⟩
theorem fvL_sub : ∀ (l : List Tm) (s : List Int), ∀ v ∈ s, v ∈ fvL s l
  | [], _, v, hv => hv
  | t :: ts, s, v, hv => by rw [fvL]; exact fvL_sub ts _ v (fvP_sub _ s v hv)
theorem fvL_has : ∀ (l : List Tm) (s : List Int), ∀ t ∈ l, ∀ x ∈ ptsT t, 0 < x.f0 → x.f0 ∈ fvL s l
  | u :: ts, s, t, ht, x, hx, h => by
    rw [fvL]
    cases ht with
    | head => exact fvL_sub ts _ _ (fvP_has _ s x hx h)
    | tail _ ht => exact fvL_has ts _ t ht x hx h
theorem fvL_from : ∀ (l : List Tm) (s : List Int), ∀ v ∈ fvL s l, v ∈ s ∨ ∃ t ∈ l, ∃ x ∈ ptsT t, v = x.f0 ∧ 0 < v
  | [], _, v, hv => .inl hv
  | t :: ts, s, v, hv => by
    rw [fvL] at hv
    rcases fvL_from ts _ v hv with h | ⟨u, hu, x, hx, h⟩
    · rcases fvP_from _ s v h with h | ⟨x, hx, h⟩
      · exact .inl h
      · exact .inr ⟨t, by simp, x, hx, h⟩
    · exact .inr ⟨u, by simp [hu], x, hx, h⟩
theorem form_part {g : List Int} (t : Tm) : formE g t = 0 → ∀ x ∈ ptsT t, formE g x = 0 := by
  refine Tm.rec (motive_1 := fun t => formE g t = 0 → ∀ x ∈ ptsT t, formE g x = 0) (motive_2 := fun l => formEL g l = 0 → ∀ x ∈ ptsL l, formE g x = 0) ?_ ?_ ?_ t
  · intro v f l ih h x hx
    rw [ptsT, List.mem_append] at hx
    rcases hx with hx | hx
    · exact ih (formE_parts h).1 x hx
    · obtain rfl : x = ⟨v, f, l⟩ := by simpa using hx
      exact h
  · intro _ x hx; rw [ptsL] at hx; cases hx
  · intro t ts h1 h2 h x hx
    rw [formEL] at h
    by_cases hl : formE g t = 0
    · rw [if_neg (by simpa using hl)] at h
      rw [ptsL, List.mem_append] at hx
      rcases hx with hx | hx
      · exact h1 hl x hx
      · exact h2 h x hx
    · rw [if_pos hl] at h; exact absurd h hl
/-- A variable that is right. -/
theorem form_var {g : List Int} {t : Tm} (h : formE g t = 0) (hv : t.f0 ≠ 0) : 1 ≤ t.f0 ∧ t.f0 ≤ 1000 ∧ t.f1 = 0 ∧ t.f2 = [] := by
  have hp := formE_parts h
  rw [formE_eq, if_neg (by simpa using hp.1)] at h
  unfold partE at h
  rw [if_pos hv] at h
  by_cases h1 : 1 ≤ t.f0 ∧ t.f0 ≤ 1000
  · rw [if_pos h1] at h
    by_cases h2 : t.f2.length = 0 ∧ t.f1 = 0
    · exact ⟨h1.1, h1.2, h2.2, List.length_eq_zero_iff.1 h2.1⟩
    · rw [if_neg h2] at h; cases h
  · rw [if_neg h1] at h; cases h
theorem inV_of {g : List Int} {vs : List Int} (t : Tm) : formE g t = 0 → (∀ x ∈ ptsT t, 0 < x.f0 → x.f0 ∈ vs) → inV vs t := by
  refine Tm.rec (motive_1 := fun t => formE g t = 0 → (∀ x ∈ ptsT t, 0 < x.f0 → x.f0 ∈ vs) → inV vs t) (motive_2 := fun l => formEL g l = 0 → (∀ x ∈ ptsL l, 0 < x.f0 → x.f0 ∈ vs) → inVL vs l) ?_ ?_ ?_ t
  · intro v f l ih h hx
    rw [inV]
    refine ⟨fun hv => ?_, ih (formE_parts h).1 (fun x hy => hx x (by rw [ptsT]; exact List.mem_append.2 (.inl hy)))⟩
    obtain ⟨a, _, c, d⟩ := form_var h hv
    have a' : 0 < v := by have : 1 ≤ v := a; omega
    exact ⟨hx ⟨v, f, l⟩ (by rw [ptsT]; simp) a', a', c, d⟩
  · intro _ _; rw [inVL]; trivial
  · intro t ts h1 h2 h hx
    rw [formEL] at h
    by_cases hl : formE g t = 0
    · rw [if_neg (by simpa using hl)] at h
      rw [inVL]
      exact ⟨h1 hl (fun x hy => hx x (by rw [ptsL]; exact List.mem_append.2 (.inl hy))), h2 h (fun x hy => hx x (by rw [ptsL]; exact List.mem_append.2 (.inr hy)))⟩
    · rw [if_pos hl] at h; exact absurd h hl
theorem app_id {m : List (Int × Tm)} {vs : List Int} (hm : ∀ v ∈ vs, mget m v = some ⟨v, 0, []⟩) (t : Tm) : inV vs t → appT m t = t := by
  refine Tm.rec (motive_1 := fun t => inV vs t → appT m t = t) (motive_2 := fun l => inVL vs l → appL m l = l) ?_ ?_ ?_ t
  · intro v f l ih h
    rw [inV] at h
    by_cases hv : v = 0
    · subst hv
      rw [appT, if_neg (by omega), ih h.2]
    · obtain ⟨h1, h2, rfl, rfl⟩ := h.1 hv
      rw [appT, if_pos h2, hm v h1]; rfl
  · intro _; rw [appL]
  · intro t ts h1 h2 h
    rw [inVL] at h
    rw [appL, h1 h.1, h2 h.2]
/-- Tidied twice is tidied once; and what is tidied is right. -/
theorem tidy_fix {g : List Int} {a : List Li} (h0 : chkCs g [a] = 0) : chkCs g [tidyL a] = 0 ∧ tidyL (tidyL a) = tidyL a := by
  have hk := chkCs_ok h0 a (by simp)
  have hf : ∀ t ∈ tmsL (kpt a a.length), formE g t = 0 := fun t ht => okC_tms hk.2 t (tms_kpt ht)
  have hs : ∀ l ∈ kpt a a.length, okT g l.f1 ∧ okT g l.f2 := fun l hl => hk.2 l (kpt_mem hl)
  have hlen : (kpt a a.length).length ≤ 8 := Nat.le_trans (kpt_len a a.length) hk.1
  have hnd := kpt_nodrop a a.length (Nat.le_refl _)
  have hT : tidyL a = tidyK (kpt a a.length) := rfl
  generalize kpt a a.length = s at *
  have hV : ∀ t ∈ tmsL s, inV (fvL [] (tmsL s)) t := fun t ht => inV_of t (hf t ht) (fun x hx hp => fvL_has _ [] t ht x hx hp)
  have hn : (fvL [] (tmsL s)).Nodup := fvL_nodup _ _ List.nodup_nil
  have hb : ∀ v ∈ fvL [] (tmsL s), 1 ≤ v ∧ v ≤ (1000 : Nat) := by
    intro v hv
    rcases fvL_from _ [] v hv with h | ⟨t, ht, x, hx, rfl, hp⟩
    · cases h
    · have := form_var (form_part t (hf t ht) x hx) (by omega)
      omega
  have hl : (fvL [] (tmsL s)).length ≤ 1000 := nodup_bound 1000 _ hn hb
  have hK : tidyK s = appC (bds (numB (fvL [] (tmsL s)))) s := rfl
  generalize hvs : fvL [] (tmsL s) = vs at *
  have hN := num_ok hn
  generalize hm : bds (numB vs) = m at *
  have hC : inC vs s := fun l hl => ⟨hV _ (tms_mem1 hl).1, hV _ (tms_mem1 hl).2⟩
  have hfv : fvL [] (tmsL (appC m s)) = vs.map (ren m) := by
    rw [tms_app]
    have := fvL_app hN (tmsL s) [] hV (fun v hv => by cases hv)
    rw [hvs] at this
    exact this
  rw [hT, hK]
  constructor
  · have hlc : (appC m s).length ≤ 8 := by rw [appC_len]; exact hlen
    have hsg : sigE g = 0 := by
      unfold chkCs at h0
      by_cases h1 : sigE g = 0
      · exact h1
      · rw [if_pos h1] at h0; exact absurd h0 h1
    unfold chkCs
    rw [if_neg (by simpa using hsg), if_neg (by simp)]
    refine fe_of (fun c hc => ?_)
    obtain rfl : c = appC m s := by simpa using hc
    unfold chkC
    rw [if_neg (by omega)]
    refine fe_of (fun l hl2 => ?_)
    unfold appC at hl2
    obtain ⟨x, hx, rfl⟩ := List.mem_map.1 hl2
    have h1 : ∀ t, inV vs t → okT g t → chkT g (appT m t) = 0 := fun t ht hok => chkT_ok.2 ⟨by rw [app_sz hN t ht]; exact hok.1, app_form hN hl t ht hok.2⟩
    unfold chkLi
    simp only
    rw [h1 _ (hC x hx).1 (hs x hx).1, h1 _ (hC x hx).2 (hs x hx).2]
    simp
  · have hnd2 := app_nodrop hN hC hnd
    have e1 : tidyL (appC m s) = tidyK (appC m s) := by unfold tidyL; rw [hnd2.all]
    rw [e1]
    have e2 : tidyK (appC m s) = appC (bds (numB (fvL [] (tmsL (appC m s))))) (appC m s) := rfl
    rw [e2]
    have hn2 : (fvL [] (tmsL (appC m s))).Nodup := fvL_nodup _ _ List.nodup_nil
    rw [hfv] at hn2 ⊢
    have hid : ∀ v ∈ vs.map (ren m), mget (bds (numB (vs.map (ren m)))) v = some ⟨v, 0, []⟩ := by
      intro v hv
      obtain ⟨j, hj, rfl⟩ := List.getElem_of_mem hv
      rw [num_at hn2 j hj]
      have hj2 : j < vs.length := by simpa using hj
      have : (vs.map (ren m))[j] = (j : Int) + 1 := by
        rw [List.getElem_map]
        subst hm
        exact ren_at hn j hj2
      rw [this]
    have hin : ∀ t, inV vs t → inV (vs.map (ren m)) (appT m t) := by
      intro t
      refine Tm.rec (motive_1 := fun t => inV vs t → inV (vs.map (ren m)) (appT m t)) (motive_2 := fun l => inVL vs l → inVL (vs.map (ren m)) (appL m l)) ?_ ?_ ?_ t
      · intro v f l ih h
        rw [inV] at h
        by_cases hv : v = 0
        · subst hv
          rw [appT, if_neg (by omega), inV]
          exact ⟨fun h => absurd rfl h, ih h.2⟩
        · obtain ⟨h1, h2, rfl, rfl⟩ := h.1 hv
          rw [app_inV hN h1 h2, inV, inVL]
          have := hN.pos v h1
          exact ⟨fun _ => ⟨List.mem_map.2 ⟨v, h1, rfl⟩, by omega, rfl, rfl⟩, trivial⟩
      · intro _; rw [appL, inVL]; trivial
      · intro t ts h1 h2 h
        rw [inVL] at h
        rw [appL, inVL]
        exact ⟨h1 h.1, h2 h.2⟩
    show (appC m s).map _ = appC m s
    have : ∀ l ∈ appC m s, (⟨l.f0, appT (bds (numB (vs.map (ren m)))) l.f1, appT (bds (numB (vs.map (ren m)))) l.f2⟩ : Li) = l := by
      intro l hl2
      unfold appC at hl2
      obtain ⟨x, hx, rfl⟩ := List.mem_map.1 hl2
      simp only
      rw [app_id hid _ (hin _ (hC x hx).1), app_id hid _ (hin _ (hC x hx).2)]
    exact (List.map_congr_left this).trans (List.map_id _)
end Go.Proofs.Ytcgnpmjkeifokaa
-- K80
/- A clause holds in a model: for all numbers, for all that variables can be; subsumption, tidying; plain laws. -/
namespace Go.Proofs.Ytcgnpmjkeifokaa
open Go.RowKit Go.Proofs.YtcgnpmjkeifokaaW.PrintWords
set_option linter.unusedVariables false
set_option linter.unusedSimpArgs false
theorem any_cg {α : Type} {p q : α → Bool} : ∀ {c : List α}, (∀ l ∈ c, p l = q l) → c.any p = c.any q
  | [], _ => rfl
  | l :: c, h => by rw [List.any_cons, List.any_cons, h l (by simp), any_cg (fun x hx => h x (by simp [hx]))]
theorem lit_congr {sz : Int} {tabs : List (List Int)} {σ σ' : Int → Int} {c : List Li} (h : ∀ t ∈ tmsL c, ∀ x ∈ ptsT t, 0 < x.f0 → σ x.f0 = σ' x.f0) : c.any (litV sz tabs σ) = c.any (litV sz tabs σ') :=
  any_cg fun l hl => by
    unfold litV
    rw [val_congr sz tabs σ σ' l.f1 (h _ (tms_mem1 hl).1), val_congr sz tabs σ σ' l.f2 (h _ (tms_mem1 hl).2)]
def BdC (sz : Int) (σ : Int → Int) (c : List Li) : Prop := ∀ t ∈ tmsL c, ∀ x ∈ ptsT t, 0 < x.f0 → 0 ≤ σ x.f0 ∧ σ x.f0 < sz
theorem okC_form {g : List Int} {c : List Li} (h : chkCs g [c] = 0) : ∀ t ∈ tmsL c, formE g t = 0 := okC_tms (chkCs_ok h c (by simp)).2
theorem hld_all {g : List Int} {sz : Int} {tabs : List (List Int)} {c : List Li} (hs : 1 ≤ sz) (hc : chkCs g [c] = 0) (h : hldK sz tabs (stL [] (tmsL c)) c (powI sz (stL [] (tmsL c)).length).toNat = true) (σ : Int → Int) (hσ : BdC sz σ c) : c.any (litV sz tabs σ) = true := by
  rw [stL_fvL g _ (okC_form hc)] at h
  have hn : (fvL [] (tmsL c)).Nodup := fvL_nodup _ _ List.nodup_nil
  have hb : ∀ v ∈ fvL [] (tmsL c), 0 ≤ σ v ∧ σ v < sz := by
    intro v hv
    rcases fvL_from _ [] v hv with h | ⟨t, ht, x, hx, rfl, hp⟩
    · cases h
    · exact hσ t ht x hx hp
  obtain ⟨n, n0, n1, hd⟩ := dg_all hs ((fvL [] (tmsL c)).map σ) (fun d hd => by obtain ⟨v, hv, rfl⟩ := List.mem_map.1 hd; exact hb v hv)
  rw [List.length_map] at n1
  have h2 := hldK_iff.1 h n.toNat (by omega)
  unfold hldN at h2
  rw [Int.toNat_of_nonneg n0] at h2
  rw [← h2]
  refine lit_congr fun t ht x hx hp => ?_
  have hv := fvL_has _ [] t ht x hx hp
  obtain ⟨j, hj, e⟩ := List.getElem_of_mem hv
  rw [← e, dgM_get hn n _ (Nat.le_refl _) j hj hj, hd j (by simpa using hj), List.getElem_map]
theorem hld_of {g : List Int} {sz : Int} {tabs : List (List Int)} {c : List Li} (hs : 1 ≤ sz) (hc : chkCs g [c] = 0) (h : ∀ σ : Int → Int, (∀ v, 0 ≤ σ v ∧ σ v < sz) → c.any (litV sz tabs σ) = true) (k : Nat) : hldK sz tabs (stL [] (tmsL c)) c k = true := by
  rw [stL_fvL g _ (okC_form hc), hldK_iff]
  intro n _
  have hn : (fvL [] (tmsL c)).Nodup := fvL_nodup _ _ List.nodup_nil
  unfold hldN
  rw [← h (fun v => mgetI (dgM sz (fvL [] (tmsL c)) n (fvL [] (tmsL c)).length) v % sz) (fun v => ⟨Int.emod_nonneg _ (by omega), Int.emod_lt_of_pos _ (by omega)⟩)]
  refine lit_congr fun t ht x hx hp => ?_
  have hv := fvL_has _ [] t ht x hx hp
  obtain ⟨j, hj, e⟩ := List.getElem_of_mem hv
  rw [← e, dgM_get hn n _ (Nat.le_refl _) j hj hj]
  exact (Int.emod_emod_of_dvd _ (Int.dvd_refl sz)).symm
/-! ### subsumption -/
theorem sub_form {g : List Int} {τ : Int → Tm} (t : Tm) : formE g t = 0 → formE g (subT τ t) = 0 → ∀ x ∈ ptsT t, 0 < x.f0 → formE g (τ x.f0) = 0 := by
  refine Tm.rec (motive_1 := fun t => formE g t = 0 → formE g (subT τ t) = 0 → ∀ x ∈ ptsT t, 0 < x.f0 → formE g (τ x.f0) = 0) (motive_2 := fun l => formEL g l = 0 → formEL g (subL τ l) = 0 → ∀ x ∈ ptsL l, 0 < x.f0 → formE g (τ x.f0) = 0) ?_ ?_ ?_ t
  · intro v f l ih hf h x hx hp
    rw [subT] at h
    rw [ptsT, List.mem_append] at hx
    by_cases hv : 0 < v
    · rw [if_pos hv] at h
      have h3 := form_var hf (show (⟨v, f, l⟩ : Tm).f0 ≠ 0 by show v ≠ 0; omega)
      have hl : l = [] := h3.2.2.2
      subst hl
      rw [ptsL] at hx
      rcases hx with hx | hx
      · cases hx
      · obtain rfl : x = ⟨v, f, []⟩ := by simpa using hx
        exact h
    · rw [if_neg hv] at h
      rcases hx with hx | hx
      · exact ih (formE_parts hf).1 (formE_parts h).1 x hx hp
      · obtain rfl : x = ⟨v, f, l⟩ := by simpa using hx
        exact absurd hp hv
  · intro _ _ x hx; rw [ptsL] at hx; cases hx
  · intro t ts h1 h2 hf h x hx hp
    rw [subL] at h
    rw [formEL] at hf h
    by_cases hl : formE g t = 0
    · rw [if_neg (by simpa using hl)] at hf
      by_cases hl2 : formE g (subT τ t) = 0
      · rw [if_neg (by simpa using hl2)] at h
        rw [ptsL, List.mem_append] at hx
        rcases hx with hx | hx
        · exact h1 hl hl2 x hx hp
        · exact h2 hf h x hx hp
      · rw [if_pos hl2] at h; exact absurd h hl2
    · rw [if_pos hl] at hf; exact absurd hf hl
theorem hang_sub {g : List Int} {sz : Int} {tabs : List (List Int)} {c d : List Li} (hM : MdOk g sz tabs) (hc : chkCs g [c] = 0) (hd : chkCs g [d] = 0) (hs : covB c d [] = true)
    (hx : hldK sz tabs (stL [] (tmsL c)) c (powI sz (stL [] (tmsL c)).length).toNat = true) (k : Nat) : hldK sz tabs (stL [] (tmsL d)) d k = true := by
  obtain ⟨τ, hτ⟩ := (cov_iff c d).1 hs
  refine hld_of hM.lo hd (fun σ hσ => ?_) k
  have hb : BdC sz (fun v => valT sz tabs σ (τ v)) c := by
    intro t ht x hxp hp
    obtain ⟨l, hl, ht2⟩ := tmsL_mem ht
    obtain ⟨y, hy, _, e⟩ := hτ l hl
    have h1 : formE g (subT τ t) = 0 := by
      have hy2 := tms_mem1 hy
      rcases ht2 with rfl | rfl <;> rcases e with ⟨p, q⟩ | ⟨p, q⟩
      · rw [p]; exact okC_form hd _ hy2.1
      · rw [p]; exact okC_form hd _ hy2.2
      · rw [q]; exact okC_form hd _ hy2.2
      · rw [q]; exact okC_form hd _ hy2.1
    exact val_bd hM _ (sub_form t (okC_form hc t ht) h1 x hxp hp) (fun z _ _ => hσ _)
  have h := hld_all hM.lo hc hx _ hb
  obtain ⟨l, hl, hv⟩ := List.any_eq_true.1 h
  exact hits_lit (hτ l hl) hv
/-! ### tidying -/
theorem nodup_sub : ∀ {a b : List Int}, a.Nodup → (∀ x ∈ a, x ∈ b) → a.length ≤ b.length
  | [], _, _, _ => by simp
  | x :: a, b, hn, h => by
    have hx : x ∈ b := h x (by simp)
    have hn2 := List.nodup_cons.1 hn
    have h1 := nodup_sub (a := a) (b := b.erase x) hn2.2 (fun y hy => by
      have hne : y ≠ x := fun e => hn2.1 (e ▸ hy)
      exact (List.mem_erase_of_ne hne).2 (h y (by simp [hy])))
    rw [List.length_erase, if_pos hx] at h1
    have : 0 < b.length := List.length_pos_of_mem hx
    rw [List.length_cons]; omega
theorem val_app {sz : Int} {tabs : List (List Int)} {σ : Int → Int} {m : List (Int × Tm)} {vs : List Int} (hN : Num m vs) (t : Tm) : inV vs t → valT sz tabs σ (appT m t) = valT sz tabs (fun v => σ (ren m v)) t := by
  refine Tm.rec (motive_1 := fun t => inV vs t → valT sz tabs σ (appT m t) = valT sz tabs (fun v => σ (ren m v)) t) (motive_2 := fun l => inVL vs l → ∀ acc, valL sz tabs σ acc (appL m l) = valL sz tabs (fun v => σ (ren m v)) acc l) ?_ ?_ ?_ t
  · intro v f l ih h
    rw [inV] at h
    by_cases hv : v = 0
    · subst hv
      rw [appT, if_neg (by omega), valT, valT, if_neg (by omega), if_neg (by omega), ih h.2]
    · obtain ⟨h1, h2, rfl, rfl⟩ := h.1 hv
      have hp := hN.pos v h1
      rw [app_inV hN h1 h2, valT, valT, if_pos (by omega), if_pos h2]
  · intro _ acc; rw [appL, valL, valL]
  · intro t ts h1 h2 h acc
    rw [inVL] at h
    rw [appL, valL, valL, h1 h.1, h2 h.2]
theorem tidy_facts {g : List Int} {a : List Li} (h0 : chkCs g [a] = 0) : ∃ vs m, vs = fvL [] (tmsL (kpt a a.length)) ∧ vs.Nodup ∧ m = bds (numB vs) ∧ inC vs (kpt a a.length) ∧ tidyL a = appC m (kpt a a.length) ∧ fvL [] (tmsL (tidyL a)) = vs.map (ren m) := by
  have hk := chkCs_ok h0 a (by simp)
  have hf : ∀ t ∈ tmsL (kpt a a.length), formE g t = 0 := fun t ht => okC_tms hk.2 t (tms_kpt ht)
  have hV : ∀ t ∈ tmsL (kpt a a.length), inV (fvL [] (tmsL (kpt a a.length))) t := fun t ht => inV_of t (hf t ht) (fun x hx hp => fvL_has _ [] t ht x hx hp)
  have hn : (fvL [] (tmsL (kpt a a.length))).Nodup := fvL_nodup _ _ List.nodup_nil
  have hT : tidyL a = appC (bds (numB (fvL [] (tmsL (kpt a a.length))))) (kpt a a.length) := rfl
  refine ⟨_, _, rfl, hn, rfl, fun l hl => ⟨hV _ (tms_mem1 hl).1, hV _ (tms_mem1 hl).2⟩, hT, ?_⟩
  rw [hT, tms_app]
  exact fvL_app (num_ok hn) _ [] hV (fun v hv => by cases hv)
theorem tidy_vars {g : List Int} {a : List Li} (h0 : chkCs g [a] = 0) : (stL [] (tmsL (tidyL a))).length ≤ (stL [] (tmsL a)).length := by
  rw [stL_fvL g _ (okC_form h0), stL_fvL g _ (okC_form (tidy_fix h0).1)]
  obtain ⟨vs, m, e1, hn, _, _, _, e2⟩ := tidy_facts h0
  rw [e2, List.length_map]
  refine nodup_sub hn (fun v hv => ?_)
  rw [e1] at hv
  rcases fvL_from _ [] v hv with h | ⟨t, ht, x, hx, rfl, hp⟩
  · cases h
  · exact fvL_has _ [] t (tms_kpt ht) x hx hp
theorem hang_tidy {g : List Int} {sz : Int} {tabs : List (List Int)} {c : List Li} (hM : MdOk g sz tabs) (hc : chkCs g [c] = 0) :
    hldK sz tabs (stL [] (tmsL (tidyL c))) (tidyL c) (powI sz (stL [] (tmsL (tidyL c))).length).toNat = hldK sz tabs (stL [] (tmsL c)) c (powI sz (stL [] (tmsL c)).length).toNat := by
  obtain ⟨vs, m, e1, hn, hm, hC, hT, e2⟩ := tidy_facts hc
  have hN : Num m vs := by subst hm; exact num_ok hn
  have hfix := (tidy_fix hc).1
  have hlit : ∀ (σ : Int → Int) (y : Li), y ∈ kpt c c.length → litV sz tabs σ ⟨y.f0, appT m y.f1, appT m y.f2⟩ = litV sz tabs (fun v => σ (ren m v)) y := by
    intro σ y hy
    unfold litV
    simp only
    rw [val_app hN _ (hC y hy).1, val_app hN _ (hC y hy).2]
  rw [Bool.eq_iff_iff]
  constructor
  · intro h
    refine hld_of hM.lo hc (fun σ hσ => ?_) _
    have h1 := hld_all hM.lo hfix h (fun k => σ (vs.getD (k.toNat - 1) 0)) (fun _ _ _ _ _ => hσ _)
    rw [hT] at h1
    obtain ⟨l, hl, hv⟩ := List.any_eq_true.1 h1
    unfold appC at hl
    obtain ⟨y, hy, rfl⟩ := List.mem_map.1 hl
    rw [hlit _ y hy] at hv
    refine List.any_eq_true.2 ⟨y, kpt_mem hy, ?_⟩
    rw [← hv]
    have key : ∀ t, inV vs t → ∀ x ∈ ptsT t, 0 < x.f0 → σ x.f0 = σ (vs.getD ((ren m x.f0).toNat - 1) 0) := by
      intro t ht x hx hp
      have h2 := pts_inV t ht x hx
      obtain ⟨v, f, l⟩ := x
      rw [inV] at h2
      have hp' : 0 < v := hp
      obtain ⟨j, hj, rfl⟩ := List.getElem_of_mem (h2.1 (by omega)).1
      show σ vs[j] = σ (vs.getD ((ren m vs[j]).toNat - 1) 0)
      subst hm
      rw [ren_at hn j hj, show ((j : Int) + 1).toNat - 1 = j by omega]
      congr 1
      simp [List.getD_eq_getElem?_getD, hj]
    unfold litV
    rw [val_congr sz tabs σ (fun v => σ (vs.getD ((ren m v).toNat - 1) 0)) y.f1 (key _ (hC y hy).1), val_congr sz tabs σ (fun v => σ (vs.getD ((ren m v).toNat - 1) 0)) y.f2 (key _ (hC y hy).2)]
  · intro h
    refine hld_of hM.lo hfix (fun σ hσ => ?_) _
    have h1 := hld_all hM.lo hc h (fun v => σ (ren m v)) (fun _ _ _ _ _ => hσ _)
    obtain ⟨l, hl, hv⟩ := List.any_eq_true.1 h1
    obtain ⟨_, k2, _⟩ := nkp_kpt c c.length (Nat.le_refl _)
    rw [List.take_length] at k2
    have hy : ∃ y ∈ kpt c c.length, litV sz tabs (fun v => σ (ren m v)) y = true := by
      rcases k2 l hl with ht | ⟨y, hy, hd⟩
      · exfalso
        unfold trivN at ht
        rw [Bool.and_eq_true] at ht
        unfold litV at hv
        have e0 : l.f0 = false := by simpa using ht.1
        rw [(eqT_iff _ _).1 ht.2, e0] at hv
        simp at hv
      · refine ⟨y, hy, ?_⟩
        obtain ⟨d0, d1⟩ := (dupQ_iff _ _).1 hd
        unfold litV at hv ⊢
        rw [d0]
        rcases d1 with ⟨p, q⟩ | ⟨p, q⟩
        · rw [p, q]; exact hv
        · rw [p, q, show (valT sz tabs (fun v => σ (ren m v)) l.f2 == valT sz tabs (fun v => σ (ren m v)) l.f1) = (valT sz tabs (fun v => σ (ren m v)) l.f1 == valT sz tabs (fun v => σ (ren m v)) l.f2) from by rw [Bool.eq_iff_iff, beq_iff_eq, beq_iff_eq]; exact eq_comm]
          exact hv
    obtain ⟨y, hy, hv2⟩ := hy
    rw [hT]
    refine List.any_eq_true.2 ⟨⟨y.f0, appT m y.f1, appT m y.f2⟩, ?_, ?_⟩
    · unfold appC; exact List.mem_map.2 ⟨y, hy, rfl⟩
    · rw [hlit σ y hy]; exact hv2
/-! ### the law -/
theorem hld_ok {g : List Int} {sz : Int} {tabs : List (List Int)} {c : List Li} (h : hldE g sz tabs c = 0) : mdE g sz tabs = 0 ∧ chkCs g [c] = 0 ∧ (stL [] (tmsL c)).length ≤ 8 := by
  unfold hldE at h
  by_cases h1 : mdE g sz tabs = 0
  · rw [if_neg (by simpa using h1)] at h
    by_cases h2 : chkCs g [c] = 0
    · rw [if_neg (by simpa using h2)] at h
      by_cases h3 : 8 < (stL [] (tmsL c)).length
      · rw [if_pos h3] at h; cases h
      · exact ⟨h1, h2, by omega⟩
    · rw [if_pos h2] at h; exact absurd h h2
  · rw [if_pos h1] at h; exact absurd h h1
theorem hld_is {g : List Int} {sz : Int} {tabs : List (List Int)} {c : List Li} (h1 : mdE g sz tabs = 0) (h2 : chkCs g [c] = 0) (h3 : (stL [] (tmsL c)).length ≤ 8) : hldE g sz tabs c = 0 := by
  unfold hldE
  rw [if_neg (by simpa using h1), if_neg (by simpa using h2), if_neg (by omega)]
theorem chkCs_pair {g : List Int} {a b : List Li} (h : chkCs g [a] = 0) (k : chkCs g [b] = 0) : chkCs g [a, b] = 0 := by
  unfold chkCs at *
  by_cases h1 : sigE g = 0
  · rw [if_neg (by simpa using h1), if_neg (by simp)] at h k ⊢
    refine fe_of (fun c hc => ?_)
    rcases (by simpa using hc : c = a ∨ c = b) with rfl | rfl
    · exact fe_mem h c (by simp)
    · exact fe_mem k c (by simp)
  · rw [if_pos h1] at h; exact absurd h h1
theorem hang_all {g : List Int} {sz : Int} {tabs : List (List Int)} {c d : List Li} (hx : hldE g sz tabs c = 0) (hy : hldE g sz tabs d = 0) :
    chkCs g [c, d] = 0 ∧ chkCs g [c] = 0 ∧ hldE g sz tabs (tidR g c) = 0 ∧ (hldB g sz tabs c = true → subB g c d = true → hldB g sz tabs d = true) ∧ (alwR g c = true → hldB g sz tabs c = true) ∧ hldB g sz tabs (tidR g c) = hldB g sz tabs c := by
  obtain ⟨m1, c1, v1⟩ := hld_ok hx
  obtain ⟨_, d1, w1⟩ := hld_ok hy
  have hM := md_ok m1
  have hp := chkCs_pair c1 d1
  have et : tidR g c = tidyL c := by unfold tidR; rw [if_pos c1]
  have ht : hldE g sz tabs (tidR g c) = 0 := by rw [et]; exact hld_is m1 (tidy_fix c1).1 (Nat.le_trans (tidy_vars c1) v1)
  have eB : ∀ {x : List Li}, hldE g sz tabs x = 0 → hldB g sz tabs x = hldK sz tabs (stL [] (tmsL x)) x (powI sz (stL [] (tmsL x)).length).toNat := fun h => by unfold hldB; rw [if_pos h]
  refine ⟨hp, c1, ht, fun h1 h2 => ?_, fun h => ?_, ?_⟩
  · rw [eB hx] at h1
    rw [eB hy]
    unfold subB at h2
    rw [if_pos hp] at h2
    exact hang_sub hM c1 d1 h2 h1 _
  · rw [eB hx]
    unfold alwR at h
    rw [if_pos c1] at h
    exact hld_of hM.lo c1 (fun σ _ => alw_holds h) _
  · rw [eB ht, eB hx, et]
    exact hang_tidy hM c1
end Go.Proofs.Ytcgnpmjkeifokaa
-- K81
/- model.Holds. -/
namespace Go.Proofs.Ytcgnpmjkeifokaa
open Go.RowKit Go.Proofs.YtcgnpmjkeifokaaW.PrintWords
set_option linter.unusedVariables false
set_option linter.unusedSimpArgs false
theorem hldK_bad {sz : Int} {tabs : List (List Int)} {vs : List Int} {c : List Li} {n : Nat} (h : hldN sz tabs vs c n = false) : ∀ {k : Nat}, n < k → hldK sz tabs vs c k = false
  | 0, hk => by omega
  | k + 1, hk => by
    rw [hldK]
    by_cases e : n = k
    · subst e; rw [h]; simp
    · rw [hldK_bad h (by omega)]; simp
theorem hldK_step {sz : Int} {tabs : List (List Int)} {vs : List Int} {c : List Li} {n : Nat} (h : hldN sz tabs vs c n = true) (k : hldK sz tabs vs c n = true) : hldK sz tabs vs c (n+1) = true := by rw [hldK, h, k]; rfl
theorem sizeFn : (Try.prog.info? 113).map (·.size) = some 1 := by kernel_rfl
set_option maxHeartbeats 4000000 in
set_option maxRecDepth 100000 in
theorem holds_any (g : List Int) (Ag : Option Addr) (cg : Nat) (sz : Int) (tabs : List (List Int)) (At : Option Addr) (ct : Nat) (okm : Nat → Prop) (c : List Li) (Ac : Option Addr) (cc : Nat) (okc : Nat → Prop) (w : World) (hG : Kd.C (Kd.int .i64) w Ag g.length g) (hFm : Kd.F kIs w okm At tabs.length tabs) (hF : Kd.F kLi w okc Ac c.length c) (hc : c.length ≤ cc) :
    Calls Try.prog 35 #[.agg #[.slice Ag g.length cg], .agg #[.int .i64 sz, .slice At tabs.length ct], .slice Ac c.length cc] w fun e w' => e = .returned (.tuple #[.bool (hldB g sz tabs c), .int .i64 (hldE g sz tabs c)]) ∧ Below w.heap.size w w' := by
  have hlenc := Kd.F_max hF
  have HF := Aside0.mk (Kd.F_bound hF)
  have HG := Aside0.mk hG
  have HFM := Aside0.mk hFm
  clear hF hG hFm
  have g0 := blk_alloc (newAt (w := w) (o := .cells #[.slice Ag g.length cg] 24) rfl) (.cells #[.int .i64 sz, .slice At tabs.length ct] 62)
  have g1 := newAt (w := w.alloc (.cells #[.slice Ag g.length cg] 24)) (o := .cells #[.int .i64 sz, .slice At tabs.length ct] 62) (k := w.heap.size + 1) (by simp)
  have HB := Aside0.mk (below_alloc (below_alloc (Below.refl w.heap.size w) (.cells #[.slice Ag g.length cg] 24)) (.cells #[.int .i64 sz, .slice At tabs.length ct] 62))
  go_enter Try.func35, Try.ntmps35
  go_upto_region 1 with (fail)
  generalize (w.alloc (.cells #[.slice Ag g.length cg] 24)).alloc (.cells #[.int .i64 sz, .slice At tabs.length ct] 62) = W at *
  have HS := Aside0.mk g0
  have HM := Aside0.mk g1
  clear g0 g1
  have s0 := sg_cell HS.out
  obtain ⟨m0, m1⟩ := md_cells HM.out
  go_upto_region 2 with (go_at_call 79; refine (mdCheck_any g Ag cg sz tabs At ct _ W (Kd.C_below HG.out HB.out) (Kd.F_below HFM.out HB.out)).mono ?_; rintro e w2 ⟨rfl, hb2⟩; have HB2 := Aside0.mk hb2; clear hb2 s0 m0 m1)
  have HW2 := Aside0.mk (hbT HB.out HB2.out)
  have HS2 := Aside0.mk ((HB2.out.block _ (blk_lt HS.out)).trans HS.out)
  have HM2 := Aside0.mk ((HB2.out.block _ (blk_lt HM.out)).trans HM.out)
  by_cases hm : mdE g sz tabs = 0
  · have hmb := beqT hm
    have HMD := Aside0.mk (md_ok hm)
    have HE : Aside0 (hldE g sz tabs c = if chkCs g [c] ≠ 0 then chkCs g [c] else if 8 < (stL [] (tmsL c)).length then 2 else 0) := ⟨by unfold hldE; rw [if_neg (by simpa using hm)]⟩
    clear hm
    have s0 := sg_cell HS2.out
    have HL := Aside0.mk (F_cl1 (heap_alloc_new w2 (.cells #[.slice Ac c.length cc] 26)) (Kd.F_below HF.out (below_alloc HW2.out _)) hc)
    go_upto_region 4 with (go_at_call 19; refine (clauseCheck_any g Ag cg [c] _ _ _ _ (Kd.C_below HG.out (below_alloc HW2.out _)) HL.out).mono ?_; rintro e w3 ⟨rfl, hb3⟩; have HB3 := Aside0.mk (hbA (Below.refl _ w2) _ hb3); clear hb3 s0)
    have HW3 := Aside0.mk (hbT HW2.out HB3.out)
    have HM3 := Aside0.mk ((HB3.out.block _ (blk_lt HM2.out)).trans HM2.out)
    by_cases hk : chkCs g [c] = 0
    · have hkb := bneF hk
      have HE2 : Aside0 (hldE g sz tabs c = if 8 < (stL [] (tmsL c)).length then 2 else 0) := ⟨by rw [HE.out, if_neg (by simpa using hk)]⟩
      have hok := chkCs_ok hk c (by simp)
      have hsz := okC_sz hok.2
      have HKL : Aside0 (c.length ≤ 1000000) := ⟨by have := hok.1; omega⟩
      have HKZ : Aside0 (szL (tmsL c) ≤ 1000000) := ⟨by have := hok.1; omega⟩
      have HFO : Aside0 (∀ l ∈ c, formE g l.f1 = 0 ∧ formE g l.f2 = 0) := ⟨fun l hl => ⟨(hok.2 l hl).1.2, (hok.2 l hl).2.2⟩⟩
      have HND : Aside0 ((stL [] (tmsL c)).Nodup) := ⟨by rw [stL_fvL g _ (okC_form hk)]; exact fvL_nodup _ _ List.nodup_nil⟩
      have HVV : Aside0 (∀ l ∈ c, ∀ t, (t = l.f1 ∨ t = l.f2) → ∀ x ∈ ptsT t, 0 < x.f0 → x.f0 ∈ stL [] (tmsL c)) := ⟨fun l hl t ht x hx hp => by
        rw [stL_fvL g _ (okC_form hk)]
        have h2 := tms_mem1 hl
        rcases ht with rfl | rfl
        · exact fvL_has _ [] _ h2.1 x hx hp
        · exact fvL_has _ [] _ h2.2 x hx hp⟩
      have HHB : Aside0 (hldE g sz tabs c = 0 → hldB g sz tabs c = hldK sz tabs (stL [] (tmsL c)) c (powI sz (stL [] (tmsL c)).length).toNat) := ⟨fun h => by unfold hldB; rw [if_pos h]⟩
      have HHB2 : Aside0 (hldE g sz tabs c ≠ 0 → hldB g sz tabs c = false) := ⟨fun h => by unfold hldB; rw [if_neg h]⟩
      clear hk hok hsz HE
      go_upto_region 7 with (first | (go_at_call 81; refine (terms_any c Ac cc _ w3 HKL.out (Kd.F_below HF.out HW3.out)).mono ?_; rintro e w4 ⟨A4, c4, rfl, h4, hF4, hb4⟩; have HF4 := Aside0.mk hF4; have HB4 := Aside0.mk hb4; clear hF4 hb4) | (go_at_call 80; refine (stands_any (tmsL c) A4 c4 _ w4 HKZ.out HF4.out).mono ?_; rintro e w5 ⟨v7, rfl, hN7, hb5⟩; obtain ⟨A7, c7, rfl⟩ := Kd.N_slice hN7; have HN7 := Aside0.mk (Kd.N_F hN7); have HB5 := Aside0.mk hb5; clear hN7 hb5))
      have HB35 := Aside0.mk (hbT HB4.out HB5.out)
      have HW5 := Aside0.mk (hbT HW3.out HB35.out)
      have HM5 := Aside0.mk ((HB35.out.block _ (blk_lt HM3.out)).trans HM3.out)
      generalize stL [] (tmsL c) = vs at *
      by_cases h8 : 8 < vs.length
      · have HR : Aside0 (hldE g sz tabs c = 2) := ⟨by rw [HE2.out, if_pos h8]⟩
        have HR2 : Aside0 (hldB g sz tabs c = false) := ⟨HHB2.out (by rw [HR.out]; decide)⟩
        have h8i : (8 : Int) < vs.length := by omega
        go_wp2
        go_ret2
        exact ⟨by rw [HR.out, HR2.out] <;> rfl, HW5.out⟩
      · have HR : Aside0 (hldE g sz tabs c = 0) := ⟨by rw [HE2.out, if_neg h8]⟩
        have HR2 : Aside0 (hldB g sz tabs c = hldK sz tabs vs c (powI sz vs.length).toNat) := ⟨HHB.out HR.out⟩
        have h8i : (vs.length : Int) ≤ 8 := by omega
        have hlo := HMD.out.lo
        have hhi := HMD.out.hi
        have HPB := Aside0.mk (pow_bd hlo hhi vs.length (by omega))
        clear HHB HHB2 HE2 h8
        obtain ⟨m0, m1⟩ := md_cells HM5.out
        go_wp2_with (go_at_call 82; refine (power_any sz vs.length w5 (by omega) (by omega) (by omega)).mono ?_; rintro e w6 ⟨rfl, hb6⟩; have HB6 := Aside0.mk hb6; clear hb6 m0 m1)
        have hp0 := HPB.out
        clear HPB
        generalize powI sz vs.length = p at *
        have HW6 := Aside0.mk (hbT HW5.out HB6.out)
        have HM6 := Aside0.mk ((HB6.out.block _ (blk_lt HM5.out)).trans HM5.out)
        have HF7 := Aside0.mk (Kd.F_below HN7.out HB6.out)
        go_loopw [38] (fun i wr => ∃ n : Nat, (n : Int) ≤ p ∧ i = .int .i64 n ∧ Aside0 (hldK sz tabs vs c n = true) ∧ Aside0 (Below w6.heap.size w6 wr)) (fun i _ => p.toNat - (intOf i).toNat)
        case atStart => exact ⟨0, by omega, rfl, ⟨rfl⟩, ⟨Below.refl _ _⟩⟩
        case round =>
          rename World => wo
          obtain ⟨n, hn, rfl, HK, HBo⟩ := hrel
          have HWo := Aside0.mk (hbT HW6.out HBo.out)
          by_cases hlt : (n : Int) < p
          · have HMo := Aside0.mk ((HBo.out.block _ (blk_lt HM6.out)).trans HM6.out)
            have HBm := Aside0.mk (below_alloc (below_alloc (Below.refl wo.heap.size wo) (.map #[] 0)) (.cells #[.map (some wo.heap.size)] 112))
            have HM0 := Aside0.mk (MapI.below (MapI.made wo) (below_alloc (Below.refl _ _) (.cells #[.map (some wo.heap.size)] 112)))
            have HG6 := Aside0.mk (newAt (w := wo.alloc (.map #[] 0)) (o := .cells #[.map (some wo.heap.size)] 112) (k := wo.heap.size + 1) (by simp))
            have HZo : Aside0 (w6.heap.size ≤ wo.heap.size) := ⟨HBo.out.size⟩
            have hmm := @run_makeMap Try.prog
            go_upto_region 13 with (fail)
            clear hmm
            generalize (wo.alloc (.map #[] 0)).alloc (.cells #[.map (some wo.heap.size)] 112) = W2 at *
            have HF2 := Aside0.mk (Kd.F_bound (Kd.F_below (Kd.F_below (Kd.F_bound HF7.out) HBo.out) HBm.out))
            have HM2' := Aside0.mk ((HBm.out.block _ (blk_lt HMo.out)).trans HMo.out)
            have hmo := blk_lt HMo.out
            have hdb := dgN_bd (sz := sz) (n := (n : Int)) hlo (by omega)
            have HDB := Aside0.mk hdb
            clear hdb
            go_wp2
            go_loopw [10, 44] (fun v10 i wr => ∃ (k : Nat) (q : Int), k ≤ vs.length ∧ i = .int .i64 k ∧ v10 = .int .i64 q ∧ Aside0 (q = dgN sz n k) ∧ Aside0 (MapI wr wo.heap.size (dgM sz vs n k)) ∧ Aside0 (W2.grownBy wr (some wo.heap.size))) (fun _ i _ => vs.length - (intOf i).toNat)
            case atStart => exact ⟨0, n, by omega, rfl, rfl, ⟨rfl⟩, HM0, ⟨gbOf (Below.refl _ _) _⟩⟩
            case round =>
              obtain ⟨k, q, hk, rfl, rfl, HQ, HMk, HGk⟩ := hrel
              have HG6r := Aside0.mk ((HGk.out.block _ (blk_lt HG6.out) (fun e => by injection e with e; omega)).trans HG6.out)
              have HMr := Aside0.mk ((HGk.out.block _ (blk_lt HM2'.out) (fun e => by injection e with e; omega)).trans HM2'.out)
              have hqb := HDB.out k
              rw [← HQ.out] at hqb
              by_cases hkl : k < vs.length
              · obtain ⟨ad, rfl, E0⟩ := at_Int (Kd.F_now (Kd.F_grown HF2.out HGk.out (fun q hq => fun e => by injection e with e; have := hq.1.2; have := HZo.out; omega))) (k : Int) (by omega) (by omega)
                simp only [Int.toNat_natCast] at E0
                have hki : (k : Int) < vs.length := by omega
                have HST : Aside0 (dgM sz vs n (k+1) = mset (dgM sz vs n k) (vs.getD k 0) (q % sz)) := ⟨by rw [dgM, HQ.out]⟩
                have HQ2 : Aside0 (q / sz = dgN sz n (k+1)) := ⟨by rw [dgN, HQ.out]⟩
                generalize vs.getD k 0 = v at *
                have k1 := fun (w' : World) (h : Below wr.heap.size wr w') => oldc h (map_cell HG6r.out)
                have k2 := fun (w' : World) (h : Below wr.heap.size wr w') => oldc h (md_cells HMr.out).1
                have hs0 : ¬ (sz = 0) := by omega
                have hqm : q.tmod sz = q % sz := IntWalk.rem_in q sz hqb.1
                go_upto_region 16 with (fail)
                clear E0
                refine hd_region 6 1 (fun w' => Below wr.heap.size wr w') (by kernel_rfl) rfl ?_ (fun _ h => h)
                intro W3 hb3 hz3 hHeld
                clear hz3 hb3
                (refine hd_take (i := 0) (oi := ?oi1) (v := ?v1) ?hi1 (by kernel_rfl) (by kernel_rfl) (by kernel_rfl) (by kernel_rfl) (by decide) ?hq1 ?hw1 ?hy1 hHeld ?hr1; (case hi1 => (simp only [List.getElem?_toArray, List.getElem?_cons_succ, List.getElem?_cons_zero]; rfl)); (case hw1 => rfl); (case hy1 => (intro w hSw; go_simp; try with_reducible rfl)); (case hq1 => exact fun _ _ _ h => h); simp only [Act.put, List.setIfInBounds_toArray, List.set_cons_zero, List.set_cons_succ])
                (refine hd_take (i := 1) (oi := ?oi3) (v := ?v3) ?hi3 (by kernel_rfl) (by kernel_rfl) (by kernel_rfl) (by kernel_rfl) (by decide) ?hq3 ?hw3 ?hy3 hHeld ?hr3; (case hi3 => (simp only [List.getElem?_toArray, List.getElem?_cons_succ, List.getElem?_cons_zero]; rfl)); (case hw3 => rfl); (case hy3 => (intro w hSw; go_simp; try with_reducible rfl)); (case hq3 => exact fun _ _ _ h => h); simp only [Act.put, List.setIfInBounds_toArray, List.set_cons_zero, List.set_cons_succ])
                (refine hd_take (i := 2) (oi := ?oi5) (v := ?v5) ?hi5 (by kernel_rfl) (by kernel_rfl) (by kernel_rfl) (by kernel_rfl) (by decide) ?hq5 ?hw5 ?hy5 hHeld ?hr5; (case hi5 => (simp only [List.getElem?_toArray, List.getElem?_cons_succ, List.getElem?_cons_zero]; rfl)); (case hw5 => rfl); (case hy5 => (intro w hSw; go_simp; try with_reducible rfl)); (case hq5 => exact fun _ _ _ h => h); simp only [Act.put, List.setIfInBounds_toArray, List.set_cons_zero, List.set_cons_succ])
                (refine hd_take (i := 3) (oi := ?oi7) (v := ?v7) ?hi7 (by kernel_rfl) (by kernel_rfl) (by kernel_rfl) (by kernel_rfl) (by decide) ?hq7 ?hw7 ?hy7 hHeld ?hr7; (case hi7 => (simp only [List.getElem?_toArray, List.getElem?_cons_succ, List.getElem?_cons_zero]; rfl)); (case hw7 => rfl); (case hy7 => (intro w hSw; go_simp; try with_reducible rfl)); (case hq7 => exact fun _ _ _ h => h); simp only [Act.put, List.setIfInBounds_toArray, List.set_cons_zero, List.set_cons_succ])
                (refine hd_take (i := 4) (oi := ?oi9) (v := ?v9) ?hi9 (by kernel_rfl) (by kernel_rfl) (by kernel_rfl) (by kernel_rfl) (by decide) ?hq9 ?hw9 ?hy9 hHeld ?hr9; (case hi9 => (simp only [List.getElem?_toArray, List.getElem?_cons_succ, List.getElem?_cons_zero]; rfl)); (case hw9 => rfl); (case hy9 => (intro w hSw; go_simp; try with_reducible rfl)); (case hq9 => exact fun _ _ _ h => h); simp only [Act.put, List.setIfInBounds_toArray, List.set_cons_zero, List.set_cons_succ])
                (refine hd_take (i := 5) (oi := ?oi11) (v := ?v11) ?hi11 (by kernel_rfl) (by kernel_rfl) (by kernel_rfl) (by kernel_rfl) (by decide) ?hq11 ?hw11 ?hy11 hHeld ?hr11; (case hi11 => (simp only [List.getElem?_toArray, List.getElem?_cons_succ, List.getElem?_cons_zero]; rfl)); (case hw11 => rfl); (case hy11 => (intro w hSw; go_simp; try with_reducible rfl)); (case hq11 => exact fun _ _ _ h => h); simp only [Act.put, List.setIfInBounds_toArray, List.set_cons_zero, List.set_cons_succ])
                (refine hd_done (by kernel_rfl) ?_; simp only [List.drop_succ_cons, List.drop_zero])
                have HH := Aside0.mk hHeld
                clear hHeld k1 k2
                have HMk3 := Aside0.mk (HMk.out.below HH.out)
                have HMr3 := Aside0.mk ((HH.out.block _ (blk_lt HMr.out)).trans HMr.out)
                go_upto_region 17 with (at_mapUpdate; refine wp_updI rfl _ _ _ rfl rfl HMk3.out v rfl (q % sz) rfl ?_; intro w8 hM8 hG8; have HM8 := Aside0.mk hM8; have HG8 := Aside0.mk hG8; clear hM8 hG8)
                obtain ⟨m0, m1⟩ := md_cells ((HG8.out.block _ (blk_lt HMr3.out) (fun e => by injection e with e; omega)).trans HMr3.out)
                go_wp2
                go_roundw
                case rel => exact ⟨k + 1, q / sz, by omega, by go_num, rfl, HQ2, ⟨by rw [HST.out]; exact HM8.out⟩, ⟨gbT HGk.out (gbT (gbOf HH.out _) HG8.out (.inl rfl)) (.inl rfl)⟩⟩
                case measure => simp [intOf]; omega
              · obtain rfl : k = vs.length := by omega
                have HBwr := Aside0.mk (gbS HBm.out HGk.out (Nat.le_refl _))
                have HWr := Aside0.mk (hbT HWo.out HBwr.out)
                have HB6r := Aside0.mk (hbT HBo.out HBwr.out)
                have HFr := Aside0.mk (Kd.F_below HF.out HWr.out)
                have HFMr := Aside0.mk (Kd.F_below HFM.out HWr.out)
                go_upto_region 20 with ((with_reducible refine gate_store (t := 113) (p := 14) rfl ?_); refine st_blk rfl rfl rfl #[.func (.func 83) #[] #[.pointer (some ⟨wo.heap.size + 1, 0, none⟩)]] [.func (.func 83) #[] #[.pointer (some ⟨wo.heap.size + 1, 0, none⟩)]] rfl rfl rfl sizeFn (fun q hq => by simp at hq; subst hq; rfl) (heap_alloc_new _ _) (Nat.le_refl 1) rfl ?_; intro W4 hs4 hG4 hz4; have HGf := Aside0.mk hs4; have HBf := Aside0.mk (gbS (below_alloc (Below.refl wr.heap.size wr) _) hG4 (Nat.le_refl _)); clear hs4 hG4 hz4)
                have HMI := Aside0.mk (HMk.out.below HBf.out)
                have HGI := Aside0.mk ((HBf.out.block _ (blk_lt HG6r.out)).trans HG6r.out)
                have HMM := Aside0.mk ((HBf.out.block _ (blk_lt HMr.out)).trans HMr.out)
                have HSB : Aside0 (∀ v ∈ vs, 0 ≤ mgetI (dgM sz vs n vs.length) v ∧ mgetI (dgM sz vs n vs.length) v < sz) := ⟨fun v hv => by
                  obtain ⟨j, hj, rfl⟩ := List.getElem_of_mem hv
                  rw [dgM_get HND.out n _ (Nat.le_refl _) j hj hj]
                  exact ⟨Int.emod_nonneg _ (by omega), Int.emod_lt_of_pos _ (by omega)⟩⟩
                have HDV : Aside0 (DoV 83 #[.pointer (some ⟨wo.heap.size + 1, 0, none⟩)] (mgetI (dgM sz vs n vs.length)) (fun v => v ∈ vs) W4) := ⟨fun v W' _ hb => holds1_any _ wo.heap.size (wo.heap.size + 1) v W' (HMI.out.below hb) ((hb.block _ (blk_lt HGI.out)).trans HGI.out)⟩
                have HCF := Aside0.mk (containsFuncL 85 #[.pointer (some ⟨w.heap.size + 1, 0, none⟩), .pointer (some ⟨wr.heap.size, 0, none⟩)] (litV sz tabs (mgetI (dgM sz vs n vs.length))) (enters_of Try.func85 (by kernel_rfl) rfl) c Ac cc _ W4 (Kd.F_below HFr.out HBf.out) (fun x hx B3 d3 B6 d6 W5 hb5 hX5 => holds2_any g sz tabs (mgetI (dgM sz vs n vs.length)) (fun v => v ∈ vs) 83 #[.pointer (some ⟨wo.heap.size + 1, 0, none⟩)] (enters_of Try.func83 (by kernel_rfl) rfl) HMD.out HSB.out W4 HDV.out At ct _ x B3 B6 d3 d6 (w.heap.size + 1) wr.heap.size _ W5 (HFO.out x hx) (HVV.out x hx) hb5 (Kd.F_below HFMr.out (hbT HBf.out hb5)) ((hb5.block _ (blk_lt HMM.out)).trans HMM.out) ((hb5.block _ (blk_lt HGf.out)).trans HGf.out) hX5))
                have HHN : Aside0 (c.any (litV sz tabs (mgetI (dgM sz vs n vs.length))) = hldN sz tabs vs c n) := ⟨rfl⟩
                rw [HHN.out] at HCF
                clear HHN
                go_wp2_with (fail)
                refine HCF.out.mono ?_
                rintro e w9 ⟨rfl, hb9⟩
                have HB9 := Aside0.mk hb9
                clear hb9
                have HB69 := Aside0.mk (hbT HB6r.out (hbT HBf.out HB9.out))
                have HW9 := Aside0.mk (hbT HW6.out HB69.out)
                cases hh : hldN sz tabs vs c n with
                | true =>
                  have HR5 := Aside0.mk (hldK_step hh HK.out)
                  clear hh HCF
                  go_wp2
                  go_roundw
                  case rel => exact ⟨n + 1, by omega, by go_num, HR5, HB69⟩
                  case measure => simp [intOf]; omega
                | false =>
                  have HR5 : Aside0 (hldB g sz tabs c = false) := ⟨by rw [HR2.out]; exact hldK_bad hh (by omega)⟩
                  clear hh HCF
                  go_wp2
                  go_ret2
                  exact ⟨by rw [HR5.out, HR.out] <;> rfl, HW9.out⟩
          · obtain rfl : p = (n : Int) := by omega
            have HR5 : Aside0 (hldB g sz tabs c = true) := ⟨by rw [HR2.out]; simpa using HK.out⟩
            go_wp2
            go_ret2
            exact ⟨by rw [HR5.out, HR.out] <;> rfl, HWo.out⟩
    · have hkb := bneT hk
      have HR : Aside0 (hldE g sz tabs c = chkCs g [c]) := ⟨by rw [HE.out, if_pos hk]⟩
      have HR2 : Aside0 (hldB g sz tabs c = false) := ⟨by unfold hldB; rw [if_neg (by rw [HR.out]; exact hk)]⟩
      clear hk
      go_wp2
      go_ret2
      exact ⟨by rw [HR.out, HR2.out] <;> rfl, HW3.out⟩
  · have hmb := beqF hm
    have hmc := bneT hm
    have HR : Aside0 (hldE g sz tabs c = mdE g sz tabs) := ⟨by unfold hldE; rw [if_pos hm]⟩
    have HR2 : Aside0 (hldB g sz tabs c = false) := ⟨by unfold hldB; rw [if_neg (by rw [HR.out]; exact hm)]⟩
    clear hm
    go_wp2
    go_ret2
    exact ⟨by rw [HR.out, HR2.out] <;> rfl, HW2.out⟩
end Go.Proofs.Ytcgnpmjkeifokaa
