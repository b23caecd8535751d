/- RewriteFalls: each step makes a lesser term, and what is normal stays as it is: for every input. Part 4: the walks and plain laws that it uses. -/
import Derived.Test.YtcgnpmjkeifokaaMRF3
-- K95
/- order.Above. -/
namespace Go.Proofs.Ytcgnpmjkeifokaa
open Go.RowKit Go.Proofs.YtcgnpmjkeifokaaW.PrintWords
set_option linter.unusedVariables false
set_option linter.unusedSimpArgs false
section
variable {P : Program} {ops : Array Oper} {Q : Exit → Act → World → Prop} {S : World → Prop} {n g : Nat} {T : Act → World → Prop}
theorem hd_three {f i j k : Nat} {listed : Array Bool} {a : Act} {w : World} {oi oj ok : Oper} (hi : ops[i]? = some oi) (hj : ops[j]? = some oj) (hk : ops[k]? = some ok) (hr : Region.ready .any ops listed = [i, j, k]) (hin : i < n) (hjn : j < n) (hkn : k < n)
    (h1 : ∀ K : Act → World → Prop, Shut (∀ a w, S w → (S w → HD P ops Q S n g T f (listed.setIfInBounds i true) a w) → K a w) → if Region.wanted oi (yielded ops a.tmps) = true then Oper.wp P oi a w K Q else K (a.put oi.dst undef) w)
    (h2 : ∀ K : Act → World → Prop, Shut (∀ a w, S w → (S w → HD P ops Q S n g T f (listed.setIfInBounds j true) a w) → K a w) → if Region.wanted oj (yielded ops a.tmps) = true then Oper.wp P oj a w K Q else K (a.put oj.dst undef) w)
    (h3 : ∀ K : Act → World → Prop, Shut (∀ a w, S w → (S w → HD P ops Q S n g T f (listed.setIfInBounds k true) a w) → K a w) → if Region.wanted ok (yielded ops a.tmps) = true then Oper.wp P ok a w K Q else K (a.put ok.dst undef) w) : HD P ops Q S n g T (f + 1) listed a w :=
  ⟨⟨fun h0 => (by rw [hr] at h0; cases h0), fun m hm => (by
    rw [hr] at hm
    rcases (by simpa using hm : m = i ∨ m = j ∨ m = k) with rfl | rfl | rfl
    · exact ⟨hin, wpOp_step hi (fun K hK => h1 K (fun a w hS hH => hK a w ⟨hS, (hH hS).out⟩))⟩
    · exact ⟨hjn, wpOp_step hj (fun K hK => h2 K (fun a w hS hH => hK a w ⟨hS, (hH hS).out⟩))⟩
    · exact ⟨hkn, wpOp_step hk (fun K hK => h3 K (fun a w hS hH => hK a w ⟨hS, (hH hS).out⟩))⟩)⟩⟩
end
theorem cutT7 {G : Prop} {α β γ δ ε ζ η : Type} (S : α → β → γ → δ → ε → ζ → η → World → Prop) (T : α → β → γ → δ → ε → ζ → η → World → Prop) (main : (∀ a b c d e f g w, S a b c d e f g w → T a b c d e f g w) → G) (key : ∀ a b c d e f g w, S a b c d e f g w → T a b c d e f g w) : G := main key
set_option maxHeartbeats 4000000 in
set_option maxRecDepth 100000 in
theorem above_any (g : List Int) (s t : Tm) (A B : Option Addr) (c d : Nat) (oks okt : Nat → Prop) (w : World) (hS : Kd.F kTm w oks A s.f2.length s.f2) (hsc : s.f2.length ≤ c) (hT : Kd.F kTm w okt B t.f2.length t.f2) (htc : t.f2.length ≤ d) (hs : szT s ≤ 1000000) (ht : szT t ≤ 1000000) (fs : formE g s = 0) (ft : formE g t = 0) :
    Calls Try.prog 75 #[.agg #[.int .i64 s.f0, .int .i64 s.f1, .slice A s.f2.length c], .agg #[.int .i64 t.f0, .int .i64 t.f1, .slice B t.f2.length d]] w fun e w' => e = .returned (.bool (gtB s t)) ∧ Below w.heap.size w w' := by
  have hls := Kd.F_max hS
  have hlt := Kd.F_max hT
  have HS := Aside0.mk (Kd.F_bound hS)
  have HT := Aside0.mk (Kd.F_bound hT)
  have HL1 := Aside0.mk (pr_len s 0)
  have HL2 := Aside0.mk (pr_len t 0)
  have HP1 := Aside0.mk (pr_all s)
  have HP2 := Aside0.mk (pr_all t)
  have HSM := Aside0.mk (pr_same fs ft)
  have hps := szT_pos s
  have hpt := szT_pos t
  have PA : Aside0 (∀ W', Below w.heap.size w W' → Calls Try.prog 110 #[.slice none 0 0, .agg #[.int .i64 s.f0, .int .i64 s.f1, .slice A s.f2.length c]] W' fun e w' => ∃ A' c', e = .returned (.slice A' (prT 0 s).length c') ∧ Kd.F kPt w' (fun j => (j < w.heap.size ∨ W'.heap.size ≤ j) ∧ j < w'.heap.size) A' (prT 0 s).length (prT 0 s) ∧ Below W'.heap.size W' w') := ⟨fun W' hb => by
    have hz := hb.size
    have h := parts_any (szT s) s A c (.slice none 0 0) [] W'.heap.size (fun j => j < w.heap.size ∨ W'.heap.size ≤ j) (fun j => oks j ∧ j < w.heap.size) W' (Nat.le_refl _) (by simp; omega) (Kd.N_nil _ _ _ _ _) (Kd.F_below HS.out hb) hsc (fun j hj => ⟨.inl hj.2, by simp [Value.ownBlock]⟩) (fun j hj => .inr hj) (Nat.le_refl _)
    refine h.mono ?_
    rintro e w' ⟨v1, rfl, hN, hG, _⟩
    obtain ⟨A', c', rfl⟩ := Kd.N_slice hN
    exact ⟨A', c', rfl, Kd.F_bound (Kd.N_F hN), gbB hG (.inl rfl)⟩⟩
  have PB : Aside0 (∀ W', Below w.heap.size w W' → Calls Try.prog 110 #[.slice none 0 0, .agg #[.int .i64 t.f0, .int .i64 t.f1, .slice B t.f2.length d]] W' fun e w' => ∃ A' c', e = .returned (.slice A' (prT 0 t).length c') ∧ Kd.F kPt w' (fun j => (j < w.heap.size ∨ W'.heap.size ≤ j) ∧ j < w'.heap.size) A' (prT 0 t).length (prT 0 t) ∧ Below W'.heap.size W' w') := ⟨fun W' hb => by
    have hz := hb.size
    have h := parts_any (szT t) t B d (.slice none 0 0) [] W'.heap.size (fun j => j < w.heap.size ∨ W'.heap.size ≤ j) (fun j => okt j ∧ j < w.heap.size) W' (Nat.le_refl _) (by simp; omega) (Kd.N_nil _ _ _ _ _) (Kd.F_below HT.out hb) htc (fun j hj => ⟨.inl hj.2, by simp [Value.ownBlock]⟩) (fun j hj => .inr hj) (Nat.le_refl _)
    refine h.mono ?_
    rintro e w' ⟨v1, rfl, hN, hG, _⟩
    obtain ⟨A', c', rfl⟩ := Kd.N_slice hN
    exact ⟨A', c', rfl, Kd.F_bound (Kd.N_F hN), gbB hG (.inl rfl)⟩⟩
  clear hS hT fs ft
  generalize prT 0 s = P at *
  generalize prT 0 t = Q at *
  have g0 := blk_alloc (newAt (w := w) (o := .cells #[.int .i64 s.f0, .int .i64 s.f1, .slice A s.f2.length c] 46) rfl) (.cells #[.int .i64 t.f0, .int .i64 t.f1, .slice B t.f2.length d] 46)
  have g1 := newAt (w := w.alloc (.cells #[.int .i64 s.f0, .int .i64 s.f1, .slice A s.f2.length c] 46)) (o := .cells #[.int .i64 t.f0, .int .i64 t.f1, .slice B t.f2.length d] 46) (k := w.heap.size + 1) (by simp)
  have HB := Aside0.mk (below_alloc (below_alloc (Below.refl w.heap.size w) (.cells #[.int .i64 s.f0, .int .i64 s.f1, .slice A s.f2.length c] 46)) (.cells #[.int .i64 t.f0, .int .i64 t.f1, .slice B t.f2.length d] 46))
  go_enter Try.func75, Try.ntmps75
  go_upto_region 1 with (fail)
  generalize (w.alloc (.cells #[.int .i64 s.f0, .int .i64 s.f1, .slice A s.f2.length c] 46)).alloc (.cells #[.int .i64 t.f0, .int .i64 t.f1, .slice B t.f2.length d] 46) = W at *
  obtain ⟨s0, s1, s2⟩ := tm_cells g0
  obtain ⟨t0, t1, t2⟩ := tm_cells g1
  have hWs := HB.out.size
  have k0 := fun (w' : World) (h : Below W.heap.size W w') => oldc h s0
  have k1 := fun (w' : World) (h : Below W.heap.size W w') => oldc h s1
  have k2 := fun (w' : World) (h : Below W.heap.size W w') => oldc h s2
  have k3 := fun (w' : World) (h : Below W.heap.size W w') => oldc h t0
  have k4 := fun (w' : World) (h : Below W.heap.size W w') => oldc h t1
  have k5 := fun (w' : World) (h : Below W.heap.size W w') => oldc h t2
  clear g0 g1 s0 s1 s2 t0 t1 t2
  have hmm := @run_makeMap Try.prog
  refine cutT7 (fun (A1 : Option Addr) (c1 : Nat) (A2 : Option Addr) (c2 bs ba bc : Nat) (w9 : World) => (Below W.heap.size W w9 ∧ w9.heap[bc]? = some (.cells (cmpC A1 A2 P.length Q.length c1 c2 bs ba) 138 (0, 0))) ∧ (Kd.F kPt w9 (fun j => j ≠ bs ∧ j ≠ ba) A1 P.length P ∧ Kd.F kPt w9 (fun j => j ≠ bs ∧ j ≠ ba) A2 Q.length Q) ∧ (MapB w9 bs [] ∧ MapB w9 ba []) ∧ (bs ≠ ba ∧ bc ≠ bs ∧ bc ≠ ba) ∧ W.heap.size ≤ bs ∧ W.heap.size ≤ ba ∧ bs < w9.heap.size ∧ ba < w9.heap.size) ?T ?main ?key
  case main =>
    intro key
    refine hd_region 9 0 (fun w' => Below W.heap.size W w') (by kernel_rfl) rfl ?_ (fun _ h => h)
    intro W3 hb3 hz3 hHeld
    have hs3 := hb3.size
    clear hz3 hb3
    (refine hd_take (i := 0) (oi := ?oi701) (v := ?v701) ?hi701 (by kernel_rfl) (by kernel_rfl) (by kernel_rfl) (by kernel_rfl) (by decide) ?hq701 ?hw701 ?hy701 hHeld ?hr701; (case hi701 => (simp only [List.getElem?_toArray, List.getElem?_cons_succ, List.getElem?_cons_zero]; rfl)); (case hw701 => rfl); (case hy701 => (intro w hSw; go_simp; try with_reducible rfl)); (case hq701 => exact fun _ _ _ h => h); simp only [Act.put, List.setIfInBounds_toArray, List.set_cons_zero, List.set_cons_succ])
    (refine hd_take (i := 2) (oi := ?oi703) (v := ?v703) ?hi703 (by kernel_rfl) (by kernel_rfl) (by kernel_rfl) (by kernel_rfl) (by decide) ?hq703 ?hw703 ?hy703 hHeld ?hr703; (case hi703 => (simp only [List.getElem?_toArray, List.getElem?_cons_succ, List.getElem?_cons_zero]; rfl)); (case hw703 => rfl); (case hy703 => (intro w hSw; go_simp; try with_reducible rfl)); (case hq703 => exact fun _ _ _ h => h); simp only [Act.put, List.setIfInBounds_toArray, List.set_cons_zero, List.set_cons_succ])
    refine hd_three (i := 1) (j := 4) (k := 5) (oi := ?o1A) (oj := ?o1B) (ok := ?o1C) ?e1A ?e1B ?e1C (by kernel_rfl) (by decide) (by decide) (by decide) ?h1A ?h1B ?h1C
    case e1A => (simp only [List.getElem?_toArray, List.getElem?_cons_succ, List.getElem?_cons_zero]; rfl)
    case e1B => (simp only [List.getElem?_toArray, List.getElem?_cons_succ, List.getElem?_cons_zero]; rfl)
    case e1C => (simp only [List.getElem?_toArray, List.getElem?_cons_succ, List.getElem?_cons_zero]; rfl)
    case h1A =>
      intro K hK
      go_simp
      refine (PA.out W3 (hbT HB.out hHeld)).mono ?_
      rintro e x1 ⟨A1, c1, rfl, hFx1, hbx1⟩
      have HFx1 := Aside0.mk hFx1
      have hsx1 := hbx1.size
      have Hbx1 := Aside0.mk hbx1
      clear hFx1
      go_simp
      (refine hK.out _ _ ?hS708 (fun hHeld => ?hr708); (case hS708 => exact hbT hHeld Hbx1.out); clear hK K; try simp only [Act.put, List.setIfInBounds_toArray, List.set_cons_zero, List.set_cons_succ])
      clear hbx1
      refine hd_three (i := 3) (j := 4) (k := 5) (oi := ?o2A) (oj := ?o2B) (ok := ?o2C) ?e2A ?e2B ?e2C (by kernel_rfl) (by decide) (by decide) (by decide) ?h2A ?h2B ?h2C
      case e2A => (simp only [List.getElem?_toArray, List.getElem?_cons_succ, List.getElem?_cons_zero]; rfl)
      case e2B => (simp only [List.getElem?_toArray, List.getElem?_cons_succ, List.getElem?_cons_zero]; rfl)
      case e2C => (simp only [List.getElem?_toArray, List.getElem?_cons_succ, List.getElem?_cons_zero]; rfl)
      case h2A =>
        intro K hK
        go_simp
        refine (PB.out x1 (hbT HB.out hHeld)).mono ?_
        rintro e x2 ⟨A2, c2, rfl, hFx2, hbx2⟩
        have HFx2 := Aside0.mk hFx2
        have hsx2 := hbx2.size
        have Hbx2 := Aside0.mk hbx2
        clear hFx2
        have Q3 := Aside0.mk (Kd.F_below HFx1.out Hbx2.out)
        go_simp
        (refine hK.out _ _ ?hS712 (fun hHeld => ?hr712); (case hS712 => exact hbT hHeld Hbx2.out); clear hK K; try simp only [Act.put, List.setIfInBounds_toArray, List.set_cons_zero, List.set_cons_succ])
        clear hbx2
        refine hd_two (i := 4) (j := 5) (oi := ?o3A) (oj := ?o3B) ?e3A ?e3B (by kernel_rfl) (by decide) (by decide) ?h3A ?h3B
        case e3A => (simp only [List.getElem?_toArray, List.getElem?_cons_succ, List.getElem?_cons_zero]; rfl)
        case e3B => (simp only [List.getElem?_toArray, List.getElem?_cons_succ, List.getElem?_cons_zero]; rfl)
        case h3A =>
          intro K hK
          go_simp
          (refine hK.out _ _ ?hS715 (fun hHeld => ?hr715); (case hS715 => exact below_alloc hHeld _); clear hK K; try simp only [Act.put, List.setIfInBounds_toArray, List.set_cons_zero, List.set_cons_succ])
          have HMx4 := Aside0.mk (MapB.made x2)
          have Hbx4 := Aside0.mk (below_alloc (Below.refl x2.heap.size x2) (.map #[] 0))
          have hsx4 : x2.heap.size + 1 ≤ (x2.alloc (.map #[] 0)).heap.size := by simp
          have Q5 := Aside0.mk (Kd.F_below Q3.out Hbx4.out)
          have Q6 := Aside0.mk (Kd.F_below HFx2.out Hbx4.out)
          generalize x2.alloc (.map #[] 0) = x4 at *
          (refine hd_one (i := 5) (oi := ?oi716) ?hi716 (by kernel_rfl) (by decide) ?hr716; (case hi716 => (simp only [List.getElem?_toArray, List.getElem?_cons_succ, List.getElem?_cons_zero]; rfl)); intro K hK)
          go_simp
          (refine hK.out _ _ ?hS718 (fun hHeld => ?hr718); (case hS718 => exact below_alloc hHeld _); clear hK K; try simp only [Act.put, List.setIfInBounds_toArray, List.set_cons_zero, List.set_cons_succ])
          have HMx7 := Aside0.mk (MapB.made x4)
          have Hbx7 := Aside0.mk (below_alloc (Below.refl x4.heap.size x4) (.map #[] 0))
          have hsx7 : x4.heap.size + 1 ≤ (x4.alloc (.map #[] 0)).heap.size := by simp
          have Q8 := Aside0.mk (Kd.F_below Q5.out Hbx7.out)
          have Q9 := Aside0.mk (Kd.F_below Q6.out Hbx7.out)
          have Q10 := Aside0.mk (HMx4.out.below Hbx7.out)
          generalize x4.alloc (.map #[] 0) = x7 at *
          (refine hd_take (i := 6) (oi := ?oi719) (v := ?v719) ?hi719 (by kernel_rfl) (by kernel_rfl) (by kernel_rfl) (by kernel_rfl) (by decide) ?hq719 ?hw719 ?hy719 hHeld ?hr719; (case hi719 => (simp only [List.getElem?_toArray, List.getElem?_cons_succ, List.getElem?_cons_zero]; rfl)); (case hw719 => rfl); (case hy719 => (intro w hSw; go_simp; try with_reducible rfl)); (case hq719 => exact fun _ _ _ h => h); simp only [Act.put, List.setIfInBounds_toArray, List.set_cons_zero, List.set_cons_succ])
          (refine hd_one (i := 7) (oi := ?oi721) ?hi721 (by kernel_rfl) (by decide) ?hr721; (case hi721 => (simp only [List.getElem?_toArray, List.getElem?_cons_succ, List.getElem?_cons_zero]; rfl)); intro K hK)
          go_simp
          (refine hK.out _ _ ?hS723 (fun hHeld => ?hr723); (case hS723 => exact below_alloc hHeld _); clear hK K; try simp only [Act.put, List.setIfInBounds_toArray, List.set_cons_zero, List.set_cons_succ])
          have HCc := Aside0.mk (heap_alloc_new x7 (.cells #[.slice A1 P.length c1, .slice A2 Q.length c2, .map (some x2.heap.size), .map (some x4.heap.size)] 138))
          have Hbc := Aside0.mk (below_alloc (Below.refl x7.heap.size x7) (.cells #[.slice A1 P.length c1, .slice A2 Q.length c2, .map (some x2.heap.size), .map (some x4.heap.size)] 138))
          have hsc2 : x7.heap.size + 1 ≤ (x7.alloc (.cells #[.slice A1 P.length c1, .slice A2 Q.length c2, .map (some x2.heap.size), .map (some x4.heap.size)] 138)).heap.size := by simp
          have Q11 := Aside0.mk (Kd.F_below Q8.out Hbc.out)
          have Q12 := Aside0.mk (Kd.F_below Q9.out Hbc.out)
          have Q13 := Aside0.mk (Q10.out.below Hbc.out)
          have Q14 := Aside0.mk (HMx7.out.below Hbc.out)
          generalize x7.alloc (.cells #[.slice A1 P.length c1, .slice A2 Q.length c2, .map (some x2.heap.size), .map (some x4.heap.size)] 138) = xc at *
          (refine hd_one (i := 8) (oi := ?oi724) ?hi724 (by kernel_rfl) (by decide) ?hr724; (case hi724 => (simp only [List.getElem?_toArray, List.getElem?_cons_succ, List.getElem?_cons_zero]; rfl)); intro K hK)
          go_simp
          (refine hK.out _ _ ?hS726 (fun hHeld => ?hr726); (case hS726 => exact hHeld); clear hK K; try simp only [Act.put, List.setIfInBounds_toArray, List.set_cons_zero, List.set_cons_succ])
          (refine hd_done (by kernel_rfl) ?_; simp only [List.drop_succ_cons, List.drop_zero])
          have hK : (Below W.heap.size W xc ∧ xc.heap[x7.heap.size]? = some (.cells (cmpC A1 A2 P.length Q.length c1 c2 x2.heap.size x4.heap.size) 138 (0, 0))) ∧ (Kd.F kPt xc (fun j => j ≠ x2.heap.size ∧ j ≠ x4.heap.size) A1 P.length P ∧ Kd.F kPt xc (fun j => j ≠ x2.heap.size ∧ j ≠ x4.heap.size) A2 Q.length Q) ∧ (MapB xc x2.heap.size [] ∧ MapB xc x4.heap.size []) ∧ (x2.heap.size ≠ x4.heap.size ∧ x7.heap.size ≠ x2.heap.size ∧ x7.heap.size ≠ x4.heap.size) ∧ W.heap.size ≤ x2.heap.size ∧ W.heap.size ≤ x4.heap.size ∧ x2.heap.size < xc.heap.size ∧ x4.heap.size < xc.heap.size := ⟨⟨hHeld, HCc.out⟩, ⟨Kd.F_mono Q11.out (fun j hj => by have h1 := hj.1; have h2 := hj.2; exact ⟨by omega, by omega⟩), Kd.F_mono Q12.out (fun j hj => by have h1 := hj.1; have h2 := hj.2; exact ⟨by omega, by omega⟩)⟩, ⟨Q13.out, Q14.out⟩, ⟨by omega, by omega, by omega⟩, by omega, by omega, by omega, by omega⟩
          have hKK := hK
          clear hK HCc
          generalize x7.heap.size = bc at *
          generalize x2.heap.size = bs at *
          generalize x4.heap.size = ba at *
          refine useT (key A1 c1 A2 c2 bs ba bc xc hKK) ?_
          rfl
        case h3B =>
          intro K hK
          go_simp
          (refine hK.out _ _ ?hS728 (fun hHeld => ?hr728); (case hS728 => exact below_alloc hHeld _); clear hK K; try simp only [Act.put, List.setIfInBounds_toArray, List.set_cons_zero, List.set_cons_succ])
          have HMx4 := Aside0.mk (MapB.made x2)
          have Hbx4 := Aside0.mk (below_alloc (Below.refl x2.heap.size x2) (.map #[] 0))
          have hsx4 : x2.heap.size + 1 ≤ (x2.alloc (.map #[] 0)).heap.size := by simp
          have Q5 := Aside0.mk (Kd.F_below Q3.out Hbx4.out)
          have Q6 := Aside0.mk (Kd.F_below HFx2.out Hbx4.out)
          generalize x2.alloc (.map #[] 0) = x4 at *
          (refine hd_one (i := 4) (oi := ?oi729) ?hi729 (by kernel_rfl) (by decide) ?hr729; (case hi729 => (simp only [List.getElem?_toArray, List.getElem?_cons_succ, List.getElem?_cons_zero]; rfl)); intro K hK)
          go_simp
          (refine hK.out _ _ ?hS731 (fun hHeld => ?hr731); (case hS731 => exact below_alloc hHeld _); clear hK K; try simp only [Act.put, List.setIfInBounds_toArray, List.set_cons_zero, List.set_cons_succ])
          have HMx7 := Aside0.mk (MapB.made x4)
          have Hbx7 := Aside0.mk (below_alloc (Below.refl x4.heap.size x4) (.map #[] 0))
          have hsx7 : x4.heap.size + 1 ≤ (x4.alloc (.map #[] 0)).heap.size := by simp
          have Q8 := Aside0.mk (Kd.F_below Q5.out Hbx7.out)
          have Q9 := Aside0.mk (Kd.F_below Q6.out Hbx7.out)
          have Q10 := Aside0.mk (HMx4.out.below Hbx7.out)
          generalize x4.alloc (.map #[] 0) = x7 at *
          (refine hd_take (i := 6) (oi := ?oi732) (v := ?v732) ?hi732 (by kernel_rfl) (by kernel_rfl) (by kernel_rfl) (by kernel_rfl) (by decide) ?hq732 ?hw732 ?hy732 hHeld ?hr732; (case hi732 => (simp only [List.getElem?_toArray, List.getElem?_cons_succ, List.getElem?_cons_zero]; rfl)); (case hw732 => rfl); (case hy732 => (intro w hSw; go_simp; try with_reducible rfl)); (case hq732 => exact fun _ _ _ h => h); simp only [Act.put, List.setIfInBounds_toArray, List.set_cons_zero, List.set_cons_succ])
          (refine hd_one (i := 7) (oi := ?oi734) ?hi734 (by kernel_rfl) (by decide) ?hr734; (case hi734 => (simp only [List.getElem?_toArray, List.getElem?_cons_succ, List.getElem?_cons_zero]; rfl)); intro K hK)
          go_simp
          (refine hK.out _ _ ?hS736 (fun hHeld => ?hr736); (case hS736 => exact below_alloc hHeld _); clear hK K; try simp only [Act.put, List.setIfInBounds_toArray, List.set_cons_zero, List.set_cons_succ])
          have HCc := Aside0.mk (heap_alloc_new x7 (.cells #[.slice A1 P.length c1, .slice A2 Q.length c2, .map (some x4.heap.size), .map (some x2.heap.size)] 138))
          have Hbc := Aside0.mk (below_alloc (Below.refl x7.heap.size x7) (.cells #[.slice A1 P.length c1, .slice A2 Q.length c2, .map (some x4.heap.size), .map (some x2.heap.size)] 138))
          have hsc2 : x7.heap.size + 1 ≤ (x7.alloc (.cells #[.slice A1 P.length c1, .slice A2 Q.length c2, .map (some x4.heap.size), .map (some x2.heap.size)] 138)).heap.size := by simp
          have Q11 := Aside0.mk (Kd.F_below Q8.out Hbc.out)
          have Q12 := Aside0.mk (Kd.F_below Q9.out Hbc.out)
          have Q13 := Aside0.mk (Q10.out.below Hbc.out)
          have Q14 := Aside0.mk (HMx7.out.below Hbc.out)
          generalize x7.alloc (.cells #[.slice A1 P.length c1, .slice A2 Q.length c2, .map (some x4.heap.size), .map (some x2.heap.size)] 138) = xc at *
          (refine hd_one (i := 8) (oi := ?oi737) ?hi737 (by kernel_rfl) (by decide) ?hr737; (case hi737 => (simp only [List.getElem?_toArray, List.getElem?_cons_succ, List.getElem?_cons_zero]; rfl)); intro K hK)
          go_simp
          (refine hK.out _ _ ?hS739 (fun hHeld => ?hr739); (case hS739 => exact hHeld); clear hK K; try simp only [Act.put, List.setIfInBounds_toArray, List.set_cons_zero, List.set_cons_succ])
          (refine hd_done (by kernel_rfl) ?_; simp only [List.drop_succ_cons, List.drop_zero])
          have hK : (Below W.heap.size W xc ∧ xc.heap[x7.heap.size]? = some (.cells (cmpC A1 A2 P.length Q.length c1 c2 x4.heap.size x2.heap.size) 138 (0, 0))) ∧ (Kd.F kPt xc (fun j => j ≠ x4.heap.size ∧ j ≠ x2.heap.size) A1 P.length P ∧ Kd.F kPt xc (fun j => j ≠ x4.heap.size ∧ j ≠ x2.heap.size) A2 Q.length Q) ∧ (MapB xc x4.heap.size [] ∧ MapB xc x2.heap.size []) ∧ (x4.heap.size ≠ x2.heap.size ∧ x7.heap.size ≠ x4.heap.size ∧ x7.heap.size ≠ x2.heap.size) ∧ W.heap.size ≤ x4.heap.size ∧ W.heap.size ≤ x2.heap.size ∧ x4.heap.size < xc.heap.size ∧ x2.heap.size < xc.heap.size := ⟨⟨hHeld, HCc.out⟩, ⟨Kd.F_mono Q11.out (fun j hj => by have h1 := hj.1; have h2 := hj.2; exact ⟨by omega, by omega⟩), Kd.F_mono Q12.out (fun j hj => by have h1 := hj.1; have h2 := hj.2; exact ⟨by omega, by omega⟩)⟩, ⟨Q14.out, Q13.out⟩, ⟨by omega, by omega, by omega⟩, by omega, by omega, by omega, by omega⟩
          refine useT (key A1 c1 A2 c2 (x4.heap.size) (x2.heap.size) (x7.heap.size) xc hK) ?_
          rfl
      case h2B =>
        intro K hK
        go_simp
        (refine hK.out _ _ ?hS741 (fun hHeld => ?hr741); (case hS741 => exact below_alloc hHeld _); clear hK K; try simp only [Act.put, List.setIfInBounds_toArray, List.set_cons_zero, List.set_cons_succ])
        have HMx2 := Aside0.mk (MapB.made x1)
        have Hbx2 := Aside0.mk (below_alloc (Below.refl x1.heap.size x1) (.map #[] 0))
        have hsx2 : x1.heap.size + 1 ≤ (x1.alloc (.map #[] 0)).heap.size := by simp
        have Q3 := Aside0.mk (Kd.F_below HFx1.out Hbx2.out)
        generalize x1.alloc (.map #[] 0) = x2 at *
        refine hd_two (i := 3) (j := 5) (oi := ?o4A) (oj := ?o4B) ?e4A ?e4B (by kernel_rfl) (by decide) (by decide) ?h4A ?h4B
        case e4A => (simp only [List.getElem?_toArray, List.getElem?_cons_succ, List.getElem?_cons_zero]; rfl)
        case e4B => (simp only [List.getElem?_toArray, List.getElem?_cons_succ, List.getElem?_cons_zero]; rfl)
        case h4A =>
          intro K hK
          go_simp
          refine (PB.out x2 (hbT HB.out hHeld)).mono ?_
          rintro e x4 ⟨A2, c2, rfl, hFx4, hbx4⟩
          have HFx4 := Aside0.mk hFx4
          have hsx4 := hbx4.size
          have Hbx4 := Aside0.mk hbx4
          clear hFx4
          have Q5 := Aside0.mk (Kd.F_below Q3.out Hbx4.out)
          have Q6 := Aside0.mk (HMx2.out.below Hbx4.out)
          go_simp
          (refine hK.out _ _ ?hS744 (fun hHeld => ?hr744); (case hS744 => exact hbT hHeld Hbx4.out); clear hK K; try simp only [Act.put, List.setIfInBounds_toArray, List.set_cons_zero, List.set_cons_succ])
          clear hbx4
          (refine hd_one (i := 5) (oi := ?oi745) ?hi745 (by kernel_rfl) (by decide) ?hr745; (case hi745 => (simp only [List.getElem?_toArray, List.getElem?_cons_succ, List.getElem?_cons_zero]; rfl)); intro K hK)
          go_simp
          (refine hK.out _ _ ?hS747 (fun hHeld => ?hr747); (case hS747 => exact below_alloc hHeld _); clear hK K; try simp only [Act.put, List.setIfInBounds_toArray, List.set_cons_zero, List.set_cons_succ])
          have HMx7 := Aside0.mk (MapB.made x4)
          have Hbx7 := Aside0.mk (below_alloc (Below.refl x4.heap.size x4) (.map #[] 0))
          have hsx7 : x4.heap.size + 1 ≤ (x4.alloc (.map #[] 0)).heap.size := by simp
          have Q8 := Aside0.mk (Kd.F_below Q5.out Hbx7.out)
          have Q9 := Aside0.mk (Q6.out.below Hbx7.out)
          have Q10 := Aside0.mk (Kd.F_below HFx4.out Hbx7.out)
          generalize x4.alloc (.map #[] 0) = x7 at *
          (refine hd_take (i := 6) (oi := ?oi748) (v := ?v748) ?hi748 (by kernel_rfl) (by kernel_rfl) (by kernel_rfl) (by kernel_rfl) (by decide) ?hq748 ?hw748 ?hy748 hHeld ?hr748; (case hi748 => (simp only [List.getElem?_toArray, List.getElem?_cons_succ, List.getElem?_cons_zero]; rfl)); (case hw748 => rfl); (case hy748 => (intro w hSw; go_simp; try with_reducible rfl)); (case hq748 => exact fun _ _ _ h => h); simp only [Act.put, List.setIfInBounds_toArray, List.set_cons_zero, List.set_cons_succ])
          (refine hd_one (i := 7) (oi := ?oi750) ?hi750 (by kernel_rfl) (by decide) ?hr750; (case hi750 => (simp only [List.getElem?_toArray, List.getElem?_cons_succ, List.getElem?_cons_zero]; rfl)); intro K hK)
          go_simp
          (refine hK.out _ _ ?hS752 (fun hHeld => ?hr752); (case hS752 => exact below_alloc hHeld _); clear hK K; try simp only [Act.put, List.setIfInBounds_toArray, List.set_cons_zero, List.set_cons_succ])
          have HCc := Aside0.mk (heap_alloc_new x7 (.cells #[.slice A1 P.length c1, .slice A2 Q.length c2, .map (some x1.heap.size), .map (some x4.heap.size)] 138))
          have Hbc := Aside0.mk (below_alloc (Below.refl x7.heap.size x7) (.cells #[.slice A1 P.length c1, .slice A2 Q.length c2, .map (some x1.heap.size), .map (some x4.heap.size)] 138))
          have hsc2 : x7.heap.size + 1 ≤ (x7.alloc (.cells #[.slice A1 P.length c1, .slice A2 Q.length c2, .map (some x1.heap.size), .map (some x4.heap.size)] 138)).heap.size := by simp
          have Q11 := Aside0.mk (Kd.F_below Q8.out Hbc.out)
          have Q12 := Aside0.mk (Q9.out.below Hbc.out)
          have Q13 := Aside0.mk (Kd.F_below Q10.out Hbc.out)
          have Q14 := Aside0.mk (HMx7.out.below Hbc.out)
          generalize x7.alloc (.cells #[.slice A1 P.length c1, .slice A2 Q.length c2, .map (some x1.heap.size), .map (some x4.heap.size)] 138) = xc at *
          (refine hd_one (i := 8) (oi := ?oi753) ?hi753 (by kernel_rfl) (by decide) ?hr753; (case hi753 => (simp only [List.getElem?_toArray, List.getElem?_cons_succ, List.getElem?_cons_zero]; rfl)); intro K hK)
          go_simp
          (refine hK.out _ _ ?hS755 (fun hHeld => ?hr755); (case hS755 => exact hHeld); clear hK K; try simp only [Act.put, List.setIfInBounds_toArray, List.set_cons_zero, List.set_cons_succ])
          (refine hd_done (by kernel_rfl) ?_; simp only [List.drop_succ_cons, List.drop_zero])
          have hK : (Below W.heap.size W xc ∧ xc.heap[x7.heap.size]? = some (.cells (cmpC A1 A2 P.length Q.length c1 c2 x1.heap.size x4.heap.size) 138 (0, 0))) ∧ (Kd.F kPt xc (fun j => j ≠ x1.heap.size ∧ j ≠ x4.heap.size) A1 P.length P ∧ Kd.F kPt xc (fun j => j ≠ x1.heap.size ∧ j ≠ x4.heap.size) A2 Q.length Q) ∧ (MapB xc x1.heap.size [] ∧ MapB xc x4.heap.size []) ∧ (x1.heap.size ≠ x4.heap.size ∧ x7.heap.size ≠ x1.heap.size ∧ x7.heap.size ≠ x4.heap.size) ∧ W.heap.size ≤ x1.heap.size ∧ W.heap.size ≤ x4.heap.size ∧ x1.heap.size < xc.heap.size ∧ x4.heap.size < xc.heap.size := ⟨⟨hHeld, HCc.out⟩, ⟨Kd.F_mono Q11.out (fun j hj => by have h1 := hj.1; have h2 := hj.2; exact ⟨by omega, by omega⟩), Kd.F_mono Q13.out (fun j hj => by have h1 := hj.1; have h2 := hj.2; exact ⟨by omega, by omega⟩)⟩, ⟨Q12.out, Q14.out⟩, ⟨by omega, by omega, by omega⟩, by omega, by omega, by omega, by omega⟩
          refine useT (key A1 c1 A2 c2 (x1.heap.size) (x4.heap.size) (x7.heap.size) xc hK) ?_
          rfl
        case h4B =>
          intro K hK
          go_simp
          (refine hK.out _ _ ?hS757 (fun hHeld => ?hr757); (case hS757 => exact below_alloc hHeld _); clear hK K; try simp only [Act.put, List.setIfInBounds_toArray, List.set_cons_zero, List.set_cons_succ])
          have HMx4 := Aside0.mk (MapB.made x2)
          have Hbx4 := Aside0.mk (below_alloc (Below.refl x2.heap.size x2) (.map #[] 0))
          have hsx4 : x2.heap.size + 1 ≤ (x2.alloc (.map #[] 0)).heap.size := by simp
          have Q5 := Aside0.mk (Kd.F_below Q3.out Hbx4.out)
          have Q6 := Aside0.mk (HMx2.out.below Hbx4.out)
          generalize x2.alloc (.map #[] 0) = x4 at *
          (refine hd_one (i := 3) (oi := ?oi758) ?hi758 (by kernel_rfl) (by decide) ?hr758; (case hi758 => (simp only [List.getElem?_toArray, List.getElem?_cons_succ, List.getElem?_cons_zero]; rfl)); intro K hK)
          go_simp
          refine (PB.out x4 (hbT HB.out hHeld)).mono ?_
          rintro e x7 ⟨A2, c2, rfl, hFx7, hbx7⟩
          have HFx7 := Aside0.mk hFx7
          have hsx7 := hbx7.size
          have Hbx7 := Aside0.mk hbx7
          clear hFx7
          have Q8 := Aside0.mk (Kd.F_below Q5.out Hbx7.out)
          have Q9 := Aside0.mk (Q6.out.below Hbx7.out)
          have Q10 := Aside0.mk (HMx4.out.below Hbx7.out)
          go_simp
          (refine hK.out _ _ ?hS760 (fun hHeld => ?hr760); (case hS760 => exact hbT hHeld Hbx7.out); clear hK K; try simp only [Act.put, List.setIfInBounds_toArray, List.set_cons_zero, List.set_cons_succ])
          clear hbx7
          (refine hd_take (i := 6) (oi := ?oi761) (v := ?v761) ?hi761 (by kernel_rfl) (by kernel_rfl) (by kernel_rfl) (by kernel_rfl) (by decide) ?hq761 ?hw761 ?hy761 hHeld ?hr761; (case hi761 => (simp only [List.getElem?_toArray, List.getElem?_cons_succ, List.getElem?_cons_zero]; rfl)); (case hw761 => rfl); (case hy761 => (intro w hSw; go_simp; try with_reducible rfl)); (case hq761 => exact fun _ _ _ h => h); simp only [Act.put, List.setIfInBounds_toArray, List.set_cons_zero, List.set_cons_succ])
          (refine hd_one (i := 7) (oi := ?oi763) ?hi763 (by kernel_rfl) (by decide) ?hr763; (case hi763 => (simp only [List.getElem?_toArray, List.getElem?_cons_succ, List.getElem?_cons_zero]; rfl)); intro K hK)
          go_simp
          (refine hK.out _ _ ?hS765 (fun hHeld => ?hr765); (case hS765 => exact below_alloc hHeld _); clear hK K; try simp only [Act.put, List.setIfInBounds_toArray, List.set_cons_zero, List.set_cons_succ])
          have HCc := Aside0.mk (heap_alloc_new x7 (.cells #[.slice A1 P.length c1, .slice A2 Q.length c2, .map (some x1.heap.size), .map (some x2.heap.size)] 138))
          have Hbc := Aside0.mk (below_alloc (Below.refl x7.heap.size x7) (.cells #[.slice A1 P.length c1, .slice A2 Q.length c2, .map (some x1.heap.size), .map (some x2.heap.size)] 138))
          have hsc2 : x7.heap.size + 1 ≤ (x7.alloc (.cells #[.slice A1 P.length c1, .slice A2 Q.length c2, .map (some x1.heap.size), .map (some x2.heap.size)] 138)).heap.size := by simp
          have Q11 := Aside0.mk (Kd.F_below Q8.out Hbc.out)
          have Q12 := Aside0.mk (Q9.out.below Hbc.out)
          have Q13 := Aside0.mk (Q10.out.below Hbc.out)
          have Q14 := Aside0.mk (Kd.F_below HFx7.out Hbc.out)
          generalize x7.alloc (.cells #[.slice A1 P.length c1, .slice A2 Q.length c2, .map (some x1.heap.size), .map (some x2.heap.size)] 138) = xc at *
          (refine hd_one (i := 8) (oi := ?oi766) ?hi766 (by kernel_rfl) (by decide) ?hr766; (case hi766 => (simp only [List.getElem?_toArray, List.getElem?_cons_succ, List.getElem?_cons_zero]; rfl)); intro K hK)
          go_simp
          (refine hK.out _ _ ?hS768 (fun hHeld => ?hr768); (case hS768 => exact hHeld); clear hK K; try simp only [Act.put, List.setIfInBounds_toArray, List.set_cons_zero, List.set_cons_succ])
          (refine hd_done (by kernel_rfl) ?_; simp only [List.drop_succ_cons, List.drop_zero])
          have hK : (Below W.heap.size W xc ∧ xc.heap[x7.heap.size]? = some (.cells (cmpC A1 A2 P.length Q.length c1 c2 x1.heap.size x2.heap.size) 138 (0, 0))) ∧ (Kd.F kPt xc (fun j => j ≠ x1.heap.size ∧ j ≠ x2.heap.size) A1 P.length P ∧ Kd.F kPt xc (fun j => j ≠ x1.heap.size ∧ j ≠ x2.heap.size) A2 Q.length Q) ∧ (MapB xc x1.heap.size [] ∧ MapB xc x2.heap.size []) ∧ (x1.heap.size ≠ x2.heap.size ∧ x7.heap.size ≠ x1.heap.size ∧ x7.heap.size ≠ x2.heap.size) ∧ W.heap.size ≤ x1.heap.size ∧ W.heap.size ≤ x2.heap.size ∧ x1.heap.size < xc.heap.size ∧ x2.heap.size < xc.heap.size := ⟨⟨hHeld, HCc.out⟩, ⟨Kd.F_mono Q11.out (fun j hj => by have h1 := hj.1; have h2 := hj.2; exact ⟨by omega, by omega⟩), Kd.F_mono Q14.out (fun j hj => by have h1 := hj.1; have h2 := hj.2; exact ⟨by omega, by omega⟩)⟩, ⟨Q12.out, Q13.out⟩, ⟨by omega, by omega, by omega⟩, by omega, by omega, by omega, by omega⟩
          refine useT (key A1 c1 A2 c2 (x1.heap.size) (x2.heap.size) (x7.heap.size) xc hK) ?_
          rfl
      case h2C =>
        intro K hK
        go_simp
        (refine hK.out _ _ ?hS770 (fun hHeld => ?hr770); (case hS770 => exact below_alloc hHeld _); clear hK K; try simp only [Act.put, List.setIfInBounds_toArray, List.set_cons_zero, List.set_cons_succ])
        have HMx2 := Aside0.mk (MapB.made x1)
        have Hbx2 := Aside0.mk (below_alloc (Below.refl x1.heap.size x1) (.map #[] 0))
        have hsx2 : x1.heap.size + 1 ≤ (x1.alloc (.map #[] 0)).heap.size := by simp
        have Q3 := Aside0.mk (Kd.F_below HFx1.out Hbx2.out)
        generalize x1.alloc (.map #[] 0) = x2 at *
        refine hd_two (i := 3) (j := 4) (oi := ?o5A) (oj := ?o5B) ?e5A ?e5B (by kernel_rfl) (by decide) (by decide) ?h5A ?h5B
        case e5A => (simp only [List.getElem?_toArray, List.getElem?_cons_succ, List.getElem?_cons_zero]; rfl)
        case e5B => (simp only [List.getElem?_toArray, List.getElem?_cons_succ, List.getElem?_cons_zero]; rfl)
        case h5A =>
          intro K hK
          go_simp
          refine (PB.out x2 (hbT HB.out hHeld)).mono ?_
          rintro e x4 ⟨A2, c2, rfl, hFx4, hbx4⟩
          have HFx4 := Aside0.mk hFx4
          have hsx4 := hbx4.size
          have Hbx4 := Aside0.mk hbx4
          clear hFx4
          have Q5 := Aside0.mk (Kd.F_below Q3.out Hbx4.out)
          have Q6 := Aside0.mk (HMx2.out.below Hbx4.out)
          go_simp
          (refine hK.out _ _ ?hS773 (fun hHeld => ?hr773); (case hS773 => exact hbT hHeld Hbx4.out); clear hK K; try simp only [Act.put, List.setIfInBounds_toArray, List.set_cons_zero, List.set_cons_succ])
          clear hbx4
          (refine hd_one (i := 4) (oi := ?oi774) ?hi774 (by kernel_rfl) (by decide) ?hr774; (case hi774 => (simp only [List.getElem?_toArray, List.getElem?_cons_succ, List.getElem?_cons_zero]; rfl)); intro K hK)
          go_simp
          (refine hK.out _ _ ?hS776 (fun hHeld => ?hr776); (case hS776 => exact below_alloc hHeld _); clear hK K; try simp only [Act.put, List.setIfInBounds_toArray, List.set_cons_zero, List.set_cons_succ])
          have HMx7 := Aside0.mk (MapB.made x4)
          have Hbx7 := Aside0.mk (below_alloc (Below.refl x4.heap.size x4) (.map #[] 0))
          have hsx7 : x4.heap.size + 1 ≤ (x4.alloc (.map #[] 0)).heap.size := by simp
          have Q8 := Aside0.mk (Kd.F_below Q5.out Hbx7.out)
          have Q9 := Aside0.mk (Q6.out.below Hbx7.out)
          have Q10 := Aside0.mk (Kd.F_below HFx4.out Hbx7.out)
          generalize x4.alloc (.map #[] 0) = x7 at *
          (refine hd_take (i := 6) (oi := ?oi777) (v := ?v777) ?hi777 (by kernel_rfl) (by kernel_rfl) (by kernel_rfl) (by kernel_rfl) (by decide) ?hq777 ?hw777 ?hy777 hHeld ?hr777; (case hi777 => (simp only [List.getElem?_toArray, List.getElem?_cons_succ, List.getElem?_cons_zero]; rfl)); (case hw777 => rfl); (case hy777 => (intro w hSw; go_simp; try with_reducible rfl)); (case hq777 => exact fun _ _ _ h => h); simp only [Act.put, List.setIfInBounds_toArray, List.set_cons_zero, List.set_cons_succ])
          (refine hd_one (i := 7) (oi := ?oi779) ?hi779 (by kernel_rfl) (by decide) ?hr779; (case hi779 => (simp only [List.getElem?_toArray, List.getElem?_cons_succ, List.getElem?_cons_zero]; rfl)); intro K hK)
          go_simp
          (refine hK.out _ _ ?hS781 (fun hHeld => ?hr781); (case hS781 => exact below_alloc hHeld _); clear hK K; try simp only [Act.put, List.setIfInBounds_toArray, List.set_cons_zero, List.set_cons_succ])
          have HCc := Aside0.mk (heap_alloc_new x7 (.cells #[.slice A1 P.length c1, .slice A2 Q.length c2, .map (some x4.heap.size), .map (some x1.heap.size)] 138))
          have Hbc := Aside0.mk (below_alloc (Below.refl x7.heap.size x7) (.cells #[.slice A1 P.length c1, .slice A2 Q.length c2, .map (some x4.heap.size), .map (some x1.heap.size)] 138))
          have hsc2 : x7.heap.size + 1 ≤ (x7.alloc (.cells #[.slice A1 P.length c1, .slice A2 Q.length c2, .map (some x4.heap.size), .map (some x1.heap.size)] 138)).heap.size := by simp
          have Q11 := Aside0.mk (Kd.F_below Q8.out Hbc.out)
          have Q12 := Aside0.mk (Q9.out.below Hbc.out)
          have Q13 := Aside0.mk (Kd.F_below Q10.out Hbc.out)
          have Q14 := Aside0.mk (HMx7.out.below Hbc.out)
          generalize x7.alloc (.cells #[.slice A1 P.length c1, .slice A2 Q.length c2, .map (some x4.heap.size), .map (some x1.heap.size)] 138) = xc at *
          (refine hd_one (i := 8) (oi := ?oi782) ?hi782 (by kernel_rfl) (by decide) ?hr782; (case hi782 => (simp only [List.getElem?_toArray, List.getElem?_cons_succ, List.getElem?_cons_zero]; rfl)); intro K hK)
          go_simp
          (refine hK.out _ _ ?hS784 (fun hHeld => ?hr784); (case hS784 => exact hHeld); clear hK K; try simp only [Act.put, List.setIfInBounds_toArray, List.set_cons_zero, List.set_cons_succ])
          (refine hd_done (by kernel_rfl) ?_; simp only [List.drop_succ_cons, List.drop_zero])
          have hK : (Below W.heap.size W xc ∧ xc.heap[x7.heap.size]? = some (.cells (cmpC A1 A2 P.length Q.length c1 c2 x4.heap.size x1.heap.size) 138 (0, 0))) ∧ (Kd.F kPt xc (fun j => j ≠ x4.heap.size ∧ j ≠ x1.heap.size) A1 P.length P ∧ Kd.F kPt xc (fun j => j ≠ x4.heap.size ∧ j ≠ x1.heap.size) A2 Q.length Q) ∧ (MapB xc x4.heap.size [] ∧ MapB xc x1.heap.size []) ∧ (x4.heap.size ≠ x1.heap.size ∧ x7.heap.size ≠ x4.heap.size ∧ x7.heap.size ≠ x1.heap.size) ∧ W.heap.size ≤ x4.heap.size ∧ W.heap.size ≤ x1.heap.size ∧ x4.heap.size < xc.heap.size ∧ x1.heap.size < xc.heap.size := ⟨⟨hHeld, HCc.out⟩, ⟨Kd.F_mono Q11.out (fun j hj => by have h1 := hj.1; have h2 := hj.2; exact ⟨by omega, by omega⟩), Kd.F_mono Q13.out (fun j hj => by have h1 := hj.1; have h2 := hj.2; exact ⟨by omega, by omega⟩)⟩, ⟨Q14.out, Q12.out⟩, ⟨by omega, by omega, by omega⟩, by omega, by omega, by omega, by omega⟩
          refine useT (key A1 c1 A2 c2 (x4.heap.size) (x1.heap.size) (x7.heap.size) xc hK) ?_
          rfl
        case h5B =>
          intro K hK
          go_simp
          (refine hK.out _ _ ?hS786 (fun hHeld => ?hr786); (case hS786 => exact below_alloc hHeld _); clear hK K; try simp only [Act.put, List.setIfInBounds_toArray, List.set_cons_zero, List.set_cons_succ])
          have HMx4 := Aside0.mk (MapB.made x2)
          have Hbx4 := Aside0.mk (below_alloc (Below.refl x2.heap.size x2) (.map #[] 0))
          have hsx4 : x2.heap.size + 1 ≤ (x2.alloc (.map #[] 0)).heap.size := by simp
          have Q5 := Aside0.mk (Kd.F_below Q3.out Hbx4.out)
          have Q6 := Aside0.mk (HMx2.out.below Hbx4.out)
          generalize x2.alloc (.map #[] 0) = x4 at *
          (refine hd_one (i := 3) (oi := ?oi787) ?hi787 (by kernel_rfl) (by decide) ?hr787; (case hi787 => (simp only [List.getElem?_toArray, List.getElem?_cons_succ, List.getElem?_cons_zero]; rfl)); intro K hK)
          go_simp
          refine (PB.out x4 (hbT HB.out hHeld)).mono ?_
          rintro e x7 ⟨A2, c2, rfl, hFx7, hbx7⟩
          have HFx7 := Aside0.mk hFx7
          have hsx7 := hbx7.size
          have Hbx7 := Aside0.mk hbx7
          clear hFx7
          have Q8 := Aside0.mk (Kd.F_below Q5.out Hbx7.out)
          have Q9 := Aside0.mk (Q6.out.below Hbx7.out)
          have Q10 := Aside0.mk (HMx4.out.below Hbx7.out)
          go_simp
          (refine hK.out _ _ ?hS789 (fun hHeld => ?hr789); (case hS789 => exact hbT hHeld Hbx7.out); clear hK K; try simp only [Act.put, List.setIfInBounds_toArray, List.set_cons_zero, List.set_cons_succ])
          clear hbx7
          (refine hd_take (i := 6) (oi := ?oi790) (v := ?v790) ?hi790 (by kernel_rfl) (by kernel_rfl) (by kernel_rfl) (by kernel_rfl) (by decide) ?hq790 ?hw790 ?hy790 hHeld ?hr790; (case hi790 => (simp only [List.getElem?_toArray, List.getElem?_cons_succ, List.getElem?_cons_zero]; rfl)); (case hw790 => rfl); (case hy790 => (intro w hSw; go_simp; try with_reducible rfl)); (case hq790 => exact fun _ _ _ h => h); simp only [Act.put, List.setIfInBounds_toArray, List.set_cons_zero, List.set_cons_succ])
          (refine hd_one (i := 7) (oi := ?oi792) ?hi792 (by kernel_rfl) (by decide) ?hr792; (case hi792 => (simp only [List.getElem?_toArray, List.getElem?_cons_succ, List.getElem?_cons_zero]; rfl)); intro K hK)
          go_simp
          (refine hK.out _ _ ?hS794 (fun hHeld => ?hr794); (case hS794 => exact below_alloc hHeld _); clear hK K; try simp only [Act.put, List.setIfInBounds_toArray, List.set_cons_zero, List.set_cons_succ])
          have HCc := Aside0.mk (heap_alloc_new x7 (.cells #[.slice A1 P.length c1, .slice A2 Q.length c2, .map (some x2.heap.size), .map (some x1.heap.size)] 138))
          have Hbc := Aside0.mk (below_alloc (Below.refl x7.heap.size x7) (.cells #[.slice A1 P.length c1, .slice A2 Q.length c2, .map (some x2.heap.size), .map (some x1.heap.size)] 138))
          have hsc2 : x7.heap.size + 1 ≤ (x7.alloc (.cells #[.slice A1 P.length c1, .slice A2 Q.length c2, .map (some x2.heap.size), .map (some x1.heap.size)] 138)).heap.size := by simp
          have Q11 := Aside0.mk (Kd.F_below Q8.out Hbc.out)
          have Q12 := Aside0.mk (Q9.out.below Hbc.out)
          have Q13 := Aside0.mk (Q10.out.below Hbc.out)
          have Q14 := Aside0.mk (Kd.F_below HFx7.out Hbc.out)
          generalize x7.alloc (.cells #[.slice A1 P.length c1, .slice A2 Q.length c2, .map (some x2.heap.size), .map (some x1.heap.size)] 138) = xc at *
          (refine hd_one (i := 8) (oi := ?oi795) ?hi795 (by kernel_rfl) (by decide) ?hr795; (case hi795 => (simp only [List.getElem?_toArray, List.getElem?_cons_succ, List.getElem?_cons_zero]; rfl)); intro K hK)
          go_simp
          (refine hK.out _ _ ?hS797 (fun hHeld => ?hr797); (case hS797 => exact hHeld); clear hK K; try simp only [Act.put, List.setIfInBounds_toArray, List.set_cons_zero, List.set_cons_succ])
          (refine hd_done (by kernel_rfl) ?_; simp only [List.drop_succ_cons, List.drop_zero])
          have hK : (Below W.heap.size W xc ∧ xc.heap[x7.heap.size]? = some (.cells (cmpC A1 A2 P.length Q.length c1 c2 x2.heap.size x1.heap.size) 138 (0, 0))) ∧ (Kd.F kPt xc (fun j => j ≠ x2.heap.size ∧ j ≠ x1.heap.size) A1 P.length P ∧ Kd.F kPt xc (fun j => j ≠ x2.heap.size ∧ j ≠ x1.heap.size) A2 Q.length Q) ∧ (MapB xc x2.heap.size [] ∧ MapB xc x1.heap.size []) ∧ (x2.heap.size ≠ x1.heap.size ∧ x7.heap.size ≠ x2.heap.size ∧ x7.heap.size ≠ x1.heap.size) ∧ W.heap.size ≤ x2.heap.size ∧ W.heap.size ≤ x1.heap.size ∧ x2.heap.size < xc.heap.size ∧ x1.heap.size < xc.heap.size := ⟨⟨hHeld, HCc.out⟩, ⟨Kd.F_mono Q11.out (fun j hj => by have h1 := hj.1; have h2 := hj.2; exact ⟨by omega, by omega⟩), Kd.F_mono Q14.out (fun j hj => by have h1 := hj.1; have h2 := hj.2; exact ⟨by omega, by omega⟩)⟩, ⟨Q13.out, Q12.out⟩, ⟨by omega, by omega, by omega⟩, by omega, by omega, by omega, by omega⟩
          refine useT (key A1 c1 A2 c2 (x2.heap.size) (x1.heap.size) (x7.heap.size) xc hK) ?_
          rfl
    case h1B =>
      intro K hK
      go_simp
      (refine hK.out _ _ ?hS799 (fun hHeld => ?hr799); (case hS799 => exact below_alloc hHeld _); clear hK K; try simp only [Act.put, List.setIfInBounds_toArray, List.set_cons_zero, List.set_cons_succ])
      have HMx1 := Aside0.mk (MapB.made W3)
      have Hbx1 := Aside0.mk (below_alloc (Below.refl W3.heap.size W3) (.map #[] 0))
      have hsx1 : W3.heap.size + 1 ≤ (W3.alloc (.map #[] 0)).heap.size := by simp
      generalize W3.alloc (.map #[] 0) = x1 at *
      refine hd_two (i := 1) (j := 5) (oi := ?o6A) (oj := ?o6B) ?e6A ?e6B (by kernel_rfl) (by decide) (by decide) ?h6A ?h6B
      case e6A => (simp only [List.getElem?_toArray, List.getElem?_cons_succ, List.getElem?_cons_zero]; rfl)
      case e6B => (simp only [List.getElem?_toArray, List.getElem?_cons_succ, List.getElem?_cons_zero]; rfl)
      case h6A =>
        intro K hK
        go_simp
        refine (PA.out x1 (hbT HB.out hHeld)).mono ?_
        rintro e x2 ⟨A1, c1, rfl, hFx2, hbx2⟩
        have HFx2 := Aside0.mk hFx2
        have hsx2 := hbx2.size
        have Hbx2 := Aside0.mk hbx2
        clear hFx2
        have Q3 := Aside0.mk (HMx1.out.below Hbx2.out)
        go_simp
        (refine hK.out _ _ ?hS802 (fun hHeld => ?hr802); (case hS802 => exact hbT hHeld Hbx2.out); clear hK K; try simp only [Act.put, List.setIfInBounds_toArray, List.set_cons_zero, List.set_cons_succ])
        clear hbx2
        refine hd_two (i := 3) (j := 5) (oi := ?o7A) (oj := ?o7B) ?e7A ?e7B (by kernel_rfl) (by decide) (by decide) ?h7A ?h7B
        case e7A => (simp only [List.getElem?_toArray, List.getElem?_cons_succ, List.getElem?_cons_zero]; rfl)
        case e7B => (simp only [List.getElem?_toArray, List.getElem?_cons_succ, List.getElem?_cons_zero]; rfl)
        case h7A =>
          intro K hK
          go_simp
          refine (PB.out x2 (hbT HB.out hHeld)).mono ?_
          rintro e x4 ⟨A2, c2, rfl, hFx4, hbx4⟩
          have HFx4 := Aside0.mk hFx4
          have hsx4 := hbx4.size
          have Hbx4 := Aside0.mk hbx4
          clear hFx4
          have Q5 := Aside0.mk (Q3.out.below Hbx4.out)
          have Q6 := Aside0.mk (Kd.F_below HFx2.out Hbx4.out)
          go_simp
          (refine hK.out _ _ ?hS805 (fun hHeld => ?hr805); (case hS805 => exact hbT hHeld Hbx4.out); clear hK K; try simp only [Act.put, List.setIfInBounds_toArray, List.set_cons_zero, List.set_cons_succ])
          clear hbx4
          (refine hd_one (i := 5) (oi := ?oi806) ?hi806 (by kernel_rfl) (by decide) ?hr806; (case hi806 => (simp only [List.getElem?_toArray, List.getElem?_cons_succ, List.getElem?_cons_zero]; rfl)); intro K hK)
          go_simp
          (refine hK.out _ _ ?hS808 (fun hHeld => ?hr808); (case hS808 => exact below_alloc hHeld _); clear hK K; try simp only [Act.put, List.setIfInBounds_toArray, List.set_cons_zero, List.set_cons_succ])
          have HMx7 := Aside0.mk (MapB.made x4)
          have Hbx7 := Aside0.mk (below_alloc (Below.refl x4.heap.size x4) (.map #[] 0))
          have hsx7 : x4.heap.size + 1 ≤ (x4.alloc (.map #[] 0)).heap.size := by simp
          have Q8 := Aside0.mk (Q5.out.below Hbx7.out)
          have Q9 := Aside0.mk (Kd.F_below Q6.out Hbx7.out)
          have Q10 := Aside0.mk (Kd.F_below HFx4.out Hbx7.out)
          generalize x4.alloc (.map #[] 0) = x7 at *
          (refine hd_take (i := 6) (oi := ?oi809) (v := ?v809) ?hi809 (by kernel_rfl) (by kernel_rfl) (by kernel_rfl) (by kernel_rfl) (by decide) ?hq809 ?hw809 ?hy809 hHeld ?hr809; (case hi809 => (simp only [List.getElem?_toArray, List.getElem?_cons_succ, List.getElem?_cons_zero]; rfl)); (case hw809 => rfl); (case hy809 => (intro w hSw; go_simp; try with_reducible rfl)); (case hq809 => exact fun _ _ _ h => h); simp only [Act.put, List.setIfInBounds_toArray, List.set_cons_zero, List.set_cons_succ])
          (refine hd_one (i := 7) (oi := ?oi811) ?hi811 (by kernel_rfl) (by decide) ?hr811; (case hi811 => (simp only [List.getElem?_toArray, List.getElem?_cons_succ, List.getElem?_cons_zero]; rfl)); intro K hK)
          go_simp
          (refine hK.out _ _ ?hS813 (fun hHeld => ?hr813); (case hS813 => exact below_alloc hHeld _); clear hK K; try simp only [Act.put, List.setIfInBounds_toArray, List.set_cons_zero, List.set_cons_succ])
          have HCc := Aside0.mk (heap_alloc_new x7 (.cells #[.slice A1 P.length c1, .slice A2 Q.length c2, .map (some W3.heap.size), .map (some x4.heap.size)] 138))
          have Hbc := Aside0.mk (below_alloc (Below.refl x7.heap.size x7) (.cells #[.slice A1 P.length c1, .slice A2 Q.length c2, .map (some W3.heap.size), .map (some x4.heap.size)] 138))
          have hsc2 : x7.heap.size + 1 ≤ (x7.alloc (.cells #[.slice A1 P.length c1, .slice A2 Q.length c2, .map (some W3.heap.size), .map (some x4.heap.size)] 138)).heap.size := by simp
          have Q11 := Aside0.mk (Q8.out.below Hbc.out)
          have Q12 := Aside0.mk (Kd.F_below Q9.out Hbc.out)
          have Q13 := Aside0.mk (Kd.F_below Q10.out Hbc.out)
          have Q14 := Aside0.mk (HMx7.out.below Hbc.out)
          generalize x7.alloc (.cells #[.slice A1 P.length c1, .slice A2 Q.length c2, .map (some W3.heap.size), .map (some x4.heap.size)] 138) = xc at *
          (refine hd_one (i := 8) (oi := ?oi814) ?hi814 (by kernel_rfl) (by decide) ?hr814; (case hi814 => (simp only [List.getElem?_toArray, List.getElem?_cons_succ, List.getElem?_cons_zero]; rfl)); intro K hK)
          go_simp
          (refine hK.out _ _ ?hS816 (fun hHeld => ?hr816); (case hS816 => exact hHeld); clear hK K; try simp only [Act.put, List.setIfInBounds_toArray, List.set_cons_zero, List.set_cons_succ])
          (refine hd_done (by kernel_rfl) ?_; simp only [List.drop_succ_cons, List.drop_zero])
          have hK : (Below W.heap.size W xc ∧ xc.heap[x7.heap.size]? = some (.cells (cmpC A1 A2 P.length Q.length c1 c2 W3.heap.size x4.heap.size) 138 (0, 0))) ∧ (Kd.F kPt xc (fun j => j ≠ W3.heap.size ∧ j ≠ x4.heap.size) A1 P.length P ∧ Kd.F kPt xc (fun j => j ≠ W3.heap.size ∧ j ≠ x4.heap.size) A2 Q.length Q) ∧ (MapB xc W3.heap.size [] ∧ MapB xc x4.heap.size []) ∧ (W3.heap.size ≠ x4.heap.size ∧ x7.heap.size ≠ W3.heap.size ∧ x7.heap.size ≠ x4.heap.size) ∧ W.heap.size ≤ W3.heap.size ∧ W.heap.size ≤ x4.heap.size ∧ W3.heap.size < xc.heap.size ∧ x4.heap.size < xc.heap.size := ⟨⟨hHeld, HCc.out⟩, ⟨Kd.F_mono Q12.out (fun j hj => by have h1 := hj.1; have h2 := hj.2; exact ⟨by omega, by omega⟩), Kd.F_mono Q13.out (fun j hj => by have h1 := hj.1; have h2 := hj.2; exact ⟨by omega, by omega⟩)⟩, ⟨Q11.out, Q14.out⟩, ⟨by omega, by omega, by omega⟩, by omega, by omega, by omega, by omega⟩
          refine useT (key A1 c1 A2 c2 (W3.heap.size) (x4.heap.size) (x7.heap.size) xc hK) ?_
          rfl
        case h7B =>
          intro K hK
          go_simp
          (refine hK.out _ _ ?hS818 (fun hHeld => ?hr818); (case hS818 => exact below_alloc hHeld _); clear hK K; try simp only [Act.put, List.setIfInBounds_toArray, List.set_cons_zero, List.set_cons_succ])
          have HMx4 := Aside0.mk (MapB.made x2)
          have Hbx4 := Aside0.mk (below_alloc (Below.refl x2.heap.size x2) (.map #[] 0))
          have hsx4 : x2.heap.size + 1 ≤ (x2.alloc (.map #[] 0)).heap.size := by simp
          have Q5 := Aside0.mk (Q3.out.below Hbx4.out)
          have Q6 := Aside0.mk (Kd.F_below HFx2.out Hbx4.out)
          generalize x2.alloc (.map #[] 0) = x4 at *
          (refine hd_one (i := 3) (oi := ?oi819) ?hi819 (by kernel_rfl) (by decide) ?hr819; (case hi819 => (simp only [List.getElem?_toArray, List.getElem?_cons_succ, List.getElem?_cons_zero]; rfl)); intro K hK)
          go_simp
          refine (PB.out x4 (hbT HB.out hHeld)).mono ?_
          rintro e x7 ⟨A2, c2, rfl, hFx7, hbx7⟩
          have HFx7 := Aside0.mk hFx7
          have hsx7 := hbx7.size
          have Hbx7 := Aside0.mk hbx7
          clear hFx7
          have Q8 := Aside0.mk (Q5.out.below Hbx7.out)
          have Q9 := Aside0.mk (Kd.F_below Q6.out Hbx7.out)
          have Q10 := Aside0.mk (HMx4.out.below Hbx7.out)
          go_simp
          (refine hK.out _ _ ?hS821 (fun hHeld => ?hr821); (case hS821 => exact hbT hHeld Hbx7.out); clear hK K; try simp only [Act.put, List.setIfInBounds_toArray, List.set_cons_zero, List.set_cons_succ])
          clear hbx7
          (refine hd_take (i := 6) (oi := ?oi822) (v := ?v822) ?hi822 (by kernel_rfl) (by kernel_rfl) (by kernel_rfl) (by kernel_rfl) (by decide) ?hq822 ?hw822 ?hy822 hHeld ?hr822; (case hi822 => (simp only [List.getElem?_toArray, List.getElem?_cons_succ, List.getElem?_cons_zero]; rfl)); (case hw822 => rfl); (case hy822 => (intro w hSw; go_simp; try with_reducible rfl)); (case hq822 => exact fun _ _ _ h => h); simp only [Act.put, List.setIfInBounds_toArray, List.set_cons_zero, List.set_cons_succ])
          (refine hd_one (i := 7) (oi := ?oi824) ?hi824 (by kernel_rfl) (by decide) ?hr824; (case hi824 => (simp only [List.getElem?_toArray, List.getElem?_cons_succ, List.getElem?_cons_zero]; rfl)); intro K hK)
          go_simp
          (refine hK.out _ _ ?hS826 (fun hHeld => ?hr826); (case hS826 => exact below_alloc hHeld _); clear hK K; try simp only [Act.put, List.setIfInBounds_toArray, List.set_cons_zero, List.set_cons_succ])
          have HCc := Aside0.mk (heap_alloc_new x7 (.cells #[.slice A1 P.length c1, .slice A2 Q.length c2, .map (some W3.heap.size), .map (some x2.heap.size)] 138))
          have Hbc := Aside0.mk (below_alloc (Below.refl x7.heap.size x7) (.cells #[.slice A1 P.length c1, .slice A2 Q.length c2, .map (some W3.heap.size), .map (some x2.heap.size)] 138))
          have hsc2 : x7.heap.size + 1 ≤ (x7.alloc (.cells #[.slice A1 P.length c1, .slice A2 Q.length c2, .map (some W3.heap.size), .map (some x2.heap.size)] 138)).heap.size := by simp
          have Q11 := Aside0.mk (Q8.out.below Hbc.out)
          have Q12 := Aside0.mk (Kd.F_below Q9.out Hbc.out)
          have Q13 := Aside0.mk (Q10.out.below Hbc.out)
          have Q14 := Aside0.mk (Kd.F_below HFx7.out Hbc.out)
          generalize x7.alloc (.cells #[.slice A1 P.length c1, .slice A2 Q.length c2, .map (some W3.heap.size), .map (some x2.heap.size)] 138) = xc at *
          (refine hd_one (i := 8) (oi := ?oi827) ?hi827 (by kernel_rfl) (by decide) ?hr827; (case hi827 => (simp only [List.getElem?_toArray, List.getElem?_cons_succ, List.getElem?_cons_zero]; rfl)); intro K hK)
          go_simp
          (refine hK.out _ _ ?hS829 (fun hHeld => ?hr829); (case hS829 => exact hHeld); clear hK K; try simp only [Act.put, List.setIfInBounds_toArray, List.set_cons_zero, List.set_cons_succ])
          (refine hd_done (by kernel_rfl) ?_; simp only [List.drop_succ_cons, List.drop_zero])
          have hK : (Below W.heap.size W xc ∧ xc.heap[x7.heap.size]? = some (.cells (cmpC A1 A2 P.length Q.length c1 c2 W3.heap.size x2.heap.size) 138 (0, 0))) ∧ (Kd.F kPt xc (fun j => j ≠ W3.heap.size ∧ j ≠ x2.heap.size) A1 P.length P ∧ Kd.F kPt xc (fun j => j ≠ W3.heap.size ∧ j ≠ x2.heap.size) A2 Q.length Q) ∧ (MapB xc W3.heap.size [] ∧ MapB xc x2.heap.size []) ∧ (W3.heap.size ≠ x2.heap.size ∧ x7.heap.size ≠ W3.heap.size ∧ x7.heap.size ≠ x2.heap.size) ∧ W.heap.size ≤ W3.heap.size ∧ W.heap.size ≤ x2.heap.size ∧ W3.heap.size < xc.heap.size ∧ x2.heap.size < xc.heap.size := ⟨⟨hHeld, HCc.out⟩, ⟨Kd.F_mono Q12.out (fun j hj => by have h1 := hj.1; have h2 := hj.2; exact ⟨by omega, by omega⟩), Kd.F_mono Q14.out (fun j hj => by have h1 := hj.1; have h2 := hj.2; exact ⟨by omega, by omega⟩)⟩, ⟨Q11.out, Q13.out⟩, ⟨by omega, by omega, by omega⟩, by omega, by omega, by omega, by omega⟩
          refine useT (key A1 c1 A2 c2 (W3.heap.size) (x2.heap.size) (x7.heap.size) xc hK) ?_
          rfl
      case h6B =>
        intro K hK
        go_simp
        (refine hK.out _ _ ?hS831 (fun hHeld => ?hr831); (case hS831 => exact below_alloc hHeld _); clear hK K; try simp only [Act.put, List.setIfInBounds_toArray, List.set_cons_zero, List.set_cons_succ])
        have HMx2 := Aside0.mk (MapB.made x1)
        have Hbx2 := Aside0.mk (below_alloc (Below.refl x1.heap.size x1) (.map #[] 0))
        have hsx2 : x1.heap.size + 1 ≤ (x1.alloc (.map #[] 0)).heap.size := by simp
        have Q3 := Aside0.mk (HMx1.out.below Hbx2.out)
        generalize x1.alloc (.map #[] 0) = x2 at *
        (refine hd_one (i := 1) (oi := ?oi832) ?hi832 (by kernel_rfl) (by decide) ?hr832; (case hi832 => (simp only [List.getElem?_toArray, List.getElem?_cons_succ, List.getElem?_cons_zero]; rfl)); intro K hK)
        go_simp
        refine (PA.out x2 (hbT HB.out hHeld)).mono ?_
        rintro e x4 ⟨A1, c1, rfl, hFx4, hbx4⟩
        have HFx4 := Aside0.mk hFx4
        have hsx4 := hbx4.size
        have Hbx4 := Aside0.mk hbx4
        clear hFx4
        have Q5 := Aside0.mk (Q3.out.below Hbx4.out)
        have Q6 := Aside0.mk (HMx2.out.below Hbx4.out)
        go_simp
        (refine hK.out _ _ ?hS834 (fun hHeld => ?hr834); (case hS834 => exact hbT hHeld Hbx4.out); clear hK K; try simp only [Act.put, List.setIfInBounds_toArray, List.set_cons_zero, List.set_cons_succ])
        clear hbx4
        (refine hd_one (i := 3) (oi := ?oi835) ?hi835 (by kernel_rfl) (by decide) ?hr835; (case hi835 => (simp only [List.getElem?_toArray, List.getElem?_cons_succ, List.getElem?_cons_zero]; rfl)); intro K hK)
        go_simp
        refine (PB.out x4 (hbT HB.out hHeld)).mono ?_
        rintro e x7 ⟨A2, c2, rfl, hFx7, hbx7⟩
        have HFx7 := Aside0.mk hFx7
        have hsx7 := hbx7.size
        have Hbx7 := Aside0.mk hbx7
        clear hFx7
        have Q8 := Aside0.mk (Q5.out.below Hbx7.out)
        have Q9 := Aside0.mk (Q6.out.below Hbx7.out)
        have Q10 := Aside0.mk (Kd.F_below HFx4.out Hbx7.out)
        go_simp
        (refine hK.out _ _ ?hS837 (fun hHeld => ?hr837); (case hS837 => exact hbT hHeld Hbx7.out); clear hK K; try simp only [Act.put, List.setIfInBounds_toArray, List.set_cons_zero, List.set_cons_succ])
        clear hbx7
        (refine hd_take (i := 6) (oi := ?oi838) (v := ?v838) ?hi838 (by kernel_rfl) (by kernel_rfl) (by kernel_rfl) (by kernel_rfl) (by decide) ?hq838 ?hw838 ?hy838 hHeld ?hr838; (case hi838 => (simp only [List.getElem?_toArray, List.getElem?_cons_succ, List.getElem?_cons_zero]; rfl)); (case hw838 => rfl); (case hy838 => (intro w hSw; go_simp; try with_reducible rfl)); (case hq838 => exact fun _ _ _ h => h); simp only [Act.put, List.setIfInBounds_toArray, List.set_cons_zero, List.set_cons_succ])
        (refine hd_one (i := 7) (oi := ?oi840) ?hi840 (by kernel_rfl) (by decide) ?hr840; (case hi840 => (simp only [List.getElem?_toArray, List.getElem?_cons_succ, List.getElem?_cons_zero]; rfl)); intro K hK)
        go_simp
        (refine hK.out _ _ ?hS842 (fun hHeld => ?hr842); (case hS842 => exact below_alloc hHeld _); clear hK K; try simp only [Act.put, List.setIfInBounds_toArray, List.set_cons_zero, List.set_cons_succ])
        have HCc := Aside0.mk (heap_alloc_new x7 (.cells #[.slice A1 P.length c1, .slice A2 Q.length c2, .map (some W3.heap.size), .map (some x1.heap.size)] 138))
        have Hbc := Aside0.mk (below_alloc (Below.refl x7.heap.size x7) (.cells #[.slice A1 P.length c1, .slice A2 Q.length c2, .map (some W3.heap.size), .map (some x1.heap.size)] 138))
        have hsc2 : x7.heap.size + 1 ≤ (x7.alloc (.cells #[.slice A1 P.length c1, .slice A2 Q.length c2, .map (some W3.heap.size), .map (some x1.heap.size)] 138)).heap.size := by simp
        have Q11 := Aside0.mk (Q8.out.below Hbc.out)
        have Q12 := Aside0.mk (Q9.out.below Hbc.out)
        have Q13 := Aside0.mk (Kd.F_below Q10.out Hbc.out)
        have Q14 := Aside0.mk (Kd.F_below HFx7.out Hbc.out)
        generalize x7.alloc (.cells #[.slice A1 P.length c1, .slice A2 Q.length c2, .map (some W3.heap.size), .map (some x1.heap.size)] 138) = xc at *
        (refine hd_one (i := 8) (oi := ?oi843) ?hi843 (by kernel_rfl) (by decide) ?hr843; (case hi843 => (simp only [List.getElem?_toArray, List.getElem?_cons_succ, List.getElem?_cons_zero]; rfl)); intro K hK)
        go_simp
        (refine hK.out _ _ ?hS845 (fun hHeld => ?hr845); (case hS845 => exact hHeld); clear hK K; try simp only [Act.put, List.setIfInBounds_toArray, List.set_cons_zero, List.set_cons_succ])
        (refine hd_done (by kernel_rfl) ?_; simp only [List.drop_succ_cons, List.drop_zero])
        have hK : (Below W.heap.size W xc ∧ xc.heap[x7.heap.size]? = some (.cells (cmpC A1 A2 P.length Q.length c1 c2 W3.heap.size x1.heap.size) 138 (0, 0))) ∧ (Kd.F kPt xc (fun j => j ≠ W3.heap.size ∧ j ≠ x1.heap.size) A1 P.length P ∧ Kd.F kPt xc (fun j => j ≠ W3.heap.size ∧ j ≠ x1.heap.size) A2 Q.length Q) ∧ (MapB xc W3.heap.size [] ∧ MapB xc x1.heap.size []) ∧ (W3.heap.size ≠ x1.heap.size ∧ x7.heap.size ≠ W3.heap.size ∧ x7.heap.size ≠ x1.heap.size) ∧ W.heap.size ≤ W3.heap.size ∧ W.heap.size ≤ x1.heap.size ∧ W3.heap.size < xc.heap.size ∧ x1.heap.size < xc.heap.size := ⟨⟨hHeld, HCc.out⟩, ⟨Kd.F_mono Q13.out (fun j hj => by have h1 := hj.1; have h2 := hj.2; exact ⟨by omega, by omega⟩), Kd.F_mono Q14.out (fun j hj => by have h1 := hj.1; have h2 := hj.2; exact ⟨by omega, by omega⟩)⟩, ⟨Q11.out, Q12.out⟩, ⟨by omega, by omega, by omega⟩, by omega, by omega, by omega, by omega⟩
        refine useT (key A1 c1 A2 c2 (W3.heap.size) (x1.heap.size) (x7.heap.size) xc hK) ?_
        rfl
    case h1C =>
      intro K hK
      go_simp
      (refine hK.out _ _ ?hS847 (fun hHeld => ?hr847); (case hS847 => exact below_alloc hHeld _); clear hK K; try simp only [Act.put, List.setIfInBounds_toArray, List.set_cons_zero, List.set_cons_succ])
      have HMx1 := Aside0.mk (MapB.made W3)
      have Hbx1 := Aside0.mk (below_alloc (Below.refl W3.heap.size W3) (.map #[] 0))
      have hsx1 : W3.heap.size + 1 ≤ (W3.alloc (.map #[] 0)).heap.size := by simp
      generalize W3.alloc (.map #[] 0) = x1 at *
      refine hd_two (i := 1) (j := 4) (oi := ?o8A) (oj := ?o8B) ?e8A ?e8B (by kernel_rfl) (by decide) (by decide) ?h8A ?h8B
      case e8A => (simp only [List.getElem?_toArray, List.getElem?_cons_succ, List.getElem?_cons_zero]; rfl)
      case e8B => (simp only [List.getElem?_toArray, List.getElem?_cons_succ, List.getElem?_cons_zero]; rfl)
      case h8A =>
        intro K hK
        go_simp
        refine (PA.out x1 (hbT HB.out hHeld)).mono ?_
        rintro e x2 ⟨A1, c1, rfl, hFx2, hbx2⟩
        have HFx2 := Aside0.mk hFx2
        have hsx2 := hbx2.size
        have Hbx2 := Aside0.mk hbx2
        clear hFx2
        have Q3 := Aside0.mk (HMx1.out.below Hbx2.out)
        go_simp
        (refine hK.out _ _ ?hS850 (fun hHeld => ?hr850); (case hS850 => exact hbT hHeld Hbx2.out); clear hK K; try simp only [Act.put, List.setIfInBounds_toArray, List.set_cons_zero, List.set_cons_succ])
        clear hbx2
        refine hd_two (i := 3) (j := 4) (oi := ?o9A) (oj := ?o9B) ?e9A ?e9B (by kernel_rfl) (by decide) (by decide) ?h9A ?h9B
        case e9A => (simp only [List.getElem?_toArray, List.getElem?_cons_succ, List.getElem?_cons_zero]; rfl)
        case e9B => (simp only [List.getElem?_toArray, List.getElem?_cons_succ, List.getElem?_cons_zero]; rfl)
        case h9A =>
          intro K hK
          go_simp
          refine (PB.out x2 (hbT HB.out hHeld)).mono ?_
          rintro e x4 ⟨A2, c2, rfl, hFx4, hbx4⟩
          have HFx4 := Aside0.mk hFx4
          have hsx4 := hbx4.size
          have Hbx4 := Aside0.mk hbx4
          clear hFx4
          have Q5 := Aside0.mk (Q3.out.below Hbx4.out)
          have Q6 := Aside0.mk (Kd.F_below HFx2.out Hbx4.out)
          go_simp
          (refine hK.out _ _ ?hS853 (fun hHeld => ?hr853); (case hS853 => exact hbT hHeld Hbx4.out); clear hK K; try simp only [Act.put, List.setIfInBounds_toArray, List.set_cons_zero, List.set_cons_succ])
          clear hbx4
          (refine hd_one (i := 4) (oi := ?oi854) ?hi854 (by kernel_rfl) (by decide) ?hr854; (case hi854 => (simp only [List.getElem?_toArray, List.getElem?_cons_succ, List.getElem?_cons_zero]; rfl)); intro K hK)
          go_simp
          (refine hK.out _ _ ?hS856 (fun hHeld => ?hr856); (case hS856 => exact below_alloc hHeld _); clear hK K; try simp only [Act.put, List.setIfInBounds_toArray, List.set_cons_zero, List.set_cons_succ])
          have HMx7 := Aside0.mk (MapB.made x4)
          have Hbx7 := Aside0.mk (below_alloc (Below.refl x4.heap.size x4) (.map #[] 0))
          have hsx7 : x4.heap.size + 1 ≤ (x4.alloc (.map #[] 0)).heap.size := by simp
          have Q8 := Aside0.mk (Q5.out.below Hbx7.out)
          have Q9 := Aside0.mk (Kd.F_below Q6.out Hbx7.out)
          have Q10 := Aside0.mk (Kd.F_below HFx4.out Hbx7.out)
          generalize x4.alloc (.map #[] 0) = x7 at *
          (refine hd_take (i := 6) (oi := ?oi857) (v := ?v857) ?hi857 (by kernel_rfl) (by kernel_rfl) (by kernel_rfl) (by kernel_rfl) (by decide) ?hq857 ?hw857 ?hy857 hHeld ?hr857; (case hi857 => (simp only [List.getElem?_toArray, List.getElem?_cons_succ, List.getElem?_cons_zero]; rfl)); (case hw857 => rfl); (case hy857 => (intro w hSw; go_simp; try with_reducible rfl)); (case hq857 => exact fun _ _ _ h => h); simp only [Act.put, List.setIfInBounds_toArray, List.set_cons_zero, List.set_cons_succ])
          (refine hd_one (i := 7) (oi := ?oi859) ?hi859 (by kernel_rfl) (by decide) ?hr859; (case hi859 => (simp only [List.getElem?_toArray, List.getElem?_cons_succ, List.getElem?_cons_zero]; rfl)); intro K hK)
          go_simp
          (refine hK.out _ _ ?hS861 (fun hHeld => ?hr861); (case hS861 => exact below_alloc hHeld _); clear hK K; try simp only [Act.put, List.setIfInBounds_toArray, List.set_cons_zero, List.set_cons_succ])
          have HCc := Aside0.mk (heap_alloc_new x7 (.cells #[.slice A1 P.length c1, .slice A2 Q.length c2, .map (some x4.heap.size), .map (some W3.heap.size)] 138))
          have Hbc := Aside0.mk (below_alloc (Below.refl x7.heap.size x7) (.cells #[.slice A1 P.length c1, .slice A2 Q.length c2, .map (some x4.heap.size), .map (some W3.heap.size)] 138))
          have hsc2 : x7.heap.size + 1 ≤ (x7.alloc (.cells #[.slice A1 P.length c1, .slice A2 Q.length c2, .map (some x4.heap.size), .map (some W3.heap.size)] 138)).heap.size := by simp
          have Q11 := Aside0.mk (Q8.out.below Hbc.out)
          have Q12 := Aside0.mk (Kd.F_below Q9.out Hbc.out)
          have Q13 := Aside0.mk (Kd.F_below Q10.out Hbc.out)
          have Q14 := Aside0.mk (HMx7.out.below Hbc.out)
          generalize x7.alloc (.cells #[.slice A1 P.length c1, .slice A2 Q.length c2, .map (some x4.heap.size), .map (some W3.heap.size)] 138) = xc at *
          (refine hd_one (i := 8) (oi := ?oi862) ?hi862 (by kernel_rfl) (by decide) ?hr862; (case hi862 => (simp only [List.getElem?_toArray, List.getElem?_cons_succ, List.getElem?_cons_zero]; rfl)); intro K hK)
          go_simp
          (refine hK.out _ _ ?hS864 (fun hHeld => ?hr864); (case hS864 => exact hHeld); clear hK K; try simp only [Act.put, List.setIfInBounds_toArray, List.set_cons_zero, List.set_cons_succ])
          (refine hd_done (by kernel_rfl) ?_; simp only [List.drop_succ_cons, List.drop_zero])
          have hK : (Below W.heap.size W xc ∧ xc.heap[x7.heap.size]? = some (.cells (cmpC A1 A2 P.length Q.length c1 c2 x4.heap.size W3.heap.size) 138 (0, 0))) ∧ (Kd.F kPt xc (fun j => j ≠ x4.heap.size ∧ j ≠ W3.heap.size) A1 P.length P ∧ Kd.F kPt xc (fun j => j ≠ x4.heap.size ∧ j ≠ W3.heap.size) A2 Q.length Q) ∧ (MapB xc x4.heap.size [] ∧ MapB xc W3.heap.size []) ∧ (x4.heap.size ≠ W3.heap.size ∧ x7.heap.size ≠ x4.heap.size ∧ x7.heap.size ≠ W3.heap.size) ∧ W.heap.size ≤ x4.heap.size ∧ W.heap.size ≤ W3.heap.size ∧ x4.heap.size < xc.heap.size ∧ W3.heap.size < xc.heap.size := ⟨⟨hHeld, HCc.out⟩, ⟨Kd.F_mono Q12.out (fun j hj => by have h1 := hj.1; have h2 := hj.2; exact ⟨by omega, by omega⟩), Kd.F_mono Q13.out (fun j hj => by have h1 := hj.1; have h2 := hj.2; exact ⟨by omega, by omega⟩)⟩, ⟨Q14.out, Q11.out⟩, ⟨by omega, by omega, by omega⟩, by omega, by omega, by omega, by omega⟩
          refine useT (key A1 c1 A2 c2 (x4.heap.size) (W3.heap.size) (x7.heap.size) xc hK) ?_
          rfl
        case h9B =>
          intro K hK
          go_simp
          (refine hK.out _ _ ?hS866 (fun hHeld => ?hr866); (case hS866 => exact below_alloc hHeld _); clear hK K; try simp only [Act.put, List.setIfInBounds_toArray, List.set_cons_zero, List.set_cons_succ])
          have HMx4 := Aside0.mk (MapB.made x2)
          have Hbx4 := Aside0.mk (below_alloc (Below.refl x2.heap.size x2) (.map #[] 0))
          have hsx4 : x2.heap.size + 1 ≤ (x2.alloc (.map #[] 0)).heap.size := by simp
          have Q5 := Aside0.mk (Q3.out.below Hbx4.out)
          have Q6 := Aside0.mk (Kd.F_below HFx2.out Hbx4.out)
          generalize x2.alloc (.map #[] 0) = x4 at *
          (refine hd_one (i := 3) (oi := ?oi867) ?hi867 (by kernel_rfl) (by decide) ?hr867; (case hi867 => (simp only [List.getElem?_toArray, List.getElem?_cons_succ, List.getElem?_cons_zero]; rfl)); intro K hK)
          go_simp
          refine (PB.out x4 (hbT HB.out hHeld)).mono ?_
          rintro e x7 ⟨A2, c2, rfl, hFx7, hbx7⟩
          have HFx7 := Aside0.mk hFx7
          have hsx7 := hbx7.size
          have Hbx7 := Aside0.mk hbx7
          clear hFx7
          have Q8 := Aside0.mk (Q5.out.below Hbx7.out)
          have Q9 := Aside0.mk (Kd.F_below Q6.out Hbx7.out)
          have Q10 := Aside0.mk (HMx4.out.below Hbx7.out)
          go_simp
          (refine hK.out _ _ ?hS869 (fun hHeld => ?hr869); (case hS869 => exact hbT hHeld Hbx7.out); clear hK K; try simp only [Act.put, List.setIfInBounds_toArray, List.set_cons_zero, List.set_cons_succ])
          clear hbx7
          (refine hd_take (i := 6) (oi := ?oi870) (v := ?v870) ?hi870 (by kernel_rfl) (by kernel_rfl) (by kernel_rfl) (by kernel_rfl) (by decide) ?hq870 ?hw870 ?hy870 hHeld ?hr870; (case hi870 => (simp only [List.getElem?_toArray, List.getElem?_cons_succ, List.getElem?_cons_zero]; rfl)); (case hw870 => rfl); (case hy870 => (intro w hSw; go_simp; try with_reducible rfl)); (case hq870 => exact fun _ _ _ h => h); simp only [Act.put, List.setIfInBounds_toArray, List.set_cons_zero, List.set_cons_succ])
          (refine hd_one (i := 7) (oi := ?oi872) ?hi872 (by kernel_rfl) (by decide) ?hr872; (case hi872 => (simp only [List.getElem?_toArray, List.getElem?_cons_succ, List.getElem?_cons_zero]; rfl)); intro K hK)
          go_simp
          (refine hK.out _ _ ?hS874 (fun hHeld => ?hr874); (case hS874 => exact below_alloc hHeld _); clear hK K; try simp only [Act.put, List.setIfInBounds_toArray, List.set_cons_zero, List.set_cons_succ])
          have HCc := Aside0.mk (heap_alloc_new x7 (.cells #[.slice A1 P.length c1, .slice A2 Q.length c2, .map (some x2.heap.size), .map (some W3.heap.size)] 138))
          have Hbc := Aside0.mk (below_alloc (Below.refl x7.heap.size x7) (.cells #[.slice A1 P.length c1, .slice A2 Q.length c2, .map (some x2.heap.size), .map (some W3.heap.size)] 138))
          have hsc2 : x7.heap.size + 1 ≤ (x7.alloc (.cells #[.slice A1 P.length c1, .slice A2 Q.length c2, .map (some x2.heap.size), .map (some W3.heap.size)] 138)).heap.size := by simp
          have Q11 := Aside0.mk (Q8.out.below Hbc.out)
          have Q12 := Aside0.mk (Kd.F_below Q9.out Hbc.out)
          have Q13 := Aside0.mk (Q10.out.below Hbc.out)
          have Q14 := Aside0.mk (Kd.F_below HFx7.out Hbc.out)
          generalize x7.alloc (.cells #[.slice A1 P.length c1, .slice A2 Q.length c2, .map (some x2.heap.size), .map (some W3.heap.size)] 138) = xc at *
          (refine hd_one (i := 8) (oi := ?oi875) ?hi875 (by kernel_rfl) (by decide) ?hr875; (case hi875 => (simp only [List.getElem?_toArray, List.getElem?_cons_succ, List.getElem?_cons_zero]; rfl)); intro K hK)
          go_simp
          (refine hK.out _ _ ?hS877 (fun hHeld => ?hr877); (case hS877 => exact hHeld); clear hK K; try simp only [Act.put, List.setIfInBounds_toArray, List.set_cons_zero, List.set_cons_succ])
          (refine hd_done (by kernel_rfl) ?_; simp only [List.drop_succ_cons, List.drop_zero])
          have hK : (Below W.heap.size W xc ∧ xc.heap[x7.heap.size]? = some (.cells (cmpC A1 A2 P.length Q.length c1 c2 x2.heap.size W3.heap.size) 138 (0, 0))) ∧ (Kd.F kPt xc (fun j => j ≠ x2.heap.size ∧ j ≠ W3.heap.size) A1 P.length P ∧ Kd.F kPt xc (fun j => j ≠ x2.heap.size ∧ j ≠ W3.heap.size) A2 Q.length Q) ∧ (MapB xc x2.heap.size [] ∧ MapB xc W3.heap.size []) ∧ (x2.heap.size ≠ W3.heap.size ∧ x7.heap.size ≠ x2.heap.size ∧ x7.heap.size ≠ W3.heap.size) ∧ W.heap.size ≤ x2.heap.size ∧ W.heap.size ≤ W3.heap.size ∧ x2.heap.size < xc.heap.size ∧ W3.heap.size < xc.heap.size := ⟨⟨hHeld, HCc.out⟩, ⟨Kd.F_mono Q12.out (fun j hj => by have h1 := hj.1; have h2 := hj.2; exact ⟨by omega, by omega⟩), Kd.F_mono Q14.out (fun j hj => by have h1 := hj.1; have h2 := hj.2; exact ⟨by omega, by omega⟩)⟩, ⟨Q13.out, Q11.out⟩, ⟨by omega, by omega, by omega⟩, by omega, by omega, by omega, by omega⟩
          refine useT (key A1 c1 A2 c2 (x2.heap.size) (W3.heap.size) (x7.heap.size) xc hK) ?_
          rfl
      case h8B =>
        intro K hK
        go_simp
        (refine hK.out _ _ ?hS879 (fun hHeld => ?hr879); (case hS879 => exact below_alloc hHeld _); clear hK K; try simp only [Act.put, List.setIfInBounds_toArray, List.set_cons_zero, List.set_cons_succ])
        have HMx2 := Aside0.mk (MapB.made x1)
        have Hbx2 := Aside0.mk (below_alloc (Below.refl x1.heap.size x1) (.map #[] 0))
        have hsx2 : x1.heap.size + 1 ≤ (x1.alloc (.map #[] 0)).heap.size := by simp
        have Q3 := Aside0.mk (HMx1.out.below Hbx2.out)
        generalize x1.alloc (.map #[] 0) = x2 at *
        (refine hd_one (i := 1) (oi := ?oi880) ?hi880 (by kernel_rfl) (by decide) ?hr880; (case hi880 => (simp only [List.getElem?_toArray, List.getElem?_cons_succ, List.getElem?_cons_zero]; rfl)); intro K hK)
        go_simp
        refine (PA.out x2 (hbT HB.out hHeld)).mono ?_
        rintro e x4 ⟨A1, c1, rfl, hFx4, hbx4⟩
        have HFx4 := Aside0.mk hFx4
        have hsx4 := hbx4.size
        have Hbx4 := Aside0.mk hbx4
        clear hFx4
        have Q5 := Aside0.mk (Q3.out.below Hbx4.out)
        have Q6 := Aside0.mk (HMx2.out.below Hbx4.out)
        go_simp
        (refine hK.out _ _ ?hS882 (fun hHeld => ?hr882); (case hS882 => exact hbT hHeld Hbx4.out); clear hK K; try simp only [Act.put, List.setIfInBounds_toArray, List.set_cons_zero, List.set_cons_succ])
        clear hbx4
        (refine hd_one (i := 3) (oi := ?oi883) ?hi883 (by kernel_rfl) (by decide) ?hr883; (case hi883 => (simp only [List.getElem?_toArray, List.getElem?_cons_succ, List.getElem?_cons_zero]; rfl)); intro K hK)
        go_simp
        refine (PB.out x4 (hbT HB.out hHeld)).mono ?_
        rintro e x7 ⟨A2, c2, rfl, hFx7, hbx7⟩
        have HFx7 := Aside0.mk hFx7
        have hsx7 := hbx7.size
        have Hbx7 := Aside0.mk hbx7
        clear hFx7
        have Q8 := Aside0.mk (Q5.out.below Hbx7.out)
        have Q9 := Aside0.mk (Q6.out.below Hbx7.out)
        have Q10 := Aside0.mk (Kd.F_below HFx4.out Hbx7.out)
        go_simp
        (refine hK.out _ _ ?hS885 (fun hHeld => ?hr885); (case hS885 => exact hbT hHeld Hbx7.out); clear hK K; try simp only [Act.put, List.setIfInBounds_toArray, List.set_cons_zero, List.set_cons_succ])
        clear hbx7
        (refine hd_take (i := 6) (oi := ?oi886) (v := ?v886) ?hi886 (by kernel_rfl) (by kernel_rfl) (by kernel_rfl) (by kernel_rfl) (by decide) ?hq886 ?hw886 ?hy886 hHeld ?hr886; (case hi886 => (simp only [List.getElem?_toArray, List.getElem?_cons_succ, List.getElem?_cons_zero]; rfl)); (case hw886 => rfl); (case hy886 => (intro w hSw; go_simp; try with_reducible rfl)); (case hq886 => exact fun _ _ _ h => h); simp only [Act.put, List.setIfInBounds_toArray, List.set_cons_zero, List.set_cons_succ])
        (refine hd_one (i := 7) (oi := ?oi888) ?hi888 (by kernel_rfl) (by decide) ?hr888; (case hi888 => (simp only [List.getElem?_toArray, List.getElem?_cons_succ, List.getElem?_cons_zero]; rfl)); intro K hK)
        go_simp
        (refine hK.out _ _ ?hS890 (fun hHeld => ?hr890); (case hS890 => exact below_alloc hHeld _); clear hK K; try simp only [Act.put, List.setIfInBounds_toArray, List.set_cons_zero, List.set_cons_succ])
        have HCc := Aside0.mk (heap_alloc_new x7 (.cells #[.slice A1 P.length c1, .slice A2 Q.length c2, .map (some x1.heap.size), .map (some W3.heap.size)] 138))
        have Hbc := Aside0.mk (below_alloc (Below.refl x7.heap.size x7) (.cells #[.slice A1 P.length c1, .slice A2 Q.length c2, .map (some x1.heap.size), .map (some W3.heap.size)] 138))
        have hsc2 : x7.heap.size + 1 ≤ (x7.alloc (.cells #[.slice A1 P.length c1, .slice A2 Q.length c2, .map (some x1.heap.size), .map (some W3.heap.size)] 138)).heap.size := by simp
        have Q11 := Aside0.mk (Q8.out.below Hbc.out)
        have Q12 := Aside0.mk (Q9.out.below Hbc.out)
        have Q13 := Aside0.mk (Kd.F_below Q10.out Hbc.out)
        have Q14 := Aside0.mk (Kd.F_below HFx7.out Hbc.out)
        generalize x7.alloc (.cells #[.slice A1 P.length c1, .slice A2 Q.length c2, .map (some x1.heap.size), .map (some W3.heap.size)] 138) = xc at *
        (refine hd_one (i := 8) (oi := ?oi891) ?hi891 (by kernel_rfl) (by decide) ?hr891; (case hi891 => (simp only [List.getElem?_toArray, List.getElem?_cons_succ, List.getElem?_cons_zero]; rfl)); intro K hK)
        go_simp
        (refine hK.out _ _ ?hS893 (fun hHeld => ?hr893); (case hS893 => exact hHeld); clear hK K; try simp only [Act.put, List.setIfInBounds_toArray, List.set_cons_zero, List.set_cons_succ])
        (refine hd_done (by kernel_rfl) ?_; simp only [List.drop_succ_cons, List.drop_zero])
        have hK : (Below W.heap.size W xc ∧ xc.heap[x7.heap.size]? = some (.cells (cmpC A1 A2 P.length Q.length c1 c2 x1.heap.size W3.heap.size) 138 (0, 0))) ∧ (Kd.F kPt xc (fun j => j ≠ x1.heap.size ∧ j ≠ W3.heap.size) A1 P.length P ∧ Kd.F kPt xc (fun j => j ≠ x1.heap.size ∧ j ≠ W3.heap.size) A2 Q.length Q) ∧ (MapB xc x1.heap.size [] ∧ MapB xc W3.heap.size []) ∧ (x1.heap.size ≠ W3.heap.size ∧ x7.heap.size ≠ x1.heap.size ∧ x7.heap.size ≠ W3.heap.size) ∧ W.heap.size ≤ x1.heap.size ∧ W.heap.size ≤ W3.heap.size ∧ x1.heap.size < xc.heap.size ∧ W3.heap.size < xc.heap.size := ⟨⟨hHeld, HCc.out⟩, ⟨Kd.F_mono Q13.out (fun j hj => by have h1 := hj.1; have h2 := hj.2; exact ⟨by omega, by omega⟩), Kd.F_mono Q14.out (fun j hj => by have h1 := hj.1; have h2 := hj.2; exact ⟨by omega, by omega⟩)⟩, ⟨Q12.out, Q11.out⟩, ⟨by omega, by omega, by omega⟩, by omega, by omega, by omega, by omega⟩
        refine useT (key A1 c1 A2 c2 (x1.heap.size) (W3.heap.size) (x7.heap.size) xc hK) ?_
        rfl
  case key =>
    rintro A1 c1 A2 c2 bs ba bc w9 ⟨⟨hB9, hC9⟩, ⟨hP9, hQ9⟩, ⟨hM9, hN9⟩, ⟨hne, hcs, hca⟩, hbs, hba, hbs9, hba9⟩
    clear k0 k1 k2 k3 k4 k5 hmm PA PB
    have HB9 := Aside0.mk hB9
    have HC9 := Aside0.mk hC9
    have HP9 := Aside0.mk hP9
    have HQ9 := Aside0.mk hQ9
    have HMS := Aside0.mk hM9
    have HMA := Aside0.mk hN9
    have hpl := HL1.out
    have hql := HL2.out
    have hP1 : P.length ≤ 1000000 := by omega
    have hQ1 : Q.length ≤ 1000000 := by omega
    have hP0 : 1 ≤ P.length := by omega
    have hQ0 : 1 ≤ Q.length := by omega
    have hP1i : (P.length : Int) ≤ 1000000 := by omega
    have hQ1i : (Q.length : Int) ≤ 1000000 := by omega
    have HLA : Aside0 ((rd_Pt P (P.length - 1)).f0 = s) := ⟨by rw [hpl]; exact HP1.out.2⟩
    have HLB : Aside0 ((rd_Pt Q (Q.length - 1)).f0 = t) := ⟨by rw [hql]; exact HP2.out.2⟩
    have HO1 := Aside0.mk HP1.out.1
    have HO2 := Aside0.mk HP2.out.1
    clear hB9 hC9 hP9 hQ9 hM9 hN9 hpl hql HL1 HL2 HP1 HP2
    obtain ⟨c0, c1', c2', c3'⟩ := cmp_cells HC9.out
    go_wp2
    clear c0 c1' c2' c3'
    go_loopw [21] (fun v wr => ∃ (i : Nat) (ms ma : List ((Int × Int) × Bool)), i ≤ P.length ∧ v = .int .i64 i ∧ Aside0 (MapB wr bs ms) ∧ Aside0 (MapB wr ba ma) ∧ Aside0 (DoneS P Q eqT ms i 0) ∧ Aside0 (DoneS P Q gtB ma i 0) ∧ Aside0 (Fr2 w9 wr bs ba)) (fun v _ => P.length - (intOf v).toNat)
    case atStart => exact ⟨0, [], [], by omega, rfl, HMS, HMA, ⟨fun i' k' _ _ h => by omega⟩, ⟨fun i' k' _ _ h => by omega⟩, ⟨Fr2.of (Below.refl _ _)⟩⟩
    case round =>
      rename World => wo
      obtain ⟨i, ms0, ma0, hi, rfl, HM0, HA0, HD0, HE0, HFr0⟩ := hrel
      by_cases hil : i < P.length
      · obtain ⟨c0, c1', c2', c3'⟩ := cmp_cells ((HFr0.out.block _ (blk_lt HC9.out) hcs hca).trans HC9.out)
        have hii : (i : Int) < P.length := by omega
        go_wp2
        clear c0 c1' c2' c3'
        go_loopw [29] (fun v wr => ∃ (k : Nat) (ms ma : List ((Int × Int) × Bool)), k ≤ Q.length ∧ v = .int .i64 k ∧ Aside0 (MapB wr bs ms) ∧ Aside0 (MapB wr ba ma) ∧ Aside0 (DoneS P Q eqT ms i k) ∧ Aside0 (DoneS P Q gtB ma i k) ∧ Aside0 (Fr2 w9 wr bs ba)) (fun v _ => Q.length - (intOf v).toNat)
        case atStart => exact ⟨0, ms0, ma0, by omega, rfl, HM0, HA0, HD0, HE0, HFr0⟩
        case round =>
          obtain ⟨k, ms, ma, hk, rfl, HMk, HAk, HDk, HEk, HFk⟩ := hrel
          by_cases hkl : k < Q.length
          · have hki : (k : Int) < Q.length := by omega
            have HON := Aside0.mk (one_any i k bc A1 A2 c1 c2 bs ba P Q _ _ ms ma wr ((HFk.out.block _ (blk_lt HC9.out) hcs hca).trans HC9.out) HMk.out HAk.out (Kd.F_step HP9.out (fun j hj hlt => HFk.out.block j hlt hj.1 hj.2)) (Kd.F_step HQ9.out (fun j hj hlt => HFk.out.block j hlt hj.1 hj.2)) hil hkl hne hcs hca (fun j hj => hj.1) (fun j hj => hj.1) (fun a b => HSM.out i k hil hkl (by omega) (by omega)))
            go_wp2_with (fail)
            refine HON.out.mono ?_
            rintro e w2 ⟨rfl, hM2, hA2, hF2⟩
            have HM2 := Aside0.mk hM2
            have HA2 := Aside0.mk hA2
            have HF2 := Aside0.mk (HFk.out.trans hF2)
            clear hM2 hA2 hF2 HON
            have HVS := Aside0.mk (done_same HO1.out HO2.out hil hkl HDk.out)
            have HDk2 := Aside0.mk (HDk.out.step HVS.out)
            have HVG := Aside0.mk (done_gr HO1.out HO2.out hil hkl HDk2.out HEk.out)
            have HEk2 := Aside0.mk (HEk.out.step HVG.out)
            go_wp2
            go_roundw
            case rel => exact ⟨k + 1, _, _, by omega, by go_num, HM2, HA2, HDk2, HEk2, HF2⟩
            case measure => simp [intOf]; omega
          · obtain rfl : k = Q.length := by omega
            have HDn := Aside0.mk HDk.out.next
            have HEn := Aside0.mk HEk.out.next
            go_wp2
            go_roundw
            case rel => exact ⟨i + 1, ms, ma, by omega, by go_num, HMk, HAk, HDn, HEn, HFk⟩
            case measure => simp [intOf]; omega
      · obtain rfl : i = P.length := by omega
        have HR : Aside0 (mgetB ma0 (((P.length - 1 : Nat) : Int), ((Q.length - 1 : Nat) : Int)) = gtB s t) := ⟨by
          rw [HE0.out (P.length - 1) (Q.length - 1) (by omega) (by omega) (.inl (by omega)), HLA.out, HLB.out]⟩
        have hn1 : ((P.length - 1 : Nat) : Int) = (P.length : Int) - 1 := by omega
        have hn2 : ((Q.length - 1 : Nat) : Int) = (Q.length : Int) - 1 := by omega
        rw [hn1, hn2] at HR
        clear hn1 hn2
        have hw1 : IntKind.i64.wrap ((P.length : Int) - 1) = (P.length : Int) - 1 := IntWalk.i64_in _ (by omega)
        have hw2 : IntKind.i64.wrap ((Q.length : Int) - 1) = (Q.length : Int) - 1 := IntWalk.i64_in _ (by omega)
        obtain ⟨c0, c1', c2', c3'⟩ := cmp_cells ((HFr0.out.block _ (blk_lt HC9.out) hcs hca).trans HC9.out)
        go_upto_region 11 with (fail)
        have bp := build_pair
        have hr1 : ∀ d os, (Instr.lookup 136 (.map (some ba)) (.agg #[.int .i64 ((P.length : Int) - 1), .int .i64 ((Q.length : Int) - 1)]) false).run Try.prog (Go.Sort.grow (redrawn wo d) os) = .ok (.bool (mgetB ma0 ((P.length : Int) - 1, (Q.length : Int) - 1))) (Go.Sort.grow (redrawn wo d) os) := fun d os => run_lookB (HA0.out.below (below_regrown wo d os)) _ _
        rw [HR.out] at hr1
        have q0 := fun d os => cell_regrown c0 d os
        have q1 := fun d os => cell_regrown c1' d os
        have q3 := fun d os => cell_regrown c3' d os
        clear c0 c1' c2' c3'
        generalize hgt : gtB s t = r at *
        (refine wq_draws (by kernel_rfl) (by kernel_rfl) ?_; (repeat (refine wq_step (fun K hK => ?_); go_simp; first | (refine hK _ ?_; clear hK K) | (apply Exists.intro; refine ⟨fun _ => ?_, hK _ ?_⟩; ((fail)); clear hK K))); refine wq_nil ?_; intro W2 hbW2)
        go_wp2
        go_ret
        exact ⟨ret_bool hgt.symm, hbT HB.out (hbT (Fr2.below HB9.out HFr0.out hbs hba) hbW2)⟩
end Go.Proofs.Ytcgnpmjkeifokaa
-- K96
/- order.Greater, Compare; superposelaw.orderBegun. -/
namespace Go.Proofs.Ytcgnpmjkeifokaa
open Go.RowKit Go.Proofs.YtcgnpmjkeifokaaW.PrintWords
set_option linter.unusedVariables false
set_option linter.unusedSimpArgs false
def grV (g : List Int) (s t : Tm) : Bool := if chkTs g [s, t] = 0 then gtB s t else false
def cmpO (s t : Tm) : Int := if gtB s t = true then 1 else if gtB t s = true then -1 else 0
def cmpV (g : List Int) (s t : Tm) : Int := if chkTs g [s, t] = 0 then cmpO s t else 0
set_option maxHeartbeats 4000000 in
set_option maxRecDepth 100000 in
theorem greaterO_any (g : List Int) (Ag : Option Addr) (cg : Nat) (s t : Tm) (A B : Option Addr) (c d : Nat) (oks okt : Nat → Prop) (w : World) (hG : Kd.C (Kd.int .i64) w Ag g.length g) (hS : Kd.F kTm w oks A s.f2.length s.f2) (hc : s.f2.length ≤ c) (hT : Kd.F kTm w okt B t.f2.length t.f2) (hd : t.f2.length ≤ d) :
    Calls Try.prog 76 #[.agg #[.slice Ag g.length cg], .agg #[.int .i64 s.f0, .int .i64 s.f1, .slice A s.f2.length c], .agg #[.int .i64 t.f0, .int .i64 t.f1, .slice B t.f2.length d]] w fun e w' => e = .returned (.tuple #[.bool (grV g s t), .int .i64 (chkTs g [s, t])]) ∧ Below w.heap.size w w' := by
  have HS := Aside0.mk (Kd.F_mono (Kd.F_bound hS) (ok' := fun k => k < w.heap.size) (fun _ h => h.2))
  have HT := Aside0.mk (Kd.F_mono (Kd.F_bound hT) (ok' := fun k => k < w.heap.size) (fun _ h => h.2))
  have HG := Aside0.mk hG
  have hls := Kd.F_max hS
  have hlt := Kd.F_max hT
  clear hS hT hG
  have g0 := blk_alloc (blk_alloc (newAt (w := w) (o := .cells #[.slice Ag g.length cg] 24) rfl) (.cells #[.int .i64 s.f0, .int .i64 s.f1, .slice A s.f2.length c] 46)) (.cells #[.int .i64 t.f0, .int .i64 t.f1, .slice B t.f2.length d] 46)
  have g1 := blk_alloc (newAt (w := w.alloc (.cells #[.slice Ag g.length cg] 24)) (o := .cells #[.int .i64 s.f0, .int .i64 s.f1, .slice A s.f2.length c] 46) (k := w.heap.size + 1) (by simp)) (.cells #[.int .i64 t.f0, .int .i64 t.f1, .slice B t.f2.length d] 46)
  have g2 := newAt (w := (w.alloc (.cells #[.slice Ag g.length cg] 24)).alloc (.cells #[.int .i64 s.f0, .int .i64 s.f1, .slice A s.f2.length c] 46)) (o := .cells #[.int .i64 t.f0, .int .i64 t.f1, .slice B t.f2.length d] 46) (k := w.heap.size + 1 + 1) (by simp)
  have HB := Aside0.mk (below_alloc (below_alloc (below_alloc (Below.refl w.heap.size w) (.cells #[.slice Ag g.length cg] 24)) (.cells #[.int .i64 s.f0, .int .i64 s.f1, .slice A s.f2.length c] 46)) (.cells #[.int .i64 t.f0, .int .i64 t.f1, .slice B t.f2.length d] 46))
  go_enter Try.func76, Try.ntmps76
  go_upto_region 1 with (fail)
  generalize ((w.alloc (.cells #[.slice Ag g.length cg] 24)).alloc (.cells #[.int .i64 s.f0, .int .i64 s.f1, .slice A s.f2.length c] 46)).alloc (.cells #[.int .i64 t.f0, .int .i64 t.f1, .slice B t.f2.length d] 46) = W at *
  have G1 := Aside0.mk g1
  have G2 := Aside0.mk g2
  have s0 := sg_cell g0
  obtain ⟨a0, a1, a2⟩ := tm_cells g1
  obtain ⟨b0, b1, b2⟩ := tm_cells g2
  clear g0 g1 g2
  have HL := Aside0.mk (F_lit2 (heap_alloc_new W (.cells #[.int .i64 s.f0, .int .i64 s.f1, .slice A s.f2.length c, .int .i64 t.f0, .int .i64 t.f1, .slice B t.f2.length d] 46)) (Kd.F_below HS.out (below_alloc HB.out _)) hc (Kd.F_below HT.out (below_alloc HB.out _)) hd)
  go_upto_region 2 with (go_at_call 77; refine (termAll_any g Ag cg [s, t] _ _ _ _ (Kd.C_below HG.out (below_alloc HB.out _)) HL.out).mono ?_; rintro e w2 ⟨rfl, hb2⟩; have HB2 := Aside0.mk (hbA (Below.refl _ W) _ hb2); clear hb2 s0 a0 a1 a2 b0 b1 b2)
  have HW2 := Aside0.mk (hbT HB.out HB2.out)
  by_cases h0 : chkTs g [s, t] = 0
  · have h0b := bneF h0
    have H0 := Aside0.mk h0
    have HOS := Aside0.mk ((chkTs_ok h0).2 s (by simp))
    have HOT := Aside0.mk ((chkTs_ok h0).2 t (by simp))
    obtain ⟨a0, a1, a2⟩ := tm_cells ((HB2.out.block _ (blk_lt G1.out)).trans G1.out)
    obtain ⟨b0, b1, b2⟩ := tm_cells ((HB2.out.block _ (blk_lt G2.out)).trans G2.out)
    have A1 := Aside0.mk (above_any g s t A B c d _ _ w2 (Kd.F_below HS.out HW2.out) hc (Kd.F_below HT.out HW2.out) hd (by have := HOS.out.1; omega) (by have := HOT.out.1; omega) HOS.out.2 HOT.out.2)
    have HR : Aside0 (grV g s t = gtB s t) := ⟨by unfold grV; rw [if_pos h0]⟩
    clear h0
    go_wp2_with (fail)
    refine A1.out.mono ?_
    rintro e w3 ⟨rfl, hb3⟩
    have HB3 := Aside0.mk (hbT HW2.out hb3)
    clear hb3 a0 a1 a2 b0 b1 b2
    go_wp2
    go_ret2
    exact ⟨by rw [HR.out, H0.out] <;> rfl, HB3.out⟩
  · have h0b := bneT h0
    have HR : Aside0 (grV g s t = false) := ⟨by unfold grV; rw [if_neg h0]⟩
    clear h0
    go_wp2
    go_ret2
    exact ⟨by rw [HR.out] <;> rfl, HW2.out⟩
set_option maxHeartbeats 4000000 in
set_option maxRecDepth 100000 in
theorem compare_any (g : List Int) (Ag : Option Addr) (cg : Nat) (s t : Tm) (A B : Option Addr) (c d : Nat) (oks okt : Nat → Prop) (w : World) (hG : Kd.C (Kd.int .i64) w Ag g.length g) (hS : Kd.F kTm w oks A s.f2.length s.f2) (hc : s.f2.length ≤ c) (hT : Kd.F kTm w okt B t.f2.length t.f2) (hd : t.f2.length ≤ d) :
    Calls Try.prog 32 #[.agg #[.slice Ag g.length cg], .agg #[.int .i64 s.f0, .int .i64 s.f1, .slice A s.f2.length c], .agg #[.int .i64 t.f0, .int .i64 t.f1, .slice B t.f2.length d]] w fun e w' => e = .returned (.tuple #[.int .i64 (cmpV g s t), .int .i64 (chkTs g [s, t])]) ∧ Below w.heap.size w w' := by
  have HS := Aside0.mk (Kd.F_mono (Kd.F_bound hS) (ok' := fun k => k < w.heap.size) (fun _ h => h.2))
  have HT := Aside0.mk (Kd.F_mono (Kd.F_bound hT) (ok' := fun k => k < w.heap.size) (fun _ h => h.2))
  have HG := Aside0.mk hG
  have hls := Kd.F_max hS
  have hlt := Kd.F_max hT
  clear hS hT hG
  have g0 := blk_alloc (blk_alloc (newAt (w := w) (o := .cells #[.slice Ag g.length cg] 24) rfl) (.cells #[.int .i64 s.f0, .int .i64 s.f1, .slice A s.f2.length c] 46)) (.cells #[.int .i64 t.f0, .int .i64 t.f1, .slice B t.f2.length d] 46)
  have g1 := blk_alloc (newAt (w := w.alloc (.cells #[.slice Ag g.length cg] 24)) (o := .cells #[.int .i64 s.f0, .int .i64 s.f1, .slice A s.f2.length c] 46) (k := w.heap.size + 1) (by simp)) (.cells #[.int .i64 t.f0, .int .i64 t.f1, .slice B t.f2.length d] 46)
  have g2 := newAt (w := (w.alloc (.cells #[.slice Ag g.length cg] 24)).alloc (.cells #[.int .i64 s.f0, .int .i64 s.f1, .slice A s.f2.length c] 46)) (o := .cells #[.int .i64 t.f0, .int .i64 t.f1, .slice B t.f2.length d] 46) (k := w.heap.size + 1 + 1) (by simp)
  have HB := Aside0.mk (below_alloc (below_alloc (below_alloc (Below.refl w.heap.size w) (.cells #[.slice Ag g.length cg] 24)) (.cells #[.int .i64 s.f0, .int .i64 s.f1, .slice A s.f2.length c] 46)) (.cells #[.int .i64 t.f0, .int .i64 t.f1, .slice B t.f2.length d] 46))
  go_enter Try.func32, Try.ntmps32
  go_upto_region 1 with (fail)
  generalize ((w.alloc (.cells #[.slice Ag g.length cg] 24)).alloc (.cells #[.int .i64 s.f0, .int .i64 s.f1, .slice A s.f2.length c] 46)).alloc (.cells #[.int .i64 t.f0, .int .i64 t.f1, .slice B t.f2.length d] 46) = W at *
  have G1 := Aside0.mk g1
  have G2 := Aside0.mk g2
  have s0 := sg_cell g0
  obtain ⟨a0, a1, a2⟩ := tm_cells g1
  obtain ⟨b0, b1, b2⟩ := tm_cells g2
  clear g0 g1 g2
  have HL := Aside0.mk (F_lit2 (heap_alloc_new W (.cells #[.int .i64 s.f0, .int .i64 s.f1, .slice A s.f2.length c, .int .i64 t.f0, .int .i64 t.f1, .slice B t.f2.length d] 46)) (Kd.F_below HS.out (below_alloc HB.out _)) hc (Kd.F_below HT.out (below_alloc HB.out _)) hd)
  go_upto_region 2 with (go_at_call 77; refine (termAll_any g Ag cg [s, t] _ _ _ _ (Kd.C_below HG.out (below_alloc HB.out _)) HL.out).mono ?_; rintro e w2 ⟨rfl, hb2⟩; have HB2 := Aside0.mk (hbA (Below.refl _ W) _ hb2); clear hb2 s0 a0 a1 a2 b0 b1 b2)
  have HW2 := Aside0.mk (hbT HB.out HB2.out)
  by_cases h0 : chkTs g [s, t] = 0
  · have h0b := bneF h0
    have H0 := Aside0.mk h0
    have HOS := Aside0.mk ((chkTs_ok h0).2 s (by simp))
    have HOT := Aside0.mk ((chkTs_ok h0).2 t (by simp))
    obtain ⟨a0, a1, a2⟩ := tm_cells ((HB2.out.block _ (blk_lt G1.out)).trans G1.out)
    obtain ⟨b0, b1, b2⟩ := tm_cells ((HB2.out.block _ (blk_lt G2.out)).trans G2.out)
    have A1 := Aside0.mk (above_any g s t A B c d _ _ w2 (Kd.F_below HS.out HW2.out) hc (Kd.F_below HT.out HW2.out) hd (by have := HOS.out.1; omega) (by have := HOT.out.1; omega) HOS.out.2 HOT.out.2)
    have HR : Aside0 (cmpV g s t = cmpO s t) := ⟨by unfold cmpV; rw [if_pos h0]⟩
    clear h0
    go_wp2_with (fail)
    refine A1.out.mono ?_
    rintro e w3 ⟨rfl, hb3⟩
    have HB3 := Aside0.mk (hbT HB2.out hb3)
    clear hb3 a0 a1 a2 b0 b1 b2
    have HW3 := Aside0.mk (hbT HB.out HB3.out)
    cases hg : gtB s t with
    | true =>
      have HR2 : Aside0 (cmpV g s t = 1) := ⟨by rw [HR.out]; unfold cmpO; rw [if_pos hg]⟩
      clear hg A1
      go_wp2
      go_ret2
      exact ⟨by rw [HR2.out, H0.out] <;> rfl, HW3.out⟩
    | false =>
      have HR2 : Aside0 (cmpO s t = if gtB t s = true then -1 else 0) := ⟨by unfold cmpO; rw [if_neg (by rw [hg]; decide)]⟩
      clear hg A1
      obtain ⟨a0, a1, a2⟩ := tm_cells ((HB3.out.block _ (blk_lt G1.out)).trans G1.out)
      obtain ⟨b0, b1, b2⟩ := tm_cells ((HB3.out.block _ (blk_lt G2.out)).trans G2.out)
      have A2 := Aside0.mk (above_any g t s B A d c _ _ w3 (Kd.F_below HT.out HW3.out) hd (Kd.F_below HS.out HW3.out) hc (by have := HOT.out.1; omega) (by have := HOS.out.1; omega) HOT.out.2 HOS.out.2)
      go_wp2_with (fail)
      refine A2.out.mono ?_
      rintro e w4 ⟨rfl, hb4⟩
      have HW4 := Aside0.mk (hbT HW3.out hb4)
      clear hb4 a0 a1 a2 b0 b1 b2
      cases hg : gtB t s with
      | true =>
        have HR3 : Aside0 (cmpV g s t = -1) := ⟨by rw [HR.out, HR2.out, if_pos hg]⟩
        clear hg A2
        go_wp2
        go_ret2
        exact ⟨by rw [HR3.out, H0.out] <;> rfl, HW4.out⟩
      | false =>
        have HR3 : Aside0 (cmpV g s t = 0) := ⟨by rw [HR.out, HR2.out, if_neg (by rw [hg]; decide)]⟩
        clear hg A2
        go_wp2
        go_ret2
        exact ⟨by rw [HR3.out, H0.out] <;> rfl, HW4.out⟩
  · have h0b := bneT h0
    have HR : Aside0 (cmpV g s t = 0) := ⟨by unfold cmpV; rw [if_neg h0]⟩
    clear h0
    go_wp2
    go_ret2
    exact ⟨by rw [HR.out] <;> rfl, HW2.out⟩
/-! ### what must be in any case -/
theorem F_vaO (W : World) : Kd.F kTm W (fun _ => False) none ([] : List Tm).length [] := fun W' _ => Kd.C_nil _ _
theorem gr_s (A1 : Option Addr) (b : Nat) (w : World) (hG : Kd.C (Kd.int .i64) w A1 2 [0, 1]) (hb : w.heap[b]? = some (.cells #[.int .i64 1, .int .i64 0, .slice none 0 0] 46 (0, 0))) :
    Calls Try.prog 76 #[.agg #[.slice A1 2 2], .agg #[.int .i64 0, .int .i64 1, .slice (some ⟨b, 0, none⟩) 1 1], .agg #[.int .i64 1, .int .i64 0, .slice none 0 0]] w fun e w' => e = .returned (.tuple #[.bool true, .int .i64 0]) ∧ Below w.heap.size w w' :=
  greaterO_any [0, 1] A1 2 ⟨0, 1, [⟨1, 0, []⟩]⟩ ⟨1, 0, []⟩ (some ⟨b, 0, none⟩) none 1 0 _ _ w hG (F_lit1 (t := ⟨1, 0, []⟩) hb (F_vaO w) (Nat.le_refl _)) (Nat.le_refl _) (F_vaO w) (Nat.le_refl _)
theorem cmp_s (A1 : Option Addr) (b : Nat) (w : World) (hG : Kd.C (Kd.int .i64) w A1 2 [0, 1]) (hb : w.heap[b]? = some (.cells #[.int .i64 0, .int .i64 0, .slice none 0 0] 46 (0, 0))) :
    Calls Try.prog 32 #[.agg #[.slice A1 2 2], .agg #[.int .i64 0, .int .i64 0, .slice none 0 0], .agg #[.int .i64 0, .int .i64 1, .slice (some ⟨b, 0, none⟩) 1 1]] w fun e w' => e = .returned (.tuple #[.int .i64 (-1), .int .i64 0]) ∧ Below w.heap.size w w' :=
  compare_any [0, 1] A1 2 ⟨0, 0, []⟩ ⟨0, 1, [⟨0, 0, []⟩]⟩ none (some ⟨b, 0, none⟩) 0 1 _ _ w hG (F_vaO w) (Nat.le_refl _) (F_lit1 (t := ⟨0, 0, []⟩) hb (F_vaO w) (Nat.le_refl _)) (Nat.le_refl _)
set_option maxHeartbeats 4000000 in
set_option maxRecDepth 100000 in
theorem orderBegun_any (w : World) : Calls Try.prog 31 #[] w fun e w' => e = .returned (.bool true) ∧ Below w.heap.size w w' := by
  go_enter Try.func31, Try.ntmps31
  go_wp2_with (fail)
  refine (small_any _).mono ?_
  rintro e w1 ⟨A1, rfl, hC1, hb1⟩
  have HB1 := Aside0.mk hb1
  have HC1 := Aside0.mk hC1
  clear hC1 hb1
  go_wp2_with (fail)
  refine (va_any 1 _).mono ?_
  rintro e w2 ⟨rfl, hb2⟩
  have HB2 := Aside0.mk (hbT HB1.out hb2)
  have HC2 := Aside0.mk (Kd.C_below HC1.out hb2)
  clear hb2
  go_wp2_with (fail)
  refine (fn_any 1 _ _ _ _).mono ?_
  rintro e w3 ⟨rfl, hb3⟩
  have HB23 := Aside0.mk (hbA (Below.refl _ w2) _ hb3)
  have HN3 := Aside0.mk ((hb3.block w2.heap.size (by simp)).trans (heap_alloc_new w2 (.cells #[.int .i64 1, .int .i64 0, .slice none 0 0] 46)))
  clear hb3
  go_wp2_with (fail)
  refine (va_any 1 _).mono ?_
  rintro e w4 ⟨rfl, hb4⟩
  have HB24 := Aside0.mk (hbT HB23.out hb4)
  have HN4 := Aside0.mk ((hb4.block _ (blk_lt HN3.out)).trans HN3.out)
  have HC4 := Aside0.mk (Kd.C_below HC2.out HB24.out)
  clear hb4
  go_wp2_with (fail)
  refine (gr_s A1 _ w4 HC4.out HN4.out).mono ?_
  rintro e w5 ⟨rfl, hb5⟩
  have HB5 := Aside0.mk (hbT (hbT HB2.out HB24.out) hb5)
  clear hb5
  go_wp2_with (fail)
  refine (small_any _).mono ?_
  rintro e w6 ⟨A6, rfl, hC6, hb6⟩
  have HB6 := Aside0.mk (hbT HB5.out hb6)
  have HC6 := Aside0.mk hC6
  clear hC6 hb6
  go_wp2_with (fail)
  refine (fn_any 0 _ _ _ _).mono ?_
  rintro e w7 ⟨rfl, hb7⟩
  have HB7 := Aside0.mk (hbT HB6.out hb7)
  have HC7 := Aside0.mk (Kd.C_below HC6.out hb7)
  clear hb7
  go_wp2_with (fail)
  refine (fn_any 0 _ _ _ _).mono ?_
  rintro e w8 ⟨rfl, hb8⟩
  have HB8 := Aside0.mk (hbT HB7.out hb8)
  have HC8 := Aside0.mk (Kd.C_below HC7.out hb8)
  clear hb8
  go_wp2_with (fail)
  refine (fn_any 1 _ _ _ _).mono ?_
  rintro e w9 ⟨rfl, hb9⟩
  have HB89 := Aside0.mk (hbA (Below.refl _ w8) _ hb9)
  have HN9 := Aside0.mk ((hb9.block w8.heap.size (by simp)).trans (heap_alloc_new w8 (.cells #[.int .i64 0, .int .i64 0, .slice none 0 0] 46)))
  have HC9 := Aside0.mk (Kd.C_below HC8.out HB89.out)
  clear hb9
  go_wp2_with (fail)
  refine (cmp_s A6 _ w9 HC9.out HN9.out).mono ?_
  rintro e w10 ⟨rfl, hb10⟩
  have HB10 := Aside0.mk (hbT (hbT HB8.out HB89.out) hb10)
  clear hb10
  go_wp2
  go_ret
  exact ⟨rfl, HB10.out⟩
end Go.Proofs.Ytcgnpmjkeifokaa
-- K98
/- Rules; rewrite.Check. -/
namespace Go.Proofs.Ytcgnpmjkeifokaa
open Go.RowKit Go.Proofs.YtcgnpmjkeifokaaW.PrintWords
set_option linter.unusedVariables false
set_option linter.unusedSimpArgs false
structure Rl where
  f0 : Tm
  f1 : Tm
def zRl : Rl := ⟨zTm, zTm⟩
def kRl : Kd Rl := Kd.iso (Kd.pair kTm kTm) (fun x : Rl => (x.f0, x.f1))
theorem kRl_heap : Kd.Heap kRl := Kd.heap_iso _ (Kd.heap_pair kTm_heap kTm_heap)
theorem kRl_open {w : World} {x : Rl} {cs : List Value} (h : kRl.K w x cs) : ∃ A2 c2 A5 c5, cs = [.int .i64 x.f0.f0, .int .i64 x.f0.f1, .slice A2 x.f0.f2.length c2, .int .i64 x.f1.f0, .int .i64 x.f1.f1, .slice A5 x.f1.f2.length c5] ∧ x.f0.f2.length ≤ c2 ∧ kTm.C w A2 x.f0.f2.length x.f0.f2 ∧ x.f1.f2.length ≤ c5 ∧ kTm.C w A5 x.f1.f2.length x.f1.f2 := by
  obtain ⟨_, _, rfl, s0, s1⟩ := h
  obtain ⟨A2, c2, rfl, l2, g2⟩ := kTm_open s0
  obtain ⟨A5, c5, rfl, l5, g5⟩ := kTm_open s1
  exact ⟨A2, c2, A5, c5, rfl, l2, g2, l5, g5⟩
theorem kRl_openF {W : World} {ok : Nat → Prop} {x : Rl} {cs : List Value} (h : Kd.FK kRl W ok x cs) : ∃ A2 c2 A5 c5, cs = [.int .i64 x.f0.f0, .int .i64 x.f0.f1, .slice A2 x.f0.f2.length c2, .int .i64 x.f1.f0, .int .i64 x.f1.f1, .slice A5 x.f1.f2.length c5] ∧ x.f0.f2.length ≤ c2 ∧ Kd.F kTm W ok A2 x.f0.f2.length x.f0.f2 ∧ x.f1.f2.length ≤ c5 ∧ Kd.F kTm W ok A5 x.f1.f2.length x.f1.f2 := by
  obtain ⟨A2, c2, A5, c5, rfl, l2, _, l5, _⟩ := kRl_open (Kd.FK_now h)
  refine ⟨A2, c2, A5, c5, rfl, l2, fun W' hW => ?_, l5, fun W' hW => ?_⟩
  · obtain ⟨A2_, c2_, A5_, c5_, he, l2_, g2_, l5_, g5_⟩ := kRl_open (h W' hW)
    injection (Option.some.inj (show some (Value.slice A2 x.f0.f2.length c2) = some (Value.slice A2_ x.f0.f2.length c2_) from congrArg (fun l => l[2]?) he)) with ha_ _ _
    rw [ha_]; exact g2_
  · obtain ⟨A2_, c2_, A5_, c5_, he, l2_, g2_, l5_, g5_⟩ := kRl_open (h W' hW)
    injection (Option.some.inj (show some (Value.slice A5 x.f1.f2.length c5) = some (Value.slice A5_ x.f1.f2.length c5_) from congrArg (fun l => l[5]?) he)) with ha_ _ _
    rw [ha_]; exact g5_
theorem kRl_mk (w : World) (x : Rl) {A2 : Option Addr} {c2 : Nat} (l2 : x.f0.f2.length ≤ c2) (g2 : kTm.C w A2 x.f0.f2.length x.f0.f2) {A5 : Option Addr} {c5 : Nat} (l5 : x.f1.f2.length ≤ c5) (g5 : kTm.C w A5 x.f1.f2.length x.f1.f2) : kRl.K w x [.int .i64 x.f0.f0, .int .i64 x.f0.f1, .slice A2 x.f0.f2.length c2, .int .i64 x.f1.f0, .int .i64 x.f1.f1, .slice A5 x.f1.f2.length c5] :=
  ⟨[.int .i64 x.f0.f0, .int .i64 x.f0.f1, .slice A2 x.f0.f2.length c2], [.int .i64 x.f1.f0, .int .i64 x.f1.f1, .slice A5 x.f1.f2.length c5], rfl, kTm_mk w x.f0 l2 g2, kTm_mk w x.f1 l5 g5⟩
theorem kRl_mkF (W : World) (ok : Nat → Prop) (x : Rl) {A2 : Option Addr} {c2 : Nat} (l2 : x.f0.f2.length ≤ c2) (g2 : Kd.F kTm W ok A2 x.f0.f2.length x.f0.f2) {A5 : Option Addr} {c5 : Nat} (l5 : x.f1.f2.length ≤ c5) (g5 : Kd.F kTm W ok A5 x.f1.f2.length x.f1.f2) : Kd.FK kRl W ok x [.int .i64 x.f0.f0, .int .i64 x.f0.f1, .slice A2 x.f0.f2.length c2, .int .i64 x.f1.f0, .int .i64 x.f1.f1, .slice A5 x.f1.f2.length c5] := fun W2 hW => kRl_mk W2 x l2 (g2 W2 hW) l5 (g5 W2 hW)
def rd_Rl (xs : List Rl) (i : Nat) : Rl := xs.getD i zRl
theorem rdRl_get (l : List Rl) (i : Nat) (h : i < l.length) : rd_Rl l i = l[i] := by unfold rd_Rl; simp [List.getD_eq_getElem?_getD, h]
theorem at_Rl {w : World} {ok : Nat → Prop} {A : Option Addr} {n : Nat} {xs : List Rl} (h : Kd.F kRl w ok A n xs) (i : Nat) (h1 : i < n) : ∃ ad A2 c2 A5 c5, A = some ad ∧ w.cell? (ad.add (i * 6)) = some (.int .i64 (rd_Rl xs i).f0.f0) ∧
    w.cell? ⟨(ad.add (i * 6)).block, (ad.add (i * 6)).off + 1, none⟩ = some (.int .i64 (rd_Rl xs i).f0.f1) ∧ w.cell? ⟨(ad.add (i * 6)).block, (ad.add (i * 6)).off + 2, none⟩ = some (.slice A2 (rd_Rl xs i).f0.f2.length c2) ∧
    w.cell? ⟨(ad.add (i * 6)).block, (ad.add (i * 6)).off + 3, none⟩ = some (.int .i64 (rd_Rl xs i).f1.f0) ∧ w.cell? ⟨(ad.add (i * 6)).block, (ad.add (i * 6)).off + 4, none⟩ = some (.int .i64 (rd_Rl xs i).f1.f1) ∧ w.cell? ⟨(ad.add (i * 6)).block, (ad.add (i * 6)).off + 5, none⟩ = some (.slice A5 (rd_Rl xs i).f1.f2.length c5) ∧
    (rd_Rl xs i).f0.f2.length ≤ c2 ∧ Kd.F kTm w ok A2 (rd_Rl xs i).f0.f2.length (rd_Rl xs i).f0.f2 ∧ (rd_Rl xs i).f1.f2.length ≤ c5 ∧ Kd.F kTm w ok A5 (rd_Rl xs i).f1.f2.length (rd_Rl xs i).f1.f2 ∧ ok ad.block := by
  obtain ⟨ad, c, e, _, hK, hc0, hin⟩ := Kd.F_get h zRl (i : Int) (by omega) (by omega)
  have hc : ∀ j u, c[j]? = some u → w.cell? (ad.add (i * 6 + j)) = some u := hc0
  obtain ⟨A2, c2, A5, c5, rfl, l2, g2, l5, g5⟩ := kRl_openF hK
  exact ⟨ad, A2, c2, A5, c5, e, hc 0 _ rfl, by rw [← add_field _ _ 1 (by omega)]; exact hc 1 _ rfl, by rw [← add_field _ _ 2 (by omega)]; exact hc 2 _ rfl, by rw [← add_field _ _ 3 (by omega)]; exact hc 3 _ rfl, by rw [← add_field _ _ 4 (by omega)]; exact hc 4 _ rfl, by rw [← add_field _ _ 5 (by omega)]; exact hc 5 _ rfl, l2, g2, l5, g5, hin (by decide)⟩
theorem rl_cells {W : World} {g e : Nat} {a b q r : Int} {A B : Option Addr} {n c k d : Nat} (h : W.heap[g]? = some (.cells #[.int .i64 a, .int .i64 b, .slice A n c, .int .i64 q, .int .i64 r, .slice B k d] e (0, 0))) :
    W.cell? ⟨g, 0, none⟩ = some (.int .i64 a) ∧ W.cell? ⟨g, 1, none⟩ = some (.int .i64 b) ∧ W.cell? ⟨g, 2, none⟩ = some (.slice A n c) ∧ W.cell? ⟨g, 3, none⟩ = some (.int .i64 q) ∧ W.cell? ⟨g, 4, none⟩ = some (.int .i64 r) ∧ W.cell? ⟨g, 5, none⟩ = some (.slice B k d) := ⟨(blk_cell h 0).trans rfl, (blk_cell h 1).trans rfl, (blk_cell h 2).trans rfl, (blk_cell h 3).trans rfl, (blk_cell h 4).trans rfl, (blk_cell h 5).trans rfl⟩
theorem sizeRl : (Try.prog.info? 100).map (·.size) = some 6 := by kernel_rfl
theorem one6 (a b : Int) (A : Option Addr) (n c : Nat) (q r : Int) (B : Option Addr) (k d : Nat) : ∀ x ∈ [Value.int .i64 a, .int .i64 b, .slice A n c, .int .i64 q, .int .i64 r, .slice B k d], x.oneCell' = true := by
  intro x hx; simp at hx; rcases hx with rfl | rfl | rfl | rfl | rfl | rfl <;> rfl
section
variable {ops : Array Oper} {rest : List Oper} {o : Oper} {act : Act} {Q : Exit → Act → World → Prop} {Kc : Act → World → Prop} {W : World}
theorem st_rl (p : Tmp) {x : Operand} (ho : o.op = .store 100 (.tmp p) x) (hgd : o.guard = none) (hN : o.dst = none) {g : Nat} {a b q r a' b' q' r' : Int} {A A' B B' : Option Addr} {n c n' c' m d m' d' : Nat}
    (haddr : act.eval (.tmp p) = .pointer (some ⟨g, 0, none⟩)) (hx : act.eval x = .agg #[.int .i64 a', .int .i64 b', .slice A' n' c', .int .i64 q', .int .i64 r', .slice B' m' d'])
    (hh : W.heap[g]? = some (.cells #[.int .i64 a, .int .i64 b, .slice A n c, .int .i64 q, .int .i64 r, .slice B m d] 100 (0, 0)))
    (h : ∀ w1, w1.heap[g]? = some (.cells #[.int .i64 a', .int .i64 b', .slice A' n' c', .int .i64 q', .int .i64 r', .slice B' m' d'] 100 (0, 0)) → W.grownBy w1 (some g) → w1.heap.size = W.heap.size → wpList Try.prog ops Q rest act w1) : wpList Try.prog ops Q (o :: rest) act W :=
  st_blk hgd hN ho #[.int .i64 a', .int .i64 b', .slice A' n' c', .int .i64 q', .int .i64 r', .slice B' m' d'] [.int .i64 a', .int .i64 b', .slice A' n' c', .int .i64 q', .int .i64 r', .slice B' m' d'] haddr hx rfl sizeRl (one6 _ _ _ _ _ _ _ _ _ _) hh (Nat.le_refl 6) rfl h
theorem st_rl_step (p : Tmp) {x : Operand} (ho : o.op = .store 100 (.tmp p) x) (hw : Region.wanted o (yielded ops act.tmps) = true) (hN : o.dst = none) {g : Nat} {a b q r a' b' q' r' : Int} {A A' B B' : Option Addr} {n c n' c' m d m' d' : Nat}
    (haddr : act.eval (.tmp p) = .pointer (some ⟨g, 0, none⟩)) (hx : act.eval x = .agg #[.int .i64 a', .int .i64 b', .slice A' n' c', .int .i64 q', .int .i64 r', .slice B' m' d'])
    (hh : W.heap[g]? = some (.cells #[.int .i64 a, .int .i64 b, .slice A n c, .int .i64 q, .int .i64 r, .slice B m d] 100 (0, 0)))
    (h : ∀ w1, w1.heap[g]? = some (.cells #[.int .i64 a', .int .i64 b', .slice A' n' c', .int .i64 q', .int .i64 r', .slice B' m' d'] 100 (0, 0)) → W.grownBy w1 (some g) → w1.heap.size = W.heap.size → Kc act w1) :
    if Region.wanted o (yielded ops act.tmps) = true then Oper.wp Try.prog o act W Kc Q else Kc (act.put o.dst undef) W := by
  rw [if_pos hw]
  obtain ⟨w1, hr, h2, h3, h4⟩ := run_blk (P := Try.prog) #[.int .i64 a', .int .i64 b', .slice A' n' c', .int .i64 q', .int .i64 r', .slice B' m' d'] [.int .i64 a', .int .i64 b', .slice A' n' c', .int .i64 q', .int .i64 r', .slice B' m' d'] (u := .agg #[.int .i64 a', .int .i64 b', .slice A' n' c', .int .i64 q', .int .i64 r', .slice B' m' d']) rfl sizeRl (one6 _ _ _ _ _ _ _ _ _ _) hh (Nat.le_refl 6) rfl
  unfold Oper.wp execOp
  simp only [ho, haddr, hx, Sem.run_bind, Sem.run_pure, Result.andThen_ok, hr]
  show Kc (act.put o.dst undef) _
  rw [hN]
  exact h _ h2 h3 h4
end
/-! ### what Check answers -/
def rlE (g : List Int) (r : Rl) : Int := if chkT g r.f0 ≠ 0 then chkT g r.f0 else if chkT g r.f1 ≠ 0 then chkT g r.f1 else if gtB r.f0 r.f1 = true then 0 else 4
def rlsE (g : List Int) (l : List Rl) : Int := if sigE g ≠ 0 then sigE g else if 20 < l.length then 2 else fe (rlE g) l
/-- Rules that are right. -/
theorem rls_ok {g : List Int} {l : List Rl} (h : rlsE g l = 0) : sigE g = 0 ∧ l.length ≤ 20 ∧ ∀ r ∈ l, okT g r.f0 ∧ okT g r.f1 ∧ gtB r.f0 r.f1 = true := by
  unfold rlsE at h
  by_cases h1 : sigE g = 0
  · rw [if_neg (by simpa using h1)] at h
    by_cases h2 : 20 < l.length
    · rw [if_pos h2] at h; cases h
    · rw [if_neg h2] at h
      refine ⟨h1, by omega, fun r hr => ?_⟩
      have h3 := fe_mem h r hr
      unfold rlE at h3
      by_cases a : chkT g r.f0 = 0
      · rw [if_neg (by simpa using a)] at h3
        by_cases b : chkT g r.f1 = 0
        · rw [if_neg (by simpa using b)] at h3
          by_cases c : gtB r.f0 r.f1 = true
          · exact ⟨chkT_ok.1 a, chkT_ok.1 b, c⟩
          · rw [if_neg c] at h3; cases h3
        · rw [if_pos b] at h3; exact absurd h3 b
      · rw [if_pos a] at h3; exact absurd h3 a
  · rw [if_pos h1] at h; exact absurd h h1
set_option maxHeartbeats 4000000 in
set_option maxRecDepth 100000 in
theorem rcheck_any (g : List Int) (Ag : Option Addr) (cg : Nat) (l : List Rl) (A : Option Addr) (c : Nat) (ok : Nat → Prop) (w : World) (hG : Kd.C (Kd.int .i64) w Ag g.length g) (hF : Kd.F kRl w ok A l.length l) :
    Calls Try.prog 29 #[.agg #[.slice Ag g.length cg], .slice A l.length c] w fun e w' => e = .returned (.int .i64 (rlsE g l)) ∧ Below w.heap.size w w' := by
  have hlen := Kd.F_max hF
  have HF := Aside0.mk hF
  have HG := Aside0.mk hG
  clear hF hG
  have g0 := newAt (w := w) (o := .cells #[.slice Ag g.length cg] 24) rfl
  have HB := Aside0.mk (below_alloc (Below.refl w.heap.size w) (.cells #[.slice Ag g.length cg] 24))
  go_enter Try.func29, Try.ntmps29
  go_upto_region 1 with (fail)
  generalize w.alloc (.cells #[.slice Ag g.length cg] 24) = W at *
  have HS := Aside0.mk g0
  have s0 := sg_cell g0
  clear g0
  go_upto_region 2 with (go_at_call 43; refine (signature_any g Ag cg W (Kd.C_below HG.out HB.out)).mono ?_; rintro e w2 ⟨rfl, hb2⟩; have HB2 := Aside0.mk hb2; clear hb2 s0)
  have HW2 := Aside0.mk (hbT HB.out HB2.out)
  by_cases hs : sigE g = 0
  · have hsb := bneF hs
    have HE : Aside0 (rlsE g l = if 20 < l.length then 2 else fe (rlE g) l) := ⟨by unfold rlsE; rw [if_neg (by simpa using hs)]⟩
    clear hs
    by_cases h20 : 20 < l.length
    · have h20i : (20 : Int) < l.length := by omega
      have HR : Aside0 (rlsE g l = 2) := ⟨by rw [HE.out, if_pos h20]⟩
      go_wp2
      go_ret
      exact ⟨ret_int HR.out.symm, HW2.out⟩
    · have h20i : (l.length : Int) ≤ 20 := by omega
      have HR : Aside0 (rlsE g l = fe (rlE g) l) := ⟨by rw [HE.out, if_neg h20]⟩
      clear HE
      go_wp2
      go_loopw [21] (fun v wr => ∃ i : Nat, i ≤ l.length ∧ v = .int .i64 i ∧ Aside0 (fe (rlE g) (l.take i) = 0) ∧ Aside0 (Below w2.heap.size w2 wr)) (fun v _ => l.length - (intOf v).toNat)
      case atStart => exact ⟨0, by omega, rfl, ⟨rfl⟩, ⟨Below.refl _ _⟩⟩
      case round =>
        rename World => wo
        obtain ⟨i, hi, rfl, HI, HBo⟩ := hrel
        have HWo := Aside0.mk (hbT HW2.out HBo.out)
        have HB2o := Aside0.mk (hbT HB2.out HBo.out)
        by_cases hil : i < l.length
        · obtain ⟨ad, A2, c2, A5, c5, rfl, E0, E1, E2, E3, E4, E5, l2, f2, l5, f5, _⟩ := at_Rl (Kd.F_below HF.out HWo.out) i hil
          have HF2 := Aside0.mk f2
          have HF5 := Aside0.mk f5
          have HTK := Aside0.mk (fe_take_succ (f := rlE g) hil HI.out)
          have HBA := Aside0.mk (fe_bad (f := rlE g) (l := l) (k := i + 1))
          rw [← rdRl_get l i hil] at HTK
          have hii : (i : Int) < l.length := by omega
          clear f2 f5
          generalize rd_Rl l i = r at *
          go_upto_region 9 with (((with_reducible refine gate_store (t := 100) (p := 7) rfl ?_); refine st_rl 7 rfl rfl rfl rfl rfl (heap_alloc_new _ _) ?_); intro w4 hs4 hG4 hz4; have GR := Aside0.mk hs4; have HB4 := Aside0.mk (gbS (below_alloc (Below.refl wo.heap.size wo) _) hG4 (Nat.le_refl _)); clear hs4 hG4 hz4 E0 E1 E2 E3 E4 E5)
          obtain ⟨r0, r1, r2, r3, r4, r5⟩ := rl_cells GR.out
          have HLn := Aside0.mk (F_lit2 (heap_alloc_new w4 (.cells #[.int .i64 r.f0.f0, .int .i64 r.f0.f1, .slice A2 r.f0.f2.length c2, .int .i64 r.f1.f0, .int .i64 r.f1.f1, .slice A5 r.f1.f2.length c5] 46)) (Kd.F_below HF2.out (below_alloc HB4.out _)) l2 (Kd.F_below HF5.out (below_alloc HB4.out _)) l5)
          have HB5 := Aside0.mk (below_alloc (Below.refl w4.heap.size w4) (.cells #[.int .i64 r.f0.f0, .int .i64 r.f0.f1, .slice A2 r.f0.f2.length c2, .int .i64 r.f1.f0, .int .i64 r.f1.f1, .slice A5 r.f1.f2.length c5] 46))
          go_wp2
          generalize w4.alloc (.cells #[.int .i64 r.f0.f0, .int .i64 r.f0.f1, .slice A2 r.f0.f2.length c2, .int .i64 r.f1.f0, .int .i64 r.f1.f1, .slice A5 r.f1.f2.length c5] 46) = w5 at *
          clear r0 r1 r2 r3 r4 r5
          have HBo5 := Aside0.mk (hbT HB4.out HB5.out)
          go_loopw [31] (fun v wr => ∃ j : Nat, j ≤ 2 ∧ v = .int .i64 j ∧ Aside0 (0 < j → chkT g r.f0 = 0) ∧ Aside0 (1 < j → chkT g r.f1 = 0) ∧ Aside0 (Below w5.heap.size w5 wr)) (fun v _ => 2 - (intOf v).toNat)
          case atStart => exact ⟨0, by omega, rfl, ⟨fun h => by omega⟩, ⟨fun h => by omega⟩, ⟨Below.refl _ _⟩⟩
          case round =>
            obtain ⟨j, hj, rfl, HJ0, HJ1, HBj⟩ := hrel
            have HBoj := Aside0.mk (hbT HBo5.out HBj.out)
            have HWj := Aside0.mk (hbT HWo.out HBoj.out)
            have HB2j := Aside0.mk (hbT HB2o.out HBoj.out)
            by_cases hjl : j < 2
            · obtain ⟨ad2, A8, c8, hA2, G0, G1, G2, m2, gf, _⟩ := at_TmF (Kd.F_below HLn.out HBj.out) (j : Int) (by omega) (by simp; omega)
              injection hA2 with hA2
              subst hA2
              simp only [Int.toNat_natCast, addZ, Nat.zero_add] at G0 G1 G2
              have HGF := Aside0.mk gf
              have HX0 : Aside0 (chkT g (rd_Tm [r.f0, r.f1] j) ≠ 0 → rlE g r = chkT g (rd_Tm [r.f0, r.f1] j)) := ⟨fun h => by
                rcases (show j = 0 ∨ j = 1 by omega) with rfl | rfl
                · have h : chkT g r.f0 ≠ 0 := h
                  show rlE g r = chkT g r.f0
                  unfold rlE; rw [if_pos h]
                · have h : chkT g r.f1 ≠ 0 := h
                  have h0 := HJ0.out (by omega)
                  show rlE g r = chkT g r.f1
                  unfold rlE; rw [if_neg (by simpa using h0), if_pos h]⟩
              have HX1 : Aside0 (chkT g (rd_Tm [r.f0, r.f1] j) = 0 → (0 < j + 1 → chkT g r.f0 = 0) ∧ (1 < j + 1 → chkT g r.f1 = 0)) := ⟨fun h => by
                rcases (show j = 0 ∨ j = 1 by omega) with rfl | rfl
                · exact ⟨fun _ => h, fun h2 => by omega⟩
                · exact ⟨fun _ => HJ0.out (by omega), fun _ => h⟩⟩
              clear gf
              have hjl2 : (j : Int) < 2 := by omega
              generalize rd_Tm [r.f0, r.f1] (j : Int) = x at *
              go_upto_region 12 with (((with_reducible refine gate_store (t := 46) (p := 9) rfl ?_); refine st_tm 9 rfl rfl rfl rfl rfl (heap_alloc_new _ _) ?_); intro w6 hs6 hG6 hz6; have GX := Aside0.mk hs6; have HB6 := Aside0.mk (gbS (below_alloc (Below.refl wr.heap.size wr) _) hG6 (Nat.le_refl _)); clear hs6 hG6 hz6 G0 G1 G2)
              obtain ⟨x0, x1, x2⟩ := tm_cells GX.out
              have HW6 := Aside0.mk (hbT HWj.out HB6.out)
              have s0 := sg_cell (((hbT HB2j.out HB6.out).block _ (blk_lt HS.out)).trans HS.out)
              go_upto_region 13 with (go_at_call 74; refine (own_any g Ag cg x A8 c8 w6 (Kd.C_below HG.out HW6.out) (Kd.F_now (Kd.F_below HGF.out HB6.out))).mono ?_; rintro e w7 ⟨rfl, hb7⟩; have HB7 := Aside0.mk (hbT HB6.out hb7); clear hb7 s0 x0 x1 x2)
              have HW7 := Aside0.mk (hbT HWj.out HB7.out)
              by_cases hx : chkT g x = 0
              · have hxb := bneF hx
                obtain ⟨y0, y1⟩ := HX1.out hx
                have HY0 := Aside0.mk y0
                have HY1 := Aside0.mk y1
                clear hx y0 y1
                go_wp2
                go_roundw
                case rel => exact ⟨j + 1, by omega, by go_num, HY0, HY1, ⟨hbT HBj.out HB7.out⟩⟩
                case measure => simp [intOf]; omega
              · have hxb := bneT hx
                have HR2 : Aside0 (rlsE g l = chkT g x) := ⟨by
                  have e := HX0.out hx
                  have h1 := HTK.out
                  rw [HR.out, HBA.out (by rw [h1, e]; exact hx), h1, e]⟩
                clear hx
                go_wp2
                go_ret
                exact ⟨ret_int HR2.out.symm, HW7.out⟩
            · obtain rfl : j = 2 := by omega
              have hx0 := HJ0.out (by omega)
              have hx1 := HJ1.out (by omega)
              have HRE : Aside0 (rlE g r = if gtB r.f0 r.f1 = true then 0 else 4) := ⟨by unfold rlE; rw [if_neg (by simpa using hx0), if_neg (by simpa using hx1)]⟩
              have ho0 := chkT_ok.1 hx0
              have ho1 := chkT_ok.1 hx1
              have HAB := Aside0.mk (above_any g r.f0 r.f1 A2 A5 c2 c5 _ _ wr (Kd.F_below HF2.out HBoj.out) l2 (Kd.F_below HF5.out HBoj.out) l5 (by have := ho0.1; omega) (by have := ho1.1; omega) ho0.2 ho1.2)
              clear hx0 hx1 ho0 ho1
              obtain ⟨r0, r1, r2, r3, r4, r5⟩ := rl_cells (((hbT HB5.out HBj.out).block _ (blk_lt GR.out)).trans GR.out)
              go_wp2_with (fail)
              refine HAB.out.mono ?_
              rintro e w8 ⟨rfl, hb8⟩
              have HB8 := Aside0.mk (hbT (hbT HBo.out HBoj.out) hb8)
              clear hb8 HAB r0 r1 r2 r3 r4 r5
              cases hg : gtB r.f0 r.f1 with
              | true =>
                have HI2 : Aside0 (fe (rlE g) (l.take (i+1)) = 0) := ⟨by rw [HTK.out, HRE.out, if_pos hg]⟩
                clear hg
                go_wp2
                go_roundw
                case rel => exact ⟨i + 1, by omega, by go_num, HI2, HB8⟩
                case measure => simp [intOf]; omega
              | false =>
                have HR2 : Aside0 (rlsE g l = 4) := ⟨by
                  have h1 := HTK.out
                  have e : rlE g r = 4 := by rw [HRE.out, if_neg (by rw [hg]; decide)]
                  rw [HR.out, HBA.out (by rw [h1, e]; decide), h1, e]⟩
                clear hg
                go_wp2
                go_ret
                exact ⟨ret_int HR2.out.symm, hbT HW2.out HB8.out⟩
        · obtain rfl : i = l.length := by omega
          have HR2 : Aside0 (rlsE g l = 0) := ⟨by rw [HR.out]; have := HI.out; rwa [List.take_length] at this⟩
          go_wp2
          go_ret
          exact ⟨ret_int HR2.out.symm, HWo.out⟩
  · have hsb := bneT hs
    have HR : Aside0 (rlsE g l = sigE g) := ⟨by unfold rlsE; rw [if_pos hs]⟩
    clear hs
    go_wp2
    go_ret
    exact ⟨ret_int HR.out.symm, HW2.out⟩
end Go.Proofs.Ytcgnpmjkeifokaa
-- K40
/- slices.EqualFunc over terms by a function that passes a state on; subst.Meet. -/
namespace Go.Proofs.Ytcgnpmjkeifokaa
open Go.RowKit Go.Proofs.YtcgnpmjkeifokaaW.PrintWords
set_option linter.unusedVariables false
set_option linter.unusedSimpArgs false
section
variable {σ : Type}
def goS (f : σ → Tm → Tm → σ × Bool) : σ → List (Tm × Tm) → σ × Bool
  | s, [] => (s, true)
  | s, p :: ps => if (f s p.1 p.2).2 then goS f (f s p.1 p.2).1 ps else ((f s p.1 p.2).1, false)
theorem goS_append (f : σ → Tm → Tm → σ × Bool) (a b : List (Tm × Tm)) : ∀ s, goS f s (a ++ b) = if (goS f s a).2 then goS f (goS f s a).1 b else ((goS f s a).1, false) := by
  induction a with
  | nil => intro s; simp [goS]
  | cons p ps ih =>
    intro s
    simp only [List.cons_append, goS]
    by_cases h : (f s p.1 p.2).2 = true
    · simp only [h, if_true]; exact ih _
    · simp [h]
theorem goS_take_succ (f : σ → Tm → Tm → σ × Bool) (s : σ) (l : List (Tm × Tm)) (k : Nat) (hk : k < l.length) (s1 : σ) (h : goS f s (l.take k) = (s1, true)) : goS f s (l.take (k+1)) = ((f s1 l[k].1 l[k].2).1, (f s1 l[k].1 l[k].2).2) := by
  rw [List.take_succ_eq_append_getElem hk, goS_append, h]
  simp only [if_true, goS]
  by_cases h2 : (f s1 l[k].1 l[k].2).2 = true
  · simp [h2]
  · simp [h2]
theorem goS_bad (f : σ → Tm → Tm → σ × Bool) (s : σ) (l : List (Tm × Tm)) (k : Nat) (s1 : σ) (h : goS f s (l.take k) = (s1, false)) : goS f s l = (s1, false) := by
  have := goS_append f (l.take k) (l.drop k) s
  rw [List.take_append_drop, h] at this
  simpa using this
def eqS (f : σ → Tm → Tm → σ × Bool) (s : σ) (xs ys : List Tm) : σ × Bool := if xs.length = ys.length then goS f s (xs.zip ys) else (s, false)
set_option maxHeartbeats 4000000 in
set_option maxRecDepth 100000 in
theorem equalS (g : Nat) (lb : Array Value) (f : σ → Tm → Tm → σ × Bool) (b : Nat) (St : σ → World → Prop) (hst : ∀ s W W', St s W → Below W.heap.size W W' → St s W') (eg : ∀ args w, (callFunc g args).run Try.prog w = .ok (.enter g args) w)
    (xs ys : List Tm) (A B : Option Addr) (c d : Nat) (okx oky : Nat → Prop) (w : World) (s : σ) (hF : Kd.F kTm w okx A xs.length xs) (hF2 : Kd.F kTm w oky B ys.length ys) (hx : ∀ k, okx k → k ≠ b) (hy : ∀ k, oky k → k ≠ b) (hs0 : St s w)
    (hp : ∀ x, x ∈ xs → ∀ y, y ∈ ys → ∀ (Ax Ay : Option Addr) (cx cy : Nat) (W : World) (s1 : σ), w.grownBy W (some b) → Kd.F kTm W okx Ax x.f2.length x.f2 → x.f2.length ≤ cx → Kd.F kTm W oky Ay y.f2.length y.f2 → y.f2.length ≤ cy → St s1 W →
      Calls Try.prog g (#[.agg #[.int .i64 x.f0, .int .i64 x.f1, .slice Ax x.f2.length cx], .agg #[.int .i64 y.f0, .int .i64 y.f1, .slice Ay y.f2.length cy]] ++ lb) W fun e w' => e = .returned (.bool (f s1 x y).2) ∧ St (f s1 x y).1 w' ∧ W.grownBy w' (some b)) :
    Calls Try.prog 126 #[.slice A xs.length c, .slice B ys.length d, .func (.func g) #[] lb] w fun e w' => e = .returned (.bool (eqS f s xs ys).2) ∧ St (eqS f s xs ys).1 w' ∧ w.grownBy w' (some b) := by
  have hlen := Kd.F_max hF
  have hlen2 := Kd.F_max hF2
  have HF := Aside0.mk hF
  have HF2 := Aside0.mk hF2
  have HP := Aside0.mk hp
  have HX0 := Aside0.mk hx
  have HY0 := Aside0.mk hy
  have HST := Aside0.mk hst
  have HS0 := Aside0.mk hs0
  clear hF hF2 hp hx hy hst hs0
  by_cases hn : xs.length = ys.length
  · have hB := bneF (a := xs.length) (b := ys.length) (by omega)
    have HN := Aside0.mk hn
    have hle : xs.length ≤ ys.length := by omega
    have hB' : (xs.length != ys.length) = false := by simp [hn]
    have HEQ : Aside0 (eqS f s xs ys = goS f s (xs.zip ys)) := ⟨by unfold eqS; rw [if_pos hn]⟩
    have HZL : Aside0 ((xs.zip ys).length = xs.length) := ⟨by simp; omega⟩
    clear hn
    go_enter Try.func126, Try.ntmps126
    go_wp2
    go_loopw [17] (fun i wr => ∃ (k : Nat) (sk : σ), k ≤ xs.length ∧ i = .int .i64 k ∧ Aside0 (goS f s ((xs.zip ys).take k) = (sk, true)) ∧ Aside0 (St sk wr) ∧ Aside0 (w.grownBy wr (some b))) (fun i _ => xs.length - (intOf i).toNat)
    case atStart => exact ⟨0, s, by omega, rfl, ⟨by simp [goS]⟩, HS0, ⟨gbOf (Below.refl _ _) _⟩⟩
    case round =>
      obtain ⟨k, sk, hk, rfl, HG0, HSk, hb⟩ := hrel
      have HFr := Aside0.mk (Kd.F_grown HF.out hb.out (fun q hq e => HX0.out q hq (by injection e)))
      have HFr2 := Aside0.mk (Kd.F_grown HF2.out hb.out (fun q hq e => HY0.out q hq (by injection e)))
      by_cases hlt : k < xs.length
      · have hlt2 : k < ys.length := by omega
        obtain ⟨ad, A2, c2, rfl, E0, E1, E2, hl2, hG, _⟩ := at_TmF HFr.out (k : Int) (by omega) (by omega)
        obtain ⟨bd, B2, d2, rfl, G0, G1, G2, gl2, hG2, _⟩ := at_TmF HFr2.out (k : Int) (by omega) (by omega)
        simp only [Int.toNat_natCast] at E0 E1 E2 G0 G1 G2
        have HZK : Aside0 (goS f s ((xs.zip ys).take (k+1)) = ((f sk (rd_Tm xs k) (rd_Tm ys k)).1, (f sk (rd_Tm xs k) (rd_Tm ys k)).2)) := ⟨by
          have h1 := goS_take_succ f s (xs.zip ys) k (by rw [HZL.out]; exact hlt) sk HG0.out
          have e : (xs.zip ys)[k]'(by rw [HZL.out]; exact hlt) = (rd_Tm xs k, rd_Tm ys k) := by rw [rd_get xs k hlt, rd_get ys k hlt2]; simp
          rw [e] at h1
          exact h1⟩
        have HX := Aside0.mk (HP.out _ (rd_mem xs k hlt) _ (rd_mem ys k hlt2))
        have HG := Aside0.mk hG
        have HG2 := Aside0.mk hG2
        have HC := Aside0.mk hl2
        have HC2 := Aside0.mk gl2
        have HB2 := Aside0.mk (below_alloc (below_alloc (Below.refl wr.heap.size wr) (.cells #[.int .i64 (rd_Tm xs (k : Int)).f0, .int .i64 (rd_Tm xs (k : Int)).f1, .slice A2 (rd_Tm xs (k : Int)).f2.length c2] 46)) (.cells #[.int .i64 (rd_Tm ys (k : Int)).f0, .int .i64 (rd_Tm ys (k : Int)).f1, .slice B2 (rd_Tm ys (k : Int)).f2.length d2] 46))
        have L0 := oldc (below_alloc (Below.refl wr.heap.size wr) (.cells #[.int .i64 (rd_Tm xs (k : Int)).f0, .int .i64 (rd_Tm xs (k : Int)).f1, .slice A2 (rd_Tm xs (k : Int)).f2.length c2] 46)) G0
        have L1 := oldc (below_alloc (Below.refl wr.heap.size wr) (.cells #[.int .i64 (rd_Tm xs (k : Int)).f0, .int .i64 (rd_Tm xs (k : Int)).f1, .slice A2 (rd_Tm xs (k : Int)).f2.length c2] 46)) G1
        have L2 := oldc (below_alloc (Below.refl wr.heap.size wr) (.cells #[.int .i64 (rd_Tm xs (k : Int)).f0, .int .i64 (rd_Tm xs (k : Int)).f1, .slice A2 (rd_Tm xs (k : Int)).f2.length c2] 46)) G2
        clear hG hG2 hl2 gl2
        go_wp2_with (fail)
        refine (HX.out A2 B2 c2 d2 _ sk (gbT hb.out (gbOf HB2.out _) (.inl rfl)) (Kd.F_below HG.out HB2.out) HC.out (Kd.F_below HG2.out HB2.out) HC2.out (HST.out _ _ _ HSk.out HB2.out)).mono ?_
        rintro e w2 ⟨rfl, hS2, hg2⟩
        have HS2 := Aside0.mk hS2
        have HG3 := Aside0.mk (gbT hb.out (gbT (gbOf HB2.out _) hg2 (.inl rfl)) (.inl rfl))
        clear HB2 hg2 hS2
        cases hpx : (f sk (rd_Tm xs (k : Int)) (rd_Tm ys (k : Int))).2 with
        | true =>
          have HR : Aside0 (goS f s ((xs.zip ys).take (k+1)) = ((f sk (rd_Tm xs k) (rd_Tm ys k)).1, true)) := ⟨by rw [HZK.out, hpx]⟩
          clear HX hpx
          go_wp2
          go_roundw
          case rel => exact ⟨k + 1, _, by omega, by go_num, HR, HS2, HG3⟩
          case measure => simp [intOf]; omega
        | false =>
          have HR : Aside0 (eqS f s xs ys = ((f sk (rd_Tm xs k) (rd_Tm ys k)).1, false)) := ⟨by rw [HEQ.out]; exact goS_bad f s _ (k+1) _ (by rw [HZK.out, hpx])⟩
          clear HX hpx
          go_wp2
          go_ret
          exact ⟨by rw [HR.out]; rfl, by rw [HR.out]; exact HS2.out, HG3.out⟩
      · obtain rfl : k = xs.length := by omega
        have HR : Aside0 (eqS f s xs ys = (sk, true)) := ⟨by have h1 := HG0.out; rw [← HZL.out, List.take_length] at h1; rw [HEQ.out, h1]⟩
        clear HG0
        go_wp2
        go_ret
        exact ⟨by rw [HR.out]; rfl, by rw [HR.out]; exact HSk.out, hb.out⟩
  · have hB := bneT (a := xs.length) (b := ys.length) (by omega)
    have hB' : (xs.length != ys.length) = true := by simp [hn]
    have HR : Aside0 (eqS f s xs ys = (s, false)) := ⟨by unfold eqS; rw [if_neg hn]⟩
    clear hn
    go_enter Try.func126, Try.ntmps126
    go_wp2
    go_ret
    exact ⟨by rw [HR.out]; rfl, by rw [HR.out]; exact HS0.out, gbOf (Below.refl _ _) _⟩
end
/-! ### Meet -/
mutual
def growT : List (Int × Tm) → Tm → Tm → List (Int × Tm) × Bool
  | m, ⟨v, f, l⟩, t => if 0 < v then (match mget m v with | some u => (m, eqT u t) | none => (m ++ [(v, t)], true)) else if t.f0 = 0 ∧ f = t.f1 ∧ l.length = t.f2.length then growL m l t.f2 else (m, false)
def growL : List (Int × Tm) → List Tm → List Tm → List (Int × Tm) × Bool
  | m, [], _ => (m, true)
  | m, p :: ps, [] => (m, false)
  | m, p :: ps, t :: ts => if (growT m p t).2 then growL (growT m p t).1 ps ts else ((growT m p t).1, false)
end
theorem growT_eq (m : List (Int × Tm)) (p t : Tm) : growT m p t = if 0 < p.f0 then (match mget m p.f0 with | some u => (m, eqT u t) | none => (m ++ [(p.f0, t)], true)) else if t.f0 = 0 ∧ p.f1 = t.f1 ∧ p.f2.length = t.f2.length then growL m p.f2 t.f2 else (m, false) := by cases p; rw [growT]
theorem growL_go : ∀ (ps ts : List Tm) (m : List (Int × Tm)), ps.length = ts.length → growL m ps ts = goS growT m (ps.zip ts)
  | [], [], m, _ => by rw [growL]; rfl
  | p :: ps, t :: ts, m, h => by
    rw [growL, List.zip_cons_cons, goS]
    simp only
    by_cases h2 : (growT m p t).2 = true
    · simp only [h2, if_true]; exact growL_go ps ts _ (by simpa using h)
    · simp [h2]
  | [], _ :: _, _, h => by simp at h
  | _ :: _, [], _, h => by simp at h
theorem map_cell {W : World} {g e : Nat} {v : Value} (h : W.heap[g]? = some (.cells #[v] e (0, 0))) : W.cell? ⟨g, 0, none⟩ = some v := (blk_cell h 0).trans rfl
set_option maxHeartbeats 4000000 in
set_option maxRecDepth 100000 in
theorem meet_any (m : Nat) : ∀ (p t : Tm) (A B : Option Addr) (c d b : Nat) (okp okt okm : Nat → Prop) (mp : List (Int × Tm)) (w : World), szT p ≤ m → MapT w b okm mp → Kd.F kTm w okp A p.f2.length p.f2 → p.f2.length ≤ c → Kd.F kTm w okt B t.f2.length t.f2 → t.f2.length ≤ d → (∀ k, okp k → k ≠ b) → (∀ k, okt k → okm k) → (∀ k, okm k → k ≠ b) →
    Calls Try.prog 129 #[.map (some b), .agg #[.int .i64 p.f0, .int .i64 p.f1, .slice A p.f2.length c], .agg #[.int .i64 t.f0, .int .i64 t.f1, .slice B t.f2.length d]] w fun e w' => e = .returned (.bool (growT mp p t).2) ∧ MapT w' b okm (growT mp p t).1 ∧ w.grownBy w' (some b) := by
  induction m with
  | zero => intro p t A B c d b okp okt okm mp w h; have := szT_pos p; omega
  | succ n ih =>
  intro p t A B c d b okp okt okm mp w hm hM hF hc hF2 hd hpb htm hmb
  have hlen := Kd.F_max hF
  have hlen2 := Kd.F_max hF2
  have hbw := hM.lt
  have HF := Aside0.mk hF
  have HF2 := Aside0.mk hF2
  have HM := Aside0.mk hM
  have HPB := Aside0.mk hpb
  have HTM := Aside0.mk htm
  have HMB := Aside0.mk hmb
  have HSZ := Aside0.mk hm
  have HS := Aside0.mk (szT_eq p)
  have IH := Aside0.mk ih
  have HE := Aside0.mk (growT_eq mp p t)
  clear hF hF2 hM hpb htm hmb hm ih
  have g0 := blk_alloc (blk_alloc (newAt (w := w) (o := .cells #[.map (some b)] 121) rfl) (.cells #[.int .i64 p.f0, .int .i64 p.f1, .slice A p.f2.length c] 46)) (.cells #[.int .i64 t.f0, .int .i64 t.f1, .slice B t.f2.length d] 46)
  have g1 := blk_alloc (newAt (w := w.alloc (.cells #[.map (some b)] 121)) (o := .cells #[.int .i64 p.f0, .int .i64 p.f1, .slice A p.f2.length c] 46) (k := w.heap.size + 1) (by simp)) (.cells #[.int .i64 t.f0, .int .i64 t.f1, .slice B t.f2.length d] 46)
  have g2 := newAt (w := (w.alloc (.cells #[.map (some b)] 121)).alloc (.cells #[.int .i64 p.f0, .int .i64 p.f1, .slice A p.f2.length c] 46)) (o := .cells #[.int .i64 t.f0, .int .i64 t.f1, .slice B t.f2.length d] 46) (k := w.heap.size + 2) (by simp)
  have HB := Aside0.mk (below_alloc (below_alloc (below_alloc (Below.refl w.heap.size w) (.cells #[.map (some b)] 121)) (.cells #[.int .i64 p.f0, .int .i64 p.f1, .slice A p.f2.length c] 46)) (.cells #[.int .i64 t.f0, .int .i64 t.f1, .slice B t.f2.length d] 46))
  go_enter Try.func129, Try.ntmps129
  go_upto_region 1 with (fail)
  generalize ((w.alloc (.cells #[.map (some b)] 121)).alloc (.cells #[.int .i64 p.f0, .int .i64 p.f1, .slice A p.f2.length c] 46)).alloc (.cells #[.int .i64 t.f0, .int .i64 t.f1, .slice B t.f2.length d] 46) = W at *
  have GM := Aside0.mk g0
  have GP := Aside0.mk g1
  have GT := Aside0.mk g2
  have hlM := blk_lt g0
  have hlT := blk_lt g2
  clear g0 g1 g2
  have m0 := map_cell GM.out
  obtain ⟨p0, p1, p2⟩ := tm_cells GP.out
  obtain ⟨t0, t1, t2⟩ := tm_cells GT.out
  have HMW := Aside0.mk (MapT.below HM.out HB.out)
  have HFW := Aside0.mk (Kd.F_below HF.out HB.out)
  have HFW2 := Aside0.mk (Kd.F_below HF2.out HB.out)
  by_cases hv : 0 < p.f0
  · go_upto_region 3 with (first | (at_lookup; refine wp_lookT rfl _ _ rfl rfl HMW.out p.f0 rfl ?_; intro A3 c3 h3 hF3; have HF3 := Aside0.mk hF3; clear hF3) | (((with_reducible refine gate_store (t := 46) (p := 7) rfl ?_); refine st_tm 7 rfl rfl rfl rfl rfl (heap_alloc_new _ _) ?_); intro w3 hs3 hG3 hz3; have HU := Aside0.mk hs3; have HB3 := Aside0.mk (gbS (below_alloc (Below.refl W.heap.size W) _) hG3 (Nat.le_refl _)); clear hs3 hG3 hz3))
    have HM3 := Aside0.mk (MapT.below HMW.out HB3.out)
    have HB03 := Aside0.mk (hbT HB.out HB3.out)
    have m3 := map_cell ((HB3.out.block _ (blk_lt GM.out)).trans GM.out)
    obtain ⟨q0, q1, q2⟩ := tm_cells ((HB3.out.block _ (blk_lt GP.out)).trans GP.out)
    obtain ⟨s0, s1, s2⟩ := tm_cells ((HB3.out.block _ (blk_lt GT.out)).trans GT.out)
    clear m0 p0 p1 p2 t0 t1 t2
    cases hg : mget mp p.f0 with
    | none =>
      have hh : mhas mp p.f0 = false := by unfold mhas; rw [hg]; rfl
      have HR : Aside0 (growT mp p t = (mset mp p.f0 t, true)) := ⟨by rw [HE.out, if_pos hv, hg, mset_new hg]⟩
      simp only [hh]
      clear hg hh
      go_wp2_with (at_mapUpdate; refine wp_updT rfl _ _ _ rfl rfl HM3.out p.f0 rfl t B d rfl hd (Kd.F_mono (Kd.F_below HFW2.out HB3.out) HTM.out) HMB.out ?_; intro w5 hM5 hG5; have HM5 := Aside0.mk hM5; have HG5 := Aside0.mk hG5; clear hM5 hG5 m3 q0 q1 q2 s0 s1 s2)
      go_ret
      exact ⟨by rw [HR.out]; rfl, by rw [HR.out]; exact HM5.out, gbT (gbOf HB03.out _) HG5.out (.inl rfl)⟩
    | some u =>
      have hh : mhas mp p.f0 = true := by unfold mhas; rw [hg]; rfl
      have HU2 : Aside0 (mgetT mp p.f0 = u) := ⟨by unfold mgetT; rw [hg]; rfl⟩
      have HR : Aside0 (growT mp p t = (mp, eqT u t)) := ⟨by rw [HE.out, if_pos hv, hg]⟩
      simp only [hh]
      clear hg hh
      rw [HU2.out] at h3 HF3
      have HU3 := HU.out
      rw [HU2.out] at HU3
      obtain ⟨u0, u1, u2⟩ := tm_cells HU3
      simp only [HU2.out]
      clear HU3
      go_wp2_with (go_at_call 94; refine (same_any (szT u) u t A3 B c3 d _ _ w3 (Nat.le_refl _) (Kd.F_below HF3.out HB3.out) h3 (Kd.F_below HFW2.out HB3.out) hd).mono ?_; rintro e w5 ⟨rfl, hb5⟩; have HB5 := Aside0.mk hb5; clear hb5 m3 q0 q1 q2 s0 s1 s2 u0 u1 u2)
      go_ret
      exact ⟨by rw [HR.out]; rfl, by rw [HR.out]; exact MapT.below HM3.out HB5.out, gbOf (hbT HB03.out HB5.out) _⟩
  · have HE2 : Aside0 (growT mp p t = if t.f0 = 0 ∧ p.f1 = t.f1 ∧ p.f2.length = t.f2.length then growL mp p.f2 t.f2 else (mp, false)) := ⟨by rw [HE.out, if_neg hv]⟩
    by_cases h1 : t.f0 = 0
    · have h1b := beqT h1
      by_cases h2 : p.f1 = t.f1
      · have h2b := beqT h2
        have HR : Aside0 (eqS growT mp p.f2 t.f2 = growT mp p t) := ⟨by
          rw [HE2.out]; unfold eqS
          by_cases h3 : p.f2.length = t.f2.length
          · rw [if_pos h3, if_pos ⟨h1, h2, h3⟩, growL_go _ _ _ h3]
          · rw [if_neg h3, if_neg (fun h => h3 h.2.2)]⟩
        have HMB2 : Aside0 (∀ k, okt k → k ≠ b) := ⟨fun k hk => HMB.out k (HTM.out k hk)⟩
        have hEq := equalS 149 #[.pointer (some ⟨w.heap.size, 0, none⟩)] growT b (fun m1 W' => MapT W' b okm m1 ∧ W'.heap[w.heap.size]? = some (.cells #[.map (some b)] 121 (0, 0))) (fun s W1 W2 h hb => ⟨h.1.below hb, (hb.block _ (blk_lt h.2)).trans h.2⟩) (enters_of Try.func149 (by kernel_rfl) rfl) p.f2 t.f2 A B c d okp okt W mp HFW.out HFW2.out HPB.out HMB2.out ⟨HMW.out, GM.out⟩ (fun x hx y hy Ax Ay cx cy W1 s1 hg1 hFx hcx hFy hcy hS1 => by
          obtain ⟨hM1, hC1⟩ := hS1
          have hxs : szT x ≤ n := by have := szT_mem hx; have := HS.out; have := HSZ.out; omega
          have I := Aside0.mk (IH.out x y Ax Ay cx cy b okp okt okm s1)
          have HFx := Aside0.mk hFx
          have HFy := Aside0.mk hFy
          have HM1 := Aside0.mk hM1
          clear hFx hFy hM1 hg1 hx hy m0 p0 p1 p2 t0 t1 t2
          have a0 := blk_alloc (newAt (w := W1) (o := .cells #[.int .i64 x.f0, .int .i64 x.f1, .slice Ax x.f2.length cx] 46) rfl) (.cells #[.int .i64 y.f0, .int .i64 y.f1, .slice Ay y.f2.length cy] 46)
          have a1 := newAt (w := W1.alloc (.cells #[.int .i64 x.f0, .int .i64 x.f1, .slice Ax x.f2.length cx] 46)) (o := .cells #[.int .i64 y.f0, .int .i64 y.f1, .slice Ay y.f2.length cy] 46) (k := W1.heap.size + 1) (by simp)
          have a2 := blk_alloc (blk_alloc hC1 (.cells #[.int .i64 x.f0, .int .i64 x.f1, .slice Ax x.f2.length cx] 46)) (.cells #[.int .i64 y.f0, .int .i64 y.f1, .slice Ay y.f2.length cy] 46)
          have HBx := Aside0.mk (below_alloc (below_alloc (Below.refl W1.heap.size W1) (.cells #[.int .i64 x.f0, .int .i64 x.f1, .slice Ax x.f2.length cx] 46)) (.cells #[.int .i64 y.f0, .int .i64 y.f1, .slice Ay y.f2.length cy] 46))
          clear hC1
          show Calls Try.prog 149 #[.agg #[.int .i64 x.f0, .int .i64 x.f1, .slice Ax x.f2.length cx], .agg #[.int .i64 y.f0, .int .i64 y.f1, .slice Ay y.f2.length cy], .pointer (some ⟨w.heap.size, 0, none⟩)] W1 _
          go_enter Try.func149, Try.ntmps149
          go_upto_region 1 with (fail)
          generalize (W1.alloc (.cells #[.int .i64 x.f0, .int .i64 x.f1, .slice Ax x.f2.length cx] 46)).alloc (.cells #[.int .i64 y.f0, .int .i64 y.f1, .slice Ay y.f2.length cy] 46) = W2 at *
          have m0 := map_cell a2
          obtain ⟨p0, p1, p2⟩ := tm_cells a0
          obtain ⟨t0, t1, t2⟩ := tm_cells a1
          have HA2 := Aside0.mk a2
          clear a0 a1 a2
          go_wp2_with (go_at_call 129; refine (I.out W2 hxs (MapT.below HM1.out HBx.out) (Kd.F_below HFx.out HBx.out) hcx (Kd.F_below HFy.out HBx.out) hcy HPB.out HTM.out HMB.out).mono ?_; rintro e w5 ⟨rfl, hM5, hG5⟩; have HM5 := Aside0.mk hM5; have HG5 := Aside0.mk hG5; clear hM5 hG5 m0 p0 p1 p2 t0 t1 t2)
          go_ret
          exact ⟨rfl, ⟨HM5.out, (HG5.out.block _ (blk_lt HA2.out) (fun e => by injection e with e; omega)).trans HA2.out⟩, gbT (gbOf HBx.out _) HG5.out (.inl rfl)⟩)
        rw [HR.out] at hEq
        have HEqq := Aside0.mk hEq
        clear hEq h1 h2
        go_wp2_with (go_at_call 126; refine HEqq.out.mono ?_; rintro e w5 ⟨rfl, hS5, hG5⟩; have HS5 := Aside0.mk hS5; have HG5 := Aside0.mk hG5; clear hS5 hG5 m0 p0 p1 p2 t0 t1 t2)
        go_ret
        exact ⟨rfl, HS5.out.1, gbT (gbOf HB.out _) HG5.out (.inl rfl)⟩
      · have h2b := beqF h2
        have HR : Aside0 (growT mp p t = (mp, false)) := ⟨by rw [HE2.out, if_neg (fun h => h2 h.2.1)]⟩
        clear h1 h2
        go_wp2
        go_ret
        exact ⟨by rw [HR.out]; rfl, by rw [HR.out]; exact HMW.out, gbOf HB.out _⟩
    · have h1b := beqF h1
      have HR : Aside0 (growT mp p t = (mp, false)) := ⟨by rw [HE2.out, if_neg (fun h => h1 h.1)]⟩
      clear h1
      go_wp2
      go_ret
      exact ⟨by rw [HR.out]; rfl, by rw [HR.out]; exact HMW.out, gbOf HB.out _⟩
end Go.Proofs.Ytcgnpmjkeifokaa
