/- RewriteFalls: each step makes a lesser term, and what is normal stays as it is: for every input. Part 3: the walks and plain laws that it uses. -/
import Derived.Test.YtcgnpmjkeifokaaMRF2
-- K93
/- order.(*comparer).one. -/
namespace Go.Proofs.Ytcgnpmjkeifokaa
open Go.RowKit Go.Proofs.YtcgnpmjkeifokaaW.PrintWords
set_option linter.unusedVariables false
set_option linter.unusedSimpArgs false
section
variable {P : Program} {ops : Array Oper} {Q : Exit → Act → World → Prop} {S : World → Prop} {n g : Nat} {T : Act → World → Prop}
/-- An operation behind a guard that is not struck. -/
theorem hd_skip {f i : Nat} {oi : Oper} {listed : Array Bool} {a : Act} {w : World} (hi : ops[i]? = some oi) (hs : Region.noSelect ops = true) (hf : Region.free .any ops listed i = true)
    (hr : (Region.ready .any ops listed).contains i = true) (htl : tailsB .any ops n i = true) (hin : i < n) (hQ : ∀ c a w, Q (.panic c) (a.put oi.dst undef) w → Q (.panic c) a w)
    (hw : Region.wanted oi (yielded ops a.tmps) = false) (hS : S w)
    (h : HD P ops Q S n g T f (listed.setIfInBounds i true) (a.put oi.dst undef) w) : HD P ops Q S n g T (f + 1) listed a w :=
  ⟨hd_first hi (Region.noSelect_spec hs) hQ hin htl (fun _ _ _ hL => seqB_ready hL.1) f listed a w (Region.free_spec hi hf) (by simpa using hr) (.inr ⟨hw, rfl⟩) hS h.out⟩
end
/-- All but two blocks are as they were. -/
structure Fr2 (w w' : World) (a b : Nat) : Prop where
  os : w'.os = w.os
  tape : w'.tape = w.tape
  output : w'.output = w.output
  size : w.heap.size ≤ w'.heap.size
  block : ∀ i, i < w.heap.size → i ≠ a → i ≠ b → w'.heap[i]? = w.heap[i]?
theorem Fr2.of {w w' : World} {a b : Nat} (h : Below w.heap.size w w') : Fr2 w w' a b := ⟨h.os, h.tape, h.output, h.size, fun i hi _ _ => h.block i hi⟩
theorem Fr2.grownA {w w1 w2 : World} {a b : Nat} (h : Fr2 w w1 a b) (k : w1.grownBy w2 (some a)) : Fr2 w w2 a b := ⟨k.os.trans h.os, k.tape.trans h.tape, k.output.trans h.output, Nat.le_trans h.size k.size, fun i hi ha hb => (k.block i (Nat.lt_of_lt_of_le hi h.size) (fun e => ha (by injection e))).trans (h.block i hi ha hb)⟩
theorem Fr2.grownB {w w1 w2 : World} {a b : Nat} (h : Fr2 w w1 a b) (k : w1.grownBy w2 (some b)) : Fr2 w w2 a b := ⟨k.os.trans h.os, k.tape.trans h.tape, k.output.trans h.output, Nat.le_trans h.size k.size, fun i hi ha hb => (k.block i (Nat.lt_of_lt_of_le hi h.size) (fun e => hb (by injection e))).trans (h.block i hi ha hb)⟩
theorem Fr2.trans {w w1 w2 : World} {a b : Nat} (h : Fr2 w w1 a b) (k : Fr2 w1 w2 a b) : Fr2 w w2 a b := ⟨k.os.trans h.os, k.tape.trans h.tape, k.output.trans h.output, Nat.le_trans h.size k.size, fun i hi ha hb => (k.block i (Nat.lt_of_lt_of_le hi h.size) ha hb).trans (h.block i hi ha hb)⟩
theorem Fr2.below {w0 w w' : World} {a b : Nat} (h0 : Below w0.heap.size w0 w) (h : Fr2 w w' a b) (ha : w0.heap.size ≤ a) (hb : w0.heap.size ≤ b) : Below w0.heap.size w0 w' := ⟨h.os.trans h0.os, h.tape.trans h0.tape, h.output.trans h0.output, Nat.le_trans h0.size h.size, fun i hi => (h.block i (Nat.lt_of_lt_of_le hi h0.size) (by omega) (by omega)).trans (h0.block i hi)⟩
theorem sizePt : (Try.prog.info? 156).map (·.size) = some 4 := by kernel_rfl
theorem one4 (a b : Int) (A : Option Addr) (n c : Nat) (B : Option Addr) (m d : Nat) : ∀ q ∈ [Value.int .i64 a, .int .i64 b, .slice A n c, .slice B m d], q.oneCell' = true := by
  intro q hq; simp at hq; rcases hq with rfl | rfl | rfl | rfl <;> rfl
section
variable {ops : Array Oper} {rest : List Oper} {o : Oper} {act : Act} {Q : Exit → Act → World → Prop} {W : World}
end
section
variable {ops : Array Oper} {o : Oper} {act : Act} {Q : Exit → Act → World → Prop} {Kc : Act → World → Prop} {W : World}
theorem st_pt_step (p : Tmp) {x : Operand} (ho : o.op = .store 156 (.tmp p) x) (hw : Region.wanted o (yielded ops act.tmps) = true) (hN : o.dst = none) {g : Nat} {a b a' b' : Int} {A A' B B' : Option Addr} {n c n' c' m d m' d' : Nat}
    (haddr : act.eval (.tmp p) = .pointer (some ⟨g, 0, none⟩)) (hx : act.eval x = .agg #[.int .i64 a', .int .i64 b', .slice A' n' c', .slice B' m' d'])
    (hh : W.heap[g]? = some (.cells #[.int .i64 a, .int .i64 b, .slice A n c, .slice B m d] 156 (0, 0)))
    (h : ∀ w1, w1.heap[g]? = some (.cells #[.int .i64 a', .int .i64 b', .slice A' n' c', .slice B' m' d'] 156 (0, 0)) → W.grownBy w1 (some g) → w1.heap.size = W.heap.size → Kc act w1) :
    if Region.wanted o (yielded ops act.tmps) = true then Oper.wp Try.prog o act W Kc Q else Kc (act.put o.dst undef) W := by
  rw [if_pos hw]
  obtain ⟨w1, hr, h2, h3, h4⟩ := run_blk (P := Try.prog) #[.int .i64 a', .int .i64 b', .slice A' n' c', .slice B' m' d'] [.int .i64 a', .int .i64 b', .slice A' n' c', .slice B' m' d'] (u := .agg #[.int .i64 a', .int .i64 b', .slice A' n' c', .slice B' m' d']) rfl sizePt (one4 _ _ _ _ _ _ _ _) hh (Nat.le_refl 4) rfl
  unfold Oper.wp execOp
  simp only [ho, haddr, hx, Sem.run_bind, Sem.run_pure, Result.andThen_ok, hr]
  show Kc (act.put o.dst undef) _
  rw [hN]
  exact h _ h2 h3 h4
end
def sameV (ms : List ((Int × Int) × Bool)) (s t : Pt) : Bool := s.f0.f0 == t.f0.f0 && s.f0.f1 == t.f0.f1 && eqF (fun a b => mgetB ms (a, b)) s.f1 t.f1
set_option maxHeartbeats 4000000 in
set_option maxRecDepth 100000 in
theorem one_any (i k : Nat) (bc : Nat) (As At : Option Addr) (c d bs ba : Nat) (P Q : List Pt) (okp okq : Nat → Prop) (ms ma : List ((Int × Int) × Bool)) (w : World) (hc : w.heap[bc]? = some (.cells (cmpC As At P.length Q.length c d bs ba) 138 (0, 0))) (hM : MapB w bs ms) (hM2 : MapB w ba ma)
    (hP : Kd.F kPt w okp As P.length P) (hQ : Kd.F kPt w okq At Q.length Q) (hi : i < P.length) (hk : k < Q.length) (hne : bs ≠ ba) (hcs : bc ≠ bs) (hca : bc ≠ ba) (hokp : ∀ j, okp j → j ≠ bs) (hokq : ∀ j, okq j → j ≠ bs)
    (hln : ¬ 0 < (rd_Pt P i).f0.f0 → ¬ 0 < (rd_Pt Q k).f0.f0 → (rd_Pt P i).f0.f1 = (rd_Pt Q k).f0.f1 → (rd_Pt P i).f1.length ≤ (rd_Pt Q k).f1.length) :
    Calls Try.prog 111 #[.pointer (some ⟨bc, 0, none⟩), .int .i64 i, .int .i64 k] w
      fun e w' => e = .returned (.tuple #[]) ∧ MapB w' bs (mset ms ((i : Int), (k : Int)) (sameV ms (rd_Pt P i) (rd_Pt Q k))) ∧ MapB w' ba (mset ma ((i : Int), (k : Int)) (grB (mset ms ((i : Int), (k : Int)) (sameV ms (rd_Pt P i) (rd_Pt Q k))) ma (rd_Pt P i) (rd_Pt Q k) i k)) ∧ Fr2 w w' bs ba := by
  have hlp := Kd.F_max hP
  have hlq := Kd.F_max hQ
  have HP := Aside0.mk hP
  have HQ := Aside0.mk hQ
  have HM := Aside0.mk hM
  have HM2 := Aside0.mk hM2
  have HC := Aside0.mk hc
  have HLN := Aside0.mk hln
  have HOP := Aside0.mk hokp
  have HOQ := Aside0.mk hokq
  have hms := hM.lt
  have hma := hM2.lt
  have hbc := blk_lt hc
  clear hP hQ hM hM2 hc hln hokp hokq
  have g0 := newAt (w := w) (o := .cells #[.pointer (some ⟨bc, 0, none⟩)] 133) rfl
  have HB := Aside0.mk (below_alloc (Below.refl w.heap.size w) (.cells #[.pointer (some ⟨bc, 0, none⟩)] 133))
  go_enter Try.func111, Try.ntmps111
  go_upto_region 1 with (fail)
  generalize w.alloc (.cells #[.pointer (some ⟨bc, 0, none⟩)] 133) = W at *
  have G0 := Aside0.mk g0
  clear g0
  have HCW := Aside0.mk ((HB.out.block _ (blk_lt HC.out)).trans HC.out)
  obtain ⟨ad, A2, c2, A3, c3, rfl, E0, E1, E2, E3, l2, fT, l3, fI, _⟩ := at_Pt (Kd.F_below HP.out HB.out) i hi
  obtain ⟨bd, B2, d2, B3, d3, rfl, F0, F1, F2, F3, m2, gT, m3, gI, _⟩ := at_Pt (Kd.F_below HQ.out HB.out) k hk
  have HFI := Aside0.mk fI
  have HGI := Aside0.mk gI
  clear fT fI gT gI
  generalize hs : rd_Pt P i = s at *
  generalize ht : rd_Pt Q k = t at *
  have HSs := Aside0.mk hs
  have HTt := Aside0.mk ht
  have hii : (i : Int) < P.length := by omega
  have hki : (k : Int) < Q.length := by omega
  obtain ⟨c0, c1, c2', c3'⟩ := cmp_cells HCW.out
  have k0 := fun (w' : World) (h : Below W.heap.size W w') => oldc h (one_cell G0.out)
  have k1 := fun (w' : World) (h : Below W.heap.size W w') => oldc h c0
  have k2 := fun (w' : World) (h : Below W.heap.size W w') => oldc h c1
  have k3 := fun (w' : World) (h : Below W.heap.size W w') => oldc h E0
  have k4 := fun (w' : World) (h : Below W.heap.size W w') => oldc h E1
  have k5 := fun (w' : World) (h : Below W.heap.size W w') => oldc h E2
  have k6 := fun (w' : World) (h : Below W.heap.size W w') => oldc h E3
  have k7 := fun (w' : World) (h : Below W.heap.size W w') => oldc h F0
  have k8 := fun (w' : World) (h : Below W.heap.size W w') => oldc h F1
  have k9 := fun (w' : World) (h : Below W.heap.size W w') => oldc h F2
  have k10 := fun (w' : World) (h : Below W.heap.size W w') => oldc h F3
  clear c0 c1 c2' c3' E0 E1 E2 E3 F0 F1 F2 F3 hs ht
  refine cutT2 (fun (g6 g7 : Nat) (w9 : World) => Below W.heap.size W w9 ∧ w9.heap[g6]? = some (.cells #[.int .i64 s.f0.f0, .int .i64 s.f0.f1, .slice A2 s.f0.f2.length c2, .slice A3 s.f1.length c3] 156 (0, 0)) ∧ w9.heap[g7]? = some (.cells #[.int .i64 t.f0.f0, .int .i64 t.f0.f1, .slice B2 t.f0.f2.length d2, .slice B3 t.f1.length d3] 156 (0, 0)) ∧ W.heap.size ≤ g6 ∧ W.heap.size ≤ g7) ?T ?main ?key
  case main =>
    intro key
    refine hd_region 18 0 (fun w' => Below W.heap.size W w') (by kernel_rfl) rfl ?_ (fun _ h => h)
    intro W3 hb3 hz3 hHeld
    have HLW3 := Aside0.mk hb3.size
    clear hz3 hb3
    (refine hd_take (i := 0) (oi := ?oi399) (v := ?v399) ?hi399 (by kernel_rfl) (by kernel_rfl) (by kernel_rfl) (by kernel_rfl) (by decide) ?hq399 ?hw399 ?hy399 hHeld ?hr399; (case hi399 => (simp only [List.getElem?_toArray, List.getElem?_cons_succ, List.getElem?_cons_zero]; rfl)); (case hw399 => rfl); (case hy399 => (intro w hSw; go_simp; try with_reducible rfl)); (case hq399 => exact fun _ _ _ h => h); simp only [Act.put, List.setIfInBounds_toArray, List.set_cons_zero, List.set_cons_succ])
    (refine hd_take (i := 1) (oi := ?oi401) (v := ?v401) ?hi401 (by kernel_rfl) (by kernel_rfl) (by kernel_rfl) (by kernel_rfl) (by decide) ?hq401 ?hw401 ?hy401 hHeld ?hr401; (case hi401 => (simp only [List.getElem?_toArray, List.getElem?_cons_succ, List.getElem?_cons_zero]; rfl)); (case hw401 => rfl); (case hy401 => (intro w hSw; go_simp; try with_reducible rfl)); (case hq401 => exact fun _ _ _ h => h); simp only [Act.put, List.setIfInBounds_toArray, List.set_cons_zero, List.set_cons_succ])
    (refine hd_take (i := 2) (oi := ?oi403) (v := ?v403) ?hi403 (by kernel_rfl) (by kernel_rfl) (by kernel_rfl) (by kernel_rfl) (by decide) ?hq403 ?hw403 ?hy403 hHeld ?hr403; (case hi403 => (simp only [List.getElem?_toArray, List.getElem?_cons_succ, List.getElem?_cons_zero]; rfl)); (case hw403 => rfl); (case hy403 => (intro w hSw; go_simp; try with_reducible rfl)); (case hq403 => exact fun _ _ _ h => h); simp only [Act.put, List.setIfInBounds_toArray, List.set_cons_zero, List.set_cons_succ])
    (refine hd_take (i := 3) (oi := ?oi405) (v := ?v405) ?hi405 (by kernel_rfl) (by kernel_rfl) (by kernel_rfl) (by kernel_rfl) (by decide) ?hq405 ?hw405 ?hy405 hHeld ?hr405; (case hi405 => (simp only [List.getElem?_toArray, List.getElem?_cons_succ, List.getElem?_cons_zero]; rfl)); (case hw405 => rfl); (case hy405 => (intro w hSw; go_simp; try with_reducible rfl)); (case hq405 => exact fun _ _ _ h => h); simp only [Act.put, List.setIfInBounds_toArray, List.set_cons_zero, List.set_cons_succ])
    (refine hd_take (i := 4) (oi := ?oi407) (v := ?v407) ?hi407 (by kernel_rfl) (by kernel_rfl) (by kernel_rfl) (by kernel_rfl) (by decide) ?hq407 ?hw407 ?hy407 hHeld ?hr407; (case hi407 => (simp only [List.getElem?_toArray, List.getElem?_cons_succ, List.getElem?_cons_zero]; rfl)); (case hw407 => rfl); (case hy407 => (intro w hSw; go_simp; try with_reducible rfl)); (case hq407 => exact fun _ _ _ h => h); simp only [Act.put, List.setIfInBounds_toArray, List.set_cons_zero, List.set_cons_succ])
    (refine hd_take (i := 5) (oi := ?oi409) (v := ?v409) ?hi409 (by kernel_rfl) (by kernel_rfl) (by kernel_rfl) (by kernel_rfl) (by decide) ?hq409 ?hw409 ?hy409 hHeld ?hr409; (case hi409 => (simp only [List.getElem?_toArray, List.getElem?_cons_succ, List.getElem?_cons_zero]; rfl)); (case hw409 => rfl); (case hy409 => (intro w hSw; go_simp; try with_reducible rfl)); (case hq409 => exact fun _ _ _ h => h); simp only [Act.put, List.setIfInBounds_toArray, List.set_cons_zero, List.set_cons_succ])
    (refine hd_take (i := 6) (oi := ?oi411) (v := ?v411) ?hi411 (by kernel_rfl) (by kernel_rfl) (by kernel_rfl) (by kernel_rfl) (by decide) ?hq411 ?hw411 ?hy411 hHeld ?hr411; (case hi411 => (simp only [List.getElem?_toArray, List.getElem?_cons_succ, List.getElem?_cons_zero]; rfl)); (case hw411 => rfl); (case hy411 => (intro w hSw; go_simp; try with_reducible rfl)); (case hq411 => exact fun _ _ _ h => h); simp only [Act.put, List.setIfInBounds_toArray, List.set_cons_zero, List.set_cons_succ])
    (refine hd_take (i := 7) (oi := ?oi413) (v := ?v413) ?hi413 (by kernel_rfl) (by kernel_rfl) (by kernel_rfl) (by kernel_rfl) (by decide) ?hq413 ?hw413 ?hy413 hHeld ?hr413; (case hi413 => (simp only [List.getElem?_toArray, List.getElem?_cons_succ, List.getElem?_cons_zero]; rfl)); (case hw413 => rfl); (case hy413 => (intro w hSw; go_simp; try with_reducible rfl)); (case hq413 => exact fun _ _ _ h => h); simp only [Act.put, List.setIfInBounds_toArray, List.set_cons_zero, List.set_cons_succ])
    (refine hd_take (i := 8) (oi := ?oi415) (v := ?v415) ?hi415 (by kernel_rfl) (by kernel_rfl) (by kernel_rfl) (by kernel_rfl) (by decide) ?hq415 ?hw415 ?hy415 hHeld ?hr415; (case hi415 => (simp only [List.getElem?_toArray, List.getElem?_cons_succ, List.getElem?_cons_zero]; rfl)); (case hw415 => rfl); (case hy415 => (intro w hSw; go_simp; try with_reducible rfl)); (case hq415 => exact fun _ _ _ h => h); simp only [Act.put, List.setIfInBounds_toArray, List.set_cons_zero, List.set_cons_succ])
    (refine hd_take (i := 9) (oi := ?oi417) (v := ?v417) ?hi417 (by kernel_rfl) (by kernel_rfl) (by kernel_rfl) (by kernel_rfl) (by decide) ?hq417 ?hw417 ?hy417 hHeld ?hr417; (case hi417 => (simp only [List.getElem?_toArray, List.getElem?_cons_succ, List.getElem?_cons_zero]; rfl)); (case hw417 => rfl); (case hy417 => (intro w hSw; go_simp; try with_reducible rfl)); (case hq417 => exact fun _ _ _ h => h); simp only [Act.put, List.setIfInBounds_toArray, List.set_cons_zero, List.set_cons_succ])
    (refine hd_take (i := 10) (oi := ?oi419) (v := ?v419) ?hi419 (by kernel_rfl) (by kernel_rfl) (by kernel_rfl) (by kernel_rfl) (by decide) ?hq419 ?hw419 ?hy419 hHeld ?hr419; (case hi419 => (simp only [List.getElem?_toArray, List.getElem?_cons_succ, List.getElem?_cons_zero]; rfl)); (case hw419 => rfl); (case hy419 => (intro w hSw; go_simp; try with_reducible rfl)); (case hq419 => exact fun _ _ _ h => h); simp only [Act.put, List.setIfInBounds_toArray, List.set_cons_zero, List.set_cons_succ])
    (refine hd_take (i := 11) (oi := ?oi421) (v := ?v421) ?hi421 (by kernel_rfl) (by kernel_rfl) (by kernel_rfl) (by kernel_rfl) (by decide) ?hq421 ?hw421 ?hy421 hHeld ?hr421; (case hi421 => (simp only [List.getElem?_toArray, List.getElem?_cons_succ, List.getElem?_cons_zero]; rfl)); (case hw421 => rfl); (case hy421 => (intro w hSw; go_simp; try with_reducible rfl)); (case hq421 => exact fun _ _ _ h => h); simp only [Act.put, List.setIfInBounds_toArray, List.set_cons_zero, List.set_cons_succ])
    (refine hd_take (i := 12) (oi := ?oi423) (v := ?v423) ?hi423 (by kernel_rfl) (by kernel_rfl) (by kernel_rfl) (by kernel_rfl) (by decide) ?hq423 ?hw423 ?hy423 hHeld ?hr423; (case hi423 => (simp only [List.getElem?_toArray, List.getElem?_cons_succ, List.getElem?_cons_zero]; rfl)); (case hw423 => rfl); (case hy423 => (intro w hSw; go_simp; try with_reducible rfl)); (case hq423 => exact fun _ _ _ h => h); simp only [Act.put, List.setIfInBounds_toArray, List.set_cons_zero, List.set_cons_succ])
    (refine hd_take (i := 13) (oi := ?oi425) (v := ?v425) ?hi425 (by kernel_rfl) (by kernel_rfl) (by kernel_rfl) (by kernel_rfl) (by decide) ?hq425 ?hw425 ?hy425 hHeld ?hr425; (case hi425 => (simp only [List.getElem?_toArray, List.getElem?_cons_succ, List.getElem?_cons_zero]; rfl)); (case hw425 => rfl); (case hy425 => (intro w hSw; go_simp; try with_reducible rfl)); (case hq425 => exact fun _ _ _ h => h); simp only [Act.put, List.setIfInBounds_toArray, List.set_cons_zero, List.set_cons_succ])
    refine hd_two (i := 14) (j := 15) (oi := ?oiA) (oj := ?ojA) ?hiA ?hjA (by kernel_rfl) (by decide) (by decide) ?haA ?hbA
    case hiA => (simp only [List.getElem?_toArray, List.getElem?_cons_succ, List.getElem?_cons_zero]; rfl)
    case hjA => (simp only [List.getElem?_toArray, List.getElem?_cons_succ, List.getElem?_cons_zero]; rfl)
    case haA =>
      intro K hK
      go_simp
      (refine hK.out _ _ ?hS429 (fun hHeld => ?hr429); (case hS429 => exact below_alloc hHeld _); clear hK K; try simp only [Act.put, List.setIfInBounds_toArray, List.set_cons_zero, List.set_cons_succ])
      have hs3 := hHeld.size
      have HNa := Aside0.mk (heap_alloc_new W3 (.cells #[.int .i64 0, .int .i64 0, .slice none 0 0, .slice none 0 0] 156))
      have HZ4 : Aside0 ((W3.alloc (.cells #[.int .i64 0, .int .i64 0, .slice none 0 0, .slice none 0 0] 156)).heap.size = W3.heap.size + 1) := ⟨by simp⟩
      generalize W3.alloc (.cells #[.int .i64 0, .int .i64 0, .slice none 0 0, .slice none 0 0] 156) = W4 at *
      (refine hd_one (i := 15) (oi := ?oi430) ?hi430 (by kernel_rfl) (by decide) ?hr430; (case hi430 => (simp only [List.getElem?_toArray, List.getElem?_cons_succ, List.getElem?_cons_zero]; rfl)); intro K hK)
      go_simp
      (refine hK.out _ _ ?hS432 (fun hHeld => ?hr432); (case hS432 => exact below_alloc hHeld _); clear hK K; try simp only [Act.put, List.setIfInBounds_toArray, List.set_cons_zero, List.set_cons_succ])
      have hs4 := hHeld.size
      have HNb := Aside0.mk (heap_alloc_new W4 (.cells #[.int .i64 0, .int .i64 0, .slice none 0 0, .slice none 0 0] 156))
      have HNa2 := Aside0.mk (((below_alloc (Below.refl W4.heap.size W4) (.cells #[.int .i64 0, .int .i64 0, .slice none 0 0, .slice none 0 0] 156)).block _ (blk_lt HNa.out)).trans HNa.out)
      generalize W4.alloc (.cells #[.int .i64 0, .int .i64 0, .slice none 0 0, .slice none 0 0] 156) = W5 at *
      have hs6 : W.heap.size ≤ W3.heap.size := by have := HLW3.out; have := HZ4.out; omega
      have hs7 : W.heap.size ≤ W4.heap.size := by have := HLW3.out; have := HZ4.out; omega
      (refine hd_one (i := 16) (oi := ?oi433) ?hi433 (by kernel_rfl) (by decide) ?hr433; (case hi433 => (simp only [List.getElem?_toArray, List.getElem?_cons_succ, List.getElem?_cons_zero]; rfl)); intro K hK)
      refine st_pt_step 6 rfl rfl rfl rfl rfl HNa2.out ?_
      intro w10 hs10 hG10 hz10
      have HS6 := Aside0.mk hs10
      have HN7 := Aside0.mk ((hG10.block _ (blk_lt HNb.out) (fun e => by injection e with e; have := HZ4.out; omega)).trans HNb.out)
      (refine hK.out _ _ ?hS435 (fun hHeld => ?hr435); (case hS435 => exact gbS hHeld hG10 hs6); clear hK K; try simp only [Act.put, List.setIfInBounds_toArray, List.set_cons_zero, List.set_cons_succ])
      clear hs10 hG10
      (refine hd_one (i := 17) (oi := ?oi436) ?hi436 (by kernel_rfl) (by decide) ?hr436; (case hi436 => (simp only [List.getElem?_toArray, List.getElem?_cons_succ, List.getElem?_cons_zero]; rfl)); intro K hK)
      refine st_pt_step 7 rfl rfl rfl rfl rfl HN7.out ?_
      intro w11 hs11 hG11 hz11
      have HN7b := Aside0.mk hs11
      have HS6b := Aside0.mk ((hG11.block _ (blk_lt HS6.out) (fun e => by injection e with e; have := HZ4.out; omega)).trans HS6.out)
      (refine hK.out _ _ ?hS438 (fun hHeld => ?hr438); (case hS438 => exact gbS hHeld hG11 hs7); clear hK K; try simp only [Act.put, List.setIfInBounds_toArray, List.set_cons_zero, List.set_cons_succ])
      clear hs11 hG11
      (refine hd_done (by kernel_rfl) ?_; simp only [List.drop_succ_cons, List.drop_zero])
      generalize W3.heap.size = g6 at *
      generalize W4.heap.size = g7 at *
      refine useT (key g6 g7 w11 ⟨hHeld, HS6b.out, HN7b.out, hs6, hs7⟩) ?_
      rfl

    case hbA =>
      intro K hK
      go_simp
      (refine hK.out _ _ ?hS440 (fun hHeld => ?hr440); (case hS440 => exact below_alloc hHeld _); clear hK K; try simp only [Act.put, List.setIfInBounds_toArray, List.set_cons_zero, List.set_cons_succ])
      have hs3 := hHeld.size
      have HNa := Aside0.mk (heap_alloc_new W3 (.cells #[.int .i64 0, .int .i64 0, .slice none 0 0, .slice none 0 0] 156))
      have HZ4 : Aside0 ((W3.alloc (.cells #[.int .i64 0, .int .i64 0, .slice none 0 0, .slice none 0 0] 156)).heap.size = W3.heap.size + 1) := ⟨by simp⟩
      generalize W3.alloc (.cells #[.int .i64 0, .int .i64 0, .slice none 0 0, .slice none 0 0] 156) = W4 at *
      (refine hd_one (i := 14) (oi := ?oi441) ?hi441 (by kernel_rfl) (by decide) ?hr441; (case hi441 => (simp only [List.getElem?_toArray, List.getElem?_cons_succ, List.getElem?_cons_zero]; rfl)); intro K hK)
      go_simp
      (refine hK.out _ _ ?hS443 (fun hHeld => ?hr443); (case hS443 => exact below_alloc hHeld _); clear hK K; try simp only [Act.put, List.setIfInBounds_toArray, List.set_cons_zero, List.set_cons_succ])
      have hs4 := hHeld.size
      have HNb := Aside0.mk (heap_alloc_new W4 (.cells #[.int .i64 0, .int .i64 0, .slice none 0 0, .slice none 0 0] 156))
      have HNa2 := Aside0.mk (((below_alloc (Below.refl W4.heap.size W4) (.cells #[.int .i64 0, .int .i64 0, .slice none 0 0, .slice none 0 0] 156)).block _ (blk_lt HNa.out)).trans HNa.out)
      generalize W4.alloc (.cells #[.int .i64 0, .int .i64 0, .slice none 0 0, .slice none 0 0] 156) = W5 at *
      have hs6 : W.heap.size ≤ W4.heap.size := by have := HLW3.out; have := HZ4.out; omega
      have hs7 : W.heap.size ≤ W3.heap.size := by have := HLW3.out; have := HZ4.out; omega
      (refine hd_one (i := 16) (oi := ?oi444) ?hi444 (by kernel_rfl) (by decide) ?hr444; (case hi444 => (simp only [List.getElem?_toArray, List.getElem?_cons_succ, List.getElem?_cons_zero]; rfl)); intro K hK)
      refine st_pt_step 6 rfl rfl rfl rfl rfl HNb.out ?_
      intro w10 hs10 hG10 hz10
      have HS6 := Aside0.mk hs10
      have HN7 := Aside0.mk ((hG10.block _ (blk_lt HNa2.out) (fun e => by injection e with e; have := HZ4.out; omega)).trans HNa2.out)
      (refine hK.out _ _ ?hS446 (fun hHeld => ?hr446); (case hS446 => exact gbS hHeld hG10 hs6); clear hK K; try simp only [Act.put, List.setIfInBounds_toArray, List.set_cons_zero, List.set_cons_succ])
      clear hs10 hG10
      (refine hd_one (i := 17) (oi := ?oi447) ?hi447 (by kernel_rfl) (by decide) ?hr447; (case hi447 => (simp only [List.getElem?_toArray, List.getElem?_cons_succ, List.getElem?_cons_zero]; rfl)); intro K hK)
      refine st_pt_step 7 rfl rfl rfl rfl rfl HN7.out ?_
      intro w11 hs11 hG11 hz11
      have HN7b := Aside0.mk hs11
      have HS6b := Aside0.mk ((hG11.block _ (blk_lt HS6.out) (fun e => by injection e with e; have := HZ4.out; omega)).trans HS6.out)
      (refine hK.out _ _ ?hS449 (fun hHeld => ?hr449); (case hS449 => exact gbS hHeld hG11 hs7); clear hK K; try simp only [Act.put, List.setIfInBounds_toArray, List.set_cons_zero, List.set_cons_succ])
      clear hs11 hG11
      (refine hd_done (by kernel_rfl) ?_; simp only [List.drop_succ_cons, List.drop_zero])
      refine useT (key W4.heap.size W3.heap.size w11 ⟨hHeld, HS6b.out, HN7b.out, hs6, hs7⟩) ?_
      rfl

  case key =>
    rintro g6 g7 w9 ⟨hB9, h6, h7, hg6, hg7⟩
    have HB9 := Aside0.mk hB9
    have HS9 := Aside0.mk h6
    have HT9 := Aside0.mk h7
    have hWs := HB.out.size
    clear hB9 h6 h7 k0 k1 k2 k3 k4 k5 k6 k7 k8 k9 k10
    have bp := build_pair
    have HBn := Aside0.mk (below_alloc (Below.refl w9.heap.size w9) (.cells #[.int .i64 i, .int .i64 k] 140))
    have HN5 := Aside0.mk (heap_alloc_new w9 (.cells #[.int .i64 i, .int .i64 k] 140))
    have hz9 := HB9.out.size
    go_upto_region 3 with (fail)
    generalize w9.alloc (.cells #[.int .i64 i, .int .i64 k] 140) = W5 at *
    have HW5 := Aside0.mk (hbT HB9.out HBn.out)
    have HS5 := Aside0.mk ((HBn.out.block _ (blk_lt HS9.out)).trans HS9.out)
    have HT5 := Aside0.mk ((HBn.out.block _ (blk_lt HT9.out)).trans HT9.out)
    have HM5 := Aside0.mk (HM.out.below (hbT HB.out HW5.out))
    have HMA5 := Aside0.mk (HM2.out.below (hbT HB.out HW5.out))
    have HG5 := Aside0.mk ((HW5.out.block _ (blk_lt G0.out)).trans G0.out)
    have HC5 := Aside0.mk ((HW5.out.block _ (blk_lt HCW.out)).trans HCW.out)
    obtain ⟨c0, c1, c2', c3'⟩ := cmp_cells HC5.out
    obtain ⟨s0, s1, s2, s3⟩ := pt_cells HS5.out
    obtain ⟨t0, t1, t2, t3⟩ := pt_cells HT5.out
    obtain ⟨n0, n1⟩ := pair_cells HN5.out
    have p0 := one_cell HG5.out
    have k0 := fun (w' : World) (h : Below W5.heap.size W5 w') => oldc h p0
    have k1 := fun (w' : World) (h : Below W5.heap.size W5 w') => oldc h c2'
    have k2 := fun (w' : World) (h : Below W5.heap.size W5 w') => oldc h s0
    have k3 := fun (w' : World) (h : Below W5.heap.size W5 w') => oldc h s1
    have k4 := fun (w' : World) (h : Below W5.heap.size W5 w') => oldc h s2
    have k5 := fun (w' : World) (h : Below W5.heap.size W5 w') => oldc h s3
    have k6 := fun (w' : World) (h : Below W5.heap.size W5 w') => oldc h t0
    have k7 := fun (w' : World) (h : Below W5.heap.size W5 w') => oldc h t1
    have k8 := fun (w' : World) (h : Below W5.heap.size W5 w') => oldc h t2
    have k9 := fun (w' : World) (h : Below W5.heap.size W5 w') => oldc h t3
    have k10 := fun (w' : World) (h : Below W5.heap.size W5 w') => oldc h n0
    have k11 := fun (w' : World) (h : Below W5.heap.size W5 w') => oldc h n1
    clear p0 c0 c1 c2' c3' s0 s1 s2 s3 t0 t1 t2 t3 n0 n1 bp
    have EQ : Aside0 (∀ W', Below W5.heap.size W5 W' → Calls Try.prog 131 #[.slice A3 s.f1.length c3, .slice B3 t.f1.length d3, .func (.func 132) #[] #[.pointer (some ⟨w.heap.size, 0, none⟩)]] W' fun e w' => e = .returned (.bool (eqF (fun a b => mgetB ms (a, b)) s.f1 t.f1)) ∧ Below W'.heap.size W' w') := ⟨fun W' hb => equalFuncI_any 132 #[.pointer (some ⟨w.heap.size, 0, none⟩)] (fun a b => mgetB ms (a, b)) (enters_of Try.func132 (by kernel_rfl) rfl) s.f1 t.f1 A3 B3 c3 d3 W' (Kd.F_now (Kd.F_below HFI.out (hbT HW5.out hb))) (Kd.F_now (Kd.F_below HGI.out (hbT HW5.out hb))) (fun x _ y _ W2 hb2 => one1_any x y w.heap.size bc (some ad) (some bd) P.length Q.length c d bs ba ms W2 (((hbT hb hb2).block _ (blk_lt HG5.out)).trans HG5.out) (((hbT hb hb2).block _ (blk_lt HC5.out)).trans HC5.out) (HM5.out.below (hbT hb hb2)))⟩
    cases hv : (s.f0.f0 == t.f0.f0) with
    | false =>
      have HSV : Aside0 (sameV ms s t = false) := ⟨by unfold sameV; rw [hv]; rfl⟩
      refine hd_region 29 1 (fun w' => Below W5.heap.size W5 w') (by kernel_rfl) rfl ?_ (fun _ h => h)
      intro W6 hb6 hz6 hHeld
      clear hb6 hz6
      (refine hd_take (i := 0) (oi := ?oi451) (v := ?v451) ?hi451 (by kernel_rfl) (by kernel_rfl) (by kernel_rfl) (by kernel_rfl) (by decide) ?hq451 ?hw451 ?hy451 hHeld ?hr451; (case hi451 => (simp only [List.getElem?_toArray, List.getElem?_cons_succ, List.getElem?_cons_zero]; rfl)); (case hw451 => rfl); (case hy451 => (intro w hSw; go_simp; try with_reducible rfl)); (case hq451 => exact fun _ _ _ h => h); simp only [Act.put, List.setIfInBounds_toArray, List.set_cons_zero, List.set_cons_succ])
      (refine hd_take (i := 1) (oi := ?oi453) (v := ?v453) ?hi453 (by kernel_rfl) (by kernel_rfl) (by kernel_rfl) (by kernel_rfl) (by decide) ?hq453 ?hw453 ?hy453 hHeld ?hr453; (case hi453 => (simp only [List.getElem?_toArray, List.getElem?_cons_succ, List.getElem?_cons_zero]; rfl)); (case hw453 => rfl); (case hy453 => (intro w hSw; go_simp; try with_reducible rfl)); (case hq453 => exact fun _ _ _ h => h); simp only [Act.put, List.setIfInBounds_toArray, List.set_cons_zero, List.set_cons_succ])
      (refine hd_take (i := 2) (oi := ?oi455) (v := ?v455) ?hi455 (by kernel_rfl) (by kernel_rfl) (by kernel_rfl) (by kernel_rfl) (by decide) ?hq455 ?hw455 ?hy455 hHeld ?hr455; (case hi455 => (simp only [List.getElem?_toArray, List.getElem?_cons_succ, List.getElem?_cons_zero]; rfl)); (case hw455 => rfl); (case hy455 => (intro w hSw; go_simp; try with_reducible rfl)); (case hq455 => exact fun _ _ _ h => h); simp only [Act.put, List.setIfInBounds_toArray, List.set_cons_zero, List.set_cons_succ])
      (refine hd_take (i := 3) (oi := ?oi457) (v := ?v457) ?hi457 (by kernel_rfl) (by kernel_rfl) (by kernel_rfl) (by kernel_rfl) (by decide) ?hq457 ?hw457 ?hy457 hHeld ?hr457; (case hi457 => (simp only [List.getElem?_toArray, List.getElem?_cons_succ, List.getElem?_cons_zero]; rfl)); (case hw457 => rfl); (case hy457 => (intro w hSw; go_simp; try with_reducible rfl)); (case hq457 => exact fun _ _ _ h => h); simp only [Act.put, List.setIfInBounds_toArray, List.set_cons_zero, List.set_cons_succ])
      (refine hd_take (i := 4) (oi := ?oi459) (v := ?v459) ?hi459 (by kernel_rfl) (by kernel_rfl) (by kernel_rfl) (by kernel_rfl) (by decide) ?hq459 ?hw459 ?hy459 hHeld ?hr459; (case hi459 => (simp only [List.getElem?_toArray, List.getElem?_cons_succ, List.getElem?_cons_zero]; rfl)); (case hw459 => rfl); (case hy459 => (intro w hSw; go_simp; try with_reducible rfl)); (case hq459 => exact fun _ _ _ h => h); simp only [Act.put, List.setIfInBounds_toArray, List.set_cons_zero, List.set_cons_succ])
      (refine hd_take (i := 5) (oi := ?oi461) (v := ?v461) ?hi461 (by kernel_rfl) (by kernel_rfl) (by kernel_rfl) (by kernel_rfl) (by decide) ?hq461 ?hw461 ?hy461 hHeld ?hr461; (case hi461 => (simp only [List.getElem?_toArray, List.getElem?_cons_succ, List.getElem?_cons_zero]; rfl)); (case hw461 => rfl); (case hy461 => (intro w hSw; go_simp; try with_reducible rfl)); (case hq461 => exact fun _ _ _ h => h); simp only [Act.put, List.setIfInBounds_toArray, List.set_cons_zero, List.set_cons_succ])
      (refine hd_take (i := 6) (oi := ?oi463) (v := ?v463) ?hi463 (by kernel_rfl) (by kernel_rfl) (by kernel_rfl) (by kernel_rfl) (by decide) ?hq463 ?hw463 ?hy463 hHeld ?hr463; (case hi463 => (simp only [List.getElem?_toArray, List.getElem?_cons_succ, List.getElem?_cons_zero]; rfl)); (case hw463 => rfl); (case hy463 => (intro w hSw; go_simp; try with_reducible rfl)); (case hq463 => exact fun _ _ _ h => h); simp only [Act.put, List.setIfInBounds_toArray, List.set_cons_zero, List.set_cons_succ])
      (refine hd_take (i := 7) (oi := ?oi465) (v := ?v465) ?hi465 (by kernel_rfl) (by kernel_rfl) (by kernel_rfl) (by kernel_rfl) (by decide) ?hq465 ?hw465 ?hy465 hHeld ?hr465; (case hi465 => (simp only [List.getElem?_toArray, List.getElem?_cons_succ, List.getElem?_cons_zero]; rfl)); (case hw465 => rfl); (case hy465 => (intro w hSw; go_simp; try with_reducible rfl)); (case hq465 => exact fun _ _ _ h => h); simp only [Act.put, List.setIfInBounds_toArray, List.set_cons_zero, List.set_cons_succ])
      (refine hd_take (i := 8) (oi := ?oi467) (v := ?v467) ?hi467 (by kernel_rfl) (by kernel_rfl) (by kernel_rfl) (by kernel_rfl) (by decide) ?hq467 ?hw467 ?hy467 hHeld ?hr467; (case hi467 => (simp only [List.getElem?_toArray, List.getElem?_cons_succ, List.getElem?_cons_zero]; rfl)); (case hw467 => rfl); (case hy467 => (intro w hSw; go_simp; try with_reducible rfl)); (case hq467 => exact fun _ _ _ h => h); simp only [Act.put, List.setIfInBounds_toArray, List.set_cons_zero, List.set_cons_succ])
      (refine hd_take (i := 9) (oi := ?oi469) (v := ?v469) ?hi469 (by kernel_rfl) (by kernel_rfl) (by kernel_rfl) (by kernel_rfl) (by decide) ?hq469 ?hw469 ?hy469 hHeld ?hr469; (case hi469 => (simp only [List.getElem?_toArray, List.getElem?_cons_succ, List.getElem?_cons_zero]; rfl)); (case hw469 => rfl); (case hy469 => (intro w hSw; go_simp; try with_reducible rfl)); (case hq469 => exact fun _ _ _ h => h); simp only [Act.put, List.setIfInBounds_toArray, List.set_cons_zero, List.set_cons_succ])
      (refine hd_take (i := 10) (oi := ?oi471) (v := ?v471) ?hi471 (by kernel_rfl) (by kernel_rfl) (by kernel_rfl) (by kernel_rfl) (by decide) ?hq471 ?hw471 ?hy471 hHeld ?hr471; (case hi471 => (simp only [List.getElem?_toArray, List.getElem?_cons_succ, List.getElem?_cons_zero]; rfl)); (case hw471 => rfl); (case hy471 => (intro w hSw; go_simp; try with_reducible rfl)); (case hq471 => exact fun _ _ _ h => h); simp only [Act.put, List.setIfInBounds_toArray, List.set_cons_zero, List.set_cons_succ])
      (refine hd_take (i := 11) (oi := ?oi473) (v := ?v473) ?hi473 (by kernel_rfl) (by kernel_rfl) (by kernel_rfl) (by kernel_rfl) (by decide) ?hq473 ?hw473 ?hy473 hHeld ?hr473; (case hi473 => (simp only [List.getElem?_toArray, List.getElem?_cons_succ, List.getElem?_cons_zero]; rfl)); (case hw473 => rfl); (case hy473 => (intro w hSw; go_simp; try with_reducible rfl)); (case hq473 => exact fun _ _ _ h => h); simp only [Act.put, List.setIfInBounds_toArray, List.set_cons_zero, List.set_cons_succ])
      (refine hd_take (i := 12) (oi := ?oi475) (v := ?v475) ?hi475 (by kernel_rfl) (by kernel_rfl) (by kernel_rfl) (by kernel_rfl) (by decide) ?hq475 ?hw475 ?hy475 hHeld ?hr475; (case hi475 => (simp only [List.getElem?_toArray, List.getElem?_cons_succ, List.getElem?_cons_zero]; rfl)); (case hw475 => rfl); (case hy475 => (intro w hSw; go_simp; try with_reducible rfl)); (case hq475 => exact fun _ _ _ h => h); simp only [Act.put, List.setIfInBounds_toArray, List.set_cons_zero, List.set_cons_succ])
      (refine hd_skip (i := 13) (oi := ?oi477) ?hi477 (by kernel_rfl) (by kernel_rfl) (by kernel_rfl) (by kernel_rfl) (by decide) ?hq477 ?hw477 hHeld ?hr477; (case hi477 => (simp only [List.getElem?_toArray, List.getElem?_cons_succ, List.getElem?_cons_zero]; rfl)); (case hw477 => rfl); (case hq477 => exact fun _ _ _ h => h); simp only [Act.put, List.setIfInBounds_toArray, List.set_cons_zero, List.set_cons_succ])
      (refine hd_skip (i := 14) (oi := ?oi479) ?hi479 (by kernel_rfl) (by kernel_rfl) (by kernel_rfl) (by kernel_rfl) (by decide) ?hq479 ?hw479 hHeld ?hr479; (case hi479 => (simp only [List.getElem?_toArray, List.getElem?_cons_succ, List.getElem?_cons_zero]; rfl)); (case hw479 => rfl); (case hq479 => exact fun _ _ _ h => h); simp only [Act.put, List.setIfInBounds_toArray, List.set_cons_zero, List.set_cons_succ])
      (refine hd_skip (i := 15) (oi := ?oi481) ?hi481 (by kernel_rfl) (by kernel_rfl) (by kernel_rfl) (by kernel_rfl) (by decide) ?hq481 ?hw481 hHeld ?hr481; (case hi481 => (simp only [List.getElem?_toArray, List.getElem?_cons_succ, List.getElem?_cons_zero]; rfl)); (case hw481 => rfl); (case hq481 => exact fun _ _ _ h => h); simp only [Act.put, List.setIfInBounds_toArray, List.set_cons_zero, List.set_cons_succ])
      (refine hd_skip (i := 16) (oi := ?oi483) ?hi483 (by kernel_rfl) (by kernel_rfl) (by kernel_rfl) (by kernel_rfl) (by decide) ?hq483 ?hw483 hHeld ?hr483; (case hi483 => (simp only [List.getElem?_toArray, List.getElem?_cons_succ, List.getElem?_cons_zero]; rfl)); (case hw483 => rfl); (case hq483 => exact fun _ _ _ h => h); simp only [Act.put, List.setIfInBounds_toArray, List.set_cons_zero, List.set_cons_succ])
      (refine hd_skip (i := 17) (oi := ?oi485) ?hi485 (by kernel_rfl) (by kernel_rfl) (by kernel_rfl) (by kernel_rfl) (by decide) ?hq485 ?hw485 hHeld ?hr485; (case hi485 => (simp only [List.getElem?_toArray, List.getElem?_cons_succ, List.getElem?_cons_zero]; rfl)); (case hw485 => rfl); (case hq485 => exact fun _ _ _ h => h); simp only [Act.put, List.setIfInBounds_toArray, List.set_cons_zero, List.set_cons_succ])
      (refine hd_skip (i := 18) (oi := ?oi487) ?hi487 (by kernel_rfl) (by kernel_rfl) (by kernel_rfl) (by kernel_rfl) (by decide) ?hq487 ?hw487 hHeld ?hr487; (case hi487 => (simp only [List.getElem?_toArray, List.getElem?_cons_succ, List.getElem?_cons_zero]; rfl)); (case hw487 => rfl); (case hq487 => exact fun _ _ _ h => h); simp only [Act.put, List.setIfInBounds_toArray, List.set_cons_zero, List.set_cons_succ])
      (refine hd_skip (i := 19) (oi := ?oi489) ?hi489 (by kernel_rfl) (by kernel_rfl) (by kernel_rfl) (by kernel_rfl) (by decide) ?hq489 ?hw489 hHeld ?hr489; (case hi489 => (simp only [List.getElem?_toArray, List.getElem?_cons_succ, List.getElem?_cons_zero]; rfl)); (case hw489 => rfl); (case hq489 => exact fun _ _ _ h => h); simp only [Act.put, List.setIfInBounds_toArray, List.set_cons_zero, List.set_cons_succ])
      (refine hd_take (i := 20) (oi := ?oi491) (v := ?v491) ?hi491 (by kernel_rfl) (by kernel_rfl) (by kernel_rfl) (by kernel_rfl) (by decide) ?hq491 ?hw491 ?hy491 hHeld ?hr491; (case hi491 => (simp only [List.getElem?_toArray, List.getElem?_cons_succ, List.getElem?_cons_zero]; rfl)); (case hw491 => rfl); (case hy491 => (intro w hSw; go_simp; try with_reducible rfl)); (case hq491 => exact fun _ _ _ h => h); simp only [Act.put, List.setIfInBounds_toArray, List.set_cons_zero, List.set_cons_succ])
      (refine hd_take (i := 21) (oi := ?oi493) (v := ?v493) ?hi493 (by kernel_rfl) (by kernel_rfl) (by kernel_rfl) (by kernel_rfl) (by decide) ?hq493 ?hw493 ?hy493 hHeld ?hr493; (case hi493 => (simp only [List.getElem?_toArray, List.getElem?_cons_succ, List.getElem?_cons_zero]; rfl)); (case hw493 => rfl); (case hy493 => (intro w hSw; go_simp; try with_reducible rfl)); (case hq493 => exact fun _ _ _ h => h); simp only [Act.put, List.setIfInBounds_toArray, List.set_cons_zero, List.set_cons_succ])
      (refine hd_skip (i := 22) (oi := ?oi495) ?hi495 (by kernel_rfl) (by kernel_rfl) (by kernel_rfl) (by kernel_rfl) (by decide) ?hq495 ?hw495 hHeld ?hr495; (case hi495 => (simp only [List.getElem?_toArray, List.getElem?_cons_succ, List.getElem?_cons_zero]; rfl)); (case hw495 => rfl); (case hq495 => exact fun _ _ _ h => h); simp only [Act.put, List.setIfInBounds_toArray, List.set_cons_zero, List.set_cons_succ])
      (refine hd_skip (i := 23) (oi := ?oi497) ?hi497 (by kernel_rfl) (by kernel_rfl) (by kernel_rfl) (by kernel_rfl) (by decide) ?hq497 ?hw497 hHeld ?hr497; (case hi497 => (simp only [List.getElem?_toArray, List.getElem?_cons_succ, List.getElem?_cons_zero]; rfl)); (case hw497 => rfl); (case hq497 => exact fun _ _ _ h => h); simp only [Act.put, List.setIfInBounds_toArray, List.set_cons_zero, List.set_cons_succ])
      (refine hd_skip (i := 24) (oi := ?oi499) ?hi499 (by kernel_rfl) (by kernel_rfl) (by kernel_rfl) (by kernel_rfl) (by decide) ?hq499 ?hw499 hHeld ?hr499; (case hi499 => (simp only [List.getElem?_toArray, List.getElem?_cons_succ, List.getElem?_cons_zero]; rfl)); (case hw499 => rfl); (case hq499 => exact fun _ _ _ h => h); simp only [Act.put, List.setIfInBounds_toArray, List.set_cons_zero, List.set_cons_succ])
      (refine hd_skip (i := 25) (oi := ?oi501) ?hi501 (by kernel_rfl) (by kernel_rfl) (by kernel_rfl) (by kernel_rfl) (by decide) ?hq501 ?hw501 hHeld ?hr501; (case hi501 => (simp only [List.getElem?_toArray, List.getElem?_cons_succ, List.getElem?_cons_zero]; rfl)); (case hw501 => rfl); (case hq501 => exact fun _ _ _ h => h); simp only [Act.put, List.setIfInBounds_toArray, List.set_cons_zero, List.set_cons_succ])
      (refine hd_skip (i := 26) (oi := ?oi503) ?hi503 (by kernel_rfl) (by kernel_rfl) (by kernel_rfl) (by kernel_rfl) (by decide) ?hq503 ?hw503 hHeld ?hr503; (case hi503 => (simp only [List.getElem?_toArray, List.getElem?_cons_succ, List.getElem?_cons_zero]; rfl)); (case hw503 => rfl); (case hq503 => exact fun _ _ _ h => h); simp only [Act.put, List.setIfInBounds_toArray, List.set_cons_zero, List.set_cons_succ])
      (refine hd_skip (i := 27) (oi := ?oi505) ?hi505 (by kernel_rfl) (by kernel_rfl) (by kernel_rfl) (by kernel_rfl) (by decide) ?hq505 ?hw505 hHeld ?hr505; (case hi505 => (simp only [List.getElem?_toArray, List.getElem?_cons_succ, List.getElem?_cons_zero]; rfl)); (case hw505 => rfl); (case hq505 => exact fun _ _ _ h => h); simp only [Act.put, List.setIfInBounds_toArray, List.set_cons_zero, List.set_cons_succ])
      (refine hd_take (i := 28) (oi := ?oi507) (v := ?v507) ?hi507 (by kernel_rfl) (by kernel_rfl) (by kernel_rfl) (by kernel_rfl) (by decide) ?hq507 ?hw507 ?hy507 hHeld ?hr507; (case hi507 => (simp only [List.getElem?_toArray, List.getElem?_cons_succ, List.getElem?_cons_zero]; rfl)); (case hw507 => rfl); (case hy507 => (intro w hSw; go_simp; try with_reducible rfl)); (case hq507 => exact fun _ _ _ h => h); simp only [Act.put, List.setIfInBounds_toArray, List.set_cons_zero, List.set_cons_succ])
      (refine hd_done (by kernel_rfl) ?_; simp only [List.drop_succ_cons, List.drop_zero])
      have HH := Aside0.mk hHeld
      clear hHeld k0 k1 k2 k3 k4 k5 k6 k7 k8 k9 k10 k11
      have HMk := Aside0.mk (HM5.out.below HH.out)
      go_upto_region 4 with (at_mapUpdate; refine wp_updB rfl _ _ _ rfl rfl HMk.out i k rfl (false) rfl ?_; intro w8 hM8 hG8; have HM8 := Aside0.mk hM8; have HG8 := Aside0.mk hG8; clear hM8 hG8)
      rw [← HSV.out] at HM8
      generalize hm2 : mset ms ((i : Int), (k : Int)) (sameV ms s t) = ms2 at *
      have HMs := Aside0.mk hm2
      clear hm2
      have HF8 := Aside0.mk (Fr2.grownA (a := bs) (b := ba) (Fr2.of (hbT HW5.out HH.out)) HG8.out)
      have p0 := one_cell ((HF8.out.block _ (blk_lt G0.out) (by omega) (by omega)).trans G0.out)
      obtain ⟨c0, c1, c2', c3'⟩ := cmp_cells ((HF8.out.block _ (blk_lt HCW.out) hcs hca).trans HCW.out)
      have HB58 := Aside0.mk (Fr2.grownA (a := bs) (b := ba) (Fr2.of HH.out) HG8.out)
      obtain ⟨s0, s1, s2, s3⟩ := pt_cells ((HB58.out.block _ (blk_lt HS5.out) (by omega) (by omega)).trans HS5.out)
      obtain ⟨t0, t1, t2, t3⟩ := pt_cells ((HB58.out.block _ (blk_lt HT5.out) (by omega) (by omega)).trans HT5.out)
      obtain ⟨n0, n1⟩ := pair_cells ((HB58.out.block _ (blk_lt HN5.out) (by omega) (by omega)).trans HN5.out)
      have HC8 := Aside0.mk ((HF8.out.block _ (blk_lt HCW.out) hcs hca).trans HCW.out)
      have HMA8 := Aside0.mk ((HMA5.out.below HH.out).grown HG8.out (Ne.symm hne))
      have HI8 := Aside0.mk (Kd.F_grown (Kd.F_below HFI.out (hbT HW5.out HH.out)) HG8.out (fun j hj => fun e => HOP.out j hj (by injection e)))
      have HJ8 := Aside0.mk (Kd.F_grown (Kd.F_below HGI.out (hbT HW5.out HH.out)) HG8.out (fun j hj => fun e => HOQ.out j hj (by injection e)))
      have k0 := fun (w' : World) (h : Below w8.heap.size w8 w') => oldc h p0
      have k1 := fun (w' : World) (h : Below w8.heap.size w8 w') => oldc h c3'
      have k2 := fun (w' : World) (h : Below w8.heap.size w8 w') => oldc h s0
      have k3 := fun (w' : World) (h : Below w8.heap.size w8 w') => oldc h s1
      have k4 := fun (w' : World) (h : Below w8.heap.size w8 w') => oldc h s2
      have k5 := fun (w' : World) (h : Below w8.heap.size w8 w') => oldc h s3
      have k6 := fun (w' : World) (h : Below w8.heap.size w8 w') => oldc h t0
      have k7 := fun (w' : World) (h : Below w8.heap.size w8 w') => oldc h t1
      have k8 := fun (w' : World) (h : Below w8.heap.size w8 w') => oldc h t2
      have k9 := fun (w' : World) (h : Below w8.heap.size w8 w') => oldc h t3
      have k10 := fun (w' : World) (h : Below w8.heap.size w8 w') => oldc h n0
      have k11 := fun (w' : World) (h : Below w8.heap.size w8 w') => oldc h n1
      clear p0 c0 c1 c2' c3' s0 s1 s2 s3 t0 t1 t2 t3 n0 n1
      refine hd_region 11 1 (fun w' => Below w8.heap.size w8 w') (by kernel_rfl) rfl ?_ (fun _ h => h)
      intro W6' hb6 hz6 hHeld
      clear hb6 hz6
      (refine hd_take (i := 0) (oi := ?oi510) (v := ?v510) ?hi510 (by kernel_rfl) (by kernel_rfl) (by kernel_rfl) (by kernel_rfl) (by decide) ?hq510 ?hw510 ?hy510 hHeld ?hr510; (case hi510 => (simp only [List.getElem?_toArray, List.getElem?_cons_succ, List.getElem?_cons_zero]; rfl)); (case hw510 => rfl); (case hy510 => (intro w hSw; go_simp; try with_reducible rfl)); (case hq510 => exact fun _ _ _ h => h); simp only [Act.put, List.setIfInBounds_toArray, List.set_cons_zero, List.set_cons_succ])
      (refine hd_take (i := 1) (oi := ?oi512) (v := ?v512) ?hi512 (by kernel_rfl) (by kernel_rfl) (by kernel_rfl) (by kernel_rfl) (by decide) ?hq512 ?hw512 ?hy512 hHeld ?hr512; (case hi512 => (simp only [List.getElem?_toArray, List.getElem?_cons_succ, List.getElem?_cons_zero]; rfl)); (case hw512 => rfl); (case hy512 => (intro w hSw; go_simp; try with_reducible rfl)); (case hq512 => exact fun _ _ _ h => h); simp only [Act.put, List.setIfInBounds_toArray, List.set_cons_zero, List.set_cons_succ])
      (refine hd_take (i := 2) (oi := ?oi514) (v := ?v514) ?hi514 (by kernel_rfl) (by kernel_rfl) (by kernel_rfl) (by kernel_rfl) (by decide) ?hq514 ?hw514 ?hy514 hHeld ?hr514; (case hi514 => (simp only [List.getElem?_toArray, List.getElem?_cons_succ, List.getElem?_cons_zero]; rfl)); (case hw514 => rfl); (case hy514 => (intro w hSw; go_simp; try with_reducible rfl)); (case hq514 => exact fun _ _ _ h => h); simp only [Act.put, List.setIfInBounds_toArray, List.set_cons_zero, List.set_cons_succ])
      (refine hd_take (i := 3) (oi := ?oi516) (v := ?v516) ?hi516 (by kernel_rfl) (by kernel_rfl) (by kernel_rfl) (by kernel_rfl) (by decide) ?hq516 ?hw516 ?hy516 hHeld ?hr516; (case hi516 => (simp only [List.getElem?_toArray, List.getElem?_cons_succ, List.getElem?_cons_zero]; rfl)); (case hw516 => rfl); (case hy516 => (intro w hSw; go_simp; try with_reducible rfl)); (case hq516 => exact fun _ _ _ h => h); simp only [Act.put, List.setIfInBounds_toArray, List.set_cons_zero, List.set_cons_succ])
      (refine hd_take (i := 4) (oi := ?oi518) (v := ?v518) ?hi518 (by kernel_rfl) (by kernel_rfl) (by kernel_rfl) (by kernel_rfl) (by decide) ?hq518 ?hw518 ?hy518 hHeld ?hr518; (case hi518 => (simp only [List.getElem?_toArray, List.getElem?_cons_succ, List.getElem?_cons_zero]; rfl)); (case hw518 => rfl); (case hy518 => (intro w hSw; go_simp; try with_reducible rfl)); (case hq518 => exact fun _ _ _ h => h); simp only [Act.put, List.setIfInBounds_toArray, List.set_cons_zero, List.set_cons_succ])
      (refine hd_take (i := 5) (oi := ?oi520) (v := ?v520) ?hi520 (by kernel_rfl) (by kernel_rfl) (by kernel_rfl) (by kernel_rfl) (by decide) ?hq520 ?hw520 ?hy520 hHeld ?hr520; (case hi520 => (simp only [List.getElem?_toArray, List.getElem?_cons_succ, List.getElem?_cons_zero]; rfl)); (case hw520 => rfl); (case hy520 => (intro w hSw; go_simp; try with_reducible rfl)); (case hq520 => exact fun _ _ _ h => h); simp only [Act.put, List.setIfInBounds_toArray, List.set_cons_zero, List.set_cons_succ])
      (refine hd_take (i := 6) (oi := ?oi522) (v := ?v522) ?hi522 (by kernel_rfl) (by kernel_rfl) (by kernel_rfl) (by kernel_rfl) (by decide) ?hq522 ?hw522 ?hy522 hHeld ?hr522; (case hi522 => (simp only [List.getElem?_toArray, List.getElem?_cons_succ, List.getElem?_cons_zero]; rfl)); (case hw522 => rfl); (case hy522 => (intro w hSw; go_simp; try with_reducible rfl)); (case hq522 => exact fun _ _ _ h => h); simp only [Act.put, List.setIfInBounds_toArray, List.set_cons_zero, List.set_cons_succ])
      (refine hd_take (i := 7) (oi := ?oi524) (v := ?v524) ?hi524 (by kernel_rfl) (by kernel_rfl) (by kernel_rfl) (by kernel_rfl) (by decide) ?hq524 ?hw524 ?hy524 hHeld ?hr524; (case hi524 => (simp only [List.getElem?_toArray, List.getElem?_cons_succ, List.getElem?_cons_zero]; rfl)); (case hw524 => rfl); (case hy524 => (intro w hSw; go_simp; try with_reducible rfl)); (case hq524 => exact fun _ _ _ h => h); simp only [Act.put, List.setIfInBounds_toArray, List.set_cons_zero, List.set_cons_succ])
      (refine hd_take (i := 8) (oi := ?oi526) (v := ?v526) ?hi526 (by kernel_rfl) (by kernel_rfl) (by kernel_rfl) (by kernel_rfl) (by decide) ?hq526 ?hw526 ?hy526 hHeld ?hr526; (case hi526 => (simp only [List.getElem?_toArray, List.getElem?_cons_succ, List.getElem?_cons_zero]; rfl)); (case hw526 => rfl); (case hy526 => (intro w hSw; go_simp; try with_reducible rfl)); (case hq526 => exact fun _ _ _ h => h); simp only [Act.put, List.setIfInBounds_toArray, List.set_cons_zero, List.set_cons_succ])
      (refine hd_take (i := 9) (oi := ?oi528) (v := ?v528) ?hi528 (by kernel_rfl) (by kernel_rfl) (by kernel_rfl) (by kernel_rfl) (by decide) ?hq528 ?hw528 ?hy528 hHeld ?hr528; (case hi528 => (simp only [List.getElem?_toArray, List.getElem?_cons_succ, List.getElem?_cons_zero]; rfl)); (case hw528 => rfl); (case hy528 => (intro w hSw; go_simp; try with_reducible rfl)); (case hq528 => exact fun _ _ _ h => h); simp only [Act.put, List.setIfInBounds_toArray, List.set_cons_zero, List.set_cons_succ])
      (refine hd_one (i := 10) (oi := ?oi530) ?hi530 (by kernel_rfl) (by decide) ?hr530; (case hi530 => (simp only [List.getElem?_toArray, List.getElem?_cons_succ, List.getElem?_cons_zero]; rfl)); intro K hK)
      go_simp
      have GR := Aside0.mk (greaterM_any s t i k A2 A3 B2 B3 c2 c3 d2 d3 bc (some ad) (some bd) P.length Q.length c d bs ba ms2 ma W6' ((hHeld.block _ (blk_lt HC8.out)).trans HC8.out) (HM8.out.below hHeld) (HMA8.out.below hHeld) (Kd.F_now (Kd.F_below HI8.out hHeld)) (Kd.F_now (Kd.F_below HJ8.out hHeld)) HLN.out)
      skip
      refine GR.out.mono ?_
      rintro e w10 ⟨rfl, hb10⟩
      go_simp
      (refine hK.out _ _ ?hS532 (fun hHeld => ?hr532); (case hS532 => exact hbT hHeld hb10); clear hK K; try simp only [Act.put, List.setIfInBounds_toArray, List.set_cons_zero, List.set_cons_succ])
      (refine hd_done (by kernel_rfl) ?_; simp only [List.drop_succ_cons, List.drop_zero])
      have HH8 := Aside0.mk hHeld
      clear hHeld k0 k1 k2 k3 k4 k5 k6 k7 k8 k9 k10 k11
      have HMA10 := Aside0.mk (HMA8.out.below HH8.out)
      have HM10 := Aside0.mk (HM8.out.below HH8.out)
      go_wp2_with (at_mapUpdate; refine wp_updB rfl _ _ _ rfl rfl HMA10.out i k rfl (grB ms2 ma s t i k) rfl ?_; intro w11 hM11 hG11; have HM11 := Aside0.mk hM11; have HG11 := Aside0.mk hG11; clear hM11 hG11)
      refine bodyPost_end (results_none rfl _ _ _) rfl ?_
      refine ⟨rfl, ?_⟩
      rw [HSs.out, HTt.out, HMs.out]
      exact ⟨HM10.out.grown HG11.out hne, HM11.out, (Fr2.of HB.out).trans ((HF8.out.trans (Fr2.of HH8.out)).grownB HG11.out)⟩
    | true =>
      cases hf : (s.f0.f1 == t.f0.f1) with
      | false =>
        have HSV : Aside0 (sameV ms s t = false) := ⟨by unfold sameV; rw [hv, hf]; rfl⟩
        refine hd_region 29 1 (fun w' => Below W5.heap.size W5 w') (by kernel_rfl) rfl ?_ (fun _ h => h)
        intro W6 hb6 hz6 hHeld
        clear hb6 hz6
        (refine hd_take (i := 0) (oi := ?oi534) (v := ?v534) ?hi534 (by kernel_rfl) (by kernel_rfl) (by kernel_rfl) (by kernel_rfl) (by decide) ?hq534 ?hw534 ?hy534 hHeld ?hr534; (case hi534 => (simp only [List.getElem?_toArray, List.getElem?_cons_succ, List.getElem?_cons_zero]; rfl)); (case hw534 => rfl); (case hy534 => (intro w hSw; go_simp; try with_reducible rfl)); (case hq534 => exact fun _ _ _ h => h); simp only [Act.put, List.setIfInBounds_toArray, List.set_cons_zero, List.set_cons_succ])
        (refine hd_take (i := 1) (oi := ?oi536) (v := ?v536) ?hi536 (by kernel_rfl) (by kernel_rfl) (by kernel_rfl) (by kernel_rfl) (by decide) ?hq536 ?hw536 ?hy536 hHeld ?hr536; (case hi536 => (simp only [List.getElem?_toArray, List.getElem?_cons_succ, List.getElem?_cons_zero]; rfl)); (case hw536 => rfl); (case hy536 => (intro w hSw; go_simp; try with_reducible rfl)); (case hq536 => exact fun _ _ _ h => h); simp only [Act.put, List.setIfInBounds_toArray, List.set_cons_zero, List.set_cons_succ])
        (refine hd_take (i := 2) (oi := ?oi538) (v := ?v538) ?hi538 (by kernel_rfl) (by kernel_rfl) (by kernel_rfl) (by kernel_rfl) (by decide) ?hq538 ?hw538 ?hy538 hHeld ?hr538; (case hi538 => (simp only [List.getElem?_toArray, List.getElem?_cons_succ, List.getElem?_cons_zero]; rfl)); (case hw538 => rfl); (case hy538 => (intro w hSw; go_simp; try with_reducible rfl)); (case hq538 => exact fun _ _ _ h => h); simp only [Act.put, List.setIfInBounds_toArray, List.set_cons_zero, List.set_cons_succ])
        (refine hd_take (i := 3) (oi := ?oi540) (v := ?v540) ?hi540 (by kernel_rfl) (by kernel_rfl) (by kernel_rfl) (by kernel_rfl) (by decide) ?hq540 ?hw540 ?hy540 hHeld ?hr540; (case hi540 => (simp only [List.getElem?_toArray, List.getElem?_cons_succ, List.getElem?_cons_zero]; rfl)); (case hw540 => rfl); (case hy540 => (intro w hSw; go_simp; try with_reducible rfl)); (case hq540 => exact fun _ _ _ h => h); simp only [Act.put, List.setIfInBounds_toArray, List.set_cons_zero, List.set_cons_succ])
        (refine hd_take (i := 4) (oi := ?oi542) (v := ?v542) ?hi542 (by kernel_rfl) (by kernel_rfl) (by kernel_rfl) (by kernel_rfl) (by decide) ?hq542 ?hw542 ?hy542 hHeld ?hr542; (case hi542 => (simp only [List.getElem?_toArray, List.getElem?_cons_succ, List.getElem?_cons_zero]; rfl)); (case hw542 => rfl); (case hy542 => (intro w hSw; go_simp; try with_reducible rfl)); (case hq542 => exact fun _ _ _ h => h); simp only [Act.put, List.setIfInBounds_toArray, List.set_cons_zero, List.set_cons_succ])
        (refine hd_take (i := 5) (oi := ?oi544) (v := ?v544) ?hi544 (by kernel_rfl) (by kernel_rfl) (by kernel_rfl) (by kernel_rfl) (by decide) ?hq544 ?hw544 ?hy544 hHeld ?hr544; (case hi544 => (simp only [List.getElem?_toArray, List.getElem?_cons_succ, List.getElem?_cons_zero]; rfl)); (case hw544 => rfl); (case hy544 => (intro w hSw; go_simp; try with_reducible rfl)); (case hq544 => exact fun _ _ _ h => h); simp only [Act.put, List.setIfInBounds_toArray, List.set_cons_zero, List.set_cons_succ])
        (refine hd_take (i := 6) (oi := ?oi546) (v := ?v546) ?hi546 (by kernel_rfl) (by kernel_rfl) (by kernel_rfl) (by kernel_rfl) (by decide) ?hq546 ?hw546 ?hy546 hHeld ?hr546; (case hi546 => (simp only [List.getElem?_toArray, List.getElem?_cons_succ, List.getElem?_cons_zero]; rfl)); (case hw546 => rfl); (case hy546 => (intro w hSw; go_simp; try with_reducible rfl)); (case hq546 => exact fun _ _ _ h => h); simp only [Act.put, List.setIfInBounds_toArray, List.set_cons_zero, List.set_cons_succ])
        (refine hd_take (i := 7) (oi := ?oi548) (v := ?v548) ?hi548 (by kernel_rfl) (by kernel_rfl) (by kernel_rfl) (by kernel_rfl) (by decide) ?hq548 ?hw548 ?hy548 hHeld ?hr548; (case hi548 => (simp only [List.getElem?_toArray, List.getElem?_cons_succ, List.getElem?_cons_zero]; rfl)); (case hw548 => rfl); (case hy548 => (intro w hSw; go_simp; try with_reducible rfl)); (case hq548 => exact fun _ _ _ h => h); simp only [Act.put, List.setIfInBounds_toArray, List.set_cons_zero, List.set_cons_succ])
        (refine hd_take (i := 8) (oi := ?oi550) (v := ?v550) ?hi550 (by kernel_rfl) (by kernel_rfl) (by kernel_rfl) (by kernel_rfl) (by decide) ?hq550 ?hw550 ?hy550 hHeld ?hr550; (case hi550 => (simp only [List.getElem?_toArray, List.getElem?_cons_succ, List.getElem?_cons_zero]; rfl)); (case hw550 => rfl); (case hy550 => (intro w hSw; go_simp; try with_reducible rfl)); (case hq550 => exact fun _ _ _ h => h); simp only [Act.put, List.setIfInBounds_toArray, List.set_cons_zero, List.set_cons_succ])
        (refine hd_take (i := 9) (oi := ?oi552) (v := ?v552) ?hi552 (by kernel_rfl) (by kernel_rfl) (by kernel_rfl) (by kernel_rfl) (by decide) ?hq552 ?hw552 ?hy552 hHeld ?hr552; (case hi552 => (simp only [List.getElem?_toArray, List.getElem?_cons_succ, List.getElem?_cons_zero]; rfl)); (case hw552 => rfl); (case hy552 => (intro w hSw; go_simp; try with_reducible rfl)); (case hq552 => exact fun _ _ _ h => h); simp only [Act.put, List.setIfInBounds_toArray, List.set_cons_zero, List.set_cons_succ])
        (refine hd_take (i := 10) (oi := ?oi554) (v := ?v554) ?hi554 (by kernel_rfl) (by kernel_rfl) (by kernel_rfl) (by kernel_rfl) (by decide) ?hq554 ?hw554 ?hy554 hHeld ?hr554; (case hi554 => (simp only [List.getElem?_toArray, List.getElem?_cons_succ, List.getElem?_cons_zero]; rfl)); (case hw554 => rfl); (case hy554 => (intro w hSw; go_simp; try with_reducible rfl)); (case hq554 => exact fun _ _ _ h => h); simp only [Act.put, List.setIfInBounds_toArray, List.set_cons_zero, List.set_cons_succ])
        (refine hd_take (i := 11) (oi := ?oi556) (v := ?v556) ?hi556 (by kernel_rfl) (by kernel_rfl) (by kernel_rfl) (by kernel_rfl) (by decide) ?hq556 ?hw556 ?hy556 hHeld ?hr556; (case hi556 => (simp only [List.getElem?_toArray, List.getElem?_cons_succ, List.getElem?_cons_zero]; rfl)); (case hw556 => rfl); (case hy556 => (intro w hSw; go_simp; try with_reducible rfl)); (case hq556 => exact fun _ _ _ h => h); simp only [Act.put, List.setIfInBounds_toArray, List.set_cons_zero, List.set_cons_succ])
        (refine hd_take (i := 12) (oi := ?oi558) (v := ?v558) ?hi558 (by kernel_rfl) (by kernel_rfl) (by kernel_rfl) (by kernel_rfl) (by decide) ?hq558 ?hw558 ?hy558 hHeld ?hr558; (case hi558 => (simp only [List.getElem?_toArray, List.getElem?_cons_succ, List.getElem?_cons_zero]; rfl)); (case hw558 => rfl); (case hy558 => (intro w hSw; go_simp; try with_reducible rfl)); (case hq558 => exact fun _ _ _ h => h); simp only [Act.put, List.setIfInBounds_toArray, List.set_cons_zero, List.set_cons_succ])
        (refine hd_take (i := 13) (oi := ?oi560) (v := ?v560) ?hi560 (by kernel_rfl) (by kernel_rfl) (by kernel_rfl) (by kernel_rfl) (by decide) ?hq560 ?hw560 ?hy560 hHeld ?hr560; (case hi560 => (simp only [List.getElem?_toArray, List.getElem?_cons_succ, List.getElem?_cons_zero]; rfl)); (case hw560 => rfl); (case hy560 => (intro w hSw; go_simp; try with_reducible rfl)); (case hq560 => exact fun _ _ _ h => h); simp only [Act.put, List.setIfInBounds_toArray, List.set_cons_zero, List.set_cons_succ])
        (refine hd_take (i := 14) (oi := ?oi562) (v := ?v562) ?hi562 (by kernel_rfl) (by kernel_rfl) (by kernel_rfl) (by kernel_rfl) (by decide) ?hq562 ?hw562 ?hy562 hHeld ?hr562; (case hi562 => (simp only [List.getElem?_toArray, List.getElem?_cons_succ, List.getElem?_cons_zero]; rfl)); (case hw562 => rfl); (case hy562 => (intro w hSw; go_simp; try with_reducible rfl)); (case hq562 => exact fun _ _ _ h => h); simp only [Act.put, List.setIfInBounds_toArray, List.set_cons_zero, List.set_cons_succ])
        (refine hd_take (i := 15) (oi := ?oi564) (v := ?v564) ?hi564 (by kernel_rfl) (by kernel_rfl) (by kernel_rfl) (by kernel_rfl) (by decide) ?hq564 ?hw564 ?hy564 hHeld ?hr564; (case hi564 => (simp only [List.getElem?_toArray, List.getElem?_cons_succ, List.getElem?_cons_zero]; rfl)); (case hw564 => rfl); (case hy564 => (intro w hSw; go_simp; try with_reducible rfl)); (case hq564 => exact fun _ _ _ h => h); simp only [Act.put, List.setIfInBounds_toArray, List.set_cons_zero, List.set_cons_succ])
        (refine hd_take (i := 16) (oi := ?oi566) (v := ?v566) ?hi566 (by kernel_rfl) (by kernel_rfl) (by kernel_rfl) (by kernel_rfl) (by decide) ?hq566 ?hw566 ?hy566 hHeld ?hr566; (case hi566 => (simp only [List.getElem?_toArray, List.getElem?_cons_succ, List.getElem?_cons_zero]; rfl)); (case hw566 => rfl); (case hy566 => (intro w hSw; go_simp; try with_reducible rfl)); (case hq566 => exact fun _ _ _ h => h); simp only [Act.put, List.setIfInBounds_toArray, List.set_cons_zero, List.set_cons_succ])
        (refine hd_take (i := 17) (oi := ?oi568) (v := ?v568) ?hi568 (by kernel_rfl) (by kernel_rfl) (by kernel_rfl) (by kernel_rfl) (by decide) ?hq568 ?hw568 ?hy568 hHeld ?hr568; (case hi568 => (simp only [List.getElem?_toArray, List.getElem?_cons_succ, List.getElem?_cons_zero]; rfl)); (case hw568 => rfl); (case hy568 => (intro w hSw; go_simp; try with_reducible rfl)); (case hq568 => exact fun _ _ _ h => h); simp only [Act.put, List.setIfInBounds_toArray, List.set_cons_zero, List.set_cons_succ])
        (refine hd_take (i := 18) (oi := ?oi570) (v := ?v570) ?hi570 (by kernel_rfl) (by kernel_rfl) (by kernel_rfl) (by kernel_rfl) (by decide) ?hq570 ?hw570 ?hy570 hHeld ?hr570; (case hi570 => (simp only [List.getElem?_toArray, List.getElem?_cons_succ, List.getElem?_cons_zero]; rfl)); (case hw570 => rfl); (case hy570 => (intro w hSw; go_simp; try with_reducible rfl)); (case hq570 => exact fun _ _ _ h => h); simp only [Act.put, List.setIfInBounds_toArray, List.set_cons_zero, List.set_cons_succ])
        (refine hd_take (i := 19) (oi := ?oi572) (v := ?v572) ?hi572 (by kernel_rfl) (by kernel_rfl) (by kernel_rfl) (by kernel_rfl) (by decide) ?hq572 ?hw572 ?hy572 hHeld ?hr572; (case hi572 => (simp only [List.getElem?_toArray, List.getElem?_cons_succ, List.getElem?_cons_zero]; rfl)); (case hw572 => rfl); (case hy572 => (intro w hSw; go_simp; try with_reducible rfl)); (case hq572 => exact fun _ _ _ h => h); simp only [Act.put, List.setIfInBounds_toArray, List.set_cons_zero, List.set_cons_succ])
        (refine hd_take (i := 20) (oi := ?oi574) (v := ?v574) ?hi574 (by kernel_rfl) (by kernel_rfl) (by kernel_rfl) (by kernel_rfl) (by decide) ?hq574 ?hw574 ?hy574 hHeld ?hr574; (case hi574 => (simp only [List.getElem?_toArray, List.getElem?_cons_succ, List.getElem?_cons_zero]; rfl)); (case hw574 => rfl); (case hy574 => (intro w hSw; go_simp; try with_reducible rfl)); (case hq574 => exact fun _ _ _ h => h); simp only [Act.put, List.setIfInBounds_toArray, List.set_cons_zero, List.set_cons_succ])
        (refine hd_take (i := 21) (oi := ?oi576) (v := ?v576) ?hi576 (by kernel_rfl) (by kernel_rfl) (by kernel_rfl) (by kernel_rfl) (by decide) ?hq576 ?hw576 ?hy576 hHeld ?hr576; (case hi576 => (simp only [List.getElem?_toArray, List.getElem?_cons_succ, List.getElem?_cons_zero]; rfl)); (case hw576 => rfl); (case hy576 => (intro w hSw; go_simp; try with_reducible rfl)); (case hq576 => exact fun _ _ _ h => h); simp only [Act.put, List.setIfInBounds_toArray, List.set_cons_zero, List.set_cons_succ])
        (refine hd_skip (i := 22) (oi := ?oi578) ?hi578 (by kernel_rfl) (by kernel_rfl) (by kernel_rfl) (by kernel_rfl) (by decide) ?hq578 ?hw578 hHeld ?hr578; (case hi578 => (simp only [List.getElem?_toArray, List.getElem?_cons_succ, List.getElem?_cons_zero]; rfl)); (case hw578 => rfl); (case hq578 => exact fun _ _ _ h => h); simp only [Act.put, List.setIfInBounds_toArray, List.set_cons_zero, List.set_cons_succ])
        (refine hd_skip (i := 23) (oi := ?oi580) ?hi580 (by kernel_rfl) (by kernel_rfl) (by kernel_rfl) (by kernel_rfl) (by decide) ?hq580 ?hw580 hHeld ?hr580; (case hi580 => (simp only [List.getElem?_toArray, List.getElem?_cons_succ, List.getElem?_cons_zero]; rfl)); (case hw580 => rfl); (case hq580 => exact fun _ _ _ h => h); simp only [Act.put, List.setIfInBounds_toArray, List.set_cons_zero, List.set_cons_succ])
        (refine hd_skip (i := 24) (oi := ?oi582) ?hi582 (by kernel_rfl) (by kernel_rfl) (by kernel_rfl) (by kernel_rfl) (by decide) ?hq582 ?hw582 hHeld ?hr582; (case hi582 => (simp only [List.getElem?_toArray, List.getElem?_cons_succ, List.getElem?_cons_zero]; rfl)); (case hw582 => rfl); (case hq582 => exact fun _ _ _ h => h); simp only [Act.put, List.setIfInBounds_toArray, List.set_cons_zero, List.set_cons_succ])
        (refine hd_skip (i := 25) (oi := ?oi584) ?hi584 (by kernel_rfl) (by kernel_rfl) (by kernel_rfl) (by kernel_rfl) (by decide) ?hq584 ?hw584 hHeld ?hr584; (case hi584 => (simp only [List.getElem?_toArray, List.getElem?_cons_succ, List.getElem?_cons_zero]; rfl)); (case hw584 => rfl); (case hq584 => exact fun _ _ _ h => h); simp only [Act.put, List.setIfInBounds_toArray, List.set_cons_zero, List.set_cons_succ])
        (refine hd_skip (i := 26) (oi := ?oi586) ?hi586 (by kernel_rfl) (by kernel_rfl) (by kernel_rfl) (by kernel_rfl) (by decide) ?hq586 ?hw586 hHeld ?hr586; (case hi586 => (simp only [List.getElem?_toArray, List.getElem?_cons_succ, List.getElem?_cons_zero]; rfl)); (case hw586 => rfl); (case hq586 => exact fun _ _ _ h => h); simp only [Act.put, List.setIfInBounds_toArray, List.set_cons_zero, List.set_cons_succ])
        (refine hd_skip (i := 27) (oi := ?oi588) ?hi588 (by kernel_rfl) (by kernel_rfl) (by kernel_rfl) (by kernel_rfl) (by decide) ?hq588 ?hw588 hHeld ?hr588; (case hi588 => (simp only [List.getElem?_toArray, List.getElem?_cons_succ, List.getElem?_cons_zero]; rfl)); (case hw588 => rfl); (case hq588 => exact fun _ _ _ h => h); simp only [Act.put, List.setIfInBounds_toArray, List.set_cons_zero, List.set_cons_succ])
        (refine hd_take (i := 28) (oi := ?oi590) (v := ?v590) ?hi590 (by kernel_rfl) (by kernel_rfl) (by kernel_rfl) (by kernel_rfl) (by decide) ?hq590 ?hw590 ?hy590 hHeld ?hr590; (case hi590 => (simp only [List.getElem?_toArray, List.getElem?_cons_succ, List.getElem?_cons_zero]; rfl)); (case hw590 => rfl); (case hy590 => (intro w hSw; go_simp; try with_reducible rfl)); (case hq590 => exact fun _ _ _ h => h); simp only [Act.put, List.setIfInBounds_toArray, List.set_cons_zero, List.set_cons_succ])
        (refine hd_done (by kernel_rfl) ?_; simp only [List.drop_succ_cons, List.drop_zero])
        have HH := Aside0.mk hHeld
        clear hHeld k0 k1 k2 k3 k4 k5 k6 k7 k8 k9 k10 k11
        have HMk := Aside0.mk (HM5.out.below HH.out)
        go_upto_region 4 with (at_mapUpdate; refine wp_updB rfl _ _ _ rfl rfl HMk.out i k rfl (false) rfl ?_; intro w8 hM8 hG8; have HM8 := Aside0.mk hM8; have HG8 := Aside0.mk hG8; clear hM8 hG8)
        rw [← HSV.out] at HM8
        generalize hm2 : mset ms ((i : Int), (k : Int)) (sameV ms s t) = ms2 at *
        have HMs := Aside0.mk hm2
        clear hm2
        have HF8 := Aside0.mk (Fr2.grownA (a := bs) (b := ba) (Fr2.of (hbT HW5.out HH.out)) HG8.out)
        have p0 := one_cell ((HF8.out.block _ (blk_lt G0.out) (by omega) (by omega)).trans G0.out)
        obtain ⟨c0, c1, c2', c3'⟩ := cmp_cells ((HF8.out.block _ (blk_lt HCW.out) hcs hca).trans HCW.out)
        have HB58 := Aside0.mk (Fr2.grownA (a := bs) (b := ba) (Fr2.of HH.out) HG8.out)
        obtain ⟨s0, s1, s2, s3⟩ := pt_cells ((HB58.out.block _ (blk_lt HS5.out) (by omega) (by omega)).trans HS5.out)
        obtain ⟨t0, t1, t2, t3⟩ := pt_cells ((HB58.out.block _ (blk_lt HT5.out) (by omega) (by omega)).trans HT5.out)
        obtain ⟨n0, n1⟩ := pair_cells ((HB58.out.block _ (blk_lt HN5.out) (by omega) (by omega)).trans HN5.out)
        have HC8 := Aside0.mk ((HF8.out.block _ (blk_lt HCW.out) hcs hca).trans HCW.out)
        have HMA8 := Aside0.mk ((HMA5.out.below HH.out).grown HG8.out (Ne.symm hne))
        have HI8 := Aside0.mk (Kd.F_grown (Kd.F_below HFI.out (hbT HW5.out HH.out)) HG8.out (fun j hj => fun e => HOP.out j hj (by injection e)))
        have HJ8 := Aside0.mk (Kd.F_grown (Kd.F_below HGI.out (hbT HW5.out HH.out)) HG8.out (fun j hj => fun e => HOQ.out j hj (by injection e)))
        have k0 := fun (w' : World) (h : Below w8.heap.size w8 w') => oldc h p0
        have k1 := fun (w' : World) (h : Below w8.heap.size w8 w') => oldc h c3'
        have k2 := fun (w' : World) (h : Below w8.heap.size w8 w') => oldc h s0
        have k3 := fun (w' : World) (h : Below w8.heap.size w8 w') => oldc h s1
        have k4 := fun (w' : World) (h : Below w8.heap.size w8 w') => oldc h s2
        have k5 := fun (w' : World) (h : Below w8.heap.size w8 w') => oldc h s3
        have k6 := fun (w' : World) (h : Below w8.heap.size w8 w') => oldc h t0
        have k7 := fun (w' : World) (h : Below w8.heap.size w8 w') => oldc h t1
        have k8 := fun (w' : World) (h : Below w8.heap.size w8 w') => oldc h t2
        have k9 := fun (w' : World) (h : Below w8.heap.size w8 w') => oldc h t3
        have k10 := fun (w' : World) (h : Below w8.heap.size w8 w') => oldc h n0
        have k11 := fun (w' : World) (h : Below w8.heap.size w8 w') => oldc h n1
        clear p0 c0 c1 c2' c3' s0 s1 s2 s3 t0 t1 t2 t3 n0 n1
        refine hd_region 11 1 (fun w' => Below w8.heap.size w8 w') (by kernel_rfl) rfl ?_ (fun _ h => h)
        intro W6' hb6 hz6 hHeld
        clear hb6 hz6
        (refine hd_take (i := 0) (oi := ?oi593) (v := ?v593) ?hi593 (by kernel_rfl) (by kernel_rfl) (by kernel_rfl) (by kernel_rfl) (by decide) ?hq593 ?hw593 ?hy593 hHeld ?hr593; (case hi593 => (simp only [List.getElem?_toArray, List.getElem?_cons_succ, List.getElem?_cons_zero]; rfl)); (case hw593 => rfl); (case hy593 => (intro w hSw; go_simp; try with_reducible rfl)); (case hq593 => exact fun _ _ _ h => h); simp only [Act.put, List.setIfInBounds_toArray, List.set_cons_zero, List.set_cons_succ])
        (refine hd_take (i := 1) (oi := ?oi595) (v := ?v595) ?hi595 (by kernel_rfl) (by kernel_rfl) (by kernel_rfl) (by kernel_rfl) (by decide) ?hq595 ?hw595 ?hy595 hHeld ?hr595; (case hi595 => (simp only [List.getElem?_toArray, List.getElem?_cons_succ, List.getElem?_cons_zero]; rfl)); (case hw595 => rfl); (case hy595 => (intro w hSw; go_simp; try with_reducible rfl)); (case hq595 => exact fun _ _ _ h => h); simp only [Act.put, List.setIfInBounds_toArray, List.set_cons_zero, List.set_cons_succ])
        (refine hd_take (i := 2) (oi := ?oi597) (v := ?v597) ?hi597 (by kernel_rfl) (by kernel_rfl) (by kernel_rfl) (by kernel_rfl) (by decide) ?hq597 ?hw597 ?hy597 hHeld ?hr597; (case hi597 => (simp only [List.getElem?_toArray, List.getElem?_cons_succ, List.getElem?_cons_zero]; rfl)); (case hw597 => rfl); (case hy597 => (intro w hSw; go_simp; try with_reducible rfl)); (case hq597 => exact fun _ _ _ h => h); simp only [Act.put, List.setIfInBounds_toArray, List.set_cons_zero, List.set_cons_succ])
        (refine hd_take (i := 3) (oi := ?oi599) (v := ?v599) ?hi599 (by kernel_rfl) (by kernel_rfl) (by kernel_rfl) (by kernel_rfl) (by decide) ?hq599 ?hw599 ?hy599 hHeld ?hr599; (case hi599 => (simp only [List.getElem?_toArray, List.getElem?_cons_succ, List.getElem?_cons_zero]; rfl)); (case hw599 => rfl); (case hy599 => (intro w hSw; go_simp; try with_reducible rfl)); (case hq599 => exact fun _ _ _ h => h); simp only [Act.put, List.setIfInBounds_toArray, List.set_cons_zero, List.set_cons_succ])
        (refine hd_take (i := 4) (oi := ?oi601) (v := ?v601) ?hi601 (by kernel_rfl) (by kernel_rfl) (by kernel_rfl) (by kernel_rfl) (by decide) ?hq601 ?hw601 ?hy601 hHeld ?hr601; (case hi601 => (simp only [List.getElem?_toArray, List.getElem?_cons_succ, List.getElem?_cons_zero]; rfl)); (case hw601 => rfl); (case hy601 => (intro w hSw; go_simp; try with_reducible rfl)); (case hq601 => exact fun _ _ _ h => h); simp only [Act.put, List.setIfInBounds_toArray, List.set_cons_zero, List.set_cons_succ])
        (refine hd_take (i := 5) (oi := ?oi603) (v := ?v603) ?hi603 (by kernel_rfl) (by kernel_rfl) (by kernel_rfl) (by kernel_rfl) (by decide) ?hq603 ?hw603 ?hy603 hHeld ?hr603; (case hi603 => (simp only [List.getElem?_toArray, List.getElem?_cons_succ, List.getElem?_cons_zero]; rfl)); (case hw603 => rfl); (case hy603 => (intro w hSw; go_simp; try with_reducible rfl)); (case hq603 => exact fun _ _ _ h => h); simp only [Act.put, List.setIfInBounds_toArray, List.set_cons_zero, List.set_cons_succ])
        (refine hd_take (i := 6) (oi := ?oi605) (v := ?v605) ?hi605 (by kernel_rfl) (by kernel_rfl) (by kernel_rfl) (by kernel_rfl) (by decide) ?hq605 ?hw605 ?hy605 hHeld ?hr605; (case hi605 => (simp only [List.getElem?_toArray, List.getElem?_cons_succ, List.getElem?_cons_zero]; rfl)); (case hw605 => rfl); (case hy605 => (intro w hSw; go_simp; try with_reducible rfl)); (case hq605 => exact fun _ _ _ h => h); simp only [Act.put, List.setIfInBounds_toArray, List.set_cons_zero, List.set_cons_succ])
        (refine hd_take (i := 7) (oi := ?oi607) (v := ?v607) ?hi607 (by kernel_rfl) (by kernel_rfl) (by kernel_rfl) (by kernel_rfl) (by decide) ?hq607 ?hw607 ?hy607 hHeld ?hr607; (case hi607 => (simp only [List.getElem?_toArray, List.getElem?_cons_succ, List.getElem?_cons_zero]; rfl)); (case hw607 => rfl); (case hy607 => (intro w hSw; go_simp; try with_reducible rfl)); (case hq607 => exact fun _ _ _ h => h); simp only [Act.put, List.setIfInBounds_toArray, List.set_cons_zero, List.set_cons_succ])
        (refine hd_take (i := 8) (oi := ?oi609) (v := ?v609) ?hi609 (by kernel_rfl) (by kernel_rfl) (by kernel_rfl) (by kernel_rfl) (by decide) ?hq609 ?hw609 ?hy609 hHeld ?hr609; (case hi609 => (simp only [List.getElem?_toArray, List.getElem?_cons_succ, List.getElem?_cons_zero]; rfl)); (case hw609 => rfl); (case hy609 => (intro w hSw; go_simp; try with_reducible rfl)); (case hq609 => exact fun _ _ _ h => h); simp only [Act.put, List.setIfInBounds_toArray, List.set_cons_zero, List.set_cons_succ])
        (refine hd_take (i := 9) (oi := ?oi611) (v := ?v611) ?hi611 (by kernel_rfl) (by kernel_rfl) (by kernel_rfl) (by kernel_rfl) (by decide) ?hq611 ?hw611 ?hy611 hHeld ?hr611; (case hi611 => (simp only [List.getElem?_toArray, List.getElem?_cons_succ, List.getElem?_cons_zero]; rfl)); (case hw611 => rfl); (case hy611 => (intro w hSw; go_simp; try with_reducible rfl)); (case hq611 => exact fun _ _ _ h => h); simp only [Act.put, List.setIfInBounds_toArray, List.set_cons_zero, List.set_cons_succ])
        (refine hd_one (i := 10) (oi := ?oi613) ?hi613 (by kernel_rfl) (by decide) ?hr613; (case hi613 => (simp only [List.getElem?_toArray, List.getElem?_cons_succ, List.getElem?_cons_zero]; rfl)); intro K hK)
        go_simp
        have GR := Aside0.mk (greaterM_any s t i k A2 A3 B2 B3 c2 c3 d2 d3 bc (some ad) (some bd) P.length Q.length c d bs ba ms2 ma W6' ((hHeld.block _ (blk_lt HC8.out)).trans HC8.out) (HM8.out.below hHeld) (HMA8.out.below hHeld) (Kd.F_now (Kd.F_below HI8.out hHeld)) (Kd.F_now (Kd.F_below HJ8.out hHeld)) HLN.out)
        skip
        refine GR.out.mono ?_
        rintro e w10 ⟨rfl, hb10⟩
        go_simp
        (refine hK.out _ _ ?hS615 (fun hHeld => ?hr615); (case hS615 => exact hbT hHeld hb10); clear hK K; try simp only [Act.put, List.setIfInBounds_toArray, List.set_cons_zero, List.set_cons_succ])
        (refine hd_done (by kernel_rfl) ?_; simp only [List.drop_succ_cons, List.drop_zero])
        have HH8 := Aside0.mk hHeld
        clear hHeld k0 k1 k2 k3 k4 k5 k6 k7 k8 k9 k10 k11
        have HMA10 := Aside0.mk (HMA8.out.below HH8.out)
        have HM10 := Aside0.mk (HM8.out.below HH8.out)
        go_wp2_with (at_mapUpdate; refine wp_updB rfl _ _ _ rfl rfl HMA10.out i k rfl (grB ms2 ma s t i k) rfl ?_; intro w11 hM11 hG11; have HM11 := Aside0.mk hM11; have HG11 := Aside0.mk hG11; clear hM11 hG11)
        refine bodyPost_end (results_none rfl _ _ _) rfl ?_
        refine ⟨rfl, ?_⟩
        rw [HSs.out, HTt.out, HMs.out]
        exact ⟨HM10.out.grown HG11.out hne, HM11.out, (Fr2.of HB.out).trans ((HF8.out.trans (Fr2.of HH8.out)).grownB HG11.out)⟩
      | true =>
        have HSV : Aside0 (sameV ms s t = eqF (fun a b => mgetB ms (a, b)) s.f1 t.f1) := ⟨by unfold sameV; rw [hv, hf]; rfl⟩
        generalize eqF (fun a b => mgetB ms (a, b)) s.f1 t.f1 = r at *
        refine hd_region 29 1 (fun w' => Below W5.heap.size W5 w') (by kernel_rfl) rfl ?_ (fun _ h => h)
        intro W6 hb6 hz6 hHeld
        clear hb6 hz6
        (refine hd_take (i := 0) (oi := ?oi617) (v := ?v617) ?hi617 (by kernel_rfl) (by kernel_rfl) (by kernel_rfl) (by kernel_rfl) (by decide) ?hq617 ?hw617 ?hy617 hHeld ?hr617; (case hi617 => (simp only [List.getElem?_toArray, List.getElem?_cons_succ, List.getElem?_cons_zero]; rfl)); (case hw617 => rfl); (case hy617 => (intro w hSw; go_simp; try with_reducible rfl)); (case hq617 => exact fun _ _ _ h => h); simp only [Act.put, List.setIfInBounds_toArray, List.set_cons_zero, List.set_cons_succ])
        (refine hd_take (i := 1) (oi := ?oi619) (v := ?v619) ?hi619 (by kernel_rfl) (by kernel_rfl) (by kernel_rfl) (by kernel_rfl) (by decide) ?hq619 ?hw619 ?hy619 hHeld ?hr619; (case hi619 => (simp only [List.getElem?_toArray, List.getElem?_cons_succ, List.getElem?_cons_zero]; rfl)); (case hw619 => rfl); (case hy619 => (intro w hSw; go_simp; try with_reducible rfl)); (case hq619 => exact fun _ _ _ h => h); simp only [Act.put, List.setIfInBounds_toArray, List.set_cons_zero, List.set_cons_succ])
        (refine hd_take (i := 2) (oi := ?oi621) (v := ?v621) ?hi621 (by kernel_rfl) (by kernel_rfl) (by kernel_rfl) (by kernel_rfl) (by decide) ?hq621 ?hw621 ?hy621 hHeld ?hr621; (case hi621 => (simp only [List.getElem?_toArray, List.getElem?_cons_succ, List.getElem?_cons_zero]; rfl)); (case hw621 => rfl); (case hy621 => (intro w hSw; go_simp; try with_reducible rfl)); (case hq621 => exact fun _ _ _ h => h); simp only [Act.put, List.setIfInBounds_toArray, List.set_cons_zero, List.set_cons_succ])
        (refine hd_take (i := 3) (oi := ?oi623) (v := ?v623) ?hi623 (by kernel_rfl) (by kernel_rfl) (by kernel_rfl) (by kernel_rfl) (by decide) ?hq623 ?hw623 ?hy623 hHeld ?hr623; (case hi623 => (simp only [List.getElem?_toArray, List.getElem?_cons_succ, List.getElem?_cons_zero]; rfl)); (case hw623 => rfl); (case hy623 => (intro w hSw; go_simp; try with_reducible rfl)); (case hq623 => exact fun _ _ _ h => h); simp only [Act.put, List.setIfInBounds_toArray, List.set_cons_zero, List.set_cons_succ])
        (refine hd_take (i := 4) (oi := ?oi625) (v := ?v625) ?hi625 (by kernel_rfl) (by kernel_rfl) (by kernel_rfl) (by kernel_rfl) (by decide) ?hq625 ?hw625 ?hy625 hHeld ?hr625; (case hi625 => (simp only [List.getElem?_toArray, List.getElem?_cons_succ, List.getElem?_cons_zero]; rfl)); (case hw625 => rfl); (case hy625 => (intro w hSw; go_simp; try with_reducible rfl)); (case hq625 => exact fun _ _ _ h => h); simp only [Act.put, List.setIfInBounds_toArray, List.set_cons_zero, List.set_cons_succ])
        (refine hd_take (i := 5) (oi := ?oi627) (v := ?v627) ?hi627 (by kernel_rfl) (by kernel_rfl) (by kernel_rfl) (by kernel_rfl) (by decide) ?hq627 ?hw627 ?hy627 hHeld ?hr627; (case hi627 => (simp only [List.getElem?_toArray, List.getElem?_cons_succ, List.getElem?_cons_zero]; rfl)); (case hw627 => rfl); (case hy627 => (intro w hSw; go_simp; try with_reducible rfl)); (case hq627 => exact fun _ _ _ h => h); simp only [Act.put, List.setIfInBounds_toArray, List.set_cons_zero, List.set_cons_succ])
        (refine hd_take (i := 6) (oi := ?oi629) (v := ?v629) ?hi629 (by kernel_rfl) (by kernel_rfl) (by kernel_rfl) (by kernel_rfl) (by decide) ?hq629 ?hw629 ?hy629 hHeld ?hr629; (case hi629 => (simp only [List.getElem?_toArray, List.getElem?_cons_succ, List.getElem?_cons_zero]; rfl)); (case hw629 => rfl); (case hy629 => (intro w hSw; go_simp; try with_reducible rfl)); (case hq629 => exact fun _ _ _ h => h); simp only [Act.put, List.setIfInBounds_toArray, List.set_cons_zero, List.set_cons_succ])
        (refine hd_take (i := 7) (oi := ?oi631) (v := ?v631) ?hi631 (by kernel_rfl) (by kernel_rfl) (by kernel_rfl) (by kernel_rfl) (by decide) ?hq631 ?hw631 ?hy631 hHeld ?hr631; (case hi631 => (simp only [List.getElem?_toArray, List.getElem?_cons_succ, List.getElem?_cons_zero]; rfl)); (case hw631 => rfl); (case hy631 => (intro w hSw; go_simp; try with_reducible rfl)); (case hq631 => exact fun _ _ _ h => h); simp only [Act.put, List.setIfInBounds_toArray, List.set_cons_zero, List.set_cons_succ])
        (refine hd_take (i := 8) (oi := ?oi633) (v := ?v633) ?hi633 (by kernel_rfl) (by kernel_rfl) (by kernel_rfl) (by kernel_rfl) (by decide) ?hq633 ?hw633 ?hy633 hHeld ?hr633; (case hi633 => (simp only [List.getElem?_toArray, List.getElem?_cons_succ, List.getElem?_cons_zero]; rfl)); (case hw633 => rfl); (case hy633 => (intro w hSw; go_simp; try with_reducible rfl)); (case hq633 => exact fun _ _ _ h => h); simp only [Act.put, List.setIfInBounds_toArray, List.set_cons_zero, List.set_cons_succ])
        (refine hd_take (i := 9) (oi := ?oi635) (v := ?v635) ?hi635 (by kernel_rfl) (by kernel_rfl) (by kernel_rfl) (by kernel_rfl) (by decide) ?hq635 ?hw635 ?hy635 hHeld ?hr635; (case hi635 => (simp only [List.getElem?_toArray, List.getElem?_cons_succ, List.getElem?_cons_zero]; rfl)); (case hw635 => rfl); (case hy635 => (intro w hSw; go_simp; try with_reducible rfl)); (case hq635 => exact fun _ _ _ h => h); simp only [Act.put, List.setIfInBounds_toArray, List.set_cons_zero, List.set_cons_succ])
        (refine hd_take (i := 10) (oi := ?oi637) (v := ?v637) ?hi637 (by kernel_rfl) (by kernel_rfl) (by kernel_rfl) (by kernel_rfl) (by decide) ?hq637 ?hw637 ?hy637 hHeld ?hr637; (case hi637 => (simp only [List.getElem?_toArray, List.getElem?_cons_succ, List.getElem?_cons_zero]; rfl)); (case hw637 => rfl); (case hy637 => (intro w hSw; go_simp; try with_reducible rfl)); (case hq637 => exact fun _ _ _ h => h); simp only [Act.put, List.setIfInBounds_toArray, List.set_cons_zero, List.set_cons_succ])
        (refine hd_take (i := 11) (oi := ?oi639) (v := ?v639) ?hi639 (by kernel_rfl) (by kernel_rfl) (by kernel_rfl) (by kernel_rfl) (by decide) ?hq639 ?hw639 ?hy639 hHeld ?hr639; (case hi639 => (simp only [List.getElem?_toArray, List.getElem?_cons_succ, List.getElem?_cons_zero]; rfl)); (case hw639 => rfl); (case hy639 => (intro w hSw; go_simp; try with_reducible rfl)); (case hq639 => exact fun _ _ _ h => h); simp only [Act.put, List.setIfInBounds_toArray, List.set_cons_zero, List.set_cons_succ])
        (refine hd_take (i := 12) (oi := ?oi641) (v := ?v641) ?hi641 (by kernel_rfl) (by kernel_rfl) (by kernel_rfl) (by kernel_rfl) (by decide) ?hq641 ?hw641 ?hy641 hHeld ?hr641; (case hi641 => (simp only [List.getElem?_toArray, List.getElem?_cons_succ, List.getElem?_cons_zero]; rfl)); (case hw641 => rfl); (case hy641 => (intro w hSw; go_simp; try with_reducible rfl)); (case hq641 => exact fun _ _ _ h => h); simp only [Act.put, List.setIfInBounds_toArray, List.set_cons_zero, List.set_cons_succ])
        (refine hd_take (i := 13) (oi := ?oi643) (v := ?v643) ?hi643 (by kernel_rfl) (by kernel_rfl) (by kernel_rfl) (by kernel_rfl) (by decide) ?hq643 ?hw643 ?hy643 hHeld ?hr643; (case hi643 => (simp only [List.getElem?_toArray, List.getElem?_cons_succ, List.getElem?_cons_zero]; rfl)); (case hw643 => rfl); (case hy643 => (intro w hSw; go_simp; try with_reducible rfl)); (case hq643 => exact fun _ _ _ h => h); simp only [Act.put, List.setIfInBounds_toArray, List.set_cons_zero, List.set_cons_succ])
        (refine hd_take (i := 14) (oi := ?oi645) (v := ?v645) ?hi645 (by kernel_rfl) (by kernel_rfl) (by kernel_rfl) (by kernel_rfl) (by decide) ?hq645 ?hw645 ?hy645 hHeld ?hr645; (case hi645 => (simp only [List.getElem?_toArray, List.getElem?_cons_succ, List.getElem?_cons_zero]; rfl)); (case hw645 => rfl); (case hy645 => (intro w hSw; go_simp; try with_reducible rfl)); (case hq645 => exact fun _ _ _ h => h); simp only [Act.put, List.setIfInBounds_toArray, List.set_cons_zero, List.set_cons_succ])
        (refine hd_take (i := 15) (oi := ?oi647) (v := ?v647) ?hi647 (by kernel_rfl) (by kernel_rfl) (by kernel_rfl) (by kernel_rfl) (by decide) ?hq647 ?hw647 ?hy647 hHeld ?hr647; (case hi647 => (simp only [List.getElem?_toArray, List.getElem?_cons_succ, List.getElem?_cons_zero]; rfl)); (case hw647 => rfl); (case hy647 => (intro w hSw; go_simp; try with_reducible rfl)); (case hq647 => exact fun _ _ _ h => h); simp only [Act.put, List.setIfInBounds_toArray, List.set_cons_zero, List.set_cons_succ])
        (refine hd_take (i := 16) (oi := ?oi649) (v := ?v649) ?hi649 (by kernel_rfl) (by kernel_rfl) (by kernel_rfl) (by kernel_rfl) (by decide) ?hq649 ?hw649 ?hy649 hHeld ?hr649; (case hi649 => (simp only [List.getElem?_toArray, List.getElem?_cons_succ, List.getElem?_cons_zero]; rfl)); (case hw649 => rfl); (case hy649 => (intro w hSw; go_simp; try with_reducible rfl)); (case hq649 => exact fun _ _ _ h => h); simp only [Act.put, List.setIfInBounds_toArray, List.set_cons_zero, List.set_cons_succ])
        (refine hd_take (i := 17) (oi := ?oi651) (v := ?v651) ?hi651 (by kernel_rfl) (by kernel_rfl) (by kernel_rfl) (by kernel_rfl) (by decide) ?hq651 ?hw651 ?hy651 hHeld ?hr651; (case hi651 => (simp only [List.getElem?_toArray, List.getElem?_cons_succ, List.getElem?_cons_zero]; rfl)); (case hw651 => rfl); (case hy651 => (intro w hSw; go_simp; try with_reducible rfl)); (case hq651 => exact fun _ _ _ h => h); simp only [Act.put, List.setIfInBounds_toArray, List.set_cons_zero, List.set_cons_succ])
        (refine hd_take (i := 18) (oi := ?oi653) (v := ?v653) ?hi653 (by kernel_rfl) (by kernel_rfl) (by kernel_rfl) (by kernel_rfl) (by decide) ?hq653 ?hw653 ?hy653 hHeld ?hr653; (case hi653 => (simp only [List.getElem?_toArray, List.getElem?_cons_succ, List.getElem?_cons_zero]; rfl)); (case hw653 => rfl); (case hy653 => (intro w hSw; go_simp; try with_reducible rfl)); (case hq653 => exact fun _ _ _ h => h); simp only [Act.put, List.setIfInBounds_toArray, List.set_cons_zero, List.set_cons_succ])
        (refine hd_take (i := 19) (oi := ?oi655) (v := ?v655) ?hi655 (by kernel_rfl) (by kernel_rfl) (by kernel_rfl) (by kernel_rfl) (by decide) ?hq655 ?hw655 ?hy655 hHeld ?hr655; (case hi655 => (simp only [List.getElem?_toArray, List.getElem?_cons_succ, List.getElem?_cons_zero]; rfl)); (case hw655 => rfl); (case hy655 => (intro w hSw; go_simp; try with_reducible rfl)); (case hq655 => exact fun _ _ _ h => h); simp only [Act.put, List.setIfInBounds_toArray, List.set_cons_zero, List.set_cons_succ])
        (refine hd_take (i := 20) (oi := ?oi657) (v := ?v657) ?hi657 (by kernel_rfl) (by kernel_rfl) (by kernel_rfl) (by kernel_rfl) (by decide) ?hq657 ?hw657 ?hy657 hHeld ?hr657; (case hi657 => (simp only [List.getElem?_toArray, List.getElem?_cons_succ, List.getElem?_cons_zero]; rfl)); (case hw657 => rfl); (case hy657 => (intro w hSw; go_simp; try with_reducible rfl)); (case hq657 => exact fun _ _ _ h => h); simp only [Act.put, List.setIfInBounds_toArray, List.set_cons_zero, List.set_cons_succ])
        (refine hd_take (i := 21) (oi := ?oi659) (v := ?v659) ?hi659 (by kernel_rfl) (by kernel_rfl) (by kernel_rfl) (by kernel_rfl) (by decide) ?hq659 ?hw659 ?hy659 hHeld ?hr659; (case hi659 => (simp only [List.getElem?_toArray, List.getElem?_cons_succ, List.getElem?_cons_zero]; rfl)); (case hw659 => rfl); (case hy659 => (intro w hSw; go_simp; try with_reducible rfl)); (case hq659 => exact fun _ _ _ h => h); simp only [Act.put, List.setIfInBounds_toArray, List.set_cons_zero, List.set_cons_succ])
        (refine hd_take (i := 22) (oi := ?oi661) (v := ?v661) ?hi661 (by kernel_rfl) (by kernel_rfl) (by kernel_rfl) (by kernel_rfl) (by decide) ?hq661 ?hw661 ?hy661 hHeld ?hr661; (case hi661 => (simp only [List.getElem?_toArray, List.getElem?_cons_succ, List.getElem?_cons_zero]; rfl)); (case hw661 => rfl); (case hy661 => (intro w hSw; go_simp; try with_reducible rfl)); (case hq661 => exact fun _ _ _ h => h); simp only [Act.put, List.setIfInBounds_toArray, List.set_cons_zero, List.set_cons_succ])
        (refine hd_take (i := 23) (oi := ?oi663) (v := ?v663) ?hi663 (by kernel_rfl) (by kernel_rfl) (by kernel_rfl) (by kernel_rfl) (by decide) ?hq663 ?hw663 ?hy663 hHeld ?hr663; (case hi663 => (simp only [List.getElem?_toArray, List.getElem?_cons_succ, List.getElem?_cons_zero]; rfl)); (case hw663 => rfl); (case hy663 => (intro w hSw; go_simp; try with_reducible rfl)); (case hq663 => exact fun _ _ _ h => h); simp only [Act.put, List.setIfInBounds_toArray, List.set_cons_zero, List.set_cons_succ])
        (refine hd_take (i := 24) (oi := ?oi665) (v := ?v665) ?hi665 (by kernel_rfl) (by kernel_rfl) (by kernel_rfl) (by kernel_rfl) (by decide) ?hq665 ?hw665 ?hy665 hHeld ?hr665; (case hi665 => (simp only [List.getElem?_toArray, List.getElem?_cons_succ, List.getElem?_cons_zero]; rfl)); (case hw665 => rfl); (case hy665 => (intro w hSw; go_simp; try with_reducible rfl)); (case hq665 => exact fun _ _ _ h => h); simp only [Act.put, List.setIfInBounds_toArray, List.set_cons_zero, List.set_cons_succ])
        (refine hd_take (i := 25) (oi := ?oi667) (v := ?v667) ?hi667 (by kernel_rfl) (by kernel_rfl) (by kernel_rfl) (by kernel_rfl) (by decide) ?hq667 ?hw667 ?hy667 hHeld ?hr667; (case hi667 => (simp only [List.getElem?_toArray, List.getElem?_cons_succ, List.getElem?_cons_zero]; rfl)); (case hw667 => rfl); (case hy667 => (intro w hSw; go_simp; try with_reducible rfl)); (case hq667 => exact fun _ _ _ h => h); simp only [Act.put, List.setIfInBounds_toArray, List.set_cons_zero, List.set_cons_succ])
        (refine hd_take (i := 26) (oi := ?oi669) (v := ?v669) ?hi669 (by kernel_rfl) (by kernel_rfl) (by kernel_rfl) (by kernel_rfl) (by decide) ?hq669 ?hw669 ?hy669 hHeld ?hr669; (case hi669 => (simp only [List.getElem?_toArray, List.getElem?_cons_succ, List.getElem?_cons_zero]; rfl)); (case hw669 => rfl); (case hy669 => (intro w hSw; go_simp; try with_reducible rfl)); (case hq669 => exact fun _ _ _ h => h); simp only [Act.put, List.setIfInBounds_toArray, List.set_cons_zero, List.set_cons_succ])
        (refine hd_one (i := 27) (oi := ?oi671) ?hi671 (by kernel_rfl) (by decide) ?hr671; (case hi671 => (simp only [List.getElem?_toArray, List.getElem?_cons_succ, List.getElem?_cons_zero]; rfl)); intro K hK)
        go_simp
        refine (EQ.out _ hHeld).mono ?_
        rintro e w7 ⟨rfl, hb7⟩
        go_simp
        (refine hK.out _ _ ?hS673 (fun hHeld => ?hr673); (case hS673 => exact hbT hHeld hb7); clear hK K; try simp only [Act.put, List.setIfInBounds_toArray, List.set_cons_zero, List.set_cons_succ])
        (refine hd_take (i := 28) (oi := ?oi674) (v := ?v674) ?hi674 (by kernel_rfl) (by kernel_rfl) (by kernel_rfl) (by kernel_rfl) (by decide) ?hq674 ?hw674 ?hy674 hHeld ?hr674; (case hi674 => (simp only [List.getElem?_toArray, List.getElem?_cons_succ, List.getElem?_cons_zero]; rfl)); (case hw674 => rfl); (case hy674 => (intro w hSw; go_simp; try with_reducible rfl)); (case hq674 => exact fun _ _ _ h => h); simp only [Act.put, List.setIfInBounds_toArray, List.set_cons_zero, List.set_cons_succ])
        (refine hd_done (by kernel_rfl) ?_; simp only [List.drop_succ_cons, List.drop_zero])
        have HH := Aside0.mk hHeld
        clear hHeld k0 k1 k2 k3 k4 k5 k6 k7 k8 k9 k10 k11
        have HMk := Aside0.mk (HM5.out.below HH.out)
        go_upto_region 4 with (at_mapUpdate; refine wp_updB rfl _ _ _ rfl rfl HMk.out i k rfl (r) rfl ?_; intro w8 hM8 hG8; have HM8 := Aside0.mk hM8; have HG8 := Aside0.mk hG8; clear hM8 hG8)
        rw [← HSV.out] at HM8
        generalize hm2 : mset ms ((i : Int), (k : Int)) (sameV ms s t) = ms2 at *
        have HMs := Aside0.mk hm2
        clear hm2
        have HF8 := Aside0.mk (Fr2.grownA (a := bs) (b := ba) (Fr2.of (hbT HW5.out HH.out)) HG8.out)
        have p0 := one_cell ((HF8.out.block _ (blk_lt G0.out) (by omega) (by omega)).trans G0.out)
        obtain ⟨c0, c1, c2', c3'⟩ := cmp_cells ((HF8.out.block _ (blk_lt HCW.out) hcs hca).trans HCW.out)
        have HB58 := Aside0.mk (Fr2.grownA (a := bs) (b := ba) (Fr2.of HH.out) HG8.out)
        obtain ⟨s0, s1, s2, s3⟩ := pt_cells ((HB58.out.block _ (blk_lt HS5.out) (by omega) (by omega)).trans HS5.out)
        obtain ⟨t0, t1, t2, t3⟩ := pt_cells ((HB58.out.block _ (blk_lt HT5.out) (by omega) (by omega)).trans HT5.out)
        obtain ⟨n0, n1⟩ := pair_cells ((HB58.out.block _ (blk_lt HN5.out) (by omega) (by omega)).trans HN5.out)
        have HC8 := Aside0.mk ((HF8.out.block _ (blk_lt HCW.out) hcs hca).trans HCW.out)
        have HMA8 := Aside0.mk ((HMA5.out.below HH.out).grown HG8.out (Ne.symm hne))
        have HI8 := Aside0.mk (Kd.F_grown (Kd.F_below HFI.out (hbT HW5.out HH.out)) HG8.out (fun j hj => fun e => HOP.out j hj (by injection e)))
        have HJ8 := Aside0.mk (Kd.F_grown (Kd.F_below HGI.out (hbT HW5.out HH.out)) HG8.out (fun j hj => fun e => HOQ.out j hj (by injection e)))
        have k0 := fun (w' : World) (h : Below w8.heap.size w8 w') => oldc h p0
        have k1 := fun (w' : World) (h : Below w8.heap.size w8 w') => oldc h c3'
        have k2 := fun (w' : World) (h : Below w8.heap.size w8 w') => oldc h s0
        have k3 := fun (w' : World) (h : Below w8.heap.size w8 w') => oldc h s1
        have k4 := fun (w' : World) (h : Below w8.heap.size w8 w') => oldc h s2
        have k5 := fun (w' : World) (h : Below w8.heap.size w8 w') => oldc h s3
        have k6 := fun (w' : World) (h : Below w8.heap.size w8 w') => oldc h t0
        have k7 := fun (w' : World) (h : Below w8.heap.size w8 w') => oldc h t1
        have k8 := fun (w' : World) (h : Below w8.heap.size w8 w') => oldc h t2
        have k9 := fun (w' : World) (h : Below w8.heap.size w8 w') => oldc h t3
        have k10 := fun (w' : World) (h : Below w8.heap.size w8 w') => oldc h n0
        have k11 := fun (w' : World) (h : Below w8.heap.size w8 w') => oldc h n1
        clear p0 c0 c1 c2' c3' s0 s1 s2 s3 t0 t1 t2 t3 n0 n1
        refine hd_region 11 1 (fun w' => Below w8.heap.size w8 w') (by kernel_rfl) rfl ?_ (fun _ h => h)
        intro W6' hb6 hz6 hHeld
        clear hb6 hz6
        (refine hd_take (i := 0) (oi := ?oi677) (v := ?v677) ?hi677 (by kernel_rfl) (by kernel_rfl) (by kernel_rfl) (by kernel_rfl) (by decide) ?hq677 ?hw677 ?hy677 hHeld ?hr677; (case hi677 => (simp only [List.getElem?_toArray, List.getElem?_cons_succ, List.getElem?_cons_zero]; rfl)); (case hw677 => rfl); (case hy677 => (intro w hSw; go_simp; try with_reducible rfl)); (case hq677 => exact fun _ _ _ h => h); simp only [Act.put, List.setIfInBounds_toArray, List.set_cons_zero, List.set_cons_succ])
        (refine hd_take (i := 1) (oi := ?oi679) (v := ?v679) ?hi679 (by kernel_rfl) (by kernel_rfl) (by kernel_rfl) (by kernel_rfl) (by decide) ?hq679 ?hw679 ?hy679 hHeld ?hr679; (case hi679 => (simp only [List.getElem?_toArray, List.getElem?_cons_succ, List.getElem?_cons_zero]; rfl)); (case hw679 => rfl); (case hy679 => (intro w hSw; go_simp; try with_reducible rfl)); (case hq679 => exact fun _ _ _ h => h); simp only [Act.put, List.setIfInBounds_toArray, List.set_cons_zero, List.set_cons_succ])
        (refine hd_take (i := 2) (oi := ?oi681) (v := ?v681) ?hi681 (by kernel_rfl) (by kernel_rfl) (by kernel_rfl) (by kernel_rfl) (by decide) ?hq681 ?hw681 ?hy681 hHeld ?hr681; (case hi681 => (simp only [List.getElem?_toArray, List.getElem?_cons_succ, List.getElem?_cons_zero]; rfl)); (case hw681 => rfl); (case hy681 => (intro w hSw; go_simp; try with_reducible rfl)); (case hq681 => exact fun _ _ _ h => h); simp only [Act.put, List.setIfInBounds_toArray, List.set_cons_zero, List.set_cons_succ])
        (refine hd_take (i := 3) (oi := ?oi683) (v := ?v683) ?hi683 (by kernel_rfl) (by kernel_rfl) (by kernel_rfl) (by kernel_rfl) (by decide) ?hq683 ?hw683 ?hy683 hHeld ?hr683; (case hi683 => (simp only [List.getElem?_toArray, List.getElem?_cons_succ, List.getElem?_cons_zero]; rfl)); (case hw683 => rfl); (case hy683 => (intro w hSw; go_simp; try with_reducible rfl)); (case hq683 => exact fun _ _ _ h => h); simp only [Act.put, List.setIfInBounds_toArray, List.set_cons_zero, List.set_cons_succ])
        (refine hd_take (i := 4) (oi := ?oi685) (v := ?v685) ?hi685 (by kernel_rfl) (by kernel_rfl) (by kernel_rfl) (by kernel_rfl) (by decide) ?hq685 ?hw685 ?hy685 hHeld ?hr685; (case hi685 => (simp only [List.getElem?_toArray, List.getElem?_cons_succ, List.getElem?_cons_zero]; rfl)); (case hw685 => rfl); (case hy685 => (intro w hSw; go_simp; try with_reducible rfl)); (case hq685 => exact fun _ _ _ h => h); simp only [Act.put, List.setIfInBounds_toArray, List.set_cons_zero, List.set_cons_succ])
        (refine hd_take (i := 5) (oi := ?oi687) (v := ?v687) ?hi687 (by kernel_rfl) (by kernel_rfl) (by kernel_rfl) (by kernel_rfl) (by decide) ?hq687 ?hw687 ?hy687 hHeld ?hr687; (case hi687 => (simp only [List.getElem?_toArray, List.getElem?_cons_succ, List.getElem?_cons_zero]; rfl)); (case hw687 => rfl); (case hy687 => (intro w hSw; go_simp; try with_reducible rfl)); (case hq687 => exact fun _ _ _ h => h); simp only [Act.put, List.setIfInBounds_toArray, List.set_cons_zero, List.set_cons_succ])
        (refine hd_take (i := 6) (oi := ?oi689) (v := ?v689) ?hi689 (by kernel_rfl) (by kernel_rfl) (by kernel_rfl) (by kernel_rfl) (by decide) ?hq689 ?hw689 ?hy689 hHeld ?hr689; (case hi689 => (simp only [List.getElem?_toArray, List.getElem?_cons_succ, List.getElem?_cons_zero]; rfl)); (case hw689 => rfl); (case hy689 => (intro w hSw; go_simp; try with_reducible rfl)); (case hq689 => exact fun _ _ _ h => h); simp only [Act.put, List.setIfInBounds_toArray, List.set_cons_zero, List.set_cons_succ])
        (refine hd_take (i := 7) (oi := ?oi691) (v := ?v691) ?hi691 (by kernel_rfl) (by kernel_rfl) (by kernel_rfl) (by kernel_rfl) (by decide) ?hq691 ?hw691 ?hy691 hHeld ?hr691; (case hi691 => (simp only [List.getElem?_toArray, List.getElem?_cons_succ, List.getElem?_cons_zero]; rfl)); (case hw691 => rfl); (case hy691 => (intro w hSw; go_simp; try with_reducible rfl)); (case hq691 => exact fun _ _ _ h => h); simp only [Act.put, List.setIfInBounds_toArray, List.set_cons_zero, List.set_cons_succ])
        (refine hd_take (i := 8) (oi := ?oi693) (v := ?v693) ?hi693 (by kernel_rfl) (by kernel_rfl) (by kernel_rfl) (by kernel_rfl) (by decide) ?hq693 ?hw693 ?hy693 hHeld ?hr693; (case hi693 => (simp only [List.getElem?_toArray, List.getElem?_cons_succ, List.getElem?_cons_zero]; rfl)); (case hw693 => rfl); (case hy693 => (intro w hSw; go_simp; try with_reducible rfl)); (case hq693 => exact fun _ _ _ h => h); simp only [Act.put, List.setIfInBounds_toArray, List.set_cons_zero, List.set_cons_succ])
        (refine hd_take (i := 9) (oi := ?oi695) (v := ?v695) ?hi695 (by kernel_rfl) (by kernel_rfl) (by kernel_rfl) (by kernel_rfl) (by decide) ?hq695 ?hw695 ?hy695 hHeld ?hr695; (case hi695 => (simp only [List.getElem?_toArray, List.getElem?_cons_succ, List.getElem?_cons_zero]; rfl)); (case hw695 => rfl); (case hy695 => (intro w hSw; go_simp; try with_reducible rfl)); (case hq695 => exact fun _ _ _ h => h); simp only [Act.put, List.setIfInBounds_toArray, List.set_cons_zero, List.set_cons_succ])
        (refine hd_one (i := 10) (oi := ?oi697) ?hi697 (by kernel_rfl) (by decide) ?hr697; (case hi697 => (simp only [List.getElem?_toArray, List.getElem?_cons_succ, List.getElem?_cons_zero]; rfl)); intro K hK)
        go_simp
        have GR := Aside0.mk (greaterM_any s t i k A2 A3 B2 B3 c2 c3 d2 d3 bc (some ad) (some bd) P.length Q.length c d bs ba ms2 ma W6' ((hHeld.block _ (blk_lt HC8.out)).trans HC8.out) (HM8.out.below hHeld) (HMA8.out.below hHeld) (Kd.F_now (Kd.F_below HI8.out hHeld)) (Kd.F_now (Kd.F_below HJ8.out hHeld)) HLN.out)
        skip
        refine GR.out.mono ?_
        rintro e w10 ⟨rfl, hb10⟩
        go_simp
        (refine hK.out _ _ ?hS699 (fun hHeld => ?hr699); (case hS699 => exact hbT hHeld hb10); clear hK K; try simp only [Act.put, List.setIfInBounds_toArray, List.set_cons_zero, List.set_cons_succ])
        (refine hd_done (by kernel_rfl) ?_; simp only [List.drop_succ_cons, List.drop_zero])
        have HH8 := Aside0.mk hHeld
        clear hHeld k0 k1 k2 k3 k4 k5 k6 k7 k8 k9 k10 k11
        have HMA10 := Aside0.mk (HMA8.out.below HH8.out)
        have HM10 := Aside0.mk (HM8.out.below HH8.out)
        go_wp2_with (at_mapUpdate; refine wp_updB rfl _ _ _ rfl rfl HMA10.out i k rfl (grB ms2 ma s t i k) rfl ?_; intro w11 hM11 hG11; have HM11 := Aside0.mk hM11; have HG11 := Aside0.mk hG11; clear hM11 hG11)
        refine bodyPost_end (results_none rfl _ _ _) rfl ?_
        refine ⟨rfl, ?_⟩
        rw [HSs.out, HTt.out, HMs.out]
        exact ⟨HM10.out.grown HG11.out hne, HM11.out, (Fr2.of HB.out).trans ((HF8.out.trans (Fr2.of HH8.out)).grownB HG11.out)⟩
end Go.Proofs.Ytcgnpmjkeifokaa
-- KLpo
/- The order of terms, xs a plain function, and that it is an order: irreflexive, transitive, stable, monotonous, total where no variables are. -/
namespace Go.Proofs.Ytcgnpmjkeifokaa
open Go.RowKit Go.Proofs.YtcgnpmjkeifokaaW.PrintWords
set_option linter.unusedVariables false
set_option linter.unusedSimpArgs false
def lexG (p : Tm → Tm → Bool) : List Tm → List Tm → Bool
  | a :: xs, b :: ys => if eqT a b = true then lexG p xs ys else p a b
  | _, _ => false
def gtF : Nat → Tm → Tm → Bool
  | 0, _, _ => false
  | n + 1, s, t => if 0 < s.f0 then false else if s.f2.any (fun a => eqT a t || gtF n a t) = true then true
      else if 0 < t.f0 ∨ s.f1 < t.f1 ∨ t.f2.any (fun b => !gtF n s b) = true then false
      else if t.f1 < s.f1 then true else lexG (gtF n) s.f2 t.f2
def gtB (s t : Tm) : Bool := gtF (szT s + szT t) s t
theorem any_cg2 {p q : Tm → Bool} : ∀ {c : List Tm}, (∀ l ∈ c, p l = q l) → c.any p = c.any q
  | [], _ => rfl
  | l :: c, h => by rw [List.any_cons, List.any_cons, h l (by simp), any_cg2 (fun x hx => h x (by simp [hx]))]
theorem lexG_cg {p q : Tm → Tm → Bool} : ∀ {xs ys : List Tm}, (∀ a ∈ xs, ∀ b ∈ ys, p a b = q a b) → lexG p xs ys = lexG q xs ys
  | [], _, _ => by simp [lexG]
  | _ :: _, [], _ => by simp [lexG]
  | a :: xs, b :: ys, h => by
    rw [lexG, lexG, h a (by simp) b (by simp), lexG_cg (fun x hx y hy => h x (by simp [hx]) y (by simp [hy]))]
theorem gtF_fuel : ∀ (n m : Nat) (s t : Tm), szT s + szT t ≤ n → szT s + szT t ≤ m → gtF n s t = gtF m s t
  | 0, _, s, t, h, _ => by have := szT_pos s; omega
  | _ + 1, 0, s, t, _, h => by have := szT_pos s; omega
  | n + 1, m + 1, s, t, h, k => by
    have hs := szT_eq s
    have ht := szT_eq t
    rw [gtF, gtF]
    rw [any_cg2 (p := fun a => eqT a t || gtF n a t) (q := fun a => eqT a t || gtF m a t) (fun a ha => by
      have := szT_mem ha
      rw [gtF_fuel n m a t (by omega) (by omega)])]
    rw [any_cg2 (p := fun b => !gtF n s b) (q := fun b => !gtF m s b) (fun b hb => by
      have := szT_mem hb
      rw [gtF_fuel n m s b (by omega) (by omega)])]
    rw [lexG_cg (p := gtF n) (q := gtF m) (fun a ha b hb => by
      have := szT_mem ha
      have := szT_mem hb
      exact gtF_fuel n m a b (by omega) (by omega))]
theorem gtB_eq (s t : Tm) : gtB s t = if 0 < s.f0 then false else if s.f2.any (fun a => eqT a t || gtB a t) = true then true
      else if 0 < t.f0 ∨ s.f1 < t.f1 ∨ t.f2.any (fun b => !gtB s b) = true then false
      else if t.f1 < s.f1 then true else lexG gtB s.f2 t.f2 := by
  have hs := szT_eq s
  have ht := szT_eq t
  have h : gtB s t = gtF (szT s + szT t - 1 + 1) s t := gtF_fuel _ _ s t (Nat.le_refl _) (by omega)
  rw [h, gtF]
  rw [any_cg2 (p := fun a => eqT a t || gtF (szT s + szT t - 1) a t) (q := fun a => eqT a t || gtB a t) (fun a ha => by
    have := szT_mem ha
    rw [gtB, gtF_fuel _ (szT a + szT t) a t (by omega) (Nat.le_refl _)])]
  rw [any_cg2 (p := fun b => !gtF (szT s + szT t - 1) s b) (q := fun b => !gtB s b) (fun b hb => by
    have := szT_mem hb
    rw [gtB, gtF_fuel _ (szT s + szT b) s b (by omega) (Nat.le_refl _)])]
  rw [lexG_cg (p := gtF (szT s + szT t - 1)) (q := gtB) (fun a ha b hb => by
    have := szT_mem ha
    have := szT_mem hb
    rw [gtB]
    exact gtF_fuel _ _ a b (by omega) (Nat.le_refl _))]
/-- The same root, told in words. -/
def RootG (s t : Tm) : Prop := ¬ 0 < t.f0 ∧ (∀ b ∈ t.f2, gtB s b = true) ∧ (t.f1 < s.f1 ∨ (t.f1 = s.f1 ∧ lexG gtB s.f2 t.f2 = true))
theorem gt_iff (s t : Tm) : gtB s t = true ↔ ¬ 0 < s.f0 ∧ ((∃ a ∈ s.f2, a = t ∨ gtB a t = true) ∨ RootG s t) := by
  rw [gtB_eq]
  by_cases h0 : 0 < s.f0
  · rw [if_pos h0]; simp [h0]
  · rw [if_neg h0]
    have e1 : (s.f2.any (fun a => eqT a t || gtB a t) = true) ↔ ∃ a ∈ s.f2, a = t ∨ gtB a t = true := by
      rw [List.any_eq_true]
      constructor
      · rintro ⟨a, ha, h⟩; rw [Bool.or_eq_true, eqT_iff] at h; exact ⟨a, ha, h⟩
      · rintro ⟨a, ha, h⟩; exact ⟨a, ha, by rw [Bool.or_eq_true, eqT_iff]; exact h⟩
    by_cases h1 : s.f2.any (fun a => eqT a t || gtB a t) = true
    · rw [if_pos h1]
      exact ⟨fun _ => ⟨h0, .inl (e1.1 h1)⟩, fun _ => rfl⟩
    · rw [if_neg h1]
      have e2 : (t.f2.any (fun b => !gtB s b) = true) ↔ ¬ ∀ b ∈ t.f2, gtB s b = true := by
        rw [List.any_eq_true]
        constructor
        · rintro ⟨b, hb, h⟩ h2; rw [h2 b hb] at h; cases h
        · intro h
          refine Classical.byContradiction fun h2 => h fun b hb => ?_
          cases hg : gtB s b with
          | true => rfl
          | false => exact absurd ⟨b, hb, by rw [hg]; rfl⟩ h2
      by_cases h2 : 0 < t.f0 ∨ s.f1 < t.f1 ∨ t.f2.any (fun b => !gtB s b) = true
      · rw [if_pos h2]
        refine ⟨fun h => (by cases h), fun ⟨_, h⟩ => ?_⟩
        rcases h with h | ⟨k0, k1, k2⟩
        · exact absurd (e1.2 h) h1
        · exfalso
          rcases h2 with h2 | h2 | h2
          · exact k0 h2
          · omega
          · exact e2.1 h2 k1
      · rw [if_neg h2]
        have k0 : ¬ 0 < t.f0 := fun h => h2 (.inl h)
        have k1 : ∀ b ∈ t.f2, gtB s b = true := Classical.byContradiction fun h => h2 (.inr (.inr (e2.2 h)))
        have k2 : ¬ s.f1 < t.f1 := fun h => h2 (.inr (.inl h))
        by_cases h3 : t.f1 < s.f1
        · rw [if_pos h3]
          exact ⟨fun _ => ⟨h0, .inr ⟨k0, k1, .inl h3⟩⟩, fun _ => rfl⟩
        · rw [if_neg h3]
          constructor
          · intro h; exact ⟨h0, .inr ⟨k0, k1, .inr ⟨by omega, h⟩⟩⟩
          · rintro ⟨_, h⟩
            rcases h with h | ⟨_, _, h⟩
            · exact absurd (e1.2 h) h1
            · rcases h with h | h
              · exact absurd h h3
              · exact h.2
/-- What stands in a term is less. -/
theorem gt_arg {s a : Tm} (h0 : ¬ 0 < s.f0) (ha : a ∈ s.f2) : gtB s a = true := (gt_iff s a).2 ⟨h0, .inl ⟨a, ha, .inl rfl⟩⟩
theorem gt_in {s a t : Tm} (h0 : ¬ 0 < s.f0) (ha : a ∈ s.f2) (h : gtB a t = true) : gtB s t = true := (gt_iff s t).2 ⟨h0, .inl ⟨a, ha, .inr h⟩⟩
theorem gt_sub : ∀ (n : Nat) (b a x : Tm), szT b ≤ n → gtB b a = true → ¬ 0 < a.f0 → x ∈ a.f2 → gtB b x = true
  | 0, b, _, _, h, _, _, _ => by have := szT_pos b; omega
  | n + 1, b, a, x, hn, h, ha, hx => by
    obtain ⟨h0, h1⟩ := (gt_iff b a).1 h
    rcases h1 with ⟨y, hy, h2⟩ | ⟨_, k1, _⟩
    · have hs := szT_eq b
      have hm := szT_mem hy
      rcases h2 with rfl | h2
      · exact gt_in h0 hy (gt_arg ha hx)
      · exact gt_in h0 hy (gt_sub n y a x (by omega) h2 ha hx)
    · exact k1 x hx
theorem lex_two {p : Tm → Tm → Bool} : ∀ {xs ys : List Tm}, lexG p xs ys = true → lexG p ys xs = true → ∃ a ∈ xs, ∃ b ∈ ys, p a b = true ∧ p b a = true
  | [], _, h, _ => by simp [lexG] at h
  | _ :: _, [], h, _ => by simp [lexG] at h
  | a :: xs, b :: ys, h, k => by
    rw [lexG] at h k
    by_cases e : eqT a b = true
    · rw [if_pos e] at h
      rw [eqT_comm, if_pos e] at k
      obtain ⟨x, hx, y, hy, h2⟩ := lex_two h k
      exact ⟨x, by simp [hx], y, by simp [hy], h2⟩
    · rw [if_neg e] at h
      rw [eqT_comm, if_neg e] at k
      exact ⟨a, by simp, b, by simp, h, k⟩
theorem gt_asymN : ∀ (n : Nat) (a b : Tm), szT a + szT b ≤ n → gtB a b = true → gtB b a = true → False
  | 0, a, _, h, _, _ => by have := szT_pos a; omega
  | n + 1, a, b, hn, h, k => by
    obtain ⟨a0, h1⟩ := (gt_iff a b).1 h
    obtain ⟨b0, k1⟩ := (gt_iff b a).1 k
    have ha := szT_eq a
    have hb := szT_eq b
    rcases h1 with ⟨x, hx, h2⟩ | h2
    · have hm := szT_mem hx
      have hbx := gt_sub (szT b) b a x (Nat.le_refl _) k a0 hx
      rcases h2 with rfl | h2
      · exact gt_asymN n x x (by omega) hbx hbx
      · exact gt_asymN n x b (by omega) h2 hbx
    · rcases k1 with ⟨y, hy, k2⟩ | k2
      · have hm := szT_mem hy
        have hay := gt_sub (szT a) a b y (Nat.le_refl _) h b0 hy
        rcases k2 with rfl | k2
        · exact gt_asymN n y y (by omega) hay hay
        · exact gt_asymN n y a (by omega) k2 hay
      · obtain ⟨_, _, h3⟩ := h2
        obtain ⟨_, _, k3⟩ := k2
        rcases h3 with h3 | ⟨e, h3⟩
        · rcases k3 with k3 | ⟨e, _⟩ <;> omega
        · rcases k3 with k3 | ⟨_, k3⟩
          · omega
          · obtain ⟨x, hx, y, hy, p, q⟩ := lex_two h3 k3
            have := szT_mem hx
            have := szT_mem hy
            exact gt_asymN n x y (by omega) p q
theorem gt_asym {a b : Tm} (h : gtB a b = true) : gtB b a = false := by
  cases k : gtB b a with
  | false => rfl
  | true => exact (gt_asymN _ a b (Nat.le_refl _) h k).elim
theorem gt_irr (a : Tm) : gtB a a = false := by
  cases h : gtB a a with
  | false => rfl
  | true => rw [← h]; exact gt_asym h
theorem gt_ne {a b : Tm} (h : gtB a b = true) : a ≠ b := by rintro rfl; rw [gt_irr] at h; cases h
theorem lex_trans {p : Tm → Tm → Bool} : ∀ {xs ys zs : List Tm}, (∀ a ∈ xs, ∀ b ∈ ys, ∀ c ∈ zs, p a b = true → p b c = true → p a c = true ∧ a ≠ c) → lexG p xs ys = true → lexG p ys zs = true → lexG p xs zs = true
  | [], _, _, _, h, _ => by simp [lexG] at h
  | _ :: _, [], _, _, h, _ => by simp [lexG] at h
  | _ :: _, _ :: _, [], _, _, k => by simp [lexG] at k
  | a :: xs, b :: ys, c :: zs, ht, h, k => by
    rw [lexG] at h k ⊢
    by_cases e : eqT a b = true
    · rw [if_pos e] at h
      rw [eqT_iff] at e
      subst e
      by_cases e2 : eqT a c = true
      · rw [if_pos e2] at k ⊢
        exact lex_trans (fun x hx y hy z hz => ht x (by simp [hx]) y (by simp [hy]) z (by simp [hz])) h k
      · rw [if_neg e2] at k ⊢; exact k
    · rw [if_neg e] at h
      by_cases e2 : eqT b c = true
      · rw [eqT_iff] at e2
        subst e2
        rw [if_neg e]; exact h
      · rw [if_neg e2] at k
        obtain ⟨h1, h2⟩ := ht a (by simp) b (by simp) c (by simp) h k
        rw [if_neg (fun e3 => h2 ((eqT_iff _ _).1 e3))]
        exact h1
theorem gt_transN : ∀ (n : Nat) (s t u : Tm), szT s + szT t + szT u ≤ n → gtB s t = true → gtB t u = true → gtB s u = true
  | 0, s, _, _, h, _, _ => by have := szT_pos s; omega
  | n + 1, s, t, u, hn, h, k => by
    obtain ⟨s0, h1⟩ := (gt_iff s t).1 h
    obtain ⟨t0, k1⟩ := (gt_iff t u).1 k
    have hs := szT_eq s
    have ht := szT_eq t
    have hu := szT_eq u
    rcases h1 with ⟨x, hx, h2⟩ | ⟨_, h2, h3⟩
    · have hm := szT_mem hx
      rcases h2 with rfl | h2
      · exact gt_in s0 hx k
      · exact gt_in s0 hx (gt_transN n x t u (by omega) h2 k)
    · rcases k1 with ⟨y, hy, k2⟩ | ⟨u0, k2, k3⟩
      · have hm := szT_mem hy
        have hsy := h2 y hy
        rcases k2 with rfl | k2
        · exact hsy
        · exact gt_transN n s y u (by omega) hsy k2
      · refine (gt_iff s u).2 ⟨s0, .inr ⟨u0, fun z hz => ?_, ?_⟩⟩
        · have hm := szT_mem hz
          exact gt_transN n s t z (by omega) h (k2 z hz)
        · rcases h3 with h3 | ⟨e, h3⟩
          · rcases k3 with k3 | ⟨e2, _⟩
            · exact .inl (by omega)
            · exact .inl (by omega)
          · rcases k3 with k3 | ⟨e2, k3⟩
            · exact .inl (by omega)
            · refine .inr ⟨by omega, lex_trans (fun a ha b hb c hc p q => ?_) h3 k3⟩
              have := szT_mem ha
              have := szT_mem hb
              have := szT_mem hc
              refine ⟨gt_transN n a b c (by omega) p q, ?_⟩
              rintro rfl
              rw [gt_asym p] at q; cases q
theorem gt_trans {s t u : Tm} (h : gtB s t = true) (k : gtB t u = true) : gtB s u = true := gt_transN _ s t u (Nat.le_refl _) h k
/-- One argument made less makes it less. -/
theorem gt_mono {f v v' : Int} {a b : Tm} (pre post : List Tm) (hv : ¬ 0 < v) (hv' : ¬ 0 < v') (h : gtB a b = true) : gtB ⟨v, f, pre ++ a :: post⟩ ⟨v', f, pre ++ b :: post⟩ = true := by
  have hs : ∀ x ∈ pre ++ a :: post, gtB ⟨v, f, pre ++ a :: post⟩ x = true := fun x hx => gt_arg (s := ⟨v, f, pre ++ a :: post⟩) hv hx
  refine (gt_iff _ _).2 ⟨hv, .inr ⟨hv', fun x hx => ?_, .inr ⟨rfl, ?_⟩⟩⟩
  · have hx' : x ∈ pre ++ b :: post := hx
    rw [List.mem_append, List.mem_cons] at hx'
    rcases hx' with hx' | rfl | hx'
    · exact hs x (by simp [hx'])
    · exact gt_trans (hs a (by simp)) h
    · exact hs x (by simp [hx'])
  · show lexG gtB (pre ++ a :: post) (pre ++ b :: post) = true
    clear hs
    induction pre with
    | nil =>
      show lexG gtB (a :: post) (b :: post) = true
      rw [lexG, if_neg (fun e => gt_ne h ((eqT_iff _ _).1 e))]; exact h
    | cons y pre ih =>
      show lexG gtB (y :: (pre ++ a :: post)) (y :: (pre ++ b :: post)) = true
      rw [lexG, if_pos (eqT_refl y)]; exact ih
/-! ### where no variables are, one of two is greater -/
def gndT (t : Tm) : Prop := ∀ x ∈ ptsT t, ¬ 0 < x.f0
end Go.Proofs.Ytcgnpmjkeifokaa
-- K94
/- What the comparer holds when all pairs before one were compared; plain laws. -/
namespace Go.Proofs.Ytcgnpmjkeifokaa
open Go.RowKit Go.Proofs.YtcgnpmjkeifokaaW.PrintWords
set_option linter.unusedVariables false
set_option linter.unusedSimpArgs false
/-! ### the numbers of arguments -/
def POk (P : List Pt) : Prop := ∀ i : Nat, i < P.length → (rd_Pt P i).f1.length = (rd_Pt P i).f0.f2.length ∧ ∀ n : Nat, n < (rd_Pt P i).f0.f2.length → ∃ a : Nat, (rd_Pt P i).f1.getD n 0 = (a : Int) ∧ a < i ∧ (rd_Pt P a).f0 = rd_Tm (rd_Pt P i).f0.f2 n
theorem rdPt_pre (xs ys : List Pt) (i : Nat) (h : i < xs.length) : rd_Pt (xs ++ ys) i = rd_Pt xs i := by
  rw [rdPt_get _ _ (by rw [List.length_append]; omega), rdPt_get _ _ h, List.getElem_append_left h]
theorem rdPt_last (xs : List Pt) (p : Pt) : rd_Pt (xs ++ [p]) xs.length = p := by
  rw [rdPt_get _ _ (by simp)]; simp
theorem POk_snoc {xs : List Pt} {p : Pt} (h : POk xs) (hl : p.f1.length = p.f0.f2.length) (ha : ∀ n : Nat, n < p.f0.f2.length → ∃ a : Nat, p.f1.getD n 0 = (a : Int) ∧ a < xs.length ∧ (rd_Pt xs a).f0 = rd_Tm p.f0.f2 n) : POk (xs ++ [p]) := by
  intro i hi
  rw [List.length_append, List.length_singleton] at hi
  by_cases e : i < xs.length
  · rw [rdPt_pre _ _ _ e]
    obtain ⟨h1, h2⟩ := h i e
    refine ⟨h1, fun n hn => ?_⟩
    obtain ⟨a, e1, e2, e3⟩ := h2 n hn
    exact ⟨a, e1, e2, by rw [rdPt_pre _ _ _ (by omega)]; exact e3⟩
  · obtain rfl : i = xs.length := by omega
    rw [rdPt_last]
    refine ⟨hl, fun n hn => ?_⟩
    obtain ⟨a, e1, e2, e3⟩ := ha n hn
    exact ⟨a, e1, e2, by rw [rdPt_pre _ _ _ e2]; exact e3⟩
theorem pr_ok (t : Tm) : ∀ xs, POk xs → POk (xs ++ prT xs.length t) ∧ (rd_Pt (xs ++ prT xs.length t) (xs.length + szT t - 1)).f0 = t := by
  refine Tm.rec (motive_1 := fun t => ∀ xs, POk xs → POk (xs ++ prT xs.length t) ∧ (rd_Pt (xs ++ prT xs.length t) (xs.length + szT t - 1)).f0 = t)
    (motive_2 := fun l => ∀ xs, POk xs → POk (xs ++ (prL xs.length l).1) ∧ ∀ n : Nat, n < l.length → ∃ a : Nat, (prL xs.length l).2.getD n 0 = (a : Int) ∧ a < xs.length + szL l ∧ (rd_Pt (xs ++ (prL xs.length l).1) a).f0 = rd_Tm l n) ?_ ?_ ?_ t
  · intro v f l ih xs hx
    obtain ⟨h1, h2⟩ := ih xs hx
    have hl := prL_len l xs.length
    rw [prT, ← List.append_assoc]
    refine ⟨POk_snoc h1 hl.2 (fun n hn => ?_), ?_⟩
    · obtain ⟨a, e1, e2, e3⟩ := h2 n hn
      exact ⟨a, e1, by rw [List.length_append, hl.1]; exact e2, e3⟩
    · have e : xs.length + szT ⟨v, f, l⟩ - 1 = (xs ++ (prL xs.length l).1).length := by rw [List.length_append, hl.1, szT]; omega
      rw [e, rdPt_last]
  · intro xs hx
    rw [prL, List.append_nil]
    exact ⟨hx, fun n hn => by simp at hn⟩
  · intro t ts h1 h2 xs hx
    obtain ⟨a1, a2⟩ := h1 xs hx
    have hyl : (xs ++ prT xs.length t).length = xs.length + (prT xs.length t).length := List.length_append
    obtain ⟨b1, b2⟩ := h2 (xs ++ prT xs.length t) a1
    have hsz := pr_len t xs.length
    have hp := szT_pos t
    rw [hyl] at b1 b2
    rw [prL]
    rw [← List.append_assoc]
    refine ⟨b1, fun n hn => ?_⟩
    cases n with
    | zero =>
      refine ⟨xs.length + szT t - 1, ?_, by rw [szL]; omega, ?_⟩
      · rw [List.getD_cons_zero, hsz]; omega
      · rw [rdPt_pre _ _ _ (by rw [hyl, hsz]; omega), a2]; rfl
    | succ n =>
      obtain ⟨a, e1, e2, e3⟩ := b2 n (by simpa using hn)
      refine ⟨a, by rw [List.getD_cons_succ]; exact e1, by rw [szL]; omega, ?_⟩
      rw [e3]
      unfold rd_Tm
      simp
theorem pr_all (t : Tm) : POk (prT 0 t) ∧ (rd_Pt (prT 0 t) (szT t - 1)).f0 = t := by
  have h := pr_ok t [] (fun i hi => by simp at hi)
  simpa using h
theorem pr_pts (t : Tm) : ∀ n, (prT n t).map (·.f0) = ptsT t := by
  refine Tm.rec (motive_1 := fun t => ∀ n, (prT n t).map (·.f0) = ptsT t) (motive_2 := fun l => ∀ n, (prL n l).1.map (·.f0) = ptsL l) ?_ ?_ ?_ t
  · intro v f l ih n; rw [prT, List.map_append, ih, ptsT]; rfl
  · intro n; rw [prL, ptsL]; rfl
  · intro t ts h1 h2 n; rw [prL, ptsL, List.map_append, h1, h2]
theorem pr_mem (t : Tm) (i : Nat) (h : i < (prT 0 t).length) : (rd_Pt (prT 0 t) i).f0 ∈ ptsT t := by
  rw [← pr_pts t 0, rdPt_get _ _ h]
  exact List.mem_map.2 ⟨_, List.getElem_mem h, rfl⟩
/-! ### what was compared -/
def DoneS (P Q : List Pt) (f : Tm → Tm → Bool) (m : List ((Int × Int) × Bool)) (i k : Nat) : Prop := ∀ i' k' : Nat, i' < P.length → k' < Q.length → (i' < i ∨ (i' = i ∧ k' < k)) → mgetB m ((i' : Int), (k' : Int)) = f (rd_Pt P i').f0 (rd_Pt Q k').f0
theorem mgetB_set (m : List ((Int × Int) × Bool)) (x y : Int × Int) (v : Bool) : mgetB (mset m x v) y = if x = y then v else mgetB m y := by
  unfold mgetB
  rw [mget_set]
  by_cases h : x = y
  · rw [if_pos h, if_pos h]; rfl
  · rw [if_neg h, if_neg h]
theorem DoneS.step {P Q : List Pt} {f : Tm → Tm → Bool} {m : List ((Int × Int) × Bool)} {i k : Nat} {v : Bool} (h : DoneS P Q f m i k) (hv : v = f (rd_Pt P i).f0 (rd_Pt Q k).f0) : DoneS P Q f (mset m ((i : Int), (k : Int)) v) i (k+1) := by
  intro i' k' hi hk ho
  rw [mgetB_set]
  by_cases e : ((i : Int), (k : Int)) = ((i' : Int), (k' : Int))
  · rw [if_pos e]
    injection e with e1 e2
    have e1 : i = i' := by omega
    have e2 : k = k' := by omega
    subst e1 e2
    exact hv
  · rw [if_neg e]
    refine h i' k' hi hk ?_
    rcases ho with ho | ⟨ho, hk2⟩
    · exact .inl ho
    · refine .inr ⟨ho, ?_⟩
      have : k' ≠ k := fun e2 => e (by rw [ho, e2])
      omega
theorem DoneS.next {P Q : List Pt} {f : Tm → Tm → Bool} {m : List ((Int × Int) × Bool)} {i : Nat} (h : DoneS P Q f m i Q.length) : DoneS P Q f m (i+1) 0 := by
  intro i' k' hi hk ho
  refine h i' k' hi hk ?_
  rcases ho with ho | ⟨_, hk2⟩
  · by_cases e : i' = i
    · exact .inr ⟨e, hk⟩
    · exact .inl (by omega)
  · omega
theorem eqF_cg {α α' β β' : Type} {p : α → β → Bool} {q : α' → β' → Bool} {d : α} {d' : β} {e : α'} {e' : β'} : ∀ {l : List α} {m : List α'} {l' : List β} {m' : List β'}, l.length = m.length → l'.length = m'.length → (∀ i j : Nat, i < l.length → j < l'.length → p (l.getD i d) (l'.getD j d') = q (m.getD i e) (m'.getD j e')) → eqF p l l' = eqF q m m'
  | [], [], [], [], _, _, _ => rfl
  | [], [], _ :: _, _ :: _, _, _, _ => rfl
  | _ :: _, _ :: _, [], [], _, _, _ => rfl
  | a :: l, b :: m, a' :: l', b' :: m', h1, h2, h => by
    rw [eqF, eqF, eqF_cg (l := l) (m := m) (l' := l') (m' := m') (by simpa using h1) (by simpa using h2) (fun i j hi hj => by
      have := h (i+1) (j+1) (by simpa using hi) (by simpa using hj)
      simpa using this)]
    have := h 0 0 (by simp) (by simp)
    simp only [List.getD_cons_zero] at this
    rw [this]
  | [], _ :: _, _, _, h, _, _ => by simp at h
  | _ :: _, [], _, _, h, _, _ => by simp at h
  | [], [], [], _ :: _, _, h, _ => by simp at h
  | [], [], _ :: _, [], _, h, _ => by simp at h
  | _ :: _, _ :: _, [], _ :: _, _, h, _ => by simp at h
  | _ :: _, _ :: _, _ :: _, [], _, h, _ => by simp at h
theorem any_cgD {α β : Type} {p : α → Bool} {q : β → Bool} {d : α} {e : β} : ∀ {l : List α} {m : List β}, l.length = m.length → (∀ i : Nat, i < l.length → p (l.getD i d) = q (m.getD i e)) → l.any p = m.any q
  | [], [], _, _ => rfl
  | a :: l, b :: m, h1, h => by
    rw [List.any_cons, List.any_cons, any_cgD (l := l) (m := m) (by simpa using h1) (fun i hi => by
      have := h (i+1) (by simpa using hi)
      simpa using this)]
    have := h 0 (by simp)
    simp only [List.getD_cons_zero] at this
    rw [this]
  | [], _ :: _, h, _ => by simp at h
  | _ :: _, [], h, _ => by simp at h
theorem lexM_cg {ms ma : List ((Int × Int) × Bool)} {d : Tm} : ∀ {l l' : List Int} {m m' : List Tm}, l.length = m.length → l'.length = m'.length → (∀ i j : Nat, i < l.length → j < l'.length → mgetB ms (l.getD i 0, l'.getD j 0) = eqT (m.getD i d) (m'.getD j d) ∧ mgetB ma (l.getD i 0, l'.getD j 0) = gtB (m.getD i d) (m'.getD j d)) → lexM ms ma l l' = lexG gtB m m'
  | [], _, [], _, _, _, _ => by simp [lexM, lexG]
  | _ :: _, [], _ :: _, [], _, _, _ => by simp [lexM, lexG]
  | a :: l, a' :: l', b :: m, b' :: m', h1, h2, h => by
    have h0 := h 0 0 (by simp) (by simp)
    simp only [List.getD_cons_zero] at h0
    rw [lexM, lexG, h0.1, h0.2, lexM_cg (l := l) (l' := l') (m := m) (m' := m') (by simpa using h1) (by simpa using h2) (fun i j hi hj => by
      have := h (i+1) (j+1) (by simpa using hi) (by simpa using hj)
      simpa using this)]
  | [], _, _ :: _, _, h, _, _ => by simp at h
  | _ :: _, _, [], _, h, _, _ => by simp at h
  | _ :: _, [], _ :: _, _ :: _, _, h, _ => by simp at h
  | _ :: _, _ :: _, _ :: _, [], _, h, _ => by simp at h
theorem rdTm_getD (l : List Tm) (n : Nat) : rd_Tm l n = l.getD n zTm := rfl
theorem done_same {P Q : List Pt} {ms : List ((Int × Int) × Bool)} {i k : Nat} (hP : POk P) (hQ : POk Q) (hi : i < P.length) (hk : k < Q.length) (h : DoneS P Q eqT ms i k) : sameV ms (rd_Pt P i) (rd_Pt Q k) = eqT (rd_Pt P i).f0 (rd_Pt Q k).f0 := by
  obtain ⟨p1, p2⟩ := hP i hi
  obtain ⟨q1, q2⟩ := hQ k hk
  unfold sameV
  rw [eqT_eq, ← eqF_eqT]
  rw [eqF_cg (d := 0) (d' := 0) (e := zTm) (e' := zTm) (q := eqT) p1 q1 (fun a b ha hb => by
    obtain ⟨x, e1, e2, e3⟩ := p2 a (by omega)
    obtain ⟨y, f1, f2, f3⟩ := q2 b (by omega)
    rw [e1, f1, ← rdTm_getD, ← rdTm_getD, ← e3, ← f3]
    exact h x y (by omega) (by omega) (.inl e2))]
theorem done_gr {P Q : List Pt} {ms ma : List ((Int × Int) × Bool)} {i k : Nat} (hP : POk P) (hQ : POk Q) (hi : i < P.length) (hk : k < Q.length) (h : DoneS P Q eqT ms i (k+1)) (h2 : DoneS P Q gtB ma i k) : grB ms ma (rd_Pt P i) (rd_Pt Q k) i k = gtB (rd_Pt P i).f0 (rd_Pt Q k).f0 := by
  obtain ⟨p1, p2⟩ := hP i hi
  obtain ⟨q1, q2⟩ := hQ k hk
  unfold grB
  rw [gtB_eq]
  have a1 : anyB (gr1 ms ma k) (rd_Pt P i).f1 = (rd_Pt P i).f0.f2.any (fun a => eqT a (rd_Pt Q k).f0 || gtB a (rd_Pt Q k).f0) := any_cgD (d := 0) (e := zTm) p1 (fun n hn => by
    obtain ⟨x, e1, e2, e3⟩ := p2 n (by omega)
    unfold gr1
    rw [e1, ← rdTm_getD, ← e3, h x k (by omega) hk (.inl e2), h2 x k (by omega) hk (.inl e2)])
  have a2 : anyB (gr2 ma i) (rd_Pt Q k).f1 = (rd_Pt Q k).f0.f2.any (fun b => !gtB (rd_Pt P i).f0 b) := any_cgD (d := 0) (e := zTm) q1 (fun n hn => by
    obtain ⟨x, e1, e2, e3⟩ := q2 n (by omega)
    unfold gr2
    rw [e1, ← rdTm_getD, ← e3, h2 i x hi (by omega) (.inr ⟨rfl, e2⟩)])
  have a3 : lexM ms ma (rd_Pt P i).f1 (rd_Pt Q k).f1 = lexG gtB (rd_Pt P i).f0.f2 (rd_Pt Q k).f0.f2 := lexM_cg (d := zTm) p1 q1 (fun a b ha hb => by
    obtain ⟨x, e1, e2, e3⟩ := p2 a (by omega)
    obtain ⟨y, f1, f2, f3⟩ := q2 b (by omega)
    rw [e1, f1, ← rdTm_getD, ← rdTm_getD, ← e3, ← f3]
    exact ⟨h x y (by omega) (by omega) (.inl e2), h2 x y (by omega) (by omega) (.inl e2)⟩)
  rw [a1, a2, a3]
/-- Of the same function: as many arguments. -/
theorem same_len {g : List Int} {x y : Tm} (hx : formE g x = 0) (hy : formE g y = 0) (h0 : ¬ 0 < x.f0) (h1 : ¬ 0 < y.f0) (h : x.f1 = y.f1) : x.f2.length = y.f2.length := by
  have key : ∀ {z : Tm}, formE g z = 0 → ¬ 0 < z.f0 → (z.f2.length : Int) = g.getD z.f1.toNat 0 := by
    intro z hz hz0
    rw [formE_eq] at hz
    by_cases hl : formEL g z.f2 = 0
    · rw [if_neg (by simpa using hl)] at hz
      unfold partE at hz
      by_cases h1 : z.f0 ≠ 0
      · rw [if_pos h1] at hz
        by_cases h2 : 1 ≤ z.f0 ∧ z.f0 ≤ 1000
        · omega
        · rw [if_neg h2] at hz; cases hz
      · rw [if_neg h1] at hz
        by_cases h2 : 0 ≤ z.f1 ∧ z.f1 < g.length
        · rw [if_pos h2] at hz
          by_cases h3 : (z.f2.length : Int) = g.getD z.f1.toNat 0
          · exact h3
          · rw [if_neg h3] at hz; cases hz
        · rw [if_neg h2] at hz; cases hz
    · rw [if_pos hl] at hz; exact absurd hz hl
  have a := key hx h0
  have b := key hy h1
  rw [h] at a
  omega
theorem form_pt {g : List Int} (t : Tm) : formE g t = 0 → ∀ x ∈ ptsT t, formE g x = 0 := by
  refine Tm.rec (motive_1 := fun t => formE g t = 0 → ∀ x ∈ ptsT t, formE g x = 0) (motive_2 := fun l => formEL g l = 0 → ∀ x ∈ ptsL l, formE g x = 0) ?_ ?_ ?_ t
  · intro v f l ih h x hx
    rw [ptsT, List.mem_append] at hx
    rcases hx with hx | hx
    · refine ih ?_ x hx
      rw [formE] at h
      by_cases hl : formEL g l = 0
      · exact hl
      · rw [if_pos hl] at h; exact absurd h hl
    · obtain rfl : x = ⟨v, f, l⟩ := by simpa using hx
      exact h
  · intro _ x hx; rw [ptsL] at hx; cases hx
  · intro t ts h1 h2 h x hx
    rw [formEL] at h
    by_cases hl : formE g t = 0
    · rw [if_neg (by simpa using hl)] at h
      rw [ptsL, List.mem_append] at hx
      rcases hx with hx | hx
      · exact h1 hl x hx
      · exact h2 h x hx
    · rw [if_pos hl] at h; exact absurd h hl
theorem pr_same {g : List Int} {s t : Tm} (hs : formE g s = 0) (ht : formE g t = 0) (i k : Nat) (hi : i < (prT 0 s).length) (hk : k < (prT 0 t).length) : ¬ 0 < (rd_Pt (prT 0 s) i).f0.f0 → ¬ 0 < (rd_Pt (prT 0 t) k).f0.f0 → (rd_Pt (prT 0 s) i).f0.f1 = (rd_Pt (prT 0 t) k).f0.f1 → (rd_Pt (prT 0 s) i).f1.length ≤ (rd_Pt (prT 0 t) k).f1.length := by
  intro h0 h1 h
  have e := same_len (form_pt s hs _ (pr_mem s i hi)) (form_pt t ht _ (pr_mem t k hk)) h0 h1 h
  have e1 := ((pr_all s).1 i hi).1
  have e2 := ((pr_all t).1 k hk).1
  omega
end Go.Proofs.Ytcgnpmjkeifokaa
