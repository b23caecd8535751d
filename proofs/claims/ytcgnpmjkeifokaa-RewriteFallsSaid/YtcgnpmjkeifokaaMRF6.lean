/- RewriteFalls: each step makes a lesser term, and what is normal stays as it is: for every input. Part 6: the walks and plain laws that it uses. -/
import Derived.Test.YtcgnpmjkeifokaaMRF5
-- K100
/- rewrite.found. -/
namespace Go.Proofs.Ytcgnpmjkeifokaa
open Go.RowKit Go.Proofs.YtcgnpmjkeifokaaW.PrintWords
set_option linter.unusedVariables false
set_option linter.unusedSimpArgs false
theorem cutT9 {G : Prop} {α β γ δ ε ζ η θ ι : Type} (S : α → β → γ → δ → ε → ζ → η → θ → ι → World → Prop) (T : α → β → γ → δ → ε → ζ → η → θ → ι → World → Prop) (main : (∀ a b c d e f g h i w, S a b c d e f g h i w → T a b c d e f g h i w) → G) (key : ∀ a b c d e f g h i w, S a b c d e f g h i w → T a b c d e f g h i w) : G := main key
def KeyF (okl okt : Nat → Prop) (p : List Int) (o : Option (List Int × Rl × List (Int × Tm))) (w4 : World) (v37 v38 v39 : Value) (bv : Bool) (g13 : Nat) (w9 : World) : Prop :=
  Below w4.heap.size w4 w9 ∧ FndV okl okt (fun k => w4.heap.size ≤ k ∧ k ≠ g13) p o v37 v38 v39 bv w9 ∧ (∃ (r : Rl) (A2 : Option Addr) (c2 : Nat) (A5 : Option Addr) (c5 : Nat), v38 = .agg #[.int .i64 r.f0.f0, .int .i64 r.f0.f1, .slice A2 r.f0.f2.length c2, .int .i64 r.f1.f0, .int .i64 r.f1.f1, .slice A5 r.f1.f2.length c5] ∧ w9.heap[g13]? = some (.cells #[.int .i64 r.f0.f0, .int .i64 r.f0.f1, .slice A2 r.f0.f2.length c2, .int .i64 r.f1.f0, .int .i64 r.f1.f1, .slice A5 r.f1.f2.length c5] 100 (0, 0))) ∧ w4.heap.size ≤ g13
set_option maxHeartbeats 4000000 in
set_option maxRecDepth 100000 in
theorem found_any (l : List Rl) (Al : Option Addr) (cl : Nat) (okl : Nat → Prop) (m : Nat) : ∀ (t : Tm) (A : Option Addr) (c : Nat) (p : List Int) (Ap : Option Addr) (cp : Nat) (okt okp : Nat → Prop) (w : World), szT t ≤ m → p.length + szT t ≤ 1000000 → (∀ r ∈ l, szT r.f0 ≤ 1000000) → (∀ k, okl k → k < w.heap.size) → (∀ k, okt k → k < w.heap.size) → Kd.F kRl w okl Al l.length l → Kd.F kTm w okt A t.f2.length t.f2 → t.f2.length ≤ c → (∀ k, okp k → k < w.heap.size) → Kd.F (Kd.int .i64) w okp Ap p.length p → p.length ≤ cp →
    Calls Try.prog 104 #[.slice Al l.length cl, .agg #[.int .i64 t.f0, .int .i64 t.f1, .slice A t.f2.length c], .slice Ap p.length cp] w fun e w' => ∃ v1 v2 v3 bv, e = .returned (.tuple #[v1, v2, v3, .bool bv]) ∧ FndV okl okt (fun k => (okp k ∨ w.heap.size ≤ k) ∧ k < w'.heap.size) p (fndT l t) v1 v2 v3 bv w' ∧ Below w.heap.size w w' := by
  induction m with
  | zero => intro t A c p Ap cp okt okp w h; have := szT_pos t; omega
  | succ m ih =>
  intro t A c p Ap cp okt okp w hm hpb hrz hol hot hFl hF hc hop hP hpc
  have hlen := Kd.F_max hF
  have hlenl := Kd.F_max hFl
  have hlenp := Kd.F_max hP
  have IH := Aside0.mk ih
  have HFL := Aside0.mk hFl
  have HF := Aside0.mk hF
  have HP := Aside0.mk hP
  have HM := Aside0.mk hm
  have HPB := Aside0.mk hpb
  have HRZ := Aside0.mk hrz
  have HOL := Aside0.mk hol
  have HOT := Aside0.mk hot
  have HOP := Aside0.mk hop
  have HS := Aside0.mk (szT_eq t)
  have HE := Aside0.mk (fndT_eq l t)
  clear ih hFl hF hP hm hpb hrz hol hot hop
  have g0 := blk_alloc (newAt (w := w) (o := .cells #[.int .i64 t.f0, .int .i64 t.f1, .slice A t.f2.length c] 46) rfl) (.cells #[.int .i64 0, .int .i64 0, .slice none 0 0, .int .i64 0, .int .i64 0, .slice none 0 0] 100)
  have g1 := newAt (w := w.alloc (.cells #[.int .i64 t.f0, .int .i64 t.f1, .slice A t.f2.length c] 46)) (o := .cells #[.int .i64 0, .int .i64 0, .slice none 0 0, .int .i64 0, .int .i64 0, .slice none 0 0] 100) (k := w.heap.size + 1) (by simp)
  have HB := Aside0.mk (below_alloc (below_alloc (Below.refl w.heap.size w) (.cells #[.int .i64 t.f0, .int .i64 t.f1, .slice A t.f2.length c] 46)) (.cells #[.int .i64 0, .int .i64 0, .slice none 0 0, .int .i64 0, .int .i64 0, .slice none 0 0] 100))
  go_enter Try.func104, Try.ntmps104
  go_upto_region 1 with (fail)
  generalize (w.alloc (.cells #[.int .i64 t.f0, .int .i64 t.f1, .slice A t.f2.length c] 46)).alloc (.cells #[.int .i64 0, .int .i64 0, .slice none 0 0, .int .i64 0, .int .i64 0, .slice none 0 0] 100) = W at *
  have G0 := Aside0.mk g0
  have G1 := Aside0.mk g1
  obtain ⟨t0, t1, t2⟩ := tm_cells g0
  have hW1 := blk_lt g1
  have hWs := HB.out.size
  clear g0 g1
  go_wp2
  clear t0 t1 t2
  go_loopw [22] (fun v wr => ∃ k : Nat, k ≤ t.f2.length ∧ v = .int .i64 k ∧ Aside0 (fndL l 0 (t.f2.take k) = none) ∧ Aside0 (Below W.heap.size W wr)) (fun v _ => t.f2.length - (intOf v).toNat)
  case atStart => exact ⟨0, by omega, rfl, ⟨by rw [List.take_zero, fndL]⟩, ⟨Below.refl _ _⟩⟩
  case round =>
    rename World => wo
    obtain ⟨k, hk, rfl, HN, HBo⟩ := hrel
    have HWo := Aside0.mk (hbT HB.out HBo.out)
    by_cases hkl : k < t.f2.length
    · obtain ⟨ad, A2, c2, rfl, E0, E1, E2, hl2, hF2, _⟩ := at_TmF (Kd.F_below HF.out HWo.out) (k : Int) (by omega) (by omega)
      simp only [Int.toNat_natCast] at E0 E1 E2
      have HF2 := Aside0.mk hF2
      have HTm := Aside0.mk (szT_mem (rd_mem t.f2 k hkl))
      have HTK := Aside0.mk (fndL_take hkl HN.out)
      have HTL := Aside0.mk (szL_len t.f2)
      have hkb : (k : Int) < t.f2.length := by omega
      clear hF2
      generalize hx : rd_Tm t.f2 (k : Int) = x at *
      clear hx
      go_upto_region 4 with (((with_reducible refine gate_store (t := 46) (p := 11) rfl ?_); refine st_tm 11 rfl rfl rfl rfl rfl (heap_alloc_new _ _) ?_); intro w4 hs4 hG4 hz4; have GX := Aside0.mk hs4; have HB4 := Aside0.mk (gbS (below_alloc (Below.refl wo.heap.size wo) _) hG4 (Nat.le_refl _)); clear hs4 hG4 hz4 E0 E1 E2)
      have HBW4 := Aside0.mk (hbT HBo.out HB4.out)
      have HW4 := Aside0.mk (hbT HB.out HBW4.out)
      have hw4 := HW4.out.size
      obtain ⟨x0, x1, x2⟩ := tm_cells GX.out
      have k0 := fun (w' : World) (h : Below w4.heap.size w4 w') => oldc h x0
      have k1 := fun (w' : World) (h : Below w4.heap.size w4 w') => oldc h x1
      have k2 := fun (w' : World) (h : Below w4.heap.size w4 w') => oldc h x2
      have HPF := Aside0.mk (Kd.F_mono (Kd.F_bound (Kd.F_below HP.out HW4.out)) (ok' := fun j => j < w4.heap.size) (fun _ h => h.2))
      obtain ⟨q, hq⟩ : ∃ q, q = p ++ [(k : Int)] := ⟨_, rfl⟩
      have HQ := Aside0.mk hq
      have hql : q.length = p.length + 1 := by rw [hq]; simp
      have HQL := Aside0.mk hql
      clear hq hql
      have IHX : Aside0 (∀ W' A' c' b', Below w4.heap.size w4 W' → b' < W'.heap.size → Kd.F (Kd.int .i64) W' (fun k => k = b') A' q.length q → q.length ≤ c' → Calls Try.prog 104 #[.slice Al l.length cl, .agg #[.int .i64 x.f0, .int .i64 x.f1, .slice A2 x.f2.length c2], .slice A' q.length c'] W' fun e w' => ∃ v1 v2 v3 bv, e = .returned (.tuple #[v1, v2, v3, .bool bv]) ∧ FndV okl okt (fun k => (k = b' ∨ W'.heap.size ≤ k) ∧ k < w'.heap.size) q (fndT l x) v1 v2 v3 bv w' ∧ Below W'.heap.size W' w') := ⟨fun W' A' c' b' hb hbb hC hc' => IH.out x A2 c2 _ A' c' okt (fun k => k = b') W' (by have := HS.out; have := HM.out; have := HTm.out; omega) (by have := HS.out; have := HPB.out; have := HTm.out; have := HTL.out; have := HQL.out; omega) HRZ.out (fun j hj => by have := HOL.out j hj; have := hb.size; omega) (fun j hj => by have := HOT.out j hj; have := hb.size; omega) (Kd.F_below HFL.out (hbT HW4.out hb)) (Kd.F_below HF2.out (hbT HB4.out hb)) hl2 (fun j hj => by omega) hC hc'⟩
      have HPL : Aside0 (p.length ≤ 1000000) := ⟨by have := HPB.out; omega⟩
      have hwk : IntKind.i64.wrap ((k : Int) + 1) = (k : Int) + 1 := IntWalk.i64_in _ (by omega)
      clear x0 x1 x2
      refine cutT9 (fun (v30 v32 v34 v35 v37 v38 v39 : Value) (bv : Bool) (g13 : Nat) (w9 : World) => KeyF okl okt q (fndT l x) w4 v37 v38 v39 bv g13 w9) ?T ?main ?key
      case main =>
        intro key
        refine hd_region 19 0 (fun w' => Below w4.heap.size w4 w') (by kernel_rfl) rfl ?_ (fun _ h => h)
        intro W3 hb3 hz3 hHeld
        have hs3 := hb3.size
        clear hz3 hb3
        (refine hd_take (i := 0) (oi := ?oi900) (v := ?v900) ?hi900 (by kernel_rfl) (by kernel_rfl) (by kernel_rfl) (by kernel_rfl) (by decide) ?hq900 ?hw900 ?hy900 hHeld ?hr900; (case hi900 => (simp only [List.getElem?_toArray, List.getElem?_cons_succ, List.getElem?_cons_zero]; rfl)); (case hw900 => rfl); (case hy900 => (intro w hSw; go_simp; try with_reducible rfl)); (case hq900 => exact fun _ _ _ h => h); simp only [Act.put, List.setIfInBounds_toArray, List.set_cons_zero, List.set_cons_succ])
        (refine hd_take (i := 1) (oi := ?oi902) (v := ?v902) ?hi902 (by kernel_rfl) (by kernel_rfl) (by kernel_rfl) (by kernel_rfl) (by decide) ?hq902 ?hw902 ?hy902 hHeld ?hr902; (case hi902 => (simp only [List.getElem?_toArray, List.getElem?_cons_succ, List.getElem?_cons_zero]; rfl)); (case hw902 => rfl); (case hy902 => (intro w hSw; go_simp; try with_reducible rfl)); (case hq902 => exact fun _ _ _ h => h); simp only [Act.put, List.setIfInBounds_toArray, List.set_cons_zero, List.set_cons_succ])
        (refine hd_take (i := 3) (oi := ?oi904) (v := ?v904) ?hi904 (by kernel_rfl) (by kernel_rfl) (by kernel_rfl) (by kernel_rfl) (by decide) ?hq904 ?hw904 ?hy904 hHeld ?hr904; (case hi904 => (simp only [List.getElem?_toArray, List.getElem?_cons_succ, List.getElem?_cons_zero]; rfl)); (case hw904 => rfl); (case hy904 => (intro w hSw; go_simp; try with_reducible rfl)); (case hq904 => exact fun _ _ _ h => h); simp only [Act.put, List.setIfInBounds_toArray, List.set_cons_zero, List.set_cons_succ])
        (refine hd_take (i := 5) (oi := ?oi906) (v := ?v906) ?hi906 (by kernel_rfl) (by kernel_rfl) (by kernel_rfl) (by kernel_rfl) (by decide) ?hq906 ?hw906 ?hy906 hHeld ?hr906; (case hi906 => (simp only [List.getElem?_toArray, List.getElem?_cons_succ, List.getElem?_cons_zero]; rfl)); (case hw906 => rfl); (case hy906 => (intro w hSw; go_simp; try with_reducible rfl)); (case hq906 => exact fun _ _ _ h => h); simp only [Act.put, List.setIfInBounds_toArray, List.set_cons_zero, List.set_cons_succ])
        refine hd_three (i := 2) (j := 6) (k := 14) (oi := ?o1A) (oj := ?o1B) (ok := ?o1C) ?e1A ?e1B ?e1C (by kernel_rfl) (by decide) (by decide) (by decide) ?h1A ?h1B ?h1C
        case e1A => (simp only [List.getElem?_toArray, List.getElem?_cons_succ, List.getElem?_cons_zero]; rfl)
        case e1B => (simp only [List.getElem?_toArray, List.getElem?_cons_succ, List.getElem?_cons_zero]; rfl)
        case e1C => (simp only [List.getElem?_toArray, List.getElem?_cons_succ, List.getElem?_cons_zero]; rfl)
        case h1A =>
          intro K hK
          refine Kd.N_lit_step (Kd.int .i64) (w0 := w4) w4.heap.size 3 rfl rfl (xs := []) (inner := []) (ok := fun _ => True) (okp := fun _ => False) ?zzq1 ⟨rfl, fun j y hy => by simp at hy⟩ (fun _ h => h.elim) trivial hHeld hHeld.size (by decide) ?_
          case zzq1 => first | (go_simp; done) | (go_simp; rfl)
          intro v30 x1 hN1 hB1 hG1 hI1
          obtain ⟨b30, hv30, hb30⟩ := hI1
          have hl30 := Kd.N_lt hN1 b30 hv30
          have hs1 := hG1.size
          have HN1 := Aside0.mk hN1
          have HG1 := Aside0.mk (gbB hG1 (.inl rfl))
          clear hN1 hG1
          (refine hK.out _ _ ?hS911 (fun hHeld => ?hr911); (case hS911 => exact hB1); clear hK K; try simp only [Act.put, List.setIfInBounds_toArray, List.set_cons_zero, List.set_cons_succ])
          clear hB1
          refine hd_three (i := 4) (j := 6) (k := 14) (oi := ?o2A) (oj := ?o2B) (ok := ?o2C) ?e2A ?e2B ?e2C (by kernel_rfl) (by decide) (by decide) (by decide) ?h2A ?h2B ?h2C
          case e2A => (simp only [List.getElem?_toArray, List.getElem?_cons_succ, List.getElem?_cons_zero]; rfl)
          case e2B => (simp only [List.getElem?_toArray, List.getElem?_cons_succ, List.getElem?_cons_zero]; rfl)
          case e2C => (simp only [List.getElem?_toArray, List.getElem?_cons_succ, List.getElem?_cons_zero]; rfl)
          case h2A =>
            intro K hK
            refine Kd.N_append_rows_step (Kd.int .i64) (w0 := w4) w4.heap.size rfl _ _ 22 3 _ 8 rfl Try.underlying22 infoI rfl (by decide) (by decide) v30 [] p Ap p.length cp (fun _ => True) (fun j => j < w4.heap.size) rfl rfl HN1.out (Kd.F_below HPF.out hHeld) (fun q hq => ⟨trivial, fun e => by have := Kd.N_base HN1.out q e.symm; omega⟩) (fun _ _ => trivial) hHeld hHeld.size (by have := HPL.out; simp <;> omega) ?_
            intro v32 x2 hN2 hB2 hG2 hI2
            have h32 : ∃ b32, v32.ownBlock = some b32 ∧ (b32 = b30 ∨ x1.heap.size ≤ b32) := by rcases hI2 with h | ⟨b, h, hb⟩; exact ⟨b30, h.trans hv30, .inl rfl⟩; exact ⟨b, h, .inr hb⟩
            obtain ⟨b32, hv32, hb32⟩ := h32
            have hl32 := Kd.N_lt hN2 b32 hv32
            have hs2 := hG2.size
            have HN2 := Aside0.mk hN2
            have HG2 := Aside0.mk hG2
            clear hN2 hG2 hI2
            (refine hK.out _ _ ?hS915 (fun hHeld => ?hr915); (case hS915 => exact hB2); clear hK K; try simp only [Act.put, List.setIfInBounds_toArray, List.set_cons_zero, List.set_cons_succ])
            clear hB2
            refine hd_two (i := 6) (j := 14) (oi := ?o3A) (oj := ?o3B) ?e3A ?e3B (by kernel_rfl) (by decide) (by decide) ?h3A ?h3B
            case e3A => (simp only [List.getElem?_toArray, List.getElem?_cons_succ, List.getElem?_cons_zero]; rfl)
            case e3B => (simp only [List.getElem?_toArray, List.getElem?_cons_succ, List.getElem?_cons_zero]; rfl)
            case h3A =>
              intro K hK
              go_simp
              (refine hK.out _ _ ?hS918 (fun hHeld => ?hr918); (case hS918 => exact below_alloc hHeld _); clear hK K; try simp only [Act.put, List.setIfInBounds_toArray, List.set_cons_zero, List.set_cons_succ])
              have HX3 := Aside0.mk (heap_alloc_new x2 (.cells #[.int .i64 (k : Int)] 3))
              have HG3 := Aside0.mk (below_alloc (Below.refl x2.heap.size x2) (.cells #[.int .i64 (k : Int)] 3))
              have hs3 : x2.heap.size + 1 ≤ (x2.alloc (.cells #[.int .i64 (k : Int)] 3)).heap.size := by simp
              have Q4 := Aside0.mk (Kd.N_below HN2.out HG3.out)
              generalize x2.alloc (.cells #[.int .i64 (k : Int)] 3) = x3 at *
              have ha6 : ∃ a, a = x2.heap.size := ⟨_, rfl⟩
              obtain ⟨a6, ha6⟩ := ha6
              have hw4a6 : w4.heap.size ≤ x2.heap.size := by omega
              refine hd_two (i := 7) (j := 14) (oi := ?o4A) (oj := ?o4B) ?e4A ?e4B (by kernel_rfl) (by decide) (by decide) ?h4A ?h4B
              case e4A => (simp only [List.getElem?_toArray, List.getElem?_cons_succ, List.getElem?_cons_zero]; rfl)
              case e4B => (simp only [List.getElem?_toArray, List.getElem?_cons_succ, List.getElem?_cons_zero]; rfl)
              case h4A =>
                intro K hK
                refine Kd.N_append_rows_step (Kd.int .i64) (w0 := w4) w4.heap.size rfl _ _ 22 3 _ 8 rfl Try.underlying22 infoI rfl (by decide) (by decide) v32 ([] ++ p) [(k : Int)] (some ⟨x2.heap.size, 0, none⟩) 1 1 (fun _ => True) (fun j => False ∨ j = x2.heap.size) rfl rfl Q4.out (F_int1 HX3.out) (fun q hq => ⟨trivial, fun e => by rw [hv32] at e; injection e with e; rcases hq with hq | hq; exact hq; omega⟩) (fun _ _ => trivial) hHeld hHeld.size (by have := HPL.out; simp <;> omega) ?_
                intro v35 x5 hN5 hB5 hG5 hI5
                have hs5 := hG5.size
                rw [List.nil_append, ← HQ.out] at hN5
                obtain ⟨A35, c35, rfl⟩ := Kd.N_slice hN5
                have h35 : ∃ b35, (Value.slice A35 q.length c35).ownBlock = some b35 ∧ (b35 = b32 ∨ x3.heap.size ≤ b35) := by rcases hI5 with h | ⟨b, h, hb⟩; exact ⟨b32, h.trans hv32, .inl rfl⟩; exact ⟨b, h, .inr hb⟩
                obtain ⟨b35, hv35, hb35⟩ := h35
                have hl35 := Kd.N_lt hN5 b35 hv35
                have HN5 := Aside0.mk hN5
                have HG5 := Aside0.mk hG5
                clear hN5 hG5 hI5
                have Q6 := Aside0.mk ((HG5.out.block _ (blk_lt HX3.out) (by rw [hv32]; intro e; injection e with e; omega)).trans HX3.out)
                (refine hK.out _ _ ?hS921 (fun hHeld => ?hr921); (case hS921 => exact hB5); clear hK K; try simp only [Act.put, List.setIfInBounds_toArray, List.set_cons_zero, List.set_cons_succ])
                clear hB5
                refine hd_two (i := 8) (j := 14) (oi := ?o5A) (oj := ?o5B) ?e5A ?e5B (by kernel_rfl) (by decide) (by decide) ?h5A ?h5B
                case e5A => (simp only [List.getElem?_toArray, List.getElem?_cons_succ, List.getElem?_cons_zero]; rfl)
                case e5B => (simp only [List.getElem?_toArray, List.getElem?_cons_succ, List.getElem?_cons_zero]; rfl)
                case h5A =>
                  intro K hK
                  go_simp
                  have hRd := Kd.N_reads' HN5.out
                  go_at_call 104
                  refine (IHX.out x5 A35 c35 b35 hHeld (by omega) (Kd.F_mono (Kd.N_F (N_int_tight HN5.out)) (fun j hj => by rw [hv35] at hj; injection hj with hj; exact hj.symm)) hRd.2.1).mono ?_
                  rintro e x7 ⟨v37, v38, v39, bv, rfl, hV7, hb7⟩
                  have hs7 := hb7.size
                  have HV7 := Aside0.mk hV7
                  have HG7 := Aside0.mk hb7
                  clear hV7 hRd
                  have Q8 := Aside0.mk ((HG7.out.block _ (blk_lt Q6.out)).trans Q6.out)
                  go_simp
                  (refine hK.out _ _ ?hS924 (fun hHeld => ?hr924); (case hS924 => exact hbT hHeld HG7.out); clear hK K; try simp only [Act.put, List.setIfInBounds_toArray, List.set_cons_zero, List.set_cons_succ])
                  clear hb7
                  (refine hd_take (i := 9) (oi := ?oi925) (v := ?v925) ?hi925 (by kernel_rfl) (by kernel_rfl) (by kernel_rfl) (by kernel_rfl) (by decide) ?hq925 ?hw925 ?hy925 hHeld ?hr925; (case hi925 => (simp only [List.getElem?_toArray, List.getElem?_cons_succ, List.getElem?_cons_zero]; rfl)); (case hw925 => rfl); (case hy925 => (intro w hSw; go_simp; try with_reducible rfl)); (case hq925 => exact fun _ _ _ h => h); simp only [Act.put, List.setIfInBounds_toArray, List.set_cons_zero, List.set_cons_succ])
                  (refine hd_take (i := 10) (oi := ?oi927) (v := ?v927) ?hi927 (by kernel_rfl) (by kernel_rfl) (by kernel_rfl) (by kernel_rfl) (by decide) ?hq927 ?hw927 ?hy927 hHeld ?hr927; (case hi927 => (simp only [List.getElem?_toArray, List.getElem?_cons_succ, List.getElem?_cons_zero]; rfl)); (case hw927 => rfl); (case hy927 => (intro w hSw; go_simp; try with_reducible rfl)); (case hq927 => exact fun _ _ _ h => h); simp only [Act.put, List.setIfInBounds_toArray, List.set_cons_zero, List.set_cons_succ])
                  (refine hd_take (i := 11) (oi := ?oi929) (v := ?v929) ?hi929 (by kernel_rfl) (by kernel_rfl) (by kernel_rfl) (by kernel_rfl) (by decide) ?hq929 ?hw929 ?hy929 hHeld ?hr929; (case hi929 => (simp only [List.getElem?_toArray, List.getElem?_cons_succ, List.getElem?_cons_zero]; rfl)); (case hw929 => rfl); (case hy929 => (intro w hSw; go_simp; try with_reducible rfl)); (case hq929 => exact fun _ _ _ h => h); simp only [Act.put, List.setIfInBounds_toArray, List.set_cons_zero, List.set_cons_succ])
                  (refine hd_take (i := 12) (oi := ?oi931) (v := ?v931) ?hi931 (by kernel_rfl) (by kernel_rfl) (by kernel_rfl) (by kernel_rfl) (by decide) ?hq931 ?hw931 ?hy931 hHeld ?hr931; (case hi931 => (simp only [List.getElem?_toArray, List.getElem?_cons_succ, List.getElem?_cons_zero]; rfl)); (case hw931 => rfl); (case hy931 => (intro w hSw; go_simp; try with_reducible rfl)); (case hq931 => exact fun _ _ _ h => h); simp only [Act.put, List.setIfInBounds_toArray, List.set_cons_zero, List.set_cons_succ])
                  (refine hd_take (i := 13) (oi := ?oi933) (v := ?v933) ?hi933 (by kernel_rfl) (by kernel_rfl) (by kernel_rfl) (by kernel_rfl) (by decide) ?hq933 ?hw933 ?hy933 hHeld ?hr933; (case hi933 => (simp only [List.getElem?_toArray, List.getElem?_cons_succ, List.getElem?_cons_zero]; rfl)); (case hw933 => rfl); (case hy933 => (intro w hSw; go_simp; try with_reducible rfl)); (case hq933 => exact fun _ _ _ h => h); simp only [Act.put, List.setIfInBounds_toArray, List.set_cons_zero, List.set_cons_succ])
                  (refine hd_one (i := 14) (oi := ?oi935) ?hi935 (by kernel_rfl) (by decide) ?hr935; (case hi935 => (simp only [List.getElem?_toArray, List.getElem?_cons_succ, List.getElem?_cons_zero]; rfl)); intro K hK)
                  go_simp
                  (refine hK.out _ _ ?hS937 (fun hHeld => ?hr937); (case hS937 => exact below_alloc hHeld _); clear hK K; try simp only [Act.put, List.setIfInBounds_toArray, List.set_cons_zero, List.set_cons_succ])
                  have HX9 := Aside0.mk (heap_alloc_new x7 (.cells #[.int .i64 0, .int .i64 0, .slice none 0 0, .int .i64 0, .int .i64 0, .slice none 0 0] 100))
                  have HG9 := Aside0.mk (below_alloc (Below.refl x7.heap.size x7) (.cells #[.int .i64 0, .int .i64 0, .slice none 0 0, .int .i64 0, .int .i64 0, .slice none 0 0] 100))
                  have hs9 : x7.heap.size + 1 ≤ (x7.alloc (.cells #[.int .i64 0, .int .i64 0, .slice none 0 0, .int .i64 0, .int .i64 0, .slice none 0 0] 100)).heap.size := by simp
                  have Q10 := Aside0.mk ((HG9.out.block _ (blk_lt Q8.out)).trans Q8.out)
                  have Q11 := Aside0.mk (HV7.out.below HG9.out)
                  generalize x7.alloc (.cells #[.int .i64 0, .int .i64 0, .slice none 0 0, .int .i64 0, .int .i64 0, .slice none 0 0] 100) = x9 at *
                  have ha14 : ∃ a, a = x7.heap.size := ⟨_, rfl⟩
                  obtain ⟨a14, ha14⟩ := ha14
                  have hw4a14 : w4.heap.size ≤ x7.heap.size := by omega
                  (refine hd_one (i := 15) (oi := ?oi938) ?hi938 (by kernel_rfl) (by decide) ?hr938; (case hi938 => (simp only [List.getElem?_toArray, List.getElem?_cons_succ, List.getElem?_cons_zero]; rfl)); intro K hK)
                  go_simp
                  (refine hK.out _ _ ?hS940 (fun hHeld => ?hr940); (case hS940 => exact hHeld); clear hK K; try simp only [Act.put, List.setIfInBounds_toArray, List.set_cons_zero, List.set_cons_succ])
                  obtain ⟨r, A2', c2', A5', c5', rfl, hVV⟩ := Q11.out
                  clear hVV
                  (refine hd_one (i := 16) (oi := ?oi941) ?hi941 (by kernel_rfl) (by decide) ?hr941; (case hi941 => (simp only [List.getElem?_toArray, List.getElem?_cons_succ, List.getElem?_cons_zero]; rfl)); intro K hK)
                  refine st_rl_step 13 rfl rfl rfl rfl rfl HX9.out ?_
                  intro xs hsx hGx hzx
                  have HSx := Aside0.mk hsx
                  have HGx := Aside0.mk hGx
                  clear hsx hGx
                  (refine hK.out _ _ ?hS943 (fun hHeld => ?hr943); (case hS943 => exact gbS hHeld HGx.out (by omega)); clear hK K; try simp only [Act.put, List.setIfInBounds_toArray, List.set_cons_zero, List.set_cons_succ])
                  (refine hd_one (i := 17) (oi := ?oi944) ?hi944 (by kernel_rfl) (by decide) ?hr944; (case hi944 => (simp only [List.getElem?_toArray, List.getElem?_cons_succ, List.getElem?_cons_zero]; rfl)); intro K hK)
                  go_simp
                  (refine hK.out _ _ ?hS946 (fun hHeld => ?hr946); (case hS946 => exact hHeld); clear hK K; try simp only [Act.put, List.setIfInBounds_toArray, List.set_cons_zero, List.set_cons_succ])
                  (refine hd_one (i := 18) (oi := ?oi947) ?hi947 (by kernel_rfl) (by decide) ?hr947; (case hi947 => (simp only [List.getElem?_toArray, List.getElem?_cons_succ, List.getElem?_cons_zero]; rfl)); intro K hK)
                  go_simp
                  (refine hK.out _ _ ?hS949 (fun hHeld => ?hr949); (case hS949 => exact hHeld); clear hK K; try simp only [Act.put, List.setIfInBounds_toArray, List.set_cons_zero, List.set_cons_succ])
                  (refine hd_done (by kernel_rfl) ?_; simp only [List.drop_succ_cons, List.drop_zero])
                  have hK : KeyF okl okt q (fndT l x) w4 v37 (.agg #[.int .i64 r.f0.f0, .int .i64 r.f0.f1, .slice A2' r.f0.f2.length c2', .int .i64 r.f1.f0, .int .i64 r.f1.f1, .slice A5' r.f1.f2.length c5']) v39 bv (x7.heap.size) xs := ⟨hHeld, FndV.mono (okr' := fun k => w4.heap.size ≤ k ∧ k ≠ (x7.heap.size)) (FndV.grown (FndV.mono (okr' := fun k => w4.heap.size ≤ k ∧ k ≠ (x7.heap.size)) Q11.out (fun k hk => by obtain ⟨h1, h2⟩ := hk; exact ⟨by omega, by omega⟩)) HGx.out (fun k hk => by have := HOL.out k hk; omega) (fun k hk => by have := HOT.out k hk; omega) (fun k hk => hk.2)) (fun k hk => hk), ⟨_, _, _, _, _, rfl, HSx.out⟩, by omega⟩
                  generalize hg1 : Value.agg #[.int .i64 r.f0.f0, .int .i64 r.f0.f1, .slice A2' r.f0.f2.length c2', .int .i64 r.f1.f0, .int .i64 r.f1.f1, .slice A5' r.f1.f2.length c5'] = v38 at *
                  generalize x7.heap.size = g13 at *
                  generalize Value.slice (some ⟨x2.heap.size, 0, none⟩) 1 1 = v34 at *
                  generalize Value.slice A35 q.length c35 = v35 at *
                  refine useT (key v30 v32 v34 v35 v37 v38 v39 bv g13 xs hK) ?_
                  rfl
                case h5B =>
                  intro K hK
                  go_simp
                  (refine hK.out _ _ ?hS951 (fun hHeld => ?hr951); (case hS951 => exact below_alloc hHeld _); clear hK K; try simp only [Act.put, List.setIfInBounds_toArray, List.set_cons_zero, List.set_cons_succ])
                  have HX7 := Aside0.mk (heap_alloc_new x5 (.cells #[.int .i64 0, .int .i64 0, .slice none 0 0, .int .i64 0, .int .i64 0, .slice none 0 0] 100))
                  have HG7 := Aside0.mk (below_alloc (Below.refl x5.heap.size x5) (.cells #[.int .i64 0, .int .i64 0, .slice none 0 0, .int .i64 0, .int .i64 0, .slice none 0 0] 100))
                  have hs7 : x5.heap.size + 1 ≤ (x5.alloc (.cells #[.int .i64 0, .int .i64 0, .slice none 0 0, .int .i64 0, .int .i64 0, .slice none 0 0] 100)).heap.size := by simp
                  have Q8 := Aside0.mk ((HG7.out.block _ (blk_lt Q6.out)).trans Q6.out)
                  have Q9 := Aside0.mk (Kd.N_below HN5.out HG7.out)
                  generalize x5.alloc (.cells #[.int .i64 0, .int .i64 0, .slice none 0 0, .int .i64 0, .int .i64 0, .slice none 0 0] 100) = x7 at *
                  have ha14 : ∃ a, a = x5.heap.size := ⟨_, rfl⟩
                  obtain ⟨a14, ha14⟩ := ha14
                  have hw4a14 : w4.heap.size ≤ x5.heap.size := by omega
                  (refine hd_one (i := 8) (oi := ?oi952) ?hi952 (by kernel_rfl) (by decide) ?hr952; (case hi952 => (simp only [List.getElem?_toArray, List.getElem?_cons_succ, List.getElem?_cons_zero]; rfl)); intro K hK)
                  go_simp
                  have hRd := Kd.N_reads' Q9.out
                  go_at_call 104
                  refine (IHX.out x7 A35 c35 b35 hHeld (by omega) (Kd.F_mono (Kd.N_F (N_int_tight Q9.out)) (fun j hj => by rw [hv35] at hj; injection hj with hj; exact hj.symm)) hRd.2.1).mono ?_
                  rintro e x10 ⟨v37, v38, v39, bv, rfl, hV10, hb10⟩
                  have hs10 := hb10.size
                  have HV10 := Aside0.mk hV10
                  have HG10 := Aside0.mk hb10
                  clear hV10 hRd
                  have Q11 := Aside0.mk ((HG10.out.block _ (blk_lt Q8.out)).trans Q8.out)
                  have Q12 := Aside0.mk ((HG10.out.block _ (blk_lt HX7.out)).trans HX7.out)
                  go_simp
                  (refine hK.out _ _ ?hS954 (fun hHeld => ?hr954); (case hS954 => exact hbT hHeld HG10.out); clear hK K; try simp only [Act.put, List.setIfInBounds_toArray, List.set_cons_zero, List.set_cons_succ])
                  clear hb10
                  (refine hd_take (i := 9) (oi := ?oi955) (v := ?v955) ?hi955 (by kernel_rfl) (by kernel_rfl) (by kernel_rfl) (by kernel_rfl) (by decide) ?hq955 ?hw955 ?hy955 hHeld ?hr955; (case hi955 => (simp only [List.getElem?_toArray, List.getElem?_cons_succ, List.getElem?_cons_zero]; rfl)); (case hw955 => rfl); (case hy955 => (intro w hSw; go_simp; try with_reducible rfl)); (case hq955 => exact fun _ _ _ h => h); simp only [Act.put, List.setIfInBounds_toArray, List.set_cons_zero, List.set_cons_succ])
                  (refine hd_take (i := 10) (oi := ?oi957) (v := ?v957) ?hi957 (by kernel_rfl) (by kernel_rfl) (by kernel_rfl) (by kernel_rfl) (by decide) ?hq957 ?hw957 ?hy957 hHeld ?hr957; (case hi957 => (simp only [List.getElem?_toArray, List.getElem?_cons_succ, List.getElem?_cons_zero]; rfl)); (case hw957 => rfl); (case hy957 => (intro w hSw; go_simp; try with_reducible rfl)); (case hq957 => exact fun _ _ _ h => h); simp only [Act.put, List.setIfInBounds_toArray, List.set_cons_zero, List.set_cons_succ])
                  (refine hd_take (i := 11) (oi := ?oi959) (v := ?v959) ?hi959 (by kernel_rfl) (by kernel_rfl) (by kernel_rfl) (by kernel_rfl) (by decide) ?hq959 ?hw959 ?hy959 hHeld ?hr959; (case hi959 => (simp only [List.getElem?_toArray, List.getElem?_cons_succ, List.getElem?_cons_zero]; rfl)); (case hw959 => rfl); (case hy959 => (intro w hSw; go_simp; try with_reducible rfl)); (case hq959 => exact fun _ _ _ h => h); simp only [Act.put, List.setIfInBounds_toArray, List.set_cons_zero, List.set_cons_succ])
                  (refine hd_take (i := 12) (oi := ?oi961) (v := ?v961) ?hi961 (by kernel_rfl) (by kernel_rfl) (by kernel_rfl) (by kernel_rfl) (by decide) ?hq961 ?hw961 ?hy961 hHeld ?hr961; (case hi961 => (simp only [List.getElem?_toArray, List.getElem?_cons_succ, List.getElem?_cons_zero]; rfl)); (case hw961 => rfl); (case hy961 => (intro w hSw; go_simp; try with_reducible rfl)); (case hq961 => exact fun _ _ _ h => h); simp only [Act.put, List.setIfInBounds_toArray, List.set_cons_zero, List.set_cons_succ])
                  (refine hd_take (i := 13) (oi := ?oi963) (v := ?v963) ?hi963 (by kernel_rfl) (by kernel_rfl) (by kernel_rfl) (by kernel_rfl) (by decide) ?hq963 ?hw963 ?hy963 hHeld ?hr963; (case hi963 => (simp only [List.getElem?_toArray, List.getElem?_cons_succ, List.getElem?_cons_zero]; rfl)); (case hw963 => rfl); (case hy963 => (intro w hSw; go_simp; try with_reducible rfl)); (case hq963 => exact fun _ _ _ h => h); simp only [Act.put, List.setIfInBounds_toArray, List.set_cons_zero, List.set_cons_succ])
                  (refine hd_one (i := 15) (oi := ?oi965) ?hi965 (by kernel_rfl) (by decide) ?hr965; (case hi965 => (simp only [List.getElem?_toArray, List.getElem?_cons_succ, List.getElem?_cons_zero]; rfl)); intro K hK)
                  go_simp
                  (refine hK.out _ _ ?hS967 (fun hHeld => ?hr967); (case hS967 => exact hHeld); clear hK K; try simp only [Act.put, List.setIfInBounds_toArray, List.set_cons_zero, List.set_cons_succ])
                  obtain ⟨r, A2', c2', A5', c5', rfl, hVV⟩ := HV10.out
                  clear hVV
                  (refine hd_one (i := 16) (oi := ?oi968) ?hi968 (by kernel_rfl) (by decide) ?hr968; (case hi968 => (simp only [List.getElem?_toArray, List.getElem?_cons_succ, List.getElem?_cons_zero]; rfl)); intro K hK)
                  refine st_rl_step 13 rfl rfl rfl rfl rfl Q12.out ?_
                  intro xs hsx hGx hzx
                  have HSx := Aside0.mk hsx
                  have HGx := Aside0.mk hGx
                  clear hsx hGx
                  (refine hK.out _ _ ?hS970 (fun hHeld => ?hr970); (case hS970 => exact gbS hHeld HGx.out (by omega)); clear hK K; try simp only [Act.put, List.setIfInBounds_toArray, List.set_cons_zero, List.set_cons_succ])
                  (refine hd_one (i := 17) (oi := ?oi971) ?hi971 (by kernel_rfl) (by decide) ?hr971; (case hi971 => (simp only [List.getElem?_toArray, List.getElem?_cons_succ, List.getElem?_cons_zero]; rfl)); intro K hK)
                  go_simp
                  (refine hK.out _ _ ?hS973 (fun hHeld => ?hr973); (case hS973 => exact hHeld); clear hK K; try simp only [Act.put, List.setIfInBounds_toArray, List.set_cons_zero, List.set_cons_succ])
                  (refine hd_one (i := 18) (oi := ?oi974) ?hi974 (by kernel_rfl) (by decide) ?hr974; (case hi974 => (simp only [List.getElem?_toArray, List.getElem?_cons_succ, List.getElem?_cons_zero]; rfl)); intro K hK)
                  go_simp
                  (refine hK.out _ _ ?hS976 (fun hHeld => ?hr976); (case hS976 => exact hHeld); clear hK K; try simp only [Act.put, List.setIfInBounds_toArray, List.set_cons_zero, List.set_cons_succ])
                  (refine hd_done (by kernel_rfl) ?_; simp only [List.drop_succ_cons, List.drop_zero])
                  have hK : KeyF okl okt q (fndT l x) w4 v37 (.agg #[.int .i64 r.f0.f0, .int .i64 r.f0.f1, .slice A2' r.f0.f2.length c2', .int .i64 r.f1.f0, .int .i64 r.f1.f1, .slice A5' r.f1.f2.length c5']) v39 bv (x5.heap.size) xs := ⟨hHeld, FndV.mono (okr' := fun k => w4.heap.size ≤ k ∧ k ≠ (x5.heap.size)) (FndV.grown (FndV.mono (okr' := fun k => w4.heap.size ≤ k ∧ k ≠ (x5.heap.size)) HV10.out (fun k hk => by obtain ⟨h1, h2⟩ := hk; exact ⟨by omega, by omega⟩)) HGx.out (fun k hk => by have := HOL.out k hk; omega) (fun k hk => by have := HOT.out k hk; omega) (fun k hk => hk.2)) (fun k hk => hk), ⟨_, _, _, _, _, rfl, HSx.out⟩, by omega⟩
                  refine useT (key v30 v32 (Value.slice (some ⟨x2.heap.size, 0, none⟩) 1 1) (Value.slice A35 q.length c35) v37 (.agg #[.int .i64 r.f0.f0, .int .i64 r.f0.f1, .slice A2' r.f0.f2.length c2', .int .i64 r.f1.f0, .int .i64 r.f1.f1, .slice A5' r.f1.f2.length c5']) v39 bv (x5.heap.size) xs hK) ?_
                  rfl
              case h4B =>
                intro K hK
                go_simp
                (refine hK.out _ _ ?hS978 (fun hHeld => ?hr978); (case hS978 => exact below_alloc hHeld _); clear hK K; try simp only [Act.put, List.setIfInBounds_toArray, List.set_cons_zero, List.set_cons_succ])
                have HX5 := Aside0.mk (heap_alloc_new x3 (.cells #[.int .i64 0, .int .i64 0, .slice none 0 0, .int .i64 0, .int .i64 0, .slice none 0 0] 100))
                have HG5 := Aside0.mk (below_alloc (Below.refl x3.heap.size x3) (.cells #[.int .i64 0, .int .i64 0, .slice none 0 0, .int .i64 0, .int .i64 0, .slice none 0 0] 100))
                have hs5 : x3.heap.size + 1 ≤ (x3.alloc (.cells #[.int .i64 0, .int .i64 0, .slice none 0 0, .int .i64 0, .int .i64 0, .slice none 0 0] 100)).heap.size := by simp
                have Q6 := Aside0.mk (Kd.N_below Q4.out HG5.out)
                have Q7 := Aside0.mk ((HG5.out.block _ (blk_lt HX3.out)).trans HX3.out)
                generalize x3.alloc (.cells #[.int .i64 0, .int .i64 0, .slice none 0 0, .int .i64 0, .int .i64 0, .slice none 0 0] 100) = x5 at *
                have ha14 : ∃ a, a = x3.heap.size := ⟨_, rfl⟩
                obtain ⟨a14, ha14⟩ := ha14
                have hw4a14 : w4.heap.size ≤ x3.heap.size := by omega
                (refine hd_one (i := 7) (oi := ?oi979) ?hi979 (by kernel_rfl) (by decide) ?hr979; (case hi979 => (simp only [List.getElem?_toArray, List.getElem?_cons_succ, List.getElem?_cons_zero]; rfl)); intro K hK)
                refine Kd.N_append_rows_step (Kd.int .i64) (w0 := w4) w4.heap.size rfl _ _ 22 3 _ 8 rfl Try.underlying22 infoI rfl (by decide) (by decide) v32 ([] ++ p) [(k : Int)] (some ⟨x2.heap.size, 0, none⟩) 1 1 (fun _ => True) (fun j => False ∨ j = x2.heap.size) rfl rfl Q6.out (F_int1 Q7.out) (fun q hq => ⟨trivial, fun e => by rw [hv32] at e; injection e with e; rcases hq with hq | hq; exact hq; omega⟩) (fun _ _ => trivial) hHeld hHeld.size (by have := HPL.out; simp <;> omega) ?_
                intro v35 x8 hN8 hB8 hG8 hI8
                have hs8 := hG8.size
                rw [List.nil_append, ← HQ.out] at hN8
                obtain ⟨A35, c35, rfl⟩ := Kd.N_slice hN8
                have h35 : ∃ b35, (Value.slice A35 q.length c35).ownBlock = some b35 ∧ (b35 = b32 ∨ x5.heap.size ≤ b35) := by rcases hI8 with h | ⟨b, h, hb⟩; exact ⟨b32, h.trans hv32, .inl rfl⟩; exact ⟨b, h, .inr hb⟩
                obtain ⟨b35, hv35, hb35⟩ := h35
                have hl35 := Kd.N_lt hN8 b35 hv35
                have HN8 := Aside0.mk hN8
                have HG8 := Aside0.mk hG8
                clear hN8 hG8 hI8
                have Q9 := Aside0.mk ((HG8.out.block _ (blk_lt Q7.out) (by rw [hv32]; intro e; injection e with e; omega)).trans Q7.out)
                have Q10 := Aside0.mk ((HG8.out.block _ (blk_lt HX5.out) (by rw [hv32]; intro e; injection e with e; omega)).trans HX5.out)
                (refine hK.out _ _ ?hS981 (fun hHeld => ?hr981); (case hS981 => exact hB8); clear hK K; try simp only [Act.put, List.setIfInBounds_toArray, List.set_cons_zero, List.set_cons_succ])
                clear hB8
                (refine hd_one (i := 8) (oi := ?oi982) ?hi982 (by kernel_rfl) (by decide) ?hr982; (case hi982 => (simp only [List.getElem?_toArray, List.getElem?_cons_succ, List.getElem?_cons_zero]; rfl)); intro K hK)
                go_simp
                have hRd := Kd.N_reads' HN8.out
                go_at_call 104
                refine (IHX.out x8 A35 c35 b35 hHeld (by omega) (Kd.F_mono (Kd.N_F (N_int_tight HN8.out)) (fun j hj => by rw [hv35] at hj; injection hj with hj; exact hj.symm)) hRd.2.1).mono ?_
                rintro e x11 ⟨v37, v38, v39, bv, rfl, hV11, hb11⟩
                have hs11 := hb11.size
                have HV11 := Aside0.mk hV11
                have HG11 := Aside0.mk hb11
                clear hV11 hRd
                have Q12 := Aside0.mk ((HG11.out.block _ (blk_lt Q9.out)).trans Q9.out)
                have Q13 := Aside0.mk ((HG11.out.block _ (blk_lt Q10.out)).trans Q10.out)
                go_simp
                (refine hK.out _ _ ?hS984 (fun hHeld => ?hr984); (case hS984 => exact hbT hHeld HG11.out); clear hK K; try simp only [Act.put, List.setIfInBounds_toArray, List.set_cons_zero, List.set_cons_succ])
                clear hb11
                (refine hd_take (i := 9) (oi := ?oi985) (v := ?v985) ?hi985 (by kernel_rfl) (by kernel_rfl) (by kernel_rfl) (by kernel_rfl) (by decide) ?hq985 ?hw985 ?hy985 hHeld ?hr985; (case hi985 => (simp only [List.getElem?_toArray, List.getElem?_cons_succ, List.getElem?_cons_zero]; rfl)); (case hw985 => rfl); (case hy985 => (intro w hSw; go_simp; try with_reducible rfl)); (case hq985 => exact fun _ _ _ h => h); simp only [Act.put, List.setIfInBounds_toArray, List.set_cons_zero, List.set_cons_succ])
                (refine hd_take (i := 10) (oi := ?oi987) (v := ?v987) ?hi987 (by kernel_rfl) (by kernel_rfl) (by kernel_rfl) (by kernel_rfl) (by decide) ?hq987 ?hw987 ?hy987 hHeld ?hr987; (case hi987 => (simp only [List.getElem?_toArray, List.getElem?_cons_succ, List.getElem?_cons_zero]; rfl)); (case hw987 => rfl); (case hy987 => (intro w hSw; go_simp; try with_reducible rfl)); (case hq987 => exact fun _ _ _ h => h); simp only [Act.put, List.setIfInBounds_toArray, List.set_cons_zero, List.set_cons_succ])
                (refine hd_take (i := 11) (oi := ?oi989) (v := ?v989) ?hi989 (by kernel_rfl) (by kernel_rfl) (by kernel_rfl) (by kernel_rfl) (by decide) ?hq989 ?hw989 ?hy989 hHeld ?hr989; (case hi989 => (simp only [List.getElem?_toArray, List.getElem?_cons_succ, List.getElem?_cons_zero]; rfl)); (case hw989 => rfl); (case hy989 => (intro w hSw; go_simp; try with_reducible rfl)); (case hq989 => exact fun _ _ _ h => h); simp only [Act.put, List.setIfInBounds_toArray, List.set_cons_zero, List.set_cons_succ])
                (refine hd_take (i := 12) (oi := ?oi991) (v := ?v991) ?hi991 (by kernel_rfl) (by kernel_rfl) (by kernel_rfl) (by kernel_rfl) (by decide) ?hq991 ?hw991 ?hy991 hHeld ?hr991; (case hi991 => (simp only [List.getElem?_toArray, List.getElem?_cons_succ, List.getElem?_cons_zero]; rfl)); (case hw991 => rfl); (case hy991 => (intro w hSw; go_simp; try with_reducible rfl)); (case hq991 => exact fun _ _ _ h => h); simp only [Act.put, List.setIfInBounds_toArray, List.set_cons_zero, List.set_cons_succ])
                (refine hd_take (i := 13) (oi := ?oi993) (v := ?v993) ?hi993 (by kernel_rfl) (by kernel_rfl) (by kernel_rfl) (by kernel_rfl) (by decide) ?hq993 ?hw993 ?hy993 hHeld ?hr993; (case hi993 => (simp only [List.getElem?_toArray, List.getElem?_cons_succ, List.getElem?_cons_zero]; rfl)); (case hw993 => rfl); (case hy993 => (intro w hSw; go_simp; try with_reducible rfl)); (case hq993 => exact fun _ _ _ h => h); simp only [Act.put, List.setIfInBounds_toArray, List.set_cons_zero, List.set_cons_succ])
                (refine hd_one (i := 15) (oi := ?oi995) ?hi995 (by kernel_rfl) (by decide) ?hr995; (case hi995 => (simp only [List.getElem?_toArray, List.getElem?_cons_succ, List.getElem?_cons_zero]; rfl)); intro K hK)
                go_simp
                (refine hK.out _ _ ?hS997 (fun hHeld => ?hr997); (case hS997 => exact hHeld); clear hK K; try simp only [Act.put, List.setIfInBounds_toArray, List.set_cons_zero, List.set_cons_succ])
                obtain ⟨r, A2', c2', A5', c5', rfl, hVV⟩ := HV11.out
                clear hVV
                (refine hd_one (i := 16) (oi := ?oi998) ?hi998 (by kernel_rfl) (by decide) ?hr998; (case hi998 => (simp only [List.getElem?_toArray, List.getElem?_cons_succ, List.getElem?_cons_zero]; rfl)); intro K hK)
                refine st_rl_step 13 rfl rfl rfl rfl rfl Q13.out ?_
                intro xs hsx hGx hzx
                have HSx := Aside0.mk hsx
                have HGx := Aside0.mk hGx
                clear hsx hGx
                (refine hK.out _ _ ?hS1000 (fun hHeld => ?hr1000); (case hS1000 => exact gbS hHeld HGx.out (by omega)); clear hK K; try simp only [Act.put, List.setIfInBounds_toArray, List.set_cons_zero, List.set_cons_succ])
                (refine hd_one (i := 17) (oi := ?oi1001) ?hi1001 (by kernel_rfl) (by decide) ?hr1001; (case hi1001 => (simp only [List.getElem?_toArray, List.getElem?_cons_succ, List.getElem?_cons_zero]; rfl)); intro K hK)
                go_simp
                (refine hK.out _ _ ?hS1003 (fun hHeld => ?hr1003); (case hS1003 => exact hHeld); clear hK K; try simp only [Act.put, List.setIfInBounds_toArray, List.set_cons_zero, List.set_cons_succ])
                (refine hd_one (i := 18) (oi := ?oi1004) ?hi1004 (by kernel_rfl) (by decide) ?hr1004; (case hi1004 => (simp only [List.getElem?_toArray, List.getElem?_cons_succ, List.getElem?_cons_zero]; rfl)); intro K hK)
                go_simp
                (refine hK.out _ _ ?hS1006 (fun hHeld => ?hr1006); (case hS1006 => exact hHeld); clear hK K; try simp only [Act.put, List.setIfInBounds_toArray, List.set_cons_zero, List.set_cons_succ])
                (refine hd_done (by kernel_rfl) ?_; simp only [List.drop_succ_cons, List.drop_zero])
                have hK : KeyF okl okt q (fndT l x) w4 v37 (.agg #[.int .i64 r.f0.f0, .int .i64 r.f0.f1, .slice A2' r.f0.f2.length c2', .int .i64 r.f1.f0, .int .i64 r.f1.f1, .slice A5' r.f1.f2.length c5']) v39 bv (x3.heap.size) xs := ⟨hHeld, FndV.mono (okr' := fun k => w4.heap.size ≤ k ∧ k ≠ (x3.heap.size)) (FndV.grown (FndV.mono (okr' := fun k => w4.heap.size ≤ k ∧ k ≠ (x3.heap.size)) HV11.out (fun k hk => by obtain ⟨h1, h2⟩ := hk; exact ⟨by omega, by omega⟩)) HGx.out (fun k hk => by have := HOL.out k hk; omega) (fun k hk => by have := HOT.out k hk; omega) (fun k hk => hk.2)) (fun k hk => hk), ⟨_, _, _, _, _, rfl, HSx.out⟩, by omega⟩
                refine useT (key v30 v32 (Value.slice (some ⟨x2.heap.size, 0, none⟩) 1 1) (Value.slice A35 q.length c35) v37 (.agg #[.int .i64 r.f0.f0, .int .i64 r.f0.f1, .slice A2' r.f0.f2.length c2', .int .i64 r.f1.f0, .int .i64 r.f1.f1, .slice A5' r.f1.f2.length c5']) v39 bv (x3.heap.size) xs hK) ?_
                rfl
            case h3B =>
              intro K hK
              go_simp
              (refine hK.out _ _ ?hS1008 (fun hHeld => ?hr1008); (case hS1008 => exact below_alloc hHeld _); clear hK K; try simp only [Act.put, List.setIfInBounds_toArray, List.set_cons_zero, List.set_cons_succ])
              have HX3 := Aside0.mk (heap_alloc_new x2 (.cells #[.int .i64 0, .int .i64 0, .slice none 0 0, .int .i64 0, .int .i64 0, .slice none 0 0] 100))
              have HG3 := Aside0.mk (below_alloc (Below.refl x2.heap.size x2) (.cells #[.int .i64 0, .int .i64 0, .slice none 0 0, .int .i64 0, .int .i64 0, .slice none 0 0] 100))
              have hs3 : x2.heap.size + 1 ≤ (x2.alloc (.cells #[.int .i64 0, .int .i64 0, .slice none 0 0, .int .i64 0, .int .i64 0, .slice none 0 0] 100)).heap.size := by simp
              have Q4 := Aside0.mk (Kd.N_below HN2.out HG3.out)
              generalize x2.alloc (.cells #[.int .i64 0, .int .i64 0, .slice none 0 0, .int .i64 0, .int .i64 0, .slice none 0 0] 100) = x3 at *
              have ha14 : ∃ a, a = x2.heap.size := ⟨_, rfl⟩
              obtain ⟨a14, ha14⟩ := ha14
              have hw4a14 : w4.heap.size ≤ x2.heap.size := by omega
              (refine hd_one (i := 6) (oi := ?oi1009) ?hi1009 (by kernel_rfl) (by decide) ?hr1009; (case hi1009 => (simp only [List.getElem?_toArray, List.getElem?_cons_succ, List.getElem?_cons_zero]; rfl)); intro K hK)
              go_simp
              (refine hK.out _ _ ?hS1011 (fun hHeld => ?hr1011); (case hS1011 => exact below_alloc hHeld _); clear hK K; try simp only [Act.put, List.setIfInBounds_toArray, List.set_cons_zero, List.set_cons_succ])
              have HX5 := Aside0.mk (heap_alloc_new x3 (.cells #[.int .i64 (k : Int)] 3))
              have HG5 := Aside0.mk (below_alloc (Below.refl x3.heap.size x3) (.cells #[.int .i64 (k : Int)] 3))
              have hs5 : x3.heap.size + 1 ≤ (x3.alloc (.cells #[.int .i64 (k : Int)] 3)).heap.size := by simp
              have Q6 := Aside0.mk (Kd.N_below Q4.out HG5.out)
              have Q7 := Aside0.mk ((HG5.out.block _ (blk_lt HX3.out)).trans HX3.out)
              generalize x3.alloc (.cells #[.int .i64 (k : Int)] 3) = x5 at *
              have ha6 : ∃ a, a = x3.heap.size := ⟨_, rfl⟩
              obtain ⟨a6, ha6⟩ := ha6
              have hw4a6 : w4.heap.size ≤ x3.heap.size := by omega
              (refine hd_one (i := 7) (oi := ?oi1012) ?hi1012 (by kernel_rfl) (by decide) ?hr1012; (case hi1012 => (simp only [List.getElem?_toArray, List.getElem?_cons_succ, List.getElem?_cons_zero]; rfl)); intro K hK)
              refine Kd.N_append_rows_step (Kd.int .i64) (w0 := w4) w4.heap.size rfl _ _ 22 3 _ 8 rfl Try.underlying22 infoI rfl (by decide) (by decide) v32 ([] ++ p) [(k : Int)] (some ⟨x3.heap.size, 0, none⟩) 1 1 (fun _ => True) (fun j => False ∨ j = x3.heap.size) rfl rfl Q6.out (F_int1 HX5.out) (fun q hq => ⟨trivial, fun e => by rw [hv32] at e; injection e with e; rcases hq with hq | hq; exact hq; omega⟩) (fun _ _ => trivial) hHeld hHeld.size (by have := HPL.out; simp <;> omega) ?_
              intro v35 x8 hN8 hB8 hG8 hI8
              have hs8 := hG8.size
              rw [List.nil_append, ← HQ.out] at hN8
              obtain ⟨A35, c35, rfl⟩ := Kd.N_slice hN8
              have h35 : ∃ b35, (Value.slice A35 q.length c35).ownBlock = some b35 ∧ (b35 = b32 ∨ x5.heap.size ≤ b35) := by rcases hI8 with h | ⟨b, h, hb⟩; exact ⟨b32, h.trans hv32, .inl rfl⟩; exact ⟨b, h, .inr hb⟩
              obtain ⟨b35, hv35, hb35⟩ := h35
              have hl35 := Kd.N_lt hN8 b35 hv35
              have HN8 := Aside0.mk hN8
              have HG8 := Aside0.mk hG8
              clear hN8 hG8 hI8
              have Q9 := Aside0.mk ((HG8.out.block _ (blk_lt Q7.out) (by rw [hv32]; intro e; injection e with e; omega)).trans Q7.out)
              have Q10 := Aside0.mk ((HG8.out.block _ (blk_lt HX5.out) (by rw [hv32]; intro e; injection e with e; omega)).trans HX5.out)
              (refine hK.out _ _ ?hS1014 (fun hHeld => ?hr1014); (case hS1014 => exact hB8); clear hK K; try simp only [Act.put, List.setIfInBounds_toArray, List.set_cons_zero, List.set_cons_succ])
              clear hB8
              (refine hd_one (i := 8) (oi := ?oi1015) ?hi1015 (by kernel_rfl) (by decide) ?hr1015; (case hi1015 => (simp only [List.getElem?_toArray, List.getElem?_cons_succ, List.getElem?_cons_zero]; rfl)); intro K hK)
              go_simp
              have hRd := Kd.N_reads' HN8.out
              go_at_call 104
              refine (IHX.out x8 A35 c35 b35 hHeld (by omega) (Kd.F_mono (Kd.N_F (N_int_tight HN8.out)) (fun j hj => by rw [hv35] at hj; injection hj with hj; exact hj.symm)) hRd.2.1).mono ?_
              rintro e x11 ⟨v37, v38, v39, bv, rfl, hV11, hb11⟩
              have hs11 := hb11.size
              have HV11 := Aside0.mk hV11
              have HG11 := Aside0.mk hb11
              clear hV11 hRd
              have Q12 := Aside0.mk ((HG11.out.block _ (blk_lt Q9.out)).trans Q9.out)
              have Q13 := Aside0.mk ((HG11.out.block _ (blk_lt Q10.out)).trans Q10.out)
              go_simp
              (refine hK.out _ _ ?hS1017 (fun hHeld => ?hr1017); (case hS1017 => exact hbT hHeld HG11.out); clear hK K; try simp only [Act.put, List.setIfInBounds_toArray, List.set_cons_zero, List.set_cons_succ])
              clear hb11
              (refine hd_take (i := 9) (oi := ?oi1018) (v := ?v1018) ?hi1018 (by kernel_rfl) (by kernel_rfl) (by kernel_rfl) (by kernel_rfl) (by decide) ?hq1018 ?hw1018 ?hy1018 hHeld ?hr1018; (case hi1018 => (simp only [List.getElem?_toArray, List.getElem?_cons_succ, List.getElem?_cons_zero]; rfl)); (case hw1018 => rfl); (case hy1018 => (intro w hSw; go_simp; try with_reducible rfl)); (case hq1018 => exact fun _ _ _ h => h); simp only [Act.put, List.setIfInBounds_toArray, List.set_cons_zero, List.set_cons_succ])
              (refine hd_take (i := 10) (oi := ?oi1020) (v := ?v1020) ?hi1020 (by kernel_rfl) (by kernel_rfl) (by kernel_rfl) (by kernel_rfl) (by decide) ?hq1020 ?hw1020 ?hy1020 hHeld ?hr1020; (case hi1020 => (simp only [List.getElem?_toArray, List.getElem?_cons_succ, List.getElem?_cons_zero]; rfl)); (case hw1020 => rfl); (case hy1020 => (intro w hSw; go_simp; try with_reducible rfl)); (case hq1020 => exact fun _ _ _ h => h); simp only [Act.put, List.setIfInBounds_toArray, List.set_cons_zero, List.set_cons_succ])
              (refine hd_take (i := 11) (oi := ?oi1022) (v := ?v1022) ?hi1022 (by kernel_rfl) (by kernel_rfl) (by kernel_rfl) (by kernel_rfl) (by decide) ?hq1022 ?hw1022 ?hy1022 hHeld ?hr1022; (case hi1022 => (simp only [List.getElem?_toArray, List.getElem?_cons_succ, List.getElem?_cons_zero]; rfl)); (case hw1022 => rfl); (case hy1022 => (intro w hSw; go_simp; try with_reducible rfl)); (case hq1022 => exact fun _ _ _ h => h); simp only [Act.put, List.setIfInBounds_toArray, List.set_cons_zero, List.set_cons_succ])
              (refine hd_take (i := 12) (oi := ?oi1024) (v := ?v1024) ?hi1024 (by kernel_rfl) (by kernel_rfl) (by kernel_rfl) (by kernel_rfl) (by decide) ?hq1024 ?hw1024 ?hy1024 hHeld ?hr1024; (case hi1024 => (simp only [List.getElem?_toArray, List.getElem?_cons_succ, List.getElem?_cons_zero]; rfl)); (case hw1024 => rfl); (case hy1024 => (intro w hSw; go_simp; try with_reducible rfl)); (case hq1024 => exact fun _ _ _ h => h); simp only [Act.put, List.setIfInBounds_toArray, List.set_cons_zero, List.set_cons_succ])
              (refine hd_take (i := 13) (oi := ?oi1026) (v := ?v1026) ?hi1026 (by kernel_rfl) (by kernel_rfl) (by kernel_rfl) (by kernel_rfl) (by decide) ?hq1026 ?hw1026 ?hy1026 hHeld ?hr1026; (case hi1026 => (simp only [List.getElem?_toArray, List.getElem?_cons_succ, List.getElem?_cons_zero]; rfl)); (case hw1026 => rfl); (case hy1026 => (intro w hSw; go_simp; try with_reducible rfl)); (case hq1026 => exact fun _ _ _ h => h); simp only [Act.put, List.setIfInBounds_toArray, List.set_cons_zero, List.set_cons_succ])
              (refine hd_one (i := 15) (oi := ?oi1028) ?hi1028 (by kernel_rfl) (by decide) ?hr1028; (case hi1028 => (simp only [List.getElem?_toArray, List.getElem?_cons_succ, List.getElem?_cons_zero]; rfl)); intro K hK)
              go_simp
              (refine hK.out _ _ ?hS1030 (fun hHeld => ?hr1030); (case hS1030 => exact hHeld); clear hK K; try simp only [Act.put, List.setIfInBounds_toArray, List.set_cons_zero, List.set_cons_succ])
              obtain ⟨r, A2', c2', A5', c5', rfl, hVV⟩ := HV11.out
              clear hVV
              (refine hd_one (i := 16) (oi := ?oi1031) ?hi1031 (by kernel_rfl) (by decide) ?hr1031; (case hi1031 => (simp only [List.getElem?_toArray, List.getElem?_cons_succ, List.getElem?_cons_zero]; rfl)); intro K hK)
              refine st_rl_step 13 rfl rfl rfl rfl rfl Q12.out ?_
              intro xs hsx hGx hzx
              have HSx := Aside0.mk hsx
              have HGx := Aside0.mk hGx
              clear hsx hGx
              (refine hK.out _ _ ?hS1033 (fun hHeld => ?hr1033); (case hS1033 => exact gbS hHeld HGx.out (by omega)); clear hK K; try simp only [Act.put, List.setIfInBounds_toArray, List.set_cons_zero, List.set_cons_succ])
              (refine hd_one (i := 17) (oi := ?oi1034) ?hi1034 (by kernel_rfl) (by decide) ?hr1034; (case hi1034 => (simp only [List.getElem?_toArray, List.getElem?_cons_succ, List.getElem?_cons_zero]; rfl)); intro K hK)
              go_simp
              (refine hK.out _ _ ?hS1036 (fun hHeld => ?hr1036); (case hS1036 => exact hHeld); clear hK K; try simp only [Act.put, List.setIfInBounds_toArray, List.set_cons_zero, List.set_cons_succ])
              (refine hd_one (i := 18) (oi := ?oi1037) ?hi1037 (by kernel_rfl) (by decide) ?hr1037; (case hi1037 => (simp only [List.getElem?_toArray, List.getElem?_cons_succ, List.getElem?_cons_zero]; rfl)); intro K hK)
              go_simp
              (refine hK.out _ _ ?hS1039 (fun hHeld => ?hr1039); (case hS1039 => exact hHeld); clear hK K; try simp only [Act.put, List.setIfInBounds_toArray, List.set_cons_zero, List.set_cons_succ])
              (refine hd_done (by kernel_rfl) ?_; simp only [List.drop_succ_cons, List.drop_zero])
              have hK : KeyF okl okt q (fndT l x) w4 v37 (.agg #[.int .i64 r.f0.f0, .int .i64 r.f0.f1, .slice A2' r.f0.f2.length c2', .int .i64 r.f1.f0, .int .i64 r.f1.f1, .slice A5' r.f1.f2.length c5']) v39 bv (x2.heap.size) xs := ⟨hHeld, FndV.mono (okr' := fun k => w4.heap.size ≤ k ∧ k ≠ (x2.heap.size)) (FndV.grown (FndV.mono (okr' := fun k => w4.heap.size ≤ k ∧ k ≠ (x2.heap.size)) HV11.out (fun k hk => by obtain ⟨h1, h2⟩ := hk; exact ⟨by omega, by omega⟩)) HGx.out (fun k hk => by have := HOL.out k hk; omega) (fun k hk => by have := HOT.out k hk; omega) (fun k hk => hk.2)) (fun k hk => hk), ⟨_, _, _, _, _, rfl, HSx.out⟩, by omega⟩
              refine useT (key v30 v32 (Value.slice (some ⟨x3.heap.size, 0, none⟩) 1 1) (Value.slice A35 q.length c35) v37 (.agg #[.int .i64 r.f0.f0, .int .i64 r.f0.f1, .slice A2' r.f0.f2.length c2', .int .i64 r.f1.f0, .int .i64 r.f1.f1, .slice A5' r.f1.f2.length c5']) v39 bv (x2.heap.size) xs hK) ?_
              rfl
          case h2B =>
            intro K hK
            go_simp
            (refine hK.out _ _ ?hS1041 (fun hHeld => ?hr1041); (case hS1041 => exact below_alloc hHeld _); clear hK K; try simp only [Act.put, List.setIfInBounds_toArray, List.set_cons_zero, List.set_cons_succ])
            have HX2 := Aside0.mk (heap_alloc_new x1 (.cells #[.int .i64 (k : Int)] 3))
            have HG2 := Aside0.mk (below_alloc (Below.refl x1.heap.size x1) (.cells #[.int .i64 (k : Int)] 3))
            have hs2 : x1.heap.size + 1 ≤ (x1.alloc (.cells #[.int .i64 (k : Int)] 3)).heap.size := by simp
            have Q3 := Aside0.mk (Kd.N_below HN1.out HG2.out)
            generalize x1.alloc (.cells #[.int .i64 (k : Int)] 3) = x2 at *
            have ha6 : ∃ a, a = x1.heap.size := ⟨_, rfl⟩
            obtain ⟨a6, ha6⟩ := ha6
            have hw4a6 : w4.heap.size ≤ x1.heap.size := by omega
            refine hd_two (i := 4) (j := 14) (oi := ?o6A) (oj := ?o6B) ?e6A ?e6B (by kernel_rfl) (by decide) (by decide) ?h6A ?h6B
            case e6A => (simp only [List.getElem?_toArray, List.getElem?_cons_succ, List.getElem?_cons_zero]; rfl)
            case e6B => (simp only [List.getElem?_toArray, List.getElem?_cons_succ, List.getElem?_cons_zero]; rfl)
            case h6A =>
              intro K hK
              refine Kd.N_append_rows_step (Kd.int .i64) (w0 := w4) w4.heap.size rfl _ _ 22 3 _ 8 rfl Try.underlying22 infoI rfl (by decide) (by decide) v30 [] p Ap p.length cp (fun _ => True) (fun j => j < w4.heap.size) rfl rfl Q3.out (Kd.F_below HPF.out hHeld) (fun q hq => ⟨trivial, fun e => by have := Kd.N_base Q3.out q e.symm; omega⟩) (fun _ _ => trivial) hHeld hHeld.size (by have := HPL.out; simp <;> omega) ?_
              intro v32 x4 hN4 hB4 hG4 hI4
              have h32 : ∃ b32, v32.ownBlock = some b32 ∧ (b32 = b30 ∨ x2.heap.size ≤ b32) := by rcases hI4 with h | ⟨b, h, hb⟩; exact ⟨b30, h.trans hv30, .inl rfl⟩; exact ⟨b, h, .inr hb⟩
              obtain ⟨b32, hv32, hb32⟩ := h32
              have hl32 := Kd.N_lt hN4 b32 hv32
              have hs4 := hG4.size
              have HN4 := Aside0.mk hN4
              have HG4 := Aside0.mk hG4
              clear hN4 hG4 hI4
              have Q5 := Aside0.mk ((HG4.out.block _ (blk_lt HX2.out) (by rw [hv30]; intro e; injection e with e; omega)).trans HX2.out)
              (refine hK.out _ _ ?hS1044 (fun hHeld => ?hr1044); (case hS1044 => exact hB4); clear hK K; try simp only [Act.put, List.setIfInBounds_toArray, List.set_cons_zero, List.set_cons_succ])
              clear hB4
              refine hd_two (i := 7) (j := 14) (oi := ?o7A) (oj := ?o7B) ?e7A ?e7B (by kernel_rfl) (by decide) (by decide) ?h7A ?h7B
              case e7A => (simp only [List.getElem?_toArray, List.getElem?_cons_succ, List.getElem?_cons_zero]; rfl)
              case e7B => (simp only [List.getElem?_toArray, List.getElem?_cons_succ, List.getElem?_cons_zero]; rfl)
              case h7A =>
                intro K hK
                refine Kd.N_append_rows_step (Kd.int .i64) (w0 := w4) w4.heap.size rfl _ _ 22 3 _ 8 rfl Try.underlying22 infoI rfl (by decide) (by decide) v32 ([] ++ p) [(k : Int)] (some ⟨x1.heap.size, 0, none⟩) 1 1 (fun _ => True) (fun j => False ∨ j = x1.heap.size) rfl rfl HN4.out (F_int1 Q5.out) (fun q hq => ⟨trivial, fun e => by rw [hv32] at e; injection e with e; rcases hq with hq | hq; exact hq; omega⟩) (fun _ _ => trivial) hHeld hHeld.size (by have := HPL.out; simp <;> omega) ?_
                intro v35 x6 hN6 hB6 hG6 hI6
                have hs6 := hG6.size
                rw [List.nil_append, ← HQ.out] at hN6
                obtain ⟨A35, c35, rfl⟩ := Kd.N_slice hN6
                have h35 : ∃ b35, (Value.slice A35 q.length c35).ownBlock = some b35 ∧ (b35 = b32 ∨ x4.heap.size ≤ b35) := by rcases hI6 with h | ⟨b, h, hb⟩; exact ⟨b32, h.trans hv32, .inl rfl⟩; exact ⟨b, h, .inr hb⟩
                obtain ⟨b35, hv35, hb35⟩ := h35
                have hl35 := Kd.N_lt hN6 b35 hv35
                have HN6 := Aside0.mk hN6
                have HG6 := Aside0.mk hG6
                clear hN6 hG6 hI6
                have Q7 := Aside0.mk ((HG6.out.block _ (blk_lt Q5.out) (by rw [hv32]; intro e; injection e with e; omega)).trans Q5.out)
                (refine hK.out _ _ ?hS1047 (fun hHeld => ?hr1047); (case hS1047 => exact hB6); clear hK K; try simp only [Act.put, List.setIfInBounds_toArray, List.set_cons_zero, List.set_cons_succ])
                clear hB6
                refine hd_two (i := 8) (j := 14) (oi := ?o8A) (oj := ?o8B) ?e8A ?e8B (by kernel_rfl) (by decide) (by decide) ?h8A ?h8B
                case e8A => (simp only [List.getElem?_toArray, List.getElem?_cons_succ, List.getElem?_cons_zero]; rfl)
                case e8B => (simp only [List.getElem?_toArray, List.getElem?_cons_succ, List.getElem?_cons_zero]; rfl)
                case h8A =>
                  intro K hK
                  go_simp
                  have hRd := Kd.N_reads' HN6.out
                  go_at_call 104
                  refine (IHX.out x6 A35 c35 b35 hHeld (by omega) (Kd.F_mono (Kd.N_F (N_int_tight HN6.out)) (fun j hj => by rw [hv35] at hj; injection hj with hj; exact hj.symm)) hRd.2.1).mono ?_
                  rintro e x8 ⟨v37, v38, v39, bv, rfl, hV8, hb8⟩
                  have hs8 := hb8.size
                  have HV8 := Aside0.mk hV8
                  have HG8 := Aside0.mk hb8
                  clear hV8 hRd
                  have Q9 := Aside0.mk ((HG8.out.block _ (blk_lt Q7.out)).trans Q7.out)
                  go_simp
                  (refine hK.out _ _ ?hS1050 (fun hHeld => ?hr1050); (case hS1050 => exact hbT hHeld HG8.out); clear hK K; try simp only [Act.put, List.setIfInBounds_toArray, List.set_cons_zero, List.set_cons_succ])
                  clear hb8
                  (refine hd_take (i := 9) (oi := ?oi1051) (v := ?v1051) ?hi1051 (by kernel_rfl) (by kernel_rfl) (by kernel_rfl) (by kernel_rfl) (by decide) ?hq1051 ?hw1051 ?hy1051 hHeld ?hr1051; (case hi1051 => (simp only [List.getElem?_toArray, List.getElem?_cons_succ, List.getElem?_cons_zero]; rfl)); (case hw1051 => rfl); (case hy1051 => (intro w hSw; go_simp; try with_reducible rfl)); (case hq1051 => exact fun _ _ _ h => h); simp only [Act.put, List.setIfInBounds_toArray, List.set_cons_zero, List.set_cons_succ])
                  (refine hd_take (i := 10) (oi := ?oi1053) (v := ?v1053) ?hi1053 (by kernel_rfl) (by kernel_rfl) (by kernel_rfl) (by kernel_rfl) (by decide) ?hq1053 ?hw1053 ?hy1053 hHeld ?hr1053; (case hi1053 => (simp only [List.getElem?_toArray, List.getElem?_cons_succ, List.getElem?_cons_zero]; rfl)); (case hw1053 => rfl); (case hy1053 => (intro w hSw; go_simp; try with_reducible rfl)); (case hq1053 => exact fun _ _ _ h => h); simp only [Act.put, List.setIfInBounds_toArray, List.set_cons_zero, List.set_cons_succ])
                  (refine hd_take (i := 11) (oi := ?oi1055) (v := ?v1055) ?hi1055 (by kernel_rfl) (by kernel_rfl) (by kernel_rfl) (by kernel_rfl) (by decide) ?hq1055 ?hw1055 ?hy1055 hHeld ?hr1055; (case hi1055 => (simp only [List.getElem?_toArray, List.getElem?_cons_succ, List.getElem?_cons_zero]; rfl)); (case hw1055 => rfl); (case hy1055 => (intro w hSw; go_simp; try with_reducible rfl)); (case hq1055 => exact fun _ _ _ h => h); simp only [Act.put, List.setIfInBounds_toArray, List.set_cons_zero, List.set_cons_succ])
                  (refine hd_take (i := 12) (oi := ?oi1057) (v := ?v1057) ?hi1057 (by kernel_rfl) (by kernel_rfl) (by kernel_rfl) (by kernel_rfl) (by decide) ?hq1057 ?hw1057 ?hy1057 hHeld ?hr1057; (case hi1057 => (simp only [List.getElem?_toArray, List.getElem?_cons_succ, List.getElem?_cons_zero]; rfl)); (case hw1057 => rfl); (case hy1057 => (intro w hSw; go_simp; try with_reducible rfl)); (case hq1057 => exact fun _ _ _ h => h); simp only [Act.put, List.setIfInBounds_toArray, List.set_cons_zero, List.set_cons_succ])
                  (refine hd_take (i := 13) (oi := ?oi1059) (v := ?v1059) ?hi1059 (by kernel_rfl) (by kernel_rfl) (by kernel_rfl) (by kernel_rfl) (by decide) ?hq1059 ?hw1059 ?hy1059 hHeld ?hr1059; (case hi1059 => (simp only [List.getElem?_toArray, List.getElem?_cons_succ, List.getElem?_cons_zero]; rfl)); (case hw1059 => rfl); (case hy1059 => (intro w hSw; go_simp; try with_reducible rfl)); (case hq1059 => exact fun _ _ _ h => h); simp only [Act.put, List.setIfInBounds_toArray, List.set_cons_zero, List.set_cons_succ])
                  (refine hd_one (i := 14) (oi := ?oi1061) ?hi1061 (by kernel_rfl) (by decide) ?hr1061; (case hi1061 => (simp only [List.getElem?_toArray, List.getElem?_cons_succ, List.getElem?_cons_zero]; rfl)); intro K hK)
                  go_simp
                  (refine hK.out _ _ ?hS1063 (fun hHeld => ?hr1063); (case hS1063 => exact below_alloc hHeld _); clear hK K; try simp only [Act.put, List.setIfInBounds_toArray, List.set_cons_zero, List.set_cons_succ])
                  have HX10 := Aside0.mk (heap_alloc_new x8 (.cells #[.int .i64 0, .int .i64 0, .slice none 0 0, .int .i64 0, .int .i64 0, .slice none 0 0] 100))
                  have HG10 := Aside0.mk (below_alloc (Below.refl x8.heap.size x8) (.cells #[.int .i64 0, .int .i64 0, .slice none 0 0, .int .i64 0, .int .i64 0, .slice none 0 0] 100))
                  have hs10 : x8.heap.size + 1 ≤ (x8.alloc (.cells #[.int .i64 0, .int .i64 0, .slice none 0 0, .int .i64 0, .int .i64 0, .slice none 0 0] 100)).heap.size := by simp
                  have Q11 := Aside0.mk ((HG10.out.block _ (blk_lt Q9.out)).trans Q9.out)
                  have Q12 := Aside0.mk (HV8.out.below HG10.out)
                  generalize x8.alloc (.cells #[.int .i64 0, .int .i64 0, .slice none 0 0, .int .i64 0, .int .i64 0, .slice none 0 0] 100) = x10 at *
                  have ha14 : ∃ a, a = x8.heap.size := ⟨_, rfl⟩
                  obtain ⟨a14, ha14⟩ := ha14
                  have hw4a14 : w4.heap.size ≤ x8.heap.size := by omega
                  (refine hd_one (i := 15) (oi := ?oi1064) ?hi1064 (by kernel_rfl) (by decide) ?hr1064; (case hi1064 => (simp only [List.getElem?_toArray, List.getElem?_cons_succ, List.getElem?_cons_zero]; rfl)); intro K hK)
                  go_simp
                  (refine hK.out _ _ ?hS1066 (fun hHeld => ?hr1066); (case hS1066 => exact hHeld); clear hK K; try simp only [Act.put, List.setIfInBounds_toArray, List.set_cons_zero, List.set_cons_succ])
                  obtain ⟨r, A2', c2', A5', c5', rfl, hVV⟩ := Q12.out
                  clear hVV
                  (refine hd_one (i := 16) (oi := ?oi1067) ?hi1067 (by kernel_rfl) (by decide) ?hr1067; (case hi1067 => (simp only [List.getElem?_toArray, List.getElem?_cons_succ, List.getElem?_cons_zero]; rfl)); intro K hK)
                  refine st_rl_step 13 rfl rfl rfl rfl rfl HX10.out ?_
                  intro xs hsx hGx hzx
                  have HSx := Aside0.mk hsx
                  have HGx := Aside0.mk hGx
                  clear hsx hGx
                  (refine hK.out _ _ ?hS1069 (fun hHeld => ?hr1069); (case hS1069 => exact gbS hHeld HGx.out (by omega)); clear hK K; try simp only [Act.put, List.setIfInBounds_toArray, List.set_cons_zero, List.set_cons_succ])
                  (refine hd_one (i := 17) (oi := ?oi1070) ?hi1070 (by kernel_rfl) (by decide) ?hr1070; (case hi1070 => (simp only [List.getElem?_toArray, List.getElem?_cons_succ, List.getElem?_cons_zero]; rfl)); intro K hK)
                  go_simp
                  (refine hK.out _ _ ?hS1072 (fun hHeld => ?hr1072); (case hS1072 => exact hHeld); clear hK K; try simp only [Act.put, List.setIfInBounds_toArray, List.set_cons_zero, List.set_cons_succ])
                  (refine hd_one (i := 18) (oi := ?oi1073) ?hi1073 (by kernel_rfl) (by decide) ?hr1073; (case hi1073 => (simp only [List.getElem?_toArray, List.getElem?_cons_succ, List.getElem?_cons_zero]; rfl)); intro K hK)
                  go_simp
                  (refine hK.out _ _ ?hS1075 (fun hHeld => ?hr1075); (case hS1075 => exact hHeld); clear hK K; try simp only [Act.put, List.setIfInBounds_toArray, List.set_cons_zero, List.set_cons_succ])
                  (refine hd_done (by kernel_rfl) ?_; simp only [List.drop_succ_cons, List.drop_zero])
                  have hK : KeyF okl okt q (fndT l x) w4 v37 (.agg #[.int .i64 r.f0.f0, .int .i64 r.f0.f1, .slice A2' r.f0.f2.length c2', .int .i64 r.f1.f0, .int .i64 r.f1.f1, .slice A5' r.f1.f2.length c5']) v39 bv (x8.heap.size) xs := ⟨hHeld, FndV.mono (okr' := fun k => w4.heap.size ≤ k ∧ k ≠ (x8.heap.size)) (FndV.grown (FndV.mono (okr' := fun k => w4.heap.size ≤ k ∧ k ≠ (x8.heap.size)) Q12.out (fun k hk => by obtain ⟨h1, h2⟩ := hk; exact ⟨by omega, by omega⟩)) HGx.out (fun k hk => by have := HOL.out k hk; omega) (fun k hk => by have := HOT.out k hk; omega) (fun k hk => hk.2)) (fun k hk => hk), ⟨_, _, _, _, _, rfl, HSx.out⟩, by omega⟩
                  refine useT (key v30 v32 (Value.slice (some ⟨x1.heap.size, 0, none⟩) 1 1) (Value.slice A35 q.length c35) v37 (.agg #[.int .i64 r.f0.f0, .int .i64 r.f0.f1, .slice A2' r.f0.f2.length c2', .int .i64 r.f1.f0, .int .i64 r.f1.f1, .slice A5' r.f1.f2.length c5']) v39 bv (x8.heap.size) xs hK) ?_
                  rfl
                case h8B =>
                  intro K hK
                  go_simp
                  (refine hK.out _ _ ?hS1077 (fun hHeld => ?hr1077); (case hS1077 => exact below_alloc hHeld _); clear hK K; try simp only [Act.put, List.setIfInBounds_toArray, List.set_cons_zero, List.set_cons_succ])
                  have HX8 := Aside0.mk (heap_alloc_new x6 (.cells #[.int .i64 0, .int .i64 0, .slice none 0 0, .int .i64 0, .int .i64 0, .slice none 0 0] 100))
                  have HG8 := Aside0.mk (below_alloc (Below.refl x6.heap.size x6) (.cells #[.int .i64 0, .int .i64 0, .slice none 0 0, .int .i64 0, .int .i64 0, .slice none 0 0] 100))
                  have hs8 : x6.heap.size + 1 ≤ (x6.alloc (.cells #[.int .i64 0, .int .i64 0, .slice none 0 0, .int .i64 0, .int .i64 0, .slice none 0 0] 100)).heap.size := by simp
                  have Q9 := Aside0.mk ((HG8.out.block _ (blk_lt Q7.out)).trans Q7.out)
                  have Q10 := Aside0.mk (Kd.N_below HN6.out HG8.out)
                  generalize x6.alloc (.cells #[.int .i64 0, .int .i64 0, .slice none 0 0, .int .i64 0, .int .i64 0, .slice none 0 0] 100) = x8 at *
                  have ha14 : ∃ a, a = x6.heap.size := ⟨_, rfl⟩
                  obtain ⟨a14, ha14⟩ := ha14
                  have hw4a14 : w4.heap.size ≤ x6.heap.size := by omega
                  (refine hd_one (i := 8) (oi := ?oi1078) ?hi1078 (by kernel_rfl) (by decide) ?hr1078; (case hi1078 => (simp only [List.getElem?_toArray, List.getElem?_cons_succ, List.getElem?_cons_zero]; rfl)); intro K hK)
                  go_simp
                  have hRd := Kd.N_reads' Q10.out
                  go_at_call 104
                  refine (IHX.out x8 A35 c35 b35 hHeld (by omega) (Kd.F_mono (Kd.N_F (N_int_tight Q10.out)) (fun j hj => by rw [hv35] at hj; injection hj with hj; exact hj.symm)) hRd.2.1).mono ?_
                  rintro e x11 ⟨v37, v38, v39, bv, rfl, hV11, hb11⟩
                  have hs11 := hb11.size
                  have HV11 := Aside0.mk hV11
                  have HG11 := Aside0.mk hb11
                  clear hV11 hRd
                  have Q12 := Aside0.mk ((HG11.out.block _ (blk_lt Q9.out)).trans Q9.out)
                  have Q13 := Aside0.mk ((HG11.out.block _ (blk_lt HX8.out)).trans HX8.out)
                  go_simp
                  (refine hK.out _ _ ?hS1080 (fun hHeld => ?hr1080); (case hS1080 => exact hbT hHeld HG11.out); clear hK K; try simp only [Act.put, List.setIfInBounds_toArray, List.set_cons_zero, List.set_cons_succ])
                  clear hb11
                  (refine hd_take (i := 9) (oi := ?oi1081) (v := ?v1081) ?hi1081 (by kernel_rfl) (by kernel_rfl) (by kernel_rfl) (by kernel_rfl) (by decide) ?hq1081 ?hw1081 ?hy1081 hHeld ?hr1081; (case hi1081 => (simp only [List.getElem?_toArray, List.getElem?_cons_succ, List.getElem?_cons_zero]; rfl)); (case hw1081 => rfl); (case hy1081 => (intro w hSw; go_simp; try with_reducible rfl)); (case hq1081 => exact fun _ _ _ h => h); simp only [Act.put, List.setIfInBounds_toArray, List.set_cons_zero, List.set_cons_succ])
                  (refine hd_take (i := 10) (oi := ?oi1083) (v := ?v1083) ?hi1083 (by kernel_rfl) (by kernel_rfl) (by kernel_rfl) (by kernel_rfl) (by decide) ?hq1083 ?hw1083 ?hy1083 hHeld ?hr1083; (case hi1083 => (simp only [List.getElem?_toArray, List.getElem?_cons_succ, List.getElem?_cons_zero]; rfl)); (case hw1083 => rfl); (case hy1083 => (intro w hSw; go_simp; try with_reducible rfl)); (case hq1083 => exact fun _ _ _ h => h); simp only [Act.put, List.setIfInBounds_toArray, List.set_cons_zero, List.set_cons_succ])
                  (refine hd_take (i := 11) (oi := ?oi1085) (v := ?v1085) ?hi1085 (by kernel_rfl) (by kernel_rfl) (by kernel_rfl) (by kernel_rfl) (by decide) ?hq1085 ?hw1085 ?hy1085 hHeld ?hr1085; (case hi1085 => (simp only [List.getElem?_toArray, List.getElem?_cons_succ, List.getElem?_cons_zero]; rfl)); (case hw1085 => rfl); (case hy1085 => (intro w hSw; go_simp; try with_reducible rfl)); (case hq1085 => exact fun _ _ _ h => h); simp only [Act.put, List.setIfInBounds_toArray, List.set_cons_zero, List.set_cons_succ])
                  (refine hd_take (i := 12) (oi := ?oi1087) (v := ?v1087) ?hi1087 (by kernel_rfl) (by kernel_rfl) (by kernel_rfl) (by kernel_rfl) (by decide) ?hq1087 ?hw1087 ?hy1087 hHeld ?hr1087; (case hi1087 => (simp only [List.getElem?_toArray, List.getElem?_cons_succ, List.getElem?_cons_zero]; rfl)); (case hw1087 => rfl); (case hy1087 => (intro w hSw; go_simp; try with_reducible rfl)); (case hq1087 => exact fun _ _ _ h => h); simp only [Act.put, List.setIfInBounds_toArray, List.set_cons_zero, List.set_cons_succ])
                  (refine hd_take (i := 13) (oi := ?oi1089) (v := ?v1089) ?hi1089 (by kernel_rfl) (by kernel_rfl) (by kernel_rfl) (by kernel_rfl) (by decide) ?hq1089 ?hw1089 ?hy1089 hHeld ?hr1089; (case hi1089 => (simp only [List.getElem?_toArray, List.getElem?_cons_succ, List.getElem?_cons_zero]; rfl)); (case hw1089 => rfl); (case hy1089 => (intro w hSw; go_simp; try with_reducible rfl)); (case hq1089 => exact fun _ _ _ h => h); simp only [Act.put, List.setIfInBounds_toArray, List.set_cons_zero, List.set_cons_succ])
                  (refine hd_one (i := 15) (oi := ?oi1091) ?hi1091 (by kernel_rfl) (by decide) ?hr1091; (case hi1091 => (simp only [List.getElem?_toArray, List.getElem?_cons_succ, List.getElem?_cons_zero]; rfl)); intro K hK)
                  go_simp
                  (refine hK.out _ _ ?hS1093 (fun hHeld => ?hr1093); (case hS1093 => exact hHeld); clear hK K; try simp only [Act.put, List.setIfInBounds_toArray, List.set_cons_zero, List.set_cons_succ])
                  obtain ⟨r, A2', c2', A5', c5', rfl, hVV⟩ := HV11.out
                  clear hVV
                  (refine hd_one (i := 16) (oi := ?oi1094) ?hi1094 (by kernel_rfl) (by decide) ?hr1094; (case hi1094 => (simp only [List.getElem?_toArray, List.getElem?_cons_succ, List.getElem?_cons_zero]; rfl)); intro K hK)
                  refine st_rl_step 13 rfl rfl rfl rfl rfl Q13.out ?_
                  intro xs hsx hGx hzx
                  have HSx := Aside0.mk hsx
                  have HGx := Aside0.mk hGx
                  clear hsx hGx
                  (refine hK.out _ _ ?hS1096 (fun hHeld => ?hr1096); (case hS1096 => exact gbS hHeld HGx.out (by omega)); clear hK K; try simp only [Act.put, List.setIfInBounds_toArray, List.set_cons_zero, List.set_cons_succ])
                  (refine hd_one (i := 17) (oi := ?oi1097) ?hi1097 (by kernel_rfl) (by decide) ?hr1097; (case hi1097 => (simp only [List.getElem?_toArray, List.getElem?_cons_succ, List.getElem?_cons_zero]; rfl)); intro K hK)
                  go_simp
                  (refine hK.out _ _ ?hS1099 (fun hHeld => ?hr1099); (case hS1099 => exact hHeld); clear hK K; try simp only [Act.put, List.setIfInBounds_toArray, List.set_cons_zero, List.set_cons_succ])
                  (refine hd_one (i := 18) (oi := ?oi1100) ?hi1100 (by kernel_rfl) (by decide) ?hr1100; (case hi1100 => (simp only [List.getElem?_toArray, List.getElem?_cons_succ, List.getElem?_cons_zero]; rfl)); intro K hK)
                  go_simp
                  (refine hK.out _ _ ?hS1102 (fun hHeld => ?hr1102); (case hS1102 => exact hHeld); clear hK K; try simp only [Act.put, List.setIfInBounds_toArray, List.set_cons_zero, List.set_cons_succ])
                  (refine hd_done (by kernel_rfl) ?_; simp only [List.drop_succ_cons, List.drop_zero])
                  have hK : KeyF okl okt q (fndT l x) w4 v37 (.agg #[.int .i64 r.f0.f0, .int .i64 r.f0.f1, .slice A2' r.f0.f2.length c2', .int .i64 r.f1.f0, .int .i64 r.f1.f1, .slice A5' r.f1.f2.length c5']) v39 bv (x6.heap.size) xs := ⟨hHeld, FndV.mono (okr' := fun k => w4.heap.size ≤ k ∧ k ≠ (x6.heap.size)) (FndV.grown (FndV.mono (okr' := fun k => w4.heap.size ≤ k ∧ k ≠ (x6.heap.size)) HV11.out (fun k hk => by obtain ⟨h1, h2⟩ := hk; exact ⟨by omega, by omega⟩)) HGx.out (fun k hk => by have := HOL.out k hk; omega) (fun k hk => by have := HOT.out k hk; omega) (fun k hk => hk.2)) (fun k hk => hk), ⟨_, _, _, _, _, rfl, HSx.out⟩, by omega⟩
                  refine useT (key v30 v32 (Value.slice (some ⟨x1.heap.size, 0, none⟩) 1 1) (Value.slice A35 q.length c35) v37 (.agg #[.int .i64 r.f0.f0, .int .i64 r.f0.f1, .slice A2' r.f0.f2.length c2', .int .i64 r.f1.f0, .int .i64 r.f1.f1, .slice A5' r.f1.f2.length c5']) v39 bv (x6.heap.size) xs hK) ?_
                  rfl
              case h7B =>
                intro K hK
                go_simp
                (refine hK.out _ _ ?hS1104 (fun hHeld => ?hr1104); (case hS1104 => exact below_alloc hHeld _); clear hK K; try simp only [Act.put, List.setIfInBounds_toArray, List.set_cons_zero, List.set_cons_succ])
                have HX6 := Aside0.mk (heap_alloc_new x4 (.cells #[.int .i64 0, .int .i64 0, .slice none 0 0, .int .i64 0, .int .i64 0, .slice none 0 0] 100))
                have HG6 := Aside0.mk (below_alloc (Below.refl x4.heap.size x4) (.cells #[.int .i64 0, .int .i64 0, .slice none 0 0, .int .i64 0, .int .i64 0, .slice none 0 0] 100))
                have hs6 : x4.heap.size + 1 ≤ (x4.alloc (.cells #[.int .i64 0, .int .i64 0, .slice none 0 0, .int .i64 0, .int .i64 0, .slice none 0 0] 100)).heap.size := by simp
                have Q7 := Aside0.mk ((HG6.out.block _ (blk_lt Q5.out)).trans Q5.out)
                have Q8 := Aside0.mk (Kd.N_below HN4.out HG6.out)
                generalize x4.alloc (.cells #[.int .i64 0, .int .i64 0, .slice none 0 0, .int .i64 0, .int .i64 0, .slice none 0 0] 100) = x6 at *
                have ha14 : ∃ a, a = x4.heap.size := ⟨_, rfl⟩
                obtain ⟨a14, ha14⟩ := ha14
                have hw4a14 : w4.heap.size ≤ x4.heap.size := by omega
                (refine hd_one (i := 7) (oi := ?oi1105) ?hi1105 (by kernel_rfl) (by decide) ?hr1105; (case hi1105 => (simp only [List.getElem?_toArray, List.getElem?_cons_succ, List.getElem?_cons_zero]; rfl)); intro K hK)
                refine Kd.N_append_rows_step (Kd.int .i64) (w0 := w4) w4.heap.size rfl _ _ 22 3 _ 8 rfl Try.underlying22 infoI rfl (by decide) (by decide) v32 ([] ++ p) [(k : Int)] (some ⟨x1.heap.size, 0, none⟩) 1 1 (fun _ => True) (fun j => False ∨ j = x1.heap.size) rfl rfl Q8.out (F_int1 Q7.out) (fun q hq => ⟨trivial, fun e => by rw [hv32] at e; injection e with e; rcases hq with hq | hq; exact hq; omega⟩) (fun _ _ => trivial) hHeld hHeld.size (by have := HPL.out; simp <;> omega) ?_
                intro v35 x9 hN9 hB9 hG9 hI9
                have hs9 := hG9.size
                rw [List.nil_append, ← HQ.out] at hN9
                obtain ⟨A35, c35, rfl⟩ := Kd.N_slice hN9
                have h35 : ∃ b35, (Value.slice A35 q.length c35).ownBlock = some b35 ∧ (b35 = b32 ∨ x6.heap.size ≤ b35) := by rcases hI9 with h | ⟨b, h, hb⟩; exact ⟨b32, h.trans hv32, .inl rfl⟩; exact ⟨b, h, .inr hb⟩
                obtain ⟨b35, hv35, hb35⟩ := h35
                have hl35 := Kd.N_lt hN9 b35 hv35
                have HN9 := Aside0.mk hN9
                have HG9 := Aside0.mk hG9
                clear hN9 hG9 hI9
                have Q10 := Aside0.mk ((HG9.out.block _ (blk_lt Q7.out) (by rw [hv32]; intro e; injection e with e; omega)).trans Q7.out)
                have Q11 := Aside0.mk ((HG9.out.block _ (blk_lt HX6.out) (by rw [hv32]; intro e; injection e with e; omega)).trans HX6.out)
                (refine hK.out _ _ ?hS1107 (fun hHeld => ?hr1107); (case hS1107 => exact hB9); clear hK K; try simp only [Act.put, List.setIfInBounds_toArray, List.set_cons_zero, List.set_cons_succ])
                clear hB9
                (refine hd_one (i := 8) (oi := ?oi1108) ?hi1108 (by kernel_rfl) (by decide) ?hr1108; (case hi1108 => (simp only [List.getElem?_toArray, List.getElem?_cons_succ, List.getElem?_cons_zero]; rfl)); intro K hK)
                go_simp
                have hRd := Kd.N_reads' HN9.out
                go_at_call 104
                refine (IHX.out x9 A35 c35 b35 hHeld (by omega) (Kd.F_mono (Kd.N_F (N_int_tight HN9.out)) (fun j hj => by rw [hv35] at hj; injection hj with hj; exact hj.symm)) hRd.2.1).mono ?_
                rintro e x12 ⟨v37, v38, v39, bv, rfl, hV12, hb12⟩
                have hs12 := hb12.size
                have HV12 := Aside0.mk hV12
                have HG12 := Aside0.mk hb12
                clear hV12 hRd
                have Q13 := Aside0.mk ((HG12.out.block _ (blk_lt Q10.out)).trans Q10.out)
                have Q14 := Aside0.mk ((HG12.out.block _ (blk_lt Q11.out)).trans Q11.out)
                go_simp
                (refine hK.out _ _ ?hS1110 (fun hHeld => ?hr1110); (case hS1110 => exact hbT hHeld HG12.out); clear hK K; try simp only [Act.put, List.setIfInBounds_toArray, List.set_cons_zero, List.set_cons_succ])
                clear hb12
                (refine hd_take (i := 9) (oi := ?oi1111) (v := ?v1111) ?hi1111 (by kernel_rfl) (by kernel_rfl) (by kernel_rfl) (by kernel_rfl) (by decide) ?hq1111 ?hw1111 ?hy1111 hHeld ?hr1111; (case hi1111 => (simp only [List.getElem?_toArray, List.getElem?_cons_succ, List.getElem?_cons_zero]; rfl)); (case hw1111 => rfl); (case hy1111 => (intro w hSw; go_simp; try with_reducible rfl)); (case hq1111 => exact fun _ _ _ h => h); simp only [Act.put, List.setIfInBounds_toArray, List.set_cons_zero, List.set_cons_succ])
                (refine hd_take (i := 10) (oi := ?oi1113) (v := ?v1113) ?hi1113 (by kernel_rfl) (by kernel_rfl) (by kernel_rfl) (by kernel_rfl) (by decide) ?hq1113 ?hw1113 ?hy1113 hHeld ?hr1113; (case hi1113 => (simp only [List.getElem?_toArray, List.getElem?_cons_succ, List.getElem?_cons_zero]; rfl)); (case hw1113 => rfl); (case hy1113 => (intro w hSw; go_simp; try with_reducible rfl)); (case hq1113 => exact fun _ _ _ h => h); simp only [Act.put, List.setIfInBounds_toArray, List.set_cons_zero, List.set_cons_succ])
                (refine hd_take (i := 11) (oi := ?oi1115) (v := ?v1115) ?hi1115 (by kernel_rfl) (by kernel_rfl) (by kernel_rfl) (by kernel_rfl) (by decide) ?hq1115 ?hw1115 ?hy1115 hHeld ?hr1115; (case hi1115 => (simp only [List.getElem?_toArray, List.getElem?_cons_succ, List.getElem?_cons_zero]; rfl)); (case hw1115 => rfl); (case hy1115 => (intro w hSw; go_simp; try with_reducible rfl)); (case hq1115 => exact fun _ _ _ h => h); simp only [Act.put, List.setIfInBounds_toArray, List.set_cons_zero, List.set_cons_succ])
                (refine hd_take (i := 12) (oi := ?oi1117) (v := ?v1117) ?hi1117 (by kernel_rfl) (by kernel_rfl) (by kernel_rfl) (by kernel_rfl) (by decide) ?hq1117 ?hw1117 ?hy1117 hHeld ?hr1117; (case hi1117 => (simp only [List.getElem?_toArray, List.getElem?_cons_succ, List.getElem?_cons_zero]; rfl)); (case hw1117 => rfl); (case hy1117 => (intro w hSw; go_simp; try with_reducible rfl)); (case hq1117 => exact fun _ _ _ h => h); simp only [Act.put, List.setIfInBounds_toArray, List.set_cons_zero, List.set_cons_succ])
                (refine hd_take (i := 13) (oi := ?oi1119) (v := ?v1119) ?hi1119 (by kernel_rfl) (by kernel_rfl) (by kernel_rfl) (by kernel_rfl) (by decide) ?hq1119 ?hw1119 ?hy1119 hHeld ?hr1119; (case hi1119 => (simp only [List.getElem?_toArray, List.getElem?_cons_succ, List.getElem?_cons_zero]; rfl)); (case hw1119 => rfl); (case hy1119 => (intro w hSw; go_simp; try with_reducible rfl)); (case hq1119 => exact fun _ _ _ h => h); simp only [Act.put, List.setIfInBounds_toArray, List.set_cons_zero, List.set_cons_succ])
                (refine hd_one (i := 15) (oi := ?oi1121) ?hi1121 (by kernel_rfl) (by decide) ?hr1121; (case hi1121 => (simp only [List.getElem?_toArray, List.getElem?_cons_succ, List.getElem?_cons_zero]; rfl)); intro K hK)
                go_simp
                (refine hK.out _ _ ?hS1123 (fun hHeld => ?hr1123); (case hS1123 => exact hHeld); clear hK K; try simp only [Act.put, List.setIfInBounds_toArray, List.set_cons_zero, List.set_cons_succ])
                obtain ⟨r, A2', c2', A5', c5', rfl, hVV⟩ := HV12.out
                clear hVV
                (refine hd_one (i := 16) (oi := ?oi1124) ?hi1124 (by kernel_rfl) (by decide) ?hr1124; (case hi1124 => (simp only [List.getElem?_toArray, List.getElem?_cons_succ, List.getElem?_cons_zero]; rfl)); intro K hK)
                refine st_rl_step 13 rfl rfl rfl rfl rfl Q14.out ?_
                intro xs hsx hGx hzx
                have HSx := Aside0.mk hsx
                have HGx := Aside0.mk hGx
                clear hsx hGx
                (refine hK.out _ _ ?hS1126 (fun hHeld => ?hr1126); (case hS1126 => exact gbS hHeld HGx.out (by omega)); clear hK K; try simp only [Act.put, List.setIfInBounds_toArray, List.set_cons_zero, List.set_cons_succ])
                (refine hd_one (i := 17) (oi := ?oi1127) ?hi1127 (by kernel_rfl) (by decide) ?hr1127; (case hi1127 => (simp only [List.getElem?_toArray, List.getElem?_cons_succ, List.getElem?_cons_zero]; rfl)); intro K hK)
                go_simp
                (refine hK.out _ _ ?hS1129 (fun hHeld => ?hr1129); (case hS1129 => exact hHeld); clear hK K; try simp only [Act.put, List.setIfInBounds_toArray, List.set_cons_zero, List.set_cons_succ])
                (refine hd_one (i := 18) (oi := ?oi1130) ?hi1130 (by kernel_rfl) (by decide) ?hr1130; (case hi1130 => (simp only [List.getElem?_toArray, List.getElem?_cons_succ, List.getElem?_cons_zero]; rfl)); intro K hK)
                go_simp
                (refine hK.out _ _ ?hS1132 (fun hHeld => ?hr1132); (case hS1132 => exact hHeld); clear hK K; try simp only [Act.put, List.setIfInBounds_toArray, List.set_cons_zero, List.set_cons_succ])
                (refine hd_done (by kernel_rfl) ?_; simp only [List.drop_succ_cons, List.drop_zero])
                have hK : KeyF okl okt q (fndT l x) w4 v37 (.agg #[.int .i64 r.f0.f0, .int .i64 r.f0.f1, .slice A2' r.f0.f2.length c2', .int .i64 r.f1.f0, .int .i64 r.f1.f1, .slice A5' r.f1.f2.length c5']) v39 bv (x4.heap.size) xs := ⟨hHeld, FndV.mono (okr' := fun k => w4.heap.size ≤ k ∧ k ≠ (x4.heap.size)) (FndV.grown (FndV.mono (okr' := fun k => w4.heap.size ≤ k ∧ k ≠ (x4.heap.size)) HV12.out (fun k hk => by obtain ⟨h1, h2⟩ := hk; exact ⟨by omega, by omega⟩)) HGx.out (fun k hk => by have := HOL.out k hk; omega) (fun k hk => by have := HOT.out k hk; omega) (fun k hk => hk.2)) (fun k hk => hk), ⟨_, _, _, _, _, rfl, HSx.out⟩, by omega⟩
                refine useT (key v30 v32 (Value.slice (some ⟨x1.heap.size, 0, none⟩) 1 1) (Value.slice A35 q.length c35) v37 (.agg #[.int .i64 r.f0.f0, .int .i64 r.f0.f1, .slice A2' r.f0.f2.length c2', .int .i64 r.f1.f0, .int .i64 r.f1.f1, .slice A5' r.f1.f2.length c5']) v39 bv (x4.heap.size) xs hK) ?_
                rfl
            case h6B =>
              intro K hK
              go_simp
              (refine hK.out _ _ ?hS1134 (fun hHeld => ?hr1134); (case hS1134 => exact below_alloc hHeld _); clear hK K; try simp only [Act.put, List.setIfInBounds_toArray, List.set_cons_zero, List.set_cons_succ])
              have HX4 := Aside0.mk (heap_alloc_new x2 (.cells #[.int .i64 0, .int .i64 0, .slice none 0 0, .int .i64 0, .int .i64 0, .slice none 0 0] 100))
              have HG4 := Aside0.mk (below_alloc (Below.refl x2.heap.size x2) (.cells #[.int .i64 0, .int .i64 0, .slice none 0 0, .int .i64 0, .int .i64 0, .slice none 0 0] 100))
              have hs4 : x2.heap.size + 1 ≤ (x2.alloc (.cells #[.int .i64 0, .int .i64 0, .slice none 0 0, .int .i64 0, .int .i64 0, .slice none 0 0] 100)).heap.size := by simp
              have Q5 := Aside0.mk (Kd.N_below Q3.out HG4.out)
              have Q6 := Aside0.mk ((HG4.out.block _ (blk_lt HX2.out)).trans HX2.out)
              generalize x2.alloc (.cells #[.int .i64 0, .int .i64 0, .slice none 0 0, .int .i64 0, .int .i64 0, .slice none 0 0] 100) = x4 at *
              have ha14 : ∃ a, a = x2.heap.size := ⟨_, rfl⟩
              obtain ⟨a14, ha14⟩ := ha14
              have hw4a14 : w4.heap.size ≤ x2.heap.size := by omega
              (refine hd_one (i := 4) (oi := ?oi1135) ?hi1135 (by kernel_rfl) (by decide) ?hr1135; (case hi1135 => (simp only [List.getElem?_toArray, List.getElem?_cons_succ, List.getElem?_cons_zero]; rfl)); intro K hK)
              refine Kd.N_append_rows_step (Kd.int .i64) (w0 := w4) w4.heap.size rfl _ _ 22 3 _ 8 rfl Try.underlying22 infoI rfl (by decide) (by decide) v30 [] p Ap p.length cp (fun _ => True) (fun j => j < w4.heap.size) rfl rfl Q5.out (Kd.F_below HPF.out hHeld) (fun q hq => ⟨trivial, fun e => by have := Kd.N_base Q5.out q e.symm; omega⟩) (fun _ _ => trivial) hHeld hHeld.size (by have := HPL.out; simp <;> omega) ?_
              intro v32 x7 hN7 hB7 hG7 hI7
              have h32 : ∃ b32, v32.ownBlock = some b32 ∧ (b32 = b30 ∨ x4.heap.size ≤ b32) := by rcases hI7 with h | ⟨b, h, hb⟩; exact ⟨b30, h.trans hv30, .inl rfl⟩; exact ⟨b, h, .inr hb⟩
              obtain ⟨b32, hv32, hb32⟩ := h32
              have hl32 := Kd.N_lt hN7 b32 hv32
              have hs7 := hG7.size
              have HN7 := Aside0.mk hN7
              have HG7 := Aside0.mk hG7
              clear hN7 hG7 hI7
              have Q8 := Aside0.mk ((HG7.out.block _ (blk_lt Q6.out) (by rw [hv30]; intro e; injection e with e; omega)).trans Q6.out)
              have Q9 := Aside0.mk ((HG7.out.block _ (blk_lt HX4.out) (by rw [hv30]; intro e; injection e with e; omega)).trans HX4.out)
              (refine hK.out _ _ ?hS1137 (fun hHeld => ?hr1137); (case hS1137 => exact hB7); clear hK K; try simp only [Act.put, List.setIfInBounds_toArray, List.set_cons_zero, List.set_cons_succ])
              clear hB7
              (refine hd_one (i := 7) (oi := ?oi1138) ?hi1138 (by kernel_rfl) (by decide) ?hr1138; (case hi1138 => (simp only [List.getElem?_toArray, List.getElem?_cons_succ, List.getElem?_cons_zero]; rfl)); intro K hK)
              refine Kd.N_append_rows_step (Kd.int .i64) (w0 := w4) w4.heap.size rfl _ _ 22 3 _ 8 rfl Try.underlying22 infoI rfl (by decide) (by decide) v32 ([] ++ p) [(k : Int)] (some ⟨x1.heap.size, 0, none⟩) 1 1 (fun _ => True) (fun j => False ∨ j = x1.heap.size) rfl rfl HN7.out (F_int1 Q8.out) (fun q hq => ⟨trivial, fun e => by rw [hv32] at e; injection e with e; rcases hq with hq | hq; exact hq; omega⟩) (fun _ _ => trivial) hHeld hHeld.size (by have := HPL.out; simp <;> omega) ?_
              intro v35 x10 hN10 hB10 hG10 hI10
              have hs10 := hG10.size
              rw [List.nil_append, ← HQ.out] at hN10
              obtain ⟨A35, c35, rfl⟩ := Kd.N_slice hN10
              have h35 : ∃ b35, (Value.slice A35 q.length c35).ownBlock = some b35 ∧ (b35 = b32 ∨ x7.heap.size ≤ b35) := by rcases hI10 with h | ⟨b, h, hb⟩; exact ⟨b32, h.trans hv32, .inl rfl⟩; exact ⟨b, h, .inr hb⟩
              obtain ⟨b35, hv35, hb35⟩ := h35
              have hl35 := Kd.N_lt hN10 b35 hv35
              have HN10 := Aside0.mk hN10
              have HG10 := Aside0.mk hG10
              clear hN10 hG10 hI10
              have Q11 := Aside0.mk ((HG10.out.block _ (blk_lt Q8.out) (by rw [hv32]; intro e; injection e with e; omega)).trans Q8.out)
              have Q12 := Aside0.mk ((HG10.out.block _ (blk_lt Q9.out) (by rw [hv32]; intro e; injection e with e; omega)).trans Q9.out)
              (refine hK.out _ _ ?hS1140 (fun hHeld => ?hr1140); (case hS1140 => exact hB10); clear hK K; try simp only [Act.put, List.setIfInBounds_toArray, List.set_cons_zero, List.set_cons_succ])
              clear hB10
              (refine hd_one (i := 8) (oi := ?oi1141) ?hi1141 (by kernel_rfl) (by decide) ?hr1141; (case hi1141 => (simp only [List.getElem?_toArray, List.getElem?_cons_succ, List.getElem?_cons_zero]; rfl)); intro K hK)
              go_simp
              have hRd := Kd.N_reads' HN10.out
              go_at_call 104
              refine (IHX.out x10 A35 c35 b35 hHeld (by omega) (Kd.F_mono (Kd.N_F (N_int_tight HN10.out)) (fun j hj => by rw [hv35] at hj; injection hj with hj; exact hj.symm)) hRd.2.1).mono ?_
              rintro e x13 ⟨v37, v38, v39, bv, rfl, hV13, hb13⟩
              have hs13 := hb13.size
              have HV13 := Aside0.mk hV13
              have HG13 := Aside0.mk hb13
              clear hV13 hRd
              have Q14 := Aside0.mk ((HG13.out.block _ (blk_lt Q11.out)).trans Q11.out)
              have Q15 := Aside0.mk ((HG13.out.block _ (blk_lt Q12.out)).trans Q12.out)
              go_simp
              (refine hK.out _ _ ?hS1143 (fun hHeld => ?hr1143); (case hS1143 => exact hbT hHeld HG13.out); clear hK K; try simp only [Act.put, List.setIfInBounds_toArray, List.set_cons_zero, List.set_cons_succ])
              clear hb13
              (refine hd_take (i := 9) (oi := ?oi1144) (v := ?v1144) ?hi1144 (by kernel_rfl) (by kernel_rfl) (by kernel_rfl) (by kernel_rfl) (by decide) ?hq1144 ?hw1144 ?hy1144 hHeld ?hr1144; (case hi1144 => (simp only [List.getElem?_toArray, List.getElem?_cons_succ, List.getElem?_cons_zero]; rfl)); (case hw1144 => rfl); (case hy1144 => (intro w hSw; go_simp; try with_reducible rfl)); (case hq1144 => exact fun _ _ _ h => h); simp only [Act.put, List.setIfInBounds_toArray, List.set_cons_zero, List.set_cons_succ])
              (refine hd_take (i := 10) (oi := ?oi1146) (v := ?v1146) ?hi1146 (by kernel_rfl) (by kernel_rfl) (by kernel_rfl) (by kernel_rfl) (by decide) ?hq1146 ?hw1146 ?hy1146 hHeld ?hr1146; (case hi1146 => (simp only [List.getElem?_toArray, List.getElem?_cons_succ, List.getElem?_cons_zero]; rfl)); (case hw1146 => rfl); (case hy1146 => (intro w hSw; go_simp; try with_reducible rfl)); (case hq1146 => exact fun _ _ _ h => h); simp only [Act.put, List.setIfInBounds_toArray, List.set_cons_zero, List.set_cons_succ])
              (refine hd_take (i := 11) (oi := ?oi1148) (v := ?v1148) ?hi1148 (by kernel_rfl) (by kernel_rfl) (by kernel_rfl) (by kernel_rfl) (by decide) ?hq1148 ?hw1148 ?hy1148 hHeld ?hr1148; (case hi1148 => (simp only [List.getElem?_toArray, List.getElem?_cons_succ, List.getElem?_cons_zero]; rfl)); (case hw1148 => rfl); (case hy1148 => (intro w hSw; go_simp; try with_reducible rfl)); (case hq1148 => exact fun _ _ _ h => h); simp only [Act.put, List.setIfInBounds_toArray, List.set_cons_zero, List.set_cons_succ])
              (refine hd_take (i := 12) (oi := ?oi1150) (v := ?v1150) ?hi1150 (by kernel_rfl) (by kernel_rfl) (by kernel_rfl) (by kernel_rfl) (by decide) ?hq1150 ?hw1150 ?hy1150 hHeld ?hr1150; (case hi1150 => (simp only [List.getElem?_toArray, List.getElem?_cons_succ, List.getElem?_cons_zero]; rfl)); (case hw1150 => rfl); (case hy1150 => (intro w hSw; go_simp; try with_reducible rfl)); (case hq1150 => exact fun _ _ _ h => h); simp only [Act.put, List.setIfInBounds_toArray, List.set_cons_zero, List.set_cons_succ])
              (refine hd_take (i := 13) (oi := ?oi1152) (v := ?v1152) ?hi1152 (by kernel_rfl) (by kernel_rfl) (by kernel_rfl) (by kernel_rfl) (by decide) ?hq1152 ?hw1152 ?hy1152 hHeld ?hr1152; (case hi1152 => (simp only [List.getElem?_toArray, List.getElem?_cons_succ, List.getElem?_cons_zero]; rfl)); (case hw1152 => rfl); (case hy1152 => (intro w hSw; go_simp; try with_reducible rfl)); (case hq1152 => exact fun _ _ _ h => h); simp only [Act.put, List.setIfInBounds_toArray, List.set_cons_zero, List.set_cons_succ])
              (refine hd_one (i := 15) (oi := ?oi1154) ?hi1154 (by kernel_rfl) (by decide) ?hr1154; (case hi1154 => (simp only [List.getElem?_toArray, List.getElem?_cons_succ, List.getElem?_cons_zero]; rfl)); intro K hK)
              go_simp
              (refine hK.out _ _ ?hS1156 (fun hHeld => ?hr1156); (case hS1156 => exact hHeld); clear hK K; try simp only [Act.put, List.setIfInBounds_toArray, List.set_cons_zero, List.set_cons_succ])
              obtain ⟨r, A2', c2', A5', c5', rfl, hVV⟩ := HV13.out
              clear hVV
              (refine hd_one (i := 16) (oi := ?oi1157) ?hi1157 (by kernel_rfl) (by decide) ?hr1157; (case hi1157 => (simp only [List.getElem?_toArray, List.getElem?_cons_succ, List.getElem?_cons_zero]; rfl)); intro K hK)
              refine st_rl_step 13 rfl rfl rfl rfl rfl Q15.out ?_
              intro xs hsx hGx hzx
              have HSx := Aside0.mk hsx
              have HGx := Aside0.mk hGx
              clear hsx hGx
              (refine hK.out _ _ ?hS1159 (fun hHeld => ?hr1159); (case hS1159 => exact gbS hHeld HGx.out (by omega)); clear hK K; try simp only [Act.put, List.setIfInBounds_toArray, List.set_cons_zero, List.set_cons_succ])
              (refine hd_one (i := 17) (oi := ?oi1160) ?hi1160 (by kernel_rfl) (by decide) ?hr1160; (case hi1160 => (simp only [List.getElem?_toArray, List.getElem?_cons_succ, List.getElem?_cons_zero]; rfl)); intro K hK)
              go_simp
              (refine hK.out _ _ ?hS1162 (fun hHeld => ?hr1162); (case hS1162 => exact hHeld); clear hK K; try simp only [Act.put, List.setIfInBounds_toArray, List.set_cons_zero, List.set_cons_succ])
              (refine hd_one (i := 18) (oi := ?oi1163) ?hi1163 (by kernel_rfl) (by decide) ?hr1163; (case hi1163 => (simp only [List.getElem?_toArray, List.getElem?_cons_succ, List.getElem?_cons_zero]; rfl)); intro K hK)
              go_simp
              (refine hK.out _ _ ?hS1165 (fun hHeld => ?hr1165); (case hS1165 => exact hHeld); clear hK K; try simp only [Act.put, List.setIfInBounds_toArray, List.set_cons_zero, List.set_cons_succ])
              (refine hd_done (by kernel_rfl) ?_; simp only [List.drop_succ_cons, List.drop_zero])
              have hK : KeyF okl okt q (fndT l x) w4 v37 (.agg #[.int .i64 r.f0.f0, .int .i64 r.f0.f1, .slice A2' r.f0.f2.length c2', .int .i64 r.f1.f0, .int .i64 r.f1.f1, .slice A5' r.f1.f2.length c5']) v39 bv (x2.heap.size) xs := ⟨hHeld, FndV.mono (okr' := fun k => w4.heap.size ≤ k ∧ k ≠ (x2.heap.size)) (FndV.grown (FndV.mono (okr' := fun k => w4.heap.size ≤ k ∧ k ≠ (x2.heap.size)) HV13.out (fun k hk => by obtain ⟨h1, h2⟩ := hk; exact ⟨by omega, by omega⟩)) HGx.out (fun k hk => by have := HOL.out k hk; omega) (fun k hk => by have := HOT.out k hk; omega) (fun k hk => hk.2)) (fun k hk => hk), ⟨_, _, _, _, _, rfl, HSx.out⟩, by omega⟩
              refine useT (key v30 v32 (Value.slice (some ⟨x1.heap.size, 0, none⟩) 1 1) (Value.slice A35 q.length c35) v37 (.agg #[.int .i64 r.f0.f0, .int .i64 r.f0.f1, .slice A2' r.f0.f2.length c2', .int .i64 r.f1.f0, .int .i64 r.f1.f1, .slice A5' r.f1.f2.length c5']) v39 bv (x2.heap.size) xs hK) ?_
              rfl
          case h2C =>
            intro K hK
            go_simp
            (refine hK.out _ _ ?hS1167 (fun hHeld => ?hr1167); (case hS1167 => exact below_alloc hHeld _); clear hK K; try simp only [Act.put, List.setIfInBounds_toArray, List.set_cons_zero, List.set_cons_succ])
            have HX2 := Aside0.mk (heap_alloc_new x1 (.cells #[.int .i64 0, .int .i64 0, .slice none 0 0, .int .i64 0, .int .i64 0, .slice none 0 0] 100))
            have HG2 := Aside0.mk (below_alloc (Below.refl x1.heap.size x1) (.cells #[.int .i64 0, .int .i64 0, .slice none 0 0, .int .i64 0, .int .i64 0, .slice none 0 0] 100))
            have hs2 : x1.heap.size + 1 ≤ (x1.alloc (.cells #[.int .i64 0, .int .i64 0, .slice none 0 0, .int .i64 0, .int .i64 0, .slice none 0 0] 100)).heap.size := by simp
            have Q3 := Aside0.mk (Kd.N_below HN1.out HG2.out)
            generalize x1.alloc (.cells #[.int .i64 0, .int .i64 0, .slice none 0 0, .int .i64 0, .int .i64 0, .slice none 0 0] 100) = x2 at *
            have ha14 : ∃ a, a = x1.heap.size := ⟨_, rfl⟩
            obtain ⟨a14, ha14⟩ := ha14
            have hw4a14 : w4.heap.size ≤ x1.heap.size := by omega
            refine hd_two (i := 4) (j := 6) (oi := ?o9A) (oj := ?o9B) ?e9A ?e9B (by kernel_rfl) (by decide) (by decide) ?h9A ?h9B
            case e9A => (simp only [List.getElem?_toArray, List.getElem?_cons_succ, List.getElem?_cons_zero]; rfl)
            case e9B => (simp only [List.getElem?_toArray, List.getElem?_cons_succ, List.getElem?_cons_zero]; rfl)
            case h9A =>
              intro K hK
              refine Kd.N_append_rows_step (Kd.int .i64) (w0 := w4) w4.heap.size rfl _ _ 22 3 _ 8 rfl Try.underlying22 infoI rfl (by decide) (by decide) v30 [] p Ap p.length cp (fun _ => True) (fun j => j < w4.heap.size) rfl rfl Q3.out (Kd.F_below HPF.out hHeld) (fun q hq => ⟨trivial, fun e => by have := Kd.N_base Q3.out q e.symm; omega⟩) (fun _ _ => trivial) hHeld hHeld.size (by have := HPL.out; simp <;> omega) ?_
              intro v32 x4 hN4 hB4 hG4 hI4
              have h32 : ∃ b32, v32.ownBlock = some b32 ∧ (b32 = b30 ∨ x2.heap.size ≤ b32) := by rcases hI4 with h | ⟨b, h, hb⟩; exact ⟨b30, h.trans hv30, .inl rfl⟩; exact ⟨b, h, .inr hb⟩
              obtain ⟨b32, hv32, hb32⟩ := h32
              have hl32 := Kd.N_lt hN4 b32 hv32
              have hs4 := hG4.size
              have HN4 := Aside0.mk hN4
              have HG4 := Aside0.mk hG4
              clear hN4 hG4 hI4
              have Q5 := Aside0.mk ((HG4.out.block _ (blk_lt HX2.out) (by rw [hv30]; intro e; injection e with e; omega)).trans HX2.out)
              (refine hK.out _ _ ?hS1170 (fun hHeld => ?hr1170); (case hS1170 => exact hB4); clear hK K; try simp only [Act.put, List.setIfInBounds_toArray, List.set_cons_zero, List.set_cons_succ])
              clear hB4
              (refine hd_one (i := 6) (oi := ?oi1171) ?hi1171 (by kernel_rfl) (by decide) ?hr1171; (case hi1171 => (simp only [List.getElem?_toArray, List.getElem?_cons_succ, List.getElem?_cons_zero]; rfl)); intro K hK)
              go_simp
              (refine hK.out _ _ ?hS1173 (fun hHeld => ?hr1173); (case hS1173 => exact below_alloc hHeld _); clear hK K; try simp only [Act.put, List.setIfInBounds_toArray, List.set_cons_zero, List.set_cons_succ])
              have HX6 := Aside0.mk (heap_alloc_new x4 (.cells #[.int .i64 (k : Int)] 3))
              have HG6 := Aside0.mk (below_alloc (Below.refl x4.heap.size x4) (.cells #[.int .i64 (k : Int)] 3))
              have hs6 : x4.heap.size + 1 ≤ (x4.alloc (.cells #[.int .i64 (k : Int)] 3)).heap.size := by simp
              have Q7 := Aside0.mk ((HG6.out.block _ (blk_lt Q5.out)).trans Q5.out)
              have Q8 := Aside0.mk (Kd.N_below HN4.out HG6.out)
              generalize x4.alloc (.cells #[.int .i64 (k : Int)] 3) = x6 at *
              have ha6 : ∃ a, a = x4.heap.size := ⟨_, rfl⟩
              obtain ⟨a6, ha6⟩ := ha6
              have hw4a6 : w4.heap.size ≤ x4.heap.size := by omega
              (refine hd_one (i := 7) (oi := ?oi1174) ?hi1174 (by kernel_rfl) (by decide) ?hr1174; (case hi1174 => (simp only [List.getElem?_toArray, List.getElem?_cons_succ, List.getElem?_cons_zero]; rfl)); intro K hK)
              refine Kd.N_append_rows_step (Kd.int .i64) (w0 := w4) w4.heap.size rfl _ _ 22 3 _ 8 rfl Try.underlying22 infoI rfl (by decide) (by decide) v32 ([] ++ p) [(k : Int)] (some ⟨x4.heap.size, 0, none⟩) 1 1 (fun _ => True) (fun j => False ∨ j = x4.heap.size) rfl rfl Q8.out (F_int1 HX6.out) (fun q hq => ⟨trivial, fun e => by rw [hv32] at e; injection e with e; rcases hq with hq | hq; exact hq; omega⟩) (fun _ _ => trivial) hHeld hHeld.size (by have := HPL.out; simp <;> omega) ?_
              intro v35 x9 hN9 hB9 hG9 hI9
              have hs9 := hG9.size
              rw [List.nil_append, ← HQ.out] at hN9
              obtain ⟨A35, c35, rfl⟩ := Kd.N_slice hN9
              have h35 : ∃ b35, (Value.slice A35 q.length c35).ownBlock = some b35 ∧ (b35 = b32 ∨ x6.heap.size ≤ b35) := by rcases hI9 with h | ⟨b, h, hb⟩; exact ⟨b32, h.trans hv32, .inl rfl⟩; exact ⟨b, h, .inr hb⟩
              obtain ⟨b35, hv35, hb35⟩ := h35
              have hl35 := Kd.N_lt hN9 b35 hv35
              have HN9 := Aside0.mk hN9
              have HG9 := Aside0.mk hG9
              clear hN9 hG9 hI9
              have Q10 := Aside0.mk ((HG9.out.block _ (blk_lt Q7.out) (by rw [hv32]; intro e; injection e with e; omega)).trans Q7.out)
              have Q11 := Aside0.mk ((HG9.out.block _ (blk_lt HX6.out) (by rw [hv32]; intro e; injection e with e; omega)).trans HX6.out)
              (refine hK.out _ _ ?hS1176 (fun hHeld => ?hr1176); (case hS1176 => exact hB9); clear hK K; try simp only [Act.put, List.setIfInBounds_toArray, List.set_cons_zero, List.set_cons_succ])
              clear hB9
              (refine hd_one (i := 8) (oi := ?oi1177) ?hi1177 (by kernel_rfl) (by decide) ?hr1177; (case hi1177 => (simp only [List.getElem?_toArray, List.getElem?_cons_succ, List.getElem?_cons_zero]; rfl)); intro K hK)
              go_simp
              have hRd := Kd.N_reads' HN9.out
              go_at_call 104
              refine (IHX.out x9 A35 c35 b35 hHeld (by omega) (Kd.F_mono (Kd.N_F (N_int_tight HN9.out)) (fun j hj => by rw [hv35] at hj; injection hj with hj; exact hj.symm)) hRd.2.1).mono ?_
              rintro e x12 ⟨v37, v38, v39, bv, rfl, hV12, hb12⟩
              have hs12 := hb12.size
              have HV12 := Aside0.mk hV12
              have HG12 := Aside0.mk hb12
              clear hV12 hRd
              have Q13 := Aside0.mk ((HG12.out.block _ (blk_lt Q10.out)).trans Q10.out)
              have Q14 := Aside0.mk ((HG12.out.block _ (blk_lt Q11.out)).trans Q11.out)
              go_simp
              (refine hK.out _ _ ?hS1179 (fun hHeld => ?hr1179); (case hS1179 => exact hbT hHeld HG12.out); clear hK K; try simp only [Act.put, List.setIfInBounds_toArray, List.set_cons_zero, List.set_cons_succ])
              clear hb12
              (refine hd_take (i := 9) (oi := ?oi1180) (v := ?v1180) ?hi1180 (by kernel_rfl) (by kernel_rfl) (by kernel_rfl) (by kernel_rfl) (by decide) ?hq1180 ?hw1180 ?hy1180 hHeld ?hr1180; (case hi1180 => (simp only [List.getElem?_toArray, List.getElem?_cons_succ, List.getElem?_cons_zero]; rfl)); (case hw1180 => rfl); (case hy1180 => (intro w hSw; go_simp; try with_reducible rfl)); (case hq1180 => exact fun _ _ _ h => h); simp only [Act.put, List.setIfInBounds_toArray, List.set_cons_zero, List.set_cons_succ])
              (refine hd_take (i := 10) (oi := ?oi1182) (v := ?v1182) ?hi1182 (by kernel_rfl) (by kernel_rfl) (by kernel_rfl) (by kernel_rfl) (by decide) ?hq1182 ?hw1182 ?hy1182 hHeld ?hr1182; (case hi1182 => (simp only [List.getElem?_toArray, List.getElem?_cons_succ, List.getElem?_cons_zero]; rfl)); (case hw1182 => rfl); (case hy1182 => (intro w hSw; go_simp; try with_reducible rfl)); (case hq1182 => exact fun _ _ _ h => h); simp only [Act.put, List.setIfInBounds_toArray, List.set_cons_zero, List.set_cons_succ])
              (refine hd_take (i := 11) (oi := ?oi1184) (v := ?v1184) ?hi1184 (by kernel_rfl) (by kernel_rfl) (by kernel_rfl) (by kernel_rfl) (by decide) ?hq1184 ?hw1184 ?hy1184 hHeld ?hr1184; (case hi1184 => (simp only [List.getElem?_toArray, List.getElem?_cons_succ, List.getElem?_cons_zero]; rfl)); (case hw1184 => rfl); (case hy1184 => (intro w hSw; go_simp; try with_reducible rfl)); (case hq1184 => exact fun _ _ _ h => h); simp only [Act.put, List.setIfInBounds_toArray, List.set_cons_zero, List.set_cons_succ])
              (refine hd_take (i := 12) (oi := ?oi1186) (v := ?v1186) ?hi1186 (by kernel_rfl) (by kernel_rfl) (by kernel_rfl) (by kernel_rfl) (by decide) ?hq1186 ?hw1186 ?hy1186 hHeld ?hr1186; (case hi1186 => (simp only [List.getElem?_toArray, List.getElem?_cons_succ, List.getElem?_cons_zero]; rfl)); (case hw1186 => rfl); (case hy1186 => (intro w hSw; go_simp; try with_reducible rfl)); (case hq1186 => exact fun _ _ _ h => h); simp only [Act.put, List.setIfInBounds_toArray, List.set_cons_zero, List.set_cons_succ])
              (refine hd_take (i := 13) (oi := ?oi1188) (v := ?v1188) ?hi1188 (by kernel_rfl) (by kernel_rfl) (by kernel_rfl) (by kernel_rfl) (by decide) ?hq1188 ?hw1188 ?hy1188 hHeld ?hr1188; (case hi1188 => (simp only [List.getElem?_toArray, List.getElem?_cons_succ, List.getElem?_cons_zero]; rfl)); (case hw1188 => rfl); (case hy1188 => (intro w hSw; go_simp; try with_reducible rfl)); (case hq1188 => exact fun _ _ _ h => h); simp only [Act.put, List.setIfInBounds_toArray, List.set_cons_zero, List.set_cons_succ])
              (refine hd_one (i := 15) (oi := ?oi1190) ?hi1190 (by kernel_rfl) (by decide) ?hr1190; (case hi1190 => (simp only [List.getElem?_toArray, List.getElem?_cons_succ, List.getElem?_cons_zero]; rfl)); intro K hK)
              go_simp
              (refine hK.out _ _ ?hS1192 (fun hHeld => ?hr1192); (case hS1192 => exact hHeld); clear hK K; try simp only [Act.put, List.setIfInBounds_toArray, List.set_cons_zero, List.set_cons_succ])
              obtain ⟨r, A2', c2', A5', c5', rfl, hVV⟩ := HV12.out
              clear hVV
              (refine hd_one (i := 16) (oi := ?oi1193) ?hi1193 (by kernel_rfl) (by decide) ?hr1193; (case hi1193 => (simp only [List.getElem?_toArray, List.getElem?_cons_succ, List.getElem?_cons_zero]; rfl)); intro K hK)
              refine st_rl_step 13 rfl rfl rfl rfl rfl Q13.out ?_
              intro xs hsx hGx hzx
              have HSx := Aside0.mk hsx
              have HGx := Aside0.mk hGx
              clear hsx hGx
              (refine hK.out _ _ ?hS1195 (fun hHeld => ?hr1195); (case hS1195 => exact gbS hHeld HGx.out (by omega)); clear hK K; try simp only [Act.put, List.setIfInBounds_toArray, List.set_cons_zero, List.set_cons_succ])
              (refine hd_one (i := 17) (oi := ?oi1196) ?hi1196 (by kernel_rfl) (by decide) ?hr1196; (case hi1196 => (simp only [List.getElem?_toArray, List.getElem?_cons_succ, List.getElem?_cons_zero]; rfl)); intro K hK)
              go_simp
              (refine hK.out _ _ ?hS1198 (fun hHeld => ?hr1198); (case hS1198 => exact hHeld); clear hK K; try simp only [Act.put, List.setIfInBounds_toArray, List.set_cons_zero, List.set_cons_succ])
              (refine hd_one (i := 18) (oi := ?oi1199) ?hi1199 (by kernel_rfl) (by decide) ?hr1199; (case hi1199 => (simp only [List.getElem?_toArray, List.getElem?_cons_succ, List.getElem?_cons_zero]; rfl)); intro K hK)
              go_simp
              (refine hK.out _ _ ?hS1201 (fun hHeld => ?hr1201); (case hS1201 => exact hHeld); clear hK K; try simp only [Act.put, List.setIfInBounds_toArray, List.set_cons_zero, List.set_cons_succ])
              (refine hd_done (by kernel_rfl) ?_; simp only [List.drop_succ_cons, List.drop_zero])
              have hK : KeyF okl okt q (fndT l x) w4 v37 (.agg #[.int .i64 r.f0.f0, .int .i64 r.f0.f1, .slice A2' r.f0.f2.length c2', .int .i64 r.f1.f0, .int .i64 r.f1.f1, .slice A5' r.f1.f2.length c5']) v39 bv (x1.heap.size) xs := ⟨hHeld, FndV.mono (okr' := fun k => w4.heap.size ≤ k ∧ k ≠ (x1.heap.size)) (FndV.grown (FndV.mono (okr' := fun k => w4.heap.size ≤ k ∧ k ≠ (x1.heap.size)) HV12.out (fun k hk => by obtain ⟨h1, h2⟩ := hk; exact ⟨by omega, by omega⟩)) HGx.out (fun k hk => by have := HOL.out k hk; omega) (fun k hk => by have := HOT.out k hk; omega) (fun k hk => hk.2)) (fun k hk => hk), ⟨_, _, _, _, _, rfl, HSx.out⟩, by omega⟩
              refine useT (key v30 v32 (Value.slice (some ⟨x4.heap.size, 0, none⟩) 1 1) (Value.slice A35 q.length c35) v37 (.agg #[.int .i64 r.f0.f0, .int .i64 r.f0.f1, .slice A2' r.f0.f2.length c2', .int .i64 r.f1.f0, .int .i64 r.f1.f1, .slice A5' r.f1.f2.length c5']) v39 bv (x1.heap.size) xs hK) ?_
              rfl
            case h9B =>
              intro K hK
              go_simp
              (refine hK.out _ _ ?hS1203 (fun hHeld => ?hr1203); (case hS1203 => exact below_alloc hHeld _); clear hK K; try simp only [Act.put, List.setIfInBounds_toArray, List.set_cons_zero, List.set_cons_succ])
              have HX4 := Aside0.mk (heap_alloc_new x2 (.cells #[.int .i64 (k : Int)] 3))
              have HG4 := Aside0.mk (below_alloc (Below.refl x2.heap.size x2) (.cells #[.int .i64 (k : Int)] 3))
              have hs4 : x2.heap.size + 1 ≤ (x2.alloc (.cells #[.int .i64 (k : Int)] 3)).heap.size := by simp
              have Q5 := Aside0.mk (Kd.N_below Q3.out HG4.out)
              have Q6 := Aside0.mk ((HG4.out.block _ (blk_lt HX2.out)).trans HX2.out)
              generalize x2.alloc (.cells #[.int .i64 (k : Int)] 3) = x4 at *
              have ha6 : ∃ a, a = x2.heap.size := ⟨_, rfl⟩
              obtain ⟨a6, ha6⟩ := ha6
              have hw4a6 : w4.heap.size ≤ x2.heap.size := by omega
              (refine hd_one (i := 4) (oi := ?oi1204) ?hi1204 (by kernel_rfl) (by decide) ?hr1204; (case hi1204 => (simp only [List.getElem?_toArray, List.getElem?_cons_succ, List.getElem?_cons_zero]; rfl)); intro K hK)
              refine Kd.N_append_rows_step (Kd.int .i64) (w0 := w4) w4.heap.size rfl _ _ 22 3 _ 8 rfl Try.underlying22 infoI rfl (by decide) (by decide) v30 [] p Ap p.length cp (fun _ => True) (fun j => j < w4.heap.size) rfl rfl Q5.out (Kd.F_below HPF.out hHeld) (fun q hq => ⟨trivial, fun e => by have := Kd.N_base Q5.out q e.symm; omega⟩) (fun _ _ => trivial) hHeld hHeld.size (by have := HPL.out; simp <;> omega) ?_
              intro v32 x7 hN7 hB7 hG7 hI7
              have h32 : ∃ b32, v32.ownBlock = some b32 ∧ (b32 = b30 ∨ x4.heap.size ≤ b32) := by rcases hI7 with h | ⟨b, h, hb⟩; exact ⟨b30, h.trans hv30, .inl rfl⟩; exact ⟨b, h, .inr hb⟩
              obtain ⟨b32, hv32, hb32⟩ := h32
              have hl32 := Kd.N_lt hN7 b32 hv32
              have hs7 := hG7.size
              have HN7 := Aside0.mk hN7
              have HG7 := Aside0.mk hG7
              clear hN7 hG7 hI7
              have Q8 := Aside0.mk ((HG7.out.block _ (blk_lt Q6.out) (by rw [hv30]; intro e; injection e with e; omega)).trans Q6.out)
              have Q9 := Aside0.mk ((HG7.out.block _ (blk_lt HX4.out) (by rw [hv30]; intro e; injection e with e; omega)).trans HX4.out)
              (refine hK.out _ _ ?hS1206 (fun hHeld => ?hr1206); (case hS1206 => exact hB7); clear hK K; try simp only [Act.put, List.setIfInBounds_toArray, List.set_cons_zero, List.set_cons_succ])
              clear hB7
              (refine hd_one (i := 7) (oi := ?oi1207) ?hi1207 (by kernel_rfl) (by decide) ?hr1207; (case hi1207 => (simp only [List.getElem?_toArray, List.getElem?_cons_succ, List.getElem?_cons_zero]; rfl)); intro K hK)
              refine Kd.N_append_rows_step (Kd.int .i64) (w0 := w4) w4.heap.size rfl _ _ 22 3 _ 8 rfl Try.underlying22 infoI rfl (by decide) (by decide) v32 ([] ++ p) [(k : Int)] (some ⟨x2.heap.size, 0, none⟩) 1 1 (fun _ => True) (fun j => False ∨ j = x2.heap.size) rfl rfl HN7.out (F_int1 Q9.out) (fun q hq => ⟨trivial, fun e => by rw [hv32] at e; injection e with e; rcases hq with hq | hq; exact hq; omega⟩) (fun _ _ => trivial) hHeld hHeld.size (by have := HPL.out; simp <;> omega) ?_
              intro v35 x10 hN10 hB10 hG10 hI10
              have hs10 := hG10.size
              rw [List.nil_append, ← HQ.out] at hN10
              obtain ⟨A35, c35, rfl⟩ := Kd.N_slice hN10
              have h35 : ∃ b35, (Value.slice A35 q.length c35).ownBlock = some b35 ∧ (b35 = b32 ∨ x7.heap.size ≤ b35) := by rcases hI10 with h | ⟨b, h, hb⟩; exact ⟨b32, h.trans hv32, .inl rfl⟩; exact ⟨b, h, .inr hb⟩
              obtain ⟨b35, hv35, hb35⟩ := h35
              have hl35 := Kd.N_lt hN10 b35 hv35
              have HN10 := Aside0.mk hN10
              have HG10 := Aside0.mk hG10
              clear hN10 hG10 hI10
              have Q11 := Aside0.mk ((HG10.out.block _ (blk_lt Q8.out) (by rw [hv32]; intro e; injection e with e; omega)).trans Q8.out)
              have Q12 := Aside0.mk ((HG10.out.block _ (blk_lt Q9.out) (by rw [hv32]; intro e; injection e with e; omega)).trans Q9.out)
              (refine hK.out _ _ ?hS1209 (fun hHeld => ?hr1209); (case hS1209 => exact hB10); clear hK K; try simp only [Act.put, List.setIfInBounds_toArray, List.set_cons_zero, List.set_cons_succ])
              clear hB10
              (refine hd_one (i := 8) (oi := ?oi1210) ?hi1210 (by kernel_rfl) (by decide) ?hr1210; (case hi1210 => (simp only [List.getElem?_toArray, List.getElem?_cons_succ, List.getElem?_cons_zero]; rfl)); intro K hK)
              go_simp
              have hRd := Kd.N_reads' HN10.out
              go_at_call 104
              refine (IHX.out x10 A35 c35 b35 hHeld (by omega) (Kd.F_mono (Kd.N_F (N_int_tight HN10.out)) (fun j hj => by rw [hv35] at hj; injection hj with hj; exact hj.symm)) hRd.2.1).mono ?_
              rintro e x13 ⟨v37, v38, v39, bv, rfl, hV13, hb13⟩
              have hs13 := hb13.size
              have HV13 := Aside0.mk hV13
              have HG13 := Aside0.mk hb13
              clear hV13 hRd
              have Q14 := Aside0.mk ((HG13.out.block _ (blk_lt Q11.out)).trans Q11.out)
              have Q15 := Aside0.mk ((HG13.out.block _ (blk_lt Q12.out)).trans Q12.out)
              go_simp
              (refine hK.out _ _ ?hS1212 (fun hHeld => ?hr1212); (case hS1212 => exact hbT hHeld HG13.out); clear hK K; try simp only [Act.put, List.setIfInBounds_toArray, List.set_cons_zero, List.set_cons_succ])
              clear hb13
              (refine hd_take (i := 9) (oi := ?oi1213) (v := ?v1213) ?hi1213 (by kernel_rfl) (by kernel_rfl) (by kernel_rfl) (by kernel_rfl) (by decide) ?hq1213 ?hw1213 ?hy1213 hHeld ?hr1213; (case hi1213 => (simp only [List.getElem?_toArray, List.getElem?_cons_succ, List.getElem?_cons_zero]; rfl)); (case hw1213 => rfl); (case hy1213 => (intro w hSw; go_simp; try with_reducible rfl)); (case hq1213 => exact fun _ _ _ h => h); simp only [Act.put, List.setIfInBounds_toArray, List.set_cons_zero, List.set_cons_succ])
              (refine hd_take (i := 10) (oi := ?oi1215) (v := ?v1215) ?hi1215 (by kernel_rfl) (by kernel_rfl) (by kernel_rfl) (by kernel_rfl) (by decide) ?hq1215 ?hw1215 ?hy1215 hHeld ?hr1215; (case hi1215 => (simp only [List.getElem?_toArray, List.getElem?_cons_succ, List.getElem?_cons_zero]; rfl)); (case hw1215 => rfl); (case hy1215 => (intro w hSw; go_simp; try with_reducible rfl)); (case hq1215 => exact fun _ _ _ h => h); simp only [Act.put, List.setIfInBounds_toArray, List.set_cons_zero, List.set_cons_succ])
              (refine hd_take (i := 11) (oi := ?oi1217) (v := ?v1217) ?hi1217 (by kernel_rfl) (by kernel_rfl) (by kernel_rfl) (by kernel_rfl) (by decide) ?hq1217 ?hw1217 ?hy1217 hHeld ?hr1217; (case hi1217 => (simp only [List.getElem?_toArray, List.getElem?_cons_succ, List.getElem?_cons_zero]; rfl)); (case hw1217 => rfl); (case hy1217 => (intro w hSw; go_simp; try with_reducible rfl)); (case hq1217 => exact fun _ _ _ h => h); simp only [Act.put, List.setIfInBounds_toArray, List.set_cons_zero, List.set_cons_succ])
              (refine hd_take (i := 12) (oi := ?oi1219) (v := ?v1219) ?hi1219 (by kernel_rfl) (by kernel_rfl) (by kernel_rfl) (by kernel_rfl) (by decide) ?hq1219 ?hw1219 ?hy1219 hHeld ?hr1219; (case hi1219 => (simp only [List.getElem?_toArray, List.getElem?_cons_succ, List.getElem?_cons_zero]; rfl)); (case hw1219 => rfl); (case hy1219 => (intro w hSw; go_simp; try with_reducible rfl)); (case hq1219 => exact fun _ _ _ h => h); simp only [Act.put, List.setIfInBounds_toArray, List.set_cons_zero, List.set_cons_succ])
              (refine hd_take (i := 13) (oi := ?oi1221) (v := ?v1221) ?hi1221 (by kernel_rfl) (by kernel_rfl) (by kernel_rfl) (by kernel_rfl) (by decide) ?hq1221 ?hw1221 ?hy1221 hHeld ?hr1221; (case hi1221 => (simp only [List.getElem?_toArray, List.getElem?_cons_succ, List.getElem?_cons_zero]; rfl)); (case hw1221 => rfl); (case hy1221 => (intro w hSw; go_simp; try with_reducible rfl)); (case hq1221 => exact fun _ _ _ h => h); simp only [Act.put, List.setIfInBounds_toArray, List.set_cons_zero, List.set_cons_succ])
              (refine hd_one (i := 15) (oi := ?oi1223) ?hi1223 (by kernel_rfl) (by decide) ?hr1223; (case hi1223 => (simp only [List.getElem?_toArray, List.getElem?_cons_succ, List.getElem?_cons_zero]; rfl)); intro K hK)
              go_simp
              (refine hK.out _ _ ?hS1225 (fun hHeld => ?hr1225); (case hS1225 => exact hHeld); clear hK K; try simp only [Act.put, List.setIfInBounds_toArray, List.set_cons_zero, List.set_cons_succ])
              obtain ⟨r, A2', c2', A5', c5', rfl, hVV⟩ := HV13.out
              clear hVV
              (refine hd_one (i := 16) (oi := ?oi1226) ?hi1226 (by kernel_rfl) (by decide) ?hr1226; (case hi1226 => (simp only [List.getElem?_toArray, List.getElem?_cons_succ, List.getElem?_cons_zero]; rfl)); intro K hK)
              refine st_rl_step 13 rfl rfl rfl rfl rfl Q14.out ?_
              intro xs hsx hGx hzx
              have HSx := Aside0.mk hsx
              have HGx := Aside0.mk hGx
              clear hsx hGx
              (refine hK.out _ _ ?hS1228 (fun hHeld => ?hr1228); (case hS1228 => exact gbS hHeld HGx.out (by omega)); clear hK K; try simp only [Act.put, List.setIfInBounds_toArray, List.set_cons_zero, List.set_cons_succ])
              (refine hd_one (i := 17) (oi := ?oi1229) ?hi1229 (by kernel_rfl) (by decide) ?hr1229; (case hi1229 => (simp only [List.getElem?_toArray, List.getElem?_cons_succ, List.getElem?_cons_zero]; rfl)); intro K hK)
              go_simp
              (refine hK.out _ _ ?hS1231 (fun hHeld => ?hr1231); (case hS1231 => exact hHeld); clear hK K; try simp only [Act.put, List.setIfInBounds_toArray, List.set_cons_zero, List.set_cons_succ])
              (refine hd_one (i := 18) (oi := ?oi1232) ?hi1232 (by kernel_rfl) (by decide) ?hr1232; (case hi1232 => (simp only [List.getElem?_toArray, List.getElem?_cons_succ, List.getElem?_cons_zero]; rfl)); intro K hK)
              go_simp
              (refine hK.out _ _ ?hS1234 (fun hHeld => ?hr1234); (case hS1234 => exact hHeld); clear hK K; try simp only [Act.put, List.setIfInBounds_toArray, List.set_cons_zero, List.set_cons_succ])
              (refine hd_done (by kernel_rfl) ?_; simp only [List.drop_succ_cons, List.drop_zero])
              have hK : KeyF okl okt q (fndT l x) w4 v37 (.agg #[.int .i64 r.f0.f0, .int .i64 r.f0.f1, .slice A2' r.f0.f2.length c2', .int .i64 r.f1.f0, .int .i64 r.f1.f1, .slice A5' r.f1.f2.length c5']) v39 bv (x1.heap.size) xs := ⟨hHeld, FndV.mono (okr' := fun k => w4.heap.size ≤ k ∧ k ≠ (x1.heap.size)) (FndV.grown (FndV.mono (okr' := fun k => w4.heap.size ≤ k ∧ k ≠ (x1.heap.size)) HV13.out (fun k hk => by obtain ⟨h1, h2⟩ := hk; exact ⟨by omega, by omega⟩)) HGx.out (fun k hk => by have := HOL.out k hk; omega) (fun k hk => by have := HOT.out k hk; omega) (fun k hk => hk.2)) (fun k hk => hk), ⟨_, _, _, _, _, rfl, HSx.out⟩, by omega⟩
              refine useT (key v30 v32 (Value.slice (some ⟨x2.heap.size, 0, none⟩) 1 1) (Value.slice A35 q.length c35) v37 (.agg #[.int .i64 r.f0.f0, .int .i64 r.f0.f1, .slice A2' r.f0.f2.length c2', .int .i64 r.f1.f0, .int .i64 r.f1.f1, .slice A5' r.f1.f2.length c5']) v39 bv (x1.heap.size) xs hK) ?_
              rfl
        case h1B =>
          intro K hK
          go_simp
          (refine hK.out _ _ ?hS1236 (fun hHeld => ?hr1236); (case hS1236 => exact below_alloc hHeld _); clear hK K; try simp only [Act.put, List.setIfInBounds_toArray, List.set_cons_zero, List.set_cons_succ])
          have HX1 := Aside0.mk (heap_alloc_new W3 (.cells #[.int .i64 (k : Int)] 3))
          have HG1 := Aside0.mk (below_alloc (Below.refl W3.heap.size W3) (.cells #[.int .i64 (k : Int)] 3))
          have hs1 : W3.heap.size + 1 ≤ (W3.alloc (.cells #[.int .i64 (k : Int)] 3)).heap.size := by simp
          generalize W3.alloc (.cells #[.int .i64 (k : Int)] 3) = x1 at *
          have ha6 : ∃ a, a = W3.heap.size := ⟨_, rfl⟩
          obtain ⟨a6, ha6⟩ := ha6
          have hw4a6 : w4.heap.size ≤ W3.heap.size := by omega
          refine hd_two (i := 2) (j := 14) (oi := ?o10A) (oj := ?o10B) ?e10A ?e10B (by kernel_rfl) (by decide) (by decide) ?h10A ?h10B
          case e10A => (simp only [List.getElem?_toArray, List.getElem?_cons_succ, List.getElem?_cons_zero]; rfl)
          case e10B => (simp only [List.getElem?_toArray, List.getElem?_cons_succ, List.getElem?_cons_zero]; rfl)
          case h10A =>
            intro K hK
            refine Kd.N_lit_step (Kd.int .i64) (w0 := w4) w4.heap.size 3 rfl rfl (xs := []) (inner := []) (ok := fun _ => True) (okp := fun _ => False) ?zzq2 ⟨rfl, fun j y hy => by simp at hy⟩ (fun _ h => h.elim) trivial hHeld hHeld.size (by decide) ?_
            case zzq2 => first | (go_simp; done) | (go_simp; rfl)
            intro v30 x2 hN2 hB2 hG2 hI2
            obtain ⟨b30, hv30, hb30⟩ := hI2
            have hl30 := Kd.N_lt hN2 b30 hv30
            have hs2 := hG2.size
            have HN2 := Aside0.mk hN2
            have HG2 := Aside0.mk (gbB hG2 (.inl rfl))
            clear hN2 hG2
            have Q3 := Aside0.mk ((HG2.out.block _ (blk_lt HX1.out)).trans HX1.out)
            (refine hK.out _ _ ?hS1239 (fun hHeld => ?hr1239); (case hS1239 => exact hB2); clear hK K; try simp only [Act.put, List.setIfInBounds_toArray, List.set_cons_zero, List.set_cons_succ])
            clear hB2
            refine hd_two (i := 4) (j := 14) (oi := ?o11A) (oj := ?o11B) ?e11A ?e11B (by kernel_rfl) (by decide) (by decide) ?h11A ?h11B
            case e11A => (simp only [List.getElem?_toArray, List.getElem?_cons_succ, List.getElem?_cons_zero]; rfl)
            case e11B => (simp only [List.getElem?_toArray, List.getElem?_cons_succ, List.getElem?_cons_zero]; rfl)
            case h11A =>
              intro K hK
              refine Kd.N_append_rows_step (Kd.int .i64) (w0 := w4) w4.heap.size rfl _ _ 22 3 _ 8 rfl Try.underlying22 infoI rfl (by decide) (by decide) v30 [] p Ap p.length cp (fun _ => True) (fun j => j < w4.heap.size) rfl rfl HN2.out (Kd.F_below HPF.out hHeld) (fun q hq => ⟨trivial, fun e => by have := Kd.N_base HN2.out q e.symm; omega⟩) (fun _ _ => trivial) hHeld hHeld.size (by have := HPL.out; simp <;> omega) ?_
              intro v32 x4 hN4 hB4 hG4 hI4
              have h32 : ∃ b32, v32.ownBlock = some b32 ∧ (b32 = b30 ∨ x2.heap.size ≤ b32) := by rcases hI4 with h | ⟨b, h, hb⟩; exact ⟨b30, h.trans hv30, .inl rfl⟩; exact ⟨b, h, .inr hb⟩
              obtain ⟨b32, hv32, hb32⟩ := h32
              have hl32 := Kd.N_lt hN4 b32 hv32
              have hs4 := hG4.size
              have HN4 := Aside0.mk hN4
              have HG4 := Aside0.mk hG4
              clear hN4 hG4 hI4
              have Q5 := Aside0.mk ((HG4.out.block _ (blk_lt Q3.out) (by rw [hv30]; intro e; injection e with e; omega)).trans Q3.out)
              (refine hK.out _ _ ?hS1242 (fun hHeld => ?hr1242); (case hS1242 => exact hB4); clear hK K; try simp only [Act.put, List.setIfInBounds_toArray, List.set_cons_zero, List.set_cons_succ])
              clear hB4
              refine hd_two (i := 7) (j := 14) (oi := ?o12A) (oj := ?o12B) ?e12A ?e12B (by kernel_rfl) (by decide) (by decide) ?h12A ?h12B
              case e12A => (simp only [List.getElem?_toArray, List.getElem?_cons_succ, List.getElem?_cons_zero]; rfl)
              case e12B => (simp only [List.getElem?_toArray, List.getElem?_cons_succ, List.getElem?_cons_zero]; rfl)
              case h12A =>
                intro K hK
                refine Kd.N_append_rows_step (Kd.int .i64) (w0 := w4) w4.heap.size rfl _ _ 22 3 _ 8 rfl Try.underlying22 infoI rfl (by decide) (by decide) v32 ([] ++ p) [(k : Int)] (some ⟨W3.heap.size, 0, none⟩) 1 1 (fun _ => True) (fun j => False ∨ j = W3.heap.size) rfl rfl HN4.out (F_int1 Q5.out) (fun q hq => ⟨trivial, fun e => by rw [hv32] at e; injection e with e; rcases hq with hq | hq; exact hq; omega⟩) (fun _ _ => trivial) hHeld hHeld.size (by have := HPL.out; simp <;> omega) ?_
                intro v35 x6 hN6 hB6 hG6 hI6
                have hs6 := hG6.size
                rw [List.nil_append, ← HQ.out] at hN6
                obtain ⟨A35, c35, rfl⟩ := Kd.N_slice hN6
                have h35 : ∃ b35, (Value.slice A35 q.length c35).ownBlock = some b35 ∧ (b35 = b32 ∨ x4.heap.size ≤ b35) := by rcases hI6 with h | ⟨b, h, hb⟩; exact ⟨b32, h.trans hv32, .inl rfl⟩; exact ⟨b, h, .inr hb⟩
                obtain ⟨b35, hv35, hb35⟩ := h35
                have hl35 := Kd.N_lt hN6 b35 hv35
                have HN6 := Aside0.mk hN6
                have HG6 := Aside0.mk hG6
                clear hN6 hG6 hI6
                have Q7 := Aside0.mk ((HG6.out.block _ (blk_lt Q5.out) (by rw [hv32]; intro e; injection e with e; omega)).trans Q5.out)
                (refine hK.out _ _ ?hS1245 (fun hHeld => ?hr1245); (case hS1245 => exact hB6); clear hK K; try simp only [Act.put, List.setIfInBounds_toArray, List.set_cons_zero, List.set_cons_succ])
                clear hB6
                refine hd_two (i := 8) (j := 14) (oi := ?o13A) (oj := ?o13B) ?e13A ?e13B (by kernel_rfl) (by decide) (by decide) ?h13A ?h13B
                case e13A => (simp only [List.getElem?_toArray, List.getElem?_cons_succ, List.getElem?_cons_zero]; rfl)
                case e13B => (simp only [List.getElem?_toArray, List.getElem?_cons_succ, List.getElem?_cons_zero]; rfl)
                case h13A =>
                  intro K hK
                  go_simp
                  have hRd := Kd.N_reads' HN6.out
                  go_at_call 104
                  refine (IHX.out x6 A35 c35 b35 hHeld (by omega) (Kd.F_mono (Kd.N_F (N_int_tight HN6.out)) (fun j hj => by rw [hv35] at hj; injection hj with hj; exact hj.symm)) hRd.2.1).mono ?_
                  rintro e x8 ⟨v37, v38, v39, bv, rfl, hV8, hb8⟩
                  have hs8 := hb8.size
                  have HV8 := Aside0.mk hV8
                  have HG8 := Aside0.mk hb8
                  clear hV8 hRd
                  have Q9 := Aside0.mk ((HG8.out.block _ (blk_lt Q7.out)).trans Q7.out)
                  go_simp
                  (refine hK.out _ _ ?hS1248 (fun hHeld => ?hr1248); (case hS1248 => exact hbT hHeld HG8.out); clear hK K; try simp only [Act.put, List.setIfInBounds_toArray, List.set_cons_zero, List.set_cons_succ])
                  clear hb8
                  (refine hd_take (i := 9) (oi := ?oi1249) (v := ?v1249) ?hi1249 (by kernel_rfl) (by kernel_rfl) (by kernel_rfl) (by kernel_rfl) (by decide) ?hq1249 ?hw1249 ?hy1249 hHeld ?hr1249; (case hi1249 => (simp only [List.getElem?_toArray, List.getElem?_cons_succ, List.getElem?_cons_zero]; rfl)); (case hw1249 => rfl); (case hy1249 => (intro w hSw; go_simp; try with_reducible rfl)); (case hq1249 => exact fun _ _ _ h => h); simp only [Act.put, List.setIfInBounds_toArray, List.set_cons_zero, List.set_cons_succ])
                  (refine hd_take (i := 10) (oi := ?oi1251) (v := ?v1251) ?hi1251 (by kernel_rfl) (by kernel_rfl) (by kernel_rfl) (by kernel_rfl) (by decide) ?hq1251 ?hw1251 ?hy1251 hHeld ?hr1251; (case hi1251 => (simp only [List.getElem?_toArray, List.getElem?_cons_succ, List.getElem?_cons_zero]; rfl)); (case hw1251 => rfl); (case hy1251 => (intro w hSw; go_simp; try with_reducible rfl)); (case hq1251 => exact fun _ _ _ h => h); simp only [Act.put, List.setIfInBounds_toArray, List.set_cons_zero, List.set_cons_succ])
                  (refine hd_take (i := 11) (oi := ?oi1253) (v := ?v1253) ?hi1253 (by kernel_rfl) (by kernel_rfl) (by kernel_rfl) (by kernel_rfl) (by decide) ?hq1253 ?hw1253 ?hy1253 hHeld ?hr1253; (case hi1253 => (simp only [List.getElem?_toArray, List.getElem?_cons_succ, List.getElem?_cons_zero]; rfl)); (case hw1253 => rfl); (case hy1253 => (intro w hSw; go_simp; try with_reducible rfl)); (case hq1253 => exact fun _ _ _ h => h); simp only [Act.put, List.setIfInBounds_toArray, List.set_cons_zero, List.set_cons_succ])
                  (refine hd_take (i := 12) (oi := ?oi1255) (v := ?v1255) ?hi1255 (by kernel_rfl) (by kernel_rfl) (by kernel_rfl) (by kernel_rfl) (by decide) ?hq1255 ?hw1255 ?hy1255 hHeld ?hr1255; (case hi1255 => (simp only [List.getElem?_toArray, List.getElem?_cons_succ, List.getElem?_cons_zero]; rfl)); (case hw1255 => rfl); (case hy1255 => (intro w hSw; go_simp; try with_reducible rfl)); (case hq1255 => exact fun _ _ _ h => h); simp only [Act.put, List.setIfInBounds_toArray, List.set_cons_zero, List.set_cons_succ])
                  (refine hd_take (i := 13) (oi := ?oi1257) (v := ?v1257) ?hi1257 (by kernel_rfl) (by kernel_rfl) (by kernel_rfl) (by kernel_rfl) (by decide) ?hq1257 ?hw1257 ?hy1257 hHeld ?hr1257; (case hi1257 => (simp only [List.getElem?_toArray, List.getElem?_cons_succ, List.getElem?_cons_zero]; rfl)); (case hw1257 => rfl); (case hy1257 => (intro w hSw; go_simp; try with_reducible rfl)); (case hq1257 => exact fun _ _ _ h => h); simp only [Act.put, List.setIfInBounds_toArray, List.set_cons_zero, List.set_cons_succ])
                  (refine hd_one (i := 14) (oi := ?oi1259) ?hi1259 (by kernel_rfl) (by decide) ?hr1259; (case hi1259 => (simp only [List.getElem?_toArray, List.getElem?_cons_succ, List.getElem?_cons_zero]; rfl)); intro K hK)
                  go_simp
                  (refine hK.out _ _ ?hS1261 (fun hHeld => ?hr1261); (case hS1261 => exact below_alloc hHeld _); clear hK K; try simp only [Act.put, List.setIfInBounds_toArray, List.set_cons_zero, List.set_cons_succ])
                  have HX10 := Aside0.mk (heap_alloc_new x8 (.cells #[.int .i64 0, .int .i64 0, .slice none 0 0, .int .i64 0, .int .i64 0, .slice none 0 0] 100))
                  have HG10 := Aside0.mk (below_alloc (Below.refl x8.heap.size x8) (.cells #[.int .i64 0, .int .i64 0, .slice none 0 0, .int .i64 0, .int .i64 0, .slice none 0 0] 100))
                  have hs10 : x8.heap.size + 1 ≤ (x8.alloc (.cells #[.int .i64 0, .int .i64 0, .slice none 0 0, .int .i64 0, .int .i64 0, .slice none 0 0] 100)).heap.size := by simp
                  have Q11 := Aside0.mk ((HG10.out.block _ (blk_lt Q9.out)).trans Q9.out)
                  have Q12 := Aside0.mk (HV8.out.below HG10.out)
                  generalize x8.alloc (.cells #[.int .i64 0, .int .i64 0, .slice none 0 0, .int .i64 0, .int .i64 0, .slice none 0 0] 100) = x10 at *
                  have ha14 : ∃ a, a = x8.heap.size := ⟨_, rfl⟩
                  obtain ⟨a14, ha14⟩ := ha14
                  have hw4a14 : w4.heap.size ≤ x8.heap.size := by omega
                  (refine hd_one (i := 15) (oi := ?oi1262) ?hi1262 (by kernel_rfl) (by decide) ?hr1262; (case hi1262 => (simp only [List.getElem?_toArray, List.getElem?_cons_succ, List.getElem?_cons_zero]; rfl)); intro K hK)
                  go_simp
                  (refine hK.out _ _ ?hS1264 (fun hHeld => ?hr1264); (case hS1264 => exact hHeld); clear hK K; try simp only [Act.put, List.setIfInBounds_toArray, List.set_cons_zero, List.set_cons_succ])
                  obtain ⟨r, A2', c2', A5', c5', rfl, hVV⟩ := Q12.out
                  clear hVV
                  (refine hd_one (i := 16) (oi := ?oi1265) ?hi1265 (by kernel_rfl) (by decide) ?hr1265; (case hi1265 => (simp only [List.getElem?_toArray, List.getElem?_cons_succ, List.getElem?_cons_zero]; rfl)); intro K hK)
                  refine st_rl_step 13 rfl rfl rfl rfl rfl HX10.out ?_
                  intro xs hsx hGx hzx
                  have HSx := Aside0.mk hsx
                  have HGx := Aside0.mk hGx
                  clear hsx hGx
                  (refine hK.out _ _ ?hS1267 (fun hHeld => ?hr1267); (case hS1267 => exact gbS hHeld HGx.out (by omega)); clear hK K; try simp only [Act.put, List.setIfInBounds_toArray, List.set_cons_zero, List.set_cons_succ])
                  (refine hd_one (i := 17) (oi := ?oi1268) ?hi1268 (by kernel_rfl) (by decide) ?hr1268; (case hi1268 => (simp only [List.getElem?_toArray, List.getElem?_cons_succ, List.getElem?_cons_zero]; rfl)); intro K hK)
                  go_simp
                  (refine hK.out _ _ ?hS1270 (fun hHeld => ?hr1270); (case hS1270 => exact hHeld); clear hK K; try simp only [Act.put, List.setIfInBounds_toArray, List.set_cons_zero, List.set_cons_succ])
                  (refine hd_one (i := 18) (oi := ?oi1271) ?hi1271 (by kernel_rfl) (by decide) ?hr1271; (case hi1271 => (simp only [List.getElem?_toArray, List.getElem?_cons_succ, List.getElem?_cons_zero]; rfl)); intro K hK)
                  go_simp
                  (refine hK.out _ _ ?hS1273 (fun hHeld => ?hr1273); (case hS1273 => exact hHeld); clear hK K; try simp only [Act.put, List.setIfInBounds_toArray, List.set_cons_zero, List.set_cons_succ])
                  (refine hd_done (by kernel_rfl) ?_; simp only [List.drop_succ_cons, List.drop_zero])
                  have hK : KeyF okl okt q (fndT l x) w4 v37 (.agg #[.int .i64 r.f0.f0, .int .i64 r.f0.f1, .slice A2' r.f0.f2.length c2', .int .i64 r.f1.f0, .int .i64 r.f1.f1, .slice A5' r.f1.f2.length c5']) v39 bv (x8.heap.size) xs := ⟨hHeld, FndV.mono (okr' := fun k => w4.heap.size ≤ k ∧ k ≠ (x8.heap.size)) (FndV.grown (FndV.mono (okr' := fun k => w4.heap.size ≤ k ∧ k ≠ (x8.heap.size)) Q12.out (fun k hk => by obtain ⟨h1, h2⟩ := hk; exact ⟨by omega, by omega⟩)) HGx.out (fun k hk => by have := HOL.out k hk; omega) (fun k hk => by have := HOT.out k hk; omega) (fun k hk => hk.2)) (fun k hk => hk), ⟨_, _, _, _, _, rfl, HSx.out⟩, by omega⟩
                  refine useT (key v30 v32 (Value.slice (some ⟨W3.heap.size, 0, none⟩) 1 1) (Value.slice A35 q.length c35) v37 (.agg #[.int .i64 r.f0.f0, .int .i64 r.f0.f1, .slice A2' r.f0.f2.length c2', .int .i64 r.f1.f0, .int .i64 r.f1.f1, .slice A5' r.f1.f2.length c5']) v39 bv (x8.heap.size) xs hK) ?_
                  rfl
                case h13B =>
                  intro K hK
                  go_simp
                  (refine hK.out _ _ ?hS1275 (fun hHeld => ?hr1275); (case hS1275 => exact below_alloc hHeld _); clear hK K; try simp only [Act.put, List.setIfInBounds_toArray, List.set_cons_zero, List.set_cons_succ])
                  have HX8 := Aside0.mk (heap_alloc_new x6 (.cells #[.int .i64 0, .int .i64 0, .slice none 0 0, .int .i64 0, .int .i64 0, .slice none 0 0] 100))
                  have HG8 := Aside0.mk (below_alloc (Below.refl x6.heap.size x6) (.cells #[.int .i64 0, .int .i64 0, .slice none 0 0, .int .i64 0, .int .i64 0, .slice none 0 0] 100))
                  have hs8 : x6.heap.size + 1 ≤ (x6.alloc (.cells #[.int .i64 0, .int .i64 0, .slice none 0 0, .int .i64 0, .int .i64 0, .slice none 0 0] 100)).heap.size := by simp
                  have Q9 := Aside0.mk ((HG8.out.block _ (blk_lt Q7.out)).trans Q7.out)
                  have Q10 := Aside0.mk (Kd.N_below HN6.out HG8.out)
                  generalize x6.alloc (.cells #[.int .i64 0, .int .i64 0, .slice none 0 0, .int .i64 0, .int .i64 0, .slice none 0 0] 100) = x8 at *
                  have ha14 : ∃ a, a = x6.heap.size := ⟨_, rfl⟩
                  obtain ⟨a14, ha14⟩ := ha14
                  have hw4a14 : w4.heap.size ≤ x6.heap.size := by omega
                  (refine hd_one (i := 8) (oi := ?oi1276) ?hi1276 (by kernel_rfl) (by decide) ?hr1276; (case hi1276 => (simp only [List.getElem?_toArray, List.getElem?_cons_succ, List.getElem?_cons_zero]; rfl)); intro K hK)
                  go_simp
                  have hRd := Kd.N_reads' Q10.out
                  go_at_call 104
                  refine (IHX.out x8 A35 c35 b35 hHeld (by omega) (Kd.F_mono (Kd.N_F (N_int_tight Q10.out)) (fun j hj => by rw [hv35] at hj; injection hj with hj; exact hj.symm)) hRd.2.1).mono ?_
                  rintro e x11 ⟨v37, v38, v39, bv, rfl, hV11, hb11⟩
                  have hs11 := hb11.size
                  have HV11 := Aside0.mk hV11
                  have HG11 := Aside0.mk hb11
                  clear hV11 hRd
                  have Q12 := Aside0.mk ((HG11.out.block _ (blk_lt Q9.out)).trans Q9.out)
                  have Q13 := Aside0.mk ((HG11.out.block _ (blk_lt HX8.out)).trans HX8.out)
                  go_simp
                  (refine hK.out _ _ ?hS1278 (fun hHeld => ?hr1278); (case hS1278 => exact hbT hHeld HG11.out); clear hK K; try simp only [Act.put, List.setIfInBounds_toArray, List.set_cons_zero, List.set_cons_succ])
                  clear hb11
                  (refine hd_take (i := 9) (oi := ?oi1279) (v := ?v1279) ?hi1279 (by kernel_rfl) (by kernel_rfl) (by kernel_rfl) (by kernel_rfl) (by decide) ?hq1279 ?hw1279 ?hy1279 hHeld ?hr1279; (case hi1279 => (simp only [List.getElem?_toArray, List.getElem?_cons_succ, List.getElem?_cons_zero]; rfl)); (case hw1279 => rfl); (case hy1279 => (intro w hSw; go_simp; try with_reducible rfl)); (case hq1279 => exact fun _ _ _ h => h); simp only [Act.put, List.setIfInBounds_toArray, List.set_cons_zero, List.set_cons_succ])
                  (refine hd_take (i := 10) (oi := ?oi1281) (v := ?v1281) ?hi1281 (by kernel_rfl) (by kernel_rfl) (by kernel_rfl) (by kernel_rfl) (by decide) ?hq1281 ?hw1281 ?hy1281 hHeld ?hr1281; (case hi1281 => (simp only [List.getElem?_toArray, List.getElem?_cons_succ, List.getElem?_cons_zero]; rfl)); (case hw1281 => rfl); (case hy1281 => (intro w hSw; go_simp; try with_reducible rfl)); (case hq1281 => exact fun _ _ _ h => h); simp only [Act.put, List.setIfInBounds_toArray, List.set_cons_zero, List.set_cons_succ])
                  (refine hd_take (i := 11) (oi := ?oi1283) (v := ?v1283) ?hi1283 (by kernel_rfl) (by kernel_rfl) (by kernel_rfl) (by kernel_rfl) (by decide) ?hq1283 ?hw1283 ?hy1283 hHeld ?hr1283; (case hi1283 => (simp only [List.getElem?_toArray, List.getElem?_cons_succ, List.getElem?_cons_zero]; rfl)); (case hw1283 => rfl); (case hy1283 => (intro w hSw; go_simp; try with_reducible rfl)); (case hq1283 => exact fun _ _ _ h => h); simp only [Act.put, List.setIfInBounds_toArray, List.set_cons_zero, List.set_cons_succ])
                  (refine hd_take (i := 12) (oi := ?oi1285) (v := ?v1285) ?hi1285 (by kernel_rfl) (by kernel_rfl) (by kernel_rfl) (by kernel_rfl) (by decide) ?hq1285 ?hw1285 ?hy1285 hHeld ?hr1285; (case hi1285 => (simp only [List.getElem?_toArray, List.getElem?_cons_succ, List.getElem?_cons_zero]; rfl)); (case hw1285 => rfl); (case hy1285 => (intro w hSw; go_simp; try with_reducible rfl)); (case hq1285 => exact fun _ _ _ h => h); simp only [Act.put, List.setIfInBounds_toArray, List.set_cons_zero, List.set_cons_succ])
                  (refine hd_take (i := 13) (oi := ?oi1287) (v := ?v1287) ?hi1287 (by kernel_rfl) (by kernel_rfl) (by kernel_rfl) (by kernel_rfl) (by decide) ?hq1287 ?hw1287 ?hy1287 hHeld ?hr1287; (case hi1287 => (simp only [List.getElem?_toArray, List.getElem?_cons_succ, List.getElem?_cons_zero]; rfl)); (case hw1287 => rfl); (case hy1287 => (intro w hSw; go_simp; try with_reducible rfl)); (case hq1287 => exact fun _ _ _ h => h); simp only [Act.put, List.setIfInBounds_toArray, List.set_cons_zero, List.set_cons_succ])
                  (refine hd_one (i := 15) (oi := ?oi1289) ?hi1289 (by kernel_rfl) (by decide) ?hr1289; (case hi1289 => (simp only [List.getElem?_toArray, List.getElem?_cons_succ, List.getElem?_cons_zero]; rfl)); intro K hK)
                  go_simp
                  (refine hK.out _ _ ?hS1291 (fun hHeld => ?hr1291); (case hS1291 => exact hHeld); clear hK K; try simp only [Act.put, List.setIfInBounds_toArray, List.set_cons_zero, List.set_cons_succ])
                  obtain ⟨r, A2', c2', A5', c5', rfl, hVV⟩ := HV11.out
                  clear hVV
                  (refine hd_one (i := 16) (oi := ?oi1292) ?hi1292 (by kernel_rfl) (by decide) ?hr1292; (case hi1292 => (simp only [List.getElem?_toArray, List.getElem?_cons_succ, List.getElem?_cons_zero]; rfl)); intro K hK)
                  refine st_rl_step 13 rfl rfl rfl rfl rfl Q13.out ?_
                  intro xs hsx hGx hzx
                  have HSx := Aside0.mk hsx
                  have HGx := Aside0.mk hGx
                  clear hsx hGx
                  (refine hK.out _ _ ?hS1294 (fun hHeld => ?hr1294); (case hS1294 => exact gbS hHeld HGx.out (by omega)); clear hK K; try simp only [Act.put, List.setIfInBounds_toArray, List.set_cons_zero, List.set_cons_succ])
                  (refine hd_one (i := 17) (oi := ?oi1295) ?hi1295 (by kernel_rfl) (by decide) ?hr1295; (case hi1295 => (simp only [List.getElem?_toArray, List.getElem?_cons_succ, List.getElem?_cons_zero]; rfl)); intro K hK)
                  go_simp
                  (refine hK.out _ _ ?hS1297 (fun hHeld => ?hr1297); (case hS1297 => exact hHeld); clear hK K; try simp only [Act.put, List.setIfInBounds_toArray, List.set_cons_zero, List.set_cons_succ])
                  (refine hd_one (i := 18) (oi := ?oi1298) ?hi1298 (by kernel_rfl) (by decide) ?hr1298; (case hi1298 => (simp only [List.getElem?_toArray, List.getElem?_cons_succ, List.getElem?_cons_zero]; rfl)); intro K hK)
                  go_simp
                  (refine hK.out _ _ ?hS1300 (fun hHeld => ?hr1300); (case hS1300 => exact hHeld); clear hK K; try simp only [Act.put, List.setIfInBounds_toArray, List.set_cons_zero, List.set_cons_succ])
                  (refine hd_done (by kernel_rfl) ?_; simp only [List.drop_succ_cons, List.drop_zero])
                  have hK : KeyF okl okt q (fndT l x) w4 v37 (.agg #[.int .i64 r.f0.f0, .int .i64 r.f0.f1, .slice A2' r.f0.f2.length c2', .int .i64 r.f1.f0, .int .i64 r.f1.f1, .slice A5' r.f1.f2.length c5']) v39 bv (x6.heap.size) xs := ⟨hHeld, FndV.mono (okr' := fun k => w4.heap.size ≤ k ∧ k ≠ (x6.heap.size)) (FndV.grown (FndV.mono (okr' := fun k => w4.heap.size ≤ k ∧ k ≠ (x6.heap.size)) HV11.out (fun k hk => by obtain ⟨h1, h2⟩ := hk; exact ⟨by omega, by omega⟩)) HGx.out (fun k hk => by have := HOL.out k hk; omega) (fun k hk => by have := HOT.out k hk; omega) (fun k hk => hk.2)) (fun k hk => hk), ⟨_, _, _, _, _, rfl, HSx.out⟩, by omega⟩
                  refine useT (key v30 v32 (Value.slice (some ⟨W3.heap.size, 0, none⟩) 1 1) (Value.slice A35 q.length c35) v37 (.agg #[.int .i64 r.f0.f0, .int .i64 r.f0.f1, .slice A2' r.f0.f2.length c2', .int .i64 r.f1.f0, .int .i64 r.f1.f1, .slice A5' r.f1.f2.length c5']) v39 bv (x6.heap.size) xs hK) ?_
                  rfl
              case h12B =>
                intro K hK
                go_simp
                (refine hK.out _ _ ?hS1302 (fun hHeld => ?hr1302); (case hS1302 => exact below_alloc hHeld _); clear hK K; try simp only [Act.put, List.setIfInBounds_toArray, List.set_cons_zero, List.set_cons_succ])
                have HX6 := Aside0.mk (heap_alloc_new x4 (.cells #[.int .i64 0, .int .i64 0, .slice none 0 0, .int .i64 0, .int .i64 0, .slice none 0 0] 100))
                have HG6 := Aside0.mk (below_alloc (Below.refl x4.heap.size x4) (.cells #[.int .i64 0, .int .i64 0, .slice none 0 0, .int .i64 0, .int .i64 0, .slice none 0 0] 100))
                have hs6 : x4.heap.size + 1 ≤ (x4.alloc (.cells #[.int .i64 0, .int .i64 0, .slice none 0 0, .int .i64 0, .int .i64 0, .slice none 0 0] 100)).heap.size := by simp
                have Q7 := Aside0.mk ((HG6.out.block _ (blk_lt Q5.out)).trans Q5.out)
                have Q8 := Aside0.mk (Kd.N_below HN4.out HG6.out)
                generalize x4.alloc (.cells #[.int .i64 0, .int .i64 0, .slice none 0 0, .int .i64 0, .int .i64 0, .slice none 0 0] 100) = x6 at *
                have ha14 : ∃ a, a = x4.heap.size := ⟨_, rfl⟩
                obtain ⟨a14, ha14⟩ := ha14
                have hw4a14 : w4.heap.size ≤ x4.heap.size := by omega
                (refine hd_one (i := 7) (oi := ?oi1303) ?hi1303 (by kernel_rfl) (by decide) ?hr1303; (case hi1303 => (simp only [List.getElem?_toArray, List.getElem?_cons_succ, List.getElem?_cons_zero]; rfl)); intro K hK)
                refine Kd.N_append_rows_step (Kd.int .i64) (w0 := w4) w4.heap.size rfl _ _ 22 3 _ 8 rfl Try.underlying22 infoI rfl (by decide) (by decide) v32 ([] ++ p) [(k : Int)] (some ⟨W3.heap.size, 0, none⟩) 1 1 (fun _ => True) (fun j => False ∨ j = W3.heap.size) rfl rfl Q8.out (F_int1 Q7.out) (fun q hq => ⟨trivial, fun e => by rw [hv32] at e; injection e with e; rcases hq with hq | hq; exact hq; omega⟩) (fun _ _ => trivial) hHeld hHeld.size (by have := HPL.out; simp <;> omega) ?_
                intro v35 x9 hN9 hB9 hG9 hI9
                have hs9 := hG9.size
                rw [List.nil_append, ← HQ.out] at hN9
                obtain ⟨A35, c35, rfl⟩ := Kd.N_slice hN9
                have h35 : ∃ b35, (Value.slice A35 q.length c35).ownBlock = some b35 ∧ (b35 = b32 ∨ x6.heap.size ≤ b35) := by rcases hI9 with h | ⟨b, h, hb⟩; exact ⟨b32, h.trans hv32, .inl rfl⟩; exact ⟨b, h, .inr hb⟩
                obtain ⟨b35, hv35, hb35⟩ := h35
                have hl35 := Kd.N_lt hN9 b35 hv35
                have HN9 := Aside0.mk hN9
                have HG9 := Aside0.mk hG9
                clear hN9 hG9 hI9
                have Q10 := Aside0.mk ((HG9.out.block _ (blk_lt Q7.out) (by rw [hv32]; intro e; injection e with e; omega)).trans Q7.out)
                have Q11 := Aside0.mk ((HG9.out.block _ (blk_lt HX6.out) (by rw [hv32]; intro e; injection e with e; omega)).trans HX6.out)
                (refine hK.out _ _ ?hS1305 (fun hHeld => ?hr1305); (case hS1305 => exact hB9); clear hK K; try simp only [Act.put, List.setIfInBounds_toArray, List.set_cons_zero, List.set_cons_succ])
                clear hB9
                (refine hd_one (i := 8) (oi := ?oi1306) ?hi1306 (by kernel_rfl) (by decide) ?hr1306; (case hi1306 => (simp only [List.getElem?_toArray, List.getElem?_cons_succ, List.getElem?_cons_zero]; rfl)); intro K hK)
                go_simp
                have hRd := Kd.N_reads' HN9.out
                go_at_call 104
                refine (IHX.out x9 A35 c35 b35 hHeld (by omega) (Kd.F_mono (Kd.N_F (N_int_tight HN9.out)) (fun j hj => by rw [hv35] at hj; injection hj with hj; exact hj.symm)) hRd.2.1).mono ?_
                rintro e x12 ⟨v37, v38, v39, bv, rfl, hV12, hb12⟩
                have hs12 := hb12.size
                have HV12 := Aside0.mk hV12
                have HG12 := Aside0.mk hb12
                clear hV12 hRd
                have Q13 := Aside0.mk ((HG12.out.block _ (blk_lt Q10.out)).trans Q10.out)
                have Q14 := Aside0.mk ((HG12.out.block _ (blk_lt Q11.out)).trans Q11.out)
                go_simp
                (refine hK.out _ _ ?hS1308 (fun hHeld => ?hr1308); (case hS1308 => exact hbT hHeld HG12.out); clear hK K; try simp only [Act.put, List.setIfInBounds_toArray, List.set_cons_zero, List.set_cons_succ])
                clear hb12
                (refine hd_take (i := 9) (oi := ?oi1309) (v := ?v1309) ?hi1309 (by kernel_rfl) (by kernel_rfl) (by kernel_rfl) (by kernel_rfl) (by decide) ?hq1309 ?hw1309 ?hy1309 hHeld ?hr1309; (case hi1309 => (simp only [List.getElem?_toArray, List.getElem?_cons_succ, List.getElem?_cons_zero]; rfl)); (case hw1309 => rfl); (case hy1309 => (intro w hSw; go_simp; try with_reducible rfl)); (case hq1309 => exact fun _ _ _ h => h); simp only [Act.put, List.setIfInBounds_toArray, List.set_cons_zero, List.set_cons_succ])
                (refine hd_take (i := 10) (oi := ?oi1311) (v := ?v1311) ?hi1311 (by kernel_rfl) (by kernel_rfl) (by kernel_rfl) (by kernel_rfl) (by decide) ?hq1311 ?hw1311 ?hy1311 hHeld ?hr1311; (case hi1311 => (simp only [List.getElem?_toArray, List.getElem?_cons_succ, List.getElem?_cons_zero]; rfl)); (case hw1311 => rfl); (case hy1311 => (intro w hSw; go_simp; try with_reducible rfl)); (case hq1311 => exact fun _ _ _ h => h); simp only [Act.put, List.setIfInBounds_toArray, List.set_cons_zero, List.set_cons_succ])
                (refine hd_take (i := 11) (oi := ?oi1313) (v := ?v1313) ?hi1313 (by kernel_rfl) (by kernel_rfl) (by kernel_rfl) (by kernel_rfl) (by decide) ?hq1313 ?hw1313 ?hy1313 hHeld ?hr1313; (case hi1313 => (simp only [List.getElem?_toArray, List.getElem?_cons_succ, List.getElem?_cons_zero]; rfl)); (case hw1313 => rfl); (case hy1313 => (intro w hSw; go_simp; try with_reducible rfl)); (case hq1313 => exact fun _ _ _ h => h); simp only [Act.put, List.setIfInBounds_toArray, List.set_cons_zero, List.set_cons_succ])
                (refine hd_take (i := 12) (oi := ?oi1315) (v := ?v1315) ?hi1315 (by kernel_rfl) (by kernel_rfl) (by kernel_rfl) (by kernel_rfl) (by decide) ?hq1315 ?hw1315 ?hy1315 hHeld ?hr1315; (case hi1315 => (simp only [List.getElem?_toArray, List.getElem?_cons_succ, List.getElem?_cons_zero]; rfl)); (case hw1315 => rfl); (case hy1315 => (intro w hSw; go_simp; try with_reducible rfl)); (case hq1315 => exact fun _ _ _ h => h); simp only [Act.put, List.setIfInBounds_toArray, List.set_cons_zero, List.set_cons_succ])
                (refine hd_take (i := 13) (oi := ?oi1317) (v := ?v1317) ?hi1317 (by kernel_rfl) (by kernel_rfl) (by kernel_rfl) (by kernel_rfl) (by decide) ?hq1317 ?hw1317 ?hy1317 hHeld ?hr1317; (case hi1317 => (simp only [List.getElem?_toArray, List.getElem?_cons_succ, List.getElem?_cons_zero]; rfl)); (case hw1317 => rfl); (case hy1317 => (intro w hSw; go_simp; try with_reducible rfl)); (case hq1317 => exact fun _ _ _ h => h); simp only [Act.put, List.setIfInBounds_toArray, List.set_cons_zero, List.set_cons_succ])
                (refine hd_one (i := 15) (oi := ?oi1319) ?hi1319 (by kernel_rfl) (by decide) ?hr1319; (case hi1319 => (simp only [List.getElem?_toArray, List.getElem?_cons_succ, List.getElem?_cons_zero]; rfl)); intro K hK)
                go_simp
                (refine hK.out _ _ ?hS1321 (fun hHeld => ?hr1321); (case hS1321 => exact hHeld); clear hK K; try simp only [Act.put, List.setIfInBounds_toArray, List.set_cons_zero, List.set_cons_succ])
                obtain ⟨r, A2', c2', A5', c5', rfl, hVV⟩ := HV12.out
                clear hVV
                (refine hd_one (i := 16) (oi := ?oi1322) ?hi1322 (by kernel_rfl) (by decide) ?hr1322; (case hi1322 => (simp only [List.getElem?_toArray, List.getElem?_cons_succ, List.getElem?_cons_zero]; rfl)); intro K hK)
                refine st_rl_step 13 rfl rfl rfl rfl rfl Q14.out ?_
                intro xs hsx hGx hzx
                have HSx := Aside0.mk hsx
                have HGx := Aside0.mk hGx
                clear hsx hGx
                (refine hK.out _ _ ?hS1324 (fun hHeld => ?hr1324); (case hS1324 => exact gbS hHeld HGx.out (by omega)); clear hK K; try simp only [Act.put, List.setIfInBounds_toArray, List.set_cons_zero, List.set_cons_succ])
                (refine hd_one (i := 17) (oi := ?oi1325) ?hi1325 (by kernel_rfl) (by decide) ?hr1325; (case hi1325 => (simp only [List.getElem?_toArray, List.getElem?_cons_succ, List.getElem?_cons_zero]; rfl)); intro K hK)
                go_simp
                (refine hK.out _ _ ?hS1327 (fun hHeld => ?hr1327); (case hS1327 => exact hHeld); clear hK K; try simp only [Act.put, List.setIfInBounds_toArray, List.set_cons_zero, List.set_cons_succ])
                (refine hd_one (i := 18) (oi := ?oi1328) ?hi1328 (by kernel_rfl) (by decide) ?hr1328; (case hi1328 => (simp only [List.getElem?_toArray, List.getElem?_cons_succ, List.getElem?_cons_zero]; rfl)); intro K hK)
                go_simp
                (refine hK.out _ _ ?hS1330 (fun hHeld => ?hr1330); (case hS1330 => exact hHeld); clear hK K; try simp only [Act.put, List.setIfInBounds_toArray, List.set_cons_zero, List.set_cons_succ])
                (refine hd_done (by kernel_rfl) ?_; simp only [List.drop_succ_cons, List.drop_zero])
                have hK : KeyF okl okt q (fndT l x) w4 v37 (.agg #[.int .i64 r.f0.f0, .int .i64 r.f0.f1, .slice A2' r.f0.f2.length c2', .int .i64 r.f1.f0, .int .i64 r.f1.f1, .slice A5' r.f1.f2.length c5']) v39 bv (x4.heap.size) xs := ⟨hHeld, FndV.mono (okr' := fun k => w4.heap.size ≤ k ∧ k ≠ (x4.heap.size)) (FndV.grown (FndV.mono (okr' := fun k => w4.heap.size ≤ k ∧ k ≠ (x4.heap.size)) HV12.out (fun k hk => by obtain ⟨h1, h2⟩ := hk; exact ⟨by omega, by omega⟩)) HGx.out (fun k hk => by have := HOL.out k hk; omega) (fun k hk => by have := HOT.out k hk; omega) (fun k hk => hk.2)) (fun k hk => hk), ⟨_, _, _, _, _, rfl, HSx.out⟩, by omega⟩
                refine useT (key v30 v32 (Value.slice (some ⟨W3.heap.size, 0, none⟩) 1 1) (Value.slice A35 q.length c35) v37 (.agg #[.int .i64 r.f0.f0, .int .i64 r.f0.f1, .slice A2' r.f0.f2.length c2', .int .i64 r.f1.f0, .int .i64 r.f1.f1, .slice A5' r.f1.f2.length c5']) v39 bv (x4.heap.size) xs hK) ?_
                rfl
            case h11B =>
              intro K hK
              go_simp
              (refine hK.out _ _ ?hS1332 (fun hHeld => ?hr1332); (case hS1332 => exact below_alloc hHeld _); clear hK K; try simp only [Act.put, List.setIfInBounds_toArray, List.set_cons_zero, List.set_cons_succ])
              have HX4 := Aside0.mk (heap_alloc_new x2 (.cells #[.int .i64 0, .int .i64 0, .slice none 0 0, .int .i64 0, .int .i64 0, .slice none 0 0] 100))
              have HG4 := Aside0.mk (below_alloc (Below.refl x2.heap.size x2) (.cells #[.int .i64 0, .int .i64 0, .slice none 0 0, .int .i64 0, .int .i64 0, .slice none 0 0] 100))
              have hs4 : x2.heap.size + 1 ≤ (x2.alloc (.cells #[.int .i64 0, .int .i64 0, .slice none 0 0, .int .i64 0, .int .i64 0, .slice none 0 0] 100)).heap.size := by simp
              have Q5 := Aside0.mk ((HG4.out.block _ (blk_lt Q3.out)).trans Q3.out)
              have Q6 := Aside0.mk (Kd.N_below HN2.out HG4.out)
              generalize x2.alloc (.cells #[.int .i64 0, .int .i64 0, .slice none 0 0, .int .i64 0, .int .i64 0, .slice none 0 0] 100) = x4 at *
              have ha14 : ∃ a, a = x2.heap.size := ⟨_, rfl⟩
              obtain ⟨a14, ha14⟩ := ha14
              have hw4a14 : w4.heap.size ≤ x2.heap.size := by omega
              (refine hd_one (i := 4) (oi := ?oi1333) ?hi1333 (by kernel_rfl) (by decide) ?hr1333; (case hi1333 => (simp only [List.getElem?_toArray, List.getElem?_cons_succ, List.getElem?_cons_zero]; rfl)); intro K hK)
              refine Kd.N_append_rows_step (Kd.int .i64) (w0 := w4) w4.heap.size rfl _ _ 22 3 _ 8 rfl Try.underlying22 infoI rfl (by decide) (by decide) v30 [] p Ap p.length cp (fun _ => True) (fun j => j < w4.heap.size) rfl rfl Q6.out (Kd.F_below HPF.out hHeld) (fun q hq => ⟨trivial, fun e => by have := Kd.N_base Q6.out q e.symm; omega⟩) (fun _ _ => trivial) hHeld hHeld.size (by have := HPL.out; simp <;> omega) ?_
              intro v32 x7 hN7 hB7 hG7 hI7
              have h32 : ∃ b32, v32.ownBlock = some b32 ∧ (b32 = b30 ∨ x4.heap.size ≤ b32) := by rcases hI7 with h | ⟨b, h, hb⟩; exact ⟨b30, h.trans hv30, .inl rfl⟩; exact ⟨b, h, .inr hb⟩
              obtain ⟨b32, hv32, hb32⟩ := h32
              have hl32 := Kd.N_lt hN7 b32 hv32
              have hs7 := hG7.size
              have HN7 := Aside0.mk hN7
              have HG7 := Aside0.mk hG7
              clear hN7 hG7 hI7
              have Q8 := Aside0.mk ((HG7.out.block _ (blk_lt Q5.out) (by rw [hv30]; intro e; injection e with e; omega)).trans Q5.out)
              have Q9 := Aside0.mk ((HG7.out.block _ (blk_lt HX4.out) (by rw [hv30]; intro e; injection e with e; omega)).trans HX4.out)
              (refine hK.out _ _ ?hS1335 (fun hHeld => ?hr1335); (case hS1335 => exact hB7); clear hK K; try simp only [Act.put, List.setIfInBounds_toArray, List.set_cons_zero, List.set_cons_succ])
              clear hB7
              (refine hd_one (i := 7) (oi := ?oi1336) ?hi1336 (by kernel_rfl) (by decide) ?hr1336; (case hi1336 => (simp only [List.getElem?_toArray, List.getElem?_cons_succ, List.getElem?_cons_zero]; rfl)); intro K hK)
              refine Kd.N_append_rows_step (Kd.int .i64) (w0 := w4) w4.heap.size rfl _ _ 22 3 _ 8 rfl Try.underlying22 infoI rfl (by decide) (by decide) v32 ([] ++ p) [(k : Int)] (some ⟨W3.heap.size, 0, none⟩) 1 1 (fun _ => True) (fun j => False ∨ j = W3.heap.size) rfl rfl HN7.out (F_int1 Q8.out) (fun q hq => ⟨trivial, fun e => by rw [hv32] at e; injection e with e; rcases hq with hq | hq; exact hq; omega⟩) (fun _ _ => trivial) hHeld hHeld.size (by have := HPL.out; simp <;> omega) ?_
              intro v35 x10 hN10 hB10 hG10 hI10
              have hs10 := hG10.size
              rw [List.nil_append, ← HQ.out] at hN10
              obtain ⟨A35, c35, rfl⟩ := Kd.N_slice hN10
              have h35 : ∃ b35, (Value.slice A35 q.length c35).ownBlock = some b35 ∧ (b35 = b32 ∨ x7.heap.size ≤ b35) := by rcases hI10 with h | ⟨b, h, hb⟩; exact ⟨b32, h.trans hv32, .inl rfl⟩; exact ⟨b, h, .inr hb⟩
              obtain ⟨b35, hv35, hb35⟩ := h35
              have hl35 := Kd.N_lt hN10 b35 hv35
              have HN10 := Aside0.mk hN10
              have HG10 := Aside0.mk hG10
              clear hN10 hG10 hI10
              have Q11 := Aside0.mk ((HG10.out.block _ (blk_lt Q8.out) (by rw [hv32]; intro e; injection e with e; omega)).trans Q8.out)
              have Q12 := Aside0.mk ((HG10.out.block _ (blk_lt Q9.out) (by rw [hv32]; intro e; injection e with e; omega)).trans Q9.out)
              (refine hK.out _ _ ?hS1338 (fun hHeld => ?hr1338); (case hS1338 => exact hB10); clear hK K; try simp only [Act.put, List.setIfInBounds_toArray, List.set_cons_zero, List.set_cons_succ])
              clear hB10
              (refine hd_one (i := 8) (oi := ?oi1339) ?hi1339 (by kernel_rfl) (by decide) ?hr1339; (case hi1339 => (simp only [List.getElem?_toArray, List.getElem?_cons_succ, List.getElem?_cons_zero]; rfl)); intro K hK)
              go_simp
              have hRd := Kd.N_reads' HN10.out
              go_at_call 104
              refine (IHX.out x10 A35 c35 b35 hHeld (by omega) (Kd.F_mono (Kd.N_F (N_int_tight HN10.out)) (fun j hj => by rw [hv35] at hj; injection hj with hj; exact hj.symm)) hRd.2.1).mono ?_
              rintro e x13 ⟨v37, v38, v39, bv, rfl, hV13, hb13⟩
              have hs13 := hb13.size
              have HV13 := Aside0.mk hV13
              have HG13 := Aside0.mk hb13
              clear hV13 hRd
              have Q14 := Aside0.mk ((HG13.out.block _ (blk_lt Q11.out)).trans Q11.out)
              have Q15 := Aside0.mk ((HG13.out.block _ (blk_lt Q12.out)).trans Q12.out)
              go_simp
              (refine hK.out _ _ ?hS1341 (fun hHeld => ?hr1341); (case hS1341 => exact hbT hHeld HG13.out); clear hK K; try simp only [Act.put, List.setIfInBounds_toArray, List.set_cons_zero, List.set_cons_succ])
              clear hb13
              (refine hd_take (i := 9) (oi := ?oi1342) (v := ?v1342) ?hi1342 (by kernel_rfl) (by kernel_rfl) (by kernel_rfl) (by kernel_rfl) (by decide) ?hq1342 ?hw1342 ?hy1342 hHeld ?hr1342; (case hi1342 => (simp only [List.getElem?_toArray, List.getElem?_cons_succ, List.getElem?_cons_zero]; rfl)); (case hw1342 => rfl); (case hy1342 => (intro w hSw; go_simp; try with_reducible rfl)); (case hq1342 => exact fun _ _ _ h => h); simp only [Act.put, List.setIfInBounds_toArray, List.set_cons_zero, List.set_cons_succ])
              (refine hd_take (i := 10) (oi := ?oi1344) (v := ?v1344) ?hi1344 (by kernel_rfl) (by kernel_rfl) (by kernel_rfl) (by kernel_rfl) (by decide) ?hq1344 ?hw1344 ?hy1344 hHeld ?hr1344; (case hi1344 => (simp only [List.getElem?_toArray, List.getElem?_cons_succ, List.getElem?_cons_zero]; rfl)); (case hw1344 => rfl); (case hy1344 => (intro w hSw; go_simp; try with_reducible rfl)); (case hq1344 => exact fun _ _ _ h => h); simp only [Act.put, List.setIfInBounds_toArray, List.set_cons_zero, List.set_cons_succ])
              (refine hd_take (i := 11) (oi := ?oi1346) (v := ?v1346) ?hi1346 (by kernel_rfl) (by kernel_rfl) (by kernel_rfl) (by kernel_rfl) (by decide) ?hq1346 ?hw1346 ?hy1346 hHeld ?hr1346; (case hi1346 => (simp only [List.getElem?_toArray, List.getElem?_cons_succ, List.getElem?_cons_zero]; rfl)); (case hw1346 => rfl); (case hy1346 => (intro w hSw; go_simp; try with_reducible rfl)); (case hq1346 => exact fun _ _ _ h => h); simp only [Act.put, List.setIfInBounds_toArray, List.set_cons_zero, List.set_cons_succ])
              (refine hd_take (i := 12) (oi := ?oi1348) (v := ?v1348) ?hi1348 (by kernel_rfl) (by kernel_rfl) (by kernel_rfl) (by kernel_rfl) (by decide) ?hq1348 ?hw1348 ?hy1348 hHeld ?hr1348; (case hi1348 => (simp only [List.getElem?_toArray, List.getElem?_cons_succ, List.getElem?_cons_zero]; rfl)); (case hw1348 => rfl); (case hy1348 => (intro w hSw; go_simp; try with_reducible rfl)); (case hq1348 => exact fun _ _ _ h => h); simp only [Act.put, List.setIfInBounds_toArray, List.set_cons_zero, List.set_cons_succ])
              (refine hd_take (i := 13) (oi := ?oi1350) (v := ?v1350) ?hi1350 (by kernel_rfl) (by kernel_rfl) (by kernel_rfl) (by kernel_rfl) (by decide) ?hq1350 ?hw1350 ?hy1350 hHeld ?hr1350; (case hi1350 => (simp only [List.getElem?_toArray, List.getElem?_cons_succ, List.getElem?_cons_zero]; rfl)); (case hw1350 => rfl); (case hy1350 => (intro w hSw; go_simp; try with_reducible rfl)); (case hq1350 => exact fun _ _ _ h => h); simp only [Act.put, List.setIfInBounds_toArray, List.set_cons_zero, List.set_cons_succ])
              (refine hd_one (i := 15) (oi := ?oi1352) ?hi1352 (by kernel_rfl) (by decide) ?hr1352; (case hi1352 => (simp only [List.getElem?_toArray, List.getElem?_cons_succ, List.getElem?_cons_zero]; rfl)); intro K hK)
              go_simp
              (refine hK.out _ _ ?hS1354 (fun hHeld => ?hr1354); (case hS1354 => exact hHeld); clear hK K; try simp only [Act.put, List.setIfInBounds_toArray, List.set_cons_zero, List.set_cons_succ])
              obtain ⟨r, A2', c2', A5', c5', rfl, hVV⟩ := HV13.out
              clear hVV
              (refine hd_one (i := 16) (oi := ?oi1355) ?hi1355 (by kernel_rfl) (by decide) ?hr1355; (case hi1355 => (simp only [List.getElem?_toArray, List.getElem?_cons_succ, List.getElem?_cons_zero]; rfl)); intro K hK)
              refine st_rl_step 13 rfl rfl rfl rfl rfl Q15.out ?_
              intro xs hsx hGx hzx
              have HSx := Aside0.mk hsx
              have HGx := Aside0.mk hGx
              clear hsx hGx
              (refine hK.out _ _ ?hS1357 (fun hHeld => ?hr1357); (case hS1357 => exact gbS hHeld HGx.out (by omega)); clear hK K; try simp only [Act.put, List.setIfInBounds_toArray, List.set_cons_zero, List.set_cons_succ])
              (refine hd_one (i := 17) (oi := ?oi1358) ?hi1358 (by kernel_rfl) (by decide) ?hr1358; (case hi1358 => (simp only [List.getElem?_toArray, List.getElem?_cons_succ, List.getElem?_cons_zero]; rfl)); intro K hK)
              go_simp
              (refine hK.out _ _ ?hS1360 (fun hHeld => ?hr1360); (case hS1360 => exact hHeld); clear hK K; try simp only [Act.put, List.setIfInBounds_toArray, List.set_cons_zero, List.set_cons_succ])
              (refine hd_one (i := 18) (oi := ?oi1361) ?hi1361 (by kernel_rfl) (by decide) ?hr1361; (case hi1361 => (simp only [List.getElem?_toArray, List.getElem?_cons_succ, List.getElem?_cons_zero]; rfl)); intro K hK)
              go_simp
              (refine hK.out _ _ ?hS1363 (fun hHeld => ?hr1363); (case hS1363 => exact hHeld); clear hK K; try simp only [Act.put, List.setIfInBounds_toArray, List.set_cons_zero, List.set_cons_succ])
              (refine hd_done (by kernel_rfl) ?_; simp only [List.drop_succ_cons, List.drop_zero])
              have hK : KeyF okl okt q (fndT l x) w4 v37 (.agg #[.int .i64 r.f0.f0, .int .i64 r.f0.f1, .slice A2' r.f0.f2.length c2', .int .i64 r.f1.f0, .int .i64 r.f1.f1, .slice A5' r.f1.f2.length c5']) v39 bv (x2.heap.size) xs := ⟨hHeld, FndV.mono (okr' := fun k => w4.heap.size ≤ k ∧ k ≠ (x2.heap.size)) (FndV.grown (FndV.mono (okr' := fun k => w4.heap.size ≤ k ∧ k ≠ (x2.heap.size)) HV13.out (fun k hk => by obtain ⟨h1, h2⟩ := hk; exact ⟨by omega, by omega⟩)) HGx.out (fun k hk => by have := HOL.out k hk; omega) (fun k hk => by have := HOT.out k hk; omega) (fun k hk => hk.2)) (fun k hk => hk), ⟨_, _, _, _, _, rfl, HSx.out⟩, by omega⟩
              refine useT (key v30 v32 (Value.slice (some ⟨W3.heap.size, 0, none⟩) 1 1) (Value.slice A35 q.length c35) v37 (.agg #[.int .i64 r.f0.f0, .int .i64 r.f0.f1, .slice A2' r.f0.f2.length c2', .int .i64 r.f1.f0, .int .i64 r.f1.f1, .slice A5' r.f1.f2.length c5']) v39 bv (x2.heap.size) xs hK) ?_
              rfl
          case h10B =>
            intro K hK
            go_simp
            (refine hK.out _ _ ?hS1365 (fun hHeld => ?hr1365); (case hS1365 => exact below_alloc hHeld _); clear hK K; try simp only [Act.put, List.setIfInBounds_toArray, List.set_cons_zero, List.set_cons_succ])
            have HX2 := Aside0.mk (heap_alloc_new x1 (.cells #[.int .i64 0, .int .i64 0, .slice none 0 0, .int .i64 0, .int .i64 0, .slice none 0 0] 100))
            have HG2 := Aside0.mk (below_alloc (Below.refl x1.heap.size x1) (.cells #[.int .i64 0, .int .i64 0, .slice none 0 0, .int .i64 0, .int .i64 0, .slice none 0 0] 100))
            have hs2 : x1.heap.size + 1 ≤ (x1.alloc (.cells #[.int .i64 0, .int .i64 0, .slice none 0 0, .int .i64 0, .int .i64 0, .slice none 0 0] 100)).heap.size := by simp
            have Q3 := Aside0.mk ((HG2.out.block _ (blk_lt HX1.out)).trans HX1.out)
            generalize x1.alloc (.cells #[.int .i64 0, .int .i64 0, .slice none 0 0, .int .i64 0, .int .i64 0, .slice none 0 0] 100) = x2 at *
            have ha14 : ∃ a, a = x1.heap.size := ⟨_, rfl⟩
            obtain ⟨a14, ha14⟩ := ha14
            have hw4a14 : w4.heap.size ≤ x1.heap.size := by omega
            (refine hd_one (i := 2) (oi := ?oi1366) ?hi1366 (by kernel_rfl) (by decide) ?hr1366; (case hi1366 => (simp only [List.getElem?_toArray, List.getElem?_cons_succ, List.getElem?_cons_zero]; rfl)); intro K hK)
            refine Kd.N_lit_step (Kd.int .i64) (w0 := w4) w4.heap.size 3 rfl rfl (xs := []) (inner := []) (ok := fun _ => True) (okp := fun _ => False) ?zzq4 ⟨rfl, fun j y hy => by simp at hy⟩ (fun _ h => h.elim) trivial hHeld hHeld.size (by decide) ?_
            case zzq4 => first | (go_simp; done) | (go_simp; rfl)
            intro v30 x4 hN4 hB4 hG4 hI4
            obtain ⟨b30, hv30, hb30⟩ := hI4
            have hl30 := Kd.N_lt hN4 b30 hv30
            have hs4 := hG4.size
            have HN4 := Aside0.mk hN4
            have HG4 := Aside0.mk (gbB hG4 (.inl rfl))
            clear hN4 hG4
            have Q5 := Aside0.mk ((HG4.out.block _ (blk_lt Q3.out)).trans Q3.out)
            have Q6 := Aside0.mk ((HG4.out.block _ (blk_lt HX2.out)).trans HX2.out)
            (refine hK.out _ _ ?hS1368 (fun hHeld => ?hr1368); (case hS1368 => exact hB4); clear hK K; try simp only [Act.put, List.setIfInBounds_toArray, List.set_cons_zero, List.set_cons_succ])
            clear hB4
            (refine hd_one (i := 4) (oi := ?oi1369) ?hi1369 (by kernel_rfl) (by decide) ?hr1369; (case hi1369 => (simp only [List.getElem?_toArray, List.getElem?_cons_succ, List.getElem?_cons_zero]; rfl)); intro K hK)
            refine Kd.N_append_rows_step (Kd.int .i64) (w0 := w4) w4.heap.size rfl _ _ 22 3 _ 8 rfl Try.underlying22 infoI rfl (by decide) (by decide) v30 [] p Ap p.length cp (fun _ => True) (fun j => j < w4.heap.size) rfl rfl HN4.out (Kd.F_below HPF.out hHeld) (fun q hq => ⟨trivial, fun e => by have := Kd.N_base HN4.out q e.symm; omega⟩) (fun _ _ => trivial) hHeld hHeld.size (by have := HPL.out; simp <;> omega) ?_
            intro v32 x7 hN7 hB7 hG7 hI7
            have h32 : ∃ b32, v32.ownBlock = some b32 ∧ (b32 = b30 ∨ x4.heap.size ≤ b32) := by rcases hI7 with h | ⟨b, h, hb⟩; exact ⟨b30, h.trans hv30, .inl rfl⟩; exact ⟨b, h, .inr hb⟩
            obtain ⟨b32, hv32, hb32⟩ := h32
            have hl32 := Kd.N_lt hN7 b32 hv32
            have hs7 := hG7.size
            have HN7 := Aside0.mk hN7
            have HG7 := Aside0.mk hG7
            clear hN7 hG7 hI7
            have Q8 := Aside0.mk ((HG7.out.block _ (blk_lt Q5.out) (by rw [hv30]; intro e; injection e with e; omega)).trans Q5.out)
            have Q9 := Aside0.mk ((HG7.out.block _ (blk_lt Q6.out) (by rw [hv30]; intro e; injection e with e; omega)).trans Q6.out)
            (refine hK.out _ _ ?hS1371 (fun hHeld => ?hr1371); (case hS1371 => exact hB7); clear hK K; try simp only [Act.put, List.setIfInBounds_toArray, List.set_cons_zero, List.set_cons_succ])
            clear hB7
            (refine hd_one (i := 7) (oi := ?oi1372) ?hi1372 (by kernel_rfl) (by decide) ?hr1372; (case hi1372 => (simp only [List.getElem?_toArray, List.getElem?_cons_succ, List.getElem?_cons_zero]; rfl)); intro K hK)
            refine Kd.N_append_rows_step (Kd.int .i64) (w0 := w4) w4.heap.size rfl _ _ 22 3 _ 8 rfl Try.underlying22 infoI rfl (by decide) (by decide) v32 ([] ++ p) [(k : Int)] (some ⟨W3.heap.size, 0, none⟩) 1 1 (fun _ => True) (fun j => False ∨ j = W3.heap.size) rfl rfl HN7.out (F_int1 Q8.out) (fun q hq => ⟨trivial, fun e => by rw [hv32] at e; injection e with e; rcases hq with hq | hq; exact hq; omega⟩) (fun _ _ => trivial) hHeld hHeld.size (by have := HPL.out; simp <;> omega) ?_
            intro v35 x10 hN10 hB10 hG10 hI10
            have hs10 := hG10.size
            rw [List.nil_append, ← HQ.out] at hN10
            obtain ⟨A35, c35, rfl⟩ := Kd.N_slice hN10
            have h35 : ∃ b35, (Value.slice A35 q.length c35).ownBlock = some b35 ∧ (b35 = b32 ∨ x7.heap.size ≤ b35) := by rcases hI10 with h | ⟨b, h, hb⟩; exact ⟨b32, h.trans hv32, .inl rfl⟩; exact ⟨b, h, .inr hb⟩
            obtain ⟨b35, hv35, hb35⟩ := h35
            have hl35 := Kd.N_lt hN10 b35 hv35
            have HN10 := Aside0.mk hN10
            have HG10 := Aside0.mk hG10
            clear hN10 hG10 hI10
            have Q11 := Aside0.mk ((HG10.out.block _ (blk_lt Q8.out) (by rw [hv32]; intro e; injection e with e; omega)).trans Q8.out)
            have Q12 := Aside0.mk ((HG10.out.block _ (blk_lt Q9.out) (by rw [hv32]; intro e; injection e with e; omega)).trans Q9.out)
            (refine hK.out _ _ ?hS1374 (fun hHeld => ?hr1374); (case hS1374 => exact hB10); clear hK K; try simp only [Act.put, List.setIfInBounds_toArray, List.set_cons_zero, List.set_cons_succ])
            clear hB10
            (refine hd_one (i := 8) (oi := ?oi1375) ?hi1375 (by kernel_rfl) (by decide) ?hr1375; (case hi1375 => (simp only [List.getElem?_toArray, List.getElem?_cons_succ, List.getElem?_cons_zero]; rfl)); intro K hK)
            go_simp
            have hRd := Kd.N_reads' HN10.out
            go_at_call 104
            refine (IHX.out x10 A35 c35 b35 hHeld (by omega) (Kd.F_mono (Kd.N_F (N_int_tight HN10.out)) (fun j hj => by rw [hv35] at hj; injection hj with hj; exact hj.symm)) hRd.2.1).mono ?_
            rintro e x13 ⟨v37, v38, v39, bv, rfl, hV13, hb13⟩
            have hs13 := hb13.size
            have HV13 := Aside0.mk hV13
            have HG13 := Aside0.mk hb13
            clear hV13 hRd
            have Q14 := Aside0.mk ((HG13.out.block _ (blk_lt Q11.out)).trans Q11.out)
            have Q15 := Aside0.mk ((HG13.out.block _ (blk_lt Q12.out)).trans Q12.out)
            go_simp
            (refine hK.out _ _ ?hS1377 (fun hHeld => ?hr1377); (case hS1377 => exact hbT hHeld HG13.out); clear hK K; try simp only [Act.put, List.setIfInBounds_toArray, List.set_cons_zero, List.set_cons_succ])
            clear hb13
            (refine hd_take (i := 9) (oi := ?oi1378) (v := ?v1378) ?hi1378 (by kernel_rfl) (by kernel_rfl) (by kernel_rfl) (by kernel_rfl) (by decide) ?hq1378 ?hw1378 ?hy1378 hHeld ?hr1378; (case hi1378 => (simp only [List.getElem?_toArray, List.getElem?_cons_succ, List.getElem?_cons_zero]; rfl)); (case hw1378 => rfl); (case hy1378 => (intro w hSw; go_simp; try with_reducible rfl)); (case hq1378 => exact fun _ _ _ h => h); simp only [Act.put, List.setIfInBounds_toArray, List.set_cons_zero, List.set_cons_succ])
            (refine hd_take (i := 10) (oi := ?oi1380) (v := ?v1380) ?hi1380 (by kernel_rfl) (by kernel_rfl) (by kernel_rfl) (by kernel_rfl) (by decide) ?hq1380 ?hw1380 ?hy1380 hHeld ?hr1380; (case hi1380 => (simp only [List.getElem?_toArray, List.getElem?_cons_succ, List.getElem?_cons_zero]; rfl)); (case hw1380 => rfl); (case hy1380 => (intro w hSw; go_simp; try with_reducible rfl)); (case hq1380 => exact fun _ _ _ h => h); simp only [Act.put, List.setIfInBounds_toArray, List.set_cons_zero, List.set_cons_succ])
            (refine hd_take (i := 11) (oi := ?oi1382) (v := ?v1382) ?hi1382 (by kernel_rfl) (by kernel_rfl) (by kernel_rfl) (by kernel_rfl) (by decide) ?hq1382 ?hw1382 ?hy1382 hHeld ?hr1382; (case hi1382 => (simp only [List.getElem?_toArray, List.getElem?_cons_succ, List.getElem?_cons_zero]; rfl)); (case hw1382 => rfl); (case hy1382 => (intro w hSw; go_simp; try with_reducible rfl)); (case hq1382 => exact fun _ _ _ h => h); simp only [Act.put, List.setIfInBounds_toArray, List.set_cons_zero, List.set_cons_succ])
            (refine hd_take (i := 12) (oi := ?oi1384) (v := ?v1384) ?hi1384 (by kernel_rfl) (by kernel_rfl) (by kernel_rfl) (by kernel_rfl) (by decide) ?hq1384 ?hw1384 ?hy1384 hHeld ?hr1384; (case hi1384 => (simp only [List.getElem?_toArray, List.getElem?_cons_succ, List.getElem?_cons_zero]; rfl)); (case hw1384 => rfl); (case hy1384 => (intro w hSw; go_simp; try with_reducible rfl)); (case hq1384 => exact fun _ _ _ h => h); simp only [Act.put, List.setIfInBounds_toArray, List.set_cons_zero, List.set_cons_succ])
            (refine hd_take (i := 13) (oi := ?oi1386) (v := ?v1386) ?hi1386 (by kernel_rfl) (by kernel_rfl) (by kernel_rfl) (by kernel_rfl) (by decide) ?hq1386 ?hw1386 ?hy1386 hHeld ?hr1386; (case hi1386 => (simp only [List.getElem?_toArray, List.getElem?_cons_succ, List.getElem?_cons_zero]; rfl)); (case hw1386 => rfl); (case hy1386 => (intro w hSw; go_simp; try with_reducible rfl)); (case hq1386 => exact fun _ _ _ h => h); simp only [Act.put, List.setIfInBounds_toArray, List.set_cons_zero, List.set_cons_succ])
            (refine hd_one (i := 15) (oi := ?oi1388) ?hi1388 (by kernel_rfl) (by decide) ?hr1388; (case hi1388 => (simp only [List.getElem?_toArray, List.getElem?_cons_succ, List.getElem?_cons_zero]; rfl)); intro K hK)
            go_simp
            (refine hK.out _ _ ?hS1390 (fun hHeld => ?hr1390); (case hS1390 => exact hHeld); clear hK K; try simp only [Act.put, List.setIfInBounds_toArray, List.set_cons_zero, List.set_cons_succ])
            obtain ⟨r, A2', c2', A5', c5', rfl, hVV⟩ := HV13.out
            clear hVV
            (refine hd_one (i := 16) (oi := ?oi1391) ?hi1391 (by kernel_rfl) (by decide) ?hr1391; (case hi1391 => (simp only [List.getElem?_toArray, List.getElem?_cons_succ, List.getElem?_cons_zero]; rfl)); intro K hK)
            refine st_rl_step 13 rfl rfl rfl rfl rfl Q15.out ?_
            intro xs hsx hGx hzx
            have HSx := Aside0.mk hsx
            have HGx := Aside0.mk hGx
            clear hsx hGx
            (refine hK.out _ _ ?hS1393 (fun hHeld => ?hr1393); (case hS1393 => exact gbS hHeld HGx.out (by omega)); clear hK K; try simp only [Act.put, List.setIfInBounds_toArray, List.set_cons_zero, List.set_cons_succ])
            (refine hd_one (i := 17) (oi := ?oi1394) ?hi1394 (by kernel_rfl) (by decide) ?hr1394; (case hi1394 => (simp only [List.getElem?_toArray, List.getElem?_cons_succ, List.getElem?_cons_zero]; rfl)); intro K hK)
            go_simp
            (refine hK.out _ _ ?hS1396 (fun hHeld => ?hr1396); (case hS1396 => exact hHeld); clear hK K; try simp only [Act.put, List.setIfInBounds_toArray, List.set_cons_zero, List.set_cons_succ])
            (refine hd_one (i := 18) (oi := ?oi1397) ?hi1397 (by kernel_rfl) (by decide) ?hr1397; (case hi1397 => (simp only [List.getElem?_toArray, List.getElem?_cons_succ, List.getElem?_cons_zero]; rfl)); intro K hK)
            go_simp
            (refine hK.out _ _ ?hS1399 (fun hHeld => ?hr1399); (case hS1399 => exact hHeld); clear hK K; try simp only [Act.put, List.setIfInBounds_toArray, List.set_cons_zero, List.set_cons_succ])
            (refine hd_done (by kernel_rfl) ?_; simp only [List.drop_succ_cons, List.drop_zero])
            have hK : KeyF okl okt q (fndT l x) w4 v37 (.agg #[.int .i64 r.f0.f0, .int .i64 r.f0.f1, .slice A2' r.f0.f2.length c2', .int .i64 r.f1.f0, .int .i64 r.f1.f1, .slice A5' r.f1.f2.length c5']) v39 bv (x1.heap.size) xs := ⟨hHeld, FndV.mono (okr' := fun k => w4.heap.size ≤ k ∧ k ≠ (x1.heap.size)) (FndV.grown (FndV.mono (okr' := fun k => w4.heap.size ≤ k ∧ k ≠ (x1.heap.size)) HV13.out (fun k hk => by obtain ⟨h1, h2⟩ := hk; exact ⟨by omega, by omega⟩)) HGx.out (fun k hk => by have := HOL.out k hk; omega) (fun k hk => by have := HOT.out k hk; omega) (fun k hk => hk.2)) (fun k hk => hk), ⟨_, _, _, _, _, rfl, HSx.out⟩, by omega⟩
            refine useT (key v30 v32 (Value.slice (some ⟨W3.heap.size, 0, none⟩) 1 1) (Value.slice A35 q.length c35) v37 (.agg #[.int .i64 r.f0.f0, .int .i64 r.f0.f1, .slice A2' r.f0.f2.length c2', .int .i64 r.f1.f0, .int .i64 r.f1.f1, .slice A5' r.f1.f2.length c5']) v39 bv (x1.heap.size) xs hK) ?_
            rfl
        case h1C =>
          intro K hK
          go_simp
          (refine hK.out _ _ ?hS1401 (fun hHeld => ?hr1401); (case hS1401 => exact below_alloc hHeld _); clear hK K; try simp only [Act.put, List.setIfInBounds_toArray, List.set_cons_zero, List.set_cons_succ])
          have HX1 := Aside0.mk (heap_alloc_new W3 (.cells #[.int .i64 0, .int .i64 0, .slice none 0 0, .int .i64 0, .int .i64 0, .slice none 0 0] 100))
          have HG1 := Aside0.mk (below_alloc (Below.refl W3.heap.size W3) (.cells #[.int .i64 0, .int .i64 0, .slice none 0 0, .int .i64 0, .int .i64 0, .slice none 0 0] 100))
          have hs1 : W3.heap.size + 1 ≤ (W3.alloc (.cells #[.int .i64 0, .int .i64 0, .slice none 0 0, .int .i64 0, .int .i64 0, .slice none 0 0] 100)).heap.size := by simp
          generalize W3.alloc (.cells #[.int .i64 0, .int .i64 0, .slice none 0 0, .int .i64 0, .int .i64 0, .slice none 0 0] 100) = x1 at *
          have ha14 : ∃ a, a = W3.heap.size := ⟨_, rfl⟩
          obtain ⟨a14, ha14⟩ := ha14
          have hw4a14 : w4.heap.size ≤ W3.heap.size := by omega
          refine hd_two (i := 2) (j := 6) (oi := ?o14A) (oj := ?o14B) ?e14A ?e14B (by kernel_rfl) (by decide) (by decide) ?h14A ?h14B
          case e14A => (simp only [List.getElem?_toArray, List.getElem?_cons_succ, List.getElem?_cons_zero]; rfl)
          case e14B => (simp only [List.getElem?_toArray, List.getElem?_cons_succ, List.getElem?_cons_zero]; rfl)
          case h14A =>
            intro K hK
            refine Kd.N_lit_step (Kd.int .i64) (w0 := w4) w4.heap.size 3 rfl rfl (xs := []) (inner := []) (ok := fun _ => True) (okp := fun _ => False) ?zzq2 ⟨rfl, fun j y hy => by simp at hy⟩ (fun _ h => h.elim) trivial hHeld hHeld.size (by decide) ?_
            case zzq2 => first | (go_simp; done) | (go_simp; rfl)
            intro v30 x2 hN2 hB2 hG2 hI2
            obtain ⟨b30, hv30, hb30⟩ := hI2
            have hl30 := Kd.N_lt hN2 b30 hv30
            have hs2 := hG2.size
            have HN2 := Aside0.mk hN2
            have HG2 := Aside0.mk (gbB hG2 (.inl rfl))
            clear hN2 hG2
            have Q3 := Aside0.mk ((HG2.out.block _ (blk_lt HX1.out)).trans HX1.out)
            (refine hK.out _ _ ?hS1404 (fun hHeld => ?hr1404); (case hS1404 => exact hB2); clear hK K; try simp only [Act.put, List.setIfInBounds_toArray, List.set_cons_zero, List.set_cons_succ])
            clear hB2
            refine hd_two (i := 4) (j := 6) (oi := ?o15A) (oj := ?o15B) ?e15A ?e15B (by kernel_rfl) (by decide) (by decide) ?h15A ?h15B
            case e15A => (simp only [List.getElem?_toArray, List.getElem?_cons_succ, List.getElem?_cons_zero]; rfl)
            case e15B => (simp only [List.getElem?_toArray, List.getElem?_cons_succ, List.getElem?_cons_zero]; rfl)
            case h15A =>
              intro K hK
              refine Kd.N_append_rows_step (Kd.int .i64) (w0 := w4) w4.heap.size rfl _ _ 22 3 _ 8 rfl Try.underlying22 infoI rfl (by decide) (by decide) v30 [] p Ap p.length cp (fun _ => True) (fun j => j < w4.heap.size) rfl rfl HN2.out (Kd.F_below HPF.out hHeld) (fun q hq => ⟨trivial, fun e => by have := Kd.N_base HN2.out q e.symm; omega⟩) (fun _ _ => trivial) hHeld hHeld.size (by have := HPL.out; simp <;> omega) ?_
              intro v32 x4 hN4 hB4 hG4 hI4
              have h32 : ∃ b32, v32.ownBlock = some b32 ∧ (b32 = b30 ∨ x2.heap.size ≤ b32) := by rcases hI4 with h | ⟨b, h, hb⟩; exact ⟨b30, h.trans hv30, .inl rfl⟩; exact ⟨b, h, .inr hb⟩
              obtain ⟨b32, hv32, hb32⟩ := h32
              have hl32 := Kd.N_lt hN4 b32 hv32
              have hs4 := hG4.size
              have HN4 := Aside0.mk hN4
              have HG4 := Aside0.mk hG4
              clear hN4 hG4 hI4
              have Q5 := Aside0.mk ((HG4.out.block _ (blk_lt Q3.out) (by rw [hv30]; intro e; injection e with e; omega)).trans Q3.out)
              (refine hK.out _ _ ?hS1407 (fun hHeld => ?hr1407); (case hS1407 => exact hB4); clear hK K; try simp only [Act.put, List.setIfInBounds_toArray, List.set_cons_zero, List.set_cons_succ])
              clear hB4
              (refine hd_one (i := 6) (oi := ?oi1408) ?hi1408 (by kernel_rfl) (by decide) ?hr1408; (case hi1408 => (simp only [List.getElem?_toArray, List.getElem?_cons_succ, List.getElem?_cons_zero]; rfl)); intro K hK)
              go_simp
              (refine hK.out _ _ ?hS1410 (fun hHeld => ?hr1410); (case hS1410 => exact below_alloc hHeld _); clear hK K; try simp only [Act.put, List.setIfInBounds_toArray, List.set_cons_zero, List.set_cons_succ])
              have HX6 := Aside0.mk (heap_alloc_new x4 (.cells #[.int .i64 (k : Int)] 3))
              have HG6 := Aside0.mk (below_alloc (Below.refl x4.heap.size x4) (.cells #[.int .i64 (k : Int)] 3))
              have hs6 : x4.heap.size + 1 ≤ (x4.alloc (.cells #[.int .i64 (k : Int)] 3)).heap.size := by simp
              have Q7 := Aside0.mk ((HG6.out.block _ (blk_lt Q5.out)).trans Q5.out)
              have Q8 := Aside0.mk (Kd.N_below HN4.out HG6.out)
              generalize x4.alloc (.cells #[.int .i64 (k : Int)] 3) = x6 at *
              have ha6 : ∃ a, a = x4.heap.size := ⟨_, rfl⟩
              obtain ⟨a6, ha6⟩ := ha6
              have hw4a6 : w4.heap.size ≤ x4.heap.size := by omega
              (refine hd_one (i := 7) (oi := ?oi1411) ?hi1411 (by kernel_rfl) (by decide) ?hr1411; (case hi1411 => (simp only [List.getElem?_toArray, List.getElem?_cons_succ, List.getElem?_cons_zero]; rfl)); intro K hK)
              refine Kd.N_append_rows_step (Kd.int .i64) (w0 := w4) w4.heap.size rfl _ _ 22 3 _ 8 rfl Try.underlying22 infoI rfl (by decide) (by decide) v32 ([] ++ p) [(k : Int)] (some ⟨x4.heap.size, 0, none⟩) 1 1 (fun _ => True) (fun j => False ∨ j = x4.heap.size) rfl rfl Q8.out (F_int1 HX6.out) (fun q hq => ⟨trivial, fun e => by rw [hv32] at e; injection e with e; rcases hq with hq | hq; exact hq; omega⟩) (fun _ _ => trivial) hHeld hHeld.size (by have := HPL.out; simp <;> omega) ?_
              intro v35 x9 hN9 hB9 hG9 hI9
              have hs9 := hG9.size
              rw [List.nil_append, ← HQ.out] at hN9
              obtain ⟨A35, c35, rfl⟩ := Kd.N_slice hN9
              have h35 : ∃ b35, (Value.slice A35 q.length c35).ownBlock = some b35 ∧ (b35 = b32 ∨ x6.heap.size ≤ b35) := by rcases hI9 with h | ⟨b, h, hb⟩; exact ⟨b32, h.trans hv32, .inl rfl⟩; exact ⟨b, h, .inr hb⟩
              obtain ⟨b35, hv35, hb35⟩ := h35
              have hl35 := Kd.N_lt hN9 b35 hv35
              have HN9 := Aside0.mk hN9
              have HG9 := Aside0.mk hG9
              clear hN9 hG9 hI9
              have Q10 := Aside0.mk ((HG9.out.block _ (blk_lt Q7.out) (by rw [hv32]; intro e; injection e with e; omega)).trans Q7.out)
              have Q11 := Aside0.mk ((HG9.out.block _ (blk_lt HX6.out) (by rw [hv32]; intro e; injection e with e; omega)).trans HX6.out)
              (refine hK.out _ _ ?hS1413 (fun hHeld => ?hr1413); (case hS1413 => exact hB9); clear hK K; try simp only [Act.put, List.setIfInBounds_toArray, List.set_cons_zero, List.set_cons_succ])
              clear hB9
              (refine hd_one (i := 8) (oi := ?oi1414) ?hi1414 (by kernel_rfl) (by decide) ?hr1414; (case hi1414 => (simp only [List.getElem?_toArray, List.getElem?_cons_succ, List.getElem?_cons_zero]; rfl)); intro K hK)
              go_simp
              have hRd := Kd.N_reads' HN9.out
              go_at_call 104
              refine (IHX.out x9 A35 c35 b35 hHeld (by omega) (Kd.F_mono (Kd.N_F (N_int_tight HN9.out)) (fun j hj => by rw [hv35] at hj; injection hj with hj; exact hj.symm)) hRd.2.1).mono ?_
              rintro e x12 ⟨v37, v38, v39, bv, rfl, hV12, hb12⟩
              have hs12 := hb12.size
              have HV12 := Aside0.mk hV12
              have HG12 := Aside0.mk hb12
              clear hV12 hRd
              have Q13 := Aside0.mk ((HG12.out.block _ (blk_lt Q10.out)).trans Q10.out)
              have Q14 := Aside0.mk ((HG12.out.block _ (blk_lt Q11.out)).trans Q11.out)
              go_simp
              (refine hK.out _ _ ?hS1416 (fun hHeld => ?hr1416); (case hS1416 => exact hbT hHeld HG12.out); clear hK K; try simp only [Act.put, List.setIfInBounds_toArray, List.set_cons_zero, List.set_cons_succ])
              clear hb12
              (refine hd_take (i := 9) (oi := ?oi1417) (v := ?v1417) ?hi1417 (by kernel_rfl) (by kernel_rfl) (by kernel_rfl) (by kernel_rfl) (by decide) ?hq1417 ?hw1417 ?hy1417 hHeld ?hr1417; (case hi1417 => (simp only [List.getElem?_toArray, List.getElem?_cons_succ, List.getElem?_cons_zero]; rfl)); (case hw1417 => rfl); (case hy1417 => (intro w hSw; go_simp; try with_reducible rfl)); (case hq1417 => exact fun _ _ _ h => h); simp only [Act.put, List.setIfInBounds_toArray, List.set_cons_zero, List.set_cons_succ])
              (refine hd_take (i := 10) (oi := ?oi1419) (v := ?v1419) ?hi1419 (by kernel_rfl) (by kernel_rfl) (by kernel_rfl) (by kernel_rfl) (by decide) ?hq1419 ?hw1419 ?hy1419 hHeld ?hr1419; (case hi1419 => (simp only [List.getElem?_toArray, List.getElem?_cons_succ, List.getElem?_cons_zero]; rfl)); (case hw1419 => rfl); (case hy1419 => (intro w hSw; go_simp; try with_reducible rfl)); (case hq1419 => exact fun _ _ _ h => h); simp only [Act.put, List.setIfInBounds_toArray, List.set_cons_zero, List.set_cons_succ])
              (refine hd_take (i := 11) (oi := ?oi1421) (v := ?v1421) ?hi1421 (by kernel_rfl) (by kernel_rfl) (by kernel_rfl) (by kernel_rfl) (by decide) ?hq1421 ?hw1421 ?hy1421 hHeld ?hr1421; (case hi1421 => (simp only [List.getElem?_toArray, List.getElem?_cons_succ, List.getElem?_cons_zero]; rfl)); (case hw1421 => rfl); (case hy1421 => (intro w hSw; go_simp; try with_reducible rfl)); (case hq1421 => exact fun _ _ _ h => h); simp only [Act.put, List.setIfInBounds_toArray, List.set_cons_zero, List.set_cons_succ])
              (refine hd_take (i := 12) (oi := ?oi1423) (v := ?v1423) ?hi1423 (by kernel_rfl) (by kernel_rfl) (by kernel_rfl) (by kernel_rfl) (by decide) ?hq1423 ?hw1423 ?hy1423 hHeld ?hr1423; (case hi1423 => (simp only [List.getElem?_toArray, List.getElem?_cons_succ, List.getElem?_cons_zero]; rfl)); (case hw1423 => rfl); (case hy1423 => (intro w hSw; go_simp; try with_reducible rfl)); (case hq1423 => exact fun _ _ _ h => h); simp only [Act.put, List.setIfInBounds_toArray, List.set_cons_zero, List.set_cons_succ])
              (refine hd_take (i := 13) (oi := ?oi1425) (v := ?v1425) ?hi1425 (by kernel_rfl) (by kernel_rfl) (by kernel_rfl) (by kernel_rfl) (by decide) ?hq1425 ?hw1425 ?hy1425 hHeld ?hr1425; (case hi1425 => (simp only [List.getElem?_toArray, List.getElem?_cons_succ, List.getElem?_cons_zero]; rfl)); (case hw1425 => rfl); (case hy1425 => (intro w hSw; go_simp; try with_reducible rfl)); (case hq1425 => exact fun _ _ _ h => h); simp only [Act.put, List.setIfInBounds_toArray, List.set_cons_zero, List.set_cons_succ])
              (refine hd_one (i := 15) (oi := ?oi1427) ?hi1427 (by kernel_rfl) (by decide) ?hr1427; (case hi1427 => (simp only [List.getElem?_toArray, List.getElem?_cons_succ, List.getElem?_cons_zero]; rfl)); intro K hK)
              go_simp
              (refine hK.out _ _ ?hS1429 (fun hHeld => ?hr1429); (case hS1429 => exact hHeld); clear hK K; try simp only [Act.put, List.setIfInBounds_toArray, List.set_cons_zero, List.set_cons_succ])
              obtain ⟨r, A2', c2', A5', c5', rfl, hVV⟩ := HV12.out
              clear hVV
              (refine hd_one (i := 16) (oi := ?oi1430) ?hi1430 (by kernel_rfl) (by decide) ?hr1430; (case hi1430 => (simp only [List.getElem?_toArray, List.getElem?_cons_succ, List.getElem?_cons_zero]; rfl)); intro K hK)
              refine st_rl_step 13 rfl rfl rfl rfl rfl Q13.out ?_
              intro xs hsx hGx hzx
              have HSx := Aside0.mk hsx
              have HGx := Aside0.mk hGx
              clear hsx hGx
              (refine hK.out _ _ ?hS1432 (fun hHeld => ?hr1432); (case hS1432 => exact gbS hHeld HGx.out (by omega)); clear hK K; try simp only [Act.put, List.setIfInBounds_toArray, List.set_cons_zero, List.set_cons_succ])
              (refine hd_one (i := 17) (oi := ?oi1433) ?hi1433 (by kernel_rfl) (by decide) ?hr1433; (case hi1433 => (simp only [List.getElem?_toArray, List.getElem?_cons_succ, List.getElem?_cons_zero]; rfl)); intro K hK)
              go_simp
              (refine hK.out _ _ ?hS1435 (fun hHeld => ?hr1435); (case hS1435 => exact hHeld); clear hK K; try simp only [Act.put, List.setIfInBounds_toArray, List.set_cons_zero, List.set_cons_succ])
              (refine hd_one (i := 18) (oi := ?oi1436) ?hi1436 (by kernel_rfl) (by decide) ?hr1436; (case hi1436 => (simp only [List.getElem?_toArray, List.getElem?_cons_succ, List.getElem?_cons_zero]; rfl)); intro K hK)
              go_simp
              (refine hK.out _ _ ?hS1438 (fun hHeld => ?hr1438); (case hS1438 => exact hHeld); clear hK K; try simp only [Act.put, List.setIfInBounds_toArray, List.set_cons_zero, List.set_cons_succ])
              (refine hd_done (by kernel_rfl) ?_; simp only [List.drop_succ_cons, List.drop_zero])
              have hK : KeyF okl okt q (fndT l x) w4 v37 (.agg #[.int .i64 r.f0.f0, .int .i64 r.f0.f1, .slice A2' r.f0.f2.length c2', .int .i64 r.f1.f0, .int .i64 r.f1.f1, .slice A5' r.f1.f2.length c5']) v39 bv (W3.heap.size) xs := ⟨hHeld, FndV.mono (okr' := fun k => w4.heap.size ≤ k ∧ k ≠ (W3.heap.size)) (FndV.grown (FndV.mono (okr' := fun k => w4.heap.size ≤ k ∧ k ≠ (W3.heap.size)) HV12.out (fun k hk => by obtain ⟨h1, h2⟩ := hk; exact ⟨by omega, by omega⟩)) HGx.out (fun k hk => by have := HOL.out k hk; omega) (fun k hk => by have := HOT.out k hk; omega) (fun k hk => hk.2)) (fun k hk => hk), ⟨_, _, _, _, _, rfl, HSx.out⟩, by omega⟩
              refine useT (key v30 v32 (Value.slice (some ⟨x4.heap.size, 0, none⟩) 1 1) (Value.slice A35 q.length c35) v37 (.agg #[.int .i64 r.f0.f0, .int .i64 r.f0.f1, .slice A2' r.f0.f2.length c2', .int .i64 r.f1.f0, .int .i64 r.f1.f1, .slice A5' r.f1.f2.length c5']) v39 bv (W3.heap.size) xs hK) ?_
              rfl
            case h15B =>
              intro K hK
              go_simp
              (refine hK.out _ _ ?hS1440 (fun hHeld => ?hr1440); (case hS1440 => exact below_alloc hHeld _); clear hK K; try simp only [Act.put, List.setIfInBounds_toArray, List.set_cons_zero, List.set_cons_succ])
              have HX4 := Aside0.mk (heap_alloc_new x2 (.cells #[.int .i64 (k : Int)] 3))
              have HG4 := Aside0.mk (below_alloc (Below.refl x2.heap.size x2) (.cells #[.int .i64 (k : Int)] 3))
              have hs4 : x2.heap.size + 1 ≤ (x2.alloc (.cells #[.int .i64 (k : Int)] 3)).heap.size := by simp
              have Q5 := Aside0.mk ((HG4.out.block _ (blk_lt Q3.out)).trans Q3.out)
              have Q6 := Aside0.mk (Kd.N_below HN2.out HG4.out)
              generalize x2.alloc (.cells #[.int .i64 (k : Int)] 3) = x4 at *
              have ha6 : ∃ a, a = x2.heap.size := ⟨_, rfl⟩
              obtain ⟨a6, ha6⟩ := ha6
              have hw4a6 : w4.heap.size ≤ x2.heap.size := by omega
              (refine hd_one (i := 4) (oi := ?oi1441) ?hi1441 (by kernel_rfl) (by decide) ?hr1441; (case hi1441 => (simp only [List.getElem?_toArray, List.getElem?_cons_succ, List.getElem?_cons_zero]; rfl)); intro K hK)
              refine Kd.N_append_rows_step (Kd.int .i64) (w0 := w4) w4.heap.size rfl _ _ 22 3 _ 8 rfl Try.underlying22 infoI rfl (by decide) (by decide) v30 [] p Ap p.length cp (fun _ => True) (fun j => j < w4.heap.size) rfl rfl Q6.out (Kd.F_below HPF.out hHeld) (fun q hq => ⟨trivial, fun e => by have := Kd.N_base Q6.out q e.symm; omega⟩) (fun _ _ => trivial) hHeld hHeld.size (by have := HPL.out; simp <;> omega) ?_
              intro v32 x7 hN7 hB7 hG7 hI7
              have h32 : ∃ b32, v32.ownBlock = some b32 ∧ (b32 = b30 ∨ x4.heap.size ≤ b32) := by rcases hI7 with h | ⟨b, h, hb⟩; exact ⟨b30, h.trans hv30, .inl rfl⟩; exact ⟨b, h, .inr hb⟩
              obtain ⟨b32, hv32, hb32⟩ := h32
              have hl32 := Kd.N_lt hN7 b32 hv32
              have hs7 := hG7.size
              have HN7 := Aside0.mk hN7
              have HG7 := Aside0.mk hG7
              clear hN7 hG7 hI7
              have Q8 := Aside0.mk ((HG7.out.block _ (blk_lt Q5.out) (by rw [hv30]; intro e; injection e with e; omega)).trans Q5.out)
              have Q9 := Aside0.mk ((HG7.out.block _ (blk_lt HX4.out) (by rw [hv30]; intro e; injection e with e; omega)).trans HX4.out)
              (refine hK.out _ _ ?hS1443 (fun hHeld => ?hr1443); (case hS1443 => exact hB7); clear hK K; try simp only [Act.put, List.setIfInBounds_toArray, List.set_cons_zero, List.set_cons_succ])
              clear hB7
              (refine hd_one (i := 7) (oi := ?oi1444) ?hi1444 (by kernel_rfl) (by decide) ?hr1444; (case hi1444 => (simp only [List.getElem?_toArray, List.getElem?_cons_succ, List.getElem?_cons_zero]; rfl)); intro K hK)
              refine Kd.N_append_rows_step (Kd.int .i64) (w0 := w4) w4.heap.size rfl _ _ 22 3 _ 8 rfl Try.underlying22 infoI rfl (by decide) (by decide) v32 ([] ++ p) [(k : Int)] (some ⟨x2.heap.size, 0, none⟩) 1 1 (fun _ => True) (fun j => False ∨ j = x2.heap.size) rfl rfl HN7.out (F_int1 Q9.out) (fun q hq => ⟨trivial, fun e => by rw [hv32] at e; injection e with e; rcases hq with hq | hq; exact hq; omega⟩) (fun _ _ => trivial) hHeld hHeld.size (by have := HPL.out; simp <;> omega) ?_
              intro v35 x10 hN10 hB10 hG10 hI10
              have hs10 := hG10.size
              rw [List.nil_append, ← HQ.out] at hN10
              obtain ⟨A35, c35, rfl⟩ := Kd.N_slice hN10
              have h35 : ∃ b35, (Value.slice A35 q.length c35).ownBlock = some b35 ∧ (b35 = b32 ∨ x7.heap.size ≤ b35) := by rcases hI10 with h | ⟨b, h, hb⟩; exact ⟨b32, h.trans hv32, .inl rfl⟩; exact ⟨b, h, .inr hb⟩
              obtain ⟨b35, hv35, hb35⟩ := h35
              have hl35 := Kd.N_lt hN10 b35 hv35
              have HN10 := Aside0.mk hN10
              have HG10 := Aside0.mk hG10
              clear hN10 hG10 hI10
              have Q11 := Aside0.mk ((HG10.out.block _ (blk_lt Q8.out) (by rw [hv32]; intro e; injection e with e; omega)).trans Q8.out)
              have Q12 := Aside0.mk ((HG10.out.block _ (blk_lt Q9.out) (by rw [hv32]; intro e; injection e with e; omega)).trans Q9.out)
              (refine hK.out _ _ ?hS1446 (fun hHeld => ?hr1446); (case hS1446 => exact hB10); clear hK K; try simp only [Act.put, List.setIfInBounds_toArray, List.set_cons_zero, List.set_cons_succ])
              clear hB10
              (refine hd_one (i := 8) (oi := ?oi1447) ?hi1447 (by kernel_rfl) (by decide) ?hr1447; (case hi1447 => (simp only [List.getElem?_toArray, List.getElem?_cons_succ, List.getElem?_cons_zero]; rfl)); intro K hK)
              go_simp
              have hRd := Kd.N_reads' HN10.out
              go_at_call 104
              refine (IHX.out x10 A35 c35 b35 hHeld (by omega) (Kd.F_mono (Kd.N_F (N_int_tight HN10.out)) (fun j hj => by rw [hv35] at hj; injection hj with hj; exact hj.symm)) hRd.2.1).mono ?_
              rintro e x13 ⟨v37, v38, v39, bv, rfl, hV13, hb13⟩
              have hs13 := hb13.size
              have HV13 := Aside0.mk hV13
              have HG13 := Aside0.mk hb13
              clear hV13 hRd
              have Q14 := Aside0.mk ((HG13.out.block _ (blk_lt Q11.out)).trans Q11.out)
              have Q15 := Aside0.mk ((HG13.out.block _ (blk_lt Q12.out)).trans Q12.out)
              go_simp
              (refine hK.out _ _ ?hS1449 (fun hHeld => ?hr1449); (case hS1449 => exact hbT hHeld HG13.out); clear hK K; try simp only [Act.put, List.setIfInBounds_toArray, List.set_cons_zero, List.set_cons_succ])
              clear hb13
              (refine hd_take (i := 9) (oi := ?oi1450) (v := ?v1450) ?hi1450 (by kernel_rfl) (by kernel_rfl) (by kernel_rfl) (by kernel_rfl) (by decide) ?hq1450 ?hw1450 ?hy1450 hHeld ?hr1450; (case hi1450 => (simp only [List.getElem?_toArray, List.getElem?_cons_succ, List.getElem?_cons_zero]; rfl)); (case hw1450 => rfl); (case hy1450 => (intro w hSw; go_simp; try with_reducible rfl)); (case hq1450 => exact fun _ _ _ h => h); simp only [Act.put, List.setIfInBounds_toArray, List.set_cons_zero, List.set_cons_succ])
              (refine hd_take (i := 10) (oi := ?oi1452) (v := ?v1452) ?hi1452 (by kernel_rfl) (by kernel_rfl) (by kernel_rfl) (by kernel_rfl) (by decide) ?hq1452 ?hw1452 ?hy1452 hHeld ?hr1452; (case hi1452 => (simp only [List.getElem?_toArray, List.getElem?_cons_succ, List.getElem?_cons_zero]; rfl)); (case hw1452 => rfl); (case hy1452 => (intro w hSw; go_simp; try with_reducible rfl)); (case hq1452 => exact fun _ _ _ h => h); simp only [Act.put, List.setIfInBounds_toArray, List.set_cons_zero, List.set_cons_succ])
              (refine hd_take (i := 11) (oi := ?oi1454) (v := ?v1454) ?hi1454 (by kernel_rfl) (by kernel_rfl) (by kernel_rfl) (by kernel_rfl) (by decide) ?hq1454 ?hw1454 ?hy1454 hHeld ?hr1454; (case hi1454 => (simp only [List.getElem?_toArray, List.getElem?_cons_succ, List.getElem?_cons_zero]; rfl)); (case hw1454 => rfl); (case hy1454 => (intro w hSw; go_simp; try with_reducible rfl)); (case hq1454 => exact fun _ _ _ h => h); simp only [Act.put, List.setIfInBounds_toArray, List.set_cons_zero, List.set_cons_succ])
              (refine hd_take (i := 12) (oi := ?oi1456) (v := ?v1456) ?hi1456 (by kernel_rfl) (by kernel_rfl) (by kernel_rfl) (by kernel_rfl) (by decide) ?hq1456 ?hw1456 ?hy1456 hHeld ?hr1456; (case hi1456 => (simp only [List.getElem?_toArray, List.getElem?_cons_succ, List.getElem?_cons_zero]; rfl)); (case hw1456 => rfl); (case hy1456 => (intro w hSw; go_simp; try with_reducible rfl)); (case hq1456 => exact fun _ _ _ h => h); simp only [Act.put, List.setIfInBounds_toArray, List.set_cons_zero, List.set_cons_succ])
              (refine hd_take (i := 13) (oi := ?oi1458) (v := ?v1458) ?hi1458 (by kernel_rfl) (by kernel_rfl) (by kernel_rfl) (by kernel_rfl) (by decide) ?hq1458 ?hw1458 ?hy1458 hHeld ?hr1458; (case hi1458 => (simp only [List.getElem?_toArray, List.getElem?_cons_succ, List.getElem?_cons_zero]; rfl)); (case hw1458 => rfl); (case hy1458 => (intro w hSw; go_simp; try with_reducible rfl)); (case hq1458 => exact fun _ _ _ h => h); simp only [Act.put, List.setIfInBounds_toArray, List.set_cons_zero, List.set_cons_succ])
              (refine hd_one (i := 15) (oi := ?oi1460) ?hi1460 (by kernel_rfl) (by decide) ?hr1460; (case hi1460 => (simp only [List.getElem?_toArray, List.getElem?_cons_succ, List.getElem?_cons_zero]; rfl)); intro K hK)
              go_simp
              (refine hK.out _ _ ?hS1462 (fun hHeld => ?hr1462); (case hS1462 => exact hHeld); clear hK K; try simp only [Act.put, List.setIfInBounds_toArray, List.set_cons_zero, List.set_cons_succ])
              obtain ⟨r, A2', c2', A5', c5', rfl, hVV⟩ := HV13.out
              clear hVV
              (refine hd_one (i := 16) (oi := ?oi1463) ?hi1463 (by kernel_rfl) (by decide) ?hr1463; (case hi1463 => (simp only [List.getElem?_toArray, List.getElem?_cons_succ, List.getElem?_cons_zero]; rfl)); intro K hK)
              refine st_rl_step 13 rfl rfl rfl rfl rfl Q14.out ?_
              intro xs hsx hGx hzx
              have HSx := Aside0.mk hsx
              have HGx := Aside0.mk hGx
              clear hsx hGx
              (refine hK.out _ _ ?hS1465 (fun hHeld => ?hr1465); (case hS1465 => exact gbS hHeld HGx.out (by omega)); clear hK K; try simp only [Act.put, List.setIfInBounds_toArray, List.set_cons_zero, List.set_cons_succ])
              (refine hd_one (i := 17) (oi := ?oi1466) ?hi1466 (by kernel_rfl) (by decide) ?hr1466; (case hi1466 => (simp only [List.getElem?_toArray, List.getElem?_cons_succ, List.getElem?_cons_zero]; rfl)); intro K hK)
              go_simp
              (refine hK.out _ _ ?hS1468 (fun hHeld => ?hr1468); (case hS1468 => exact hHeld); clear hK K; try simp only [Act.put, List.setIfInBounds_toArray, List.set_cons_zero, List.set_cons_succ])
              (refine hd_one (i := 18) (oi := ?oi1469) ?hi1469 (by kernel_rfl) (by decide) ?hr1469; (case hi1469 => (simp only [List.getElem?_toArray, List.getElem?_cons_succ, List.getElem?_cons_zero]; rfl)); intro K hK)
              go_simp
              (refine hK.out _ _ ?hS1471 (fun hHeld => ?hr1471); (case hS1471 => exact hHeld); clear hK K; try simp only [Act.put, List.setIfInBounds_toArray, List.set_cons_zero, List.set_cons_succ])
              (refine hd_done (by kernel_rfl) ?_; simp only [List.drop_succ_cons, List.drop_zero])
              have hK : KeyF okl okt q (fndT l x) w4 v37 (.agg #[.int .i64 r.f0.f0, .int .i64 r.f0.f1, .slice A2' r.f0.f2.length c2', .int .i64 r.f1.f0, .int .i64 r.f1.f1, .slice A5' r.f1.f2.length c5']) v39 bv (W3.heap.size) xs := ⟨hHeld, FndV.mono (okr' := fun k => w4.heap.size ≤ k ∧ k ≠ (W3.heap.size)) (FndV.grown (FndV.mono (okr' := fun k => w4.heap.size ≤ k ∧ k ≠ (W3.heap.size)) HV13.out (fun k hk => by obtain ⟨h1, h2⟩ := hk; exact ⟨by omega, by omega⟩)) HGx.out (fun k hk => by have := HOL.out k hk; omega) (fun k hk => by have := HOT.out k hk; omega) (fun k hk => hk.2)) (fun k hk => hk), ⟨_, _, _, _, _, rfl, HSx.out⟩, by omega⟩
              refine useT (key v30 v32 (Value.slice (some ⟨x2.heap.size, 0, none⟩) 1 1) (Value.slice A35 q.length c35) v37 (.agg #[.int .i64 r.f0.f0, .int .i64 r.f0.f1, .slice A2' r.f0.f2.length c2', .int .i64 r.f1.f0, .int .i64 r.f1.f1, .slice A5' r.f1.f2.length c5']) v39 bv (W3.heap.size) xs hK) ?_
              rfl
          case h14B =>
            intro K hK
            go_simp
            (refine hK.out _ _ ?hS1473 (fun hHeld => ?hr1473); (case hS1473 => exact below_alloc hHeld _); clear hK K; try simp only [Act.put, List.setIfInBounds_toArray, List.set_cons_zero, List.set_cons_succ])
            have HX2 := Aside0.mk (heap_alloc_new x1 (.cells #[.int .i64 (k : Int)] 3))
            have HG2 := Aside0.mk (below_alloc (Below.refl x1.heap.size x1) (.cells #[.int .i64 (k : Int)] 3))
            have hs2 : x1.heap.size + 1 ≤ (x1.alloc (.cells #[.int .i64 (k : Int)] 3)).heap.size := by simp
            have Q3 := Aside0.mk ((HG2.out.block _ (blk_lt HX1.out)).trans HX1.out)
            generalize x1.alloc (.cells #[.int .i64 (k : Int)] 3) = x2 at *
            have ha6 : ∃ a, a = x1.heap.size := ⟨_, rfl⟩
            obtain ⟨a6, ha6⟩ := ha6
            have hw4a6 : w4.heap.size ≤ x1.heap.size := by omega
            (refine hd_one (i := 2) (oi := ?oi1474) ?hi1474 (by kernel_rfl) (by decide) ?hr1474; (case hi1474 => (simp only [List.getElem?_toArray, List.getElem?_cons_succ, List.getElem?_cons_zero]; rfl)); intro K hK)
            refine Kd.N_lit_step (Kd.int .i64) (w0 := w4) w4.heap.size 3 rfl rfl (xs := []) (inner := []) (ok := fun _ => True) (okp := fun _ => False) ?zzq4 ⟨rfl, fun j y hy => by simp at hy⟩ (fun _ h => h.elim) trivial hHeld hHeld.size (by decide) ?_
            case zzq4 => first | (go_simp; done) | (go_simp; rfl)
            intro v30 x4 hN4 hB4 hG4 hI4
            obtain ⟨b30, hv30, hb30⟩ := hI4
            have hl30 := Kd.N_lt hN4 b30 hv30
            have hs4 := hG4.size
            have HN4 := Aside0.mk hN4
            have HG4 := Aside0.mk (gbB hG4 (.inl rfl))
            clear hN4 hG4
            have Q5 := Aside0.mk ((HG4.out.block _ (blk_lt Q3.out)).trans Q3.out)
            have Q6 := Aside0.mk ((HG4.out.block _ (blk_lt HX2.out)).trans HX2.out)
            (refine hK.out _ _ ?hS1476 (fun hHeld => ?hr1476); (case hS1476 => exact hB4); clear hK K; try simp only [Act.put, List.setIfInBounds_toArray, List.set_cons_zero, List.set_cons_succ])
            clear hB4
            (refine hd_one (i := 4) (oi := ?oi1477) ?hi1477 (by kernel_rfl) (by decide) ?hr1477; (case hi1477 => (simp only [List.getElem?_toArray, List.getElem?_cons_succ, List.getElem?_cons_zero]; rfl)); intro K hK)
            refine Kd.N_append_rows_step (Kd.int .i64) (w0 := w4) w4.heap.size rfl _ _ 22 3 _ 8 rfl Try.underlying22 infoI rfl (by decide) (by decide) v30 [] p Ap p.length cp (fun _ => True) (fun j => j < w4.heap.size) rfl rfl HN4.out (Kd.F_below HPF.out hHeld) (fun q hq => ⟨trivial, fun e => by have := Kd.N_base HN4.out q e.symm; omega⟩) (fun _ _ => trivial) hHeld hHeld.size (by have := HPL.out; simp <;> omega) ?_
            intro v32 x7 hN7 hB7 hG7 hI7
            have h32 : ∃ b32, v32.ownBlock = some b32 ∧ (b32 = b30 ∨ x4.heap.size ≤ b32) := by rcases hI7 with h | ⟨b, h, hb⟩; exact ⟨b30, h.trans hv30, .inl rfl⟩; exact ⟨b, h, .inr hb⟩
            obtain ⟨b32, hv32, hb32⟩ := h32
            have hl32 := Kd.N_lt hN7 b32 hv32
            have hs7 := hG7.size
            have HN7 := Aside0.mk hN7
            have HG7 := Aside0.mk hG7
            clear hN7 hG7 hI7
            have Q8 := Aside0.mk ((HG7.out.block _ (blk_lt Q5.out) (by rw [hv30]; intro e; injection e with e; omega)).trans Q5.out)
            have Q9 := Aside0.mk ((HG7.out.block _ (blk_lt Q6.out) (by rw [hv30]; intro e; injection e with e; omega)).trans Q6.out)
            (refine hK.out _ _ ?hS1479 (fun hHeld => ?hr1479); (case hS1479 => exact hB7); clear hK K; try simp only [Act.put, List.setIfInBounds_toArray, List.set_cons_zero, List.set_cons_succ])
            clear hB7
            (refine hd_one (i := 7) (oi := ?oi1480) ?hi1480 (by kernel_rfl) (by decide) ?hr1480; (case hi1480 => (simp only [List.getElem?_toArray, List.getElem?_cons_succ, List.getElem?_cons_zero]; rfl)); intro K hK)
            refine Kd.N_append_rows_step (Kd.int .i64) (w0 := w4) w4.heap.size rfl _ _ 22 3 _ 8 rfl Try.underlying22 infoI rfl (by decide) (by decide) v32 ([] ++ p) [(k : Int)] (some ⟨x1.heap.size, 0, none⟩) 1 1 (fun _ => True) (fun j => False ∨ j = x1.heap.size) rfl rfl HN7.out (F_int1 Q9.out) (fun q hq => ⟨trivial, fun e => by rw [hv32] at e; injection e with e; rcases hq with hq | hq; exact hq; omega⟩) (fun _ _ => trivial) hHeld hHeld.size (by have := HPL.out; simp <;> omega) ?_
            intro v35 x10 hN10 hB10 hG10 hI10
            have hs10 := hG10.size
            rw [List.nil_append, ← HQ.out] at hN10
            obtain ⟨A35, c35, rfl⟩ := Kd.N_slice hN10
            have h35 : ∃ b35, (Value.slice A35 q.length c35).ownBlock = some b35 ∧ (b35 = b32 ∨ x7.heap.size ≤ b35) := by rcases hI10 with h | ⟨b, h, hb⟩; exact ⟨b32, h.trans hv32, .inl rfl⟩; exact ⟨b, h, .inr hb⟩
            obtain ⟨b35, hv35, hb35⟩ := h35
            have hl35 := Kd.N_lt hN10 b35 hv35
            have HN10 := Aside0.mk hN10
            have HG10 := Aside0.mk hG10
            clear hN10 hG10 hI10
            have Q11 := Aside0.mk ((HG10.out.block _ (blk_lt Q8.out) (by rw [hv32]; intro e; injection e with e; omega)).trans Q8.out)
            have Q12 := Aside0.mk ((HG10.out.block _ (blk_lt Q9.out) (by rw [hv32]; intro e; injection e with e; omega)).trans Q9.out)
            (refine hK.out _ _ ?hS1482 (fun hHeld => ?hr1482); (case hS1482 => exact hB10); clear hK K; try simp only [Act.put, List.setIfInBounds_toArray, List.set_cons_zero, List.set_cons_succ])
            clear hB10
            (refine hd_one (i := 8) (oi := ?oi1483) ?hi1483 (by kernel_rfl) (by decide) ?hr1483; (case hi1483 => (simp only [List.getElem?_toArray, List.getElem?_cons_succ, List.getElem?_cons_zero]; rfl)); intro K hK)
            go_simp
            have hRd := Kd.N_reads' HN10.out
            go_at_call 104
            refine (IHX.out x10 A35 c35 b35 hHeld (by omega) (Kd.F_mono (Kd.N_F (N_int_tight HN10.out)) (fun j hj => by rw [hv35] at hj; injection hj with hj; exact hj.symm)) hRd.2.1).mono ?_
            rintro e x13 ⟨v37, v38, v39, bv, rfl, hV13, hb13⟩
            have hs13 := hb13.size
            have HV13 := Aside0.mk hV13
            have HG13 := Aside0.mk hb13
            clear hV13 hRd
            have Q14 := Aside0.mk ((HG13.out.block _ (blk_lt Q11.out)).trans Q11.out)
            have Q15 := Aside0.mk ((HG13.out.block _ (blk_lt Q12.out)).trans Q12.out)
            go_simp
            (refine hK.out _ _ ?hS1485 (fun hHeld => ?hr1485); (case hS1485 => exact hbT hHeld HG13.out); clear hK K; try simp only [Act.put, List.setIfInBounds_toArray, List.set_cons_zero, List.set_cons_succ])
            clear hb13
            (refine hd_take (i := 9) (oi := ?oi1486) (v := ?v1486) ?hi1486 (by kernel_rfl) (by kernel_rfl) (by kernel_rfl) (by kernel_rfl) (by decide) ?hq1486 ?hw1486 ?hy1486 hHeld ?hr1486; (case hi1486 => (simp only [List.getElem?_toArray, List.getElem?_cons_succ, List.getElem?_cons_zero]; rfl)); (case hw1486 => rfl); (case hy1486 => (intro w hSw; go_simp; try with_reducible rfl)); (case hq1486 => exact fun _ _ _ h => h); simp only [Act.put, List.setIfInBounds_toArray, List.set_cons_zero, List.set_cons_succ])
            (refine hd_take (i := 10) (oi := ?oi1488) (v := ?v1488) ?hi1488 (by kernel_rfl) (by kernel_rfl) (by kernel_rfl) (by kernel_rfl) (by decide) ?hq1488 ?hw1488 ?hy1488 hHeld ?hr1488; (case hi1488 => (simp only [List.getElem?_toArray, List.getElem?_cons_succ, List.getElem?_cons_zero]; rfl)); (case hw1488 => rfl); (case hy1488 => (intro w hSw; go_simp; try with_reducible rfl)); (case hq1488 => exact fun _ _ _ h => h); simp only [Act.put, List.setIfInBounds_toArray, List.set_cons_zero, List.set_cons_succ])
            (refine hd_take (i := 11) (oi := ?oi1490) (v := ?v1490) ?hi1490 (by kernel_rfl) (by kernel_rfl) (by kernel_rfl) (by kernel_rfl) (by decide) ?hq1490 ?hw1490 ?hy1490 hHeld ?hr1490; (case hi1490 => (simp only [List.getElem?_toArray, List.getElem?_cons_succ, List.getElem?_cons_zero]; rfl)); (case hw1490 => rfl); (case hy1490 => (intro w hSw; go_simp; try with_reducible rfl)); (case hq1490 => exact fun _ _ _ h => h); simp only [Act.put, List.setIfInBounds_toArray, List.set_cons_zero, List.set_cons_succ])
            (refine hd_take (i := 12) (oi := ?oi1492) (v := ?v1492) ?hi1492 (by kernel_rfl) (by kernel_rfl) (by kernel_rfl) (by kernel_rfl) (by decide) ?hq1492 ?hw1492 ?hy1492 hHeld ?hr1492; (case hi1492 => (simp only [List.getElem?_toArray, List.getElem?_cons_succ, List.getElem?_cons_zero]; rfl)); (case hw1492 => rfl); (case hy1492 => (intro w hSw; go_simp; try with_reducible rfl)); (case hq1492 => exact fun _ _ _ h => h); simp only [Act.put, List.setIfInBounds_toArray, List.set_cons_zero, List.set_cons_succ])
            (refine hd_take (i := 13) (oi := ?oi1494) (v := ?v1494) ?hi1494 (by kernel_rfl) (by kernel_rfl) (by kernel_rfl) (by kernel_rfl) (by decide) ?hq1494 ?hw1494 ?hy1494 hHeld ?hr1494; (case hi1494 => (simp only [List.getElem?_toArray, List.getElem?_cons_succ, List.getElem?_cons_zero]; rfl)); (case hw1494 => rfl); (case hy1494 => (intro w hSw; go_simp; try with_reducible rfl)); (case hq1494 => exact fun _ _ _ h => h); simp only [Act.put, List.setIfInBounds_toArray, List.set_cons_zero, List.set_cons_succ])
            (refine hd_one (i := 15) (oi := ?oi1496) ?hi1496 (by kernel_rfl) (by decide) ?hr1496; (case hi1496 => (simp only [List.getElem?_toArray, List.getElem?_cons_succ, List.getElem?_cons_zero]; rfl)); intro K hK)
            go_simp
            (refine hK.out _ _ ?hS1498 (fun hHeld => ?hr1498); (case hS1498 => exact hHeld); clear hK K; try simp only [Act.put, List.setIfInBounds_toArray, List.set_cons_zero, List.set_cons_succ])
            obtain ⟨r, A2', c2', A5', c5', rfl, hVV⟩ := HV13.out
            clear hVV
            (refine hd_one (i := 16) (oi := ?oi1499) ?hi1499 (by kernel_rfl) (by decide) ?hr1499; (case hi1499 => (simp only [List.getElem?_toArray, List.getElem?_cons_succ, List.getElem?_cons_zero]; rfl)); intro K hK)
            refine st_rl_step 13 rfl rfl rfl rfl rfl Q14.out ?_
            intro xs hsx hGx hzx
            have HSx := Aside0.mk hsx
            have HGx := Aside0.mk hGx
            clear hsx hGx
            (refine hK.out _ _ ?hS1501 (fun hHeld => ?hr1501); (case hS1501 => exact gbS hHeld HGx.out (by omega)); clear hK K; try simp only [Act.put, List.setIfInBounds_toArray, List.set_cons_zero, List.set_cons_succ])
            (refine hd_one (i := 17) (oi := ?oi1502) ?hi1502 (by kernel_rfl) (by decide) ?hr1502; (case hi1502 => (simp only [List.getElem?_toArray, List.getElem?_cons_succ, List.getElem?_cons_zero]; rfl)); intro K hK)
            go_simp
            (refine hK.out _ _ ?hS1504 (fun hHeld => ?hr1504); (case hS1504 => exact hHeld); clear hK K; try simp only [Act.put, List.setIfInBounds_toArray, List.set_cons_zero, List.set_cons_succ])
            (refine hd_one (i := 18) (oi := ?oi1505) ?hi1505 (by kernel_rfl) (by decide) ?hr1505; (case hi1505 => (simp only [List.getElem?_toArray, List.getElem?_cons_succ, List.getElem?_cons_zero]; rfl)); intro K hK)
            go_simp
            (refine hK.out _ _ ?hS1507 (fun hHeld => ?hr1507); (case hS1507 => exact hHeld); clear hK K; try simp only [Act.put, List.setIfInBounds_toArray, List.set_cons_zero, List.set_cons_succ])
            (refine hd_done (by kernel_rfl) ?_; simp only [List.drop_succ_cons, List.drop_zero])
            have hK : KeyF okl okt q (fndT l x) w4 v37 (.agg #[.int .i64 r.f0.f0, .int .i64 r.f0.f1, .slice A2' r.f0.f2.length c2', .int .i64 r.f1.f0, .int .i64 r.f1.f1, .slice A5' r.f1.f2.length c5']) v39 bv (W3.heap.size) xs := ⟨hHeld, FndV.mono (okr' := fun k => w4.heap.size ≤ k ∧ k ≠ (W3.heap.size)) (FndV.grown (FndV.mono (okr' := fun k => w4.heap.size ≤ k ∧ k ≠ (W3.heap.size)) HV13.out (fun k hk => by obtain ⟨h1, h2⟩ := hk; exact ⟨by omega, by omega⟩)) HGx.out (fun k hk => by have := HOL.out k hk; omega) (fun k hk => by have := HOT.out k hk; omega) (fun k hk => hk.2)) (fun k hk => hk), ⟨_, _, _, _, _, rfl, HSx.out⟩, by omega⟩
            refine useT (key v30 v32 (Value.slice (some ⟨x1.heap.size, 0, none⟩) 1 1) (Value.slice A35 q.length c35) v37 (.agg #[.int .i64 r.f0.f0, .int .i64 r.f0.f1, .slice A2' r.f0.f2.length c2', .int .i64 r.f1.f0, .int .i64 r.f1.f1, .slice A5' r.f1.f2.length c5']) v39 bv (W3.heap.size) xs hK) ?_
            rfl
      case key =>
        rintro v30 v32 v34 v35 v37 v38 v39 bv g13 w9 ⟨hB9, hV, ⟨r, A2', c2', A5', c5', rfl, hg⟩, hg13⟩
        clear k0 k1 k2 IHX
        have HB9 := Aside0.mk hB9
        have HV := Aside0.mk hV
        have GR := Aside0.mk hg
        have HW9 := Aside0.mk (hbT HW4.out HB9.out)
        have HBW9 := Aside0.mk (hbT HBW4.out HB9.out)
        clear hB9 hV hg
        cases bv with
        | true =>
          have HX : ∃ y, fndT l x = some y := by
            have h := HV.out
            cases hy : fndT l x with
            | some y => exact ⟨y, rfl⟩
            | none => rw [hy] at h; obtain ⟨_, _, _, _, _, _, h⟩ := h; cases h
          obtain ⟨y, hy⟩ := HX
          rw [hy] at HV HTK
          have HR : Aside0 (fndT l t = some ((k : Int) :: y.1, y.2.1, y.2.2)) := ⟨by rw [HE.out, fndL_some HTK.out]⟩
          have hw4' := HBW4.out.size
          have hgr : some g13 ≠ some (w.heap.size + 1) := fun e => by injection e with e; omega
          obtain ⟨r0, r1, r2, r3, r4, r5⟩ := rl_cells GR.out
          have k0 := fun (w' : World) (h : w9.grownBy w' (some (w.heap.size + 1))) => oldg h r0 hgr
          have k1 := fun (w' : World) (h : w9.grownBy w' (some (w.heap.size + 1))) => oldg h r1 hgr
          have k2 := fun (w' : World) (h : w9.grownBy w' (some (w.heap.size + 1))) => oldg h r2 hgr
          have k3 := fun (w' : World) (h : w9.grownBy w' (some (w.heap.size + 1))) => oldg h r3 hgr
          have k4 := fun (w' : World) (h : w9.grownBy w' (some (w.heap.size + 1))) => oldg h r4 hgr
          have k5 := fun (w' : World) (h : w9.grownBy w' (some (w.heap.size + 1))) => oldg h r5 hgr
          clear r0 r1 r2 r3 r4 r5 hy HTK
          go_upto_region 6 with (fail)
          refine hd_region 7 0 (fun w' => w9.grownBy w' (some (w.heap.size + 1))) (by kernel_rfl) rfl ?_ (fun _ h => grown_of_below h _)
          intro W3 hb3 hz3 hHeld
          have HH := Aside0.mk hb3
          have HR1 := Aside0.mk (((hbT HBW9.out HH.out).block _ (blk_lt G1.out)).trans G1.out)
          clear hz3 hb3
          (refine hd_take (i := 0) (oi := ?oi1509) (v := ?v1509) ?hi1509 (by kernel_rfl) (by kernel_rfl) (by kernel_rfl) (by kernel_rfl) (by decide) ?hq1509 ?hw1509 ?hy1509 hHeld ?hr1509; (case hi1509 => (simp only [List.getElem?_toArray, List.getElem?_cons_succ, List.getElem?_cons_zero]; rfl)); (case hw1509 => rfl); (case hy1509 => (intro w hSw; go_simp; try with_reducible rfl)); (case hq1509 => exact fun _ _ _ h => h); simp only [Act.put, List.setIfInBounds_toArray, List.set_cons_zero, List.set_cons_succ])
          (refine hd_take (i := 1) (oi := ?oi1511) (v := ?v1511) ?hi1511 (by kernel_rfl) (by kernel_rfl) (by kernel_rfl) (by kernel_rfl) (by decide) ?hq1511 ?hw1511 ?hy1511 hHeld ?hr1511; (case hi1511 => (simp only [List.getElem?_toArray, List.getElem?_cons_succ, List.getElem?_cons_zero]; rfl)); (case hw1511 => rfl); (case hy1511 => (intro w hSw; go_simp; try with_reducible rfl)); (case hq1511 => exact fun _ _ _ h => h); simp only [Act.put, List.setIfInBounds_toArray, List.set_cons_zero, List.set_cons_succ])
          (refine hd_take (i := 2) (oi := ?oi1513) (v := ?v1513) ?hi1513 (by kernel_rfl) (by kernel_rfl) (by kernel_rfl) (by kernel_rfl) (by decide) ?hq1513 ?hw1513 ?hy1513 hHeld ?hr1513; (case hi1513 => (simp only [List.getElem?_toArray, List.getElem?_cons_succ, List.getElem?_cons_zero]; rfl)); (case hw1513 => rfl); (case hy1513 => (intro w hSw; go_simp; try with_reducible rfl)); (case hq1513 => exact fun _ _ _ h => h); simp only [Act.put, List.setIfInBounds_toArray, List.set_cons_zero, List.set_cons_succ])
          (refine hd_one (i := 3) (oi := ?oi1515) ?hi1515 (by kernel_rfl) (by decide) ?hr1515; (case hi1515 => (simp only [List.getElem?_toArray, List.getElem?_cons_succ, List.getElem?_cons_zero]; rfl)); intro K hK)
          go_simp
          (refine hK.out _ _ ?hS1517 (fun hHeld => ?hr1517); (case hS1517 => exact hHeld); clear hK K; try simp only [Act.put, List.setIfInBounds_toArray, List.set_cons_zero, List.set_cons_succ])
          (refine hd_one (i := 4) (oi := ?oi1518) ?hi1518 (by kernel_rfl) (by decide) ?hr1518; (case hi1518 => (simp only [List.getElem?_toArray, List.getElem?_cons_succ, List.getElem?_cons_zero]; rfl)); intro K hK)
          refine st_rl_step 7 rfl rfl rfl rfl rfl HR1.out ?_
          intro w10 hs10 hG10 hz10
          have HS10 := Aside0.mk hs10
          have HG10 := Aside0.mk hG10
          (refine hK.out _ _ ?hS1520 (fun hHeld => ?hr1520); (case hS1520 => exact gbT hHeld HG10.out (.inl rfl)); clear hK K; try simp only [Act.put, List.setIfInBounds_toArray, List.set_cons_zero, List.set_cons_succ])
          clear hs10 hG10 hz10
          (refine hd_one (i := 5) (oi := ?oi1521) ?hi1521 (by kernel_rfl) (by decide) ?hr1521; (case hi1521 => (simp only [List.getElem?_toArray, List.getElem?_cons_succ, List.getElem?_cons_zero]; rfl)); intro K hK)
          go_simp
          (refine hK.out _ _ ?hS1523 (fun hHeld => ?hr1523); (case hS1523 => exact hHeld); clear hK K; try simp only [Act.put, List.setIfInBounds_toArray, List.set_cons_zero, List.set_cons_succ])
          (refine hd_one (i := 6) (oi := ?oi1524) ?hi1524 (by kernel_rfl) (by decide) ?hr1524; (case hi1524 => (simp only [List.getElem?_toArray, List.getElem?_cons_succ, List.getElem?_cons_zero]; rfl)); intro K hK)
          go_simp
          (refine hK.out _ _ ?hS1526 (fun hHeld => ?hr1526); (case hS1526 => exact hHeld); clear hK K; try simp only [Act.put, List.setIfInBounds_toArray, List.set_cons_zero, List.set_cons_succ])
          (refine hd_done (by kernel_rfl) ?_; simp only [List.drop_succ_cons, List.drop_zero])
          clear hHeld k0 k1 k2 k3 k4 k5
          go_wp2
          ((try simp only [Exit.inBlock, Exit.then]); refine bodyPost_ret (results_tctt rfl _ _ _ 100 _ (0, 0) _ rfl HS10.out Try.underlying100 rfl (by kernel_rfl)) rfl ?_)
          refine ⟨_, _, _, _, rfl, ?_, gbS (hbT HW9.out HH.out) HG10.out (by omega)⟩
          rw [HR.out]
          have hb9 : w.heap.size + 1 < W3.heap.size := blk_lt HR1.out
          have hW3 := HH.out.size
          have hz10 := HG10.out.size
          have h := FndV.bound (FndV.grown (HV.out.below HH.out) HG10.out (fun k hk => by have := HOL.out k hk; omega) (fun k hk => by have := HOT.out k hk; omega) (fun k hk => by have h1 := hk.1; omega))
          obtain ⟨r', B2, d2, B5, d5, e, h1, h2, h3, h4, A1, c1, b, q1, q2, q3, q4, q5, q6⟩ := h
          have e1 : q ++ y.1 = p ++ ((k : Int) :: y.1) := by rw [HQ.out, List.append_assoc]; rfl
          rw [e1] at q1 q2 q3
          exact ⟨r', B2, d2, B5, d5, e, rfl, h2, h3, h4, A1, c1, b, q1, q2, Kd.F_mono q3 (fun k hk => ⟨.inr (by have := hk.1.1; omega), hk.2⟩), q4, q5, ⟨.inr (by have := q6.1.1; omega), q6.2⟩⟩
        | false =>
          have HX : fndT l x = none := by
            have h := HV.out
            cases hy : fndT l x with
            | none => rfl
            | some y => rw [hy] at h; obtain ⟨_, _, _, _, _, _, h, _⟩ := h; cases h
          rw [HX] at HTK
          clear HX HV
          go_wp2
          go_roundw
          case rel => exact ⟨k + 1, by omega, by go_num, HTK, HBW9⟩
          case measure => simp [intOf]; omega
    · obtain rfl : k = t.f2.length := by omega
      have HNF : Aside0 (fndT l t = (frst l t).map fun x => ([], x.1, x.2)) := ⟨by
        have := HN.out
        rw [List.take_length] at this
        rw [HE.out, this]⟩
      clear HN
      go_wp2
      go_loopw [48] (fun v wr => ∃ j : Nat, j ≤ l.length ∧ v = .int .i64 j ∧ Aside0 (frst (l.take j) t = none) ∧ Aside0 (Below W.heap.size W wr)) (fun v _ => l.length - (intOf v).toNat)
      case atStart => exact ⟨0, by omega, rfl, ⟨rfl⟩, HBo⟩
      case round =>
        obtain ⟨j, hj, rfl, HJ, HBr⟩ := hrel
        have HWr := Aside0.mk (hbT HB.out HBr.out)
        by_cases hjl : j < l.length
        · obtain ⟨ad, A2, c2, A5, c5, rfl, E0, E1, E2, E3, E4, E5, l2, f2, l5, f5, _⟩ := at_Rl (Kd.F_below HFL.out HWr.out) j hjl
          have HF2 := Aside0.mk f2
          have HF5 := Aside0.mk f5
          have HTK := Aside0.mk (frst_take hjl HJ.out)
          have HRM : Aside0 (szT (rd_Rl l j).f0 ≤ 1000000) := ⟨HRZ.out _ (by rw [rdRl_get l j hjl]; exact List.getElem_mem _)⟩
          have hjb : (j : Int) < l.length := by omega
          clear f2 f5
          generalize rd_Rl l j = r at *
          go_upto_region 11 with (((with_reducible refine gate_store (t := 100) (p := 17) rfl ?_); refine st_rl 17 rfl rfl rfl rfl rfl (heap_alloc_new _ _) ?_); intro w4 hs4 hG4 hz4; have GR := Aside0.mk hs4; have HB4 := Aside0.mk (gbS (below_alloc (Below.refl wr.heap.size wr) _) hG4 (Nat.le_refl _)); clear hs4 hG4 hz4 E0 E1 E2 E3 E4 E5)
          have HBW4 := Aside0.mk (hbT HBr.out HB4.out)
          have HW4 := Aside0.mk (hbT HB.out HBW4.out)
          have hw4 := HW4.out.size
          have hmm := @run_makeMap Try.prog
          go_upto_region 12 with (fail)
          clear hmm
          have HBm := Aside0.mk (below_alloc (Below.refl w4.heap.size w4) (.map #[] 0))
          have HM0 := Aside0.mk (MapT.made w4 okt)
          have hz5 : w4.heap.size + 1 ≤ (w4.alloc (.map #[] 0)).heap.size := by simp
          generalize w4.alloc (.map #[] 0) = w5 at *
          have GR5 := Aside0.mk ((HBm.out.block _ (blk_lt GR.out)).trans GR.out)
          obtain ⟨r0, r1, r2, r3, r4, r5⟩ := rl_cells GR5.out
          obtain ⟨t0, t1, t2⟩ := tm_cells (((hbT HBW4.out HBm.out).block _ (blk_lt G0.out)).trans G0.out)
          have MT := Aside0.mk (meet_any (szT r.f0) r.f0 t A2 A c2 c w4.heap.size (fun k => okl k ∧ k < w4.heap.size) okt okt [] w5 (Nat.le_refl _) HM0.out (Kd.F_below (Kd.F_mono (Kd.F_bound (Kd.F_below HF2.out HB4.out)) (fun _ h => h)) HBm.out) l2 (Kd.F_below HF.out (hbT HW4.out HBm.out)) hc (fun k hk => by have := hk.2; omega) (fun _ h => h) (fun k hk => by have := HOT.out k hk; omega))
          go_wp2_with (fail)
          refine MT.out.mono ?_
          rintro e w6 ⟨rfl, hM6, hG6⟩
          have HM6 := Aside0.mk hM6
          have HG6 := Aside0.mk hG6
          have hz6 := hG6.size
          clear hM6 hG6 MT r0 r1 r2 r3 r4 r5 t0 t1 t2
          have HB46 := Aside0.mk (gbS HBm.out HG6.out (Nat.le_refl _))
          have HBW6 := Aside0.mk (hbT HBW4.out HB46.out)
          cases hmt : (growT [] r.f0 t).2 with
          | true =>
            have HR : Aside0 (fndT l t = some ([], r, (growT [] r.f0 t).1)) := ⟨by
              have := HTK.out
              rw [if_pos hmt] at this
              rw [HNF.out, frst_some this]; rfl⟩
            clear hmt HTK
            have hw4' := HBW4.out.size
            have hwr' := HBr.out.size
            have hgr : some wr.heap.size ≠ some (w.heap.size + 1) := fun e => by injection e with e; omega
            obtain ⟨r0, r1, r2, r3, r4, r5⟩ := rl_cells ((HB46.out.block _ (blk_lt GR.out)).trans GR.out)
            have k0 := fun (w' : World) (h : w6.grownBy w' (some (w.heap.size + 1))) => oldg h r0 hgr
            have k1 := fun (w' : World) (h : w6.grownBy w' (some (w.heap.size + 1))) => oldg h r1 hgr
            have k2 := fun (w' : World) (h : w6.grownBy w' (some (w.heap.size + 1))) => oldg h r2 hgr
            have k3 := fun (w' : World) (h : w6.grownBy w' (some (w.heap.size + 1))) => oldg h r3 hgr
            have k4 := fun (w' : World) (h : w6.grownBy w' (some (w.heap.size + 1))) => oldg h r4 hgr
            have k5 := fun (w' : World) (h : w6.grownBy w' (some (w.heap.size + 1))) => oldg h r5 hgr
            clear r0 r1 r2 r3 r4 r5
            go_upto_region 13 with (fail)
            refine hd_region 7 0 (fun w' => w6.grownBy w' (some (w.heap.size + 1))) (by kernel_rfl) rfl ?_ (fun _ h => grown_of_below h _)
            intro W3 hb3 hz3 hHeld
            have HH := Aside0.mk hb3
            have HR1 := Aside0.mk (((hbT HBW6.out HH.out).block _ (blk_lt G1.out)).trans G1.out)
            clear hz3 hb3
            (refine hd_take (i := 0) (oi := ?oi1530) (v := ?v1530) ?hi1530 (by kernel_rfl) (by kernel_rfl) (by kernel_rfl) (by kernel_rfl) (by decide) ?hq1530 ?hw1530 ?hy1530 hHeld ?hr1530; (case hi1530 => (simp only [List.getElem?_toArray, List.getElem?_cons_succ, List.getElem?_cons_zero]; rfl)); (case hw1530 => rfl); (case hy1530 => (intro w hSw; go_simp; try with_reducible rfl)); (case hq1530 => exact fun _ _ _ h => h); simp only [Act.put, List.setIfInBounds_toArray, List.set_cons_zero, List.set_cons_succ])
            (refine hd_take (i := 1) (oi := ?oi1532) (v := ?v1532) ?hi1532 (by kernel_rfl) (by kernel_rfl) (by kernel_rfl) (by kernel_rfl) (by decide) ?hq1532 ?hw1532 ?hy1532 hHeld ?hr1532; (case hi1532 => (simp only [List.getElem?_toArray, List.getElem?_cons_succ, List.getElem?_cons_zero]; rfl)); (case hw1532 => rfl); (case hy1532 => (intro w hSw; go_simp; try with_reducible rfl)); (case hq1532 => exact fun _ _ _ h => h); simp only [Act.put, List.setIfInBounds_toArray, List.set_cons_zero, List.set_cons_succ])
            (refine hd_take (i := 2) (oi := ?oi1534) (v := ?v1534) ?hi1534 (by kernel_rfl) (by kernel_rfl) (by kernel_rfl) (by kernel_rfl) (by decide) ?hq1534 ?hw1534 ?hy1534 hHeld ?hr1534; (case hi1534 => (simp only [List.getElem?_toArray, List.getElem?_cons_succ, List.getElem?_cons_zero]; rfl)); (case hw1534 => rfl); (case hy1534 => (intro w hSw; go_simp; try with_reducible rfl)); (case hq1534 => exact fun _ _ _ h => h); simp only [Act.put, List.setIfInBounds_toArray, List.set_cons_zero, List.set_cons_succ])
            (refine hd_one (i := 3) (oi := ?oi1536) ?hi1536 (by kernel_rfl) (by decide) ?hr1536; (case hi1536 => (simp only [List.getElem?_toArray, List.getElem?_cons_succ, List.getElem?_cons_zero]; rfl)); intro K hK)
            go_simp
            (refine hK.out _ _ ?hS1538 (fun hHeld => ?hr1538); (case hS1538 => exact hHeld); clear hK K; try simp only [Act.put, List.setIfInBounds_toArray, List.set_cons_zero, List.set_cons_succ])
            (refine hd_one (i := 4) (oi := ?oi1539) ?hi1539 (by kernel_rfl) (by decide) ?hr1539; (case hi1539 => (simp only [List.getElem?_toArray, List.getElem?_cons_succ, List.getElem?_cons_zero]; rfl)); intro K hK)
            refine st_rl_step 7 rfl rfl rfl rfl rfl HR1.out ?_
            intro w10 hs10 hG10 hz10
            have HS10 := Aside0.mk hs10
            have HG10 := Aside0.mk hG10
            (refine hK.out _ _ ?hS1541 (fun hHeld => ?hr1541); (case hS1541 => exact gbT hHeld HG10.out (.inl rfl)); clear hK K; try simp only [Act.put, List.setIfInBounds_toArray, List.set_cons_zero, List.set_cons_succ])
            clear hs10 hG10 hz10
            (refine hd_one (i := 5) (oi := ?oi1542) ?hi1542 (by kernel_rfl) (by decide) ?hr1542; (case hi1542 => (simp only [List.getElem?_toArray, List.getElem?_cons_succ, List.getElem?_cons_zero]; rfl)); intro K hK)
            go_simp
            (refine hK.out _ _ ?hS1544 (fun hHeld => ?hr1544); (case hS1544 => exact hHeld); clear hK K; try simp only [Act.put, List.setIfInBounds_toArray, List.set_cons_zero, List.set_cons_succ])
            (refine hd_one (i := 6) (oi := ?oi1545) ?hi1545 (by kernel_rfl) (by decide) ?hr1545; (case hi1545 => (simp only [List.getElem?_toArray, List.getElem?_cons_succ, List.getElem?_cons_zero]; rfl)); intro K hK)
            go_simp
            (refine hK.out _ _ ?hS1547 (fun hHeld => ?hr1547); (case hS1547 => exact hHeld); clear hK K; try simp only [Act.put, List.setIfInBounds_toArray, List.set_cons_zero, List.set_cons_succ])
            (refine hd_done (by kernel_rfl) ?_; simp only [List.drop_succ_cons, List.drop_zero])
            clear hHeld k0 k1 k2 k3 k4 k5
            go_wp2
            ((try simp only [Exit.inBlock, Exit.then]); refine bodyPost_ret (results_tctt rfl _ _ _ 100 _ (0, 0) _ rfl HS10.out Try.underlying100 rfl (by kernel_rfl)) rfl ?_)
            have HW3 := Aside0.mk (hbT HB.out (hbT HBW6.out HH.out))
            have hz3 := HH.out.size
            have hz10 := HG10.out.size
            refine ⟨_, _, _, _, rfl, ?_, gbS HW3.out HG10.out (by omega)⟩
            rw [HR.out]
            have n1 : ∀ k, okl k → k ≠ w.heap.size + 1 := fun k hk => by have := HOL.out k hk; omega
            have n2 : ∀ k, okt k → k ≠ w.heap.size + 1 := fun k hk => by have := HOT.out k hk; omega
            have n3 : ∀ k, okp k → k ≠ w.heap.size + 1 := fun k hk => by have := HOP.out k hk; omega
            have hBr6 := hbT HB4.out (hbT HB46.out HH.out)
            refine ⟨r, A2, c2, A5, c5, rfl, rfl, rfl, ⟨l2, l5⟩, ⟨Kd.F_grown (Kd.F_below HF2.out hBr6) HG10.out (fun k hk e => n1 k hk (by injection e)), Kd.F_grown (Kd.F_below HF5.out hBr6) HG10.out (fun k hk e => n1 k hk (by injection e))⟩, Ap, cp, w4.heap.size, ?_, ?_, ?_, rfl, ?_, ⟨.inr (by omega), by omega⟩⟩
            · rw [List.append_nil]; rfl
            · rw [List.append_nil]; exact hpc
            · rw [List.append_nil]
              exact Kd.F_mono (Kd.F_grown (Kd.F_below HP.out HW3.out) HG10.out (fun k hk e => n3 k hk (by injection e))) (fun k hk => ⟨.inl hk, by have := HOP.out k hk; omega⟩)
            · exact (HM6.out.below HH.out).grown HG10.out (by omega) n2
          | false =>
            have HJ2 : Aside0 (frst (l.take (j+1)) t = none) := ⟨by rw [HTK.out, if_neg (by rw [hmt]; decide)]⟩
            clear hmt HTK
            go_wp2
            go_roundw
            case rel => exact ⟨j + 1, by omega, by go_num, HJ2, HBW6⟩
            case measure => simp [intOf]; omega
        · obtain rfl : j = l.length := by omega
          have HR : Aside0 (fndT l t = none) := ⟨by
            have := HJ.out
            rw [List.take_length] at this
            rw [HNF.out, this]; rfl⟩
          have HR1 := Aside0.mk ((HBr.out.block _ (blk_lt G1.out)).trans G1.out)
          go_wp2_with (((with_reducible refine gate_store (t := 100) (p := 7) rfl ?_); refine st_rl 7 rfl rfl rfl rfl rfl HR1.out ?_); intro w10 hs10 hG10 hz10; have HS10 := Aside0.mk hs10; have HG10 := Aside0.mk hG10; clear hs10 hG10 hz10)
          ((try simp only [Exit.inBlock, Exit.then]); refine bodyPost_ret (results_tctt rfl _ _ _ 100 _ (0, 0) _ rfl HS10.out Try.underlying100 rfl (by kernel_rfl)) rfl ?_)
          refine ⟨_, _, _, _, rfl, ?_, gbS HWr.out HG10.out (by omega)⟩
          rw [HR.out]
          exact ⟨zRl, none, 0, none, 0, rfl, rfl⟩
end Go.Proofs.Ytcgnpmjkeifokaa
