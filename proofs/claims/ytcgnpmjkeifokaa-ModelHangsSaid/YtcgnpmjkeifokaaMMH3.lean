/- ModelHangs: in a model in which a clause holds all hold that it subsumes, and those that are always hold in all; a clause tidied holds just if it did: for every input. Part 3: the walks and plain laws that it uses. -/
import Derived.Shelf.SlMaps.Clone
import Derived.Test.YtcgnpmjkeifokaaMMH2
-- K44
/- slices.IndexFunc, ContainsFunc over literals; clause.IsAlways, Always. -/
namespace Go.Proofs.Ytcgnpmjkeifokaa
open Go.RowKit Go.Proofs.YtcgnpmjkeifokaaW.PrintWords
set_option linter.unusedVariables false
set_option linter.unusedSimpArgs false
set_option maxHeartbeats 4000000 in
set_option maxRecDepth 100000 in
theorem indexFuncL (g : Nat) (lb : Array Value) (p : Li → Bool) (eg : ∀ args w, (callFunc g args).run Try.prog w = .ok (.enter g args) w) (xs : List Li) (A : Option Addr) (c : Nat) (ok : Nat → Prop) (w : World) (hF : Kd.F kLi w ok A xs.length xs)
    (hp : ∀ x, x ∈ xs → ∀ (A3 : Option Addr) (c3 : Nat) (A6 : Option Addr) (c6 : Nat) (W : World), Below w.heap.size w W → LiF W ok x A3 c3 A6 c6 → Calls Try.prog g (#[.agg #[.bool x.f0, .int .i64 x.f1.f0, .int .i64 x.f1.f1, .slice A3 x.f1.f2.length c3, .int .i64 x.f2.f0, .int .i64 x.f2.f1, .slice A6 x.f2.f2.length c6]] ++ lb) W fun e w' => e = .returned (.bool (p x)) ∧ Below W.heap.size W w') :
    Calls Try.prog 121 #[.slice A xs.length c, .func (.func g) #[] lb] w fun e w' => e = .returned (.int .i64 (idxB p xs)) ∧ Below w.heap.size w w' := by
  have hlen := Kd.F_max hF
  have HF := Aside0.mk hF
  have HP := Aside0.mk hp
  clear hF hp
  go_enter Try.func121, Try.ntmps121
  go_wp2
  go_loopw [8] (fun i wr => ∃ k : Nat, k ≤ xs.length ∧ i = .int .i64 k ∧ Aside0 ((xs.take k).all (fun x => !p x) = true) ∧ Aside0 (Below w.heap.size w wr)) (fun i _ => xs.length - (intOf i).toNat)
  case atStart => exact ⟨0, by omega, rfl, ⟨rfl⟩, ⟨Below.refl _ _⟩⟩
  case round =>
    obtain ⟨k, hk, rfl, h0, hb⟩ := hrel
    by_cases hlt : k < xs.length
    · obtain ⟨ad, A3, c3, A6, c6, rfl, E0, E1, E2, E3, E4, E5, E6, hL, _⟩ := at_Lit (Kd.F_below HF.out hb.out) k hlt
      have HL := Aside0.mk hL
      have HX := Aside0.mk (HP.out (rd_Li xs k) (rdLi_mem xs k hlt))
      have H1 := Aside0.mk (fun h => idxB_at (p := p) hlt h0.out h)
      have H2 := Aside0.mk (fun h => take_all_succ (p := fun x => !p x) hlt h0.out h)
      rw [← rdLi_get xs k hlt] at H1 H2
      clear hL
      generalize rd_Li xs k = x at *
      go_wp2_with (fail)
      refine (HX.out A3 c3 A6 c6 _ hb.out HL.out).mono ?_
      rintro e w2 ⟨rfl, hb2⟩
      have HB2 := Aside0.mk (hbT hb.out hb2)
      clear hb2 E0 E1 E2 E3 E4 E5 E6
      cases hpx : p x with
      | true =>
        have HR := Aside0.mk (H1.out hpx)
        clear H1 H2 HX hpx
        go_wp2
        go_ret
        exact ⟨ret_int HR.out.symm, HB2.out⟩
      | false =>
        have HR := Aside0.mk (H2.out (by simp [hpx]))
        clear H1 H2 HX hpx
        go_wp2
        go_roundw
        case rel => exact ⟨k + 1, by omega, by go_num, HR, HB2⟩
        case measure => simp [intOf]; omega
    · obtain rfl : k = xs.length := by omega
      have HR := Aside0.mk (idxB_none (p := p) (l := xs) (by have := h0.out; rwa [List.take_length] at this))
      clear h0
      go_wp2
      go_ret
      exact ⟨ret_int HR.out.symm, hb.out⟩
set_option maxHeartbeats 4000000 in
set_option maxRecDepth 100000 in
theorem containsFuncL (g : Nat) (lb : Array Value) (p : Li → Bool) (eg : ∀ args w, (callFunc g args).run Try.prog w = .ok (.enter g args) w) (xs : List Li) (A : Option Addr) (c : Nat) (ok : Nat → Prop) (w : World) (hF : Kd.F kLi w ok A xs.length xs)
    (hp : ∀ x, x ∈ xs → ∀ (A3 : Option Addr) (c3 : Nat) (A6 : Option Addr) (c6 : Nat) (W : World), Below w.heap.size w W → LiF W ok x A3 c3 A6 c6 → Calls Try.prog g (#[.agg #[.bool x.f0, .int .i64 x.f1.f0, .int .i64 x.f1.f1, .slice A3 x.f1.f2.length c3, .int .i64 x.f2.f0, .int .i64 x.f2.f1, .slice A6 x.f2.f2.length c6]] ++ lb) W fun e w' => e = .returned (.bool (p x)) ∧ Below W.heap.size W w') :
    Calls Try.prog 84 #[.slice A xs.length c, .func (.func g) #[] lb] w fun e w' => e = .returned (.bool (xs.any p)) ∧ Below w.heap.size w w' := by
  have H := Aside0.mk (idxB_any p xs)
  have HI := Aside0.mk (indexFuncL g lb p eg xs A c ok w hF hp)
  clear hF hp eg
  go_enter Try.func84, Try.ntmps84
  go_wp2_with (fail)
  refine HI.out.mono ?_
  rintro e w2 ⟨rfl, hb2⟩
  generalize idxB p xs = y at *
  go_wp2
  go_ret
  exact ⟨ret_bool H.out, hb2⟩
def alwI (l x : Li) : Bool := !x.f0 && sidesB x l
def alwO (c : List Li) (l : Li) : Bool := l.f0 && (eqT l.f1 l.f2 || c.any (alwI l))
def alwB (c : List Li) : Bool := c.any (alwO c)
theorem alwI_t {l x : Li} (h : x.f0 = true) : alwI l x = false := by unfold alwI; rw [h]; rfl
theorem alwI_f {l x : Li} (h : x.f0 = false) : alwI l x = sidesB x l := by unfold alwI; rw [h]; rfl
theorem alwO_f {c : List Li} {l : Li} (h : l.f0 = false) : alwO c l = false := by unfold alwO; rw [h]; rfl
theorem alwO_e {c : List Li} {l : Li} (h : l.f0 = true) (h2 : eqT l.f1 l.f2 = true) : alwO c l = true := by unfold alwO; rw [h, h2]; rfl
theorem alwO_n {c : List Li} {l : Li} (h : l.f0 = true) (h2 : eqT l.f1 l.f2 = false) : alwO c l = c.any (alwI l) := by unfold alwO; rw [h, h2]; rfl
set_option maxHeartbeats 4000000 in
set_option maxRecDepth 100000 in
theorem alwI_any (l x : Li) (A3 A6 B3 B6 : Option Addr) (c3 c6 d3 d6 b : Nat) (okl okx : Nat → Prop) (W : World) (hb : W.heap[b]? = some (.cells #[.bool l.f0, .int .i64 l.f1.f0, .int .i64 l.f1.f1, .slice A3 l.f1.f2.length c3, .int .i64 l.f2.f0, .int .i64 l.f2.f1, .slice A6 l.f2.f2.length c6] 84 (0, 0))) (hL : LiF W okl l A3 c3 A6 c6) (hX : LiF W okx x B3 d3 B6 d6) :
    Calls Try.prog 101 #[.agg #[.bool x.f0, .int .i64 x.f1.f0, .int .i64 x.f1.f1, .slice B3 x.f1.f2.length d3, .int .i64 x.f2.f0, .int .i64 x.f2.f1, .slice B6 x.f2.f2.length d6], .pointer (some ⟨b, 0, none⟩)] W fun e w' => e = .returned (.bool (alwI l x)) ∧ Below W.heap.size W w' := by
  have HB := Aside0.mk (below_alloc (Below.refl W.heap.size W) (.cells #[.bool x.f0, .int .i64 x.f1.f0, .int .i64 x.f1.f1, .slice B3 x.f1.f2.length d3, .int .i64 x.f2.f0, .int .i64 x.f2.f1, .slice B6 x.f2.f2.length d6] 84))
  have g0 := newAt (w := W) (o := .cells #[.bool x.f0, .int .i64 x.f1.f0, .int .i64 x.f1.f1, .slice B3 x.f1.f2.length d3, .int .i64 x.f2.f0, .int .i64 x.f2.f1, .slice B6 x.f2.f2.length d6] 84) rfl
  have g1 := blk_alloc hb (.cells #[.bool x.f0, .int .i64 x.f1.f0, .int .i64 x.f1.f1, .slice B3 x.f1.f2.length d3, .int .i64 x.f2.f0, .int .i64 x.f2.f1, .slice B6 x.f2.f2.length d6] 84)
  have HL := Aside0.mk (hL.below HB.out)
  have HX := Aside0.mk (hX.below HB.out)
  clear hb hL hX
  go_enter Try.func101, Try.ntmps101
  go_upto_region 1 with (fail)
  generalize W.alloc (.cells #[.bool x.f0, .int .i64 x.f1.f0, .int .i64 x.f1.f1, .slice B3 x.f1.f2.length d3, .int .i64 x.f2.f0, .int .i64 x.f2.f1, .slice B6 x.f2.f2.length d6] 84) = W1 at *
  obtain ⟨x0, x1, x2, x3, x4, x5, x6⟩ := li_cells g0
  obtain ⟨l0, l1, l2, l3, l4, l5, l6⟩ := li_cells g1
  clear g0 g1
  cases hx : x.f0 with
  | true =>
    have HR := Aside0.mk (alwI_t (l := l) hx)
    rw [hx] at x0
    clear hx
    go_wp2
    go_ret
    exact ⟨ret_bool HR.out.symm, HB.out⟩
  | false =>
    have HR := Aside0.mk (alwI_f (l := l) hx)
    have HC := Aside0.mk (sides_any x l B3 B6 A3 A6 d3 d6 c3 c6 _ _ W1 HX.out.F3 HX.out.l3 HX.out.F6 HX.out.l6 HL.out.F3 HL.out.l3 HL.out.F6 HL.out.l6)
    rw [hx] at x0 HC
    clear hx
    go_wp2_with (fail)
    refine HC.out.mono ?_
    rintro e w2 ⟨rfl, hb2⟩
    have HB2 := Aside0.mk (hbT HB.out hb2)
    clear hb2 x0 x1 x2 x3 x4 x5 x6 l0 l1 l2 l3 l4 l5 l6
    go_wp2
    go_ret
    exact ⟨ret_bool HR.out.symm, HB2.out⟩
set_option maxHeartbeats 4000000 in
set_option maxRecDepth 100000 in
theorem alwO_any (c : List Li) (l : Li) (Ac A3 A6 : Option Addr) (cc c3 c6 b : Nat) (okc okl : Nat → Prop) (W : World) (hb : W.heap[b]? = some (.cells #[.slice Ac c.length cc] 26 (0, 0))) (hC : Kd.F kLi W okc Ac c.length c) (hL : LiF W okl l A3 c3 A6 c6) :
    Calls Try.prog 100 #[.agg #[.bool l.f0, .int .i64 l.f1.f0, .int .i64 l.f1.f1, .slice A3 l.f1.f2.length c3, .int .i64 l.f2.f0, .int .i64 l.f2.f1, .slice A6 l.f2.f2.length c6], .pointer (some ⟨b, 0, none⟩)] W fun e w' => e = .returned (.bool (alwO c l)) ∧ Below W.heap.size W w' := by
  have HB := Aside0.mk (below_alloc (Below.refl W.heap.size W) (.cells #[.bool l.f0, .int .i64 l.f1.f0, .int .i64 l.f1.f1, .slice A3 l.f1.f2.length c3, .int .i64 l.f2.f0, .int .i64 l.f2.f1, .slice A6 l.f2.f2.length c6] 84))
  have g0 := newAt (w := W) (o := .cells #[.bool l.f0, .int .i64 l.f1.f0, .int .i64 l.f1.f1, .slice A3 l.f1.f2.length c3, .int .i64 l.f2.f0, .int .i64 l.f2.f1, .slice A6 l.f2.f2.length c6] 84) rfl
  have g1 := blk_alloc hb (.cells #[.bool l.f0, .int .i64 l.f1.f0, .int .i64 l.f1.f1, .slice A3 l.f1.f2.length c3, .int .i64 l.f2.f0, .int .i64 l.f2.f1, .slice A6 l.f2.f2.length c6] 84)
  have HL := Aside0.mk (hL.below HB.out)
  have HC := Aside0.mk (Kd.F_below hC HB.out)
  clear hb hL hC
  go_enter Try.func100, Try.ntmps100
  go_upto_region 1 with (fail)
  generalize W.alloc (.cells #[.bool l.f0, .int .i64 l.f1.f0, .int .i64 l.f1.f1, .slice A3 l.f1.f2.length c3, .int .i64 l.f2.f0, .int .i64 l.f2.f1, .slice A6 l.f2.f2.length c6] 84) = W1 at *
  obtain ⟨l0, l1, l2, l3, l4, l5, l6⟩ := li_cells g0
  have G0 := Aside0.mk g0
  have G1 := Aside0.mk g1
  clear g0 g1
  cases hx : l.f0 with
  | false =>
    have HR := Aside0.mk (alwO_f (c := c) hx)
    rw [hx] at l0
    clear hx
    go_wp2
    go_ret
    exact ⟨ret_bool HR.out.symm, HB.out⟩
  | true =>
    have HX := Aside0.mk hx
    rw [hx] at l0
    clear hx
    go_wp2_with (fail)
    refine (same_any (szT l.f1) l.f1 l.f2 A3 A6 c3 c6 _ _ W1 (Nat.le_refl _) HL.out.F3 HL.out.l3 HL.out.F6 HL.out.l6).mono ?_
    rintro e w2 ⟨rfl, hb2⟩
    have HB2 := Aside0.mk hb2
    clear hb2 l0 l1 l2 l3 l4 l5 l6
    have s0 := sg_cell ((HB2.out.block _ (blk_lt G1.out)).trans G1.out)
    cases he : eqT l.f1 l.f2 with
    | true =>
      have HR := Aside0.mk (alwO_e (c := c) HX.out he)
      clear he
      go_wp2
      go_ret
      exact ⟨ret_bool HR.out.symm, hbT HB.out HB2.out⟩
    | false =>
      have HR := Aside0.mk (alwO_n (c := c) HX.out he)
      have GL := Aside0.mk ((HB2.out.block _ (blk_lt G0.out)).trans G0.out)
      have HL2 := Aside0.mk (HL.out.below HB2.out)
      have HCF := Aside0.mk (containsFuncL 101 #[.pointer (some ⟨W.heap.size, 0, none⟩)] (alwI l) (enters_of Try.func101 (by kernel_rfl) rfl) c Ac cc _ w2 (Kd.F_below HC.out HB2.out) (fun x _ B3 d3 B6 d6 W3 hb3 hX3 => alwI_any l x A3 A6 B3 B6 c3 c6 d3 d6 W.heap.size _ _ W3 ((hb3.block _ (blk_lt GL.out)).trans GL.out) (HL2.out.below hb3) hX3))
      clear he
      go_wp2_with (fail)
      refine HCF.out.mono ?_
      rintro e w3 ⟨rfl, hb3⟩
      have HB3 := Aside0.mk (hbT (hbT HB.out HB2.out) hb3)
      clear hb3 HCF s0
      go_wp2
      go_ret
      exact ⟨ret_bool HR.out.symm, HB3.out⟩
set_option maxHeartbeats 4000000 in
set_option maxRecDepth 100000 in
theorem isAlways_any (c : List Li) (Ac : Option Addr) (cc : Nat) (okc : Nat → Prop) (w : World) (hC : Kd.F kLi w okc Ac c.length c) :
    Calls Try.prog 53 #[.slice Ac c.length cc] w fun e w' => e = .returned (.bool (alwB c)) ∧ Below w.heap.size w w' := by
  have HB := Aside0.mk (below_alloc (Below.refl w.heap.size w) (.cells #[.slice Ac c.length cc] 26))
  have g0 := newAt (w := w) (o := .cells #[.slice Ac c.length cc] 26) rfl
  have HC := Aside0.mk (Kd.F_below hC HB.out)
  clear hC
  go_enter Try.func53, Try.ntmps53
  go_upto_region 1 with (fail)
  generalize w.alloc (.cells #[.slice Ac c.length cc] 26) = W at *
  have s0 := sg_cell g0
  have G0 := Aside0.mk g0
  clear g0
  have HCF := Aside0.mk (containsFuncL 100 #[.pointer (some ⟨w.heap.size, 0, none⟩)] (alwO c) (enters_of Try.func100 (by kernel_rfl) rfl) c Ac cc _ W HC.out (fun x _ B3 d3 B6 d6 W3 hb3 hX3 => alwO_any c x Ac B3 B6 cc d3 d6 w.heap.size _ _ W3 ((hb3.block _ (blk_lt G0.out)).trans G0.out) (Kd.F_below HC.out hb3) hX3))
  go_wp2_with (fail)
  refine HCF.out.mono ?_
  rintro e w3 ⟨rfl, hb3⟩
  have HB3 := Aside0.mk (hbT HB.out hb3)
  clear hb3 HCF s0
  go_wp2
  go_ret
  exact ⟨rfl, HB3.out⟩
def alwR (g : List Int) (c : List Li) : Bool := if chkCs g [c] = 0 then alwB c else false
set_option maxHeartbeats 4000000 in
set_option maxRecDepth 100000 in
theorem always_any (g : List Int) (Ag : Option Addr) (cg : Nat) (c : List Li) (Ac : Option Addr) (cc : Nat) (okc : Nat → Prop) (w : World) (hG : Kd.C (Kd.int .i64) w Ag g.length g) (hF : Kd.F kLi w okc Ac c.length c) (hc : c.length ≤ cc) :
    Calls Try.prog 12 #[.agg #[.slice Ag g.length cg], .slice Ac c.length cc] w fun e w' => e = .returned (.tuple #[.bool (alwR g c), .int .i64 (chkCs g [c])]) ∧ Below w.heap.size w w' := by
  have HF := Aside0.mk hF
  have HG := Aside0.mk hG
  clear hF hG
  have g0 := newAt (w := w) (o := .cells #[.slice Ag g.length cg] 24) rfl
  have HB := Aside0.mk (below_alloc (Below.refl w.heap.size w) (.cells #[.slice Ag g.length cg] 24))
  go_enter Try.func12, Try.ntmps12
  go_upto_region 1 with (fail)
  generalize w.alloc (.cells #[.slice Ag g.length cg] 24) = W at *
  have s0 := sg_cell g0
  clear g0
  go_upto_region 2 with (go_at_call 51; refine (clauseOne_any g Ag cg c Ac cc _ _ (Kd.C_below HG.out HB.out) (Kd.F_below HF.out HB.out) hc).mono ?_; rintro e w2 ⟨rfl, hb2⟩; have HB2 := Aside0.mk hb2; clear hb2 s0)
  have HB02 := Aside0.mk (hbT HB.out HB2.out)
  by_cases h0 : chkCs g [c] = 0
  · have h0b := bneF h0
    have HR : Aside0 (alwR g c = alwB c) := ⟨by unfold alwR; rw [if_pos h0]⟩
    have H0 := Aside0.mk h0
    clear h0
    go_wp2_with (go_at_call 53; refine (isAlways_any c Ac cc _ w2 (Kd.F_below HF.out HB02.out)).mono ?_; rintro e w3 ⟨rfl, hb3⟩; have HB3 := Aside0.mk hb3; clear hb3)
    go_ret2
    exact ⟨by rw [HR.out, H0.out]; rfl, hbT HB02.out HB3.out⟩
  · have h0b := bneT h0
    have HR : Aside0 (alwR g c = false) := ⟨by unfold alwR; rw [if_neg h0]⟩
    clear h0
    go_wp2
    go_ret2
    exact ⟨by rw [HR.out]; rfl, HB02.out⟩
end Go.Proofs.Ytcgnpmjkeifokaa
-- K45
/- superposeref.AlwaysOf, SameClause, superposelaw.clauseIs. -/
namespace Go.Proofs.Ytcgnpmjkeifokaa
open Go.RowKit Go.Proofs.YtcgnpmjkeifokaaW.PrintWords
set_option linter.unusedVariables false
set_option linter.unusedSimpArgs false
theorem sidesB_comm (a b : Li) : sidesB a b = sidesB b a := by
  unfold sidesB
  rw [eqT_comm a.f1 b.f1, eqT_comm a.f2 b.f2, eqT_comm a.f1 b.f2, eqT_comm a.f2 b.f1]
  cases eqT b.f1 a.f1 <;> cases eqT b.f2 a.f2 <;> cases eqT b.f2 a.f1 <;> cases eqT b.f1 a.f2 <;> rfl
def alwI2 (l x : Li) : Bool := !x.f0 && sidesB l x
theorem alwI2_eq (l : Li) : alwI2 l = alwI l := by funext x; unfold alwI2 alwI; rw [sidesB_comm]
end Go.Proofs.Ytcgnpmjkeifokaa
-- K46
/- superposeref.SameClause, superposelaw.clauseIs. -/
namespace Go.Proofs.Ytcgnpmjkeifokaa
open Go.RowKit Go.Proofs.YtcgnpmjkeifokaaW.PrintWords
set_option linter.unusedVariables false
set_option linter.unusedSimpArgs false
def samLi (x y : Li) : Bool := x.f0 == y.f0 && (eqT x.f1 y.f1 && eqT x.f2 y.f2)
theorem samLi_iff (x y : Li) : samLi x y = true ↔ x = y := by
  obtain ⟨a, b, c⟩ := x
  obtain ⟨a', b', c'⟩ := y
  unfold samLi
  simp only [Bool.and_eq_true, beq_iff_eq, eqT_iff, Li.mk.injEq]
def samC (a b : List Li) : Bool := eqF samLi a b
theorem samC_iff : ∀ a b : List Li, samC a b = true ↔ a = b
  | [], [] => by simp [samC, eqF]
  | [], _ :: _ => by simp [samC, eqF]
  | _ :: _, [] => by simp [samC, eqF]
  | x :: a, y :: b => by
    have := samC_iff a b
    unfold samC at this ⊢
    rw [eqF, Bool.and_eq_true, samLi_iff, this, List.cons.injEq]
theorem samC_refl (a : List Li) : samC a a = true := (samC_iff a a).2 rfl
theorem samC_len {a b : List Li} (h : a.length ≠ b.length) : samC a b = false := eqF_len h
theorem samLi_0 {x y : Li} (h : (x.f0 == y.f0) = false) : samLi x y = false := by unfold samLi; rw [h]; rfl
theorem samLi_1 {x y : Li} (h : eqT x.f1 y.f1 = false) : samLi x y = false := by unfold samLi; rw [h]; cases x.f0 == y.f0 <;> rfl
theorem samLi_2 {x y : Li} (h : (x.f0 == y.f0) = true) (h1 : eqT x.f1 y.f1 = true) : samLi x y = eqT x.f2 y.f2 := by unfold samLi; rw [h, h1]; rfl
/-- What clauseIs answers. -/
def clIs (c : List Li) (e v : Int) (want : List Li) : Bool := e == v && samC c (if v = 0 then want else [])
end Go.Proofs.Ytcgnpmjkeifokaa
-- K47
/- superposeref.TermsOf, clause.Terms. -/
namespace Go.Proofs.Ytcgnpmjkeifokaa
open Go.RowKit Go.Proofs.YtcgnpmjkeifokaaW.PrintWords
set_option linter.unusedVariables false
set_option linter.unusedSimpArgs false
def tmsL : List Li → List Tm
  | [] => []
  | l :: c => l.f1 :: l.f2 :: tmsL c
theorem tmsL_append (a b : List Li) : tmsL (a ++ b) = tmsL a ++ tmsL b := by
  induction a with
  | nil => rfl
  | cons x xs ih => simp only [List.cons_append, tmsL, ih]
theorem tmsL_take (c : List Li) (k : Nat) (hk : k < c.length) : tmsL (c.take (k+1)) = tmsL (c.take k) ++ [(rd_Li c k).f1, (rd_Li c k).f2] := by
  rw [List.take_succ_eq_append_getElem hk, tmsL_append, rdLi_get c k hk]; rfl
theorem tmsL_len (c : List Li) : (tmsL c).length = 2 * c.length := by
  induction c with
  | nil => rfl
  | cons x xs ih => simp only [tmsL, List.length_cons, ih]; omega
theorem tmsL_mem {c : List Li} {t : Tm} (h : t ∈ tmsL c) : ∃ l ∈ c, t = l.f1 ∨ t = l.f2 := by
  induction c with
  | nil => cases h
  | cons x xs ih =>
    simp only [tmsL, List.mem_cons] at h
    rcases h with rfl | rfl | h
    · exact ⟨x, by simp, .inl rfl⟩
    · exact ⟨x, by simp, .inr rfl⟩
    · obtain ⟨l, hl, h2⟩ := ih h; exact ⟨l, by simp [hl], h2⟩
set_option maxHeartbeats 4000000 in
set_option maxRecDepth 100000 in
theorem terms_any (c : List Li) (Ac : Option Addr) (cc : Nat) (okc : Nat → Prop) (w : World) (hbd : c.length ≤ 1000000) (hC : Kd.F kLi w okc Ac c.length c) :
    Calls Try.prog 81 #[.slice Ac c.length cc] w fun e w' => ∃ A' c', e = .returned (.slice A' (tmsL c).length c') ∧ (tmsL c).length ≤ c' ∧ Kd.F kTm w' (fun _ => True) A' (tmsL c).length (tmsL c) ∧ Below w.heap.size w w' := by
  have hlen := Kd.F_max hC
  have HC := Aside0.mk (Kd.F_bound hC)
  have HBD := Aside0.mk hbd
  clear hC hbd
  go_enter Try.func81, Try.ntmps81
  go_wp2
  go_loopw [3, 8] (fun v0 i wr => ∃ (k : Nat) (vk : Value), k ≤ c.length ∧ i = .int .i64 k ∧ vk = v0 ∧ Aside0 (Kd.N kTm 46 wr w.heap.size (fun _ => True) vk (tmsL (c.take k))) ∧ Aside0 (Below w.heap.size w wr)) (fun _ i _ => c.length - (intOf i).toNat)
  case atStart => exact ⟨0, _, by omega, rfl, rfl, ⟨Kd.N_nil _ _ _ _ _⟩, ⟨Below.refl _ _⟩⟩
  case round =>
    rename World => wo
    obtain ⟨k, vk, hk, rfl, rfl, HN, HB⟩ := hrel
    have hzr := HB.out.size
    by_cases hlt : k < c.length
    · obtain ⟨ad, A3, c3, A6, c6, rfl, E0, E1, E2, E3, E4, E5, E6, hL, hok0⟩ := at_Lit (Kd.F_below HC.out HB.out) k hlt
      have HL := Aside0.mk hL
      have HTK := Aside0.mk (tmsL_take c k hlt)
      have HTL := Aside0.mk (tmsL_len (c.take k))
      have HTE := Aside0.mk (List.length_take_le k c)
      have HNL := Aside0.mk (Kd.N_lt HN.out)
      have HNB := Aside0.mk (Kd.N_base HN.out)
      have hki : (k : Int) < c.length := by omega
      have HZR := Aside0.mk hzr
      clear hL hzr
      generalize rd_Li c k = l at *
      generalize hs : tmsL (c.take k) = s at *
      obtain ⟨Av, cv, rfl⟩ := Kd.N_slice HN.out
      go_wp2_with (first | (((with_reducible refine gate_store (t := 84) (p := 5) rfl ?_); refine st_li 5 rfl rfl rfl rfl rfl (heap_alloc_new _ _) ?_); intro w4 hs4 hG4 hz4; obtain ⟨x0, x1, x2, x3, x4, x5, x6⟩ := li_cells hs4; have HB4 := Aside0.mk (gbS (below_alloc (Below.refl wo.heap.size wo) _) hG4 (Nat.le_refl _)); clear hs4 hG4 hz4 E0 E1 E2 E3 E4 E5 E6) | (at_builtin; refine Kd.N_append_rows kTm (w0 := w4) w.heap.size rfl _ _ 44 46 _ 40 rfl Try.underlying44 infoTm rfl (by decide) (by decide) (.slice Av s.length cv) s [l.f1, l.f2] (some ⟨w4.heap.size, 0, none⟩) 2 2 (fun _ => True) (fun j => (okc j ∧ j < w.heap.size) ∨ j = w4.heap.size) rfl rfl (Kd.N_below (Kd.N_below HN.out HB4.out) (below_alloc (Below.refl _ _) _)) (F_lit2 (heap_alloc_new _ _) (Kd.F_below (HL.out.below HB4.out).F3 (below_alloc (Below.refl _ _) _)) HL.out.l3 (Kd.F_below (HL.out.below HB4.out).F6 (below_alloc (Below.refl _ _) _)) HL.out.l6) (fun j hj => ⟨trivial, fun e => by have h1 := HNB.out j e.symm; have h2 := HNL.out j e.symm; have h3 := HB4.out.size; rcases hj with hj | hj <;> omega⟩) (fun _ _ => trivial) (hbW (below_alloc (Below.refl _ _) _) (by have := HZR.out; have := HB4.out.size; omega)) (by have := HZR.out; have := HB4.out.size; simp; omega) (by have := HTL.out; have := HTE.out; have := HBD.out; omega) ?_; intro v1 w6 hN1 hB1 hG1 hI1; have HN1 := Aside0.mk hN1; have HB1 := Aside0.mk hB1; clear hN1 hG1 hI1 hB1))
      go_roundw
      case rel => exact ⟨k + 1, v1, by omega, by go_num, rfl, ⟨by rw [HTK.out]; exact HN1.out⟩, ⟨(hbT HB.out HB4.out).trans HB1.out⟩⟩
      case measure => simp [intOf]; omega
    · obtain rfl : k = c.length := by omega
      have HN2 := HN.out
      rw [List.take_length] at HN2
      obtain ⟨Av, cv, rfl⟩ := Kd.N_slice HN2
      have HN2 := Aside0.mk HN2
      go_wp2
      go_ret
      have h := Kd.N_reads' HN2.out
      first | exact ⟨Av, cv, rfl, h.2.1, Kd.N_F HN2.out, HB.out⟩ | exact ⟨rfl, Av, cv, h.2.1, Kd.N_F HN2.out, HB.out⟩
end Go.Proofs.Ytcgnpmjkeifokaa
-- K48
/- Bindings in a row, told as entries of a map; superposeref.BoundTo, Turned. -/
namespace Go.Proofs.Ytcgnpmjkeifokaa
open Go.RowKit Go.Proofs.YtcgnpmjkeifokaaW.PrintWords
set_option linter.unusedVariables false
set_option linter.unusedSimpArgs false
theorem at_Bdd {w : World} {ok : Nat → Prop} {A : Option Addr} {n : Nat} {xs : List Bd} (h : Kd.F kBd w ok A n xs) (i : Nat) (h1 : i < n) : ∃ ad A3 c3, A = some ad ∧ w.cell? (ad.add (i * 4)) = some (.int .i64 (rd_Bd xs i).f0) ∧
    w.cell? ⟨(ad.add (i * 4)).block, (ad.add (i * 4)).off + 1, none⟩ = some (.int .i64 (rd_Bd xs i).f1.f0) ∧ w.cell? ⟨(ad.add (i * 4)).block, (ad.add (i * 4)).off + 2, none⟩ = some (.int .i64 (rd_Bd xs i).f1.f1) ∧ w.cell? ⟨(ad.add (i * 4)).block, (ad.add (i * 4)).off + 3, none⟩ = some (.slice A3 (rd_Bd xs i).f1.f2.length c3) ∧
    (rd_Bd xs i).f1.f2.length ≤ c3 ∧ Kd.F kTm w ok A3 (rd_Bd xs i).f1.f2.length (rd_Bd xs i).f1.f2 ∧ ok ad.block := by
  obtain ⟨ad, c, e, _, hK, hc0, hin⟩ := Kd.F_get h zBd (i : Int) (by omega) (by omega)
  have hc : ∀ j u, c[j]? = some u → w.cell? (ad.add (i * 4 + j)) = some u := hc0
  obtain ⟨A3, c3, rfl, l3, g3⟩ := kBd_openF hK
  exact ⟨ad, A3, c3, e, hc 0 _ rfl, by rw [← add_field _ _ 1 (by omega)]; exact hc 1 _ rfl, by rw [← add_field _ _ 2 (by omega)]; exact hc 2 _ rfl, by rw [← add_field _ _ 3 (by omega)]; exact hc 3 _ rfl, l3, g3, hin (by decide)⟩
theorem rdBd_get (l : List Bd) (i : Nat) (h : i < l.length) : rd_Bd l i = l[i] := by unfold rd_Bd; simp [List.getD_eq_getElem?_getD, h]
/-- A row of one binding that was just laid. -/
theorem F_bd1 {W : World} {ok : Nat → Prop} {gb : Nat} {x : Bd} {A3 : Option Addr} {c3 : Nat} (hb : W.heap[gb]? = some (.cells #[.int .i64 x.f0, .int .i64 x.f1.f0, .int .i64 x.f1.f1, .slice A3 x.f1.f2.length c3] 89 (0, 0)))
    (h3 : x.f1.f2.length ≤ c3) (hF : Kd.F kTm W ok A3 x.f1.f2.length x.f1.f2) : Kd.F kBd W (fun k => ok k ∨ k = gb) (some ⟨gb, 0, none⟩) [x].length [x] :=
  F_lit (d := kBd) [[.int .i64 x.f0, .int .i64 x.f1.f0, .int .i64 x.f1.f1, .slice A3 x.f1.f2.length c3]] hb rfl (by simp) (fun j z c' hz hc' => by
    match j with
    | 0 => simp at hz hc'; subst hz hc'; exact kBd_mkF W ok x h3 hF
    | j + 1 => simp at hz)
/-- Bindings as entries. -/
def bds (b : List Bd) : List (Int × Tm) := b.map fun x => (x.f0, x.f1)
theorem bds_append (a b : List Bd) : bds (a ++ b) = bds a ++ bds b := by unfold bds; rw [List.map_append]
theorem bds_one (x : Bd) : bds [x] = [(x.f0, x.f1)] := rfl
theorem mget_append {m n : List (Int × Tm)} {v : Int} (h : mget m v = none) : mget (m ++ n) v = mget n v := by
  induction m with
  | nil => rfl
  | cons p m ih =>
    rw [mget] at h
    by_cases hk : p.1 = v
    · rw [if_pos hk] at h; cases h
    · rw [if_neg hk] at h; rw [List.cons_append, mget, if_neg hk, ih h]
theorem bds_step {b : List Bd} {k : Nat} {v : Int} (hk : k < b.length) (h : mget (bds (b.take k)) v = none) : mget (bds (b.take (k+1))) v = if (rd_Bd b k).f0 = v then some (rd_Bd b k).f1 else none := by
  rw [List.take_succ_eq_append_getElem hk, bds_append, mget_append h, bds_one, rdBd_get b k hk]; rfl
theorem mget_prefix {m n : List (Int × Tm)} {v : Int} {t : Tm} (h : mget m v = some t) : mget (m ++ n) v = some t := by
  induction m with
  | nil => cases h
  | cons p m ih =>
    rw [mget] at h
    rw [List.cons_append, mget]
    by_cases hk : p.1 = v
    · rw [if_pos hk] at h ⊢; exact h
    · rw [if_neg hk] at h ⊢; exact ih h
theorem bds_at {b : List Bd} {k : Nat} {v : Int} (hk : k < b.length) (h : mget (bds (b.take k)) v = none) (hv : (rd_Bd b k).f0 = v) : mget (bds b) v = some (rd_Bd b k).f1 := by
  have h1 := bds_step hk h
  rw [if_pos hv] at h1
  have h2 := mget_prefix (n := bds (b.drop (k+1))) h1
  rwa [← bds_append, List.take_append_drop] at h2
end Go.Proofs.Ytcgnpmjkeifokaa
-- K40
/- slices.EqualFunc over terms by a function that passes a state on; subst.Meet. -/
namespace Go.Proofs.Ytcgnpmjkeifokaa
open Go.RowKit Go.Proofs.YtcgnpmjkeifokaaW.PrintWords
set_option linter.unusedVariables false
set_option linter.unusedSimpArgs false
section
variable {σ : Type}
def goS (f : σ → Tm → Tm → σ × Bool) : σ → List (Tm × Tm) → σ × Bool
  | s, [] => (s, true)
  | s, p :: ps => if (f s p.1 p.2).2 then goS f (f s p.1 p.2).1 ps else ((f s p.1 p.2).1, false)
theorem goS_append (f : σ → Tm → Tm → σ × Bool) (a b : List (Tm × Tm)) : ∀ s, goS f s (a ++ b) = if (goS f s a).2 then goS f (goS f s a).1 b else ((goS f s a).1, false) := by
  induction a with
  | nil => intro s; simp [goS]
  | cons p ps ih =>
    intro s
    simp only [List.cons_append, goS]
    by_cases h : (f s p.1 p.2).2 = true
    · simp only [h, if_true]; exact ih _
    · simp [h]
theorem goS_take_succ (f : σ → Tm → Tm → σ × Bool) (s : σ) (l : List (Tm × Tm)) (k : Nat) (hk : k < l.length) (s1 : σ) (h : goS f s (l.take k) = (s1, true)) : goS f s (l.take (k+1)) = ((f s1 l[k].1 l[k].2).1, (f s1 l[k].1 l[k].2).2) := by
  rw [List.take_succ_eq_append_getElem hk, goS_append, h]
  simp only [if_true, goS]
  by_cases h2 : (f s1 l[k].1 l[k].2).2 = true
  · simp [h2]
  · simp [h2]
theorem goS_bad (f : σ → Tm → Tm → σ × Bool) (s : σ) (l : List (Tm × Tm)) (k : Nat) (s1 : σ) (h : goS f s (l.take k) = (s1, false)) : goS f s l = (s1, false) := by
  have := goS_append f (l.take k) (l.drop k) s
  rw [List.take_append_drop, h] at this
  simpa using this
def eqS (f : σ → Tm → Tm → σ × Bool) (s : σ) (xs ys : List Tm) : σ × Bool := if xs.length = ys.length then goS f s (xs.zip ys) else (s, false)
set_option maxHeartbeats 4000000 in
set_option maxRecDepth 100000 in
theorem equalS (g : Nat) (lb : Array Value) (f : σ → Tm → Tm → σ × Bool) (b : Nat) (St : σ → World → Prop) (hst : ∀ s W W', St s W → Below W.heap.size W W' → St s W') (eg : ∀ args w, (callFunc g args).run Try.prog w = .ok (.enter g args) w)
    (xs ys : List Tm) (A B : Option Addr) (c d : Nat) (okx oky : Nat → Prop) (w : World) (s : σ) (hF : Kd.F kTm w okx A xs.length xs) (hF2 : Kd.F kTm w oky B ys.length ys) (hx : ∀ k, okx k → k ≠ b) (hy : ∀ k, oky k → k ≠ b) (hs0 : St s w)
    (hp : ∀ x, x ∈ xs → ∀ y, y ∈ ys → ∀ (Ax Ay : Option Addr) (cx cy : Nat) (W : World) (s1 : σ), w.grownBy W (some b) → Kd.F kTm W okx Ax x.f2.length x.f2 → x.f2.length ≤ cx → Kd.F kTm W oky Ay y.f2.length y.f2 → y.f2.length ≤ cy → St s1 W →
      Calls Try.prog g (#[.agg #[.int .i64 x.f0, .int .i64 x.f1, .slice Ax x.f2.length cx], .agg #[.int .i64 y.f0, .int .i64 y.f1, .slice Ay y.f2.length cy]] ++ lb) W fun e w' => e = .returned (.bool (f s1 x y).2) ∧ St (f s1 x y).1 w' ∧ W.grownBy w' (some b)) :
    Calls Try.prog 126 #[.slice A xs.length c, .slice B ys.length d, .func (.func g) #[] lb] w fun e w' => e = .returned (.bool (eqS f s xs ys).2) ∧ St (eqS f s xs ys).1 w' ∧ w.grownBy w' (some b) := by
  have hlen := Kd.F_max hF
  have hlen2 := Kd.F_max hF2
  have HF := Aside0.mk hF
  have HF2 := Aside0.mk hF2
  have HP := Aside0.mk hp
  have HX0 := Aside0.mk hx
  have HY0 := Aside0.mk hy
  have HST := Aside0.mk hst
  have HS0 := Aside0.mk hs0
  clear hF hF2 hp hx hy hst hs0
  by_cases hn : xs.length = ys.length
  · have hB := bneF (a := xs.length) (b := ys.length) (by omega)
    have HN := Aside0.mk hn
    have hle : xs.length ≤ ys.length := by omega
    have hB' : (xs.length != ys.length) = false := by simp [hn]
    have HEQ : Aside0 (eqS f s xs ys = goS f s (xs.zip ys)) := ⟨by unfold eqS; rw [if_pos hn]⟩
    have HZL : Aside0 ((xs.zip ys).length = xs.length) := ⟨by simp; omega⟩
    clear hn
    go_enter Try.func126, Try.ntmps126
    go_wp2
    go_loopw [17] (fun i wr => ∃ (k : Nat) (sk : σ), k ≤ xs.length ∧ i = .int .i64 k ∧ Aside0 (goS f s ((xs.zip ys).take k) = (sk, true)) ∧ Aside0 (St sk wr) ∧ Aside0 (w.grownBy wr (some b))) (fun i _ => xs.length - (intOf i).toNat)
    case atStart => exact ⟨0, s, by omega, rfl, ⟨by simp [goS]⟩, HS0, ⟨gbOf (Below.refl _ _) _⟩⟩
    case round =>
      obtain ⟨k, sk, hk, rfl, HG0, HSk, hb⟩ := hrel
      have HFr := Aside0.mk (Kd.F_grown HF.out hb.out (fun q hq e => HX0.out q hq (by injection e)))
      have HFr2 := Aside0.mk (Kd.F_grown HF2.out hb.out (fun q hq e => HY0.out q hq (by injection e)))
      by_cases hlt : k < xs.length
      · have hlt2 : k < ys.length := by omega
        obtain ⟨ad, A2, c2, rfl, E0, E1, E2, hl2, hG, _⟩ := at_TmF HFr.out (k : Int) (by omega) (by omega)
        obtain ⟨bd, B2, d2, rfl, G0, G1, G2, gl2, hG2, _⟩ := at_TmF HFr2.out (k : Int) (by omega) (by omega)
        simp only [Int.toNat_natCast] at E0 E1 E2 G0 G1 G2
        have HZK : Aside0 (goS f s ((xs.zip ys).take (k+1)) = ((f sk (rd_Tm xs k) (rd_Tm ys k)).1, (f sk (rd_Tm xs k) (rd_Tm ys k)).2)) := ⟨by
          have h1 := goS_take_succ f s (xs.zip ys) k (by rw [HZL.out]; exact hlt) sk HG0.out
          have e : (xs.zip ys)[k]'(by rw [HZL.out]; exact hlt) = (rd_Tm xs k, rd_Tm ys k) := by rw [rd_get xs k hlt, rd_get ys k hlt2]; simp
          rw [e] at h1
          exact h1⟩
        have HX := Aside0.mk (HP.out _ (rd_mem xs k hlt) _ (rd_mem ys k hlt2))
        have HG := Aside0.mk hG
        have HG2 := Aside0.mk hG2
        have HC := Aside0.mk hl2
        have HC2 := Aside0.mk gl2
        have HB2 := Aside0.mk (below_alloc (below_alloc (Below.refl wr.heap.size wr) (.cells #[.int .i64 (rd_Tm xs (k : Int)).f0, .int .i64 (rd_Tm xs (k : Int)).f1, .slice A2 (rd_Tm xs (k : Int)).f2.length c2] 46)) (.cells #[.int .i64 (rd_Tm ys (k : Int)).f0, .int .i64 (rd_Tm ys (k : Int)).f1, .slice B2 (rd_Tm ys (k : Int)).f2.length d2] 46))
        have L0 := oldc (below_alloc (Below.refl wr.heap.size wr) (.cells #[.int .i64 (rd_Tm xs (k : Int)).f0, .int .i64 (rd_Tm xs (k : Int)).f1, .slice A2 (rd_Tm xs (k : Int)).f2.length c2] 46)) G0
        have L1 := oldc (below_alloc (Below.refl wr.heap.size wr) (.cells #[.int .i64 (rd_Tm xs (k : Int)).f0, .int .i64 (rd_Tm xs (k : Int)).f1, .slice A2 (rd_Tm xs (k : Int)).f2.length c2] 46)) G1
        have L2 := oldc (below_alloc (Below.refl wr.heap.size wr) (.cells #[.int .i64 (rd_Tm xs (k : Int)).f0, .int .i64 (rd_Tm xs (k : Int)).f1, .slice A2 (rd_Tm xs (k : Int)).f2.length c2] 46)) G2
        clear hG hG2 hl2 gl2
        go_wp2_with (fail)
        refine (HX.out A2 B2 c2 d2 _ sk (gbT hb.out (gbOf HB2.out _) (.inl rfl)) (Kd.F_below HG.out HB2.out) HC.out (Kd.F_below HG2.out HB2.out) HC2.out (HST.out _ _ _ HSk.out HB2.out)).mono ?_
        rintro e w2 ⟨rfl, hS2, hg2⟩
        have HS2 := Aside0.mk hS2
        have HG3 := Aside0.mk (gbT hb.out (gbT (gbOf HB2.out _) hg2 (.inl rfl)) (.inl rfl))
        clear HB2 hg2 hS2
        cases hpx : (f sk (rd_Tm xs (k : Int)) (rd_Tm ys (k : Int))).2 with
        | true =>
          have HR : Aside0 (goS f s ((xs.zip ys).take (k+1)) = ((f sk (rd_Tm xs k) (rd_Tm ys k)).1, true)) := ⟨by rw [HZK.out, hpx]⟩
          clear HX hpx
          go_wp2
          go_roundw
          case rel => exact ⟨k + 1, _, by omega, by go_num, HR, HS2, HG3⟩
          case measure => simp [intOf]; omega
        | false =>
          have HR : Aside0 (eqS f s xs ys = ((f sk (rd_Tm xs k) (rd_Tm ys k)).1, false)) := ⟨by rw [HEQ.out]; exact goS_bad f s _ (k+1) _ (by rw [HZK.out, hpx])⟩
          clear HX hpx
          go_wp2
          go_ret
          exact ⟨by rw [HR.out]; rfl, by rw [HR.out]; exact HS2.out, HG3.out⟩
      · obtain rfl : k = xs.length := by omega
        have HR : Aside0 (eqS f s xs ys = (sk, true)) := ⟨by have h1 := HG0.out; rw [← HZL.out, List.take_length] at h1; rw [HEQ.out, h1]⟩
        clear HG0
        go_wp2
        go_ret
        exact ⟨by rw [HR.out]; rfl, by rw [HR.out]; exact HSk.out, hb.out⟩
  · have hB := bneT (a := xs.length) (b := ys.length) (by omega)
    have hB' : (xs.length != ys.length) = true := by simp [hn]
    have HR : Aside0 (eqS f s xs ys = (s, false)) := ⟨by unfold eqS; rw [if_neg hn]⟩
    clear hn
    go_enter Try.func126, Try.ntmps126
    go_wp2
    go_ret
    exact ⟨by rw [HR.out]; rfl, by rw [HR.out]; exact HS0.out, gbOf (Below.refl _ _) _⟩
end
/-! ### Meet -/
mutual
def growT : List (Int × Tm) → Tm → Tm → List (Int × Tm) × Bool
  | m, ⟨v, f, l⟩, t => if 0 < v then (match mget m v with | some u => (m, eqT u t) | none => (m ++ [(v, t)], true)) else if t.f0 = 0 ∧ f = t.f1 ∧ l.length = t.f2.length then growL m l t.f2 else (m, false)
def growL : List (Int × Tm) → List Tm → List Tm → List (Int × Tm) × Bool
  | m, [], _ => (m, true)
  | m, p :: ps, [] => (m, false)
  | m, p :: ps, t :: ts => if (growT m p t).2 then growL (growT m p t).1 ps ts else ((growT m p t).1, false)
end
theorem growT_eq (m : List (Int × Tm)) (p t : Tm) : growT m p t = if 0 < p.f0 then (match mget m p.f0 with | some u => (m, eqT u t) | none => (m ++ [(p.f0, t)], true)) else if t.f0 = 0 ∧ p.f1 = t.f1 ∧ p.f2.length = t.f2.length then growL m p.f2 t.f2 else (m, false) := by cases p; rw [growT]
theorem growL_go : ∀ (ps ts : List Tm) (m : List (Int × Tm)), ps.length = ts.length → growL m ps ts = goS growT m (ps.zip ts)
  | [], [], m, _ => by rw [growL]; rfl
  | p :: ps, t :: ts, m, h => by
    rw [growL, List.zip_cons_cons, goS]
    simp only
    by_cases h2 : (growT m p t).2 = true
    · simp only [h2, if_true]; exact growL_go ps ts _ (by simpa using h)
    · simp [h2]
  | [], _ :: _, _, h => by simp at h
  | _ :: _, [], _, h => by simp at h
theorem map_cell {W : World} {g e : Nat} {v : Value} (h : W.heap[g]? = some (.cells #[v] e (0, 0))) : W.cell? ⟨g, 0, none⟩ = some v := (blk_cell h 0).trans rfl
set_option maxHeartbeats 4000000 in
set_option maxRecDepth 100000 in
theorem meet_any (m : Nat) : ∀ (p t : Tm) (A B : Option Addr) (c d b : Nat) (okp okt okm : Nat → Prop) (mp : List (Int × Tm)) (w : World), szT p ≤ m → MapT w b okm mp → Kd.F kTm w okp A p.f2.length p.f2 → p.f2.length ≤ c → Kd.F kTm w okt B t.f2.length t.f2 → t.f2.length ≤ d → (∀ k, okp k → k ≠ b) → (∀ k, okt k → okm k) → (∀ k, okm k → k ≠ b) →
    Calls Try.prog 129 #[.map (some b), .agg #[.int .i64 p.f0, .int .i64 p.f1, .slice A p.f2.length c], .agg #[.int .i64 t.f0, .int .i64 t.f1, .slice B t.f2.length d]] w fun e w' => e = .returned (.bool (growT mp p t).2) ∧ MapT w' b okm (growT mp p t).1 ∧ w.grownBy w' (some b) := by
  induction m with
  | zero => intro p t A B c d b okp okt okm mp w h; have := szT_pos p; omega
  | succ n ih =>
  intro p t A B c d b okp okt okm mp w hm hM hF hc hF2 hd hpb htm hmb
  have hlen := Kd.F_max hF
  have hlen2 := Kd.F_max hF2
  have hbw := hM.lt
  have HF := Aside0.mk hF
  have HF2 := Aside0.mk hF2
  have HM := Aside0.mk hM
  have HPB := Aside0.mk hpb
  have HTM := Aside0.mk htm
  have HMB := Aside0.mk hmb
  have HSZ := Aside0.mk hm
  have HS := Aside0.mk (szT_eq p)
  have IH := Aside0.mk ih
  have HE := Aside0.mk (growT_eq mp p t)
  clear hF hF2 hM hpb htm hmb hm ih
  have g0 := blk_alloc (blk_alloc (newAt (w := w) (o := .cells #[.map (some b)] 121) rfl) (.cells #[.int .i64 p.f0, .int .i64 p.f1, .slice A p.f2.length c] 46)) (.cells #[.int .i64 t.f0, .int .i64 t.f1, .slice B t.f2.length d] 46)
  have g1 := blk_alloc (newAt (w := w.alloc (.cells #[.map (some b)] 121)) (o := .cells #[.int .i64 p.f0, .int .i64 p.f1, .slice A p.f2.length c] 46) (k := w.heap.size + 1) (by simp)) (.cells #[.int .i64 t.f0, .int .i64 t.f1, .slice B t.f2.length d] 46)
  have g2 := newAt (w := (w.alloc (.cells #[.map (some b)] 121)).alloc (.cells #[.int .i64 p.f0, .int .i64 p.f1, .slice A p.f2.length c] 46)) (o := .cells #[.int .i64 t.f0, .int .i64 t.f1, .slice B t.f2.length d] 46) (k := w.heap.size + 2) (by simp)
  have HB := Aside0.mk (below_alloc (below_alloc (below_alloc (Below.refl w.heap.size w) (.cells #[.map (some b)] 121)) (.cells #[.int .i64 p.f0, .int .i64 p.f1, .slice A p.f2.length c] 46)) (.cells #[.int .i64 t.f0, .int .i64 t.f1, .slice B t.f2.length d] 46))
  go_enter Try.func129, Try.ntmps129
  go_upto_region 1 with (fail)
  generalize ((w.alloc (.cells #[.map (some b)] 121)).alloc (.cells #[.int .i64 p.f0, .int .i64 p.f1, .slice A p.f2.length c] 46)).alloc (.cells #[.int .i64 t.f0, .int .i64 t.f1, .slice B t.f2.length d] 46) = W at *
  have GM := Aside0.mk g0
  have GP := Aside0.mk g1
  have GT := Aside0.mk g2
  have hlM := blk_lt g0
  have hlT := blk_lt g2
  clear g0 g1 g2
  have m0 := map_cell GM.out
  obtain ⟨p0, p1, p2⟩ := tm_cells GP.out
  obtain ⟨t0, t1, t2⟩ := tm_cells GT.out
  have HMW := Aside0.mk (MapT.below HM.out HB.out)
  have HFW := Aside0.mk (Kd.F_below HF.out HB.out)
  have HFW2 := Aside0.mk (Kd.F_below HF2.out HB.out)
  by_cases hv : 0 < p.f0
  · go_upto_region 3 with (first | (at_lookup; refine wp_lookT rfl _ _ rfl rfl HMW.out p.f0 rfl ?_; intro A3 c3 h3 hF3; have HF3 := Aside0.mk hF3; clear hF3) | (((with_reducible refine gate_store (t := 46) (p := 7) rfl ?_); refine st_tm 7 rfl rfl rfl rfl rfl (heap_alloc_new _ _) ?_); intro w3 hs3 hG3 hz3; have HU := Aside0.mk hs3; have HB3 := Aside0.mk (gbS (below_alloc (Below.refl W.heap.size W) _) hG3 (Nat.le_refl _)); clear hs3 hG3 hz3))
    have HM3 := Aside0.mk (MapT.below HMW.out HB3.out)
    have HB03 := Aside0.mk (hbT HB.out HB3.out)
    have m3 := map_cell ((HB3.out.block _ (blk_lt GM.out)).trans GM.out)
    obtain ⟨q0, q1, q2⟩ := tm_cells ((HB3.out.block _ (blk_lt GP.out)).trans GP.out)
    obtain ⟨s0, s1, s2⟩ := tm_cells ((HB3.out.block _ (blk_lt GT.out)).trans GT.out)
    clear m0 p0 p1 p2 t0 t1 t2
    cases hg : mget mp p.f0 with
    | none =>
      have hh : mhas mp p.f0 = false := by unfold mhas; rw [hg]; rfl
      have HR : Aside0 (growT mp p t = (mset mp p.f0 t, true)) := ⟨by rw [HE.out, if_pos hv, hg, mset_new hg]⟩
      simp only [hh]
      clear hg hh
      go_wp2_with (at_mapUpdate; refine wp_updT rfl _ _ _ rfl rfl HM3.out p.f0 rfl t B d rfl hd (Kd.F_mono (Kd.F_below HFW2.out HB3.out) HTM.out) HMB.out ?_; intro w5 hM5 hG5; have HM5 := Aside0.mk hM5; have HG5 := Aside0.mk hG5; clear hM5 hG5 m3 q0 q1 q2 s0 s1 s2)
      go_ret
      exact ⟨by rw [HR.out]; rfl, by rw [HR.out]; exact HM5.out, gbT (gbOf HB03.out _) HG5.out (.inl rfl)⟩
    | some u =>
      have hh : mhas mp p.f0 = true := by unfold mhas; rw [hg]; rfl
      have HU2 : Aside0 (mgetT mp p.f0 = u) := ⟨by unfold mgetT; rw [hg]; rfl⟩
      have HR : Aside0 (growT mp p t = (mp, eqT u t)) := ⟨by rw [HE.out, if_pos hv, hg]⟩
      simp only [hh]
      clear hg hh
      rw [HU2.out] at h3 HF3
      have HU3 := HU.out
      rw [HU2.out] at HU3
      obtain ⟨u0, u1, u2⟩ := tm_cells HU3
      simp only [HU2.out]
      clear HU3
      go_wp2_with (go_at_call 94; refine (same_any (szT u) u t A3 B c3 d _ _ w3 (Nat.le_refl _) (Kd.F_below HF3.out HB3.out) h3 (Kd.F_below HFW2.out HB3.out) hd).mono ?_; rintro e w5 ⟨rfl, hb5⟩; have HB5 := Aside0.mk hb5; clear hb5 m3 q0 q1 q2 s0 s1 s2 u0 u1 u2)
      go_ret
      exact ⟨by rw [HR.out]; rfl, by rw [HR.out]; exact MapT.below HM3.out HB5.out, gbOf (hbT HB03.out HB5.out) _⟩
  · have HE2 : Aside0 (growT mp p t = if t.f0 = 0 ∧ p.f1 = t.f1 ∧ p.f2.length = t.f2.length then growL mp p.f2 t.f2 else (mp, false)) := ⟨by rw [HE.out, if_neg hv]⟩
    by_cases h1 : t.f0 = 0
    · have h1b := beqT h1
      by_cases h2 : p.f1 = t.f1
      · have h2b := beqT h2
        have HR : Aside0 (eqS growT mp p.f2 t.f2 = growT mp p t) := ⟨by
          rw [HE2.out]; unfold eqS
          by_cases h3 : p.f2.length = t.f2.length
          · rw [if_pos h3, if_pos ⟨h1, h2, h3⟩, growL_go _ _ _ h3]
          · rw [if_neg h3, if_neg (fun h => h3 h.2.2)]⟩
        have HMB2 : Aside0 (∀ k, okt k → k ≠ b) := ⟨fun k hk => HMB.out k (HTM.out k hk)⟩
        have hEq := equalS 149 #[.pointer (some ⟨w.heap.size, 0, none⟩)] growT b (fun m1 W' => MapT W' b okm m1 ∧ W'.heap[w.heap.size]? = some (.cells #[.map (some b)] 121 (0, 0))) (fun s W1 W2 h hb => ⟨h.1.below hb, (hb.block _ (blk_lt h.2)).trans h.2⟩) (enters_of Try.func149 (by kernel_rfl) rfl) p.f2 t.f2 A B c d okp okt W mp HFW.out HFW2.out HPB.out HMB2.out ⟨HMW.out, GM.out⟩ (fun x hx y hy Ax Ay cx cy W1 s1 hg1 hFx hcx hFy hcy hS1 => by
          obtain ⟨hM1, hC1⟩ := hS1
          have hxs : szT x ≤ n := by have := szT_mem hx; have := HS.out; have := HSZ.out; omega
          have I := Aside0.mk (IH.out x y Ax Ay cx cy b okp okt okm s1)
          have HFx := Aside0.mk hFx
          have HFy := Aside0.mk hFy
          have HM1 := Aside0.mk hM1
          clear hFx hFy hM1 hg1 hx hy m0 p0 p1 p2 t0 t1 t2
          have a0 := blk_alloc (newAt (w := W1) (o := .cells #[.int .i64 x.f0, .int .i64 x.f1, .slice Ax x.f2.length cx] 46) rfl) (.cells #[.int .i64 y.f0, .int .i64 y.f1, .slice Ay y.f2.length cy] 46)
          have a1 := newAt (w := W1.alloc (.cells #[.int .i64 x.f0, .int .i64 x.f1, .slice Ax x.f2.length cx] 46)) (o := .cells #[.int .i64 y.f0, .int .i64 y.f1, .slice Ay y.f2.length cy] 46) (k := W1.heap.size + 1) (by simp)
          have a2 := blk_alloc (blk_alloc hC1 (.cells #[.int .i64 x.f0, .int .i64 x.f1, .slice Ax x.f2.length cx] 46)) (.cells #[.int .i64 y.f0, .int .i64 y.f1, .slice Ay y.f2.length cy] 46)
          have HBx := Aside0.mk (below_alloc (below_alloc (Below.refl W1.heap.size W1) (.cells #[.int .i64 x.f0, .int .i64 x.f1, .slice Ax x.f2.length cx] 46)) (.cells #[.int .i64 y.f0, .int .i64 y.f1, .slice Ay y.f2.length cy] 46))
          clear hC1
          show Calls Try.prog 149 #[.agg #[.int .i64 x.f0, .int .i64 x.f1, .slice Ax x.f2.length cx], .agg #[.int .i64 y.f0, .int .i64 y.f1, .slice Ay y.f2.length cy], .pointer (some ⟨w.heap.size, 0, none⟩)] W1 _
          go_enter Try.func149, Try.ntmps149
          go_upto_region 1 with (fail)
          generalize (W1.alloc (.cells #[.int .i64 x.f0, .int .i64 x.f1, .slice Ax x.f2.length cx] 46)).alloc (.cells #[.int .i64 y.f0, .int .i64 y.f1, .slice Ay y.f2.length cy] 46) = W2 at *
          have m0 := map_cell a2
          obtain ⟨p0, p1, p2⟩ := tm_cells a0
          obtain ⟨t0, t1, t2⟩ := tm_cells a1
          have HA2 := Aside0.mk a2
          clear a0 a1 a2
          go_wp2_with (go_at_call 129; refine (I.out W2 hxs (MapT.below HM1.out HBx.out) (Kd.F_below HFx.out HBx.out) hcx (Kd.F_below HFy.out HBx.out) hcy HPB.out HTM.out HMB.out).mono ?_; rintro e w5 ⟨rfl, hM5, hG5⟩; have HM5 := Aside0.mk hM5; have HG5 := Aside0.mk hG5; clear hM5 hG5 m0 p0 p1 p2 t0 t1 t2)
          go_ret
          exact ⟨rfl, ⟨HM5.out, (HG5.out.block _ (blk_lt HA2.out) (fun e => by injection e with e; omega)).trans HA2.out⟩, gbT (gbOf HBx.out _) HG5.out (.inl rfl)⟩)
        rw [HR.out] at hEq
        have HEqq := Aside0.mk hEq
        clear hEq h1 h2
        go_wp2_with (go_at_call 126; refine HEqq.out.mono ?_; rintro e w5 ⟨rfl, hS5, hG5⟩; have HS5 := Aside0.mk hS5; have HG5 := Aside0.mk hG5; clear hS5 hG5 m0 p0 p1 p2 t0 t1 t2)
        go_ret
        exact ⟨rfl, HS5.out.1, gbT (gbOf HB.out _) HG5.out (.inl rfl)⟩
      · have h2b := beqF h2
        have HR : Aside0 (growT mp p t = (mp, false)) := ⟨by rw [HE2.out, if_neg (fun h => h2 h.2.1)]⟩
        clear h1 h2
        go_wp2
        go_ret
        exact ⟨by rw [HR.out]; rfl, by rw [HR.out]; exact HMW.out, gbOf HB.out _⟩
    · have h1b := beqF h1
      have HR : Aside0 (growT mp p t = (mp, false)) := ⟨by rw [HE2.out, if_neg (fun h => h1 h.1)]⟩
      clear h1
      go_wp2
      go_ret
      exact ⟨by rw [HR.out]; rfl, by rw [HR.out]; exact HMW.out, gbOf HB.out _⟩
end Go.Proofs.Ytcgnpmjkeifokaa
-- K41
/- maps.Clone of a map of terms. -/
namespace Go.Proofs.Ytcgnpmjkeifokaa
open Go.RowKit Go.Proofs.YtcgnpmjkeifokaaW.PrintWords
set_option linter.unusedVariables false
set_option linter.unusedSimpArgs false
theorem MapT.cloned {w : World} {b : Nat} {ok : Nat → Prop} {m : List (Int × Tm)} {es : Array MapEntry} {clock : Nat} (hb : w.heap[b]? = some (.map es clock)) (h : MapT w b ok m) : MapT (w.alloc (.map es clock)) w.heap.size ok m := by
  obtain ⟨es2, clock2, hb2, hE⟩ := h
  rw [hb] at hb2
  injection hb2 with hb2
  injection hb2 with h1 h2
  subst h1 h2
  have hB : Below w.heap.size w (w.alloc (.map es clock)) := below_alloc (Below.refl _ _) _
  exact ⟨es, clock, heap_alloc_new _ _, Ents.imp (fun x v hv => vrT.step hv (fun k _ hlt => hB.block k hlt)) hE⟩
set_option maxHeartbeats 4000000 in
set_option maxRecDepth 100000 in
theorem clone_run (es : Array MapEntry) (clock : Nat) (b : Nat) (w : World) (hb : w.heap[b]? = some (.map es clock)) :
    Calls Try.prog 128 #[.map (some b)] w fun e w' => e = .returned (.map (some w.heap.size)) ∧ w' = w.alloc (.map es clock) := by
  have hq := fun w => run_eql_map_nil_sl (P := Try.prog) w 121 _ _ (some b) Try.underlying121
  go_enter Try.func128, Try.ntmps128
  go_wp2
  rw [run_callFunc_extern Try.func148 (by kernel_rfl) (by kernel_rfl) (by kernel_rfl) (e := Extern.MapsClone.clone) (by kernel_rfl), run_maps_clone_sl w 121 hb]
  simp only [Result.andThen]
  rw [Oper.upon_value]
  go_wp2
  rw [run_typeAssert_map_sl _ 121 _ _ _ _ Try.underlying121]
  simp only [Result.andThen]
  rw [Oper.upon_value]
  go_wp2
  go_ret
  exact ⟨rfl, rfl⟩
theorem clone_any (b : Nat) (ok : Nat → Prop) (m : List (Int × Tm)) (w : World) (hM : MapT w b ok m) :
    Calls Try.prog 128 #[.map (some b)] w fun e w' => e = .returned (.map (some w.heap.size)) ∧ MapT w' w.heap.size ok m ∧ Below w.heap.size w w' ∧ w'.heap.size = w.heap.size + 1 := by
  have hM2 := hM
  obtain ⟨es, clock, hb, hE⟩ := hM
  exact (clone_run es clock b w hb).mono fun e w' ⟨he, hw⟩ => by
    subst hw
    exact ⟨he, MapT.cloned hb hM2, below_alloc (Below.refl _ _) _, by simp⟩
end Go.Proofs.Ytcgnpmjkeifokaa
-- K42
/- clause.covers, Covers. -/
namespace Go.Proofs.Ytcgnpmjkeifokaa
open Go.RowKit Go.Proofs.YtcgnpmjkeifokaaW.PrintWords
set_option linter.unusedVariables false
set_option linter.unusedSimpArgs false
def covQ (m : List (Int × Tm)) (l y : Li) (R : List (Int × Tm) → Bool) : Bool := (growT m l.f1 y.f1).2 && ((growT (growT m l.f1 y.f1).1 l.f2 y.f2).2 && R (growT (growT m l.f1 y.f1).1 l.f2 y.f2).1)
def covB : List Li → List Li → List (Int × Tm) → Bool
  | [], _, _ => true
  | l :: ls, d, m => d.any fun x => x.f0 == l.f0 && [x, turnL x].any fun y => covQ m l y (covB ls d)
set_option maxHeartbeats 4000000 in
set_option maxRecDepth 100000 in
theorem covers_any : ∀ (cl d : List Li) (Ac Ad : Option Addr) (cc cd b : Nat) (okc okd okm : Nat → Prop) (m : List (Int × Tm)) (w : World), MapT w b okm m → Kd.F kLi w okc Ac cl.length cl → cl.length ≤ cc → Kd.F kLi w okd Ad d.length d → (∀ k, okd k → okm k) →
    Calls Try.prog 102 #[.map (some b), .slice Ac cl.length cc, .slice Ad d.length cd] w fun e w' => e = .returned (.bool (covB cl d m)) ∧ Below w.heap.size w w' := by
  intro cl
  induction cl with
  | nil =>
    intro d Ac Ad cc cd b okc okd okm m w hM hF hc hF2 hdm
    clear hM hF hF2 hdm
    simp only [List.length_nil]
    go_enter Try.func102, Try.ntmps102
    go_wp2
    go_ret
    exact ⟨rfl, Below.refl _ _⟩
  | cons l ls ih =>
    intro d Ac Ad cc cd b okc okd okm m w hM hF hc hF2 hdm
    have hlen := Kd.F_max hF
    have hlen2 := Kd.F_max hF2
    have hbw := hM.lt
    obtain ⟨ac, A3, c3, A6, c6, rfl, E0, E1, E2, E3, E4, E5, E6, hLF, _⟩ := at_Lit hF 0 (by simp)
    have e0 : w.cell? ac = some (.bool l.f0) := E0
    have e1 : w.cell? ⟨ac.block, ac.off + 1, none⟩ = some (.int .i64 l.f1.f0) := E1
    have e2 : w.cell? ⟨ac.block, ac.off + 2, none⟩ = some (.int .i64 l.f1.f1) := E2
    have e3 : w.cell? ⟨ac.block, ac.off + 3, none⟩ = some (.slice A3 l.f1.f2.length c3) := E3
    have e4 : w.cell? ⟨ac.block, ac.off + 4, none⟩ = some (.int .i64 l.f2.f0) := E4
    have e5 : w.cell? ⟨ac.block, ac.off + 5, none⟩ = some (.int .i64 l.f2.f1) := E5
    have e6 : w.cell? ⟨ac.block, ac.off + 6, none⟩ = some (.slice A6 l.f2.f2.length c6) := E6
    have hLF2 : LiF w okc l A3 c3 A6 c6 := hLF
    have HL := Aside0.mk hLF2.bound
    have HFD := Aside0.mk (Kd.F_bound hF2)
    have HFC := Aside0.mk (Kd.F_bound (dropLi hF hc))
    have HM := Aside0.mk (MapT.bound hM)
    have HM0 := Aside0.mk hM
    have HDM : Aside0 (∀ k, (okd k ∧ k < w.heap.size) → (okm k ∧ k < w.heap.size)) := ⟨fun k hk => ⟨hdm k hk.1, hk.2⟩⟩
    have IH := Aside0.mk ih
    have HCC := Aside0.mk hc
    have HE : Aside0 (covB (l :: ls) d m = d.any fun x => x.f0 == l.f0 && [x, turnL x].any fun y => covQ m l y (covB ls d)) := ⟨rfl⟩
    clear hM hF hF2 hdm E0 E1 E2 E3 E4 E5 E6 hLF hLF2 ih
    simp only [List.length_cons] at *
    have h01 : ((ls.length + 1 : Nat) == 0) = false := by simp
    have h02 : (((ls.length + 1 : Nat) : Int) == 0) = false := beqF (by omega)
    have h03 : ((ls.length : Int) + 1 == 0) = false := beqF (by omega)
    have h04 : (0 : Int) < (ls.length : Int) + 1 := by omega
    have h05 : (1 : Int) ≤ (ls.length : Int) + 1 := by omega
    have h06 : (ls.length : Int) + 1 ≤ cc := by omega
    have h07 : (1 : Int) ≤ cc := by omega
    have h08 : (0 : Int) < ((ls.length + 1 : Nat) : Int) := by omega
    obtain ⟨Ac2, hAc2⟩ : ∃ Ac2, (if cc = 1 then some ac else some { block := ac.block, off := ac.off + 7 : Addr }) = Ac2 := ⟨_, rfl⟩
    rw [hAc2] at HFC
    go_enter Try.func102, Try.ntmps102
    go_upto_region 4 with (((with_reducible refine gate_store (t := 84) (p := 7) rfl ?_); refine st_li 7 rfl rfl rfl rfl rfl (heap_alloc_new _ _) ?_); intro w1 hs1 hG1 hz1; have HL1 := Aside0.mk hs1; have HB1 := Aside0.mk (gbS (below_alloc (Below.refl w.heap.size w) _) hG1 (Nat.le_refl _)); clear hs1 hG1 hz1 e0 e1 e2 e3 e4 e5 e6)
    generalize hP1 : (fun x : Li => x.f0 == l.f0 && [x, turnL x].any fun y => covQ m l y (covB ls d)) = P1 at *
    have HP1 := Aside0.mk hP1
    clear hP1
    go_wp2
    go_loopw [21] (fun i wr => ∃ k : Nat, k ≤ d.length ∧ i = .int .i64 k ∧ Aside0 ((d.take k).any P1 = false) ∧ Aside0 (Below w1.heap.size w1 wr)) (fun i _ => d.length - (intOf i).toNat)
    case atStart => exact ⟨0, by omega, rfl, ⟨rfl⟩, ⟨Below.refl _ _⟩⟩
    case round =>
      obtain ⟨k, hk, rfl, HA, HBo⟩ := hrel
      rename World => wo
      have HBw := Aside0.mk (hbT HB1.out HBo.out)
      by_cases hlt : k < d.length
      · obtain ⟨ad, B3, d3, B6, d6, rfl, E0, E1, E2, E3, E4, E5, E6, hX, _⟩ := at_Lit (Kd.F_below HFD.out HBw.out) k hlt
        have HX := Aside0.mk hX
        have H1 := Aside0.mk (anyL_take (p := P1) hlt HA.out)
        have H2 := Aside0.mk (anyL_at (p := P1) hlt)
        rw [← rdLi_get d k hlt] at H1 H2
        clear hX
        generalize rd_Li d k = x at *
        go_upto_region 7 with (((with_reducible refine gate_store (t := 84) (p := 9) rfl ?_); refine st_li 9 rfl rfl rfl rfl rfl (heap_alloc_new _ _) ?_); intro w3 hs3 hG3 hz3; have HX3 := Aside0.mk hs3; have HB3 := Aside0.mk (gbS (below_alloc (Below.refl wo.heap.size wo) _) hG3 (Nat.le_refl _)); clear hs3 hG3 hz3 E0 E1 E2 E3 E4 E5 E6)
        have HB13 := Aside0.mk (hbT HBo.out HB3.out)
        have HBw3 := Aside0.mk (hbT HB1.out HB13.out)
        obtain ⟨x0, x1, x2, x3, x4, x5, x6⟩ := li_cells HX3.out
        obtain ⟨l0, l1, l2, l3, l4, l5, l6⟩ := li_cells ((HB13.out.block _ (blk_lt HL1.out)).trans HL1.out)
        have HXw3 := Aside0.mk (HX.out.below HB3.out)
        have hP1x : P1 x = (x.f0 == l.f0 && [x, turnL x].any fun y => covQ m l y (covB ls d)) := by rw [← HP1.out]
        have HPX := Aside0.mk hP1x
        clear hP1x
        by_cases hq : x.f0 = l.f0
        · have hq1 : (x.f0 == l.f0) = true := by simp [hq]
          have HQ := Aside0.mk hq
          have HBL := Aside0.mk (heap_alloc_new w3 (.cells #[.bool x.f0, .int .i64 x.f1.f0, .int .i64 x.f1.f1, .slice B3 x.f1.f2.length d3, .int .i64 x.f2.f0, .int .i64 x.f2.f1, .slice B6 x.f2.f2.length d6, .bool x.f0, .int .i64 x.f2.f0, .int .i64 x.f2.f1, .slice B6 x.f2.f2.length d6, .int .i64 x.f1.f0, .int .i64 x.f1.f1, .slice B3 x.f1.f2.length d3] 84))
          have HB34 := Aside0.mk (below_alloc (Below.refl w3.heap.size w3) (.cells #[.bool x.f0, .int .i64 x.f1.f0, .int .i64 x.f1.f1, .slice B3 x.f1.f2.length d3, .int .i64 x.f2.f0, .int .i64 x.f2.f1, .slice B6 x.f2.f2.length d6, .bool x.f0, .int .i64 x.f2.f0, .int .i64 x.f2.f1, .slice B6 x.f2.f2.length d6, .int .i64 x.f1.f0, .int .i64 x.f1.f1, .slice B3 x.f1.f2.length d3] 84))
          clear hq
          have HF2L := Aside0.mk (F_li2 (x := x) (y := turnL x) HBL.out ((HXw3.out.below HB34.out)) ((HXw3.out.below HB34.out).turn))
          have hz34 : (w3.alloc (.cells #[.bool x.f0, .int .i64 x.f1.f0, .int .i64 x.f1.f1, .slice B3 x.f1.f2.length d3, .int .i64 x.f2.f0, .int .i64 x.f2.f1, .slice B6 x.f2.f2.length d6, .bool x.f0, .int .i64 x.f2.f0, .int .i64 x.f2.f1, .slice B6 x.f2.f2.length d6, .int .i64 x.f1.f0, .int .i64 x.f1.f1, .slice B3 x.f1.f2.length d3] 84)).heap.size = w3.heap.size + 1 := by simp
          have HZ34 := Aside0.mk hz34
          clear hz34
          have HB14 := Aside0.mk (hbT HB13.out HB34.out)
          generalize hQQ : (fun y => covQ m l y (covB ls d)) = QQ at *
          have HQQ := Aside0.mk hQQ
          clear hQQ
          go_wp2
          generalize w3.alloc (.cells #[.bool x.f0, .int .i64 x.f1.f0, .int .i64 x.f1.f1, .slice B3 x.f1.f2.length d3, .int .i64 x.f2.f0, .int .i64 x.f2.f1, .slice B6 x.f2.f2.length d6, .bool x.f0, .int .i64 x.f2.f0, .int .i64 x.f2.f1, .slice B6 x.f2.f2.length d6, .int .i64 x.f1.f0, .int .i64 x.f1.f1, .slice B3 x.f1.f2.length d3] 84) = w4 at *
          clear x0 x1 x2 x3 x4 x5 x6 l0 l1 l2 l3 l4 l5 l6
          go_loopw [40] (fun i wr => ∃ k2 : Nat, k2 ≤ 2 ∧ i = .int .i64 k2 ∧ Aside0 (([x, turnL x].take k2).any QQ = false) ∧ Aside0 (Below w4.heap.size w4 wr)) (fun i _ => 2 - (intOf i).toNat)
          case atStart => exact ⟨0, by omega, rfl, ⟨rfl⟩, ⟨Below.refl _ _⟩⟩
          case round =>
            obtain ⟨k2, hk2, rfl, HA2, HB4r⟩ := hrel
            have HB1r := Aside0.mk (hbT HB14.out HB4r.out)
            have HBwr := Aside0.mk (hbT HB1.out HB1r.out)
            have hzwr := HBwr.out.size
            by_cases hlt2 : k2 < 2
            · obtain ⟨ad2, Y3, e3, Y6, e6, hA2, E0, E1, E2, E3, E4, E5, E6, hY, _⟩ := at_Lit (Kd.F_below HF2L.out HB4r.out) k2 hlt2
              injection hA2 with hA2
              subst hA2
              have hl2 : k2 < [x, turnL x].length := hlt2
              have G1 := Aside0.mk (anyL_take (p := QQ) hl2 HA2.out)
              have G2 := Aside0.mk (anyL_at (p := QQ) hl2)
              rw [← rdLi_get [x, turnL x] k2 hl2] at G1 G2
              simp only [addZ, Nat.zero_add] at E0 E1 E2 E3 E4 E5 E6
              have HY := Aside0.mk hY
              have hzb : w3.heap.size < wr.heap.size := by have h1 := HB4r.out.size; have h2 := HZ34.out; omega
              have HZB := Aside0.mk hzb
              clear hY hzb
              generalize rd_Li [x, turnL x] k2 = y at *
              have hQy : QQ y = covQ m l y (covB ls d) := by rw [← HQQ.out]
              have HQy := Aside0.mk hQy
              clear hQy
              have hk2i : (k2 : Int) < 2 := by omega
              go_upto_region 12 with (first | (((with_reducible refine gate_store (t := 84) (p := 11) rfl ?_); refine st_li 11 rfl rfl rfl rfl rfl (heap_alloc_new _ _) ?_); intro w6 hs6 hG6 hz6; have HY6 := Aside0.mk hs6; have HB6 := Aside0.mk (gbS (below_alloc (Below.refl wr.heap.size wr) _) hG6 (Nat.le_refl _)); clear hs6 hG6 hz6 E0 E1 E2 E3 E4 E5 E6) | (go_at_call 128; refine (clone_any b _ m w6 (MapT.below HM.out (hbT HBwr.out HB6.out))).mono ?_; rintro e w7 ⟨rfl, hM7, hB7, hz7⟩; have HM7 := Aside0.mk hM7; have HB7 := Aside0.mk hB7; have HZ7 := Aside0.mk hz7; clear hM7 hB7 hz7))
              have hz6 := HB6.out.size
              have HBr7 := Aside0.mk (hbT HB6.out HB7.out)
              have HB17 := Aside0.mk (hbT HB1r.out HBr7.out)
              have HBw7 := Aside0.mk (hbT HB1.out HB17.out)
              have HY7 := Aside0.mk (HY.out.below HBr7.out)
              have HL7 := Aside0.mk (HL.out.below HBw7.out)
              have HMX := Aside0.mk (MapT.mono HM7.out (ok' := fun k => (okm k ∧ k < w.heap.size) ∨ k = w3.heap.size) (fun k hk => .inl hk))
              have HPB : Aside0 (∀ k, (okc k ∧ k < w.heap.size) → k ≠ w6.heap.size) := ⟨fun k hk => by have := hk.2; omega⟩
              have HTM : Aside0 (∀ k, ((okd k ∧ k < w.heap.size) ∨ k = w3.heap.size) → ((okm k ∧ k < w.heap.size) ∨ k = w3.heap.size)) := ⟨fun k hk => hk.imp (fun h => HDM.out k h) id⟩
              have HMB : Aside0 (∀ k, ((okm k ∧ k < w.heap.size) ∨ k = w3.heap.size) → k ≠ w6.heap.size) := ⟨fun k hk => by have := HZB.out; rcases hk with hk | hk; have := hk.2; omega; omega⟩
              obtain ⟨l0, l1, l2, l3, l4, l5, l6⟩ := li_cells ((HB17.out.block _ (blk_lt HL1.out)).trans HL1.out)
              obtain ⟨y0, y1, y2, y3, y4, y5, y6⟩ := li_cells ((HB7.out.block _ (blk_lt HY6.out)).trans HY6.out)
              have HQy2 : Aside0 (QQ y = ((growT m l.f1 y.f1).2 && ((growT (growT m l.f1 y.f1).1 l.f2 y.f2).2 && covB ls d (growT (growT m l.f1 y.f1).1 l.f2 y.f2).1))) := ⟨HQy.out⟩
              have CALL1 := Aside0.mk (meet_any (szT l.f1) l.f1 y.f1 A3 Y3 c3 e3 w6.heap.size (fun k => okc k ∧ k < w.heap.size) (fun k => (okd k ∧ k < w.heap.size) ∨ k = w3.heap.size) (fun k => (okm k ∧ k < w.heap.size) ∨ k = w3.heap.size) m w7 (Nat.le_refl _) HMX.out HL7.out.F3 HL7.out.l3 HY7.out.F3 HY7.out.l3 HPB.out HTM.out HMB.out)
              generalize growT m l.f1 y.f1 = r1 at *
              obtain ⟨m1, b1⟩ := r1
              simp only at HQy2 CALL1
              have HLb := Aside0.mk ((HB17.out.block _ (blk_lt HL1.out)).trans HL1.out)
              have HYb := Aside0.mk ((HB7.out.block _ (blk_lt HY6.out)).trans HY6.out)
              have hl1b : w.heap.size < w6.heap.size := by have h1 := blk_lt HL1.out; have h2 := HB1r.out.size; omega
              have hy6b : wr.heap.size < w6.heap.size := by have h1 := blk_lt HY6.out; omega
              go_wp2_with (fail)
              refine CALL1.out.mono ?_
              rintro e w8 ⟨rfl, hM8, hG8⟩
              have HM8 := Aside0.mk hM8
              have HG8 := Aside0.mk hG8
              clear hM8 hG8 CALL1 l0 l1 l2 l3 l4 l5 l6 y0 y1 y2 y3 y4 y5 y6
              have HB18 := Aside0.mk (gbS HB17.out HG8.out (by have := HB1r.out.size; omega))
              have HBr8 := Aside0.mk (gbS HBr7.out HG8.out (by omega))
              cases b1 with
              | false =>
                have HR : Aside0 (([x, turnL x].take (k2+1)).any QQ = false) := ⟨by rw [G1.out, HQy2.out]; rfl⟩
                go_wp2
                go_roundw
                case rel => exact ⟨k2 + 1, by omega, by go_num, HR, ⟨hbT HB4r.out HBr8.out⟩⟩
                case measure => simp [intOf]; omega
              | true =>
                obtain ⟨l0, l1, l2, l3, l4, l5, l6⟩ := li_cells ((HG8.out.block _ (by have h1 := blk_lt HLb.out; omega) (fun e => by injection e with e; omega)).trans HLb.out)
                obtain ⟨y0, y1, y2, y3, y4, y5, y6⟩ := li_cells ((HG8.out.block _ (by have h1 := blk_lt HYb.out; omega) (fun e => by injection e with e; omega)).trans HYb.out)
                have HLb8 := Aside0.mk ((HG8.out.block _ (by have h1 := blk_lt HLb.out; omega) (fun e => by injection e with e; omega)).trans HLb.out)
                have HL8 := Aside0.mk (HL7.out.grown HG8.out HPB.out)
                have HY8 := Aside0.mk (HY7.out.grown HG8.out (fun k hk => HMB.out k (HTM.out k hk)))
                have CALL2 := Aside0.mk (meet_any (szT l.f2) l.f2 y.f2 A6 Y6 c6 e6 w6.heap.size (fun k => okc k ∧ k < w.heap.size) (fun k => (okd k ∧ k < w.heap.size) ∨ k = w3.heap.size) (fun k => (okm k ∧ k < w.heap.size) ∨ k = w3.heap.size) m1 w8 (Nat.le_refl _) HM8.out HL8.out.F6 HL8.out.l6 HY8.out.F6 HY8.out.l6 HPB.out HTM.out HMB.out)
                have HQy3 : Aside0 (QQ y = ((growT m1 l.f2 y.f2).2 && covB ls d (growT m1 l.f2 y.f2).1)) := ⟨by rw [HQy2.out, Bool.true_and]⟩
                clear HQy2
                generalize growT m1 l.f2 y.f2 = r2 at *
                obtain ⟨m2, b2⟩ := r2
                simp only at HQy3 CALL2
                go_wp2_with (fail)
                refine CALL2.out.mono ?_
                rintro e w9 ⟨rfl, hM9, hG9⟩
                have HM9 := Aside0.mk hM9
                have HG9 := Aside0.mk hG9
                clear hM9 hG9 CALL2 l0 l1 l2 l3 l4 l5 l6 y0 y1 y2 y3 y4 y5 y6
                have HB19 := Aside0.mk (gbS HB18.out HG9.out (by have := HB1r.out.size; omega))
                have HBr9 := Aside0.mk (gbS HBr8.out HG9.out (by omega))
                have HBw9 := Aside0.mk (hbT HB1.out HB19.out)
                cases b2 with
                | false =>
                  have HR : Aside0 (([x, turnL x].take (k2+1)).any QQ = false) := ⟨by rw [G1.out, HQy3.out]; rfl⟩
                  go_wp2
                  go_roundw
                  case rel => exact ⟨k2 + 1, by omega, by go_num, HR, ⟨hbT HB4r.out HBr9.out⟩⟩
                  case measure => simp [intOf]; omega
                | true =>
                  have HQy4 : Aside0 (QQ y = covB ls d m2) := ⟨by rw [HQy3.out, Bool.true_and]⟩
                  have HF9 := Aside0.mk (Kd.F_below HFC.out HBw9.out)
                  have C3 : Aside0 (∀ A' c', Kd.F kLi w9 (fun k => okc k ∧ k < w.heap.size) A' ls.length ls → ls.length ≤ c' → Calls Try.prog 102 #[.map (some w6.heap.size), .slice A' ls.length c', .slice (some ad) d.length cd] w9 fun e w' => e = .returned (.bool (covB ls d m2)) ∧ Below w9.heap.size w9 w') := ⟨fun A' c' hA hc' => IH.out d A' (some ad) c' cd w6.heap.size _ _ (fun k => (okm k ∧ k < w.heap.size) ∨ k = w3.heap.size) m2 w9 HM9.out hA hc' (Kd.F_below HFD.out HBw9.out) (fun k hk => .inl (HDM.out k hk))⟩
                  clear HQy3
                  generalize covB ls d m2 = b3 at *
                  go_wp2_with (fail)
                  refine (C3.out Ac2 (cc - 1) HF9.out (by omega)).mono ?_
                  rintro e w10 ⟨rfl, hb10⟩
                  have HB10 := Aside0.mk hb10
                  clear hb10 C3
                  cases b3 with
                  | true =>
                    have HR : Aside0 (covB (l :: ls) d m = true) := ⟨by rw [HE.out]; exact H2.out (by rw [HPX.out, HQ.out, G2.out HQy4.out]; simp)⟩
                    go_wp2
                    go_ret
                    exact ⟨ret_bool HR.out.symm, hbT HBw9.out HB10.out⟩
                  | false =>
                    have HR : Aside0 (([x, turnL x].take (k2+1)).any QQ = false) := ⟨by rw [G1.out, HQy4.out]⟩
                    go_wp2
                    go_roundw
                    case rel => exact ⟨k2 + 1, by omega, by go_num, HR, ⟨hbT (hbT HB4r.out HBr9.out) HB10.out⟩⟩
                    case measure => simp [intOf]; omega
            · obtain rfl : k2 = 2 := by omega
              have HR : Aside0 ((d.take (k+1)).any P1 = false) := ⟨by rw [H1.out, HPX.out]; have := HA2.out; rw [show ([x, turnL x].take 2) = [x, turnL x] from rfl] at this; rw [this]; simp⟩
              go_wp2
              go_roundw
              case rel => exact ⟨k + 1, by omega, by go_num, HR, HB1r⟩
              case measure => simp [intOf]; omega
        · have hq1 : (x.f0 == l.f0) = false := by simp [hq]
          have HR : Aside0 ((d.take (k+1)).any P1 = false) := ⟨by rw [H1.out, HPX.out]; simp [hq]⟩
          clear hq
          go_wp2
          go_roundw
          case rel => exact ⟨k + 1, by omega, by go_num, HR, HB13⟩
          case measure => simp [intOf]; omega
      · obtain rfl : k = d.length := by omega
        have HR : Aside0 (covB (l :: ls) d m = false) := ⟨by rw [HE.out]; exact any_none HA.out⟩
        go_wp2
        go_ret
        exact ⟨ret_bool HR.out.symm, HBw.out⟩
end Go.Proofs.Ytcgnpmjkeifokaa
-- K43
/- clause.Covers, Subsumes. -/
namespace Go.Proofs.Ytcgnpmjkeifokaa
open Go.RowKit Go.Proofs.YtcgnpmjkeifokaaW.PrintWords
set_option linter.unusedVariables false
set_option linter.unusedSimpArgs false
set_option maxHeartbeats 4000000 in
set_option maxRecDepth 100000 in
theorem coversC_any (cl d : List Li) (Ac Ad : Option Addr) (cc cd : Nat) (okc okd : Nat → Prop) (w : World) (hF : Kd.F kLi w okc Ac cl.length cl) (hc : cl.length ≤ cc) (hF2 : Kd.F kLi w okd Ad d.length d) :
    Calls Try.prog 54 #[.slice Ac cl.length cc, .slice Ad d.length cd] w fun e w' => e = .returned (.bool (covB cl d [])) ∧ Below w.heap.size w w' := by
  have HB := Aside0.mk (below_alloc (Below.refl w.heap.size w) (.map #[] 0))
  have HF := Aside0.mk (Kd.F_below hF HB.out)
  have HF2 := Aside0.mk (Kd.F_below (Kd.F_bound hF2) HB.out)
  have HM := Aside0.mk (MapT.made w (fun k => okd k ∧ k < w.heap.size))
  have hmm := @run_makeMap Try.prog
  clear hF hF2
  go_enter Try.func54, Try.ntmps54
  go_wp2_with (go_at_call 102; refine (covers_any cl d Ac Ad cc cd w.heap.size _ _ _ [] _ HM.out HF.out hc HF2.out (fun k hk => hk)).mono ?_; rintro e w2 ⟨rfl, hb2⟩; have HB2 := Aside0.mk hb2; clear hb2)
  go_ret
  exact ⟨rfl, hbT HB.out HB2.out⟩
def subE (g : List Int) (c d : List Li) : Int := chkCs g [c, d]
def subB (g : List Int) (c d : List Li) : Bool := if chkCs g [c, d] = 0 then covB c d [] else false
set_option maxHeartbeats 4000000 in
set_option maxRecDepth 100000 in
theorem subsumes_any (g : List Int) (Ag : Option Addr) (cg : Nat) (c d : List Li) (Ac Ad : Option Addr) (cc cd : Nat) (okc : Nat → Prop) (w : World) (hG : Kd.C (Kd.int .i64) w Ag g.length g) (hF : Kd.F kLi w okc Ac c.length c) (hc : c.length ≤ cc) (hF2 : Kd.F kLi w okc Ad d.length d) (hd : d.length ≤ cd) :
    Calls Try.prog 13 #[.agg #[.slice Ag g.length cg], .slice Ac c.length cc, .slice Ad d.length cd] w fun e w' => e = .returned (.tuple #[.bool (subB g c d), .int .i64 (chkCs g [c, d])]) ∧ Below w.heap.size w w' := by
  have HF := Aside0.mk hF
  have HF2 := Aside0.mk hF2
  have HG := Aside0.mk hG
  clear hF hF2 hG
  have g0 := newAt (w := w) (o := .cells #[.slice Ag g.length cg] 24) rfl
  have HB := Aside0.mk (below_alloc (Below.refl w.heap.size w) (.cells #[.slice Ag g.length cg] 24))
  go_enter Try.func13, Try.ntmps13
  go_upto_region 1 with (fail)
  generalize w.alloc (.cells #[.slice Ag g.length cg] 24) = W at *
  have s0 := sg_cell g0
  clear g0
  have HL := Aside0.mk (F_cl2 (heap_alloc_new W (.cells #[.slice Ac c.length cc, .slice Ad d.length cd] 26)) (Kd.F_below HF.out (below_alloc HB.out _)) hc (Kd.F_below HF2.out (below_alloc HB.out _)) hd)
  go_upto_region 2 with (go_at_call 19; refine (clauseCheck_any g Ag cg [c, d] _ _ _ _ (Kd.C_below HG.out (below_alloc HB.out _)) HL.out).mono ?_; rintro e w2 ⟨rfl, hb2⟩; have HB2 := Aside0.mk (hbA (Below.refl _ W) _ hb2); clear hb2 s0)
  have HB02 := Aside0.mk (hbT HB.out HB2.out)
  by_cases h0 : chkCs g [c, d] = 0
  · have h0b := bneF h0
    have HR : Aside0 (subB g c d = covB c d []) := ⟨by unfold subB; rw [if_pos h0]⟩
    have H0 := Aside0.mk h0
    clear h0
    go_wp2_with (go_at_call 54; refine (coversC_any c d Ac Ad cc cd _ _ w2 (Kd.F_below HF.out HB02.out) hc (Kd.F_below HF2.out HB02.out)).mono ?_; rintro e w3 ⟨rfl, hb3⟩; have HB3 := Aside0.mk hb3; clear hb3)
    go_ret2
    exact ⟨by rw [HR.out, H0.out]; rfl, hbT HB02.out HB3.out⟩
  · have h0b := bneT h0
    have HR : Aside0 (subB g c d = false) := ⟨by unfold subB; rw [if_neg h0]⟩
    clear h0
    go_wp2
    go_ret2
    exact ⟨by rw [HR.out]; rfl, HB02.out⟩
end Go.Proofs.Ytcgnpmjkeifokaa
-- K49
/- superposeref.Grow. -/
namespace Go.Proofs.Ytcgnpmjkeifokaa
open Go.RowKit Go.Proofs.YtcgnpmjkeifokaaW.PrintWords
set_option linter.unusedVariables false
set_option linter.unusedSimpArgs false
theorem formE_parts {g : List Int} {t : Tm} (h : formE g t = 0) : formEL g t.f2 = 0 ∧ 0 ≤ t.f0 := by
  obtain ⟨v, f, l⟩ := t
  rw [formE] at h
  by_cases hl : formEL g l = 0
  · rw [if_neg (by simpa using hl)] at h
    refine ⟨hl, ?_⟩
    unfold partE at h
    by_cases hv : v = 0
    · show 0 ≤ v; omega
    · rw [if_pos (by exact hv)] at h
      show 0 ≤ v
      by_cases h1 : 1 ≤ v ∧ v ≤ 1000
      · omega
      · rw [if_neg h1] at h; cases h
  · rw [if_pos hl] at h; exact absurd h hl
theorem zip_at {a b : List Tm} {k : Nat} (h1 : k < a.length) (h2 : k < b.length) : (a.zip b)[k]'(by simp; omega) = (rd_Tm a k, rd_Tm b k) := by rw [rd_get a k h1, rd_get b k h2]; simp
/-- What Grow answers. -/
def GrowA (mp : List (Int × Tm)) (p t : Tm) (n : Nat) (e : Ending) (w' : World) : Prop :=
  ∃ (b2 : List Bd) (A' : Option Addr) (c' : Nat), e = .returned (.tuple #[.slice A' b2.length c', .bool (growT mp p t).2]) ∧ ((growT mp p t).2 = true → bds b2 = (growT mp p t).1) ∧ b2.length ≤ c' ∧ b2.length ≤ n ∧ Kd.F kBd w' (fun _ => True) A' b2.length b2
end Go.Proofs.Ytcgnpmjkeifokaa
-- K50
/- superposeref.CoversOf. -/
namespace Go.Proofs.Ytcgnpmjkeifokaa
open Go.RowKit Go.Proofs.YtcgnpmjkeifokaaW.PrintWords
set_option linter.unusedVariables false
set_option linter.unusedSimpArgs false
def covR (m : List (Int × Tm)) (l : Li) (R : List (Int × Tm) → Bool) (y : Li) : Bool := y.f0 == l.f0 && covQ m l y R
theorem covR_any (m : List (Int × Tm)) (l x : Li) (R : List (Int × Tm) → Bool) : (x.f0 == l.f0 && [x, turnL x].any fun y => covQ m l y R) = [x, turnL x].any (covR m l R) := by
  simp only [List.any_cons, List.any_nil, covR]
  have : (turnL x).f0 = x.f0 := rfl
  rw [this]
  cases x.f0 == l.f0 <;> simp
theorem covB_cons (l : Li) (ls d : List Li) (m : List (Int × Tm)) : covB (l :: ls) d m = d.any fun x => [x, turnL x].any (covR m l (covB ls d)) := by
  rw [covB]
  congr 1
  funext x
  exact covR_any m l x _
theorem covR_f {m : List (Int × Tm)} {l y : Li} {R : List (Int × Tm) → Bool} (h : (y.f0 == l.f0) = false) : covR m l R y = false := by unfold covR; rw [h]; rfl
theorem covR_1 {m : List (Int × Tm)} {l y : Li} {R : List (Int × Tm) → Bool} (h : (y.f0 == l.f0) = true) (h2 : (growT m l.f1 y.f1).2 = false) : covR m l R y = false := by unfold covR covQ; rw [h, h2]; rfl
theorem covR_2 {m m1 : List (Int × Tm)} {l y : Li} {R : List (Int × Tm) → Bool} (h : (y.f0 == l.f0) = true) (h2 : (growT m l.f1 y.f1).2 = true) (h3 : m1 = (growT m l.f1 y.f1).1) : covR m l R y = ((growT m1 l.f2 y.f2).2 && R (growT m1 l.f2 y.f2).1) := by unfold covR covQ; rw [h, h2, h3]; rfl
end Go.Proofs.Ytcgnpmjkeifokaa
-- K51
/- superposeref.ApplyOf. -/
namespace Go.Proofs.Ytcgnpmjkeifokaa
open Go.RowKit Go.Proofs.YtcgnpmjkeifokaaW.PrintWords
set_option linter.unusedVariables false
set_option linter.unusedSimpArgs false
mutual
def appT (m : List (Int × Tm)) : Tm → Tm
  | ⟨v, f, l⟩ => if 0 < v then (mget m v).getD ⟨v, f, l⟩ else ⟨0, f, appL m l⟩
def appL (m : List (Int × Tm)) : List Tm → List Tm
  | [] => []
  | t :: ts => appT m t :: appL m ts
end
theorem appT_eq (m : List (Int × Tm)) (t : Tm) : appT m t = if 0 < t.f0 then (mget m t.f0).getD t else ⟨0, t.f1, appL m t.f2⟩ := by cases t; rw [appT]
theorem appL_len (m : List (Int × Tm)) (l : List Tm) : (appL m l).length = l.length := by
  induction l with
  | nil => simp [appL]
  | cons t ts ih => simp [appL, ih]
theorem appL_append (m : List (Int × Tm)) (a b : List Tm) : appL m (a ++ b) = appL m a ++ appL m b := by
  induction a with
  | nil => simp [appL]
  | cons t ts ih => simp [appL, ih]
theorem appL_take_succ (m : List (Int × Tm)) (l : List Tm) (i : Nat) (h : i < l.length) : appL m (l.take (i+1)) = appL m (l.take i) ++ [appT m (rd_Tm l i)] := by
  rw [List.take_succ_eq_append_getElem h, appL_append, rd_get l i h]; simp [appL]
end Go.Proofs.Ytcgnpmjkeifokaa
-- K54
/- subst.Made. -/
namespace Go.Proofs.Ytcgnpmjkeifokaa
open Go.RowKit Go.Proofs.YtcgnpmjkeifokaaW.PrintWords
set_option linter.unusedVariables false
set_option linter.unusedSimpArgs false
def dlt (m : List (Int × Tm)) (x : Tm) : Option Tm := if 0 < x.f0 then mget m x.f0 else none
theorem map_app (g : List Int) (m : List (Int × Tm)) (t : Tm) : formE g t = 0 → mapT (dlt m) t = appT m t := by
  refine Tm.rec (motive_1 := fun t => formE g t = 0 → mapT (dlt m) t = appT m t) (motive_2 := fun l => formEL g l = 0 → mapL (dlt m) l = appL m l) ?_ ?_ ?_ t
  · intro v f l ih hf
    obtain ⟨ha, hp⟩ : formEL g l = 0 ∧ partE g ⟨v, f, l⟩ = 0 := by
      rw [formE] at hf
      by_cases hl : formEL g l = 0
      · rw [if_neg (by simpa using hl)] at hf; exact ⟨hl, hf⟩
      · rw [if_pos hl] at hf; exact absurd hf hl
    rw [appT]
    by_cases hv : 0 < v
    · rw [if_pos hv]
      have hd : dlt m ⟨v, f, l⟩ = mget m v := by unfold dlt; exact if_pos hv
      cases hg : mget m v with
      | some u => rw [mapT_some (hd.trans hg)]; rfl
      | none =>
        have hl : l = [] := by
          unfold partE at hp
          rw [if_pos (show v ≠ 0 by omega)] at hp
          split at hp
          · split at hp
            · rename_i h; exact List.length_eq_zero_iff.1 h.1
            · cases hp
          · cases hp
        subst hl
        rw [mapT_none (hd.trans hg)]
        rfl
    · have hv0 : v = 0 := by have := (formE_parts hf).2; show v = 0; have h2 : 0 ≤ v := this; omega
      have hd : dlt m ⟨v, f, l⟩ = none := by unfold dlt; exact if_neg hv
      rw [if_neg hv, mapT_none hd]
      show Tm.mk v f (mapL (dlt m) l) = _
      rw [ih ha, hv0]
  · intro _; rw [mapL, appL]
  · intro t ts h1 h2 hf
    rw [formEL] at hf
    by_cases hl : formE g t = 0
    · rw [if_neg (by simpa using hl)] at hf
      rw [mapL, appL, h1 hl, h2 hf]
    · rw [if_pos hl] at hf; exact absurd hf hl
set_option maxHeartbeats 4000000 in
set_option maxRecDepth 100000 in
theorem made1_any (m : List (Int × Tm)) (b g : Nat) (okm : Nat → Prop) (hsz : ∀ v u, mget m v = some u → szT u * 40 ≤ 140737488355328) (x : Tm) (A : Option Addr) (c : Nat) (W : World) (hM : MapT W b okm m) (hg : W.heap[g]? = some (.cells #[.map (some b)] 121 (0, 0))) (hc : x.f2.length ≤ c) :
    Calls Try.prog 127 (#[.agg #[.int .i64 x.f0, .int .i64 x.f1, .slice A x.f2.length c]] ++ #[.pointer (some ⟨g, 0, none⟩)]) W fun e w' => ∃ (r : Tm) (A' : Option Addr) (c' : Nat), e = .returned (.tuple #[.agg #[.int .i64 r.f0, .int .i64 r.f1, .slice A' r.f2.length c'], .bool (dlt m x).isSome]) ∧ r.f2.length ≤ c' ∧
      (∀ u, dlt m x = some u → r = u ∧ Kd.F kTm w' (fun k => W.heap.size ≤ k) A' r.f2.length r.f2) ∧ Below W.heap.size W w' := by
  have a0 := blk_alloc (newAt (w := W) (o := .cells #[.int .i64 x.f0, .int .i64 x.f1, .slice A x.f2.length c] 46) rfl) (.cells #[.int .i64 0, .int .i64 0, .slice none 0 0] 46)
  have a1 := newAt (w := W.alloc (.cells #[.int .i64 x.f0, .int .i64 x.f1, .slice A x.f2.length c] 46)) (o := .cells #[.int .i64 0, .int .i64 0, .slice none 0 0] 46) (k := W.heap.size + 1) (by simp)
  have a2 := blk_alloc (blk_alloc hg (.cells #[.int .i64 x.f0, .int .i64 x.f1, .slice A x.f2.length c] 46)) (.cells #[.int .i64 0, .int .i64 0, .slice none 0 0] 46)
  have HB := Aside0.mk (below_alloc (below_alloc (Below.refl W.heap.size W) (.cells #[.int .i64 x.f0, .int .i64 x.f1, .slice A x.f2.length c] 46)) (.cells #[.int .i64 0, .int .i64 0, .slice none 0 0] 46))
  have HSZ := Aside0.mk hsz
  have HM := Aside0.mk (MapT.below hM HB.out)
  clear hM hg hsz
  show Calls Try.prog 127 #[.agg #[.int .i64 x.f0, .int .i64 x.f1, .slice A x.f2.length c], .pointer (some ⟨g, 0, none⟩)] W _
  go_enter Try.func127, Try.ntmps127
  go_upto_region 1 with (fail)
  generalize (W.alloc (.cells #[.int .i64 x.f0, .int .i64 x.f1, .slice A x.f2.length c] 46)).alloc (.cells #[.int .i64 0, .int .i64 0, .slice none 0 0] 46) = W1 at *
  have G0 := Aside0.mk a0
  have G1 := Aside0.mk a1
  have m0 := map_cell a2
  clear a0 a1 a2
  obtain ⟨p0, p1, p2⟩ := tm_cells G0.out
  go_upto_region 2 with (first | (at_lookup; refine wp_lookT rfl _ _ rfl rfl HM.out x.f0 rfl ?_; intro A3 c3 h3 hF3; have HF3 := Aside0.mk hF3; have H3 := Aside0.mk h3; clear hF3 h3) | (((with_reducible refine gate_store (t := 46) (p := 5) rfl ?_); refine st_tm 5 rfl rfl rfl rfl rfl (heap_alloc_new _ _) ?_); intro w3 hs3 hG3 hz3; have HU := Aside0.mk hs3; have HB3 := Aside0.mk (gbS (below_alloc (Below.refl W1.heap.size W1) _) hG3 (Nat.le_refl _)); clear hs3 hG3 hz3))
  have HB03 := Aside0.mk (hbT HB.out HB3.out)
  obtain ⟨q0, q1, q2⟩ := tm_cells ((HB3.out.block _ (blk_lt G0.out)).trans G0.out)
  have GR := Aside0.mk ((HB3.out.block _ (blk_lt G1.out)).trans G1.out)
  clear p0 p1 p2 m0
  by_cases hv : 0 < x.f0
  · cases hgt : mget m x.f0 with
    | some u =>
      have hh : mhas m x.f0 = true := by unfold mhas; rw [hgt]; rfl
      have HU2 : Aside0 (mgetT m x.f0 = u) := ⟨by unfold mgetT; rw [hgt]; rfl⟩
      have HD : Aside0 (dlt m x = some u) := ⟨by unfold dlt; rw [if_pos hv, hgt]⟩
      have HSU := Aside0.mk (HSZ.out _ _ hgt)
      have hu := HU.out
      rw [HU2.out] at hu HF3 H3
      obtain ⟨s0, s1, s2⟩ := tm_cells hu
      clear hgt hu
      simp only [hh]
      clear hh
      try simp only [HU2.out]
      have HF33 := Aside0.mk (Kd.F_below HF3.out HB3.out)
      have hvb : 0 < x.f0 := hv
      go_wp2_with (first | (go_at_call 67; refine (copied_any u A3 c3 _ w3 HSU.out HF33.out H3.out).mono ?_; rintro e w4 ⟨A4, c4, rfl, h4, hF4, hb4⟩; have HF4 := Aside0.mk hF4; have HB4 := Aside0.mk hb4; have GR4 := Aside0.mk ((hb4.block _ (blk_lt GR.out)).trans GR.out); clear hF4 hb4 q0 q1 q2 s0 s1 s2) | (((with_reducible refine gate_store (t := 46) (p := 3) rfl ?_); refine st_tm 3 rfl rfl rfl rfl rfl GR4.out ?_); intro w5 hs5 hG5 hz5; have HS5 := Aside0.mk hs5; have HG5 := Aside0.mk hG5; clear hs5 hG5))
      ((try simp only [Exit.inBlock, Exit.then]); refine bodyPost_ret (results_ct rfl _ _ _ 46 _ (0, 0) _ rfl HS5.out Try.underlying46 rfl (by kernel_rfl)) rfl ?_)
      refine ⟨u, A4, c4, by rw [HD.out]; rfl, h4, fun u' hu' => ?_, gbS (hbT HB03.out HB4.out) HG5.out (by omega)⟩
      rw [HD.out] at hu'
      injection hu' with hu'
      refine ⟨hu', Kd.F_mono (Kd.F_grown HF4.out HG5.out (fun k hk => ?_)) (fun k hk => ?_)⟩
      · intro e; injection e with e; have := blk_lt G1.out; have := HB3.out.size; omega
      · have := HB03.out.size; omega
    | none =>
      have hh : mhas m x.f0 = false := by unfold mhas; rw [hgt]; rfl
      have HD : Aside0 (dlt m x = none) := ⟨by unfold dlt; rw [if_pos hv, hgt]⟩
      clear hgt
      simp only [hh]
      clear hh
      go_wp2_with (((with_reducible refine gate_store (t := 46) (p := 3) rfl ?_); refine st_tm 3 rfl rfl rfl rfl rfl GR.out ?_); intro w5 hs5 hG5 hz5; have HS5 := Aside0.mk hs5; have HG5 := Aside0.mk hG5; clear hs5 hG5 q0 q1 q2)
      ((try simp only [Exit.inBlock, Exit.then]); refine bodyPost_ret (results_ct rfl _ _ _ 46 _ (0, 0) _ rfl HS5.out Try.underlying46 rfl (by kernel_rfl)) rfl ?_)
      exact ⟨x, A, c, by rw [HD.out]; rfl, hc, fun u' hu' => (by rw [HD.out] at hu'; cases hu'), gbS HB03.out HG5.out (by omega)⟩
  · have HD : Aside0 (dlt m x = none) := ⟨by unfold dlt; rw [if_neg hv]⟩
    cases hh : mhas m x.f0 with
    | true =>
      go_wp2_with (((with_reducible refine gate_store (t := 46) (p := 3) rfl ?_); refine st_tm 3 rfl rfl rfl rfl rfl GR.out ?_); intro w5 hs5 hG5 hz5; have HS5 := Aside0.mk hs5; have HG5 := Aside0.mk hG5; clear hs5 hG5 q0 q1 q2)
      ((try simp only [Exit.inBlock, Exit.then]); refine bodyPost_ret (results_ct rfl _ _ _ 46 _ (0, 0) _ rfl HS5.out Try.underlying46 rfl (by kernel_rfl)) rfl ?_)
      exact ⟨x, A, c, by rw [HD.out]; rfl, hc, fun u' hu' => (by rw [HD.out] at hu'; cases hu'), gbS HB03.out HG5.out (by omega)⟩
    | false =>
      go_wp2_with (((with_reducible refine gate_store (t := 46) (p := 3) rfl ?_); refine st_tm 3 rfl rfl rfl rfl rfl GR.out ?_); intro w5 hs5 hG5 hz5; have HS5 := Aside0.mk hs5; have HG5 := Aside0.mk hG5; clear hs5 hG5 q0 q1 q2)
      ((try simp only [Exit.inBlock, Exit.then]); refine bodyPost_ret (results_ct rfl _ _ _ 46 _ (0, 0) _ rfl HS5.out Try.underlying46 rfl (by kernel_rfl)) rfl ?_)
      exact ⟨x, A, c, by rw [HD.out]; rfl, hc, fun u' hu' => (by rw [HD.out] at hu'; cases hu'), gbS HB03.out HG5.out (by omega)⟩
set_option maxHeartbeats 4000000 in
set_option maxRecDepth 100000 in
theorem made_any (m : List (Int × Tm)) (b : Nat) (okm okt : Nat → Prop) (hsz : ∀ v u, mget m v = some u → szT u * 40 ≤ 140737488355328) (t : Tm) (A : Option Addr) (c : Nat) (w : World) (hbd : szT t * 40 ≤ 140737488355328) (hM : MapT w b okm m) (hF : Kd.F kTm w okt A t.f2.length t.f2) (hc : t.f2.length ≤ c) :
    Calls Try.prog 99 #[.map (some b), .agg #[.int .i64 t.f0, .int .i64 t.f1, .slice A t.f2.length c]] w fun e w' => ∃ A' c', e = .returned (.agg #[.int .i64 (mapT (dlt m) t).f0, .int .i64 (mapT (dlt m) t).f1, .slice A' (mapT (dlt m) t).f2.length c']) ∧ (mapT (dlt m) t).f2.length ≤ c' ∧ Kd.F kTm w' (fun k => w.heap.size ≤ k) A' (mapT (dlt m) t).f2.length (mapT (dlt m) t).f2 ∧ Below w.heap.size w w' := by
  have a0 := blk_alloc (blk_alloc (newAt (w := w) (o := .cells #[.map (some b)] 121) rfl) (.cells #[.int .i64 t.f0, .int .i64 t.f1, .slice A t.f2.length c] 46)) (.cells #[.int .i64 0, .int .i64 0, .slice none 0 0] 46)
  have a1 := blk_alloc (newAt (w := w.alloc (.cells #[.map (some b)] 121)) (o := .cells #[.int .i64 t.f0, .int .i64 t.f1, .slice A t.f2.length c] 46) (k := w.heap.size + 1) (by simp)) (.cells #[.int .i64 0, .int .i64 0, .slice none 0 0] 46)
  have a2 := newAt (w := (w.alloc (.cells #[.map (some b)] 121)).alloc (.cells #[.int .i64 t.f0, .int .i64 t.f1, .slice A t.f2.length c] 46)) (o := .cells #[.int .i64 0, .int .i64 0, .slice none 0 0] 46) (k := w.heap.size + 2) (by simp)
  have HB := Aside0.mk (below_alloc (below_alloc (below_alloc (Below.refl w.heap.size w) (.cells #[.map (some b)] 121)) (.cells #[.int .i64 t.f0, .int .i64 t.f1, .slice A t.f2.length c] 46)) (.cells #[.int .i64 0, .int .i64 0, .slice none 0 0] 46))
  have HF := Aside0.mk (Kd.F_below (Kd.F_bound hF) HB.out)
  have HM := Aside0.mk (MapT.below hM HB.out)
  have hlen := Kd.F_max hF
  clear hF hM
  go_enter Try.func99, Try.ntmps99
  go_upto_region 1 with (fail)
  generalize ((w.alloc (.cells #[.map (some b)] 121)).alloc (.cells #[.int .i64 t.f0, .int .i64 t.f1, .slice A t.f2.length c] 46)).alloc (.cells #[.int .i64 0, .int .i64 0, .slice none 0 0] 46) = W at *
  have G0 := Aside0.mk a0
  have G2 := Aside0.mk a2
  obtain ⟨p0, p1, p2⟩ := tm_cells a1
  have hlg := blk_lt a2
  clear a0 a1 a2
  have HMP := Aside0.mk (mapped_any 127 #[.pointer (some ⟨w.heap.size, 0, none⟩)] (dlt m) (fun _ => True) W (enters_of Try.func127 (by kernel_rfl) rfl) (fun x A c W' hB hF hc => made1_any m b w.heap.size okm hsz x A c W' (MapT.below HM.out hB) ((hB.block _ (blk_lt G0.out)).trans G0.out) hc) (szT t) t A c W (Nat.le_refl _) hbd (Below.refl _ _) (Kd.F_mono (Kd.F_bound HF.out) (fun k hk => ⟨trivial, hk.2⟩)) hc)
  go_wp2_with (first | (go_at_call 106; refine HMP.out.mono ?_; rintro e w2 ⟨A', c', rfl, hc', hF2, hb2⟩; have HF2 := Aside0.mk hF2; have HB2 := Aside0.mk hb2; have HR2 := Aside0.mk ((hb2.block _ hlg).trans G2.out); clear hF2 hb2 p0 p1 p2) | (((with_reducible refine gate_store (t := 46) (p := 4) rfl ?_); refine st_tm 4 rfl rfl rfl rfl rfl HR2.out ?_); intro w1 hs1 hG1 hz1; have HS1 := Aside0.mk hs1; have HG1 := Aside0.mk hG1; clear hs1 hG1))
  ((try simp only [Exit.inBlock, Exit.then]); refine bodyPost_ret (results_cell_row rfl _ _ _ 46 _ (0, 0) _ rfl HS1.out Try.underlying46 rfl (by kernel_rfl)) rfl ?_)
  exact ⟨A', c', rfl, hc', Kd.F_mono (Kd.F_grown HF2.out HG1.out (fun k hk => by intro e; injection e with e; omega)) (fun k hk => by have := HB.out.size; omega), gbS (hbT HB.out HB2.out) HG1.out (by omega)⟩
end Go.Proofs.Ytcgnpmjkeifokaa
-- K52
/- superposeref.ApplyClause. -/
namespace Go.Proofs.Ytcgnpmjkeifokaa
open Go.RowKit Go.Proofs.YtcgnpmjkeifokaaW.PrintWords
set_option linter.unusedVariables false
set_option linter.unusedSimpArgs false
def appC (m : List (Int × Tm)) (c : List Li) : List Li := c.map fun l => ⟨l.f0, appT m l.f1, appT m l.f2⟩
theorem appC_take (m : List (Int × Tm)) (c : List Li) (k : Nat) (hk : k < c.length) : appC m (c.take (k+1)) = appC m (c.take k) ++ [⟨(rd_Li c k).f0, appT m (rd_Li c k).f1, appT m (rd_Li c k).f2⟩] := by
  rw [List.take_succ_eq_append_getElem hk, rdLi_get c k hk]; unfold appC; rw [List.map_append]; rfl
theorem appC_len (m : List (Int × Tm)) (c : List Li) : (appC m c).length = c.length := by unfold appC; simp
theorem tms_sz {c : List Li} {l : Li} (h : l ∈ c) : szT l.f1 + szT l.f2 ≤ szL (tmsL c) := by
  induction c with
  | nil => cases h
  | cons x xs ih =>
    simp only [tmsL, szL]
    cases h with
    | head => omega
    | tail _ h => have := ih h; omega
end Go.Proofs.Ytcgnpmjkeifokaa
-- K55
/- clause.Each. -/
namespace Go.Proofs.Ytcgnpmjkeifokaa
open Go.RowKit Go.Proofs.YtcgnpmjkeifokaaW.PrintWords
set_option linter.unusedVariables false
set_option linter.unusedSimpArgs false
def eachC (f : Tm → Tm) (c : List Li) : List Li := c.map fun l => ⟨l.f0, f l.f1, f l.f2⟩
theorem eachC_take (f : Tm → Tm) (c : List Li) (k : Nat) (hk : k < c.length) : eachC f (c.take (k+1)) = eachC f (c.take k) ++ [⟨(rd_Li c k).f0, f (rd_Li c k).f1, f (rd_Li c k).f2⟩] := by
  rw [List.take_succ_eq_append_getElem hk, rdLi_get c k hk]; unfold eachC; rw [List.map_append]; rfl
theorem eachC_len (f : Tm → Tm) (c : List Li) : (eachC f c).length = c.length := by unfold eachC; simp
theorem tms_mem1 {c : List Li} {l : Li} (h : l ∈ c) : l.f1 ∈ tmsL c ∧ l.f2 ∈ tmsL c := by
  induction c with
  | nil => cases h
  | cons x xs ih =>
    simp only [tmsL, List.mem_cons]
    cases h with
    | head => exact ⟨.inl rfl, .inr (.inl rfl)⟩
    | tail _ h => exact ⟨.inr (.inr (ih h).1), .inr (.inr (ih h).2)⟩
/-- A function value that makes terms anew. -/
def DoE (g : Nat) (lb : Array Value) (f : Tm → Tm) (ts : List Tm) (w0 : World) : Prop :=
  ∀ (x : Tm) (A : Option Addr) (c : Nat) (W : World), x ∈ ts → Below w0.heap.size w0 W → Kd.F kTm W (fun _ => True) A x.f2.length x.f2 → x.f2.length ≤ c →
    Calls Try.prog g (#[.agg #[.int .i64 x.f0, .int .i64 x.f1, .slice A x.f2.length c]] ++ lb) W fun e w' => ∃ (A' : Option Addr) (c' : Nat), e = .returned (.agg #[.int .i64 (f x).f0, .int .i64 (f x).f1, .slice A' (f x).f2.length c']) ∧ (f x).f2.length ≤ c' ∧ Kd.F kTm w' (fun k => W.heap.size ≤ k) A' (f x).f2.length (f x).f2 ∧ Below W.heap.size W w'
set_option maxHeartbeats 4000000 in
set_option maxRecDepth 100000 in
theorem each_any (g : Nat) (lb : Array Value) (f : Tm → Tm) (eg : ∀ args w, (callFunc g args).run Try.prog w = .ok (.enter g args) w) (c : List Li) (Ac : Option Addr) (cc : Nat) (okc : Nat → Prop) (w : World) (hcl : c.length ≤ 1000000) (hd : DoE g lb f (tmsL c) w) (hC : Kd.F kLi w okc Ac c.length c) :
    Calls Try.prog 97 #[.slice Ac c.length cc, .func (.func g) #[] lb] w fun e w' => ∃ A' c', e = .returned (.slice A' (eachC f c).length c') ∧ (eachC f c).length ≤ c' ∧ Kd.F kLi w' (fun k => w.heap.size ≤ k) A' (eachC f c).length (eachC f c) ∧ Below w.heap.size w w' := by
  have hlen := Kd.F_max hC
  have HC := Aside0.mk (Kd.F_bound hC)
  have HCL := Aside0.mk hcl
  have HD := Aside0.mk hd
  clear hC hcl hd
  go_enter Try.func97, Try.ntmps97
  go_wp2
  go_loopw [5, 10] (fun v0 i wr => ∃ (k : Nat) (vk : Value), k ≤ c.length ∧ i = .int .i64 k ∧ vk = v0 ∧ Aside0 (Kd.N kLi 84 wr w.heap.size (fun k => w.heap.size ≤ k) vk (eachC f (c.take k))) ∧ Aside0 (Below w.heap.size w wr)) (fun _ i _ => c.length - (intOf i).toNat)
  case atStart => exact ⟨0, _, by omega, rfl, rfl, ⟨Kd.N_nil _ _ _ _ _⟩, ⟨Below.refl _ _⟩⟩
  case round =>
    rename World => wo
    obtain ⟨k, vk, hk, rfl, rfl, HN, HB⟩ := hrel
    have hzr := HB.out.size
    by_cases hlt : k < c.length
    · obtain ⟨ad, A3, c3, A6, c6, rfl, E0, E1, E2, E3, E4, E5, E6, hL, hok0⟩ := at_Lit (Kd.F_below HC.out HB.out) k hlt
      have HL := Aside0.mk hL
      have HTK := Aside0.mk (eachC_take f c k hlt)
      have HTL : Aside0 ((eachC f (c.take k)).length ≤ c.length) := ⟨by rw [eachC_len, List.length_take]; omega⟩
      have HME := Aside0.mk (tms_mem1 (rdLi_mem c k hlt))
      have HNL := Aside0.mk (Kd.N_lt HN.out)
      have HNB := Aside0.mk (Kd.N_base HN.out)
      have hki : (k : Int) < c.length := by omega
      have HZR := Aside0.mk hzr
      clear hL hzr
      generalize rd_Li c k = l at *
      generalize hs : eachC f (c.take k) = s at *
      obtain ⟨Av, cv, rfl⟩ := Kd.N_slice HN.out
      have HNE : ∀ j, j < w.heap.size → some j ≠ (Value.slice Av s.length cv).ownBlock := fun j hj e => by have := HNB.out j e.symm; omega
      go_upto_region 5 with (((with_reducible refine gate_store (t := 84) (p := 7) rfl ?_); refine st_li 7 rfl rfl rfl rfl rfl (heap_alloc_new _ _) ?_); intro w4 hs4 hG4 hz4; have HX4 := Aside0.mk hs4; have HB4 := Aside0.mk (gbS (below_alloc (Below.refl wo.heap.size wo) _) hG4 (Nat.le_refl _)); clear hs4 hG4 hz4 E0 E1 E2 E3 E4 E5 E6)
      have HL4 := Aside0.mk (HL.out.below HB4.out)
      have HNE4 : some wo.heap.size ≠ (Value.slice Av s.length cv).ownBlock := fun e => by have := HNL.out _ e.symm; omega
      have HN4 := Aside0.mk (Kd.N_below HN.out HB4.out)
      obtain ⟨x0, x1, x2, x3, x4, x5, x6⟩ := li_cells HX4.out
      have k0 := fun (w' : World) (h : w4.grownBy w' (Value.slice Av s.length cv).ownBlock) => oldg h x0 HNE4
      have k1 := fun (w' : World) (h : w4.grownBy w' (Value.slice Av s.length cv).ownBlock) => oldg h x1 HNE4
      have k2 := fun (w' : World) (h : w4.grownBy w' (Value.slice Av s.length cv).ownBlock) => oldg h x2 HNE4
      have k3 := fun (w' : World) (h : w4.grownBy w' (Value.slice Av s.length cv).ownBlock) => oldg h x3 HNE4
      have k4 := fun (w' : World) (h : w4.grownBy w' (Value.slice Av s.length cv).ownBlock) => oldg h x4 HNE4
      have k5 := fun (w' : World) (h : w4.grownBy w' (Value.slice Av s.length cv).ownBlock) => oldg h x5 HNE4
      have k6 := fun (w' : World) (h : w4.grownBy w' (Value.slice Av s.length cv).ownBlock) => oldg h x6 HNE4
      clear x0 x1 x2 x3 x4 x5 x6
      refine hd_region 14 1 (fun w' => w4.grownBy w' (Value.slice Av s.length cv).ownBlock) (by kernel_rfl) rfl ?_ (fun _ h => grown_of_below h _)
      intro W3 hb3 hz3 hHeld
      have HB3 := Aside0.mk hb3
      clear hb3 hz3
      have HL3 := Aside0.mk (HL4.out.below HB3.out)
      have HBw3 := Aside0.mk (hbT HB.out (hbT HB4.out HB3.out))
      (refine hd_take (i := 0) (oi := ?oi739) (v := ?v739) ?hi739 (by kernel_rfl) (by kernel_rfl) (by kernel_rfl) (by kernel_rfl) (by decide) ?hq739 ?hw739 ?hy739 hHeld ?hr739; (case hi739 => (simp only [List.getElem?_toArray, List.getElem?_cons_succ, List.getElem?_cons_zero]; rfl)); (case hw739 => rfl); (case hy739 => (intro w hSw; go_simp; try with_reducible rfl)); (case hq739 => exact fun _ _ _ h => h); simp only [Act.put, List.setIfInBounds_toArray, List.set_cons_zero, List.set_cons_succ])
      (refine hd_take (i := 1) (oi := ?oi741) (v := ?v741) ?hi741 (by kernel_rfl) (by kernel_rfl) (by kernel_rfl) (by kernel_rfl) (by decide) ?hq741 ?hw741 ?hy741 hHeld ?hr741; (case hi741 => (simp only [List.getElem?_toArray, List.getElem?_cons_succ, List.getElem?_cons_zero]; rfl)); (case hw741 => rfl); (case hy741 => (intro w hSw; go_simp; try with_reducible rfl)); (case hq741 => exact fun _ _ _ h => h); simp only [Act.put, List.setIfInBounds_toArray, List.set_cons_zero, List.set_cons_succ])
      (refine hd_take (i := 2) (oi := ?oi743) (v := ?v743) ?hi743 (by kernel_rfl) (by kernel_rfl) (by kernel_rfl) (by kernel_rfl) (by decide) ?hq743 ?hw743 ?hy743 hHeld ?hr743; (case hi743 => (simp only [List.getElem?_toArray, List.getElem?_cons_succ, List.getElem?_cons_zero]; rfl)); (case hw743 => rfl); (case hy743 => (intro w hSw; go_simp; try with_reducible rfl)); (case hq743 => exact fun _ _ _ h => h); simp only [Act.put, List.setIfInBounds_toArray, List.set_cons_zero, List.set_cons_succ])
      (refine hd_take (i := 3) (oi := ?oi745) (v := ?v745) ?hi745 (by kernel_rfl) (by kernel_rfl) (by kernel_rfl) (by kernel_rfl) (by decide) ?hq745 ?hw745 ?hy745 hHeld ?hr745; (case hi745 => (simp only [List.getElem?_toArray, List.getElem?_cons_succ, List.getElem?_cons_zero]; rfl)); (case hw745 => rfl); (case hy745 => (intro w hSw; go_simp; try with_reducible rfl)); (case hq745 => exact fun _ _ _ h => h); simp only [Act.put, List.setIfInBounds_toArray, List.set_cons_zero, List.set_cons_succ])
      (refine hd_take (i := 4) (oi := ?oi747) (v := ?v747) ?hi747 (by kernel_rfl) (by kernel_rfl) (by kernel_rfl) (by kernel_rfl) (by decide) ?hq747 ?hw747 ?hy747 hHeld ?hr747; (case hi747 => (simp only [List.getElem?_toArray, List.getElem?_cons_succ, List.getElem?_cons_zero]; rfl)); (case hw747 => rfl); (case hy747 => (intro w hSw; go_simp; try with_reducible rfl)); (case hq747 => exact fun _ _ _ h => h); simp only [Act.put, List.setIfInBounds_toArray, List.set_cons_zero, List.set_cons_succ])
      (refine hd_take (i := 5) (oi := ?oi749) (v := ?v749) ?hi749 (by kernel_rfl) (by kernel_rfl) (by kernel_rfl) (by kernel_rfl) (by decide) ?hq749 ?hw749 ?hy749 hHeld ?hr749; (case hi749 => (simp only [List.getElem?_toArray, List.getElem?_cons_succ, List.getElem?_cons_zero]; rfl)); (case hw749 => rfl); (case hy749 => (intro w hSw; go_simp; try with_reducible rfl)); (case hq749 => exact fun _ _ _ h => h); simp only [Act.put, List.setIfInBounds_toArray, List.set_cons_zero, List.set_cons_succ])
      (refine hd_take (i := 7) (oi := ?oi751) (v := ?v751) ?hi751 (by kernel_rfl) (by kernel_rfl) (by kernel_rfl) (by kernel_rfl) (by decide) ?hq751 ?hw751 ?hy751 hHeld ?hr751; (case hi751 => (simp only [List.getElem?_toArray, List.getElem?_cons_succ, List.getElem?_cons_zero]; rfl)); (case hw751 => rfl); (case hy751 => (intro w hSw; go_simp; try with_reducible rfl)); (case hq751 => exact fun _ _ _ h => h); simp only [Act.put, List.setIfInBounds_toArray, List.set_cons_zero, List.set_cons_succ])
      (refine hd_take (i := 8) (oi := ?oi753) (v := ?v753) ?hi753 (by kernel_rfl) (by kernel_rfl) (by kernel_rfl) (by kernel_rfl) (by decide) ?hq753 ?hw753 ?hy753 hHeld ?hr753; (case hi753 => (simp only [List.getElem?_toArray, List.getElem?_cons_succ, List.getElem?_cons_zero]; rfl)); (case hw753 => rfl); (case hy753 => (intro w hSw; go_simp; try with_reducible rfl)); (case hq753 => exact fun _ _ _ h => h); simp only [Act.put, List.setIfInBounds_toArray, List.set_cons_zero, List.set_cons_succ])
      (refine hd_take (i := 9) (oi := ?oi755) (v := ?v755) ?hi755 (by kernel_rfl) (by kernel_rfl) (by kernel_rfl) (by kernel_rfl) (by decide) ?hq755 ?hw755 ?hy755 hHeld ?hr755; (case hi755 => (simp only [List.getElem?_toArray, List.getElem?_cons_succ, List.getElem?_cons_zero]; rfl)); (case hw755 => rfl); (case hy755 => (intro w hSw; go_simp; try with_reducible rfl)); (case hq755 => exact fun _ _ _ h => h); simp only [Act.put, List.setIfInBounds_toArray, List.set_cons_zero, List.set_cons_succ])
      (refine hd_one (i := 6) (oi := ?oi757) ?hi757 (by kernel_rfl) (by decide) ?hr757; (case hi757 => (simp only [List.getElem?_toArray, List.getElem?_cons_succ, List.getElem?_cons_zero]; rfl)); intro K hK)
      go_simp
      refine (HD.out l.f1 A3 c3 W3 HME.out.1 HBw3.out (Kd.F_mono HL3.out.F3 (fun _ _ => trivial)) HL3.out.l3).mono ?_
      rintro e w5 ⟨A5, c5, rfl, h5, hF5, hb5⟩
      have HF5 := Aside0.mk hF5
      have HB5 := Aside0.mk hb5
      have HH5 := Aside0.mk (gbT hHeld (gbOf hb5 _) (.inl rfl))
      clear hF5
      go_simp
      (refine hK.out _ _ ?hS759 (fun hHeld => ?hr759); (case hS759 => exact HH5.out); clear hK K; try simp only [Act.put, List.setIfInBounds_toArray, List.set_cons_zero, List.set_cons_succ])
      clear hb5
      (refine hd_one (i := 10) (oi := ?oi760) ?hi760 (by kernel_rfl) (by decide) ?hr760; (case hi760 => (simp only [List.getElem?_toArray, List.getElem?_cons_succ, List.getElem?_cons_zero]; rfl)); intro K hK)
      go_simp
      refine (HD.out l.f2 A6 c6 w5 HME.out.2 (hbT HBw3.out HB5.out) (Kd.F_mono (Kd.F_below HL3.out.F6 HB5.out) (fun _ _ => trivial)) HL3.out.l6).mono ?_
      rintro e w6 ⟨A8, c8, rfl, h8, hF8, hb6⟩
      have HF8 := Aside0.mk hF8
      have HB6 := Aside0.mk hb6
      have HF56 := Aside0.mk (Kd.F_below HF5.out hb6)
      have HH6 := Aside0.mk (gbT hHeld (gbOf hb6 _) (.inl rfl))
      have HN6 := Aside0.mk (Kd.N_below (Kd.N_below (Kd.N_below HN4.out HB3.out) HB5.out) hb6)
      have HZ6 : Aside0 (w.heap.size ≤ W3.heap.size ∧ wo.heap.size ≤ W3.heap.size ∧ W3.heap.size ≤ w5.heap.size ∧ w5.heap.size ≤ w6.heap.size) := ⟨by have := HZR.out; have := HB4.out.size; have := HB3.out.size; have := HB5.out.size; have := HB6.out.size; omega⟩
      clear hF8
      go_simp
      (refine hK.out _ _ ?hS762 (fun hHeld => ?hr762); (case hS762 => exact HH6.out); clear hK K; try simp only [Act.put, List.setIfInBounds_toArray, List.set_cons_zero, List.set_cons_succ])
      clear hb6
      (refine hd_take (i := 11) (oi := ?oi763) (v := ?v763) ?hi763 (by kernel_rfl) (by kernel_rfl) (by kernel_rfl) (by kernel_rfl) (by decide) ?hq763 ?hw763 ?hy763 hHeld ?hr763; (case hi763 => (simp only [List.getElem?_toArray, List.getElem?_cons_succ, List.getElem?_cons_zero]; rfl)); (case hw763 => rfl); (case hy763 => (intro w hSw; go_simp; try with_reducible rfl)); (case hq763 => exact fun _ _ _ h => h); simp only [Act.put, List.setIfInBounds_toArray, List.set_cons_zero, List.set_cons_succ])
      (refine hd_one (i := 12) (oi := ?oi765) ?hi765 (by kernel_rfl) (by decide) ?hr765; (case hi765 => (simp only [List.getElem?_toArray, List.getElem?_cons_succ, List.getElem?_cons_zero]; rfl)); intro K hK)
      go_simp
      (refine hK.out _ _ ?hS767 (fun hHeld => ?hr767); (case hS767 => exact gbT HH6.out (gbOf (below_alloc (Below.refl _ _) _) _) (.inl rfl)); clear hK K; try simp only [Act.put, List.setIfInBounds_toArray, List.set_cons_zero, List.set_cons_succ])
      (refine hd_one (i := 13) (oi := ?oi768) ?hi768 (by kernel_rfl) (by decide) ?hr768; (case hi768 => (simp only [List.getElem?_toArray, List.getElem?_cons_succ, List.getElem?_cons_zero]; rfl)); intro K hK)
      refine Kd.N_append_step kLi (w0 := w6) w.heap.size rfl _ _ 26 84 _ 88 rfl Try.underlying26 infoLi rfl (by decide) (by decide) (.slice Av s.length cv) s ⟨l.f0, f l.f1, f l.f2⟩ _ (fun k => w.heap.size ≤ k) (fun k => W3.heap.size ≤ k) rfl rfl (kLi_mkF w6 _ _ h5 (Kd.F_mono HF56.out (fun _ h => h)) h8 (Kd.F_mono HF8.out (fun q hq => by have := HZ6.out; omega))) ?_ (fun k hk => by have := HZ6.out; omega) HN6.out (Below.refl _ _) (by have := HZ6.out; omega) ?_ ?_
      · intro k' hk'
        exact ⟨by have := HZ6.out; omega, fun e => by have := HNL.out k' e.symm; have := HB4.out.size; have := HB3.out.size; omega⟩
      · have := HTL.out; have := HCL.out; omega
      intro v1 w7 hN1 hB1 hG1 hI1
      have HN1 := Aside0.mk hN1
      clear hN1 hB1 hI1
      (refine hK.out _ _ ?hS770 (fun hHeld => ?hr770); (case hS770 => exact gbT HH6.out hG1 (.inl rfl)); clear hK K; try simp only [Act.put, List.setIfInBounds_toArray, List.set_cons_zero, List.set_cons_succ])
      (refine hd_done (by kernel_rfl) ?_; simp only [List.drop_succ_cons, List.drop_zero])
      have HH7 := Aside0.mk hHeld
      clear hHeld k0 k1 k2 k3 k4 k5 k6
      go_wp2
      go_roundw
      case rel => exact ⟨k + 1, v1, by omega, by go_num, rfl, ⟨by rw [HTK.out]; exact HN1.out⟩, ⟨gbU (hbT HB.out HB4.out) HH7.out HNE⟩⟩
      case measure => simp [intOf]; omega
    · obtain rfl : k = c.length := by omega
      have HN2 := HN.out
      rw [List.take_length] at HN2
      obtain ⟨Av, cv, rfl⟩ := Kd.N_slice HN2
      have HN2 := Aside0.mk HN2
      go_wp2
      go_ret
      have h := Kd.N_reads' HN2.out
      first | exact ⟨Av, cv, rfl, h.2.1, Kd.N_F HN2.out, HB.out⟩ | exact ⟨rfl, Av, cv, h.2.1, Kd.N_F HN2.out, HB.out⟩
end Go.Proofs.Ytcgnpmjkeifokaa
-- K32
/- superposeref.Has, SameInts. -/
namespace Go.Proofs.Ytcgnpmjkeifokaa
open Go.RowKit Go.Proofs.YtcgnpmjkeifokaaW.PrintWords
set_option linter.unusedVariables false
set_option linter.unusedSimpArgs false
theorem eqP_t {x y : Int} (h : x = y) : eqP y x = true := by unfold eqP; simp [h]
theorem eqP_f {x y : Int} (h : ¬ x = y) : eqP y x = false := by unfold eqP; simp; exact fun e => h e.symm
def sameI_ (a b : List Int) : Bool := decide (a = b)
theorem sameI_len {a b : List Int} (h : ¬ a.length = b.length) : sameI_ a b = false := by unfold sameI_; simp; intro e; exact h (by rw [e])
theorem sameI_ne {a b : List Int} {k : Nat} (h : ¬ a.getD k 0 = b.getD k 0) : sameI_ a b = false := by unfold sameI_; simp; intro e; exact h (by rw [e])
theorem take_getD_succ {a b : List Int} {k : Nat} (ha : k < a.length) (hb : k < b.length) (h0 : a.take k = b.take k) (h : a.getD k 0 = b.getD k 0) : a.take (k+1) = b.take (k+1) := by
  rw [List.take_succ_eq_append_getElem ha, List.take_succ_eq_append_getElem hb, h0]
  simp [List.getD_eq_getElem?_getD, ha, hb] at h
  rw [h]
end Go.Proofs.Ytcgnpmjkeifokaa
-- K33
/- superposeref.FirstVars. -/
namespace Go.Proofs.Ytcgnpmjkeifokaa
open Go.RowKit Go.Proofs.YtcgnpmjkeifokaaW.PrintWords
set_option linter.unusedVariables false
set_option linter.unusedSimpArgs false
def stepV (s : List Int) (x : Tm) : List Int := if 0 < x.f0 ∧ hasB s x.f0 = false then s ++ [x.f0] else s
def fvP (s : List Int) (l : List Tm) : List Int := l.foldl stepV s
def fvL : List Int → List Tm → List Int
  | s, [] => s
  | s, t :: ts => fvL (fvP s (ptsT t)) ts
theorem fvP_append (s : List Int) (a b : List Tm) : fvP s (a ++ b) = fvP (fvP s a) b := by unfold fvP; exact List.foldl_append
theorem fvP_take_succ (s : List Int) (l : List Tm) (k : Nat) (hk : k < l.length) : fvP s (l.take (k+1)) = stepV (fvP s (l.take k)) (rd_Tm l k) := by
  rw [List.take_succ_eq_append_getElem hk, fvP_append, rd_get l k hk]; rfl
theorem fvL_append (a b : List Tm) : ∀ s, fvL s (a ++ b) = fvL (fvL s a) b := by
  induction a with
  | nil => intro s; rfl
  | cons t ts ih => intro s; simp only [List.cons_append, fvL]; exact ih _
theorem fvL_take_succ (s : List Int) (l : List Tm) (k : Nat) (hk : k < l.length) : fvL s (l.take (k+1)) = fvP (fvL s (l.take k)) (ptsT (rd_Tm l k)) := by
  rw [List.take_succ_eq_append_getElem hk, fvL_append, rd_get l k hk]; rfl
theorem stepV_len (s : List Int) (x : Tm) : (stepV s x).length ≤ s.length + 1 := by unfold stepV; split <;> simp
theorem fvP_len (l : List Tm) : ∀ s, (fvP s l).length ≤ s.length + l.length := by
  induction l with
  | nil => intro s; simp [fvP]
  | cons t ts ih =>
    intro s
    have h1 := ih (stepV s t)
    have h2 := stepV_len s t
    have e : fvP s (t :: ts) = fvP (stepV s t) ts := rfl
    rw [e, List.length_cons]; omega
theorem fvL_len (l : List Tm) : ∀ s, (fvL s l).length ≤ s.length + szL l := by
  induction l with
  | nil => intro s; simp [fvL]
  | cons t ts ih =>
    intro s
    have h1 := ih (fvP s (ptsT t))
    have h2 := fvP_len (ptsT t) s
    rw [ptsT_len] at h2
    simp only [fvL, szL]; omega
/-- Of a term that is right, it is what Stands tells. -/
theorem walk_fv (g : List Int) (t : Tm) : formE g t = 0 → ∀ s, fvP s (ptsT t) = (walkT stF s t).1 ∧ (walkT stF s t).2 = true := by
  refine Tm.rec (motive_1 := fun t => formE g t = 0 → ∀ s, fvP s (ptsT t) = (walkT stF s t).1 ∧ (walkT stF s t).2 = true) (motive_2 := fun l => formEL g l = 0 → ∀ s, fvP s (ptsL l) = (walkL stF s l).1 ∧ (walkL stF s l).2 = true) ?_ ?_ ?_ t
  · intro v f l ih hf s
    obtain ⟨ha, hp⟩ : formEL g l = 0 ∧ partE g ⟨v, f, l⟩ = 0 := by
      rw [formE] at hf
      by_cases hl : formEL g l = 0
      · rw [if_neg (by simpa using hl)] at hf; exact ⟨hl, hf⟩
      · rw [if_pos hl] at hf; exact absurd hf hl
    rw [ptsT, fvP_append, walkT]
    have e2 : (stF s ⟨v, f, l⟩).2 = true := rfl
    rw [e2]
    simp only [if_true]
    by_cases hv : v = 0
    · have e1 : (stF s ⟨v, f, l⟩).1 = s := by unfold stF; simp [hv]
      have h1 := ih ha s
      rw [e1]
      refine ⟨?_, h1.2⟩
      rw [h1.1]
      unfold fvP; simp [stepV, hv]
    · have hl : l = [] := by
        unfold partE at hp
        rw [if_pos hv] at hp
        split at hp
        · split at hp
          · rename_i h; exact List.length_eq_zero_iff.1 h.1
          · cases hp
        · cases hp
      subst hl
      refine ⟨?_, by rw [walkL]⟩
      rw [walkL]; rfl
  · intro _ s; exact ⟨rfl, by rw [walkL]⟩
  · intro t ts h1 h2 hf s
    rw [formEL] at hf
    by_cases hl : formE g t = 0
    · rw [if_neg (by simpa using hl)] at hf
      obtain ⟨a1, a2⟩ := h1 hl s
      obtain ⟨b1, b2⟩ := h2 hf (fvP s (ptsT t))
      rw [ptsL, fvP_append]
      rw [a1] at b1 b2 ⊢
      have e := a2
      have : walkL stF s (t :: ts) = walkL stF (walkT stF s t).1 ts := by
        rw [walkL]
        generalize walkT stF s t = r at *
        obtain ⟨r1, r2⟩ := r
        simp only at e; subst e
        rfl
      rw [this]
      exact ⟨b1, b2⟩
    · rw [if_pos hl] at hf; exact absurd hf hl
theorem stL_fvL (g : List Int) (l : List Tm) : (∀ t ∈ l, formE g t = 0) → ∀ s, stL s l = fvL s l := by
  induction l with
  | nil => intro _ s; rfl
  | cons t ts ih =>
    intro h s
    rw [stL, fvL, (walk_fv g t (h t (by simp)) s).1]
    exact ih (fun x hx => h x (by simp [hx])) _
end Go.Proofs.Ytcgnpmjkeifokaa
-- K53
/- superposeref.TidyOf. -/
namespace Go.Proofs.Ytcgnpmjkeifokaa
open Go.RowKit Go.Proofs.YtcgnpmjkeifokaaW.PrintWords
set_option linter.unusedVariables false
set_option linter.unusedSimpArgs false
def dupQ (l x : Li) : Bool := x.f0 == l.f0 && sidesB x l
def trivN (l : Li) : Bool := !l.f0 && eqT l.f1 l.f2
def dropB (pre : List Li) (l : Li) : Bool := trivN l || pre.any (dupQ l)
/-- Of the first k literals those that stay. -/
def kpt (c : List Li) : Nat → List Li
  | 0 => []
  | k + 1 => if dropB (c.take k) (rd_Li c k) then kpt c k else kpt c k ++ [rd_Li c k]
theorem kpt_t {c : List Li} {k : Nat} (h : dropB (c.take k) (rd_Li c k) = true) : kpt c (k+1) = kpt c k := by rw [kpt, h]; rfl
theorem kpt_f {c : List Li} {k : Nat} (h : dropB (c.take k) (rd_Li c k) = false) : kpt c (k+1) = kpt c k ++ [rd_Li c k] := by rw [kpt, h]; rfl
theorem kpt_len (c : List Li) (k : Nat) : (kpt c k).length ≤ k := by
  induction k with
  | zero => simp [kpt]
  | succ k ih => rw [kpt]; split <;> (try simp) <;> omega
theorem szTms_append (a b : List Li) : szL (tmsL (a ++ b)) = szL (tmsL a) + szL (tmsL b) := by rw [tmsL_append, szL_append]
theorem kpt_sz (c : List Li) (k : Nat) (hk : k ≤ c.length) : szL (tmsL (kpt c k)) ≤ szL (tmsL (c.take k)) := by
  induction k with
  | zero => exact Nat.le_refl _
  | succ k ih =>
    have := ih (by omega)
    rw [List.take_succ_eq_append_getElem (by omega), szTms_append, kpt]
    split
    · omega
    · rw [szTms_append, rdLi_get c k (by omega)]; omega
theorem tms_take_le (c : List Li) (k : Nat) : szL (tmsL (c.take k)) ≤ szL (tmsL c) := by
  have := szTms_append (c.take k) (c.drop k); rw [List.take_append_drop] at this; omega
/-- The variables numbered anew. -/
def numK (vs : List Int) : Nat → List Bd
  | 0 => []
  | k + 1 => numK vs k ++ [⟨vs.getD k 0, ⟨(k : Int) + 1, 0, []⟩⟩]
theorem numK_len (vs : List Int) (k : Nat) : (numK vs k).length = k := by
  induction k with
  | zero => rfl
  | succ k ih => rw [numK, List.length_append, ih]; rfl
def numB (vs : List Int) : List Bd := numK vs vs.length
def tidyK (c : List Li) : List Li := appC (bds (numB (fvL [] (tmsL c)))) c
def tidyL (c : List Li) : List Li := tidyK (kpt c c.length)
theorem or_step {d0 bj : Bool} {c : List Li} {j : Nat} {q : Li → Bool} (hj : j < c.length) (h : bj = (d0 || (c.take j).any q)) : (d0 || (c.take (j+1)).any q) = (bj || q (rd_Li c j)) := by
  rw [h, List.take_succ_eq_append_getElem hj, List.any_append, rdLi_get c j hj]; simp [Bool.or_assoc]
end Go.Proofs.Ytcgnpmjkeifokaa
-- K56
/- Plain laws of tidying: what stays; the variables numbered anew; clause.Neat$1, Neat$2. -/
namespace Go.Proofs.Ytcgnpmjkeifokaa
open Go.RowKit Go.Proofs.YtcgnpmjkeifokaaW.PrintWords
set_option linter.unusedVariables false
set_option linter.unusedSimpArgs false
/-! ### sides -/
def sidP (a b : Li) : Prop := (a.f1 = b.f1 ∧ a.f2 = b.f2) ∨ (a.f1 = b.f2 ∧ a.f2 = b.f1)
theorem sidesB_iff (a b : Li) : sidesB a b = true ↔ sidP a b := by
  unfold sidesB sidP
  simp only [Bool.or_eq_true, Bool.and_eq_true, eqT_iff]
theorem dupQ_iff (l x : Li) : dupQ l x = true ↔ x.f0 = l.f0 ∧ sidP x l := by
  unfold dupQ
  rw [Bool.and_eq_true, beq_iff_eq, sidesB_iff]
theorem dupQ_trans {x y l : Li} (h1 : dupQ x y = true) (h2 : dupQ l x = true) : dupQ l y = true := by
  rw [dupQ_iff] at *
  obtain ⟨a1, b1⟩ := h1
  obtain ⟨a2, b2⟩ := h2
  refine ⟨a1.trans a2, ?_⟩
  unfold sidP at *
  rcases b1 with ⟨p, q⟩ | ⟨p, q⟩ <;> rcases b2 with ⟨r, s⟩ | ⟨r, s⟩
  · exact .inl ⟨p.trans r, q.trans s⟩
  · exact .inr ⟨p.trans r, q.trans s⟩
  · exact .inr ⟨p.trans s, q.trans r⟩
  · exact .inl ⟨p.trans s, q.trans r⟩
theorem dupQ_triv {x l : Li} (h : dupQ l x = true) (ht : trivN x = true) : trivN l = true := by
  rw [dupQ_iff] at h
  obtain ⟨a, b⟩ := h
  unfold trivN at *
  rw [Bool.and_eq_true, eqT_iff] at *
  refine ⟨by rw [← a]; exact ht.1, ?_⟩
  rcases b with ⟨p, q⟩ | ⟨p, q⟩
  · rw [← p, ← q]; exact ht.2
  · rw [← p, ← q]; exact ht.2.symm
/-- What stays, told by what has stayed. -/
def nkp (c : List Li) : Nat → List Li
  | 0 => []
  | k + 1 => if trivN (rd_Li c k) || (nkp c k).any (dupQ (rd_Li c k)) then nkp c k else nkp c k ++ [rd_Li c k]
theorem nkp_kpt (c : List Li) : ∀ k, k ≤ c.length → nkp c k = kpt c k ∧ (∀ x ∈ c.take k, trivN x = true ∨ ∃ y ∈ kpt c k, dupQ x y = true) ∧ (∀ y ∈ kpt c k, y ∈ c.take k) := by
  intro k
  induction k with
  | zero => intro _; exact ⟨rfl, fun x hx => by simp at hx, fun y hy => by simp [kpt] at hy⟩
  | succ k ih =>
    intro hk
    obtain ⟨h1, h2, h3⟩ := ih (by omega)
    have hl : rd_Li c k = c[k] := rdLi_get c k (by omega)
    have hany : (nkp c k).any (dupQ (rd_Li c k)) = true ∨ trivN (rd_Li c k) = true ↔ dropB (c.take k) (rd_Li c k) = true := by
      unfold dropB
      rw [Bool.or_eq_true, h1]
      constructor
      · rintro (h | h)
        · obtain ⟨y, hy, hq⟩ := List.any_eq_true.1 h
          exact .inr (List.any_eq_true.2 ⟨y, h3 y hy, hq⟩)
        · exact .inl h
      · rintro (h | h)
        · exact .inr h
        · obtain ⟨x, hx, hq⟩ := List.any_eq_true.1 h
          rcases h2 x hx with ht | ⟨y, hy, hq2⟩
          · exact .inr (dupQ_triv hq ht)
          · exact .inl (List.any_eq_true.2 ⟨y, hy, dupQ_trans hq2 hq⟩)
    have hE : (trivN (rd_Li c k) || (nkp c k).any (dupQ (rd_Li c k))) = dropB (c.take k) (rd_Li c k) := by
      rw [Bool.eq_iff_iff, ← hany, Bool.or_eq_true, or_comm]
    have htk : c.take (k+1) = c.take k ++ [rd_Li c k] := by rw [List.take_succ_eq_append_getElem (by omega), hl]
    refine ⟨by rw [nkp, kpt, hE, h1], ?_, ?_⟩
    · intro x hx
      rw [htk, List.mem_append] at hx
      rw [kpt]
      rcases hx with hx | hx
      · rcases h2 x hx with h | ⟨y, hy, hq⟩
        · exact .inl h
        · refine .inr ⟨y, ?_, hq⟩
          split
          · exact hy
          · exact List.mem_append.2 (.inl hy)
      · obtain rfl : x = rd_Li c k := by simpa using hx
        cases hd : dropB (c.take k) (rd_Li c k) with
        | true =>
          rw [if_pos rfl]
          rcases hany.2 hd with h | h
          · obtain ⟨y, hy, hq⟩ := List.any_eq_true.1 h
            exact .inr ⟨y, by rw [← h1]; exact hy, hq⟩
          · exact .inl h
        | false =>
          refine .inr ⟨rd_Li c k, by simp, ?_⟩
          rw [dupQ_iff]; exact ⟨rfl, .inl ⟨rfl, rfl⟩⟩
    · intro y hy
      rw [htk, List.mem_append]
      rw [kpt] at hy
      split at hy
      · exact .inl (h3 y hy)
      · rw [List.mem_append] at hy; exact hy.imp (h3 y) id
theorem nkp_all (c : List Li) : nkp c c.length = kpt c c.length := (nkp_kpt c c.length (Nat.le_refl _)).1
theorem kpt_mem {c : List Li} {y : Li} (h : y ∈ kpt c c.length) : y ∈ c := by
  have := (nkp_kpt c c.length (Nat.le_refl _)).2.2 y h
  rwa [List.take_length] at this
theorem tms_kpt {c : List Li} {t : Tm} (h : t ∈ tmsL (kpt c c.length)) : t ∈ tmsL c := by
  obtain ⟨l, hl, ht⟩ := tmsL_mem h
  have := tms_mem1 (kpt_mem hl)
  rcases ht with rfl | rfl
  · exact this.1
  · exact this.2
/-! ### the variables' numbers -/
theorem fvP_nodup (l : List Tm) : ∀ s : List Int, s.Nodup → (fvP s l).Nodup := by
  induction l with
  | nil => intro s h; exact h
  | cons t ts ih =>
    intro s h
    have e : fvP s (t :: ts) = fvP (stepV s t) ts := rfl
    rw [e]
    refine ih _ ?_
    unfold stepV
    split
    · rename_i hh
      rw [List.nodup_append]
      refine ⟨h, by simp, ?_⟩
      intro a ha b hb
      simp at hb
      subst hb
      rintro rfl
      have h2 := hh.2
      rw [hasB_iff.2 ha] at h2
      cases h2
    · exact h
theorem fvL_nodup (l : List Tm) : ∀ s : List Int, s.Nodup → (fvL s l).Nodup := by
  induction l with
  | nil => intro s h; exact h
  | cons t ts ih => intro s h; rw [fvL]; exact ih _ (fvP_nodup _ _ h)
theorem numK_none {vs : List Int} {v : Int} : ∀ k, k ≤ vs.length → v ∉ vs.take k → mget (bds (numK vs k)) v = none := by
  intro k
  induction k with
  | zero => intro _ _; rfl
  | succ k ih =>
    intro hk hv
    rw [List.take_succ_eq_append_getElem (by omega), List.mem_append] at hv
    rw [numK, bds_append, mget_append (ih (by omega) (fun h => hv (.inl h))), bds_one, mget, if_neg ?_]
    · rfl
    · intro e
      refine hv (.inr ?_)
      rw [← e]
      simp [List.getD_eq_getElem?_getD, show k < vs.length by omega]
theorem numK_new {vs : List Int} (hn : vs.Nodup) {k : Nat} (hk : k < vs.length) : mget (bds (numK vs k)) (vs.getD k 0) = none := by
  refine numK_none k (by omega) ?_
  have e : vs.getD k 0 = vs[k] := by simp [List.getD_eq_getElem?_getD, hk]
  rw [e]
  intro hm
  obtain ⟨i, hi, he⟩ := List.getElem_of_mem hm
  rw [List.length_take] at hi
  rw [List.getElem_take] at he
  have := (List.getElem_inj hn).1 he
  omega
theorem numK_var {vs : List Int} {v : Int} {u : Tm} : ∀ k, mget (bds (numK vs k)) v = some u → ∃ i, u = ⟨i, 0, []⟩ := by
  intro k
  induction k with
  | zero => intro h; cases h
  | succ k ih =>
    intro h
    rw [numK, bds_append] at h
    cases hg : mget (bds (numK vs k)) v with
    | some u2 =>
      rw [mget_prefix hg] at h
      injection h with h
      subst h
      exact ih hg
    | none =>
      rw [mget_append hg, bds_one, mget] at h
      split at h
      · injection h with h; exact ⟨_, h.symm⟩
      · cases h
theorem numK_step {vs : List Int} (hn : vs.Nodup) {k : Nat} (hk : k < vs.length) : mset (bds (numK vs k)) (vs.getD k 0) ⟨(k : Int) + 1, 0, []⟩ = bds (numK vs (k+1)) := by
  rw [mset_new (numK_new hn hk), numK, bds_append, bds_one]
theorem each_app (g : List Int) (m : List (Int × Tm)) : ∀ c : List Li, (∀ t ∈ tmsL c, formE g t = 0) → eachC (mapT (dlt m)) c = appC m c := by
  intro c
  induction c with
  | nil => intro _; rfl
  | cons l c ih =>
    intro h
    have e1 : eachC (mapT (dlt m)) (l :: c) = ⟨l.f0, mapT (dlt m) l.f1, mapT (dlt m) l.f2⟩ :: eachC (mapT (dlt m)) c := rfl
    have e2 : appC m (l :: c) = ⟨l.f0, appT m l.f1, appT m l.f2⟩ :: appC m c := rfl
    rw [e1, e2, ih (fun t ht => h t (by simp [tmsL, ht])), map_app g m _ (h _ (by simp [tmsL])), map_app g m _ (h _ (by simp [tmsL]))]
set_option maxHeartbeats 4000000 in
set_option maxRecDepth 100000 in
theorem neat1_any (l x : Li) (A3 A6 B3 B6 : Option Addr) (c3 c6 d3 d6 b : Nat) (okl okx : Nat → Prop) (W : World) (hb : W.heap[b]? = some (.cells #[.bool l.f0, .int .i64 l.f1.f0, .int .i64 l.f1.f1, .slice A3 l.f1.f2.length c3, .int .i64 l.f2.f0, .int .i64 l.f2.f1, .slice A6 l.f2.f2.length c6] 84 (0, 0))) (hL : LiF W okl l A3 c3 A6 c6) (hX : LiF W okx x B3 d3 B6 d6) :
    Calls Try.prog 95 #[.agg #[.bool x.f0, .int .i64 x.f1.f0, .int .i64 x.f1.f1, .slice B3 x.f1.f2.length d3, .int .i64 x.f2.f0, .int .i64 x.f2.f1, .slice B6 x.f2.f2.length d6], .pointer (some ⟨b, 0, none⟩)] W fun e w' => e = .returned (.bool (dupQ l x)) ∧ Below W.heap.size W w' := by
  have HB := Aside0.mk (below_alloc (Below.refl W.heap.size W) (.cells #[.bool x.f0, .int .i64 x.f1.f0, .int .i64 x.f1.f1, .slice B3 x.f1.f2.length d3, .int .i64 x.f2.f0, .int .i64 x.f2.f1, .slice B6 x.f2.f2.length d6] 84))
  have g0 := newAt (w := W) (o := .cells #[.bool x.f0, .int .i64 x.f1.f0, .int .i64 x.f1.f1, .slice B3 x.f1.f2.length d3, .int .i64 x.f2.f0, .int .i64 x.f2.f1, .slice B6 x.f2.f2.length d6] 84) rfl
  have g1 := blk_alloc hb (.cells #[.bool x.f0, .int .i64 x.f1.f0, .int .i64 x.f1.f1, .slice B3 x.f1.f2.length d3, .int .i64 x.f2.f0, .int .i64 x.f2.f1, .slice B6 x.f2.f2.length d6] 84)
  have HL := Aside0.mk (hL.below HB.out)
  have HX := Aside0.mk (hX.below HB.out)
  clear hb hL hX
  go_enter Try.func95, Try.ntmps95
  go_upto_region 1 with (fail)
  generalize W.alloc (.cells #[.bool x.f0, .int .i64 x.f1.f0, .int .i64 x.f1.f1, .slice B3 x.f1.f2.length d3, .int .i64 x.f2.f0, .int .i64 x.f2.f1, .slice B6 x.f2.f2.length d6] 84) = W1 at *
  obtain ⟨x0, x1, x2, x3, x4, x5, x6⟩ := li_cells g0
  obtain ⟨l0, l1, l2, l3, l4, l5, l6⟩ := li_cells g1
  clear g0 g1
  cases hq : x.f0 == l.f0 with
  | false =>
    have HR : Aside0 (dupQ l x = false) := ⟨by unfold dupQ; rw [hq]; rfl⟩
    go_wp2
    go_ret
    exact ⟨ret_bool HR.out.symm, HB.out⟩
  | true =>
    have HR : Aside0 (dupQ l x = sidesB x l) := ⟨by unfold dupQ; rw [hq]; rfl⟩
    have HC := Aside0.mk (sides_any x l B3 B6 A3 A6 d3 d6 c3 c6 _ _ W1 HX.out.F3 HX.out.l3 HX.out.F6 HX.out.l6 HL.out.F3 HL.out.l3 HL.out.F6 HL.out.l6)
    go_wp2_with (fail)
    refine HC.out.mono ?_
    rintro e w2 ⟨rfl, hb2⟩
    have HB2 := Aside0.mk (hbT HB.out hb2)
    clear hb2 x0 x1 x2 x3 x4 x5 x6 l0 l1 l2 l3 l4 l5 l6
    go_wp2
    go_ret
    exact ⟨ret_bool HR.out.symm, HB2.out⟩
set_option maxHeartbeats 4000000 in
set_option maxRecDepth 100000 in
theorem neat2_any (m : List (Int × Tm)) (b g : Nat) (okm : Nat → Prop) (hsz : ∀ v u, mget m v = some u → szT u * 40 ≤ 140737488355328) (x : Tm) (A : Option Addr) (c : Nat) (W : World) (hbd : szT x * 40 ≤ 140737488355328) (hM : MapT W b okm m) (hg : W.heap[g]? = some (.cells #[.map (some b)] 121 (0, 0))) (hF : Kd.F kTm W (fun _ => True) A x.f2.length x.f2) (hc : x.f2.length ≤ c) :
    Calls Try.prog 98 (#[.agg #[.int .i64 x.f0, .int .i64 x.f1, .slice A x.f2.length c]] ++ #[.pointer (some ⟨g, 0, none⟩)]) W fun e w' => ∃ (A' : Option Addr) (c' : Nat), e = .returned (.agg #[.int .i64 (mapT (dlt m) x).f0, .int .i64 (mapT (dlt m) x).f1, .slice A' (mapT (dlt m) x).f2.length c']) ∧ (mapT (dlt m) x).f2.length ≤ c' ∧ Kd.F kTm w' (fun k => W.heap.size ≤ k) A' (mapT (dlt m) x).f2.length (mapT (dlt m) x).f2 ∧ Below W.heap.size W w' := by
  have a0 := blk_alloc (newAt (w := W) (o := .cells #[.int .i64 x.f0, .int .i64 x.f1, .slice A x.f2.length c] 46) rfl) (.cells #[.int .i64 0, .int .i64 0, .slice none 0 0] 46)
  have a1 := newAt (w := W.alloc (.cells #[.int .i64 x.f0, .int .i64 x.f1, .slice A x.f2.length c] 46)) (o := .cells #[.int .i64 0, .int .i64 0, .slice none 0 0] 46) (k := W.heap.size + 1) (by simp)
  have a2 := blk_alloc (blk_alloc hg (.cells #[.int .i64 x.f0, .int .i64 x.f1, .slice A x.f2.length c] 46)) (.cells #[.int .i64 0, .int .i64 0, .slice none 0 0] 46)
  have HB := Aside0.mk (below_alloc (below_alloc (Below.refl W.heap.size W) (.cells #[.int .i64 x.f0, .int .i64 x.f1, .slice A x.f2.length c] 46)) (.cells #[.int .i64 0, .int .i64 0, .slice none 0 0] 46))
  have HM := Aside0.mk (MapT.below hM HB.out)
  have HF := Aside0.mk (Kd.F_below hF HB.out)
  have hlen := Kd.F_max hF
  clear hM hg hF
  show Calls Try.prog 98 #[.agg #[.int .i64 x.f0, .int .i64 x.f1, .slice A x.f2.length c], .pointer (some ⟨g, 0, none⟩)] W _
  go_enter Try.func98, Try.ntmps98
  go_upto_region 1 with (fail)
  generalize (W.alloc (.cells #[.int .i64 x.f0, .int .i64 x.f1, .slice A x.f2.length c] 46)).alloc (.cells #[.int .i64 0, .int .i64 0, .slice none 0 0] 46) = W1 at *
  have G1 := Aside0.mk a1
  have m0 := map_cell a2
  obtain ⟨p0, p1, p2⟩ := tm_cells a0
  have hlg := blk_lt a1
  clear a0 a1 a2
  have HMP := Aside0.mk (made_any m b okm _ hsz x A c W1 hbd HM.out HF.out hc)
  go_wp2_with (first | (go_at_call 99; refine HMP.out.mono ?_; rintro e w2 ⟨A', c', rfl, hc', hF2, hb2⟩; have HF2 := Aside0.mk hF2; have HB2 := Aside0.mk hb2; have HR2 := Aside0.mk ((hb2.block _ hlg).trans G1.out); clear hF2 hb2 p0 p1 p2 m0) | (((with_reducible refine gate_store (t := 46) (p := 3) rfl ?_); refine st_tm 3 rfl rfl rfl rfl rfl HR2.out ?_); intro w1 hs1 hG1 hz1; have HS1 := Aside0.mk hs1; have HG1 := Aside0.mk hG1; clear hs1 hG1))
  ((try simp only [Exit.inBlock, Exit.then]); refine bodyPost_ret (results_cell_row rfl _ _ _ 46 _ (0, 0) _ rfl HS1.out Try.underlying46 rfl (by kernel_rfl)) rfl ?_)
  exact ⟨A', c', rfl, hc', Kd.F_mono (Kd.F_grown HF2.out HG1.out (fun k hk => by intro e; injection e with e; omega)) (fun k hk => by have := HB.out.size; omega), gbS (hbT HB.out HB2.out) HG1.out (by omega)⟩
end Go.Proofs.Ytcgnpmjkeifokaa
-- K57
/- clause.Neat, Tidy. -/
namespace Go.Proofs.Ytcgnpmjkeifokaa
open Go.RowKit Go.Proofs.YtcgnpmjkeifokaaW.PrintWords
set_option linter.unusedVariables false
set_option linter.unusedSimpArgs false
theorem nkp_t {c : List Li} {k : Nat} {l : Li} (hl : rd_Li c k = l) (h : (trivN l || (nkp c k).any (dupQ l)) = true) : nkp c (k+1) = nkp c k := by rw [nkp, hl, h]; rfl
theorem nkp_f {c : List Li} {k : Nat} {l : Li} (hl : rd_Li c k = l) (h : (trivN l || (nkp c k).any (dupQ l)) = false) : nkp c (k+1) = nkp c k ++ [l] := by rw [nkp, hl, h]; rfl
theorem nkp_len (c : List Li) (k : Nat) : (nkp c k).length ≤ k := by
  induction k with
  | zero => simp [nkp]
  | succ k ih => rw [nkp]; split <;> (try simp) <;> omega
set_option maxHeartbeats 4000000 in
set_option maxRecDepth 100000 in
theorem neat_any (g : List Int) (c : List Li) (Ac : Option Addr) (cc : Nat) (okc : Nat → Prop) (w : World) (hbd : szL (tmsL c) ≤ 1000000) (hcl : c.length ≤ 1000000) (hr : ∀ t ∈ tmsL c, formE g t = 0) (hC : Kd.F kLi w okc Ac c.length c) :
    Calls Try.prog 52 #[.slice Ac c.length cc] w fun e w' => ∃ A' c', e = .returned (.slice A' (tidyL c).length c') ∧ (tidyL c).length ≤ c' ∧ Kd.F kLi w' (fun k => w.heap.size ≤ k) A' (tidyL c).length (tidyL c) ∧ Below w.heap.size w w' := by
  have hlen := Kd.F_max hC
  have HC := Aside0.mk (Kd.F_bound hC)
  have HBD := Aside0.mk hbd
  have HCL := Aside0.mk hcl
  have HRT := Aside0.mk hr
  have hmm := @run_makeMap Try.prog
  clear hC hbd hcl hr
  go_enter Try.func52, Try.ntmps52
  go_wp2
  go_loopw [3, 11] (fun v0 i wr => ∃ (k : Nat) (vk : Value), k ≤ c.length ∧ i = .int .i64 k ∧ vk = v0 ∧ Aside0 (Kd.N kLi 84 wr w.heap.size (fun k => (okc k ∧ k < w.heap.size) ∨ w.heap.size ≤ k) vk (nkp c k)) ∧ Aside0 (Below w.heap.size w wr)) (fun _ i _ => c.length - (intOf i).toNat)
  case atStart => exact ⟨0, _, by omega, rfl, rfl, ⟨Kd.N_nil _ _ _ _ _⟩, ⟨Below.refl _ _⟩⟩
  case round =>
    rename World => wo
    obtain ⟨k, vk, hk, rfl, rfl, HN, HB⟩ := hrel
    have hzr := HB.out.size
    have HZR := Aside0.mk hzr
    by_cases hlt : k < c.length
    · obtain ⟨ad, A3, c3, A6, c6, rfl, E0, E1, E2, E3, E4, E5, E6, hL, hok0⟩ := at_Lit (Kd.F_below HC.out HB.out) k hlt
      have HL := Aside0.mk hL
      have HKL := Aside0.mk (nkp_len c k)
      have hki : (k : Int) < c.length := by omega
      clear hL hzr
      generalize hl : rd_Li c k = l at *
      have HKt := Aside0.mk (nkp_t hl)
      have HKf := Aside0.mk (nkp_f hl)
      clear hl
      obtain ⟨Av, cv, rfl⟩ := Kd.N_slice HN.out
      have HNB := Aside0.mk (Kd.N_base HN.out)
      generalize nkp c k = s at *
      go_upto_region 5 with (((with_reducible refine gate_store (t := 84) (p := 5) rfl ?_); refine st_li 5 rfl rfl rfl rfl rfl (heap_alloc_new _ _) ?_); intro w4 hs4 hG4 hz4; have HX4 := Aside0.mk hs4; have HB4 := Aside0.mk (gbS (below_alloc (Below.refl wo.heap.size wo) _) hG4 (Nat.le_refl _)); clear hs4 hG4 hz4 E0 E1 E2 E3 E4 E5 E6)
      have HBw4 := Aside0.mk (hbT HB.out HB4.out)
      have HL4 := Aside0.mk (HL.out.below HB4.out)
      have HN4 := Aside0.mk (Kd.N_below HN.out HB4.out)
      obtain ⟨x0, x1, x2, x3, x4, x5, x6⟩ := li_cells HX4.out
      cases hy : l.f0 with
      | true =>
        have HTV : Aside0 (trivN l = false) := ⟨by unfold trivN; rw [hy]; rfl⟩
        rw [hy] at x0
        have HBq := Aside0.mk (Below.refl w4.heap.size w4)
        have HCF := Aside0.mk (containsFuncL 95 #[.pointer (some ⟨wo.heap.size, 0, none⟩)] (dupQ l) (enters_of Try.func95 (by kernel_rfl) rfl) s Av cv _ w4 (Kd.N_F (Kd.N_below HN4.out HBq.out)) (fun x _ B3 d3 B6 d6 W3 hb3 hX3 => neat1_any l x A3 A6 B3 B6 c3 c6 d3 d6 wo.heap.size _ _ W3 ((hb3.block _ (blk_lt HX4.out)).trans HX4.out) (HL4.out.below hb3) hX3))
        clear hy
        go_wp2_with (fail)
        refine HCF.out.mono ?_
        rintro e w5 ⟨rfl, hb5⟩
        have HB5 := Aside0.mk hb5
        clear hb5 HCF x0 x1 x2 x3 x4 x5 x6
        have HBw5 := Aside0.mk (hbT (hbT HBw4.out HBq.out) HB5.out)
        have HN5 := Aside0.mk (Kd.N_below (Kd.N_below HN4.out HBq.out) HB5.out)
        cases hd : s.any (dupQ l) with
        | true =>
          have HR : Aside0 (nkp c (k+1) = s) := ⟨HKt.out (by rw [HTV.out, hd]; rfl)⟩
          clear hd
          go_wp2
          go_roundw
          case rel => exact ⟨k + 1, _, by omega, by go_num, rfl, ⟨by rw [HR.out]; exact HN5.out⟩, HBw5⟩
          case measure => simp [intOf]; omega
        | false =>
          have HR : Aside0 (nkp c (k+1) = s ++ [l]) := ⟨HKf.out (by rw [HTV.out, hd]; rfl)⟩
          obtain ⟨x0, x1, x2, x3, x4, x5, x6⟩ := li_cells ((HB5.out.block _ (Nat.lt_of_lt_of_le (blk_lt HX4.out) HBq.out.size)).trans ((HBq.out.block _ (blk_lt HX4.out)).trans HX4.out))
          have HL5 := Aside0.mk ((HL.out.below HB4.out).below (hbT HBq.out HB5.out))
          clear hd
          go_wp2_with (at_builtin; refine Kd.N_append kLi (w0 := w5) w.heap.size rfl _ _ 26 84 _ 88 rfl Try.underlying26 infoLi rfl (by decide) (by decide) (.slice Av s.length cv) s l _ (fun k => (okc k ∧ k < w.heap.size) ∨ w.heap.size ≤ k) (fun k => okc k ∧ k < w.heap.size) rfl rfl (kLi_mkF w5 _ _ HL5.out.l3 HL5.out.F3 HL5.out.l6 HL5.out.F6) (fun q hq => ⟨.inl hq, fun e => by have := HNB.out q e.symm; have := hq.2; omega⟩) (fun q hq => .inr (Nat.le_trans HBw5.out.size hq)) HN5.out (Below.refl _ _) HBw5.out.size ?_ ?_; (have := HKL.out; have := HCL.out; omega); intro v7 w7 hN7 hB7 hG7 hI7; have HN7 := Aside0.mk hN7; have HB7 := Aside0.mk hB7; clear hN7 hB7 hG7 hI7)
          go_roundw
          case rel => exact ⟨k + 1, v7, by omega, by go_num, rfl, ⟨by rw [HR.out]; exact HN7.out⟩, ⟨HBw5.out.trans HB7.out⟩⟩
          case measure => simp [intOf]; omega
      | false =>
        have HTV : Aside0 (trivN l = eqT l.f1 l.f2) := ⟨by unfold trivN; rw [hy]; rfl⟩
        rw [hy] at x0
        clear hy
        go_wp2_with (fail)
        refine (same_any (szT l.f1) l.f1 l.f2 A3 A6 c3 c6 _ _ w4 (Nat.le_refl _) HL4.out.F3 HL4.out.l3 HL4.out.F6 HL4.out.l6).mono ?_
        rintro e w45 ⟨rfl, hbq⟩
        have HBq := Aside0.mk hbq
        clear hbq x0 x1 x2 x3 x4 x5 x6
        cases he : eqT l.f1 l.f2 with
        | true =>
          have HR : Aside0 (nkp c (k+1) = s) := ⟨HKt.out (by rw [HTV.out, he]; rfl)⟩
          clear he
          go_wp2
          go_roundw
          case rel => exact ⟨k + 1, _, by omega, by go_num, rfl, ⟨by rw [HR.out]; exact Kd.N_below HN4.out HBq.out⟩, ⟨hbT HBw4.out HBq.out⟩⟩
          case measure => simp [intOf]; omega
        | false =>
          have HTV : Aside0 (trivN l = false) := ⟨by rw [HTV.out, he]⟩
          have HX45 := Aside0.mk ((HBq.out.block _ (blk_lt HX4.out)).trans HX4.out)
          have HCF := Aside0.mk (containsFuncL 95 #[.pointer (some ⟨wo.heap.size, 0, none⟩)] (dupQ l) (enters_of Try.func95 (by kernel_rfl) rfl) s Av cv _ w45 (Kd.N_F (Kd.N_below HN4.out HBq.out)) (fun x _ B3 d3 B6 d6 W3 hb3 hX3 => neat1_any l x A3 A6 B3 B6 c3 c6 d3 d6 wo.heap.size _ _ W3 ((hb3.block _ (blk_lt HX45.out)).trans HX45.out) ((HL4.out.below HBq.out).below hb3) hX3))
          clear he
          go_wp2_with (fail)
          refine HCF.out.mono ?_
          rintro e w5 ⟨rfl, hb5⟩
          have HB5 := Aside0.mk hb5
          clear hb5 HCF
          have HBw5 := Aside0.mk (hbT (hbT HBw4.out HBq.out) HB5.out)
          have HN5 := Aside0.mk (Kd.N_below (Kd.N_below HN4.out HBq.out) HB5.out)
          cases hd : s.any (dupQ l) with
          | true =>
            have HR : Aside0 (nkp c (k+1) = s) := ⟨HKt.out (by rw [HTV.out, hd]; rfl)⟩
            clear hd
            go_wp2
            go_roundw
            case rel => exact ⟨k + 1, _, by omega, by go_num, rfl, ⟨by rw [HR.out]; exact HN5.out⟩, HBw5⟩
            case measure => simp [intOf]; omega
          | false =>
            have HR : Aside0 (nkp c (k+1) = s ++ [l]) := ⟨HKf.out (by rw [HTV.out, hd]; rfl)⟩
            obtain ⟨x0, x1, x2, x3, x4, x5, x6⟩ := li_cells ((HB5.out.block _ (Nat.lt_of_lt_of_le (blk_lt HX4.out) HBq.out.size)).trans ((HBq.out.block _ (blk_lt HX4.out)).trans HX4.out))
            have HL5 := Aside0.mk ((HL.out.below HB4.out).below (hbT HBq.out HB5.out))
            clear hd
            go_wp2_with (at_builtin; refine Kd.N_append kLi (w0 := w5) w.heap.size rfl _ _ 26 84 _ 88 rfl Try.underlying26 infoLi rfl (by decide) (by decide) (.slice Av s.length cv) s l _ (fun k => (okc k ∧ k < w.heap.size) ∨ w.heap.size ≤ k) (fun k => okc k ∧ k < w.heap.size) rfl rfl (kLi_mkF w5 _ _ HL5.out.l3 HL5.out.F3 HL5.out.l6 HL5.out.F6) (fun q hq => ⟨.inl hq, fun e => by have := HNB.out q e.symm; have := hq.2; omega⟩) (fun q hq => .inr (Nat.le_trans HBw5.out.size hq)) HN5.out (Below.refl _ _) HBw5.out.size ?_ ?_; (have := HKL.out; have := HCL.out; omega); intro v7 w7 hN7 hB7 hG7 hI7; have HN7 := Aside0.mk hN7; have HB7 := Aside0.mk hB7; clear hN7 hB7 hG7 hI7)
            go_roundw
            case rel => exact ⟨k + 1, v7, by omega, by go_num, rfl, ⟨by rw [HR.out]; exact HN7.out⟩, ⟨HBw5.out.trans HB7.out⟩⟩
            case measure => simp [intOf]; omega
    · obtain rfl : k = c.length := by omega
      obtain ⟨Av, cv, rfl⟩ := Kd.N_slice HN.out
      rw [nkp_all] at HN
      have HKZ : Aside0 (szL (tmsL (kpt c c.length)) ≤ 1000000) := ⟨by have := kpt_sz c c.length (Nat.le_refl _); have := tms_take_le c c.length; have := HBD.out; omega⟩
      have HKL : Aside0 ((kpt c c.length).length ≤ 1000000) := ⟨by have := kpt_len c c.length; have := HCL.out; omega⟩
      have HTD : Aside0 (tidyL c = tidyK (kpt c c.length)) := ⟨rfl⟩
      have HRK : Aside0 (∀ t ∈ tmsL (kpt c c.length), formE g t = 0) := ⟨fun t ht => HRT.out t (tms_kpt ht)⟩
      simp only [nkp_all] at *
      generalize kpt c c.length = s at *
      have HFS := Aside0.mk (Kd.F_bound (Kd.N_F HN.out))
      have HBm := Aside0.mk (below_alloc (below_alloc (Below.refl wo.heap.size wo) (.map #[] 0)) (.cells #[.map (some wo.heap.size)] 121))
      have HM0 := Aside0.mk (MapT.below (MapT.made wo (fun _ => False)) (below_alloc (Below.refl _ _) (.cells #[.map (some wo.heap.size)] 121)))
      have HG6 := Aside0.mk (newAt (w := wo.alloc (.map #[] 0)) (o := .cells #[.map (some wo.heap.size)] 121) (k := wo.heap.size + 1) (by simp))
      have HFV : Aside0 (stL [] (tmsL s) = fvL [] (tmsL s)) := ⟨stL_fvL g _ HRK.out []⟩
      have HVL : Aside0 ((fvL [] (tmsL s)).length ≤ 1000000) := ⟨by have := fvL_len (tmsL s) []; have := HKZ.out; simp at *; omega⟩
      have HND : Aside0 ((fvL [] (tmsL s)).Nodup) := ⟨fvL_nodup _ _ List.nodup_nil⟩
      have HTK : Aside0 (tidyK s = appC (bds (numK (fvL [] (tmsL s)) (fvL [] (tmsL s)).length)) s) := ⟨rfl⟩
      clear hzr
      go_upto_region 9 with (fail)
      generalize (wo.alloc (.map #[] 0)).alloc (.cells #[.map (some wo.heap.size)] 121) = W2 at *
      have HF2 := Aside0.mk (Kd.F_below HFS.out HBm.out)
      go_wp2_with (first | (go_at_call 81; refine (terms_any s Av cv _ W2 HKL.out HF2.out).mono ?_; rintro e w3 ⟨A3, c3, rfl, h3, hF3, hb3⟩; have HF3 := Aside0.mk hF3; have HB3 := Aside0.mk hb3; clear hF3 hb3) | (go_at_call 80; refine (stands_any (tmsL s) A3 c3 _ w3 HKZ.out HF3.out).mono ?_; rintro e w4 ⟨v7, rfl, hN7, hb4⟩; rw [HFV.out] at hN7; obtain ⟨A7, c7, rfl⟩ := Kd.N_slice hN7; have HN7 := Aside0.mk (Kd.N_F hN7); have HB4 := Aside0.mk hb4; clear hN7 hb4))
      generalize fvL [] (tmsL s) = vs at *
      have hvl : vs.length ≤ 9223372036854775807 := by have := HVL.out; omega
      have HB24 := Aside0.mk (hbT HB3.out HB4.out)
      have HBo4 := Aside0.mk (hbT HBm.out HB24.out)
      have HBw4 := Aside0.mk (hbT HB.out HBo4.out)
      have HM4 := Aside0.mk (MapT.below HM0.out HB24.out)
      have HG4 := Aside0.mk ((HB24.out.block _ (blk_lt HG6.out)).trans HG6.out)
      have HZ3 : Aside0 (wo.heap.size < w3.heap.size) := ⟨by have := HB3.out.size; have := blk_lt HG6.out; omega⟩
      go_loopw [40] (fun i wr => ∃ k : Nat, k ≤ vs.length ∧ i = .int .i64 k ∧ Aside0 (MapT wr wo.heap.size (fun _ => False) (bds (numK vs k))) ∧ Aside0 (w4.grownBy wr (some wo.heap.size))) (fun i _ => vs.length - (intOf i).toNat)
      case atStart => exact ⟨0, by omega, rfl, HM4, ⟨gbOf (Below.refl _ _) _⟩⟩
      case round =>
        obtain ⟨k, hk, rfl, HMk, HGk⟩ := hrel
        have HG6r := Aside0.mk ((HGk.out.block _ (blk_lt HG4.out) (fun e => by injection e with e; omega)).trans HG4.out)
        by_cases hlt : k < vs.length
        · obtain ⟨ad, rfl, E0⟩ := at_Int (Kd.F_now (Kd.F_grown HN7.out HGk.out (fun q hq => fun e => by injection e with e; have := HZ3.out; omega))) (k : Int) (by omega) (by omega)
          simp only [Int.toNat_natCast] at E0
          have HST := Aside0.mk (numK_step HND.out hlt)
          have hki : (k : Int) < vs.length := by omega
          have hwk : IntKind.i64.wrap ((k : Int) + 1) = (k : Int) + 1 := IntWalk.i64_in _ (by omega)
          have m0 := map_cell HG6r.out
          generalize vs.getD k 0 = v at *
          go_wp2_with (at_mapUpdate; refine wp_updT rfl _ _ _ rfl rfl HMk.out v rfl ⟨(k : Int) + 1, 0, []⟩ none 0 rfl (Nat.le_refl _) (fun W' _ => Kd.C_nil _ _) (fun _ h => h.elim) ?_; intro w5 hM5 hG5; have HM5 := Aside0.mk hM5; have HG5 := Aside0.mk hG5; clear hM5 hG5 m0 E0)
          go_roundw
          case rel => exact ⟨k + 1, by omega, by go_num, ⟨by rw [← HST.out]; exact HM5.out⟩, ⟨gbT HGk.out HG5.out (.inl rfl)⟩⟩
          case measure => simp [intOf]; omega
        · obtain rfl : k = vs.length := by omega
          have HBwr := Aside0.mk (gbS HBw4.out HGk.out HZR.out)
          have HFr := Aside0.mk (Kd.F_grown (Kd.F_below HF2.out HB24.out) HGk.out (fun q hq => fun e => by injection e with e; have := hq.2; omega))
          have HEA : Aside0 (eachC (mapT (dlt (bds (numK vs vs.length)))) s = tidyL c) := ⟨by rw [HTD.out, HTK.out]; exact each_app g _ s HRK.out⟩
          have HEC := Aside0.mk (each_any 98 #[.pointer (some ⟨wo.heap.size + 1, 0, none⟩)] (mapT (dlt (bds (numK vs vs.length)))) (enters_of Try.func98 (by kernel_rfl) rfl) s Av cv _ wr HKL.out (fun x A c W hx hB hF hc => neat2_any _ wo.heap.size (wo.heap.size + 1) (fun _ => False) (fun v u hu => by obtain ⟨i, rfl⟩ := numK_var _ hu; simp [szT, szL]) x A c W (by have := szT_mem hx; have := HKZ.out; omega) (MapT.below HMk.out hB) ((hB.block _ (blk_lt HG6r.out)).trans HG6r.out) hF hc) HFr.out)
          rw [HEA.out] at HEC
          generalize numK vs vs.length = nb at *
          go_wp2_with (go_at_call 97; refine HEC.out.mono ?_; rintro e w9 ⟨A9, c9, rfl, h9, hF9, hb9⟩; have HF9 := Aside0.mk hF9; have HB9 := Aside0.mk hb9; clear hF9 hb9)
          go_ret
          have h2 := Kd.F_mono HF9.out (ok' := fun k => w.heap.size ≤ k) (fun q hq => by have := HBwr.out.size; omega)
          first | exact ⟨A9, c9, rfl, h9, h2, hbT HBwr.out HB9.out⟩ | exact ⟨rfl, A9, c9, h9, h2, hbT HBwr.out HB9.out⟩
end Go.Proofs.Ytcgnpmjkeifokaa
