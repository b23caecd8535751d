/- RewriteFalls: each step makes a lesser term, and what is normal stays as it is: for every input. Part 7: the walks and plain laws that it uses. -/
import Derived.Shelf.SlMaps.Clone
import Derived.Test.YtcgnpmjkeifokaaMRF6
-- KLi
/- Literals in blocks of their own; rows of literals. -/
namespace Go.Proofs.Ytcgnpmjkeifokaa
open Go.RowKit Go.Proofs.YtcgnpmjkeifokaaW.PrintWords
set_option linter.unusedVariables false
set_option linter.unusedSimpArgs false
section
variable {ops : Array Oper} {rest : List Oper} {o : Oper} {act : Act} {Q : Exit → Act → World → Prop} {W : World}
end
/-- A literal's two terms, read. -/
structure LiF (W : World) (ok : Nat → Prop) (x : Li) (A3 : Option Addr) (c3 : Nat) (A6 : Option Addr) (c6 : Nat) : Prop where
  l3 : x.f1.f2.length ≤ c3
  F3 : Kd.F kTm W ok A3 x.f1.f2.length x.f1.f2
  l6 : x.f2.f2.length ≤ c6
  F6 : Kd.F kTm W ok A6 x.f2.f2.length x.f2.f2
theorem LiF.below {W W' : World} {ok : Nat → Prop} {x : Li} {A3 : Option Addr} {c3 : Nat} {A6 : Option Addr} {c6 : Nat} (h : LiF W ok x A3 c3 A6 c6) (hb : Below W.heap.size W W') : LiF W' ok x A3 c3 A6 c6 := ⟨h.l3, Kd.F_below h.F3 hb, h.l6, Kd.F_below h.F6 hb⟩
theorem LiF.mono {W : World} {ok ok' : Nat → Prop} {x : Li} {A3 : Option Addr} {c3 : Nat} {A6 : Option Addr} {c6 : Nat} (h : LiF W ok x A3 c3 A6 c6) (hm : ∀ k, ok k → ok' k) : LiF W ok' x A3 c3 A6 c6 := ⟨h.l3, Kd.F_mono h.F3 hm, h.l6, Kd.F_mono h.F6 hm⟩
theorem LiF.bound {W : World} {ok : Nat → Prop} {x : Li} {A3 : Option Addr} {c3 : Nat} {A6 : Option Addr} {c6 : Nat} (h : LiF W ok x A3 c3 A6 c6) : LiF W (fun k => ok k ∧ k < W.heap.size) x A3 c3 A6 c6 := ⟨h.l3, Kd.F_bound h.F3, h.l6, Kd.F_bound h.F6⟩
theorem LiF.grown {W W' : World} {ok : Nat → Prop} {x : Li} {A3 : Option Addr} {c3 : Nat} {A6 : Option Addr} {c6 g : Nat} (h : LiF W ok x A3 c3 A6 c6) (hg : W.grownBy W' (some g)) (hne : ∀ k, ok k → k ≠ g) : LiF W' ok x A3 c3 A6 c6 := ⟨h.l3, Kd.F_grown h.F3 hg (fun k hk e => hne k hk (by injection e)), h.l6, Kd.F_grown h.F6 hg (fun k hk e => hne k hk (by injection e))⟩
theorem LiF.FK {W : World} {ok : Nat → Prop} {x : Li} {A3 : Option Addr} {c3 : Nat} {A6 : Option Addr} {c6 : Nat} (h : LiF W ok x A3 c3 A6 c6) : Kd.FK kLi W ok x [.bool x.f0, .int .i64 x.f1.f0, .int .i64 x.f1.f1, .slice A3 x.f1.f2.length c3, .int .i64 x.f2.f0, .int .i64 x.f2.f1, .slice A6 x.f2.f2.length c6] := kLi_mkF W ok x h.l3 h.F3 h.l6 h.F6
def turnL (x : Li) : Li := ⟨x.f0, x.f2, x.f1⟩
theorem LiF.turn {W : World} {ok : Nat → Prop} {x : Li} {A3 : Option Addr} {c3 : Nat} {A6 : Option Addr} {c6 : Nat} (h : LiF W ok x A3 c3 A6 c6) : LiF W ok (turnL x) A6 c6 A3 c3 := ⟨h.l6, h.F6, h.l3, h.F3⟩
end Go.Proofs.Ytcgnpmjkeifokaa
-- K44
/- slices.IndexFunc, ContainsFunc over literals; clause.IsAlways, Always. -/
namespace Go.Proofs.Ytcgnpmjkeifokaa
open Go.RowKit Go.Proofs.YtcgnpmjkeifokaaW.PrintWords
set_option linter.unusedVariables false
set_option linter.unusedSimpArgs false
def alwI (l x : Li) : Bool := !x.f0 && sidesB x l
def alwO (c : List Li) (l : Li) : Bool := l.f0 && (eqT l.f1 l.f2 || c.any (alwI l))
def alwB (c : List Li) : Bool := c.any (alwO c)
def alwR (g : List Int) (c : List Li) : Bool := if chkCs g [c] = 0 then alwB c else false
end Go.Proofs.Ytcgnpmjkeifokaa
-- K45
/- superposeref.AlwaysOf, SameClause, superposelaw.clauseIs. -/
namespace Go.Proofs.Ytcgnpmjkeifokaa
open Go.RowKit Go.Proofs.YtcgnpmjkeifokaaW.PrintWords
set_option linter.unusedVariables false
set_option linter.unusedSimpArgs false
def alwI2 (l x : Li) : Bool := !x.f0 && sidesB l x
end Go.Proofs.Ytcgnpmjkeifokaa
-- K46
/- superposeref.SameClause, superposelaw.clauseIs. -/
namespace Go.Proofs.Ytcgnpmjkeifokaa
open Go.RowKit Go.Proofs.YtcgnpmjkeifokaaW.PrintWords
set_option linter.unusedVariables false
set_option linter.unusedSimpArgs false
def samLi (x y : Li) : Bool := x.f0 == y.f0 && (eqT x.f1 y.f1 && eqT x.f2 y.f2)
def samC (a b : List Li) : Bool := eqF samLi a b
/-- What clauseIs answers. -/
def clIs (c : List Li) (e v : Int) (want : List Li) : Bool := e == v && samC c (if v = 0 then want else [])
end Go.Proofs.Ytcgnpmjkeifokaa
-- K47
/- superposeref.TermsOf, clause.Terms. -/
namespace Go.Proofs.Ytcgnpmjkeifokaa
open Go.RowKit Go.Proofs.YtcgnpmjkeifokaaW.PrintWords
set_option linter.unusedVariables false
set_option linter.unusedSimpArgs false
def tmsL : List Li → List Tm
  | [] => []
  | l :: c => l.f1 :: l.f2 :: tmsL c
end Go.Proofs.Ytcgnpmjkeifokaa
-- K48
/- Bindings in a row, told as entries of a map; superposeref.BoundTo, Turned. -/
namespace Go.Proofs.Ytcgnpmjkeifokaa
open Go.RowKit Go.Proofs.YtcgnpmjkeifokaaW.PrintWords
set_option linter.unusedVariables false
set_option linter.unusedSimpArgs false
/-- Bindings as entries. -/
def bds (b : List Bd) : List (Int × Tm) := b.map fun x => (x.f0, x.f1)
theorem mget_append {m n : List (Int × Tm)} {v : Int} (h : mget m v = none) : mget (m ++ n) v = mget n v := by
  induction m with
  | nil => rfl
  | cons p m ih =>
    rw [mget] at h
    by_cases hk : p.1 = v
    · rw [if_pos hk] at h; cases h
    · rw [if_neg hk] at h; rw [List.cons_append, mget, if_neg hk, ih h]
theorem mget_prefix {m n : List (Int × Tm)} {v : Int} {t : Tm} (h : mget m v = some t) : mget (m ++ n) v = some t := by
  induction m with
  | nil => cases h
  | cons p m ih =>
    rw [mget] at h
    rw [List.cons_append, mget]
    by_cases hk : p.1 = v
    · rw [if_pos hk] at h ⊢; exact h
    · rw [if_neg hk] at h ⊢; exact ih h
end Go.Proofs.Ytcgnpmjkeifokaa
-- K41
/- maps.Clone of a map of terms. -/
namespace Go.Proofs.Ytcgnpmjkeifokaa
open Go.RowKit Go.Proofs.YtcgnpmjkeifokaaW.PrintWords
set_option linter.unusedVariables false
set_option linter.unusedSimpArgs false
theorem MapT.cloned {w : World} {b : Nat} {ok : Nat → Prop} {m : List (Int × Tm)} {es : Array MapEntry} {clock : Nat} (hb : w.heap[b]? = some (.map es clock)) (h : MapT w b ok m) : MapT (w.alloc (.map es clock)) w.heap.size ok m := by
  obtain ⟨es2, clock2, hb2, hE⟩ := h
  rw [hb] at hb2
  injection hb2 with hb2
  injection hb2 with h1 h2
  subst h1 h2
  have hB : Below w.heap.size w (w.alloc (.map es clock)) := below_alloc (Below.refl _ _) _
  exact ⟨es, clock, heap_alloc_new _ _, Ents.imp (fun x v hv => vrT.step hv (fun k _ hlt => hB.block k hlt)) hE⟩
end Go.Proofs.Ytcgnpmjkeifokaa
-- K42
/- clause.covers, Covers. -/
namespace Go.Proofs.Ytcgnpmjkeifokaa
open Go.RowKit Go.Proofs.YtcgnpmjkeifokaaW.PrintWords
set_option linter.unusedVariables false
set_option linter.unusedSimpArgs false
def covQ (m : List (Int × Tm)) (l y : Li) (R : List (Int × Tm) → Bool) : Bool := (growT m l.f1 y.f1).2 && ((growT (growT m l.f1 y.f1).1 l.f2 y.f2).2 && R (growT (growT m l.f1 y.f1).1 l.f2 y.f2).1)
def covB : List Li → List Li → List (Int × Tm) → Bool
  | [], _, _ => true
  | l :: ls, d, m => d.any fun x => x.f0 == l.f0 && [x, turnL x].any fun y => covQ m l y (covB ls d)
end Go.Proofs.Ytcgnpmjkeifokaa
-- K43
/- clause.Covers, Subsumes. -/
namespace Go.Proofs.Ytcgnpmjkeifokaa
open Go.RowKit Go.Proofs.YtcgnpmjkeifokaaW.PrintWords
set_option linter.unusedVariables false
set_option linter.unusedSimpArgs false
def subE (g : List Int) (c d : List Li) : Int := chkCs g [c, d]
def subB (g : List Int) (c d : List Li) : Bool := if chkCs g [c, d] = 0 then covB c d [] else false
end Go.Proofs.Ytcgnpmjkeifokaa
-- K49
/- superposeref.Grow. -/
namespace Go.Proofs.Ytcgnpmjkeifokaa
open Go.RowKit Go.Proofs.YtcgnpmjkeifokaaW.PrintWords
set_option linter.unusedVariables false
set_option linter.unusedSimpArgs false
theorem formE_parts {g : List Int} {t : Tm} (h : formE g t = 0) : formEL g t.f2 = 0 ∧ 0 ≤ t.f0 := by
  obtain ⟨v, f, l⟩ := t
  rw [formE] at h
  by_cases hl : formEL g l = 0
  · rw [if_neg (by simpa using hl)] at h
    refine ⟨hl, ?_⟩
    unfold partE at h
    by_cases hv : v = 0
    · show 0 ≤ v; omega
    · rw [if_pos (by exact hv)] at h
      show 0 ≤ v
      by_cases h1 : 1 ≤ v ∧ v ≤ 1000
      · omega
      · rw [if_neg h1] at h; cases h
  · rw [if_pos hl] at h; exact absurd h hl
/-- What Grow answers. -/
def GrowA (mp : List (Int × Tm)) (p t : Tm) (n : Nat) (e : Ending) (w' : World) : Prop :=
  ∃ (b2 : List Bd) (A' : Option Addr) (c' : Nat), e = .returned (.tuple #[.slice A' b2.length c', .bool (growT mp p t).2]) ∧ ((growT mp p t).2 = true → bds b2 = (growT mp p t).1) ∧ b2.length ≤ c' ∧ b2.length ≤ n ∧ Kd.F kBd w' (fun _ => True) A' b2.length b2
end Go.Proofs.Ytcgnpmjkeifokaa
-- K50
/- superposeref.CoversOf. -/
namespace Go.Proofs.Ytcgnpmjkeifokaa
open Go.RowKit Go.Proofs.YtcgnpmjkeifokaaW.PrintWords
set_option linter.unusedVariables false
set_option linter.unusedSimpArgs false
def covR (m : List (Int × Tm)) (l : Li) (R : List (Int × Tm) → Bool) (y : Li) : Bool := y.f0 == l.f0 && covQ m l y R
end Go.Proofs.Ytcgnpmjkeifokaa
-- K51
/- superposeref.ApplyOf. -/
namespace Go.Proofs.Ytcgnpmjkeifokaa
open Go.RowKit Go.Proofs.YtcgnpmjkeifokaaW.PrintWords
set_option linter.unusedVariables false
set_option linter.unusedSimpArgs false
mutual
def appT (m : List (Int × Tm)) : Tm → Tm
  | ⟨v, f, l⟩ => if 0 < v then (mget m v).getD ⟨v, f, l⟩ else ⟨0, f, appL m l⟩
def appL (m : List (Int × Tm)) : List Tm → List Tm
  | [] => []
  | t :: ts => appT m t :: appL m ts
end
end Go.Proofs.Ytcgnpmjkeifokaa
-- K54
/- subst.Made. -/
namespace Go.Proofs.Ytcgnpmjkeifokaa
open Go.RowKit Go.Proofs.YtcgnpmjkeifokaaW.PrintWords
set_option linter.unusedVariables false
set_option linter.unusedSimpArgs false
def dlt (m : List (Int × Tm)) (x : Tm) : Option Tm := if 0 < x.f0 then mget m x.f0 else none
theorem map_app (g : List Int) (m : List (Int × Tm)) (t : Tm) : formE g t = 0 → mapT (dlt m) t = appT m t := by
  refine Tm.rec (motive_1 := fun t => formE g t = 0 → mapT (dlt m) t = appT m t) (motive_2 := fun l => formEL g l = 0 → mapL (dlt m) l = appL m l) ?_ ?_ ?_ t
  · intro v f l ih hf
    obtain ⟨ha, hp⟩ : formEL g l = 0 ∧ partE g ⟨v, f, l⟩ = 0 := by
      rw [formE] at hf
      by_cases hl : formEL g l = 0
      · rw [if_neg (by simpa using hl)] at hf; exact ⟨hl, hf⟩
      · rw [if_pos hl] at hf; exact absurd hf hl
    rw [appT]
    by_cases hv : 0 < v
    · rw [if_pos hv]
      have hd : dlt m ⟨v, f, l⟩ = mget m v := by unfold dlt; exact if_pos hv
      cases hg : mget m v with
      | some u => rw [mapT_some (hd.trans hg)]; rfl
      | none =>
        have hl : l = [] := by
          unfold partE at hp
          rw [if_pos (show v ≠ 0 by omega)] at hp
          split at hp
          · split at hp
            · rename_i h; exact List.length_eq_zero_iff.1 h.1
            · cases hp
          · cases hp
        subst hl
        rw [mapT_none (hd.trans hg)]
        rfl
    · have hv0 : v = 0 := by have := (formE_parts hf).2; show v = 0; have h2 : 0 ≤ v := this; omega
      have hd : dlt m ⟨v, f, l⟩ = none := by unfold dlt; exact if_neg hv
      rw [if_neg hv, mapT_none hd]
      show Tm.mk v f (mapL (dlt m) l) = _
      rw [ih ha, hv0]
  · intro _; rw [mapL, appL]
  · intro t ts h1 h2 hf
    rw [formEL] at hf
    by_cases hl : formE g t = 0
    · rw [if_neg (by simpa using hl)] at hf
      rw [mapL, appL, h1 hl, h2 hf]
    · rw [if_pos hl] at hf; exact absurd hf hl
set_option maxHeartbeats 4000000 in
set_option maxRecDepth 100000 in
theorem made1_any (m : List (Int × Tm)) (b g : Nat) (okm : Nat → Prop) (hsz : ∀ v u, mget m v = some u → szT u * 40 ≤ 140737488355328) (x : Tm) (A : Option Addr) (c : Nat) (W : World) (hM : MapT W b okm m) (hg : W.heap[g]? = some (.cells #[.map (some b)] 121 (0, 0))) (hc : x.f2.length ≤ c) :
    Calls Try.prog 127 (#[.agg #[.int .i64 x.f0, .int .i64 x.f1, .slice A x.f2.length c]] ++ #[.pointer (some ⟨g, 0, none⟩)]) W fun e w' => ∃ (r : Tm) (A' : Option Addr) (c' : Nat), e = .returned (.tuple #[.agg #[.int .i64 r.f0, .int .i64 r.f1, .slice A' r.f2.length c'], .bool (dlt m x).isSome]) ∧ r.f2.length ≤ c' ∧
      (∀ u, dlt m x = some u → r = u ∧ Kd.F kTm w' (fun k => W.heap.size ≤ k) A' r.f2.length r.f2) ∧ Below W.heap.size W w' := by
  have a0 := blk_alloc (newAt (w := W) (o := .cells #[.int .i64 x.f0, .int .i64 x.f1, .slice A x.f2.length c] 46) rfl) (.cells #[.int .i64 0, .int .i64 0, .slice none 0 0] 46)
  have a1 := newAt (w := W.alloc (.cells #[.int .i64 x.f0, .int .i64 x.f1, .slice A x.f2.length c] 46)) (o := .cells #[.int .i64 0, .int .i64 0, .slice none 0 0] 46) (k := W.heap.size + 1) (by simp)
  have a2 := blk_alloc (blk_alloc hg (.cells #[.int .i64 x.f0, .int .i64 x.f1, .slice A x.f2.length c] 46)) (.cells #[.int .i64 0, .int .i64 0, .slice none 0 0] 46)
  have HB := Aside0.mk (below_alloc (below_alloc (Below.refl W.heap.size W) (.cells #[.int .i64 x.f0, .int .i64 x.f1, .slice A x.f2.length c] 46)) (.cells #[.int .i64 0, .int .i64 0, .slice none 0 0] 46))
  have HSZ := Aside0.mk hsz
  have HM := Aside0.mk (MapT.below hM HB.out)
  clear hM hg hsz
  show Calls Try.prog 127 #[.agg #[.int .i64 x.f0, .int .i64 x.f1, .slice A x.f2.length c], .pointer (some ⟨g, 0, none⟩)] W _
  go_enter Try.func127, Try.ntmps127
  go_upto_region 1 with (fail)
  generalize (W.alloc (.cells #[.int .i64 x.f0, .int .i64 x.f1, .slice A x.f2.length c] 46)).alloc (.cells #[.int .i64 0, .int .i64 0, .slice none 0 0] 46) = W1 at *
  have G0 := Aside0.mk a0
  have G1 := Aside0.mk a1
  have m0 := map_cell a2
  clear a0 a1 a2
  obtain ⟨p0, p1, p2⟩ := tm_cells G0.out
  go_upto_region 2 with (first | (at_lookup; refine wp_lookT rfl _ _ rfl rfl HM.out x.f0 rfl ?_; intro A3 c3 h3 hF3; have HF3 := Aside0.mk hF3; have H3 := Aside0.mk h3; clear hF3 h3) | (((with_reducible refine gate_store (t := 46) (p := 5) rfl ?_); refine st_tm 5 rfl rfl rfl rfl rfl (heap_alloc_new _ _) ?_); intro w3 hs3 hG3 hz3; have HU := Aside0.mk hs3; have HB3 := Aside0.mk (gbS (below_alloc (Below.refl W1.heap.size W1) _) hG3 (Nat.le_refl _)); clear hs3 hG3 hz3))
  have HB03 := Aside0.mk (hbT HB.out HB3.out)
  obtain ⟨q0, q1, q2⟩ := tm_cells ((HB3.out.block _ (blk_lt G0.out)).trans G0.out)
  have GR := Aside0.mk ((HB3.out.block _ (blk_lt G1.out)).trans G1.out)
  clear p0 p1 p2 m0
  by_cases hv : 0 < x.f0
  · cases hgt : mget m x.f0 with
    | some u =>
      have hh : mhas m x.f0 = true := by unfold mhas; rw [hgt]; rfl
      have HU2 : Aside0 (mgetT m x.f0 = u) := ⟨by unfold mgetT; rw [hgt]; rfl⟩
      have HD : Aside0 (dlt m x = some u) := ⟨by unfold dlt; rw [if_pos hv, hgt]⟩
      have HSU := Aside0.mk (HSZ.out _ _ hgt)
      have hu := HU.out
      rw [HU2.out] at hu HF3 H3
      obtain ⟨s0, s1, s2⟩ := tm_cells hu
      clear hgt hu
      simp only [hh]
      clear hh
      try simp only [HU2.out]
      have HF33 := Aside0.mk (Kd.F_below HF3.out HB3.out)
      have hvb : 0 < x.f0 := hv
      go_wp2_with (first | (go_at_call 67; refine (copied_any u A3 c3 _ w3 HSU.out HF33.out H3.out).mono ?_; rintro e w4 ⟨A4, c4, rfl, h4, hF4, hb4⟩; have HF4 := Aside0.mk hF4; have HB4 := Aside0.mk hb4; have GR4 := Aside0.mk ((hb4.block _ (blk_lt GR.out)).trans GR.out); clear hF4 hb4 q0 q1 q2 s0 s1 s2) | (((with_reducible refine gate_store (t := 46) (p := 3) rfl ?_); refine st_tm 3 rfl rfl rfl rfl rfl GR4.out ?_); intro w5 hs5 hG5 hz5; have HS5 := Aside0.mk hs5; have HG5 := Aside0.mk hG5; clear hs5 hG5))
      ((try simp only [Exit.inBlock, Exit.then]); refine bodyPost_ret (results_ct rfl _ _ _ 46 _ (0, 0) _ rfl HS5.out Try.underlying46 rfl (by kernel_rfl)) rfl ?_)
      refine ⟨u, A4, c4, by rw [HD.out]; rfl, h4, fun u' hu' => ?_, gbS (hbT HB03.out HB4.out) HG5.out (by omega)⟩
      rw [HD.out] at hu'
      injection hu' with hu'
      refine ⟨hu', Kd.F_mono (Kd.F_grown HF4.out HG5.out (fun k hk => ?_)) (fun k hk => ?_)⟩
      · intro e; injection e with e; have := blk_lt G1.out; have := HB3.out.size; omega
      · have := HB03.out.size; omega
    | none =>
      have hh : mhas m x.f0 = false := by unfold mhas; rw [hgt]; rfl
      have HD : Aside0 (dlt m x = none) := ⟨by unfold dlt; rw [if_pos hv, hgt]⟩
      clear hgt
      simp only [hh]
      clear hh
      go_wp2_with (((with_reducible refine gate_store (t := 46) (p := 3) rfl ?_); refine st_tm 3 rfl rfl rfl rfl rfl GR.out ?_); intro w5 hs5 hG5 hz5; have HS5 := Aside0.mk hs5; have HG5 := Aside0.mk hG5; clear hs5 hG5 q0 q1 q2)
      ((try simp only [Exit.inBlock, Exit.then]); refine bodyPost_ret (results_ct rfl _ _ _ 46 _ (0, 0) _ rfl HS5.out Try.underlying46 rfl (by kernel_rfl)) rfl ?_)
      exact ⟨x, A, c, by rw [HD.out]; rfl, hc, fun u' hu' => (by rw [HD.out] at hu'; cases hu'), gbS HB03.out HG5.out (by omega)⟩
  · have HD : Aside0 (dlt m x = none) := ⟨by unfold dlt; rw [if_neg hv]⟩
    cases hh : mhas m x.f0 with
    | true =>
      go_wp2_with (((with_reducible refine gate_store (t := 46) (p := 3) rfl ?_); refine st_tm 3 rfl rfl rfl rfl rfl GR.out ?_); intro w5 hs5 hG5 hz5; have HS5 := Aside0.mk hs5; have HG5 := Aside0.mk hG5; clear hs5 hG5 q0 q1 q2)
      ((try simp only [Exit.inBlock, Exit.then]); refine bodyPost_ret (results_ct rfl _ _ _ 46 _ (0, 0) _ rfl HS5.out Try.underlying46 rfl (by kernel_rfl)) rfl ?_)
      exact ⟨x, A, c, by rw [HD.out]; rfl, hc, fun u' hu' => (by rw [HD.out] at hu'; cases hu'), gbS HB03.out HG5.out (by omega)⟩
    | false =>
      go_wp2_with (((with_reducible refine gate_store (t := 46) (p := 3) rfl ?_); refine st_tm 3 rfl rfl rfl rfl rfl GR.out ?_); intro w5 hs5 hG5 hz5; have HS5 := Aside0.mk hs5; have HG5 := Aside0.mk hG5; clear hs5 hG5 q0 q1 q2)
      ((try simp only [Exit.inBlock, Exit.then]); refine bodyPost_ret (results_ct rfl _ _ _ 46 _ (0, 0) _ rfl HS5.out Try.underlying46 rfl (by kernel_rfl)) rfl ?_)
      exact ⟨x, A, c, by rw [HD.out]; rfl, hc, fun u' hu' => (by rw [HD.out] at hu'; cases hu'), gbS HB03.out HG5.out (by omega)⟩
set_option maxHeartbeats 4000000 in
set_option maxRecDepth 100000 in
theorem made_any (m : List (Int × Tm)) (b : Nat) (okm okt : Nat → Prop) (hsz : ∀ v u, mget m v = some u → szT u * 40 ≤ 140737488355328) (t : Tm) (A : Option Addr) (c : Nat) (w : World) (hbd : szT t * 40 ≤ 140737488355328) (hM : MapT w b okm m) (hF : Kd.F kTm w okt A t.f2.length t.f2) (hc : t.f2.length ≤ c) :
    Calls Try.prog 99 #[.map (some b), .agg #[.int .i64 t.f0, .int .i64 t.f1, .slice A t.f2.length c]] w fun e w' => ∃ A' c', e = .returned (.agg #[.int .i64 (mapT (dlt m) t).f0, .int .i64 (mapT (dlt m) t).f1, .slice A' (mapT (dlt m) t).f2.length c']) ∧ (mapT (dlt m) t).f2.length ≤ c' ∧ Kd.F kTm w' (fun k => w.heap.size ≤ k) A' (mapT (dlt m) t).f2.length (mapT (dlt m) t).f2 ∧ Below w.heap.size w w' := by
  have a0 := blk_alloc (blk_alloc (newAt (w := w) (o := .cells #[.map (some b)] 121) rfl) (.cells #[.int .i64 t.f0, .int .i64 t.f1, .slice A t.f2.length c] 46)) (.cells #[.int .i64 0, .int .i64 0, .slice none 0 0] 46)
  have a1 := blk_alloc (newAt (w := w.alloc (.cells #[.map (some b)] 121)) (o := .cells #[.int .i64 t.f0, .int .i64 t.f1, .slice A t.f2.length c] 46) (k := w.heap.size + 1) (by simp)) (.cells #[.int .i64 0, .int .i64 0, .slice none 0 0] 46)
  have a2 := newAt (w := (w.alloc (.cells #[.map (some b)] 121)).alloc (.cells #[.int .i64 t.f0, .int .i64 t.f1, .slice A t.f2.length c] 46)) (o := .cells #[.int .i64 0, .int .i64 0, .slice none 0 0] 46) (k := w.heap.size + 2) (by simp)
  have HB := Aside0.mk (below_alloc (below_alloc (below_alloc (Below.refl w.heap.size w) (.cells #[.map (some b)] 121)) (.cells #[.int .i64 t.f0, .int .i64 t.f1, .slice A t.f2.length c] 46)) (.cells #[.int .i64 0, .int .i64 0, .slice none 0 0] 46))
  have HF := Aside0.mk (Kd.F_below (Kd.F_bound hF) HB.out)
  have HM := Aside0.mk (MapT.below hM HB.out)
  have hlen := Kd.F_max hF
  clear hF hM
  go_enter Try.func99, Try.ntmps99
  go_upto_region 1 with (fail)
  generalize ((w.alloc (.cells #[.map (some b)] 121)).alloc (.cells #[.int .i64 t.f0, .int .i64 t.f1, .slice A t.f2.length c] 46)).alloc (.cells #[.int .i64 0, .int .i64 0, .slice none 0 0] 46) = W at *
  have G0 := Aside0.mk a0
  have G2 := Aside0.mk a2
  obtain ⟨p0, p1, p2⟩ := tm_cells a1
  have hlg := blk_lt a2
  clear a0 a1 a2
  have HMP := Aside0.mk (mapped_any 127 #[.pointer (some ⟨w.heap.size, 0, none⟩)] (dlt m) (fun _ => True) W (enters_of Try.func127 (by kernel_rfl) rfl) (fun x A c W' hB hF hc => made1_any m b w.heap.size okm hsz x A c W' (MapT.below HM.out hB) ((hB.block _ (blk_lt G0.out)).trans G0.out) hc) (szT t) t A c W (Nat.le_refl _) hbd (Below.refl _ _) (Kd.F_mono (Kd.F_bound HF.out) (fun k hk => ⟨trivial, hk.2⟩)) hc)
  go_wp2_with (first | (go_at_call 106; refine HMP.out.mono ?_; rintro e w2 ⟨A', c', rfl, hc', hF2, hb2⟩; have HF2 := Aside0.mk hF2; have HB2 := Aside0.mk hb2; have HR2 := Aside0.mk ((hb2.block _ hlg).trans G2.out); clear hF2 hb2 p0 p1 p2) | (((with_reducible refine gate_store (t := 46) (p := 4) rfl ?_); refine st_tm 4 rfl rfl rfl rfl rfl HR2.out ?_); intro w1 hs1 hG1 hz1; have HS1 := Aside0.mk hs1; have HG1 := Aside0.mk hG1; clear hs1 hG1))
  ((try simp only [Exit.inBlock, Exit.then]); refine bodyPost_ret (results_cell_row rfl _ _ _ 46 _ (0, 0) _ rfl HS1.out Try.underlying46 rfl (by kernel_rfl)) rfl ?_)
  exact ⟨A', c', rfl, hc', Kd.F_mono (Kd.F_grown HF2.out HG1.out (fun k hk => by intro e; injection e with e; omega)) (fun k hk => by have := HB.out.size; omega), gbS (hbT HB.out HB2.out) HG1.out (by omega)⟩
end Go.Proofs.Ytcgnpmjkeifokaa
-- K97
/- subst.size, subst.Raw. -/
namespace Go.Proofs.Ytcgnpmjkeifokaa
open Go.RowKit Go.Proofs.YtcgnpmjkeifokaaW.PrintWords
set_option linter.unusedVariables false
set_option linter.unusedSimpArgs false
/-- What a part counts, once made. -/
def pcS (m : List (Int × Tm)) (x : Tm) : Int := if 0 < x.f0 ∧ mhas m x.f0 = true then min (szT (mgetT m x.f0) : Int) 121 else 1
theorem pcS_bd (m : List (Int × Tm)) (x : Tm) : 1 ≤ pcS m x ∧ pcS m x ≤ 121 := by
  unfold pcS
  have := szT_pos (mgetT m x.f0)
  split <;> omega
mutual
def totT (m : List (Int × Tm)) : Tm → Int
  | ⟨v, f, l⟩ => pcS m ⟨v, f, l⟩ + totL m l
def totL (m : List (Int × Tm)) : List Tm → Int
  | [] => 0
  | t :: ts => totT m t + totL m ts
end
theorem totL_pos (m : List (Int × Tm)) (l : List Tm) : 0 ≤ totL m l := by
  refine Tm.rec_1 (motive_1 := fun t => 0 ≤ totT m t) (motive_2 := fun l => 0 ≤ totL m l) ?_ ?_ ?_ l
  · intro v f l ih; rw [totT]; have := (pcS_bd m ⟨v, f, l⟩).1; omega
  · rw [totL]; omega
  · intro t ts h1 h2; rw [totL]; omega
def szF (m : List (Int × Tm)) (most : Int) (s : Int × Nat) (x : Tm) : (Int × Nat) × Bool := ((s.1 + pcS m x, s.2 + 1), decide (s.1 + pcS m x ≤ most))
theorem sz_walk (m : List (Int × Tm)) (most : Int) (t : Tm) : ∀ s : Int × Nat, (s.1 + totT m t ≤ most → walkT (szF m most) s t = ((s.1 + totT m t, s.2 + szT t), true)) ∧ (¬ s.1 + totT m t ≤ most → (walkT (szF m most) s t).2 = false ∧ most < (walkT (szF m most) s t).1.1) := by
  refine Tm.rec (motive_1 := fun t => ∀ s : Int × Nat, (s.1 + totT m t ≤ most → walkT (szF m most) s t = ((s.1 + totT m t, s.2 + szT t), true)) ∧ (¬ s.1 + totT m t ≤ most → (walkT (szF m most) s t).2 = false ∧ most < (walkT (szF m most) s t).1.1))
    (motive_2 := fun l => ∀ s : Int × Nat, s.1 ≤ most → (s.1 + totL m l ≤ most → walkL (szF m most) s l = ((s.1 + totL m l, s.2 + szL l), true)) ∧ (¬ s.1 + totL m l ≤ most → (walkL (szF m most) s l).2 = false ∧ most < (walkL (szF m most) s l).1.1)) ?_ ?_ ?_ t
  · intro v f l ih s
    have hl := totL_pos m l
    rw [walkT, totT, szT]
    by_cases h : s.1 + pcS m ⟨v, f, l⟩ ≤ most
    · have e : (szF m most s ⟨v, f, l⟩).2 = true := decide_eq_true h
      rw [if_pos e]
      obtain ⟨h1, h2⟩ := ih (szF m most s ⟨v, f, l⟩).1 h
      have e1 : (szF m most s ⟨v, f, l⟩).1.1 = s.1 + pcS m ⟨v, f, l⟩ := rfl
      have e2 : (szF m most s ⟨v, f, l⟩).1.2 = s.2 + 1 := rfl
      rw [e1, e2] at h1
      rw [e1] at h2
      refine ⟨fun hk => ?_, fun hk => ?_⟩
      · rw [h1 (by omega)]
        rw [show s.1 + pcS m ⟨v, f, l⟩ + totL m l = s.1 + (pcS m ⟨v, f, l⟩ + totL m l) by omega, show s.2 + 1 + szL l = s.2 + (1 + szL l) by omega]
      · exact h2 (by omega)
    · have e : (szF m most s ⟨v, f, l⟩).2 = false := decide_eq_false h
      rw [if_neg (by rw [e]; decide)]
      exact ⟨fun hk => by omega, fun _ => ⟨rfl, by show most < s.1 + pcS m ⟨v, f, l⟩; omega⟩⟩
  · intro s hs
    rw [walkL, totL, szL]
    exact ⟨fun _ => by simp, fun h => by omega⟩
  · intro t ts h1 h2 s hs
    have hl := totL_pos m ts
    rw [walkL, totL, szL]
    obtain ⟨a1, a2⟩ := h1 s
    by_cases h : s.1 + totT m t ≤ most
    · rw [a1 h]
      obtain ⟨b1, b2⟩ := h2 (s.1 + totT m t, s.2 + szT t) h
      simp only at b1 b2
      rw [if_pos rfl]
      refine ⟨fun hk => ?_, fun hk => ?_⟩
      · rw [b1 (by omega)]
        rw [show s.1 + totT m t + totL m ts = s.1 + (totT m t + totL m ts) by omega, show s.2 + szT t + szL ts = s.2 + (szT t + szL ts) by omega]
      · exact b2 (by omega)
    · obtain ⟨c1, c2⟩ := a2 h
      rw [if_neg (by rw [c1]; decide)]
      exact ⟨fun hk => by omega, fun _ => ⟨rfl, c2⟩⟩
def sizV (m : List (Int × Tm)) (most : Int) (t : Tm) : Int := (walkT (szF m most) (0, 0) t).1.1
theorem sizV_le {m : List (Int × Tm)} {most : Int} {t : Tm} (h : totT m t ≤ most) : sizV m most t = totT m t := by
  unfold sizV; rw [((sz_walk m most t (0, 0)).1 (by simpa using h))]; simp
theorem sizV_gt {m : List (Int × Tm)} {most : Int} {t : Tm} (h : ¬ totT m t ≤ most) : most < sizV m most t := ((sz_walk m most t (0, 0)).2 (by simpa using h)).2
theorem sizeInt1 : (Try.prog.info? 3).map (·.size) = some 1 := by kernel_rfl
theorem oneI (a : Int) : ∀ q ∈ [Value.int .i64 a], q.oneCell' = true := by intro q hq; simp at hq; subst hq; rfl
def SzS (bn bm bk b : Nat) (most : Int) (okm : Nat → Prop) (m : List (Int × Tm)) (s : Int × Nat) (ro : Option Nat) (W : World) : Prop :=
  ro = none ∧ W.heap[bn]? = some (.cells #[.int .i64 s.1] 3 (0, 0)) ∧ (0 ≤ s.1 ∧ s.1 ≤ 121 * s.2) ∧ W.heap[bm]? = some (.cells #[.map (some b)] 121 (0, 0)) ∧ W.heap[bk]? = some (.cells #[.int .i64 most] 3 (0, 0)) ∧ MapT W b okm m
theorem SzS_ok (bn bm bk b : Nat) (most : Int) (okm : Nat → Prop) (m : List (Int × Tm)) : StOk bn (SzS bn bm bk b most okm m) where
  below := fun s ro W W' ⟨h0, h1, h2, h3, h4, h5⟩ hB => ⟨h0, (hB.block _ (blk_lt h1)).trans h1, h2, (hB.block _ (blk_lt h3)).trans h3, (hB.block _ (blk_lt h4)).trans h4, h5.below hB⟩
  lt := fun s ro W ⟨h0, h1, h2, h3, h4, h5⟩ => ⟨blk_lt h1, fun k hk => by rw [h0] at hk; cases hk⟩
set_option maxHeartbeats 4000000 in
set_option maxRecDepth 100000 in
theorem size1S_any (bn bm bk b : Nat) (most : Int) (okm : Nat → Prop) (m : List (Int × Tm)) (M : Nat) (hM : M ≤ 1000000) (hmo : 0 ≤ most ∧ most ≤ 1000) (h1 : bn ≠ bm) (h2 : bn ≠ bk) (h3 : bn ≠ b) (hok : ∀ k, okm k → k ≠ bn) :
    WkC 150 #[.pointer (some ⟨bm, 0, none⟩), .pointer (some ⟨bn, 0, none⟩), .pointer (some ⟨bk, 0, none⟩)] (szF m most) bn (SzS bn bm bk b most okm m) (·.2) M := by
  intro s ro x A c pv okt W hlt hF hc hS
  obtain ⟨rfl, g1, hbd, g2, g3, hMp⟩ := hS
  have hlt : s.2 < M := hlt
  show Calls Try.prog 150 #[pv, .agg #[.int .i64 x.f0, .int .i64 x.f1, .slice A x.f2.length c], .pointer (some ⟨bm, 0, none⟩), .pointer (some ⟨bn, 0, none⟩), .pointer (some ⟨bk, 0, none⟩)] W _
  have HB := Aside0.mk (below_alloc (Below.refl W.heap.size W) (.cells #[.int .i64 x.f0, .int .i64 x.f1, .slice A x.f2.length c] 46))
  have g0 := newAt (w := W) (o := .cells #[.int .i64 x.f0, .int .i64 x.f1, .slice A x.f2.length c] 46) rfl
  have a1 := blk_alloc g1 (.cells #[.int .i64 x.f0, .int .i64 x.f1, .slice A x.f2.length c] 46)
  have a2 := blk_alloc g2 (.cells #[.int .i64 x.f0, .int .i64 x.f1, .slice A x.f2.length c] 46)
  have a3 := blk_alloc g3 (.cells #[.int .i64 x.f0, .int .i64 x.f1, .slice A x.f2.length c] 46)
  have HM := Aside0.mk (hMp.below HB.out)
  have hbn := blk_lt g1
  have HPB := Aside0.mk (pcS_bd m x)
  clear hF g1 g2 g3 hMp
  go_enter Try.func150, Try.ntmps150
  go_upto_region 1 with (fail)
  generalize W.alloc (.cells #[.int .i64 x.f0, .int .i64 x.f1, .slice A x.f2.length c] 46) = W1 at *
  have GX := Aside0.mk g0
  have GN := Aside0.mk a1
  have GM := Aside0.mk a2
  have GK := Aside0.mk a3
  clear g0 a1 a2 a3
  obtain ⟨p0, p1, p2⟩ := tm_cells GX.out
  have m0 := map_cell GM.out
  go_upto_region 2 with (first | (at_lookup; refine wp_lookT rfl _ _ rfl rfl HM.out x.f0 rfl ?_; intro A3 c3 h3 hF3; have HF3 := Aside0.mk hF3; have H3 := Aside0.mk h3; clear hF3 h3) | (((with_reducible refine gate_store (t := 46) (p := 8) rfl ?_); refine st_tm 8 rfl rfl rfl rfl rfl (heap_alloc_new _ _) ?_); intro w3 hs3 hG3 hz3; have HU := Aside0.mk hs3; have HB3 := Aside0.mk (gbS (below_alloc (Below.refl W1.heap.size W1) _) hG3 (Nat.le_refl _)); clear hs3 hG3 hz3))
  have HB03 := Aside0.mk (hbT HB.out HB3.out)
  have HN3 := Aside0.mk ((HB3.out.block _ (blk_lt GN.out)).trans GN.out)
  have HK3 := Aside0.mk ((HB3.out.block _ (blk_lt GK.out)).trans GK.out)
  have HM3b := Aside0.mk ((HB3.out.block _ (blk_lt GM.out)).trans GM.out)
  have HM3 := Aside0.mk (HM.out.below HB3.out)
  obtain ⟨q0, q1, q2⟩ := tm_cells ((HB3.out.block _ (blk_lt GX.out)).trans GX.out)
  clear p0 p1 p2 m0
  have hs1 : s.1 ≤ 121000000 := by omega
  by_cases hp : 0 < x.f0 ∧ mhas m x.f0 = true
  · have HP : Aside0 (pcS m x = min (szT (mgetT m x.f0) : Int) 121) := ⟨by unfold pcS; rw [if_pos hp]⟩
    have hv := hp.1
    have hh := hp.2
    clear hp
    simp only [hh]
    go_upto_region 3 with (fail)
    clear q0 q1 q2 hh hv
    obtain ⟨u0, u1, u2⟩ := tm_cells HU.out
    have n0 := one_cell HN3.out
    have k0 := fun (w' : World) (h : Below w3.heap.size w3 w') => oldc h n0
    have k1 := fun (w' : World) (h : Below w3.heap.size w3 w') => oldc h u0
    have k2 := fun (w' : World) (h : Below w3.heap.size w3 w') => oldc h u1
    have k3 := fun (w' : World) (h : Below w3.heap.size w3 w') => oldc h u2
    clear u0 u1 u2 n0
    have hz3 := HB3.out.size
    have CN : Aside0 (∀ W', Below w3.heap.size w3 W' → Calls Try.prog 87 #[.agg #[.int .i64 (mgetT m x.f0).f0, .int .i64 (mgetT m x.f0).f1, .slice A3 (mgetT m x.f0).f2.length c3], .int .i64 120] W' fun e w' => e = .returned (.int .i64 (pcS m x)) ∧ Below W'.heap.size W' w') := ⟨fun W' hb => by
      have h := count_any (szT (mgetT m x.f0)) (mgetT m x.f0) A3 c3 W' 120 (Nat.le_refl _) (Kd.F_now (Kd.F_below HF3.out (hbT HB3.out hb))) (by decide) (by decide)
      rw [HP.out]
      exact h⟩
    have hpb := HPB.out
    have HSZ : Aside0 (szF m most s x = ((s.1 + pcS m x, s.2 + 1), decide (s.1 + pcS m x ≤ most))) := ⟨rfl⟩
    generalize hpc : pcS m x = pc at *
    have hw1 : IntKind.i64.wrap (s.1 + pc) = s.1 + pc := IntWalk.i64_in _ (by omega)
    refine hd_region 4 1 (fun w' => Below w3.heap.size w3 w') (by kernel_rfl) rfl ?_ (fun _ h => h)
    intro W4 hb4 hz4 hHeld
    clear hb4 hz4
    (refine hd_take (i := 0) (oi := ?oi1847) (v := ?v1847) ?hi1847 (by kernel_rfl) (by kernel_rfl) (by kernel_rfl) (by kernel_rfl) (by decide) ?hq1847 ?hw1847 ?hy1847 hHeld ?hr1847; (case hi1847 => (simp only [List.getElem?_toArray, List.getElem?_cons_succ, List.getElem?_cons_zero]; rfl)); (case hw1847 => rfl); (case hy1847 => (intro w hSw; go_simp; try with_reducible rfl)); (case hq1847 => exact fun _ _ _ h => h); simp only [Act.put, List.setIfInBounds_toArray, List.set_cons_zero, List.set_cons_succ])
    (refine hd_take (i := 1) (oi := ?oi1849) (v := ?v1849) ?hi1849 (by kernel_rfl) (by kernel_rfl) (by kernel_rfl) (by kernel_rfl) (by decide) ?hq1849 ?hw1849 ?hy1849 hHeld ?hr1849; (case hi1849 => (simp only [List.getElem?_toArray, List.getElem?_cons_succ, List.getElem?_cons_zero]; rfl)); (case hw1849 => rfl); (case hy1849 => (intro w hSw; go_simp; try with_reducible rfl)); (case hq1849 => exact fun _ _ _ h => h); simp only [Act.put, List.setIfInBounds_toArray, List.set_cons_zero, List.set_cons_succ])
    (refine hd_one (i := 2) (oi := ?oi1851) ?hi1851 (by kernel_rfl) (by decide) ?hr1851; (case hi1851 => (simp only [List.getElem?_toArray, List.getElem?_cons_succ, List.getElem?_cons_zero]; rfl)); intro K hK)
    go_simp
    go_at_call 87
    refine (CN.out _ hHeld).mono ?_
    rintro e w5 ⟨rfl, hb5⟩
    go_simp
    (refine hK.out _ _ ?hS1853 (fun hHeld => ?hr1853); (case hS1853 => exact hbT hHeld hb5); clear hK K; try simp only [Act.put, List.setIfInBounds_toArray, List.set_cons_zero, List.set_cons_succ])
    (refine hd_take (i := 3) (oi := ?oi1854) (v := ?v1854) ?hi1854 (by kernel_rfl) (by kernel_rfl) (by kernel_rfl) (by kernel_rfl) (by decide) ?hq1854 ?hw1854 ?hy1854 hHeld ?hr1854; (case hi1854 => (simp only [List.getElem?_toArray, List.getElem?_cons_succ, List.getElem?_cons_zero]; rfl)); (case hw1854 => rfl); (case hy1854 => (intro w hSw; go_simp; try with_reducible rfl)); (case hq1854 => exact fun _ _ _ h => h); simp only [Act.put, List.setIfInBounds_toArray, List.set_cons_zero, List.set_cons_succ])
    (refine hd_done (by kernel_rfl) ?_; simp only [List.drop_succ_cons, List.drop_zero])
    have HH := Aside0.mk hHeld
    clear hHeld k0 k1 k2 k3
    have HN5 := Aside0.mk ((HH.out.block _ (blk_lt HN3.out)).trans HN3.out)
    go_upto_region 5 with ((with_reducible refine gate_store (t := 3) (p := 3) rfl ?_); refine st_blk rfl rfl rfl #[.int .i64 (s.1 + pc)] [.int .i64 (s.1 + pc)] rfl rfl rfl sizeInt1 (oneI _) HN5.out (Nat.le_refl 1) rfl ?_; intro w6 hs6 hG6 hz6; have HN6 := Aside0.mk hs6; have HG6 := Aside0.mk hG6; clear hs6 hG6 hz6)
    have HW5 := Aside0.mk (hbT HB03.out HH.out)
    have hK5 := (HH.out.block _ (blk_lt HK3.out)).trans HK3.out
    have hM5 := (HH.out.block _ (blk_lt HM3b.out)).trans HM3b.out
    have HK6 := Aside0.mk ((HG6.out.block _ (blk_lt hK5) (fun e => h2 (by injection e with e; exact e.symm))).trans hK5)
    have HM6b := Aside0.mk ((HG6.out.block _ (blk_lt hM5) (fun e => h1 (by injection e with e; exact e.symm))).trans hM5)
    have HM6 := Aside0.mk ((HM3.out.below HH.out).grown HG6.out (Ne.symm h3) hok)
    have n0 := one_cell HN6.out
    have m0 := one_cell HK6.out
    clear hK5 hM5
    have hFr : Aside0 (Fr bn W none w6) := ⟨⟨HG6.out.os.trans HW5.out.os, HG6.out.tape.trans HW5.out.tape, HG6.out.output.trans HW5.out.output, Nat.le_trans HW5.out.size HG6.out.size, fun i hi hb hn => (HG6.out.block i (Nat.lt_of_lt_of_le hi HW5.out.size) (fun e => hb (by injection e))).trans (HW5.out.block i hi)⟩⟩
    go_wp2
    go_ret
    first | exact ⟨none, by rw [HSZ.out] <;> rfl, by rw [HSZ.out]; exact ⟨rfl, HN6.out, ⟨by simp only; omega, by simp only; omega⟩, HM6b.out, HK6.out, HM6.out⟩, hFr.out, .inl rfl⟩ | exact ⟨by rw [HSZ.out] <;> rfl, none, by rw [HSZ.out]; exact ⟨rfl, HN6.out, ⟨by simp only; omega, by simp only; omega⟩, HM6b.out, HK6.out, HM6.out⟩, hFr.out, .inl rfl⟩
  · have HP : Aside0 (pcS m x = 1) := ⟨by unfold pcS; rw [if_neg hp]⟩
    have HSZ : Aside0 (szF m most s x = ((s.1 + 1, s.2 + 1), decide (s.1 + 1 ≤ most))) := ⟨by unfold szF; rw [HP.out]⟩
    have hw1 : IntKind.i64.wrap (s.1 + 1) = s.1 + 1 := IntWalk.i64_in _ (by omega)
    have n0 := one_cell HN3.out
    have key : Aside0 (0 < x.f0 → mhas m x.f0 = false) := ⟨fun hv => by
      cases hh : mhas m x.f0 with
      | false => rfl
      | true => exact absurd ⟨hv, hh⟩ hp⟩
    clear hp HP
    have hbn3 : bn < w3.heap.size := by have := HB03.out.size; omega
    have goal1 : Aside0 (∀ w6, w6.heap[bn]? = some (.cells #[.int .i64 (s.1 + 1)] 3 (0, 0)) → w3.grownBy w6 (some bn) → SzS bn bm bk b most okm m (s.1 + 1, s.2 + 1) none w6 ∧ Fr bn W none w6 ∧ w6.cell? ⟨bk, 0, none⟩ = some (.int .i64 most)) := ⟨fun w6 hs hG => by
      have hK6 := (hG.block _ (blk_lt HK3.out) (fun e => h2 (by injection e with e; exact e.symm))).trans HK3.out
      exact ⟨⟨rfl, hs, ⟨by simp only; omega, by simp only; omega⟩, (hG.block _ (blk_lt HM3b.out) (fun e => h1 (by injection e with e; exact e.symm))).trans HM3b.out, hK6, HM3.out.grown hG (Ne.symm h3) hok⟩, ⟨hG.os.trans HB03.out.os, hG.tape.trans HB03.out.tape, hG.output.trans HB03.out.output, Nat.le_trans HB03.out.size hG.size, fun i hi hb hn => (hG.block i (Nat.lt_of_lt_of_le hi HB03.out.size) (fun e => hb (by injection e))).trans (HB03.out.block i hi)⟩, one_cell hK6⟩⟩
    by_cases hv : 0 < x.f0
    · have hh := key.out hv
      simp only [hh]
      go_upto_region 5 with ((with_reducible refine gate_store (t := 3) (p := 3) rfl ?_); refine st_blk rfl rfl rfl #[.int .i64 (s.1 + 1)] [.int .i64 (s.1 + 1)] rfl rfl rfl sizeInt1 (oneI _) HN3.out (Nat.le_refl 1) rfl ?_; intro w6 hs6 hG6 hz6; have HN6 := Aside0.mk hs6; have HG6 := Aside0.mk (goal1.out w6 hs6 hG6); clear hs6 hG6 hz6 n0 q0 q1 q2)
      have n0 := one_cell HN6.out
      have m0 := HG6.out.2.2
      go_wp2
      go_ret
      first | exact ⟨none, by rw [HSZ.out] <;> rfl, by rw [HSZ.out]; exact HG6.out.1, HG6.out.2.1, .inl rfl⟩ | exact ⟨by rw [HSZ.out] <;> rfl, none, by rw [HSZ.out]; exact HG6.out.1, HG6.out.2.1, .inl rfl⟩
    · go_upto_region 5 with ((with_reducible refine gate_store (t := 3) (p := 3) rfl ?_); refine st_blk rfl rfl rfl #[.int .i64 (s.1 + 1)] [.int .i64 (s.1 + 1)] rfl rfl rfl sizeInt1 (oneI _) HN3.out (Nat.le_refl 1) rfl ?_; intro w6 hs6 hG6 hz6; have HN6 := Aside0.mk hs6; have HG6 := Aside0.mk (goal1.out w6 hs6 hG6); clear hs6 hG6 hz6 n0 q0 q1 q2)
      have n0 := one_cell HN6.out
      have m0 := HG6.out.2.2
      go_wp2
      go_ret
      first | exact ⟨none, by rw [HSZ.out] <;> rfl, by rw [HSZ.out]; exact HG6.out.1, HG6.out.2.1, .inl rfl⟩ | exact ⟨by rw [HSZ.out] <;> rfl, none, by rw [HSZ.out]; exact HG6.out.1, HG6.out.2.1, .inl rfl⟩
set_option maxHeartbeats 4000000 in
set_option maxRecDepth 100000 in
theorem sizeS_any (m : List (Int × Tm)) (b : Nat) (okm : Nat → Prop) (t : Tm) (A : Option Addr) (c : Nat) (okt : Nat → Prop) (w : World) (most : Int) (hmo : 0 ≤ most ∧ most ≤ 1000) (hbd : szT t ≤ 1000000) (hM : MapT w b okm m) (hF : Kd.F kTm w okt A t.f2.length t.f2) (hc : t.f2.length ≤ c) :
    Calls Try.prog 130 #[.map (some b), .agg #[.int .i64 t.f0, .int .i64 t.f1, .slice A t.f2.length c], .int .i64 most] w fun e w' => e = .returned (.int .i64 (sizV m most t)) ∧ Below w.heap.size w w' := by
  have hbl := hM.lt
  have HF := Aside0.mk (Kd.F_bound hF)
  have HM := Aside0.mk (MapT.bound hM)
  clear hF hM
  have g0 := blk_alloc (blk_alloc (blk_alloc (newAt (w := w) (o := .cells #[.map (some b)] 121) rfl) (.cells #[.int .i64 t.f0, .int .i64 t.f1, .slice A t.f2.length c] 46)) (.cells #[.int .i64 most] 3)) (.cells #[.int .i64 0] 3)
  have g1 := blk_alloc (blk_alloc (newAt (w := w.alloc (.cells #[.map (some b)] 121)) (o := .cells #[.int .i64 t.f0, .int .i64 t.f1, .slice A t.f2.length c] 46) (k := w.heap.size + 1) (by simp)) (.cells #[.int .i64 most] 3)) (.cells #[.int .i64 0] 3)
  have g2 := blk_alloc (newAt (w := (w.alloc (.cells #[.map (some b)] 121)).alloc (.cells #[.int .i64 t.f0, .int .i64 t.f1, .slice A t.f2.length c] 46)) (o := .cells #[.int .i64 most] 3) (k := w.heap.size + 1 + 1) (by simp)) (.cells #[.int .i64 0] 3)
  have g3 := newAt (w := ((w.alloc (.cells #[.map (some b)] 121)).alloc (.cells #[.int .i64 t.f0, .int .i64 t.f1, .slice A t.f2.length c] 46)).alloc (.cells #[.int .i64 most] 3)) (o := .cells #[.int .i64 0] 3) (k := w.heap.size + 1 + 1 + 1) (by simp)
  have HB := Aside0.mk (below_alloc (below_alloc (below_alloc (below_alloc (Below.refl w.heap.size w) (.cells #[.map (some b)] 121)) (.cells #[.int .i64 t.f0, .int .i64 t.f1, .slice A t.f2.length c] 46)) (.cells #[.int .i64 most] 3)) (.cells #[.int .i64 0] 3))
  go_enter Try.func130, Try.ntmps130
  go_upto_region 2 with (fail)
  generalize (((w.alloc (.cells #[.map (some b)] 121)).alloc (.cells #[.int .i64 t.f0, .int .i64 t.f1, .slice A t.f2.length c] 46)).alloc (.cells #[.int .i64 most] 3)).alloc (.cells #[.int .i64 0] 3) = W at *
  obtain ⟨t0, t1, t2⟩ := tm_cells g1
  have HW := Aside0.mk (Walk_any 150 #[.pointer (some ⟨w.heap.size, 0, none⟩), .pointer (some ⟨w.heap.size + 1 + 1 + 1, 0, none⟩), .pointer (some ⟨w.heap.size + 1 + 1, 0, none⟩)] (szF m most) (w.heap.size + 1 + 1 + 1) (SzS (w.heap.size + 1 + 1 + 1) w.heap.size (w.heap.size + 1 + 1) b most (fun k => okm k ∧ k < w.heap.size) m) (enters_of Try.func150 (by kernel_rfl) rfl) (·.2) 1000000 (fun s x => Nat.le_refl _)
    (size1S_any (w.heap.size + 1 + 1 + 1) w.heap.size (w.heap.size + 1 + 1) b most _ m 1000000 (Nat.le_refl _) hmo (by omega) (by omega) (by omega) (fun k hk => by have := hk.2; omega)) (SzS_ok _ _ _ _ _ _ _) t A c (0, 0) none (fun k => okt k ∧ k < w.heap.size) W (by simpa using hbd) hbd (Kd.F_below HF.out HB.out) hc (fun k hk => ⟨by have := hk.2; omega, by simp⟩) ⟨rfl, g3, ⟨by decide, by decide⟩, g0, g2, HM.out.below HB.out⟩)
  clear g0 g1 g2 g3
  go_upto_region 3 with (go_at_call 118; refine HW.out.mono ?_; rintro e w2 ⟨ro2, rfl, hS2, hFr2, hRo2⟩; have HS2 := Aside0.mk hS2; have HFr2 := Aside0.mk hFr2; clear hS2 hFr2 hRo2 t0 t1 t2)
  have n0 := one_cell HS2.out.2.1
  go_wp2
  go_ret
  exact ⟨rfl, HFr2.out.os.trans HB.out.os, HFr2.out.tape.trans HB.out.tape, HFr2.out.output.trans HB.out.output, Nat.le_trans HB.out.size HFr2.out.size, fun i hi => (HFr2.out.block i (Nat.lt_of_lt_of_le hi HB.out.size) (by omega) (by simp)).trans (HB.out.block i hi)⟩
def rawE (m : List (Int × Tm)) (t : Tm) : Int := if totT m t ≤ 120 then 0 else 2
def rawV (m : List (Int × Tm)) (t : Tm) : Tm := if totT m t ≤ 120 then mapT (dlt m) t else zTm
set_option maxHeartbeats 4000000 in
set_option maxRecDepth 100000 in
theorem raw_any (m : List (Int × Tm)) (b : Nat) (okm : Nat → Prop) (hsz : ∀ v u, mget m v = some u → szT u * 40 ≤ 140737488355328) (t : Tm) (A : Option Addr) (c : Nat) (okt : Nat → Prop) (w : World) (hbd : szT t ≤ 1000000) (hM : MapT w b okm m) (hF : Kd.F kTm w okt A t.f2.length t.f2) (hc : t.f2.length ≤ c) :
    Calls Try.prog 105 #[.map (some b), .agg #[.int .i64 t.f0, .int .i64 t.f1, .slice A t.f2.length c]] w fun e w' => ∃ A' c', e = .returned (.tuple #[.agg #[.int .i64 (rawV m t).f0, .int .i64 (rawV m t).f1, .slice A' (rawV m t).f2.length c'], .int .i64 (rawE m t)]) ∧ (rawV m t).f2.length ≤ c' ∧ Kd.F kTm w' (fun k => w.heap.size ≤ k) A' (rawV m t).f2.length (rawV m t).f2 ∧ Below w.heap.size w w' := by
  have HF := Aside0.mk hF
  have HM := Aside0.mk hM
  have HSZ := Aside0.mk hsz
  clear hF hM hsz
  have g0 := blk_alloc (newAt (w := w) (o := .cells #[.int .i64 t.f0, .int .i64 t.f1, .slice A t.f2.length c] 46) rfl) (.cells #[.int .i64 0, .int .i64 0, .slice none 0 0] 46)
  have g1 := newAt (w := w.alloc (.cells #[.int .i64 t.f0, .int .i64 t.f1, .slice A t.f2.length c] 46)) (o := .cells #[.int .i64 0, .int .i64 0, .slice none 0 0] 46) (k := w.heap.size + 1) (by simp)
  have HB := Aside0.mk (below_alloc (below_alloc (Below.refl w.heap.size w) (.cells #[.int .i64 t.f0, .int .i64 t.f1, .slice A t.f2.length c] 46)) (.cells #[.int .i64 0, .int .i64 0, .slice none 0 0] 46))
  go_enter Try.func105, Try.ntmps105
  go_upto_region 1 with (fail)
  generalize (w.alloc (.cells #[.int .i64 t.f0, .int .i64 t.f1, .slice A t.f2.length c] 46)).alloc (.cells #[.int .i64 0, .int .i64 0, .slice none 0 0] 46) = W at *
  have G0 := Aside0.mk g0
  have G1 := Aside0.mk g1
  obtain ⟨t0, t1, t2⟩ := tm_cells g0
  have hg1 := blk_lt g1
  clear g0 g1
  have SZ := Aside0.mk (sizeS_any m b okm t A c okt W 120 ⟨by decide, by decide⟩ hbd (HM.out.below HB.out) (Kd.F_below HF.out HB.out) hc)
  by_cases ht : totT m t ≤ 120
  · have HE : Aside0 (rawE m t = 0) := ⟨by unfold rawE; rw [if_pos ht]⟩
    have HV : Aside0 (rawV m t = mapT (dlt m) t) := ⟨by unfold rawV; rw [if_pos ht]⟩
    have hz : sizV m 120 t ≤ 120 := by rw [sizV_le ht]; exact ht
    clear ht
    generalize sizV m 120 t = z at *
    go_upto_region 3 with (go_at_call 130; refine SZ.out.mono ?_; rintro e w2 ⟨rfl, hb2⟩; have HB2 := Aside0.mk hb2; clear hb2 t0 t1 t2)
    have HW2 := Aside0.mk (hbT HB.out HB2.out)
    obtain ⟨t0, t1, t2⟩ := tm_cells ((HB2.out.block _ (blk_lt G0.out)).trans G0.out)
    have HMA := Aside0.mk (made_any m b okm okt HSZ.out t A c w2 (by omega) (HM.out.below HW2.out) (Kd.F_below HF.out HW2.out) hc)
    have hw2 := HB2.out.size
    go_wp2_with (first | (go_at_call 99; refine HMA.out.mono ?_; rintro e w3 ⟨A3, c3, rfl, h3, hF3, hb3⟩; have HF3 := Aside0.mk hF3; have HB3 := Aside0.mk (hbT HB2.out hb3); have H3 := Aside0.mk h3; have G3 := Aside0.mk ((hb3.block _ (by omega)).trans ((HB2.out.block _ hg1).trans G1.out)); clear hF3 hb3 h3 t0 t1 t2) | (((with_reducible refine gate_store (t := 46) (p := 4) rfl ?_); refine st_tm 4 rfl rfl rfl rfl rfl G3.out ?_); intro w4 hs4 hG4 hz4; have HS4 := Aside0.mk hs4; have HG4 := Aside0.mk hG4; clear hs4 hG4 hz4))
    ((try simp only [Exit.inBlock, Exit.then]); refine bodyPost_ret (results_ct rfl _ _ _ 46 _ (0, 0) _ rfl HS4.out Try.underlying46 rfl (by kernel_rfl)) rfl ?_)
    rw [HV.out]
    refine ⟨A3, c3, by rw [HE.out] <;> rfl, H3.out, Kd.F_mono (Kd.F_grown HF3.out HG4.out (fun k hk => by intro e; injection e with e; omega)) (fun k hk => by have := HW2.out.size; omega), gbS (hbT HB.out HB3.out) HG4.out (by omega)⟩
  · have HE : Aside0 (rawE m t = 2) := ⟨by unfold rawE; rw [if_neg ht]⟩
    have HV : Aside0 (rawV m t = zTm) := ⟨by unfold rawV; rw [if_neg ht]⟩
    have hz : 120 < sizV m 120 t := sizV_gt ht
    clear ht
    generalize sizV m 120 t = z at *
    go_upto_region 2 with (go_at_call 130; refine SZ.out.mono ?_; rintro e w2 ⟨rfl, hb2⟩; have HB2 := Aside0.mk hb2; clear hb2 t0 t1 t2)
    have HW2 := Aside0.mk (hbT HB.out HB2.out)
    have G3 := Aside0.mk ((HB2.out.block _ hg1).trans G1.out)
    go_wp2_with (((with_reducible refine gate_store (t := 46) (p := 4) rfl ?_); refine st_tm 4 rfl rfl rfl rfl rfl G3.out ?_); intro w4 hs4 hG4 hz4; have HS4 := Aside0.mk hs4; have HG4 := Aside0.mk hG4; clear hs4 hG4 hz4)
    ((try simp only [Exit.inBlock, Exit.then]); refine bodyPost_ret (results_ct rfl _ _ _ 46 _ (0, 0) _ rfl HS4.out Try.underlying46 rfl (by kernel_rfl)) rfl ?_)
    rw [HV.out]
    exact ⟨none, 0, by rw [HE.out] <;> rfl, Nat.le_refl _, fun W' _ => Kd.C_nil _ _, gbS HW2.out HG4.out (by omega)⟩
end Go.Proofs.Ytcgnpmjkeifokaa
-- K101
/- rewrite.step. -/
namespace Go.Proofs.Ytcgnpmjkeifokaa
open Go.RowKit Go.Proofs.YtcgnpmjkeifokaaW.PrintWords
set_option linter.unusedVariables false
set_option linter.unusedSimpArgs false
/-- What is bound by matching stands in the term. -/
theorem grow_vals {S : Tm → Prop} (p : Tm) : ∀ (t : Tm) (m : List (Int × Tm)), (∀ v u, mget m v = some u → S u) → (∀ x ∈ ptsT t, S x) → ∀ v u, mget (growT m p t).1 v = some u → S u := by
  refine Tm.rec (motive_1 := fun p => ∀ (t : Tm) (m : List (Int × Tm)), (∀ v u, mget m v = some u → S u) → (∀ x ∈ ptsT t, S x) → ∀ v u, mget (growT m p t).1 v = some u → S u)
    (motive_2 := fun l => ∀ (ts : List Tm) (m : List (Int × Tm)), (∀ v u, mget m v = some u → S u) → (∀ x ∈ ptsL ts, S x) → ∀ v u, mget (growL m l ts).1 v = some u → S u) ?_ ?_ ?_ p
  · intro v f l ih t m hm ht v' u' h
    rw [growT] at h
    by_cases hv : 0 < v
    · rw [if_pos hv] at h
      cases hg : mget m v with
      | some u => rw [hg] at h; exact hm v' u' h
      | none =>
        rw [hg] at h
        simp only at h
        cases hg2 : mget m v' with
        | some u2 =>
          rw [mget_prefix hg2] at h
          injection h with h
          subst h
          exact hm v' _ hg2
        | none =>
          rw [mget_append hg2, mget] at h
          by_cases e : v = v'
          · rw [if_pos e] at h
            injection h with h
            subst h
            exact ht _ (by rw [ptsT_eq]; simp)
          · rw [if_neg e] at h; cases h
    · rw [if_neg hv] at h
      by_cases hc : t.f0 = 0 ∧ f = t.f1 ∧ l.length = t.f2.length
      · rw [if_pos hc] at h
        exact ih t.f2 m hm (fun x hx => ht x (by rw [ptsT_eq]; exact List.mem_append.2 (.inl hx))) v' u' h
      · rw [if_neg hc] at h; exact hm v' u' h
  · intro ts m hm hs v u h
    rw [growL] at h; exact hm v u h
  · intro t ts h1 h2 us m hm hs v u h
    cases us with
    | nil => rw [growL] at h; exact hm v u h
    | cons y ys =>
      rw [growL] at h
      have hy : ∀ v u, mget (growT m t y).1 v = some u → S u := h1 y m hm (fun x hx => hs x (by rw [ptsL]; exact List.mem_append.2 (.inl hx)))
      by_cases hb : (growT m t y).2 = true
      · rw [if_pos hb] at h
        exact h2 ys _ hy (fun x hx => hs x (by rw [ptsL]; exact List.mem_append.2 (.inr hx))) v u h
      · rw [if_neg hb] at h; exact hy v u h
theorem pts_sz {t x : Tm} (h : x ∈ ptsT t) : szT x ≤ szT t := by
  revert h
  refine Tm.rec (motive_1 := fun t => x ∈ ptsT t → szT x ≤ szT t) (motive_2 := fun l => x ∈ ptsL l → szT x ≤ szL l) ?_ ?_ ?_ t
  · intro v f l ih h
    rw [ptsT, List.mem_append] at h
    rcases h with h | h
    · have := ih h; rw [szT]; omega
    · obtain rfl : x = ⟨v, f, l⟩ := by simpa using h
      exact Nat.le_refl _
  · intro h; rw [ptsL] at h; cases h
  · intro t ts h1 h2 h
    rw [ptsL, List.mem_append] at h
    rw [szL]
    rcases h with h | h
    · have := h1 h; omega
    · have := h2 h; omega
theorem pts_mem_arg {t x y : Tm} (hx : x ∈ t.f2) (hy : y ∈ ptsT x) : y ∈ ptsT t := by
  rw [ptsT_eq, List.mem_append]
  refine .inl ?_
  generalize t.f2 = l at *
  induction l with
  | nil => cases hx
  | cons a l ih =>
    rw [ptsL, List.mem_append]
    cases hx with
    | head => exact .inl hy
    | tail _ hx => exact .inr (ih hx)
/-- What found found: a place that is, the rule, and what makes it match there. -/
theorem fnd_spec (l : List Rl) (t : Tm) : ∀ q r m, fndT l t = some (q, r, m) → atB t q = true ∧ r ∈ l ∧ growT [] r.f0 (atT t q) = (m, true) ∧ atT t q ∈ ptsT t := by
  refine Tm.rec (motive_1 := fun t => ∀ q r m, fndT l t = some (q, r, m) → atB t q = true ∧ r ∈ l ∧ growT [] r.f0 (atT t q) = (m, true) ∧ atT t q ∈ ptsT t)
    (motive_2 := fun as' => ∀ (i : Nat) q r m, fndL l i as' = some (q, r, m) → ∃ (k : Nat) (q' : List Int), k < as'.length ∧ q = ((i + k : Nat) : Int) :: q' ∧ atB (rd_Tm as' k) q' = true ∧ r ∈ l ∧ growT [] r.f0 (atT (rd_Tm as' k) q') = (m, true) ∧ atT (rd_Tm as' k) q' ∈ ptsT (rd_Tm as' k)) ?_ ?_ ?_ t
  · intro v f as' ih q r m h
    rw [fndT] at h
    cases hl : fndL l 0 as' with
    | some x =>
      rw [hl] at h
      injection h with h
      subst h
      obtain ⟨k, q', hk, rfl, h1, h2, h3, h4⟩ := ih 0 q r m hl
      rw [Nat.zero_add]
      have e : atP ⟨v, f, as'⟩ ((k : Int) :: q') = atP (rd_Tm as' k) q' := by
        rw [atP, if_pos (by constructor; exact Int.natCast_nonneg _; show (k : Int) < as'.length; omega)]
      have e1 : atT ⟨v, f, as'⟩ ((k : Int) :: q') = atT (rd_Tm as' k) q' := by unfold atT; rw [e]
      have e2 : atB ⟨v, f, as'⟩ ((k : Int) :: q') = atB (rd_Tm as' k) q' := by unfold atB; rw [e]
      rw [e1, e2]
      exact ⟨h1, h2, h3, pts_mem_arg (t := ⟨v, f, as'⟩) (rd_mem as' k hk) h4⟩
    | none =>
      rw [hl] at h
      simp only at h
      cases hf : frst l ⟨v, f, as'⟩ with
      | none => rw [hf] at h; cases h
      | some y =>
        rw [hf] at h
        obtain ⟨r', m'⟩ := y
        simp only [Option.map_some, Option.some.injEq, Prod.mk.injEq] at h
        obtain ⟨rfl, rfl, rfl⟩ := h
        obtain ⟨a, b⟩ := frst_mem hf
        exact ⟨rfl, a, b, by show _ ∈ ptsT _; rw [ptsT]; exact List.mem_append.2 (.inr (by show (⟨v, f, as'⟩ : Tm) ∈ _; simp))⟩
  · intro i q r m h
    rw [fndL] at h; cases h
  · intro t ts h1 h2 i q r m h
    rw [fndL] at h
    cases hf : fndT l t with
    | some x =>
      rw [hf] at h
      obtain ⟨q', r', m'⟩ := x
      simp only [Option.some.injEq, Prod.mk.injEq] at h
      obtain ⟨rfl, rfl, rfl⟩ := h
      obtain ⟨a, b, c, d⟩ := h1 q' r' m' hf
      exact ⟨0, q', by simp, by simp, a, b, c, d⟩
    | none =>
      rw [hf] at h
      obtain ⟨k, q', hk, rfl, a, b, c, d⟩ := h2 (i + 1) q r m h
      have e : rd_Tm (t :: ts) ((k + 1 : Nat) : Int) = rd_Tm ts (k : Int) := by unfold rd_Tm; simp
      exact ⟨k + 1, q', by simpa using hk, by congr 1; omega, by rw [e]; exact a, b, by rw [e]; exact c, by rw [e]; exact d⟩
/-- A step. -/
def stp (l : List Rl) (t : Tm) : Tm × Bool × Int := match fndT l t with
  | none => (t, false, 0)
  | some x => if totT x.2.2 x.2.1.f1 ≤ 120 then (if szT (layP t x.1 (mapT (dlt x.2.2) x.2.1.f1)) ≤ 120 then (layP t x.1 (mapT (dlt x.2.2) x.2.1.f1), true, 0) else (zTm, false, 2)) else (zTm, false, 2)
theorem st_none {l : List Rl} {t : Tm} (h : fndT l t = none) : stp l t = (t, false, 0) := by unfold stp; rw [h]
theorem st_many {l : List Rl} {t : Tm} {x : List Int × Rl × List (Int × Tm)} (h : fndT l t = some x) (h1 : ¬ totT x.2.2 x.2.1.f1 ≤ 120) : stp l t = (zTm, false, 2) := by unfold stp; rw [h]; simp only; rw [if_neg h1]
theorem st_great {l : List Rl} {t : Tm} {x : List Int × Rl × List (Int × Tm)} (h : fndT l t = some x) (h1 : totT x.2.2 x.2.1.f1 ≤ 120) (h2 : ¬ szT (layP t x.1 (mapT (dlt x.2.2) x.2.1.f1)) ≤ 120) : stp l t = (zTm, false, 2) := by unfold stp; rw [h]; simp only; rw [if_pos h1, if_neg h2]
theorem st_made {l : List Rl} {t : Tm} {x : List Int × Rl × List (Int × Tm)} (h : fndT l t = some x) (h1 : totT x.2.2 x.2.1.f1 ≤ 120) (h2 : szT (layP t x.1 (mapT (dlt x.2.2) x.2.1.f1)) ≤ 120) : stp l t = (layP t x.1 (mapT (dlt x.2.2) x.2.1.f1), true, 0) := by unfold stp; rw [h]; simp only; rw [if_pos h1, if_pos h2]
set_option maxHeartbeats 4000000 in
set_option maxRecDepth 100000 in
theorem step_any (l : List Rl) (Al : Option Addr) (cl : Nat) (okl : Nat → Prop) (t : Tm) (A : Option Addr) (c : Nat) (okt : Nat → Prop) (w : World) (hst : szT t ≤ 120) (hrz : ∀ r ∈ l, szT r.f0 ≤ 120 ∧ szT r.f1 ≤ 120) (hFl0 : Kd.F kRl w okl Al l.length l) (hF0 : Kd.F kTm w okt A t.f2.length t.f2) (hc : t.f2.length ≤ c) :
    Calls Try.prog 66 #[.slice Al l.length cl, .agg #[.int .i64 t.f0, .int .i64 t.f1, .slice A t.f2.length c]] w fun e w' => ∃ A' c', e = .returned (.tuple #[.agg #[.int .i64 (stp l t).1.f0, .int .i64 (stp l t).1.f1, .slice A' (stp l t).1.f2.length c'], .bool (stp l t).2.1, .int .i64 (stp l t).2.2]) ∧ (stp l t).1.f2.length ≤ c' ∧ Kd.F kTm w' (fun k => okt k ∨ w.heap.size ≤ k) A' (stp l t).1.f2.length (stp l t).1.f2 ∧ Below w.heap.size w w' := by
  have hlen := Kd.F_max hF0
  have HFL := Aside0.mk (Kd.F_bound hFl0)
  have HF := Aside0.mk (Kd.F_bound hF0)
  have HRZ := Aside0.mk hrz
  clear hFl0 hF0 hrz
  have g0 := blk_alloc (newAt (w := w) (o := .cells #[.int .i64 t.f0, .int .i64 t.f1, .slice A t.f2.length c] 46) rfl) (.cells #[.int .i64 0, .int .i64 0, .slice none 0 0] 46)
  have g1 := newAt (w := w.alloc (.cells #[.int .i64 t.f0, .int .i64 t.f1, .slice A t.f2.length c] 46)) (o := .cells #[.int .i64 0, .int .i64 0, .slice none 0 0] 46) (k := w.heap.size + 1) (by simp)
  have HB := Aside0.mk (below_alloc (below_alloc (Below.refl w.heap.size w) (.cells #[.int .i64 t.f0, .int .i64 t.f1, .slice A t.f2.length c] 46)) (.cells #[.int .i64 0, .int .i64 0, .slice none 0 0] 46))
  go_enter Try.func66, Try.ntmps66
  go_upto_region 1 with (fail)
  generalize (w.alloc (.cells #[.int .i64 t.f0, .int .i64 t.f1, .slice A t.f2.length c] 46)).alloc (.cells #[.int .i64 0, .int .i64 0, .slice none 0 0] 46) = W at *
  have G0 := Aside0.mk g0
  have G1 := Aside0.mk g1
  obtain ⟨t0, t1, t2⟩ := tm_cells g0
  have hW1 := blk_lt g1
  clear g0 g1
  have FN := Aside0.mk (found_any l Al cl (fun k => okl k ∧ k < w.heap.size) (szT t) t A c [] none 0 (fun k => okt k ∧ k < w.heap.size) (fun _ => False) W (Nat.le_refl _) (by simp; omega) (fun r hr => by have := (HRZ.out r hr).1; omega) (fun k hk => by have := hk.2; omega) (fun k hk => by have := hk.2; omega) (Kd.F_below HFL.out HB.out) (Kd.F_below HF.out HB.out) hc (fun _ h => h.elim) (fun W' _ => Kd.C_nil _ _) (Nat.le_refl _))
  simp only [List.length_nil] at FN
  go_upto_region 2 with (first | (go_at_call 104; refine FN.out.mono ?_; rintro e w2 ⟨v1, v2, v3, bv, rfl, hV, hb2⟩; have HV := Aside0.mk hV; have HB2 := Aside0.mk hb2; clear hV hb2 t0 t1 t2; obtain ⟨r, A2, c2, A5, c5, rfl, hVV⟩ := HV.out; have HVV := Aside0.mk hVV; clear hVV) | (((with_reducible refine gate_store (t := 100) (p := 8) rfl ?_); refine st_rl 8 rfl rfl rfl rfl rfl (heap_alloc_new _ _) ?_); intro w3 hs3 hG3 hz3; have GR := Aside0.mk hs3; have HB23 := Aside0.mk (gbS (below_alloc (Below.refl w2.heap.size w2) _) hG3 (Nat.le_refl _)); clear hs3 hG3 hz3))
  have HB3 := Aside0.mk (hbT HB2.out HB23.out)
  have HW3 := Aside0.mk (hbT HB.out HB3.out)
  have hz3 := HB3.out.size
  have HR3 := Aside0.mk ((HB3.out.block _ (blk_lt G1.out)).trans G1.out)
  have HT3 := Aside0.mk ((HB3.out.block _ (blk_lt G0.out)).trans G0.out)
  cases hfd : fndT l t with
  | none =>
    have HR : Aside0 (stp l t = (t, false, 0)) := ⟨st_none hfd⟩
    rw [hfd] at HVV
    have hbv : bv = false := HVV.out
    subst hbv
    clear hfd HVV HV FN
    obtain ⟨t0, t1, t2⟩ := tm_cells HT3.out
    go_wp2_with (((with_reducible refine gate_store (t := 46) (p := 4) rfl ?_); refine st_tm 4 rfl rfl rfl rfl rfl HR3.out ?_); intro w4 hs4 hG4 hz4; have HS4 := Aside0.mk hs4; have HG4 := Aside0.mk hG4; clear hs4 hG4 hz4)
    ((try simp only [Exit.inBlock, Exit.then]); refine bodyPost_ret (results_ctt rfl _ _ _ 46 _ (0, 0) _ rfl HS4.out Try.underlying46 rfl (by kernel_rfl)) rfl ?_)
    rw [HR.out]
    exact ⟨A, c, rfl, hc, Kd.F_mono (Kd.F_grown (Kd.F_below HF.out HW3.out) HG4.out (fun k hk e => by injection e with e; have := hk.2; omega)) (fun k hk => .inl hk.1), gbS HW3.out HG4.out (by omega)⟩
  | some x =>
    obtain ⟨q, r', m⟩ := x
    obtain ⟨s1, s2, s3, s4⟩ := fnd_spec l t q r' m hfd
    have HA1 := Aside0.mk s1
    have HFD := Aside0.mk hfd
    have hrz := HRZ.out r' s2
    have HMV : Aside0 (∀ v u, mget m v = some u → szT u ≤ 120) := ⟨fun v u hu => by
      have h := grow_vals (S := fun u => szT u ≤ 120) r'.f0 (atT t q) [] (fun _ _ h => by cases h) (fun x hx => by have := pts_sz hx; have := pts_sz s4; omega) v u (by rw [s3]; exact hu)
      exact h⟩
    rw [hfd] at HVV
    obtain ⟨h1, h2, ⟨l2, l5⟩, ⟨f2, f5⟩, A1, c1, b, e1, e2, e3, e4, e5, _⟩ := HVV.out
    simp only [List.nil_append] at h1 h2 e1 e2 e3 e4 e5
    subst h1 h2 e1 e4
    have HF5 := Aside0.mk (Kd.F_below f5 HB23.out)
    have HPL := Aside0.mk (Kd.F_below e3 HB23.out)
    have HMT := Aside0.mk (e5.below HB23.out)
    clear f2 f5 e3 e5 hfd HVV HV FN s1 s2 s3 s4
    have RW := Aside0.mk (raw_any m b _ (fun v u hu => by have := HMV.out v u hu; omega) r.f1 A5 c5 _ w3 (by omega) HMT.out HF5.out l5)
    obtain ⟨r0, r1, r2, r3, r4, r5⟩ := rl_cells GR.out
    by_cases htt : totT m r.f1 ≤ 120
    · have HE0 : Aside0 (rawE m r.f1 = 0) := ⟨by unfold rawE; rw [if_pos htt]⟩
      have HV0 : Aside0 (rawV m r.f1 = mapT (dlt m) r.f1) := ⟨by unfold rawV; rw [if_pos htt]⟩
      have HTT := Aside0.mk htt
      rw [HE0.out, HV0.out] at RW
      clear htt HE0 HV0
      generalize hu : mapT (dlt m) r.f1 = u at *
      have HU := Aside0.mk hu
      clear hu
      go_upto_region 7 with (first | (go_at_call 105; refine RW.out.mono ?_; rintro e w4 ⟨A4, c4, rfl, h4, hF4, hb4⟩; have HF4 := Aside0.mk hF4; have HB34 := Aside0.mk hb4; have H4 := Aside0.mk h4; clear hF4 hb4 h4 r0 r1 r2 r3 r4 r5) | (((with_reducible refine gate_store (t := 46) (p := 11) rfl ?_); refine st_tm 11 rfl rfl rfl rfl rfl (heap_alloc_new _ _) ?_); intro w5 hs5 hG5 hz5; have GU := Aside0.mk hs5; have HB45 := Aside0.mk (gbS (below_alloc (Below.refl w4.heap.size w4) _) hG5 (Nat.le_refl _)); clear hs5 hG5 hz5))
      have HB5 := Aside0.mk (hbT HB34.out HB45.out)
      have HW5 := Aside0.mk (hbT HW3.out HB5.out)
      have hz5 := HB5.out.size
      obtain ⟨u0, u1, u2⟩ := tm_cells GU.out
      obtain ⟨t0, t1, t2⟩ := tm_cells ((HB5.out.block _ (blk_lt HT3.out)).trans HT3.out)
      have LY := Aside0.mk (lay_any q t u A A4 c c4 A1 c1 (fun k => (okt k ∧ k < w.heap.size) ∨ W.heap.size ≤ k) w5 HA1.out (by omega) (Kd.F_mono (Kd.F_below HF.out HW5.out) (fun k hk => .inl hk)) hc (Kd.F_mono (Kd.F_below HF4.out HB45.out) (fun k hk => .inr (by omega))) H4.out (Kd.F_now (Kd.F_below HPL.out HB5.out)) e2)
      generalize hy : layP t q u = y at *
      have HY := Aside0.mk hy
      clear hy
      go_upto_region 8 with (first | (go_at_call 93; refine LY.out.mono ?_; rintro e w6 ⟨A6, c6, rfl, h6, hF6, hb6⟩; have HF6 := Aside0.mk (Kd.F_bound hF6); have HB56 := Aside0.mk hb6; have H6 := Aside0.mk h6; clear hF6 hb6 h6 t0 t1 t2 u0 u1 u2) | (((with_reducible refine gate_store (t := 46) (p := 13) rfl ?_); refine st_tm 13 rfl rfl rfl rfl rfl (heap_alloc_new _ _) ?_); intro w7 hs7 hG7 hz7; have GY := Aside0.mk hs7; have HB67 := Aside0.mk (gbS (below_alloc (Below.refl w6.heap.size w6) _) hG7 (Nat.le_refl _)); clear hs7 hG7 hz7))
      have HB7 := Aside0.mk (hbT HB5.out (hbT HB56.out HB67.out))
      have HW7 := Aside0.mk (hbT HW3.out HB7.out)
      have HF7 := Aside0.mk (Kd.F_below HF6.out HB67.out)
      obtain ⟨y0, y1, y2⟩ := tm_cells GY.out
      have CN := Aside0.mk (count_any (szT y) y A6 c6 w7 120 (Nat.le_refl _) (Kd.F_now HF7.out) (by decide) (by decide))
      have HR7 := Aside0.mk ((HB7.out.block _ (blk_lt HR3.out)).trans HR3.out)
      by_cases hsz : szT y ≤ 120
      · have HR : Aside0 (stp l t = (y, true, 0)) := ⟨by rw [st_made HFD.out HTT.out (by rw [HU.out, HY.out]; exact hsz), HU.out, HY.out]⟩
        have hmin : min (szT y : Int) (120 + 1) ≤ 120 := by omega
        clear hsz
        generalize min (szT y : Int) (120 + 1) = z at *
        go_upto_region 10 with (go_at_call 87; refine CN.out.mono ?_; rintro e w8 ⟨rfl, hb8⟩; have HB78 := Aside0.mk hb8; clear hb8 y0 y1 y2)
        obtain ⟨y0, y1, y2⟩ := tm_cells ((HB78.out.block _ (blk_lt GY.out)).trans GY.out)
        have HR8 := Aside0.mk ((HB78.out.block _ (blk_lt HR7.out)).trans HR7.out)
        go_wp2_with (((with_reducible refine gate_store (t := 46) (p := 4) rfl ?_); refine st_tm 4 rfl rfl rfl rfl rfl HR8.out ?_); intro w9 hs9 hG9 hz9; have HS9 := Aside0.mk hs9; have HG9 := Aside0.mk hG9; clear hs9 hG9 hz9)
        ((try simp only [Exit.inBlock, Exit.then]); refine bodyPost_ret (results_ctt rfl _ _ _ 46 _ (0, 0) _ rfl HS9.out Try.underlying46 rfl (by kernel_rfl)) rfl ?_)
        rw [HR.out]
        exact ⟨A6, c6, rfl, H6.out, Kd.F_mono (Kd.F_grown (Kd.F_below (Kd.F_mono HF7.out (ok' := fun k => (okt k ∧ k < w.heap.size) ∨ W.heap.size ≤ k) (fun k hk => hk.1.elim (fun h => h) (fun h => .inr (by omega)))) HB78.out) HG9.out (fun k hk e => by injection e with e; rcases hk with hk | hk; have := hk.2; omega; omega)) (fun k hk => hk.imp (fun h => h.1) (fun h => by omega)), gbS (hbT HW7.out HB78.out) HG9.out (by omega)⟩
      · have HR : Aside0 (stp l t = (zTm, false, 2)) := ⟨st_great HFD.out HTT.out (by rw [HU.out, HY.out]; exact hsz)⟩
        have hmin : 120 < min (szT y : Int) (120 + 1) := by omega
        clear hsz
        generalize min (szT y : Int) (120 + 1) = z at *
        go_upto_region 9 with (go_at_call 87; refine CN.out.mono ?_; rintro e w8 ⟨rfl, hb8⟩; have HB78 := Aside0.mk hb8; clear hb8 y0 y1 y2)
        have HR8 := Aside0.mk ((HB78.out.block _ (blk_lt HR7.out)).trans HR7.out)
        go_wp2_with (((with_reducible refine gate_store (t := 46) (p := 4) rfl ?_); refine st_tm 4 rfl rfl rfl rfl rfl HR8.out ?_); intro w9 hs9 hG9 hz9; have HS9 := Aside0.mk hs9; have HG9 := Aside0.mk hG9; clear hs9 hG9 hz9)
        ((try simp only [Exit.inBlock, Exit.then]); refine bodyPost_ret (results_ctt rfl _ _ _ 46 _ (0, 0) _ rfl HS9.out Try.underlying46 rfl (by kernel_rfl)) rfl ?_)
        rw [HR.out]
        exact ⟨none, 0, rfl, Nat.le_refl _, F_none _ _, gbS (hbT HW7.out HB78.out) HG9.out (by omega)⟩
    · have HE0 : Aside0 (rawE m r.f1 = 2) := ⟨by unfold rawE; rw [if_neg htt]⟩
      have HR : Aside0 (stp l t = (zTm, false, 2)) := ⟨st_many HFD.out htt⟩
      rw [HE0.out] at RW
      clear htt
      generalize rawV m r.f1 = u at *
      go_upto_region 6 with (first | (go_at_call 105; refine RW.out.mono ?_; rintro e w4 ⟨A4, c4, rfl, h4, hF4, hb4⟩; have HB34 := Aside0.mk hb4; clear hF4 hb4 h4 r0 r1 r2 r3 r4 r5) | (((with_reducible refine gate_store (t := 46) (p := 11) rfl ?_); refine st_tm 11 rfl rfl rfl rfl rfl (heap_alloc_new _ _) ?_); intro w5 hs5 hG5 hz5; have HB45 := Aside0.mk (gbS (below_alloc (Below.refl w4.heap.size w4) _) hG5 (Nat.le_refl _)); clear hs5 hG5 hz5))
      have HB5 := Aside0.mk (hbT HB34.out HB45.out)
      have HW5 := Aside0.mk (hbT HW3.out HB5.out)
      have HR5 := Aside0.mk ((HB5.out.block _ (blk_lt HR3.out)).trans HR3.out)
      go_wp2_with (((with_reducible refine gate_store (t := 46) (p := 4) rfl ?_); refine st_tm 4 rfl rfl rfl rfl rfl HR5.out ?_); intro w6 hs6 hG6 hz6; have HS6 := Aside0.mk hs6; have HG6 := Aside0.mk hG6; clear hs6 hG6 hz6)
      ((try simp only [Exit.inBlock, Exit.then]); refine bodyPost_ret (results_ctt rfl _ _ _ 46 _ (0, 0) _ rfl HS6.out Try.underlying46 rfl (by kernel_rfl)) rfl ?_)
      rw [HR.out]
      exact ⟨none, 0, rfl, Nat.le_refl _, F_none _ _, gbS HW5.out HG6.out (by omega)⟩
end Go.Proofs.Ytcgnpmjkeifokaa
-- K102
/- rewrite.ready, Step, Normal. -/
namespace Go.Proofs.Ytcgnpmjkeifokaa
open Go.RowKit Go.Proofs.YtcgnpmjkeifokaaW.PrintWords
set_option linter.unusedVariables false
set_option linter.unusedSimpArgs false
def rdyE (g : List Int) (l : List Rl) (t : Tm) : Int := if rlsE g l ≠ 0 then rlsE g l else chkT g t
theorem rdy_ok {g : List Int} {l : List Rl} {t : Tm} (h : rdyE g l t = 0) : rlsE g l = 0 ∧ okT g t := by
  unfold rdyE at h
  by_cases h1 : rlsE g l = 0
  · rw [if_neg (by simpa using h1)] at h; exact ⟨h1, chkT_ok.1 h⟩
  · rw [if_pos h1] at h; exact absurd h h1
set_option maxHeartbeats 4000000 in
set_option maxRecDepth 100000 in
theorem ready_any (g : List Int) (Ag : Option Addr) (cg : Nat) (l : List Rl) (Al : Option Addr) (cl : Nat) (okl : Nat → Prop) (t : Tm) (A : Option Addr) (c : Nat) (okt : Nat → Prop) (w : World) (hG : Kd.C (Kd.int .i64) w Ag g.length g) (hL : Kd.F kRl w okl Al l.length l) (hF : Kd.F kTm w okt A t.f2.length t.f2) :
    Calls Try.prog 65 #[.agg #[.slice Ag g.length cg], .slice Al l.length cl, .agg #[.int .i64 t.f0, .int .i64 t.f1, .slice A t.f2.length c]] w fun e w' => e = .returned (.int .i64 (rdyE g l t)) ∧ Below w.heap.size w w' := by
  have hlen := Kd.F_max hF
  have HF := Aside0.mk hF
  have HL := Aside0.mk hL
  have HG := Aside0.mk hG
  clear hF hL hG
  have g0 := blk_alloc (newAt (w := w) (o := .cells #[.slice Ag g.length cg] 24) rfl) (.cells #[.int .i64 t.f0, .int .i64 t.f1, .slice A t.f2.length c] 46)
  have g1 := newAt (w := w.alloc (.cells #[.slice Ag g.length cg] 24)) (o := .cells #[.int .i64 t.f0, .int .i64 t.f1, .slice A t.f2.length c] 46) (k := w.heap.size + 1) (by simp)
  have HB := Aside0.mk (below_alloc (below_alloc (Below.refl w.heap.size w) (.cells #[.slice Ag g.length cg] 24)) (.cells #[.int .i64 t.f0, .int .i64 t.f1, .slice A t.f2.length c] 46))
  go_enter Try.func65, Try.ntmps65
  go_upto_region 1 with (fail)
  generalize (w.alloc (.cells #[.slice Ag g.length cg] 24)).alloc (.cells #[.int .i64 t.f0, .int .i64 t.f1, .slice A t.f2.length c] 46) = W at *
  have HS := Aside0.mk g0
  have HT := Aside0.mk g1
  have s0 := sg_cell g0
  clear g0 g1
  go_upto_region 2 with (go_at_call 29; refine (rcheck_any g Ag cg l Al cl _ W (Kd.C_below HG.out HB.out) (Kd.F_below HL.out HB.out)).mono ?_; rintro e w2 ⟨rfl, hb2⟩; have HB2 := Aside0.mk hb2; clear hb2 s0)
  have HW2 := Aside0.mk (hbT HB.out HB2.out)
  by_cases h0 : rlsE g l = 0
  · have h0b := bneF h0
    have HR : Aside0 (rdyE g l t = chkT g t) := ⟨by unfold rdyE; rw [if_neg (by simpa using h0)]⟩
    have s0 := sg_cell ((HB2.out.block _ (blk_lt HS.out)).trans HS.out)
    obtain ⟨t0, t1, t2⟩ := tm_cells ((HB2.out.block _ (blk_lt HT.out)).trans HT.out)
    clear h0
    go_wp2_with (go_at_call 74; refine (own_any g Ag cg t A c w2 (Kd.C_below HG.out HW2.out) (Kd.F_now (Kd.F_below HF.out HW2.out))).mono ?_; rintro e w3 ⟨rfl, hb3⟩)
    go_ret
    exact ⟨ret_int HR.out.symm, hbT HW2.out hb3⟩
  · have h0b := bneT h0
    have HR : Aside0 (rdyE g l t = rlsE g l) := ⟨by unfold rdyE; rw [if_pos h0]⟩
    clear h0
    go_wp2
    go_ret
    exact ⟨ret_int HR.out.symm, HW2.out⟩
theorem stp_sz {l : List Rl} {t : Tm} (ht : szT t ≤ 120) : szT (stp l t).1 ≤ 120 := by
  cases h : fndT l t with
  | none => rw [st_none h]; exact ht
  | some x =>
    by_cases h1 : totT x.2.2 x.2.1.f1 ≤ 120
    · by_cases h2 : szT (layP t x.1 (mapT (dlt x.2.2) x.2.1.f1)) ≤ 120
      · rw [st_made h h1 h2]; exact h2
      · rw [st_great h h1 h2]; decide
    · rw [st_many h h1]; decide
def stpV (g : List Int) (l : List Rl) (t : Tm) : Tm × Bool × Int := if rdyE g l t = 0 then stp l t else (zTm, false, rdyE g l t)
set_option maxHeartbeats 4000000 in
set_option maxRecDepth 100000 in
theorem stepS_any (g : List Int) (Ag : Option Addr) (cg : Nat) (l : List Rl) (Al : Option Addr) (cl : Nat) (okl : Nat → Prop) (t : Tm) (A : Option Addr) (c : Nat) (okt : Nat → Prop) (w : World) (hG : Kd.C (Kd.int .i64) w Ag g.length g) (hL : Kd.F kRl w okl Al l.length l) (hF : Kd.F kTm w okt A t.f2.length t.f2) (hc : t.f2.length ≤ c) :
    Calls Try.prog 22 #[.agg #[.slice Ag g.length cg], .slice Al l.length cl, .agg #[.int .i64 t.f0, .int .i64 t.f1, .slice A t.f2.length c]] w fun e w' => ∃ A' c', e = .returned (.tuple #[.agg #[.int .i64 (stpV g l t).1.f0, .int .i64 (stpV g l t).1.f1, .slice A' (stpV g l t).1.f2.length c'], .bool (stpV g l t).2.1, .int .i64 (stpV g l t).2.2]) ∧ (stpV g l t).1.f2.length ≤ c' ∧ Kd.F kTm w' (fun k => w.heap.size ≤ k) A' (stpV g l t).1.f2.length (stpV g l t).1.f2 ∧ Below w.heap.size w w' := by
  have hlen := Kd.F_max hF
  have HF := Aside0.mk hF
  have HL := Aside0.mk hL
  have HG := Aside0.mk hG
  clear hF hL hG
  have g0 := blk_alloc (blk_alloc (newAt (w := w) (o := .cells #[.slice Ag g.length cg] 24) rfl) (.cells #[.int .i64 t.f0, .int .i64 t.f1, .slice A t.f2.length c] 46)) (.cells #[.int .i64 0, .int .i64 0, .slice none 0 0] 46)
  have g1 := blk_alloc (newAt (w := w.alloc (.cells #[.slice Ag g.length cg] 24)) (o := .cells #[.int .i64 t.f0, .int .i64 t.f1, .slice A t.f2.length c] 46) (k := w.heap.size + 1) (by simp)) (.cells #[.int .i64 0, .int .i64 0, .slice none 0 0] 46)
  have g2 := newAt (w := (w.alloc (.cells #[.slice Ag g.length cg] 24)).alloc (.cells #[.int .i64 t.f0, .int .i64 t.f1, .slice A t.f2.length c] 46)) (o := .cells #[.int .i64 0, .int .i64 0, .slice none 0 0] 46) (k := w.heap.size + 1 + 1) (by simp)
  have HB := Aside0.mk (below_alloc (below_alloc (below_alloc (Below.refl w.heap.size w) (.cells #[.slice Ag g.length cg] 24)) (.cells #[.int .i64 t.f0, .int .i64 t.f1, .slice A t.f2.length c] 46)) (.cells #[.int .i64 0, .int .i64 0, .slice none 0 0] 46))
  go_enter Try.func22, Try.ntmps22
  go_upto_region 1 with (fail)
  generalize ((w.alloc (.cells #[.slice Ag g.length cg] 24)).alloc (.cells #[.int .i64 t.f0, .int .i64 t.f1, .slice A t.f2.length c] 46)).alloc (.cells #[.int .i64 0, .int .i64 0, .slice none 0 0] 46) = W at *
  have HS := Aside0.mk g0
  have HT := Aside0.mk g1
  have HR0 := Aside0.mk g2
  have s0 := sg_cell g0
  have hW2 := blk_lt g2
  obtain ⟨t0, t1, t2⟩ := tm_cells g1
  clear g0 g1 g2
  go_upto_region 2 with (go_at_call 65; refine (ready_any g Ag cg l Al cl _ t A c _ W (Kd.C_below HG.out HB.out) (Kd.F_below HL.out HB.out) (Kd.F_below HF.out HB.out)).mono ?_; rintro e w2 ⟨rfl, hb2⟩; have HB2 := Aside0.mk hb2; clear hb2 s0 t0 t1 t2)
  have HW2 := Aside0.mk (hbT HB.out HB2.out)
  have HR2 := Aside0.mk ((HB2.out.block _ (blk_lt HR0.out)).trans HR0.out)
  by_cases h0 : rdyE g l t = 0
  · have h0b := bneF h0
    have HR : Aside0 (stpV g l t = stp l t) := ⟨by unfold stpV; rw [if_pos h0]⟩
    obtain ⟨k1, k2⟩ := rdy_ok h0
    have hrl := (rls_ok k1).2.2
    obtain ⟨t0, t1, t2⟩ := tm_cells ((HB2.out.block _ (blk_lt HT.out)).trans HT.out)
    have ST := Aside0.mk (step_any l Al cl okl t A c okt w2 k2.1 (fun r hr => ⟨(hrl r hr).1.1, (hrl r hr).2.1.1⟩) (Kd.F_below HL.out HW2.out) (Kd.F_below HF.out HW2.out) hc)
    have hsz := stp_sz (l := l) k2.1
    clear h0 k1 k2 hrl
    generalize hx : stp l t = x at *
    obtain ⟨y, bv, ev⟩ := x
    simp only at ST hsz
    have HX := Aside0.mk hx
    clear hx
    go_upto_region 5 with (first | (go_at_call 66; refine ST.out.mono ?_; rintro e w3 ⟨A3, c3, rfl, h3, hF3, hb3⟩; have HF3 := Aside0.mk hF3; have HB23 := Aside0.mk hb3; have H3 := Aside0.mk h3; clear hF3 hb3 h3 t0 t1 t2) | (((with_reducible refine gate_store (t := 46) (p := 10) rfl ?_); refine st_tm 10 rfl rfl rfl rfl rfl (heap_alloc_new _ _) ?_); intro w4 hs4 hG4 hz4; have GY := Aside0.mk hs4; have HB34 := Aside0.mk (gbS (below_alloc (Below.refl w3.heap.size w3) _) hG4 (Nat.le_refl _)); clear hs4 hG4 hz4))
    have HB4 := Aside0.mk (hbT HB2.out (hbT HB23.out HB34.out))
    have HW4 := Aside0.mk (hbT HB.out HB4.out)
    obtain ⟨y0, y1, y2⟩ := tm_cells GY.out
    have CP := Aside0.mk (copied_any y A3 c3 _ w4 (by omega) (Kd.F_below HF3.out HB34.out) H3.out)
    have HR4 := Aside0.mk ((HB4.out.block _ (blk_lt HR0.out)).trans HR0.out)
    go_wp2_with (first | (go_at_call 67; refine CP.out.mono ?_; rintro e w5 ⟨A5, c5, rfl, h5, hF5, hb5⟩; have HF5 := Aside0.mk hF5; have HB45 := Aside0.mk hb5; have H5 := Aside0.mk h5; have HR5 := Aside0.mk ((hb5.block _ (blk_lt HR4.out)).trans HR4.out); clear hF5 hb5 h5 y0 y1 y2) | (((with_reducible refine gate_store (t := 46) (p := 6) rfl ?_); refine st_tm 6 rfl rfl rfl rfl rfl HR5.out ?_); intro w6 hs6 hG6 hz6; have HS6 := Aside0.mk hs6; have HG6 := Aside0.mk hG6; clear hs6 hG6 hz6))
    ((try simp only [Exit.inBlock, Exit.then]); refine bodyPost_ret (results_ctt rfl _ _ _ 46 _ (0, 0) _ rfl HS6.out Try.underlying46 rfl (by kernel_rfl)) rfl ?_)
    rw [HR.out]
    have hz4 := HB4.out.size
    exact ⟨A5, c5, rfl, H5.out, Kd.F_mono (Kd.F_grown HF5.out HG6.out (fun k hk e => by injection e with e; omega)) (fun k hk => by have := HB.out.size; omega), gbS (hbT HW4.out HB45.out) HG6.out (by omega)⟩
  · have h0b := bneT h0
    have HR : Aside0 (stpV g l t = (zTm, false, rdyE g l t)) := ⟨by unfold stpV; rw [if_neg h0]⟩
    clear h0
    go_wp2_with (((with_reducible refine gate_store (t := 46) (p := 6) rfl ?_); refine st_tm 6 rfl rfl rfl rfl rfl HR2.out ?_); intro w6 hs6 hG6 hz6; have HS6 := Aside0.mk hs6; have HG6 := Aside0.mk hG6; clear hs6 hG6 hz6)
    ((try simp only [Exit.inBlock, Exit.then]); refine bodyPost_ret (results_ctt rfl _ _ _ 46 _ (0, 0) _ rfl HS6.out Try.underlying46 rfl (by kernel_rfl)) rfl ?_)
    rw [HR.out]
    exact ⟨none, 0, rfl, Nat.le_refl _, F_none _ _, gbS HW2.out HG6.out (by omega)⟩
def nrmF (l : List Rl) : Nat → Nat → Tm → Tm × Nat × Int
  | 0, _, _ => (zTm, 0, 2)
  | f + 1, n, t => if (stp l t).2.2 ≠ 0 then (zTm, 0, (stp l t).2.2) else if (stp l t).2.1 = false then (t, n, 0) else if n = 300 then (zTm, 0, 2) else nrmF l f (n + 1) (stp l t).1
def nrm (l : List Rl) (t : Tm) : Tm × Nat × Int := nrmF l 301 0 t
def normV (g : List Int) (l : List Rl) (t : Tm) : Tm × Nat × Int := if rdyE g l t = 0 then nrm l t else (zTm, 0, rdyE g l t)
set_option maxHeartbeats 4000000 in
set_option maxRecDepth 100000 in
theorem normal_any (g : List Int) (Ag : Option Addr) (cg : Nat) (l : List Rl) (Al : Option Addr) (cl : Nat) (okl : Nat → Prop) (t : Tm) (A : Option Addr) (c : Nat) (okt : Nat → Prop) (w : World) (hG : Kd.C (Kd.int .i64) w Ag g.length g) (hL : Kd.F kRl w okl Al l.length l) (hF : Kd.F kTm w okt A t.f2.length t.f2) (hc : t.f2.length ≤ c) :
    Calls Try.prog 23 #[.agg #[.slice Ag g.length cg], .slice Al l.length cl, .agg #[.int .i64 t.f0, .int .i64 t.f1, .slice A t.f2.length c]] w fun e w' => ∃ A' c', e = .returned (.tuple #[.agg #[.int .i64 (normV g l t).1.f0, .int .i64 (normV g l t).1.f1, .slice A' (normV g l t).1.f2.length c'], .int .i64 (normV g l t).2.1, .int .i64 (normV g l t).2.2]) ∧ (normV g l t).1.f2.length ≤ c' ∧ Kd.F kTm w' (fun k => w.heap.size ≤ k) A' (normV g l t).1.f2.length (normV g l t).1.f2 ∧ Below w.heap.size w w' := by
  have hlen := Kd.F_max hF
  have HF := Aside0.mk (Kd.F_bound hF)
  have HL := Aside0.mk (Kd.F_bound hL)
  have HG := Aside0.mk hG
  clear hF hL hG
  have g0 := blk_alloc (blk_alloc (newAt (w := w) (o := .cells #[.slice Ag g.length cg] 24) rfl) (.cells #[.int .i64 t.f0, .int .i64 t.f1, .slice A t.f2.length c] 46)) (.cells #[.int .i64 0, .int .i64 0, .slice none 0 0] 46)
  have g1 := blk_alloc (newAt (w := w.alloc (.cells #[.slice Ag g.length cg] 24)) (o := .cells #[.int .i64 t.f0, .int .i64 t.f1, .slice A t.f2.length c] 46) (k := w.heap.size + 1) (by simp)) (.cells #[.int .i64 0, .int .i64 0, .slice none 0 0] 46)
  have g2 := newAt (w := (w.alloc (.cells #[.slice Ag g.length cg] 24)).alloc (.cells #[.int .i64 t.f0, .int .i64 t.f1, .slice A t.f2.length c] 46)) (o := .cells #[.int .i64 0, .int .i64 0, .slice none 0 0] 46) (k := w.heap.size + 1 + 1) (by simp)
  have HB := Aside0.mk (below_alloc (below_alloc (below_alloc (Below.refl w.heap.size w) (.cells #[.slice Ag g.length cg] 24)) (.cells #[.int .i64 t.f0, .int .i64 t.f1, .slice A t.f2.length c] 46)) (.cells #[.int .i64 0, .int .i64 0, .slice none 0 0] 46))
  go_enter Try.func23, Try.ntmps23
  go_upto_region 1 with (fail)
  generalize ((w.alloc (.cells #[.slice Ag g.length cg] 24)).alloc (.cells #[.int .i64 t.f0, .int .i64 t.f1, .slice A t.f2.length c] 46)).alloc (.cells #[.int .i64 0, .int .i64 0, .slice none 0 0] 46) = W at *
  have HS := Aside0.mk g0
  have HT := Aside0.mk g1
  have HR0 := Aside0.mk g2
  have s0 := sg_cell g0
  have hW2 := blk_lt g2
  obtain ⟨t0, t1, t2⟩ := tm_cells g1
  clear g0 g1 g2
  go_upto_region 2 with (go_at_call 65; refine (ready_any g Ag cg l Al cl _ t A c _ W (Kd.C_below HG.out HB.out) (Kd.F_below HL.out HB.out) (Kd.F_below HF.out HB.out)).mono ?_; rintro e w2 ⟨rfl, hb2⟩; have HB2 := Aside0.mk hb2; clear hb2 s0 t0 t1 t2)
  have HW2 := Aside0.mk (hbT HB.out HB2.out)
  have HR2 := Aside0.mk ((HB2.out.block _ (blk_lt HR0.out)).trans HR0.out)
  have HT2 := Aside0.mk ((HB2.out.block _ (blk_lt HT.out)).trans HT.out)
  by_cases h0 : rdyE g l t = 0
  · have h0b := bneF h0
    have HR : Aside0 (normV g l t = nrmF l 301 0 t) := ⟨by unfold normV nrm; rw [if_pos h0]⟩
    obtain ⟨k1, k2⟩ := rdy_ok h0
    have HRL := Aside0.mk (rls_ok k1).2.2
    have hts := k2.1
    clear h0 k1 k2
    go_wp2
    go_loopw [10] (fun v wr => ∃ (n : Nat) (x : Tm) (Ax : Option Addr) (cx : Nat), n ≤ 300 ∧ v = .int .i64 n ∧ Aside0 (nrmF l 301 0 t = nrmF l (301 - n) n x) ∧ Aside0 (szT x ≤ 120) ∧ Aside0 (x.f2.length ≤ cx) ∧ Aside0 (Kd.F kTm wr (fun k => k ≠ w.heap.size + 1 ∧ k ≠ w.heap.size + 1 + 1) Ax x.f2.length x.f2) ∧ Aside0 (Below w.heap.size w wr) ∧ Aside0 (wr.heap[w.heap.size + 1]? = some (.cells #[.int .i64 x.f0, .int .i64 x.f1, .slice Ax x.f2.length cx] 46 (0, 0))) ∧ Aside0 (wr.heap[w.heap.size + 1 + 1]? = some (.cells #[.int .i64 0, .int .i64 0, .slice none 0 0] 46 (0, 0)))) (fun v _ => 301 - (intOf v).toNat)
    case atStart => exact ⟨0, t, A, c, by omega, rfl, ⟨rfl⟩, ⟨hts⟩, ⟨hc⟩, ⟨Kd.F_mono (Kd.F_below HF.out HW2.out) (fun k hk => by have := hk.2; exact ⟨by omega, by omega⟩)⟩, HW2, HT2, HR2⟩
    case round =>
      obtain ⟨n, x, Ax, cx, hn, rfl, HN, HSZ, HCX, HFX, HBr, HTr, HRr⟩ := hrel
      obtain ⟨x0, x1, x2⟩ := tm_cells HTr.out
      have hxl := Kd.F_max HFX.out
      have ST := Aside0.mk (step_any l Al cl (fun k => okl k ∧ k < w.heap.size) x Ax cx (fun k => k ≠ w.heap.size + 1 ∧ k ≠ w.heap.size + 1 + 1) wr HSZ.out (fun r hr => ⟨(HRL.out r hr).1.1, (HRL.out r hr).2.1.1⟩) (Kd.F_below HL.out HBr.out) HFX.out HCX.out)
      have HS2 := Aside0.mk (stp_sz (l := l) HSZ.out)
      have HNX : Aside0 (nrmF l 301 0 t = if (stp l x).2.2 ≠ 0 then (zTm, 0, (stp l x).2.2) else if (stp l x).2.1 = false then (x, n, 0) else if n = 300 then (zTm, 0, 2) else nrmF l (301 - (n + 1)) (n + 1) (stp l x).1) := ⟨by
        rw [HN.out, show 301 - n = (301 - (n + 1)) + 1 by omega, nrmF]⟩
      clear HN
      generalize stp l x = sv at *
      obtain ⟨y, bv, ev⟩ := sv
      simp only at ST HS2 HNX
      go_upto_region 7 with (first | (go_at_call 66; refine ST.out.mono ?_; rintro e w3 ⟨A3, c3, rfl, h3, hF3, hb3⟩; have HF3 := Aside0.mk hF3; have HB3 := Aside0.mk hb3; have H3 := Aside0.mk h3; clear hF3 hb3 h3 x0 x1 x2) | (((with_reducible refine gate_store (t := 46) (p := 11) rfl ?_); refine st_tm 11 rfl rfl rfl rfl rfl (heap_alloc_new _ _) ?_); intro w4 hs4 hG4 hz4; have GY := Aside0.mk hs4; have HB34 := Aside0.mk (gbS (below_alloc (Below.refl w3.heap.size w3) _) hG4 (Nat.le_refl _)); clear hs4 hG4 hz4))
      have HB4 := Aside0.mk (hbT HB3.out HB34.out)
      have HW4 := Aside0.mk (hbT HBr.out HB4.out)
      have HT4 := Aside0.mk ((HB4.out.block _ (blk_lt HTr.out)).trans HTr.out)
      have HR4 := Aside0.mk ((HB4.out.block _ (blk_lt HRr.out)).trans HRr.out)
      have hrr := blk_lt HRr.out
      by_cases he : ev = 0
      · subst he
        cases bv with
        | false =>
          have HRES : Aside0 (nrmF l 301 0 t = (x, n, 0)) := ⟨by rw [HNX.out]; simp⟩
          obtain ⟨x0, x1, x2⟩ := tm_cells HT4.out
          have CP := Aside0.mk (copied_any x Ax cx _ w4 (by have := HSZ.out; omega) (Kd.F_below HFX.out HB4.out) HCX.out)
          go_wp2_with (first | (go_at_call 67; refine CP.out.mono ?_; rintro e w5 ⟨A5, c5, rfl, h5, hF5, hb5⟩; have HF5 := Aside0.mk hF5; have HB45 := Aside0.mk hb5; have H5 := Aside0.mk h5; have HR5 := Aside0.mk ((hb5.block _ (blk_lt HR4.out)).trans HR4.out); clear hF5 hb5 h5 x0 x1 x2) | (((with_reducible refine gate_store (t := 46) (p := 6) rfl ?_); refine st_tm 6 rfl rfl rfl rfl rfl HR5.out ?_); intro w6 hs6 hG6 hz6; have HS6 := Aside0.mk hs6; have HG6 := Aside0.mk hG6; clear hs6 hG6 hz6))
          ((try simp only [Exit.inBlock, Exit.then]); refine bodyPost_ret (results_ctt rfl _ _ _ 46 _ (0, 0) _ rfl HS6.out Try.underlying46 rfl (by kernel_rfl)) rfl ?_)
          rw [HR.out, HRES.out]
          have hz4 := HB4.out.size
          exact ⟨A5, c5, rfl, H5.out, Kd.F_mono (Kd.F_grown HF5.out HG6.out (fun k hk e => by injection e with e; omega)) (fun k hk => by have := HBr.out.size; omega), gbS (hbT HW4.out HB45.out) HG6.out (by omega)⟩
        | true =>
          by_cases hn3 : n = 300
          · have HRES : Aside0 (nrmF l 301 0 t = (zTm, 0, 2)) := ⟨by rw [HNX.out]; simp [hn3]⟩
            subst hn3
            go_wp2_with (((with_reducible refine gate_store (t := 46) (p := 6) rfl ?_); refine st_tm 6 rfl rfl rfl rfl rfl HR4.out ?_); intro w6 hs6 hG6 hz6; have HS6 := Aside0.mk hs6; have HG6 := Aside0.mk hG6; clear hs6 hG6 hz6)
            ((try simp only [Exit.inBlock, Exit.then]); refine bodyPost_ret (results_ctt rfl _ _ _ 46 _ (0, 0) _ rfl HS6.out Try.underlying46 rfl (by kernel_rfl)) rfl ?_)
            rw [HR.out, HRES.out]
            exact ⟨none, 0, rfl, Nat.le_refl _, F_none _ _, gbS HW4.out HG6.out (by omega)⟩
          · have HRES : Aside0 (nrmF l 301 0 t = nrmF l (301 - (n + 1)) (n + 1) y) := ⟨by rw [HNX.out]; simp [hn3]⟩
            have hn4 : ¬ ((n : Int) = 300) := by omega
            have hn5 : ((n : Int) == 300) = false := by simpa using hn4
            obtain ⟨y0, y1, y2⟩ := tm_cells GY.out
            go_wp2_with (((with_reducible refine gate_store (t := 46) (p := 5) rfl ?_); refine st_tm 5 rfl rfl rfl rfl rfl HT4.out ?_); intro w6 hs6 hG6 hz6; have HS6 := Aside0.mk hs6; have HG6 := Aside0.mk hG6; clear hs6 hG6 hz6)
            go_roundw
            case rel => exact ⟨n + 1, y, A3, c3, by omega, by go_num, HRES, HS2, H3, ⟨Kd.F_grown (Kd.F_mono (Kd.F_below HF3.out HB34.out) (fun k hk => hk.elim id (fun h => ⟨by omega, by omega⟩))) HG6.out (fun k hk e => hk.1 (by injection e))⟩, ⟨gbS HW4.out HG6.out (by omega)⟩, HS6, ⟨(HG6.out.block _ (by have := HB4.out.size; omega) (fun e => by injection e with e; omega)).trans HR4.out⟩⟩
            case measure => simp [intOf]; omega
      · have HRES : Aside0 (nrmF l 301 0 t = (zTm, 0, ev)) := ⟨by rw [HNX.out]; simp [he]⟩
        have heb := bneT he
        clear he
        go_wp2_with (((with_reducible refine gate_store (t := 46) (p := 6) rfl ?_); refine st_tm 6 rfl rfl rfl rfl rfl HR4.out ?_); intro w6 hs6 hG6 hz6; have HS6 := Aside0.mk hs6; have HG6 := Aside0.mk hG6; clear hs6 hG6 hz6)
        ((try simp only [Exit.inBlock, Exit.then]); refine bodyPost_ret (results_ctt rfl _ _ _ 46 _ (0, 0) _ rfl HS6.out Try.underlying46 rfl (by kernel_rfl)) rfl ?_)
        rw [HR.out, HRES.out]
        exact ⟨none, 0, rfl, Nat.le_refl _, F_none _ _, gbS HW4.out HG6.out (by omega)⟩
  · have h0b := bneT h0
    have HR : Aside0 (normV g l t = (zTm, 0, rdyE g l t)) := ⟨by unfold normV; rw [if_neg h0]⟩
    clear h0
    go_wp2_with (((with_reducible refine gate_store (t := 46) (p := 6) rfl ?_); refine st_tm 6 rfl rfl rfl rfl rfl HR2.out ?_); intro w6 hs6 hG6 hz6; have HS6 := Aside0.mk hs6; have HG6 := Aside0.mk hG6; clear hs6 hG6 hz6)
    ((try simp only [Exit.inBlock, Exit.then]); refine bodyPost_ret (results_ctt rfl _ _ _ 46 _ (0, 0) _ rfl HS6.out Try.underlying46 rfl (by kernel_rfl)) rfl ?_)
    rw [HR.out]
    exact ⟨none, 0, rfl, Nat.le_refl _, F_none _ _, gbS HW2.out HG6.out (by omega)⟩
end Go.Proofs.Ytcgnpmjkeifokaa
-- K103
/- superposelaw.rewriteBegun. -/
namespace Go.Proofs.Ytcgnpmjkeifokaa
open Go.RowKit Go.Proofs.YtcgnpmjkeifokaaW.PrintWords
set_option linter.unusedVariables false
set_option linter.unusedSimpArgs false
def rlS : List Rl := [⟨⟨0, 1, [⟨1, 0, []⟩]⟩, ⟨1, 0, []⟩⟩]
def ffS : Tm := ⟨0, 1, [⟨0, 1, [⟨0, 0, []⟩]⟩]⟩
theorem nrm_rs : normV [0, 1] rlS ffS = (⟨0, 0, []⟩, 2, 0) := by rfl
theorem stp_rs : stpV [0, 1] rlS rS = (⟨0, 0, []⟩, true, 0) := by rfl
theorem rls_rs : rlsE [0, 1] rlS = 0 := by rfl
theorem F_rlS {W : World} {b g : Nat} (hb : W.heap[b]? = some (.cells #[.int .i64 1, .int .i64 0, .slice none 0 0] 46 (0, 0)))
    (hg : W.heap[g]? = some (.cells #[.int .i64 0, .int .i64 1, .slice (some ⟨b, 0, none⟩) 1 1, .int .i64 1, .int .i64 0, .slice none 0 0] 100 (0, 0))) :
    Kd.F kRl W (fun k => k = b ∨ k = g) (some ⟨g, 0, none⟩) 1 rlS :=
  F_lit (d := kRl) (xs := rlS) [[.int .i64 0, .int .i64 1, .slice (some ⟨b, 0, none⟩) 1 1, .int .i64 1, .int .i64 0, .slice none 0 0]] hg rfl (by decide) (fun j x c hx hc => by
    cases j with
    | zero =>
      simp [rlS] at hx hc
      subst hx hc
      exact kRl_mkF W _ ⟨⟨0, 1, [⟨1, 0, []⟩]⟩, ⟨1, 0, []⟩⟩ (Nat.le_refl _) (F_va 1 hb) (Nat.le_refl _) (F_none _ _)
    | succ j => simp [rlS] at hx)
theorem nrm_s (A1 : Option Addr) (b8 b13 b18 b20 : Nat) (w : World) (hG : Kd.C (Kd.int .i64) w A1 2 [0, 1]) (h8 : w.heap[b8]? = some (.cells #[.int .i64 1, .int .i64 0, .slice none 0 0] 46 (0, 0)))
    (h13 : w.heap[b13]? = some (.cells #[.int .i64 0, .int .i64 1, .slice (some ⟨b8, 0, none⟩) 1 1, .int .i64 1, .int .i64 0, .slice none 0 0] 100 (0, 0)))
    (h18 : w.heap[b18]? = some (.cells #[.int .i64 0, .int .i64 0, .slice none 0 0] 46 (0, 0))) (h20 : w.heap[b20]? = some (.cells #[.int .i64 0, .int .i64 1, .slice (some ⟨b18, 0, none⟩) 1 1] 46 (0, 0))) :
    Calls Try.prog 23 #[.agg #[.slice A1 2 2], .slice (some ⟨b13, 0, none⟩) 1 1, .agg #[.int .i64 0, .int .i64 1, .slice (some ⟨b20, 0, none⟩) 1 1]] w fun e w' => ∃ A' c', e = .returned (.tuple #[.agg #[.int .i64 0, .int .i64 0, .slice A' 0 c'], .int .i64 2, .int .i64 0]) ∧ Kd.F kTm w' (fun k => w.heap.size ≤ k) A' 0 [] ∧ Below w.heap.size w w' := by
  have h := normal_any [0, 1] A1 2 rlS (some ⟨b13, 0, none⟩) 1 _ ffS (some ⟨b20, 0, none⟩) 1 _ w hG (F_rlS h8 h13) (F_lit1 (t := ⟨0, 1, [⟨0, 0, []⟩]⟩) h20 (F_va 0 h18) (Nat.le_refl _)) (Nat.le_refl _)
  rw [nrm_rs] at h
  exact h.mono (fun e w' ⟨A', c', h1, _, h3, h4⟩ => ⟨A', c', h1, h3, h4⟩)
theorem stp_s (A1 : Option Addr) (b8 b13 b18 : Nat) (w : World) (hG : Kd.C (Kd.int .i64) w A1 2 [0, 1]) (h8 : w.heap[b8]? = some (.cells #[.int .i64 1, .int .i64 0, .slice none 0 0] 46 (0, 0)))
    (h13 : w.heap[b13]? = some (.cells #[.int .i64 0, .int .i64 1, .slice (some ⟨b8, 0, none⟩) 1 1, .int .i64 1, .int .i64 0, .slice none 0 0] 100 (0, 0)))
    (h18 : w.heap[b18]? = some (.cells #[.int .i64 0, .int .i64 0, .slice none 0 0] 46 (0, 0))) :
    Calls Try.prog 22 #[.agg #[.slice A1 2 2], .slice (some ⟨b13, 0, none⟩) 1 1, .agg #[.int .i64 0, .int .i64 1, .slice (some ⟨b18, 0, none⟩) 1 1]] w fun e w' => ∃ A' c', e = .returned (.tuple #[.agg #[.int .i64 0, .int .i64 0, .slice A' 0 c'], .bool true, .int .i64 0]) ∧ Kd.F kTm w' (fun k => w.heap.size ≤ k) A' 0 [] ∧ Below w.heap.size w w' := by
  have h := stepS_any [0, 1] A1 2 rlS (some ⟨b13, 0, none⟩) 1 _ rS (some ⟨b18, 0, none⟩) 1 _ w hG (F_rlS h8 h13) (F_va 0 h18) (Nat.le_refl _)
  rw [stp_rs] at h
  exact h.mono (fun e w' ⟨A', c', h1, _, h3, h4⟩ => ⟨A', c', h1, h3, h4⟩)
theorem rck_s (A1 : Option Addr) (b8 b13 : Nat) (w : World) (hG : Kd.C (Kd.int .i64) w A1 2 [0, 1]) (h8 : w.heap[b8]? = some (.cells #[.int .i64 1, .int .i64 0, .slice none 0 0] 46 (0, 0)))
    (h13 : w.heap[b13]? = some (.cells #[.int .i64 0, .int .i64 1, .slice (some ⟨b8, 0, none⟩) 1 1, .int .i64 1, .int .i64 0, .slice none 0 0] 100 (0, 0))) :
    Calls Try.prog 29 #[.agg #[.slice A1 2 2], .slice (some ⟨b13, 0, none⟩) 1 1] w fun e w' => e = .returned (.int .i64 0) ∧ Below w.heap.size w w' := by
  have h := rcheck_any [0, 1] A1 2 rlS (some ⟨b13, 0, none⟩) 1 _ w hG (F_rlS h8 h13)
  rw [rls_rs] at h
  exact h
theorem same_z (A : Option Addr) (c : Nat) (ok : Nat → Prop) (w : World) (hF : Kd.F kTm w ok A 0 []) :
    Calls Try.prog 33 #[.agg #[.int .i64 0, .int .i64 0, .slice A 0 c], .agg #[.int .i64 0, .int .i64 0, .slice none 0 0]] w fun e w' => e = .returned (.bool true) ∧ Below w.heap.size w w' := by
  have h := sameTerm_any (szT uS) uS uS A none c 0 ok (fun _ => True) w (Nat.le_refl _) hF (Nat.zero_le _) (F_none _ _) (Nat.le_refl _)
  rw [eqT_refl] at h
  exact h
set_option maxHeartbeats 4000000 in
set_option maxRecDepth 100000 in
theorem rewriteBegun_any (w : World) : Calls Try.prog 28 #[] w fun e w' => e = .returned (.bool true) ∧ Below w.heap.size w w' := by
  go_enter Try.func28, Try.ntmps28
  go_wp2_with (fail)
  refine (va_any 1 _).mono ?_
  rintro e w1 ⟨rfl, hb1⟩
  have HB1 := Aside0.mk hb1
  clear hb1
  go_wp2_with (fail)
  refine (fn_any 1 _ _ _ _).mono ?_
  rintro e w2 ⟨rfl, hb2⟩
  have HB12 := Aside0.mk (hbA (Below.refl _ w1) _ hb2)
  have H8_2 := Aside0.mk ((hb2.block w1.heap.size (by simp)).trans (heap_alloc_new w1 (.cells #[.int .i64 1, .int .i64 0, .slice none 0 0] 46)))
  clear hb2
  go_wp2_with (fail)
  refine (va_any 1 _).mono ?_
  rintro e w3 ⟨rfl, hb3⟩
  have HB3 := Aside0.mk (hbT (hbT HB1.out HB12.out) hb3)
  have H8_3 := Aside0.mk ((hb3.block _ (blk_lt H8_2.out)).trans H8_2.out)
  clear hb3
  go_upto_region 2 with (fail)
  have HA4 := Aside0.mk (below_alloc (Below.refl w3.heap.size w3) (.cells #[.int .i64 0, .int .i64 1, .slice (some ⟨w1.heap.size, 0, none⟩) 1 1, .int .i64 1, .int .i64 0, .slice none 0 0] 100))
  have H13_4 := Aside0.mk (heap_alloc_new w3 (.cells #[.int .i64 0, .int .i64 1, .slice (some ⟨w1.heap.size, 0, none⟩) 1 1, .int .i64 1, .int .i64 0, .slice none 0 0] 100))
  generalize w3.alloc (.cells #[.int .i64 0, .int .i64 1, .slice (some ⟨w1.heap.size, 0, none⟩) 1 1, .int .i64 1, .int .i64 0, .slice none 0 0] 100) = W4 at *
  have H8_4 := Aside0.mk ((HA4.out.block _ (blk_lt H8_3.out)).trans H8_3.out)
  have HB4 := Aside0.mk (hbT HB3.out HA4.out)
  clear HA4 H8_3 H8_2 HB12 HB1
  generalize w1.heap.size = b8 at *
  generalize w3.heap.size = b13 at *
  clear HB3
  go_wp2_with (fail)
  refine (small_any _).mono ?_
  rintro e w5 ⟨A5, rfl, hC5, hb5⟩
  have HC5 := Aside0.mk hC5
  have HB45 := Aside0.mk hb5
  clear hC5 hb5
  go_wp2_with (fail)
  refine (fn_any 0 _ _ _ _).mono ?_
  rintro e w6 ⟨rfl, hb6⟩
  have HB56 := Aside0.mk hb6
  clear hb6
  go_wp2_with (fail)
  refine (fn_any 1 _ _ _ _).mono ?_
  rintro e w7 ⟨rfl, hb7⟩
  have HB67 := Aside0.mk (hbA (Below.refl _ w6) _ hb7)
  have H18_7 := Aside0.mk ((hb7.block w6.heap.size (by simp)).trans (heap_alloc_new w6 (.cells #[.int .i64 0, .int .i64 0, .slice none 0 0] 46)))
  clear hb7
  go_wp2_with (fail)
  refine (fn_any 1 _ _ _ _).mono ?_
  rintro e w8 ⟨rfl, hb8⟩
  have HB78 := Aside0.mk (hbA (Below.refl _ w7) _ hb8)
  have H20_8 := Aside0.mk ((hb8.block w7.heap.size (by simp)).trans (heap_alloc_new w7 (.cells #[.int .i64 0, .int .i64 1, .slice (some ⟨w6.heap.size, 0, none⟩) 1 1] 46)))
  clear hb8
  have H18_8 := Aside0.mk ((HB78.out.block _ (blk_lt H18_7.out)).trans H18_7.out)
  have HB48 := Aside0.mk (hbT (hbT (hbT HB45.out HB56.out) HB67.out) HB78.out)
  have HC8 := Aside0.mk (Kd.C_below HC5.out (hbT (hbT HB56.out HB67.out) HB78.out))
  have H8_8 := Aside0.mk ((HB48.out.block _ (blk_lt H8_4.out)).trans H8_4.out)
  have H13_8 := Aside0.mk ((HB48.out.block _ (blk_lt H13_4.out)).trans H13_4.out)
  go_wp2_with (fail)
  refine (nrm_s A5 b8 b13 _ _ w8 HC8.out H8_8.out H13_8.out H18_8.out H20_8.out).mono ?_
  rintro e w9 ⟨A9, c9, rfl, hF9, hb9⟩
  have HF9 := Aside0.mk hF9
  have HB9 := Aside0.mk (hbT HB4.out (hbT HB48.out hb9))
  have HB89 := Aside0.mk hb9
  clear hF9 hb9
  go_upto_region 3 with (((with_reducible refine gate_store (t := 46) (p := 2) rfl ?_); refine st_tm 2 rfl rfl rfl rfl rfl (heap_alloc_new _ _) ?_); intro w10 hs10 hG10 hz10; have HS10 := Aside0.mk hs10; have HB910 := Aside0.mk (gbS (below_alloc (Below.refl w9.heap.size w9) _) hG10 (Nat.le_refl _)); clear hs10 hG10 hz10)
  have HB10 := Aside0.mk (hbT HB9.out HB910.out)
  have HF10 := Aside0.mk (Kd.F_below (Kd.F_bound HF9.out) HB910.out)
  have HB810 := Aside0.mk (hbT HB89.out HB910.out)
  have H8_10 := Aside0.mk ((HB810.out.block _ (blk_lt H8_8.out)).trans H8_8.out)
  have H13_10 := Aside0.mk ((HB810.out.block _ (blk_lt H13_8.out)).trans H13_8.out)
  go_wp2_with (fail)
  refine (small_any _).mono ?_
  rintro e w11 ⟨A11, rfl, hC11, hb11⟩
  have HC11 := Aside0.mk hC11
  have HB1011 := Aside0.mk hb11
  clear hC11 hb11
  go_wp2_with (fail)
  refine (fn_any 0 _ _ _ _).mono ?_
  rintro e w12 ⟨rfl, hb12⟩
  have HB1112 := Aside0.mk hb12
  clear hb12
  go_wp2_with (fail)
  refine (fn_any 1 _ _ _ _).mono ?_
  rintro e w13 ⟨rfl, hb13⟩
  have HB1213 := Aside0.mk (hbA (Below.refl _ w12) _ hb13)
  have H18_13 := Aside0.mk ((hb13.block w12.heap.size (by simp)).trans (heap_alloc_new w12 (.cells #[.int .i64 0, .int .i64 0, .slice none 0 0] 46)))
  clear hb13
  have HB1013 := Aside0.mk (hbT (hbT HB1011.out HB1112.out) HB1213.out)
  have HC13 := Aside0.mk (Kd.C_below HC11.out (hbT HB1112.out HB1213.out))
  have H8_13 := Aside0.mk ((HB1013.out.block _ (blk_lt H8_10.out)).trans H8_10.out)
  have H13_13 := Aside0.mk ((HB1013.out.block _ (blk_lt H13_10.out)).trans H13_10.out)
  go_wp2_with (fail)
  refine (stp_s A11 b8 b13 _ w13 HC13.out H8_13.out H13_13.out H18_13.out).mono ?_
  rintro e w14 ⟨A14, c14, rfl, hF14, hb14⟩
  have HF14 := Aside0.mk hF14
  have HB1014 := Aside0.mk (hbT HB1013.out hb14)
  clear hF14 hb14
  go_upto_region 4 with (((with_reducible refine gate_store (t := 46) (p := 5) rfl ?_); refine st_tm 5 rfl rfl rfl rfl rfl (heap_alloc_new _ _) ?_); intro w15 hs15 hG15 hz15; have HS15 := Aside0.mk hs15; have HB1415 := Aside0.mk (gbS (below_alloc (Below.refl w14.heap.size w14) _) hG15 (Nat.le_refl _)); clear hs15 hG15 hz15)
  have HB1015 := Aside0.mk (hbT HB1014.out HB1415.out)
  have HB15 := Aside0.mk (hbT HB10.out HB1015.out)
  have HFY := Aside0.mk (Kd.F_below (Kd.F_bound HF14.out) HB1415.out)
  have HFX := Aside0.mk (Kd.F_below HF10.out HB1015.out)
  have H8_15 := Aside0.mk ((HB1015.out.block _ (blk_lt H8_10.out)).trans H8_10.out)
  have H13_15 := Aside0.mk ((HB1015.out.block _ (blk_lt H13_10.out)).trans H13_10.out)
  obtain ⟨c0, c1, c2⟩ := tm_cells ((HB1015.out.block _ (blk_lt HS10.out)).trans HS10.out)
  obtain ⟨d0, d1, d2⟩ := tm_cells HS15.out
  have k0 := fun (w' : World) (h : Below w15.heap.size w15 w') => oldc h c0
  have k1 := fun (w' : World) (h : Below w15.heap.size w15 w') => oldc h c1
  have k2 := fun (w' : World) (h : Below w15.heap.size w15 w') => oldc h c2
  have k3 := fun (w' : World) (h : Below w15.heap.size w15 w') => oldc h d0
  have k4 := fun (w' : World) (h : Below w15.heap.size w15 w') => oldc h d1
  have k5 := fun (w' : World) (h : Below w15.heap.size w15 w') => oldc h d2
  clear c0 c1 c2 d0 d1 d2
  refine hd_region 29 1 (fun w' => Below w15.heap.size w15 w') (by kernel_rfl) rfl ?_ (fun _ h => h)
  intro W16 hb16 hz16 hHeld
  clear hb16 hz16
  (refine hd_take (i := 0) (oi := ?oi3) (v := ?v3) ?hi3 (by kernel_rfl) (by kernel_rfl) (by kernel_rfl) (by kernel_rfl) (by decide) ?hq3 ?hw3 ?hy3 hHeld ?hr3; (case hi3 => (simp only [List.getElem?_toArray, List.getElem?_cons_succ, List.getElem?_cons_zero]; rfl)); (case hw3 => rfl); (case hy3 => (intro w hSw; go_simp; try with_reducible rfl)); (case hq3 => exact fun _ _ _ h => h); simp only [Act.put, List.setIfInBounds_toArray, List.set_cons_zero, List.set_cons_succ])
  (refine hd_take (i := 1) (oi := ?oi5) (v := ?v5) ?hi5 (by kernel_rfl) (by kernel_rfl) (by kernel_rfl) (by kernel_rfl) (by decide) ?hq5 ?hw5 ?hy5 hHeld ?hr5; (case hi5 => (simp only [List.getElem?_toArray, List.getElem?_cons_succ, List.getElem?_cons_zero]; rfl)); (case hw5 => rfl); (case hy5 => (intro w hSw; go_simp; try with_reducible rfl)); (case hq5 => exact fun _ _ _ h => h); simp only [Act.put, List.setIfInBounds_toArray, List.set_cons_zero, List.set_cons_succ])
  (refine hd_take (i := 2) (oi := ?oi7) (v := ?v7) ?hi7 (by kernel_rfl) (by kernel_rfl) (by kernel_rfl) (by kernel_rfl) (by decide) ?hq7 ?hw7 ?hy7 hHeld ?hr7; (case hi7 => (simp only [List.getElem?_toArray, List.getElem?_cons_succ, List.getElem?_cons_zero]; rfl)); (case hw7 => rfl); (case hy7 => (intro w hSw; go_simp; try with_reducible rfl)); (case hq7 => exact fun _ _ _ h => h); simp only [Act.put, List.setIfInBounds_toArray, List.set_cons_zero, List.set_cons_succ])
  (refine hd_take (i := 3) (oi := ?oi9) (v := ?v9) ?hi9 (by kernel_rfl) (by kernel_rfl) (by kernel_rfl) (by kernel_rfl) (by decide) ?hq9 ?hw9 ?hy9 hHeld ?hr9; (case hi9 => (simp only [List.getElem?_toArray, List.getElem?_cons_succ, List.getElem?_cons_zero]; rfl)); (case hw9 => rfl); (case hy9 => (intro w hSw; go_simp; try with_reducible rfl)); (case hq9 => exact fun _ _ _ h => h); simp only [Act.put, List.setIfInBounds_toArray, List.set_cons_zero, List.set_cons_succ])
  (refine hd_take (i := 4) (oi := ?oi11) (v := ?v11) ?hi11 (by kernel_rfl) (by kernel_rfl) (by kernel_rfl) (by kernel_rfl) (by decide) ?hq11 ?hw11 ?hy11 hHeld ?hr11; (case hi11 => (simp only [List.getElem?_toArray, List.getElem?_cons_succ, List.getElem?_cons_zero]; rfl)); (case hw11 => rfl); (case hy11 => (intro w hSw; go_simp; try with_reducible rfl)); (case hq11 => exact fun _ _ _ h => h); simp only [Act.put, List.setIfInBounds_toArray, List.set_cons_zero, List.set_cons_succ])
  (refine hd_take (i := 5) (oi := ?oi13) (v := ?v13) ?hi13 (by kernel_rfl) (by kernel_rfl) (by kernel_rfl) (by kernel_rfl) (by decide) ?hq13 ?hw13 ?hy13 hHeld ?hr13; (case hi13 => (simp only [List.getElem?_toArray, List.getElem?_cons_succ, List.getElem?_cons_zero]; rfl)); (case hw13 => rfl); (case hy13 => (intro w hSw; go_simp; try with_reducible rfl)); (case hq13 => exact fun _ _ _ h => h); simp only [Act.put, List.setIfInBounds_toArray, List.set_cons_zero, List.set_cons_succ])
  (refine hd_take (i := 6) (oi := ?oi15) (v := ?v15) ?hi15 (by kernel_rfl) (by kernel_rfl) (by kernel_rfl) (by kernel_rfl) (by decide) ?hq15 ?hw15 ?hy15 hHeld ?hr15; (case hi15 => (simp only [List.getElem?_toArray, List.getElem?_cons_succ, List.getElem?_cons_zero]; rfl)); (case hw15 => rfl); (case hy15 => (intro w hSw; go_simp; try with_reducible rfl)); (case hq15 => exact fun _ _ _ h => h); simp only [Act.put, List.setIfInBounds_toArray, List.set_cons_zero, List.set_cons_succ])
  (refine hd_take (i := 7) (oi := ?oi17) (v := ?v17) ?hi17 (by kernel_rfl) (by kernel_rfl) (by kernel_rfl) (by kernel_rfl) (by decide) ?hq17 ?hw17 ?hy17 hHeld ?hr17; (case hi17 => (simp only [List.getElem?_toArray, List.getElem?_cons_succ, List.getElem?_cons_zero]; rfl)); (case hw17 => rfl); (case hy17 => (intro w hSw; go_simp; try with_reducible rfl)); (case hq17 => exact fun _ _ _ h => h); simp only [Act.put, List.setIfInBounds_toArray, List.set_cons_zero, List.set_cons_succ])
  (refine hd_take (i := 8) (oi := ?oi19) (v := ?v19) ?hi19 (by kernel_rfl) (by kernel_rfl) (by kernel_rfl) (by kernel_rfl) (by decide) ?hq19 ?hw19 ?hy19 hHeld ?hr19; (case hi19 => (simp only [List.getElem?_toArray, List.getElem?_cons_succ, List.getElem?_cons_zero]; rfl)); (case hw19 => rfl); (case hy19 => (intro w hSw; go_simp; try with_reducible rfl)); (case hq19 => exact fun _ _ _ h => h); simp only [Act.put, List.setIfInBounds_toArray, List.set_cons_zero, List.set_cons_succ])
  (refine hd_take (i := 9) (oi := ?oi21) (v := ?v21) ?hi21 (by kernel_rfl) (by kernel_rfl) (by kernel_rfl) (by kernel_rfl) (by decide) ?hq21 ?hw21 ?hy21 hHeld ?hr21; (case hi21 => (simp only [List.getElem?_toArray, List.getElem?_cons_succ, List.getElem?_cons_zero]; rfl)); (case hw21 => rfl); (case hy21 => (intro w hSw; go_simp; try with_reducible rfl)); (case hq21 => exact fun _ _ _ h => h); simp only [Act.put, List.setIfInBounds_toArray, List.set_cons_zero, List.set_cons_succ])
  (refine hd_take (i := 10) (oi := ?oi23) (v := ?v23) ?hi23 (by kernel_rfl) (by kernel_rfl) (by kernel_rfl) (by kernel_rfl) (by decide) ?hq23 ?hw23 ?hy23 hHeld ?hr23; (case hi23 => (simp only [List.getElem?_toArray, List.getElem?_cons_succ, List.getElem?_cons_zero]; rfl)); (case hw23 => rfl); (case hy23 => (intro w hSw; go_simp; try with_reducible rfl)); (case hq23 => exact fun _ _ _ h => h); simp only [Act.put, List.setIfInBounds_toArray, List.set_cons_zero, List.set_cons_succ])
  (refine hd_take (i := 11) (oi := ?oi25) (v := ?v25) ?hi25 (by kernel_rfl) (by kernel_rfl) (by kernel_rfl) (by kernel_rfl) (by decide) ?hq25 ?hw25 ?hy25 hHeld ?hr25; (case hi25 => (simp only [List.getElem?_toArray, List.getElem?_cons_succ, List.getElem?_cons_zero]; rfl)); (case hw25 => rfl); (case hy25 => (intro w hSw; go_simp; try with_reducible rfl)); (case hq25 => exact fun _ _ _ h => h); simp only [Act.put, List.setIfInBounds_toArray, List.set_cons_zero, List.set_cons_succ])
  (refine hd_take (i := 12) (oi := ?oi27) (v := ?v27) ?hi27 (by kernel_rfl) (by kernel_rfl) (by kernel_rfl) (by kernel_rfl) (by decide) ?hq27 ?hw27 ?hy27 hHeld ?hr27; (case hi27 => (simp only [List.getElem?_toArray, List.getElem?_cons_succ, List.getElem?_cons_zero]; rfl)); (case hw27 => rfl); (case hy27 => (intro w hSw; go_simp; try with_reducible rfl)); (case hq27 => exact fun _ _ _ h => h); simp only [Act.put, List.setIfInBounds_toArray, List.set_cons_zero, List.set_cons_succ])
  (refine hd_take (i := 13) (oi := ?oi29) (v := ?v29) ?hi29 (by kernel_rfl) (by kernel_rfl) (by kernel_rfl) (by kernel_rfl) (by decide) ?hq29 ?hw29 ?hy29 hHeld ?hr29; (case hi29 => (simp only [List.getElem?_toArray, List.getElem?_cons_succ, List.getElem?_cons_zero]; rfl)); (case hw29 => rfl); (case hy29 => (intro w hSw; go_simp; try with_reducible rfl)); (case hq29 => exact fun _ _ _ h => h); simp only [Act.put, List.setIfInBounds_toArray, List.set_cons_zero, List.set_cons_succ])
  (refine hd_take (i := 14) (oi := ?oi31) (v := ?v31) ?hi31 (by kernel_rfl) (by kernel_rfl) (by kernel_rfl) (by kernel_rfl) (by decide) ?hq31 ?hw31 ?hy31 hHeld ?hr31; (case hi31 => (simp only [List.getElem?_toArray, List.getElem?_cons_succ, List.getElem?_cons_zero]; rfl)); (case hw31 => rfl); (case hy31 => (intro w hSw; go_simp; try with_reducible rfl)); (case hq31 => exact fun _ _ _ h => h); simp only [Act.put, List.setIfInBounds_toArray, List.set_cons_zero, List.set_cons_succ])
  (refine hd_one (i := 15) (oi := ?oi33) ?hi33 (by kernel_rfl) (by decide) ?hr33; (case hi33 => (simp only [List.getElem?_toArray, List.getElem?_cons_succ, List.getElem?_cons_zero]; rfl)); intro K hK)
  go_simp
  go_at_call 62
  refine (fn_any 0 _ _ _ _).mono ?_
  rintro e w17 ⟨rfl, hb17⟩
  go_simp
  (refine hK.out _ _ ?hS35 (fun hHeld => ?hr35); (case hS35 => exact hbT hHeld hb17); clear hK K; try simp only [Act.put, List.setIfInBounds_toArray, List.set_cons_zero, List.set_cons_succ])
  (refine hd_one (i := 16) (oi := ?oi36) ?hi36 (by kernel_rfl) (by decide) ?hr36; (case hi36 => (simp only [List.getElem?_toArray, List.getElem?_cons_succ, List.getElem?_cons_zero]; rfl)); intro K hK)
  go_simp
  go_at_call 33
  refine (same_z A9 c9 _ _ (Kd.F_below HFX.out hHeld)).mono ?_
  rintro e w18 ⟨rfl, hb18⟩
  go_simp
  (refine hK.out _ _ ?hS38 (fun hHeld => ?hr38); (case hS38 => exact hbT hHeld hb18); clear hK K; try simp only [Act.put, List.setIfInBounds_toArray, List.set_cons_zero, List.set_cons_succ])
  (refine hd_take (i := 17) (oi := ?oi39) (v := ?v39) ?hi39 (by kernel_rfl) (by kernel_rfl) (by kernel_rfl) (by kernel_rfl) (by decide) ?hq39 ?hw39 ?hy39 hHeld ?hr39; (case hi39 => (simp only [List.getElem?_toArray, List.getElem?_cons_succ, List.getElem?_cons_zero]; rfl)); (case hw39 => rfl); (case hy39 => (intro w hSw; go_simp; try with_reducible rfl)); (case hq39 => exact fun _ _ _ h => h); simp only [Act.put, List.setIfInBounds_toArray, List.set_cons_zero, List.set_cons_succ])
  (refine hd_take (i := 18) (oi := ?oi41) (v := ?v41) ?hi41 (by kernel_rfl) (by kernel_rfl) (by kernel_rfl) (by kernel_rfl) (by decide) ?hq41 ?hw41 ?hy41 hHeld ?hr41; (case hi41 => (simp only [List.getElem?_toArray, List.getElem?_cons_succ, List.getElem?_cons_zero]; rfl)); (case hw41 => rfl); (case hy41 => (intro w hSw; go_simp; try with_reducible rfl)); (case hq41 => exact fun _ _ _ h => h); simp only [Act.put, List.setIfInBounds_toArray, List.set_cons_zero, List.set_cons_succ])
  (refine hd_take (i := 19) (oi := ?oi43) (v := ?v43) ?hi43 (by kernel_rfl) (by kernel_rfl) (by kernel_rfl) (by kernel_rfl) (by decide) ?hq43 ?hw43 ?hy43 hHeld ?hr43; (case hi43 => (simp only [List.getElem?_toArray, List.getElem?_cons_succ, List.getElem?_cons_zero]; rfl)); (case hw43 => rfl); (case hy43 => (intro w hSw; go_simp; try with_reducible rfl)); (case hq43 => exact fun _ _ _ h => h); simp only [Act.put, List.setIfInBounds_toArray, List.set_cons_zero, List.set_cons_succ])
  (refine hd_one (i := 20) (oi := ?oi45) ?hi45 (by kernel_rfl) (by decide) ?hr45; (case hi45 => (simp only [List.getElem?_toArray, List.getElem?_cons_succ, List.getElem?_cons_zero]; rfl)); intro K hK)
  go_simp
  go_at_call 62
  refine (fn_any 0 _ _ _ _).mono ?_
  rintro e w19 ⟨rfl, hb19⟩
  go_simp
  (refine hK.out _ _ ?hS47 (fun hHeld => ?hr47); (case hS47 => exact hbT hHeld hb19); clear hK K; try simp only [Act.put, List.setIfInBounds_toArray, List.set_cons_zero, List.set_cons_succ])
  (refine hd_one (i := 21) (oi := ?oi48) ?hi48 (by kernel_rfl) (by decide) ?hr48; (case hi48 => (simp only [List.getElem?_toArray, List.getElem?_cons_succ, List.getElem?_cons_zero]; rfl)); intro K hK)
  go_simp
  go_at_call 33
  refine (same_z A14 c14 _ _ (Kd.F_below HFY.out hHeld)).mono ?_
  rintro e w20 ⟨rfl, hb20⟩
  go_simp
  (refine hK.out _ _ ?hS50 (fun hHeld => ?hr50); (case hS50 => exact hbT hHeld hb20); clear hK K; try simp only [Act.put, List.setIfInBounds_toArray, List.set_cons_zero, List.set_cons_succ])
  (refine hd_take (i := 22) (oi := ?oi51) (v := ?v51) ?hi51 (by kernel_rfl) (by kernel_rfl) (by kernel_rfl) (by kernel_rfl) (by decide) ?hq51 ?hw51 ?hy51 hHeld ?hr51; (case hi51 => (simp only [List.getElem?_toArray, List.getElem?_cons_succ, List.getElem?_cons_zero]; rfl)); (case hw51 => rfl); (case hy51 => (intro w hSw; go_simp; try with_reducible rfl)); (case hq51 => exact fun _ _ _ h => h); simp only [Act.put, List.setIfInBounds_toArray, List.set_cons_zero, List.set_cons_succ])
  (refine hd_take (i := 23) (oi := ?oi53) (v := ?v53) ?hi53 (by kernel_rfl) (by kernel_rfl) (by kernel_rfl) (by kernel_rfl) (by decide) ?hq53 ?hw53 ?hy53 hHeld ?hr53; (case hi53 => (simp only [List.getElem?_toArray, List.getElem?_cons_succ, List.getElem?_cons_zero]; rfl)); (case hw53 => rfl); (case hy53 => (intro w hSw; go_simp; try with_reducible rfl)); (case hq53 => exact fun _ _ _ h => h); simp only [Act.put, List.setIfInBounds_toArray, List.set_cons_zero, List.set_cons_succ])
  (refine hd_take (i := 25) (oi := ?oi55) (v := ?v55) ?hi55 (by kernel_rfl) (by kernel_rfl) (by kernel_rfl) (by kernel_rfl) (by decide) ?hq55 ?hw55 ?hy55 hHeld ?hr55; (case hi55 => (simp only [List.getElem?_toArray, List.getElem?_cons_succ, List.getElem?_cons_zero]; rfl)); (case hw55 => rfl); (case hy55 => (intro w hSw; go_simp; try with_reducible rfl)); (case hq55 => exact fun _ _ _ h => h); simp only [Act.put, List.setIfInBounds_toArray, List.set_cons_zero, List.set_cons_succ])
  (refine hd_one (i := 24) (oi := ?oi57) ?hi57 (by kernel_rfl) (by decide) ?hr57; (case hi57 => (simp only [List.getElem?_toArray, List.getElem?_cons_succ, List.getElem?_cons_zero]; rfl)); intro K hK)
  go_simp
  go_at_call 63
  refine (small_any _).mono ?_
  rintro e w21 ⟨A21, rfl, hC21, hb21⟩
  have HC21 := Aside0.mk hC21
  clear hC21
  go_simp
  (refine hK.out _ _ ?hS59 (fun hHeld => ?hr59); (case hS59 => exact hbT hHeld hb21); clear hK K; try simp only [Act.put, List.setIfInBounds_toArray, List.set_cons_zero, List.set_cons_succ])
  (refine hd_one (i := 26) (oi := ?oi60) ?hi60 (by kernel_rfl) (by decide) ?hr60; (case hi60 => (simp only [List.getElem?_toArray, List.getElem?_cons_succ, List.getElem?_cons_zero]; rfl)); intro K hK)
  go_simp
  go_at_call 29
  refine (rck_s A21 b8 b13 _ HC21.out ((hHeld.block _ (blk_lt H8_15.out)).trans H8_15.out) ((hHeld.block _ (blk_lt H13_15.out)).trans H13_15.out)).mono ?_
  rintro e w22 ⟨rfl, hb22⟩
  go_simp
  (refine hK.out _ _ ?hS62 (fun hHeld => ?hr62); (case hS62 => exact hbT hHeld hb22); clear hK K; try simp only [Act.put, List.setIfInBounds_toArray, List.set_cons_zero, List.set_cons_succ])
  (refine hd_take (i := 27) (oi := ?oi63) (v := ?v63) ?hi63 (by kernel_rfl) (by kernel_rfl) (by kernel_rfl) (by kernel_rfl) (by decide) ?hq63 ?hw63 ?hy63 hHeld ?hr63; (case hi63 => (simp only [List.getElem?_toArray, List.getElem?_cons_succ, List.getElem?_cons_zero]; rfl)); (case hw63 => rfl); (case hy63 => (intro w hSw; go_simp; try with_reducible rfl)); (case hq63 => exact fun _ _ _ h => h); simp only [Act.put, List.setIfInBounds_toArray, List.set_cons_zero, List.set_cons_succ])
  (refine hd_take (i := 28) (oi := ?oi65) (v := ?v65) ?hi65 (by kernel_rfl) (by kernel_rfl) (by kernel_rfl) (by kernel_rfl) (by decide) ?hq65 ?hw65 ?hy65 hHeld ?hr65; (case hi65 => (simp only [List.getElem?_toArray, List.getElem?_cons_succ, List.getElem?_cons_zero]; rfl)); (case hw65 => rfl); (case hy65 => (intro w hSw; go_simp; try with_reducible rfl)); (case hq65 => exact fun _ _ _ h => h); simp only [Act.put, List.setIfInBounds_toArray, List.set_cons_zero, List.set_cons_succ])
  (refine hd_done (by kernel_rfl) ?_; simp only [List.drop_succ_cons, List.drop_zero])
  have HBE := Aside0.mk (hbT HB15.out hHeld)
  clear hHeld k0 k1 k2 k3 k4 k5
  go_wp2
  go_ret
  exact ⟨rfl, HBE.out⟩
end Go.Proofs.Ytcgnpmjkeifokaa
-- K52
/- superposeref.ApplyClause. -/
namespace Go.Proofs.Ytcgnpmjkeifokaa
open Go.RowKit Go.Proofs.YtcgnpmjkeifokaaW.PrintWords
set_option linter.unusedVariables false
set_option linter.unusedSimpArgs false
def appC (m : List (Int × Tm)) (c : List Li) : List Li := c.map fun l => ⟨l.f0, appT m l.f1, appT m l.f2⟩
end Go.Proofs.Ytcgnpmjkeifokaa
-- K55
/- clause.Each. -/
namespace Go.Proofs.Ytcgnpmjkeifokaa
open Go.RowKit Go.Proofs.YtcgnpmjkeifokaaW.PrintWords
set_option linter.unusedVariables false
set_option linter.unusedSimpArgs false
def eachC (f : Tm → Tm) (c : List Li) : List Li := c.map fun l => ⟨l.f0, f l.f1, f l.f2⟩
/-- A function value that makes terms anew. -/
def DoE (g : Nat) (lb : Array Value) (f : Tm → Tm) (ts : List Tm) (w0 : World) : Prop :=
  ∀ (x : Tm) (A : Option Addr) (c : Nat) (W : World), x ∈ ts → Below w0.heap.size w0 W → Kd.F kTm W (fun _ => True) A x.f2.length x.f2 → x.f2.length ≤ c →
    Calls Try.prog g (#[.agg #[.int .i64 x.f0, .int .i64 x.f1, .slice A x.f2.length c]] ++ lb) W fun e w' => ∃ (A' : Option Addr) (c' : Nat), e = .returned (.agg #[.int .i64 (f x).f0, .int .i64 (f x).f1, .slice A' (f x).f2.length c']) ∧ (f x).f2.length ≤ c' ∧ Kd.F kTm w' (fun k => W.heap.size ≤ k) A' (f x).f2.length (f x).f2 ∧ Below W.heap.size W w'
end Go.Proofs.Ytcgnpmjkeifokaa
-- K32
/- superposeref.Has, SameInts. -/
namespace Go.Proofs.Ytcgnpmjkeifokaa
open Go.RowKit Go.Proofs.YtcgnpmjkeifokaaW.PrintWords
set_option linter.unusedVariables false
set_option linter.unusedSimpArgs false
def sameI_ (a b : List Int) : Bool := decide (a = b)
end Go.Proofs.Ytcgnpmjkeifokaa
-- K33
/- superposeref.FirstVars. -/
namespace Go.Proofs.Ytcgnpmjkeifokaa
open Go.RowKit Go.Proofs.YtcgnpmjkeifokaaW.PrintWords
set_option linter.unusedVariables false
set_option linter.unusedSimpArgs false
def stepV (s : List Int) (x : Tm) : List Int := if 0 < x.f0 ∧ hasB s x.f0 = false then s ++ [x.f0] else s
def fvP (s : List Int) (l : List Tm) : List Int := l.foldl stepV s
def fvL : List Int → List Tm → List Int
  | s, [] => s
  | s, t :: ts => fvL (fvP s (ptsT t)) ts
end Go.Proofs.Ytcgnpmjkeifokaa
-- K53
/- superposeref.TidyOf. -/
namespace Go.Proofs.Ytcgnpmjkeifokaa
open Go.RowKit Go.Proofs.YtcgnpmjkeifokaaW.PrintWords
set_option linter.unusedVariables false
set_option linter.unusedSimpArgs false
def dupQ (l x : Li) : Bool := x.f0 == l.f0 && sidesB x l
def trivN (l : Li) : Bool := !l.f0 && eqT l.f1 l.f2
def dropB (pre : List Li) (l : Li) : Bool := trivN l || pre.any (dupQ l)
/-- Of the first k literals those that stay. -/
def kpt (c : List Li) : Nat → List Li
  | 0 => []
  | k + 1 => if dropB (c.take k) (rd_Li c k) then kpt c k else kpt c k ++ [rd_Li c k]
/-- The variables numbered anew. -/
def numK (vs : List Int) : Nat → List Bd
  | 0 => []
  | k + 1 => numK vs k ++ [⟨vs.getD k 0, ⟨(k : Int) + 1, 0, []⟩⟩]
def numB (vs : List Int) : List Bd := numK vs vs.length
def tidyK (c : List Li) : List Li := appC (bds (numB (fvL [] (tmsL c)))) c
def tidyL (c : List Li) : List Li := tidyK (kpt c c.length)
end Go.Proofs.Ytcgnpmjkeifokaa
-- K56
/- Plain laws of tidying: what stays; the variables numbered anew; clause.Neat$1, Neat$2. -/
namespace Go.Proofs.Ytcgnpmjkeifokaa
open Go.RowKit Go.Proofs.YtcgnpmjkeifokaaW.PrintWords
set_option linter.unusedVariables false
set_option linter.unusedSimpArgs false
/-! ### sides -/
def sidP (a b : Li) : Prop := (a.f1 = b.f1 ∧ a.f2 = b.f2) ∨ (a.f1 = b.f2 ∧ a.f2 = b.f1)
/-- What stays, told by what has stayed. -/
def nkp (c : List Li) : Nat → List Li
  | 0 => []
  | k + 1 => if trivN (rd_Li c k) || (nkp c k).any (dupQ (rd_Li c k)) then nkp c k else nkp c k ++ [rd_Li c k]
/-! ### the variables' numbers -/
end Go.Proofs.Ytcgnpmjkeifokaa
-- K57
/- clause.Neat, Tidy. -/
namespace Go.Proofs.Ytcgnpmjkeifokaa
open Go.RowKit Go.Proofs.YtcgnpmjkeifokaaW.PrintWords
set_option linter.unusedVariables false
set_option linter.unusedSimpArgs false
end Go.Proofs.Ytcgnpmjkeifokaa
-- K58
/- clause.Tidy; what a list of clauses that is right holds. -/
namespace Go.Proofs.Ytcgnpmjkeifokaa
open Go.RowKit Go.Proofs.YtcgnpmjkeifokaaW.PrintWords
set_option linter.unusedVariables false
set_option linter.unusedSimpArgs false
def tidR (g : List Int) (c : List Li) : List Li := if chkCs g [c] = 0 then tidyL c else []
/-! ### clauseBegun's clauses -/
def cS : List Li := [⟨true, ⟨7, 0, []⟩, ⟨0, 0, []⟩⟩, ⟨false, ⟨3, 0, []⟩, ⟨3, 0, []⟩⟩]
def dS : List Li := [⟨true, ⟨0, 0, []⟩, ⟨0, 1, [⟨0, 0, []⟩]⟩⟩]
def tS1 : List Li := [⟨true, ⟨1, 0, []⟩, ⟨0, 0, []⟩⟩]
end Go.Proofs.Ytcgnpmjkeifokaa
-- K59
/- superposelaw.clauseBegun. -/
namespace Go.Proofs.Ytcgnpmjkeifokaa
open Go.RowKit Go.Proofs.YtcgnpmjkeifokaaW.PrintWords
set_option linter.unusedVariables false
set_option linter.unusedSimpArgs false
end Go.Proofs.Ytcgnpmjkeifokaa
-- KSub
/- Subsumption, plain laws: it is reflexive on clauses that are right, and transitive. -/
namespace Go.Proofs.Ytcgnpmjkeifokaa
open Go.RowKit Go.Proofs.YtcgnpmjkeifokaaW.PrintWords
set_option linter.unusedVariables false
set_option linter.unusedSimpArgs false
mutual
def subT (σ : Int → Tm) : Tm → Tm
  | ⟨v, f, l⟩ => if 0 < v then σ v else ⟨0, f, subL σ l⟩
def subL (σ : Int → Tm) : List Tm → List Tm
  | [] => []
  | t :: ts => subT σ t :: subL σ ts
end
theorem subT_eq (σ : Int → Tm) (t : Tm) : subT σ t = if 0 < t.f0 then σ t.f0 else ⟨0, t.f1, subL σ t.f2⟩ := by cases t; rw [subT]
theorem subL_len (σ : Int → Tm) (l : List Tm) : (subL σ l).length = l.length := by
  induction l with
  | nil => simp [subL]
  | cons t ts ih => simp [subL, ih]
def Ext (m : List (Int × Tm)) (σ : Int → Tm) : Prop := ∀ v u, mget m v = some u → σ v = u
def Inc (m m' : List (Int × Tm)) : Prop := ∀ v u, mget m v = some u → mget m' v = some u
theorem Inc.refl (m : List (Int × Tm)) : Inc m m := fun _ _ h => h
theorem Inc.trans {a b c : List (Int × Tm)} (h : Inc a b) (k : Inc b c) : Inc a c := fun v u e => k v u (h v u e)
theorem Ext.of {m m' : List (Int × Tm)} {σ : Int → Tm} (h : Ext m' σ) (k : Inc m m') : Ext m σ := fun v u e => h v u (k v u e)
theorem inc_push {m : List (Int × Tm)} (v : Int) (t : Tm) : Inc m (m ++ [(v, t)]) := fun _ _ h => mget_prefix h
theorem grow_sound (p : Tm) : ∀ (t : Tm) (m m' : List (Int × Tm)), growT m p t = (m', true) → Inc m m' ∧ ∀ σ, Ext m' σ → subT σ p = t := by
  refine Tm.rec (motive_1 := fun p => ∀ (t : Tm) (m m' : List (Int × Tm)), growT m p t = (m', true) → Inc m m' ∧ ∀ σ, Ext m' σ → subT σ p = t)
    (motive_2 := fun l => ∀ (ts : List Tm) (m m' : List (Int × Tm)), l.length = ts.length → growL m l ts = (m', true) → Inc m m' ∧ ∀ σ, Ext m' σ → subL σ l = ts) ?_ ?_ ?_ p
  · intro v f l ih t m m' h
    rw [growT] at h
    by_cases hv : 0 < v
    · rw [if_pos hv] at h
      cases hg : mget m v with
      | some u =>
        rw [hg] at h
        simp only [Prod.mk.injEq] at h
        obtain ⟨rfl, he⟩ := h
        refine ⟨Inc.refl _, fun σ hσ => ?_⟩
        rw [subT, if_pos hv, hσ v u hg]
        exact (eqT_iff u t).1 he
      | none =>
        rw [hg] at h
        simp only [Prod.mk.injEq] at h
        obtain ⟨rfl, _⟩ := h
        refine ⟨inc_push v t, fun σ hσ => ?_⟩
        rw [subT, if_pos hv]
        refine hσ v t ?_
        rw [mget_append hg, mget, if_pos rfl]
    · rw [if_neg hv] at h
      by_cases hc : t.f0 = 0 ∧ f = t.f1 ∧ l.length = t.f2.length
      · rw [if_pos hc] at h
        obtain ⟨h1, h2⟩ := ih t.f2 m m' hc.2.2 h
        refine ⟨h1, fun σ hσ => ?_⟩
        rw [subT, if_neg hv, h2 σ hσ]
        obtain ⟨a, b, c⟩ := t
        obtain ⟨e1, e2, _⟩ := hc
        simp only at e1 e2
        subst e1 e2
        rfl
      · rw [if_neg hc] at h
        simp at h
  · intro ts m m' hl h
    cases ts with
    | nil => rw [growL] at h; simp only [Prod.mk.injEq] at h; obtain ⟨rfl, _⟩ := h; exact ⟨Inc.refl _, fun σ _ => by rw [subL]⟩
    | cons a b => simp at hl
  · intro t ts h1 h2 us m m' hl h
    cases us with
    | nil => simp at hl
    | cons u us =>
      rw [growL] at h
      by_cases hb : (growT m t u).2 = true
      · rw [if_pos hb] at h
        obtain ⟨a1, a2⟩ := h1 u m (growT m t u).1 (by rw [← hb])
        obtain ⟨b1, b2⟩ := h2 us _ m' (by simpa using hl) h
        exact ⟨a1.trans b1, fun σ hσ => by rw [subL, a2 σ (hσ.of b1), b2 σ hσ]⟩
      · rw [if_neg hb] at h
        simp at h
/-- A literal put in is one of d. -/
def Hits (σ : Int → Tm) (l : Li) (d : List Li) : Prop := ∃ x ∈ d, x.f0 = l.f0 ∧ ((subT σ l.f1 = x.f1 ∧ subT σ l.f2 = x.f2) ∨ (subT σ l.f1 = x.f2 ∧ subT σ l.f2 = x.f1))
def idS (v : Int) : Tm := ⟨v, 0, []⟩
end Go.Proofs.Ytcgnpmjkeifokaa
-- KPut
/- Plain laws of what is put at a place. -/
namespace Go.Proofs.Ytcgnpmjkeifokaa
open Go.RowKit Go.Proofs.YtcgnpmjkeifokaaW.PrintWords
set_option linter.unusedVariables false
set_option linter.unusedSimpArgs false
theorem form_v {g : List Int} {t : Tm} (hf : formE g t = 0) (h : 0 < t.f2.length) : t.f0 = 0 := by
  rw [formE_eq] at hf
  by_cases hl : formEL g t.f2 = 0
  · rw [if_neg (by simpa using hl)] at hf
    by_cases hv : t.f0 = 0
    · exact hv
    · unfold partE at hf
      rw [if_pos hv] at hf
      split at hf
      · split at hf
        · omega
        · cases hf
      · cases hf
  · rw [if_pos hl] at hf; exact absurd hf hl
theorem form_args {g : List Int} {t : Tm} (hf : formE g t = 0) : formEL g t.f2 = 0 ∧ partE g t = 0 := by
  rw [formE_eq] at hf
  by_cases hl : formEL g t.f2 = 0
  · rw [if_neg (by simpa using hl)] at hf; exact ⟨hl, hf⟩
  · rw [if_pos hl] at hf; exact absurd hf hl
theorem put_form (g : List Int) (u : Tm) (hu : formE g u = 0) : ∀ (p : List Int) (t : Tm), formE g t = 0 → atB t p = true → formE g (putP t p u) = 0
  | [], t, _, _ => by rw [putP]; exact hu
  | y :: p, t, hf, h => by
    obtain ⟨h0, h1, h2⟩ := atB_cons h
    have hv := form_v hf (by omega)
    obtain ⟨ha, hp⟩ := form_args hf
    have hr := put_form g u hu p (rd_Tm t.f2 y) (formEL_mem ha _ (rd_mem' t.f2 y h0 h1)) h2
    have hl : formEL g (t.f2.set y.toNat (putP (rd_Tm t.f2 y) p u)) = 0 := formEL_of (fun x hx => by
      rcases List.mem_or_eq_of_mem_set hx with h | h
      · exact formEL_mem ha x h
      · rw [h]; exact hr)
    rw [putP, formE_eq]
    simp only [hl, ne_eq, not_true_eq_false, if_false]
    unfold partE at hp ⊢
    simpa [hv] using hp
theorem at_form (g : List Int) : ∀ (p : List Int) (t : Tm), formE g t = 0 → atB t p = true → formE g (atT t p) = 0
  | [], t, hf, _ => hf
  | y :: p, t, hf, h => by
    obtain ⟨h0, h1, h2⟩ := atB_cons h
    have ha : atT t (y :: p) = atT (rd_Tm t.f2 y) p := by unfold atT; rw [atP, if_pos ⟨h0, h1⟩]
    rw [ha]
    exact at_form g p _ (formEL_mem (form_args hf).1 _ (rd_mem' t.f2 y h0 h1)) h2
theorem chkTs_of {g : List Int} {l : List Tm} (hs : sigE g = 0) (h : ∀ x ∈ l, okT g x) : chkTs g l = 0 := by
  unfold chkTs
  rw [if_neg (by simpa using hs)]
  exact fe_of (fun x hx => chkT_ok.2 (h x hx))
end Go.Proofs.Ytcgnpmjkeifokaa
-- K104
/- Each step makes a lesser term, and what is normal stays as it is; plain laws. -/
namespace Go.Proofs.Ytcgnpmjkeifokaa
open Go.RowKit Go.Proofs.YtcgnpmjkeifokaaW.PrintWords
set_option linter.unusedVariables false
set_option linter.unusedSimpArgs false
theorem subL_map (σ : Int → Tm) (l : List Tm) : subL σ l = l.map (subT σ) := by
  induction l with
  | nil => rw [subL]; rfl
  | cons t ts ih => rw [subL, ih]; rfl
theorem lex_sub {f : Tm → Tm} : ∀ {xs ys : List Tm}, (∀ a ∈ xs, ∀ b ∈ ys, gtB a b = true → gtB (f a) (f b) = true) → lexG gtB xs ys = true → lexG gtB (xs.map f) (ys.map f) = true
  | [], _, _, h => by simp [lexG] at h
  | _ :: _, [], _, h => by simp [lexG] at h
  | a :: xs, b :: ys, hp, h => by
    rw [lexG] at h
    rw [List.map_cons, List.map_cons, lexG]
    by_cases e : eqT a b = true
    · rw [if_pos e] at h
      rw [eqT_iff] at e
      subst e
      rw [if_pos (eqT_refl _)]
      exact lex_sub (fun x hx y hy => hp x (by simp [hx]) y (by simp [hy])) h
    · rw [if_neg e] at h
      have h2 := hp a (by simp) b (by simp) h
      rw [if_neg (fun e2 => gt_ne h2 ((eqT_iff _ _).1 e2))]
      exact h2
/-- What is greater stays greater, whatever is put in. -/
theorem gt_stableN (σ : Int → Tm) : ∀ (n : Nat) (s t : Tm), szT s + szT t ≤ n → gtB s t = true → gtB (subT σ s) (subT σ t) = true
  | 0, s, _, h, _ => by have := szT_pos s; omega
  | n + 1, s, t, hn, h => by
    obtain ⟨s0, h1⟩ := (gt_iff s t).1 h
    have hs := szT_eq s
    have ht := szT_eq t
    have es : subT σ s = ⟨0, s.f1, s.f2.map (subT σ)⟩ := by rw [subT_eq, if_neg s0, subL_map]
    rcases h1 with ⟨a, ha, h2⟩ | ⟨t0, h2, h3⟩
    · have hm := szT_mem ha
      have hin : subT σ a ∈ (subT σ s).f2 := by rw [es]; exact List.mem_map.2 ⟨a, ha, rfl⟩
      have h0 : ¬ 0 < (subT σ s).f0 := by rw [es]; exact Int.lt_irrefl 0
      rcases h2 with rfl | h2
      · exact gt_arg h0 hin
      · exact gt_in h0 hin (gt_stableN σ n a t (by omega) h2)
    · have et : subT σ t = ⟨0, t.f1, t.f2.map (subT σ)⟩ := by rw [subT_eq, if_neg t0, subL_map]
      refine (gt_iff _ _).2 ⟨by rw [es]; exact Int.lt_irrefl 0, .inr ⟨by rw [et]; exact Int.lt_irrefl 0, fun b hb => ?_, ?_⟩⟩
      · rw [et] at hb
        obtain ⟨y, hy, rfl⟩ := List.mem_map.1 hb
        have hm := szT_mem hy
        exact gt_stableN σ n s y (by omega) (h2 y hy)
      · rw [es, et]
        rcases h3 with h3 | ⟨e, h3⟩
        · exact .inl h3
        · exact .inr ⟨e, lex_sub (fun a ha b hb k => by
            have := szT_mem ha
            have := szT_mem hb
            exact gt_stableN σ n a b (by omega) k) h3⟩
theorem gt_stable (σ : Int → Tm) {s t : Tm} (h : gtB s t = true) : gtB (subT σ s) (subT σ t) = true := gt_stableN σ _ s t (Nat.le_refl _) h
/-- What the rows of a map make of a variable. -/
def ofM (m : List (Int × Tm)) (v : Int) : Tm := (mget m v).getD ⟨v, 0, []⟩
theorem ext_ofM (m : List (Int × Tm)) : Ext m (ofM m) := fun v u h => by unfold ofM; rw [h]; rfl
theorem app_ofM (g : List Int) (m : List (Int × Tm)) (t : Tm) : formE g t = 0 → appT m t = subT (ofM m) t := by
  refine Tm.rec (motive_1 := fun t => formE g t = 0 → appT m t = subT (ofM m) t) (motive_2 := fun l => formEL g l = 0 → appL m l = subL (ofM m) l) ?_ ?_ ?_ t
  · intro v f l ih hf
    obtain ⟨ha, hp⟩ := form_args hf
    have ha2 : formEL g l = 0 := ha
    rw [appT, subT]
    by_cases hv : 0 < v
    · rw [if_pos hv, if_pos hv]
      have hl : l = [] ∧ f = 0 := by
        unfold partE at hp
        rw [if_pos (show v ≠ 0 by omega)] at hp
        split at hp
        · split at hp
          · rename_i h; exact ⟨List.length_eq_zero_iff.1 h.1, h.2⟩
          · cases hp
        · cases hp
      rw [hl.1, hl.2]; rfl
    · rw [if_neg hv, if_neg hv, ih ha2]
  · intro _; rw [appL, subL]
  · intro t ts h1 h2 hf
    rw [appL, subL, h1 (formEL_mem hf t (by simp)), h2 (formEL_of fun x hx => formEL_mem hf x (by simp [hx]))]
theorem sub_ok {g : List Int} {σ : Int → Tm} (hσ : ∀ v, 1 ≤ v → v ≤ 1000 → formE g (σ v) = 0) (t : Tm) : formE g t = 0 → formE g (subT σ t) = 0 := by
  refine Tm.rec (motive_1 := fun t => formE g t = 0 → formE g (subT σ t) = 0) (motive_2 := fun l => formEL g l = 0 → formEL g (subL σ l) = 0) ?_ ?_ ?_ t
  · intro v f l ih hf
    obtain ⟨ha, hp⟩ := form_args hf
    have ha2 : formEL g l = 0 := ha
    rw [subT]
    by_cases hv : 0 < v
    · rw [if_pos hv]
      refine hσ v (by omega) ?_
      unfold partE at hp
      rw [if_pos (show v ≠ 0 by omega)] at hp
      split at hp
      · rename_i h; exact h.2
      · cases hp
    · rw [if_neg hv, formE, if_neg (by simpa using ih ha2)]
      unfold partE at hp ⊢
      by_cases h0 : v = 0
      · subst h0
        simpa [subL_len] using hp
      · rw [if_pos h0, if_neg (by show ¬ (1 ≤ v ∧ v ≤ 1000); omega)] at hp
        cases hp
  · intro _; rw [subL]; rfl
  · intro t ts h1 h2 hf
    rw [subL]
    have k1 := h1 (formEL_mem hf t (by simp))
    have k2 := h2 (formEL_of fun x hx => formEL_mem hf x (by simp [hx]))
    rw [formEL, if_neg (by simpa using k1)]
    exact k2
theorem form_va {g : List Int} {v : Int} (h : 1 ≤ v) (k : v ≤ 1000) : formE g ⟨v, 0, []⟩ = 0 := by
  rw [formE, formEL]
  unfold partE
  rw [if_neg (by simp), if_pos (show v ≠ 0 by omega), if_pos (⟨h, k⟩ : 1 ≤ v ∧ v ≤ 1000)]
  simp
/-- A lesser term put at a place makes a lesser one. -/
theorem gt_put {g : List Int} {u : Tm} : ∀ (p : List Int) (t : Tm), formE g t = 0 → atB t p = true → gtB (atT t p) u = true → gtB t (putP t p u) = true
  | [], t, _, _, h => by rw [putP]; exact h
  | y :: p, t, hf, h, k => by
    obtain ⟨h0, h1, h2⟩ := atB_cons h
    have hv := form_v hf (by omega)
    obtain ⟨ha, hp⟩ := form_args hf
    have e0 : atP t (y :: p) = atP (rd_Tm t.f2 y) p := by rw [atP, if_pos ⟨h0, h1⟩]
    have e : atT t (y :: p) = atT (rd_Tm t.f2 y) p := by unfold atT; rw [e0]
    rw [e] at k
    have hr := gt_put p (rd_Tm t.f2 y) (formEL_mem ha _ (rd_mem' t.f2 y h0 h1)) h2 k
    have hlt : y.toNat < t.f2.length := by omega
    have ey : rd_Tm t.f2 y = t.f2[y.toNat] := by
      have := rd_get t.f2 y.toNat hlt
      rwa [show ((y.toNat : Nat) : Int) = y by omega] at this
    have e1 : t = ⟨t.f0, t.f1, t.f2.take y.toNat ++ rd_Tm t.f2 y :: t.f2.drop (y.toNat + 1)⟩ := by
      rw [ey, ← List.drop_eq_getElem_cons hlt, List.take_append_drop]
      cases t; rfl
    have e2 : putP t (y :: p) u = ⟨0, t.f1, t.f2.take y.toNat ++ putP (rd_Tm t.f2 y) p u :: t.f2.drop (y.toNat + 1)⟩ := by
      rw [putP, List.set_eq_take_append_cons_drop, if_pos hlt]
    rw [e2]
    refine Eq.trans (congrArg (fun x => gtB x _) e1) ?_
    exact gt_mono _ _ (by omega) (by omega) hr
/-- What a step makes of a right term. -/
theorem stp_cases {g : List Int} {l : List Rl} {t : Tm} (hl : ∀ r ∈ l, okT g r.f0 ∧ okT g r.f1 ∧ gtB r.f0 r.f1 = true) (ht : okT g t) (h0 : (stp l t).2.2 = 0) :
    ((stp l t).2.1 = false ∧ (stp l t).1 = t) ∨ ((stp l t).2.1 = true ∧ gtB t (stp l t).1 = true ∧ okT g (stp l t).1) := by
  cases h : fndT l t with
  | none => rw [st_none h]; exact .inl ⟨rfl, rfl⟩
  | some x =>
    obtain ⟨q, r, m⟩ := x
    obtain ⟨k1, k2, k3, k4⟩ := fnd_spec l t q r m h
    obtain ⟨r1, r2, r3⟩ := hl r k2
    by_cases h1 : totT m r.f1 ≤ 120
    · by_cases h2 : szT (layP t q (mapT (dlt m) r.f1)) ≤ 120
      · rw [st_made h h1 h2]
        refine .inr ⟨rfl, ?_, h2, ?_⟩
        · show gtB t (layP t q (mapT (dlt m) r.f1)) = true
          rw [layP_putP g _ q t ht.2 k1]
          refine gt_put q t ht.2 k1 ?_
          rw [map_app g m _ r2.2, app_ofM g m _ r2.2, ← (grow_sound r.f0 _ _ _ k3).2 (ofM m) (ext_ofM m)]
          exact gt_stable _ r3
        · show formE g (layP t q (mapT (dlt m) r.f1)) = 0
          rw [layP_putP g _ q t ht.2 k1]
          refine put_form g _ ?_ q t ht.2 k1
          rw [map_app g m _ r2.2, app_ofM g m _ r2.2]
          refine sub_ok (fun v hv1 hv2 => ?_) _ r2.2
          unfold ofM
          cases hm : mget m v with
          | none => exact form_va hv1 hv2
          | some u =>
            have hS := grow_vals (S := fun u => formE g u = 0) r.f0 (atT t q) [] (fun v u h => by cases h) (form_pt _ (at_form g q t ht.2 k1)) v u
            rw [k3] at hS
            exact hS hm
      · rw [st_great h h1 h2] at h0; cases h0
    · rw [st_many h h1] at h0; cases h0
theorem nrm_spec {g : List Int} {l : List Rl} (hl : ∀ r ∈ l, okT g r.f0 ∧ okT g r.f1 ∧ gtB r.f0 r.f1 = true) : ∀ (f n : Nat) (t : Tm), okT g t → (nrmF l f n t).2.2 = 0 →
    okT g (nrmF l f n t).1 ∧ stp l (nrmF l f n t).1 = ((nrmF l f n t).1, false, 0) ∧ n ≤ (nrmF l f n t).2.1 ∧ (n < (nrmF l f n t).2.1 ↔ (stp l t).2.1 = true)
  | 0, n, t, _, h => by rw [nrmF] at h; cases h
  | f + 1, n, t, ht, h => by
    rw [nrmF] at h ⊢
    by_cases h1 : (stp l t).2.2 = 0
    · rw [if_neg (by simpa using h1)] at h ⊢
      rcases stp_cases hl ht h1 with ⟨h2, h3⟩ | ⟨h2, h3, h4⟩
      · rw [if_pos h2] at h ⊢
        refine ⟨ht, ?_, Nat.le_refl _, by rw [h2]; simp⟩
        show stp l t = (t, false, 0)
        calc stp l t = ((stp l t).1, (stp l t).2.1, (stp l t).2.2) := rfl
          _ = _ := by rw [h1, h2, h3]
      · rw [if_neg (by rw [h2]; decide)] at h ⊢
        by_cases h5 : n = 300
        · rw [if_pos h5] at h; cases h
        · rw [if_neg h5] at h ⊢
          obtain ⟨a, b, c, d⟩ := nrm_spec hl f (n + 1) _ h4 h
          exact ⟨a, b, by omega, ⟨fun _ => h2, fun _ => by omega⟩⟩
    · rw [if_pos h1] at h; exact absurd h h1
theorem nrm_err {l : List Rl} {t : Tm} (h : (stp l t).2.2 ≠ 0) : (nrm l t).2.2 ≠ 0 := by
  unfold nrm
  rw [nrmF, if_pos h]
  exact h
/-- The first half: a step that is made makes a lesser term. -/
theorem falls_one {g : List Int} {l : List Rl} {t : Tm} (h : (stpV g l t).2.2 = 0) : chkTs g [t, (stpV g l t).1] = 0 ∧ ((stpV g l t).2.1 = true → cmpV g t (stpV g l t).1 = 1) ∧ ((stpV g l t).2.1 = false → eqT (stpV g l t).1 t = true) := by
  unfold stpV at h ⊢
  by_cases h0 : rdyE g l t = 0
  · rw [if_pos h0] at h ⊢
    obtain ⟨k1, k2⟩ := rdy_ok h0
    obtain ⟨s1, s2, s3⟩ := rls_ok k1
    rcases stp_cases s3 k2 h with ⟨h2, h3⟩ | ⟨h2, h3, h4⟩
    · refine ⟨chkTs_of s1 (fun x hx => ?_), fun h => absurd h (by rw [h2]; decide), fun _ => by rw [h3]; exact eqT_refl _⟩
      rw [h3] at hx
      simp at hx
      subst hx
      exact k2
    · have hc : chkTs g [t, (stp l t).1] = 0 := chkTs_of s1 (fun x hx => by
        simp at hx
        rcases hx with rfl | rfl
        · exact k2
        · exact h4)
      refine ⟨hc, fun _ => ?_, fun h => absurd h (by rw [h2]; decide)⟩
      unfold cmpV cmpO
      rw [if_pos hc, if_pos h3]
  · rw [if_neg h0] at h; exact absurd h h0
/-- The second half: what is normal stays. -/
theorem falls_two {g : List Int} {l : List Rl} {t : Tm} (h : (normV g l t).2.2 = 0) : stpV g l (normV g l t).1 = ((normV g l t).1, false, 0) ∧ (decide ((0 : Int) < ((normV g l t).2.1 : Int)) = (stpV g l t).2.1) := by
  unfold normV at h ⊢
  by_cases h0 : rdyE g l t = 0
  · rw [if_pos h0] at h ⊢
    obtain ⟨k1, k2⟩ := rdy_ok h0
    obtain ⟨s1, s2, s3⟩ := rls_ok k1
    obtain ⟨a, b, c, d⟩ := nrm_spec s3 301 0 t k2 h
    have a2 : okT g (nrm l t).1 := a
    have b2 : stp l (nrm l t).1 = ((nrm l t).1, false, 0) := b
    have d2 : 0 < (nrm l t).2.1 ↔ (stp l t).2.1 = true := d
    have h1 : rdyE g l (nrm l t).1 = 0 := by unfold rdyE; rw [if_neg (by simpa using k1)]; exact chkT_ok.2 a2
    unfold stpV
    rw [if_pos h1, if_pos h0]
    refine ⟨b2, ?_⟩
    cases hb : (stp l t).2.1 with
    | true => rw [hb] at d2; exact decide_eq_true (by have := d2.2 rfl; omega)
    | false => rw [hb] at d2; exact decide_eq_false (fun h => by have := d2.1 (by omega); cases this)
  · rw [if_neg h0] at h; exact absurd h h0
end Go.Proofs.Ytcgnpmjkeifokaa
