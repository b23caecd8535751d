/- RewriteFalls: each step makes a lesser term, and what is normal stays as it is: for every input. Part 1: the walks and plain laws that it uses. -/
import Derived.Test.YtcgnpmjkeifokaaProg
import Derived.Below
import Derived.Deep.Draws
import Derived.Deep.AppendLies
import Derived.Maps.AppendAt
import Derived.OwnWalk
import Derived.Laws.BytesArg
import Derived.Laws.MakeOwn
import Derived.Laws.OwnMore
import Derived.Deep.OwnRows
import Derived.Tactics
import Derived.Lib.ConvBytes
import Derived.Laws.Slices
import Derived.WalkKit
import Derived.KernelRfl
import Derived.RowKit3
import Derived.Deep.LoopGhost
import Derived.Deep.QuietTactic
import Derived.BigQuiet
import Derived.WideLaws
import Derived.Deep.DeepCutAuto
import Derived.Deep.CutBlock
import Derived.Deep.RegionHeld3
import Derived.Laws.Rows
import Derived.Lib.AppendStr
import Derived.ArgAppend
import Derived.Laws.IdiomCopy
import Derived.OrdersHeld
import Derived.Laws.BitsLemmas
import Derived.RowKit
import Derived.Test.YtcgnpmjkeifokaaWWords
import Derived.Test.YtcgnpmjkeifokaaWLast
import Derived.Test.YtcgnpmjkeifokaaWTab
import Derived.Test.YtcgnpmjkeifokaaWFour
import Derived.Test.YtcgnpmjkeifokaaWQPut
import Derived.Test.YtcgnpmjkeifokaaWApart
import Derived.Test.YtcgnpmjkeifokaaWArr
import Derived.Test.YtcgnpmjkeifokaaWZeros
import Derived.Test.YtcgnpmjkeifokaaWFoot
import Derived.Test.YtcgnpmjkeifokaaWKept
import Derived.Test.YtcgnpmjkeifokaaWShare
import Derived.Test.YtcgnpmjkeifokaaWN
import Derived.Test.YtcgnpmjkeifokaaWFootNe
import Derived.Test.YtcgnpmjkeifokaaWAt
import Derived.Test.YtcgnpmjkeifokaaWEqStruct
import Derived.Test.YtcgnpmjkeifokaaWRepsOne
import Derived.Test.YtcgnpmjkeifokaaWInv
import Derived.Test.YtcgnpmjkeifokaaWInvWords
import Derived.Test.YtcgnpmjkeifokaaWGuard
import Derived.Test.YtcgnpmjkeifokaaWNEv
import Derived.Test.YtcgnpmjkeifokaaWMore
import Derived.Lib.QuietBelow
import Derived.Shelf.Abstract
import Derived.StillTail
import Derived.Deep.RegionHeld
import Derived.Lib.SliceRun
-- KBase
/- The kinds of values of this program (terms, literals, clauses, bindings) by the print tool's combinators: began as a text printed by the kit's print.sh for this seat. -/
namespace Go.Proofs.Ytcgnpmjkeifokaa
open Go.RowKit Go.Proofs.YtcgnpmjkeifokaaW.PrintWords
set_option linter.unusedVariables false
theorem infoTm : (Try.prog.info? 46).map (fun i => (i.zero, i.size, i.bytes)) = some (some (.agg #[(.int .i64 0), (.int .i64 0), (.slice none 0 0)]), 3, 40) := by kernel_rfl
-- the values' own types
/-! #### struct type 46, nested in itself -/
structure Tm where
  f0 : Int
  f1 : Int
  f2 : (List Tm)
def zTm : Tm := ⟨(0 : Int), (0 : Int), ([] : List Tm)⟩
def FTm (d : Kd Tm) : Kd Tm := Kd.iso (Kd.pair (Kd.int .i64) (Kd.pair (Kd.int .i64) (Kd.slice 46 d))) (fun x : Tm => (x.f0, x.f1, x.f2))
theorem monoTm : Kd.Mono FTm := Kd.mono_iso _ (Kd.mono_pair (Kd.mono_const _) (Kd.mono_pair (Kd.mono_const _) (Kd.mono_slice 46 Kd.mono_id)))
theorem subTm : Kd.Sub FTm [46] := Kd.sub_iso _ (Kd.sub_pair (Kd.sub_const _ (by decide)) (Kd.sub_pair (Kd.sub_const _ (by decide)) (Kd.sub_slice 46 (by decide) Kd.sub_id)))
theorem szTm : ∀ n, (Kd.upto FTm 3 [46] n).sz = 3 := Kd.upto_sz (fun _ => rfl)
def kTm : Kd Tm := Kd.fix FTm 3 [46] szTm (Kd.upto_E subTm)
theorem kTm_heap : Kd.Heap kTm := Kd.heap_fix (fun _ h_ => Kd.heap_iso _ (Kd.heap_pair (Kd.heap_int .i64) (Kd.heap_pair (Kd.heap_int .i64) (Kd.heap_slice 46 h_))))
theorem kTm_open {w : World} {x : Tm} {cs : List Value} (h : kTm.K w x cs) : ∃ A2 c2, cs = [.int .i64 x.f0, .int .i64 x.f1, .slice A2 x.f2.length c2] ∧ x.f2.length ≤ c2 ∧ kTm.C w A2 x.f2.length x.f2 := by
  obtain ⟨n, h⟩ := h
  cases n with
  | zero => exact h.elim
  | succ n =>
    obtain ⟨_, _, rfl, rfl, ⟨_, _, rfl, rfl, ⟨A2, c2, rfl, l2, g2⟩⟩⟩ := h
    exact ⟨A2, c2, rfl, l2, Kd.fix_C g2⟩
theorem kTm_mk (w : World) (x : Tm) {A2 : Option Addr} {c2 : Nat} (l2 : x.f2.length ≤ c2) (g2 : kTm.C w A2 x.f2.length x.f2) : kTm.K w x [.int .i64 x.f0, .int .i64 x.f1, .slice A2 x.f2.length c2] := by
  obtain ⟨n2, q2⟩ := Kd.fix_C_back monoTm g2
  have r2 := Kd.upto_C_le monoTm szTm (show n2 ≤ n2 by omega) q2
  exact ⟨n2 + 1, ⟨[.int .i64 x.f0], [.int .i64 x.f1, .slice A2 x.f2.length c2], rfl, rfl, ⟨[.int .i64 x.f1], [.slice A2 x.f2.length c2], rfl, rfl, ⟨A2, c2, rfl, l2, r2⟩⟩⟩⟩
theorem kTm_openF {W : World} {ok : Nat → Prop} {x : Tm} {cs : List Value} (h : Kd.FK kTm W ok x cs) : ∃ A2 c2, cs = [.int .i64 x.f0, .int .i64 x.f1, .slice A2 x.f2.length c2] ∧ x.f2.length ≤ c2 ∧ Kd.F kTm W ok A2 x.f2.length x.f2 := by
  obtain ⟨A2, c2, rfl, l2, _⟩ := kTm_open (Kd.FK_now h)
  exact ⟨A2, c2, rfl, l2, (fun W' hW => by obtain ⟨A2_, c2_, he, l2_, g2_⟩ := kTm_open (h W' hW); injection (Option.some.inj (show some (Value.slice A2 x.f2.length c2) = some (Value.slice A2_ x.f2.length c2_) from congrArg (fun l => l[2]?) he)) with ha_ _ _; rw [ha_]; exact g2_)⟩
theorem kTm_mkF (W : World) (ok : Nat → Prop) (x : Tm) {A2 : Option Addr} {c2 : Nat} (l2 : x.f2.length ≤ c2) (g2 : Kd.F kTm W ok A2 x.f2.length x.f2) : Kd.FK kTm W ok x [.int .i64 x.f0, .int .i64 x.f1, .slice A2 x.f2.length c2] := fun W2 hW => kTm_mk W2 x l2 (g2 W2 hW)
def rd_Tm (xs : List Tm) (i : Int) : Tm := xs.getD i.toNat zTm
theorem at_Tm {w : World} {A : Option Addr} {n : Nat} {xs : List Tm} (h : Kd.C kTm w A n xs) (i : Int) (h0 : 0 ≤ i) (h1 : i < n) : ∃ ad A2 c2, A = some ad ∧ w.cell? (ad.add (i.toNat * 3)) = some (.int .i64 (rd_Tm xs i).f0) ∧ w.cell? ⟨(ad.add (i.toNat * 3)).block, (ad.add (i.toNat * 3)).off + 1, none⟩ = some (.int .i64 (rd_Tm xs i).f1) ∧ w.cell? ⟨(ad.add (i.toNat * 3)).block, (ad.add (i.toNat * 3)).off + 2, none⟩ = some (.slice A2 (rd_Tm xs i).f2.length c2) ∧ (rd_Tm xs i).f2.length ≤ c2 ∧ kTm.C w A2 (rd_Tm xs i).f2.length (rd_Tm xs i).f2 := by
  obtain ⟨ad, c, e, _, hK, hc0⟩ := Kd.C_get h zTm i h0 h1
  have hc : ∀ j u, c[j]? = some u → w.cell? (ad.add (i.toNat * 3 + j)) = some u := hc0
  obtain ⟨A2, c2, rfl, l2, g2⟩ := kTm_open hK
  exact ⟨ad, A2, c2, e, hc 0 _ rfl, by rw [← add_field _ _ 1 (by omega)]; exact hc 1 _ rfl, by rw [← add_field _ _ 2 (by omega)]; exact hc 2 _ rfl, l2, g2⟩
/-! #### struct type 84 -/
structure Li where
  f0 : Bool
  f1 : Tm
  f2 : Tm
def zLi : Li := ⟨false, zTm, zTm⟩
def kLi : Kd Li := Kd.iso (Kd.pair Kd.bool (Kd.pair kTm kTm)) (fun x : Li => (x.f0, x.f1, x.f2))
theorem kLi_mk (w : World) (x : Li) {A3 : Option Addr} {c3 : Nat} (l3 : x.f1.f2.length ≤ c3) (g3 : kTm.C w A3 x.f1.f2.length x.f1.f2) {A6 : Option Addr} {c6 : Nat} (l6 : x.f2.f2.length ≤ c6) (g6 : kTm.C w A6 x.f2.f2.length x.f2.f2) : kLi.K w x [.bool x.f0, .int .i64 x.f1.f0, .int .i64 x.f1.f1, .slice A3 x.f1.f2.length c3, .int .i64 x.f2.f0, .int .i64 x.f2.f1, .slice A6 x.f2.f2.length c6] := ⟨[.bool x.f0], [.int .i64 x.f1.f0, .int .i64 x.f1.f1, .slice A3 x.f1.f2.length c3, .int .i64 x.f2.f0, .int .i64 x.f2.f1, .slice A6 x.f2.f2.length c6], rfl, rfl, ⟨[.int .i64 x.f1.f0, .int .i64 x.f1.f1, .slice A3 x.f1.f2.length c3], [.int .i64 x.f2.f0, .int .i64 x.f2.f1, .slice A6 x.f2.f2.length c6], rfl, (kTm_mk w x.f1 l3 g3), (kTm_mk w x.f2 l6 g6)⟩⟩
theorem kLi_mkF (W : World) (ok : Nat → Prop) (x : Li) {A3 : Option Addr} {c3 : Nat} (l3 : x.f1.f2.length ≤ c3) (g3 : Kd.F kTm W ok A3 x.f1.f2.length x.f1.f2) {A6 : Option Addr} {c6 : Nat} (l6 : x.f2.f2.length ≤ c6) (g6 : Kd.F kTm W ok A6 x.f2.f2.length x.f2.f2) : Kd.FK kLi W ok x [.bool x.f0, .int .i64 x.f1.f0, .int .i64 x.f1.f1, .slice A3 x.f1.f2.length c3, .int .i64 x.f2.f0, .int .i64 x.f2.f1, .slice A6 x.f2.f2.length c6] := fun W2 hW => kLi_mk W2 x l3 (g3 W2 hW) l6 (g6 W2 hW)
def rd_Li (xs : List Li) (i : Int) : Li := xs.getD i.toNat zLi
def rd_Cl (xs : List (List Li)) (i : Int) : (List Li) := xs.getD i.toNat ([] : List Li)
/-! #### struct type 89 -/
structure Bd where
  f0 : Int
  f1 : Tm
def zBd : Bd := ⟨(0 : Int), zTm⟩
def kBd : Kd Bd := Kd.iso (Kd.pair (Kd.int .i64) kTm) (fun x : Bd => (x.f0, x.f1))
def rd_Bd (xs : List Bd) (i : Int) : Bd := xs.getD i.toNat zBd
end Go.Proofs.Ytcgnpmjkeifokaa
-- KPure
/- Plain definitions: sizes, forms, equality, parts and variables of terms; no program in sight. -/
namespace Go.Proofs.Ytcgnpmjkeifokaa
open Go.RowKit Go.Proofs.YtcgnpmjkeifokaaW.PrintWords
set_option linter.unusedVariables false
theorem Tm.ind {Q : Tm → Prop} (h : ∀ v f l, (∀ x ∈ l, Q x) → Q ⟨v, f, l⟩) : ∀ t, Q t := by
  intro t
  refine Tm.rec (motive_1 := Q) (motive_2 := fun l => ∀ x ∈ l, Q x) (fun v f l hl => h v f l hl) (fun x hx => by cases hx) (fun a l ha hl x hx => ?_) t
  cases hx with
  | head => exact ha
  | tail _ hx => exact hl x hx
theorem rd_mem (l : List Tm) (i : Nat) (h : i < l.length) : rd_Tm l i ∈ l := by
  unfold rd_Tm; simp [List.getD_eq_getElem?_getD, h]
theorem rd_get (l : List Tm) (i : Nat) (h : i < l.length) : rd_Tm l i = l[i] := by
  unfold rd_Tm; simp [List.getD_eq_getElem?_getD, h]
/-! ### sizes -/
mutual
def szT : Tm → Nat
  | ⟨_, _, l⟩ => 1 + szL l
def szL : List Tm → Nat
  | [] => 0
  | t :: ts => szT t + szL ts
end
theorem szT_eq (t : Tm) : szT t = 1 + szL t.f2 := by cases t; rw [szT]
theorem szL_append (a b : List Tm) : szL (a ++ b) = szL a + szL b := by
  induction a with
  | nil => simp [szL]
  | cons t ts ih => simp only [List.cons_append, szL, ih]; omega
theorem szL_take_succ (l : List Tm) (i : Nat) (h : i < l.length) : szL (l.take (i+1)) = szL (l.take i) + szT (rd_Tm l i) := by
  rw [List.take_succ_eq_append_getElem h, szL_append, rd_get l i h]; simp [szL]
theorem szL_take_le (l : List Tm) (i : Nat) : szL (l.take i) ≤ szL l := by
  have := szL_append (l.take i) (l.drop i); rw [List.take_append_drop] at this; omega
theorem szT_mem {l : List Tm} {t : Tm} (h : t ∈ l) : szT t ≤ szL l := by
  induction l with
  | nil => cases h
  | cons a l ih => cases h with
    | head => simp [szL]
    | tail _ h => have := ih h; simp [szL]; omega
theorem szL_len (l : List Tm) : l.length ≤ szL l := by
  induction l with
  | nil => simp
  | cons a l ih => simp only [List.length_cons, szL]; have := szT_eq a; omega
theorem szT_pos (t : Tm) : 1 ≤ szT t := by rw [szT_eq]; omega
/-! ### equality as a Bool -/
mutual
def eqT : Tm → Tm → Bool
  | ⟨v, f, l⟩, ⟨v', f', l'⟩ => v == v' && f == f' && eqL l l'
def eqL : List Tm → List Tm → Bool
  | [], [] => true
  | a :: l, b :: l' => eqT a b && eqL l l'
  | _, _ => false
end
theorem eqT_eq (a b : Tm) : eqT a b = (a.f0 == b.f0 && a.f1 == b.f1 && eqL a.f2 b.f2) := by cases a; cases b; rw [eqT]
theorem eqT_iff (a : Tm) : ∀ b, eqT a b = true ↔ a = b := by
  refine Tm.rec (motive_1 := fun a => ∀ b, eqT a b = true ↔ a = b) (motive_2 := fun l => ∀ l', eqL l l' = true ↔ l = l') ?_ ?_ ?_ a
  · intro v f l ih b
    obtain ⟨v', f', l'⟩ := b
    rw [eqT]
    simp only [Bool.and_eq_true, beq_iff_eq, ih l', Tm.mk.injEq, and_assoc]
  · intro l'
    cases l' <;> simp [eqL]
  · intro t ts iht ihs l'
    cases l' with
    | nil => simp [eqL]
    | cons b l' => simp only [eqL, Bool.and_eq_true, iht b, ihs l', List.cons.injEq]
theorem eqL_iff : ∀ l l' : List Tm, eqL l l' = true ↔ l = l'
  | [], [] => by simp [eqL]
  | [], _ :: _ => by simp [eqL]
  | _ :: _, [] => by simp [eqL]
  | a :: l, b :: l' => by simp only [eqL, Bool.and_eq_true, eqT_iff, eqL_iff l l', List.cons.injEq]
theorem eqT_refl (a : Tm) : eqT a a = true := (eqT_iff a a).2 rfl
theorem eqT_comm (a b : Tm) : eqT a b = eqT b a := by
  rw [Bool.eq_iff_iff, eqT_iff, eqT_iff]; exact eq_comm
theorem eqL_len {l l' : List Tm} (h : l.length ≠ l'.length) : eqL l l' = false := by
  rw [Bool.eq_false_iff]; intro h2; rw [eqL_iff] at h2; exact h (by rw [h2])
/-! ### forms -/
def badAr (n : Int) : Bool := decide (n < 0 ∨ 3 < n)
def sigE (g : List Int) : Int := if 12 < g.length then 2 else if g.any badAr then 3 else 0
theorem badAr_t {n : Int} (h : n < 0 ∨ 3 < n) : badAr n = true := decide_eq_true h
theorem badAr_f {n : Int} (h : ¬ (n < 0 ∨ 3 < n)) : badAr n = false := decide_eq_false h
/-- What is wrong with one part, its arguments looked at. -/
def partE (g : List Int) (t : Tm) : Int :=
  if t.f0 ≠ 0 then (if 1 ≤ t.f0 ∧ t.f0 ≤ 1000 then (if t.f2.length = 0 ∧ t.f1 = 0 then 0 else 1) else 3)
  else if 0 ≤ t.f1 ∧ t.f1 < g.length then (if (t.f2.length : Int) = g.getD t.f1.toNat 0 then 0 else 1) else 5
mutual
def formE (g : List Int) : Tm → Int
  | ⟨v, f, l⟩ => if formEL g l ≠ 0 then formEL g l else partE g ⟨v, f, l⟩
def formEL (g : List Int) : List Tm → Int
  | [] => 0
  | t :: ts => if formE g t ≠ 0 then formE g t else formEL g ts
end
theorem formE_eq (g : List Int) (t : Tm) : formE g t = if formEL g t.f2 ≠ 0 then formEL g t.f2 else partE g t := by cases t; rw [formE]
theorem formEL_append (g : List Int) (a b : List Tm) : formEL g (a ++ b) = if formEL g a ≠ 0 then formEL g a else formEL g b := by
  induction a with
  | nil => simp [formEL]
  | cons t ts ih =>
    simp only [List.cons_append, formEL, ih]
    by_cases h : formE g t = 0 <;> simp [h]
theorem formEL_take_succ (g : List Int) (l : List Tm) (i : Nat) (h : i < l.length) (h0 : formEL g (l.take i) = 0) : formEL g (l.take (i+1)) = formE g (rd_Tm l i) := by
  rw [List.take_succ_eq_append_getElem h, formEL_append, h0, rd_get l i h]
  simp only [formEL, ne_eq, not_true_eq_false, if_false]
  by_cases h2 : formE g l[i] = 0 <;> simp [h2]
theorem formEL_bad (g : List Int) (l : List Tm) (i : Nat) (h : formEL g (l.take i) ≠ 0) : formEL g l = formEL g (l.take i) := by
  have := formEL_append g (l.take i) (l.drop i)
  rw [List.take_append_drop, if_pos h] at this; exact this
theorem formEL_mem {g : List Int} {l : List Tm} (h : formEL g l = 0) : ∀ x ∈ l, formE g x = 0 := by
  induction l with
  | nil => intro x hx; cases hx
  | cons t ts ih =>
    rw [formEL] at h
    by_cases h2 : formE g t = 0
    · simp only [h2, ne_eq, not_true_eq_false, if_false] at h
      intro x hx; cases hx with
      | head => exact h2
      | tail _ hx => exact ih h x hx
    · simp only [ne_eq, h2, not_false_eq_true, if_true] at h
theorem formEL_of {g : List Int} {l : List Tm} (h : ∀ x ∈ l, formE g x = 0) : formEL g l = 0 := by
  induction l with
  | nil => rfl
  | cons t ts ih => rw [formEL, h t (by simp), ih (fun x hx => h x (by simp [hx]))]; simp
def chkT (g : List Int) (t : Tm) : Int := if 120 < szT t then 2 else formE g t
/-- A term that is right. -/
def okT (g : List Int) (t : Tm) : Prop := szT t ≤ 120 ∧ formE g t = 0
theorem chkT_ok {g : List Int} {t : Tm} : chkT g t = 0 ↔ okT g t := by
  unfold chkT okT
  by_cases h : 120 < szT t
  · simp [h]; omega
  · simp only [h, if_false]; omega
/-! ### parts, behind those that stand in them -/
mutual
def ptsT : Tm → List Tm
  | ⟨v, f, l⟩ => ptsL l ++ [⟨v, f, l⟩]
def ptsL : List Tm → List Tm
  | [] => []
  | t :: ts => ptsT t ++ ptsL ts
end
theorem ptsT_eq (t : Tm) : ptsT t = ptsL t.f2 ++ [t] := by cases t; rw [ptsT]
/-- The first part that is wrong, told part by part. -/
def firstE (g : List Int) : List Tm → Int
  | [] => 0
  | t :: ts => if partE g t ≠ 0 then partE g t else firstE g ts
/-! ### small -/
theorem newAt {w : World} {o : Obj} {k : Nat} (h : k = w.heap.size) : (w.alloc o).heap[k]? = some o := by subst h; exact heap_alloc_new w o
theorem bneF {a b : Int} (h : a = b) : (a != b) = false := by rw [h]; simp
theorem bneT {a b : Int} (h : a ≠ b) : (a != b) = true := by simpa using h
theorem at_Int {w : World} {A : Option Addr} {n : Nat} {xs : List Int} (h : Kd.C (Kd.int .i64) w A n xs) (i : Int) (h0 : 0 ≤ i) (h1 : i < n) : ∃ ad, A = some ad ∧ w.cell? (ad.add i.toNat) = some (.int .i64 (xs.getD i.toNat 0)) := by
  obtain ⟨ad, c, e, _, hK, hc⟩ := Kd.C_get h 0 i h0 h1
  have hK' : c = [.int .i64 (xs.getD i.toNat 0)] := hK
  have := hc 0 _ (by rw [hK']; rfl)
  refine ⟨ad, e, ?_⟩
  have e1 : i.toNat * (Kd.int IntKind.i64).sz + 0 = i.toNat := by show i.toNat * 1 + 0 = _; omega
  rwa [e1] at this
theorem oldc {w w' : World} (hb : Below w.heap.size w w') {a : Addr} {v : Value} (h : w.cell? a = some v) : w'.cell? a = some v := (hb.cell (World.block_lt_of_cell? w _ h)).trans h
theorem ret_int {k : IntKind} {a b : Int} (h : a = b) : Ending.returned (.int k a) = .returned (.int k b) := by rw [h]
theorem ret_bool {a b : Bool} (h : a = b) : Ending.returned (.bool a) = .returned (.bool b) := by rw [h]
theorem hbA {w w1 w2 : World} (h : Below w.heap.size w w1) (o : Obj) (k : Below (w1.alloc o).heap.size (w1.alloc o) w2) : Below w.heap.size w w2 := below_then (below_alloc h o) (by have := h.size; simp; omega) k
theorem hbT {w w1 w2 : World} (h : Below w.heap.size w w1) (k : Below w1.heap.size w1 w2) : Below w.heap.size w w2 := below_then h h.size k
theorem gbT {w w1 w2 : World} {r r1 : Option Nat} (h : w.grownBy w1 r) (k : w1.grownBy w2 r1) (hr : r1 = r ∨ ∃ b, r1 = some b ∧ w.heap.size ≤ b) : w.grownBy w2 r :=
  ⟨k.os.trans h.os, k.tape.trans h.tape, k.output.trans h.output, Nat.le_trans h.size k.size, fun i hi hn => (k.block i (Nat.lt_of_lt_of_le hi h.size) (by
    rcases hr with rfl | ⟨b, rfl, hb⟩
    · exact hn
    · intro e; injection e with e; omega)).trans (h.block i hi hn)⟩
theorem gbB {w w1 : World} {r : Option Nat} (h : w.grownBy w1 r) (hr : r = none ∨ ∃ b, r = some b ∧ w.heap.size ≤ b) : Below w.heap.size w w1 :=
  ⟨h.os, h.tape, h.output, h.size, fun i hi => h.block i hi (by
    rcases hr with rfl | ⟨b, rfl, hb⟩
    · simp
    · intro e; injection e with e; omega)⟩
theorem gbOf {w w1 : World} (h : Below w.heap.size w w1) (r : Option Nat) : w.grownBy w1 r := grown_of_below h r
/-- An element of a row that is read, with what it leads to. -/
theorem at_TmF {w : World} {ok : Nat → Prop} {A : Option Addr} {n : Nat} {xs : List Tm} (h : Kd.F kTm w ok A n xs) (i : Int) (h0 : 0 ≤ i) (h1 : i < n) : ∃ ad A2 c2, A = some ad ∧ w.cell? (ad.add (i.toNat * 3)) = some (.int .i64 (rd_Tm xs i).f0) ∧ w.cell? ⟨(ad.add (i.toNat * 3)).block, (ad.add (i.toNat * 3)).off + 1, none⟩ = some (.int .i64 (rd_Tm xs i).f1) ∧ w.cell? ⟨(ad.add (i.toNat * 3)).block, (ad.add (i.toNat * 3)).off + 2, none⟩ = some (.slice A2 (rd_Tm xs i).f2.length c2) ∧ (rd_Tm xs i).f2.length ≤ c2 ∧ Kd.F kTm w ok A2 (rd_Tm xs i).f2.length (rd_Tm xs i).f2 ∧ ok ad.block := by
  obtain ⟨ad, c, e, _, hK, hc0, hin⟩ := Kd.F_get h zTm i h0 h1
  have hc : ∀ j u, c[j]? = some u → w.cell? (ad.add (i.toNat * 3 + j)) = some u := hc0
  obtain ⟨A2, c2, rfl, l2, g2⟩ := kTm_openF hK
  exact ⟨ad, A2, c2, e, hc 0 _ rfl, by rw [← add_field _ _ 1 (by omega)]; exact hc 1 _ rfl, by rw [← add_field _ _ 2 (by omega)]; exact hc 2 _ rfl, l2, g2, hin (by decide)⟩
end Go.Proofs.Ytcgnpmjkeifokaa
-- K1
/- The walks of what counts and checks a term: term.Count, superposeref.SizeOf. -/
namespace Go.Proofs.Ytcgnpmjkeifokaa
open Go.RowKit Go.Proofs.YtcgnpmjkeifokaaW.PrintWords
set_option linter.unusedVariables false
set_option linter.unusedSimpArgs false
theorem cnt_step (m x s k : Int) (h0 : 0 ≤ m) (h1 : min (1 + s) (m + 1) ≤ m) : min (1 + s) (m + 1) + min x (m - min (1 + s) (m + 1) + 1) = min (1 + (s + x)) (m + 1) := by omega
set_option maxHeartbeats 4000000 in
set_option maxRecDepth 100000 in
theorem count_any (m : Nat) : ∀ (t : Tm) (A : Option Addr) (c : Nat) (w : World) (most : Int), szT t ≤ m → kTm.C w A t.f2.length t.f2 → 0 ≤ most → most ≤ 1000 →
    Calls Try.prog 87 #[.agg #[.int .i64 t.f0, .int .i64 t.f1, .slice A t.f2.length c], .int .i64 most] w fun e w' => e = .returned (.int .i64 (min (szT t : Int) (most + 1))) ∧ Below w.heap.size w w' := by
  induction m with
  | zero => intro t A c w most h; have := szT_pos t; omega
  | succ m ih =>
  intro t A c w most hm hC h0 h1
  have hlen := hC.2.1
  have IH := Aside0.mk ih
  have HC := Aside0.mk hC
  have HS := Aside0.mk (szT_eq t)
  have HM := Aside0.mk hm
  clear hm hC ih
  go_enter Try.func87, Try.ntmps87
  go_wp2
  go_loopw [5, 11] (fun v i wr => ∃ k : Nat, k ≤ t.f2.length ∧ i = .int .i64 k ∧ v = .int .i64 (min (1 + szL (t.f2.take k) : Int) (most + 1)) ∧ Below w.heap.size w wr) (fun _ i _ => t.f2.length - (intOf i).toNat)
  case atStart => exact ⟨0, by omega, rfl, by simp [szL]; omega, by exact (Below.refl _ _).alloc (Nat.le_refl _) _⟩
  case round =>
    obtain ⟨k, hk, rfl, rfl, hb⟩ := hrel
    by_cases hlt : k < t.f2.length
    · obtain ⟨ad, A2, c2, rfl, e0, e1, e2, hl2, hC2⟩ := at_Tm HC.out (k : Int) (by omega) (by omega)
      simp only [Int.toNat_natCast] at e0 e1 e2
      have E0 := oldc hb e0
      have E1 := oldc hb e1
      have E2 := oldc hb e2
      have HK := Aside0.mk (szL_take_succ t.f2 k hlt)
      have HT := Aside0.mk (szT_mem (rd_mem t.f2 k hlt))
      have HL := Aside0.mk (szL_take_le t.f2 (k+1))
      have HC2 := Aside0.mk hC2
      clear e0 e1 e2 hC2
      go_wp2_with (go_at_call 87; refine (IH.out (rd_Tm t.f2 k) A2 c2 _ _ ?_ ?_ ?_ ?_).mono ?_; (have := HS.out; have := HM.out; have := HT.out; omega); exact Kd.C_below HC2.out (below_alloc hb _); omega; omega; rintro e w2 ⟨rfl, hb2⟩)
      · go_ret
        refine ⟨ret_int ?_, below_alloc hb _⟩
        have h3 := HS.out; have h4 := szL_take_le t.f2 k
        omega
      · go_roundw
        case rel =>
          refine ⟨k + 1, by omega, by go_num, ?_, hbA hb _ hb2⟩
          have h3 := HK.out
          rw [h3, cnt_step most _ _ k h0 (by assumption)]; rfl
        case measure => simp [intOf]; omega
    · obtain rfl : k = t.f2.length := by omega
      go_wp2
      go_ret
      refine ⟨ret_int ?_, hb⟩
      rw [List.take_length]; have h3 := HS.out; omega
end Go.Proofs.Ytcgnpmjkeifokaa
-- K2
/- The walks of what checks a term: term.form, superposeref.between, PartsOf, CheckTerm, CheckSignature, term.Signature, term.Own. -/
namespace Go.Proofs.Ytcgnpmjkeifokaa
open Go.RowKit Go.Proofs.YtcgnpmjkeifokaaW.PrintWords
set_option linter.unusedVariables false
set_option linter.unusedSimpArgs false
set_option maxHeartbeats 4000000 in
set_option maxRecDepth 100000 in
theorem form_any (m : Nat) : ∀ (g : List Int) (Ag : Option Addr) (cg : Nat) (t : Tm) (A : Option Addr) (c : Nat) (w : World), szT t ≤ m → Kd.C (Kd.int .i64) w Ag g.length g → kTm.C w A t.f2.length t.f2 →
    Calls Try.prog 109 #[.agg #[.slice Ag g.length cg], .agg #[.int .i64 t.f0, .int .i64 t.f1, .slice A t.f2.length c]] w fun e w' => e = .returned (.int .i64 (formE g t)) ∧ Below w.heap.size w w' := by
  induction m with
  | zero => intro g Ag cg t A c w h; have := szT_pos t; omega
  | succ m ih =>
  intro g Ag cg t A c w hm hG hC
  have hlen := hC.2.1
  have hglen := hG.2.1
  have IH := Aside0.mk ih
  have HC := Aside0.mk hC
  have HG := Aside0.mk hG
  have HS := Aside0.mk (szT_eq t)
  have HM := Aside0.mk hm
  have HE := Aside0.mk (formE_eq g t)
  clear hm hC ih hG
  go_enter Try.func109, Try.ntmps109
  go_wp2
  go_loopw [11] (fun i wr => ∃ k : Nat, k ≤ t.f2.length ∧ i = .int .i64 k ∧ Aside0 (formEL g (t.f2.take k) = 0) ∧ Below w.heap.size w wr ∧ wr.heap[w.heap.size]? = some (.cells #[.slice Ag g.length cg] 24 (0, 0)) ∧ wr.heap[w.heap.size + 1]? = some (.cells #[.int .i64 t.f0, .int .i64 t.f1, .slice A t.f2.length c] 46 (0, 0))) (fun i _ => t.f2.length - (intOf i).toNat)
  case atStart => exact ⟨0, by omega, rfl, ⟨rfl⟩, by exact below_alloc (below_alloc (Below.refl _ _) _) _, by refine blk_alloc ?_ _; exact heap_alloc_new _ _, newAt (by simp)⟩
  case round =>
    obtain ⟨k, hk, rfl, h0, hb, hg, hg2⟩ := hrel
    have l0 := blk_lt hg
    have l1 := blk_lt hg2
    have q0 := (blk_cell hg 0).trans rfl
    have p0 := (blk_cell hg2 0).trans rfl
    have p1 := (blk_cell hg2 1).trans rfl
    have p2 := (blk_cell hg2 2).trans rfl
    by_cases hlt : k < t.f2.length
    · obtain ⟨ad, A2, c2, rfl, e0, e1, e2, hl2, hC2⟩ := at_Tm HC.out (k : Int) (by omega) (by omega)
      simp only [Int.toNat_natCast] at e0 e1 e2
      have E0 := oldc hb e0
      have E1 := oldc hb e1
      have E2 := oldc hb e2
      have HT := Aside0.mk (szT_mem (rd_mem t.f2 k hlt))
      have HC2 := Aside0.mk hC2
      have HH := Aside0.mk (formEL_take_succ g t.f2 k hlt h0.out)
      have HB2 := Aside0.mk (formEL_bad g t.f2 (k+1))
      have HG1 := Aside0.mk hg
      have HG2 := Aside0.mk hg2
      clear e0 e1 e2 hC2 hg hg2
      by_cases hz : formE g (rd_Tm t.f2 k) = 0
      · have hz1 : (formE g (rd_Tm t.f2 k) != 0) = false := by simp [hz]
        have HZ := Aside0.mk hz
        clear hz
        go_wp2_with (go_at_call 109; refine (IH.out g Ag cg (rd_Tm t.f2 k) A2 c2 _ ?_ ?_ ?_).mono ?_; (have := HS.out; have := HM.out; have := HT.out; omega); exact Kd.C_below HG.out (below_alloc hb _); exact Kd.C_below HC2.out (below_alloc hb _); rintro e w2 ⟨rfl, hb2⟩)
        go_roundw
        case rel =>
          refine ⟨k + 1, by omega, by go_num, ⟨HH.out.trans HZ.out⟩, hbA hb _ hb2, (hb2.block _ (by have := blk_lt HG1.out; simp; omega)).trans (blk_alloc HG1.out _), (hb2.block _ (by have := blk_lt HG2.out; simp; omega)).trans (blk_alloc HG2.out _)⟩
        case measure => simp [intOf]; omega
      · have hz1 : (formE g (rd_Tm t.f2 k) != 0) = true := by simp [hz]
        have HZ := Aside0.mk hz
        clear hz
        go_wp2_with (go_at_call 109; refine (IH.out g Ag cg (rd_Tm t.f2 k) A2 c2 _ ?_ ?_ ?_).mono ?_; (have := HS.out; have := HM.out; have := HT.out; omega); exact Kd.C_below HG.out (below_alloc hb _); exact Kd.C_below HC2.out (below_alloc hb _); rintro e w2 ⟨rfl, hb2⟩)
        go_ret
        refine ⟨ret_int ?_, hbA hb _ hb2⟩
        have h3 := HB2.out (by rw [HH.out]; exact HZ.out)
        rw [HE.out, if_pos (by rw [h3, HH.out]; exact HZ.out), h3, HH.out]
    · obtain rfl : k = t.f2.length := by omega
      have HE2 := Aside0.mk (show formE g t = partE g t by rw [HE.out, if_neg (by have := h0.out; rw [List.take_length] at this; simp [this])])
      clear HE h0
      by_cases hv : t.f0 = 0
      · have hv1 : (t.f0 != 0) = false := by simp [hv]
        by_cases hf : 0 ≤ t.f1 ∧ t.f1 < g.length
        · obtain ⟨hf0, hf1⟩ := hf
          obtain ⟨ag, rfl, ea⟩ := at_Int HG.out t.f1 hf0 hf1
          have EA := oldc hb ea
          have hn : t.f1.toNat < g.length := by omega
          by_cases hq : (t.f2.length : Int) = g.getD t.f1.toNat 0
          · have hq1 : ((t.f2.length : Int) != g.getD t.f1.toNat 0) = false := bneF hq
            have HF := Aside0.mk (show formE g t = 0 by rw [HE2.out]; unfold partE; rw [if_neg (by simp [hv]), if_pos ⟨hf0, hf1⟩, if_pos hq])
            clear ea hq hv
            generalize g.getD t.f1.toNat 0 = x at *
            go_wp2
            go_quiet (fail)
            go_wp2
            go_ret
            exact ⟨ret_int HF.out.symm, pw_below_drewN hb _⟩
          · have hq1 : ((t.f2.length : Int) != g.getD t.f1.toNat 0) = true := bneT hq
            have HF := Aside0.mk (show formE g t = 1 by rw [HE2.out]; unfold partE; rw [if_neg (by simp [hv]), if_pos ⟨hf0, hf1⟩, if_neg hq])
            clear ea hq hv
            generalize g.getD t.f1.toNat 0 = x at *
            go_wp2
            go_quiet (fail)
            go_wp2
            go_ret
            exact ⟨ret_int HF.out.symm, pw_below_drewN hb _⟩
        · have HF := Aside0.mk (show formE g t = 5 by rw [HE2.out]; unfold partE; rw [if_neg (by simp [hv]), if_neg hf])
          clear hv
          by_cases hf0 : t.f1 < 0
          · go_wp2
            go_ret
            exact ⟨ret_int HF.out.symm, hb⟩
          · have hf1 : (g.length : Int) ≤ t.f1 := by omega
            clear hf
            go_wp2
            go_ret
            exact ⟨ret_int HF.out.symm, hb⟩
      · have hv1 : (t.f0 != 0) = true := by simp [hv]
        by_cases hr : t.f0 < 1
        · have HF := Aside0.mk (show formE g t = 3 by rw [HE2.out]; unfold partE; rw [if_pos hv, if_neg (by omega)])
          clear hv
          go_wp2
          go_ret
          exact ⟨ret_int HF.out.symm, hb⟩
        · by_cases hr2 : 1000 < t.f0
          · have HF := Aside0.mk (show formE g t = 3 by rw [HE2.out]; unfold partE; rw [if_pos hv, if_neg (by omega)])
            clear hv
            go_wp2
            go_ret
            exact ⟨ret_int HF.out.symm, hb⟩
          · by_cases hl : 0 < t.f2.length
            · have HF := Aside0.mk (show formE g t = 1 by rw [HE2.out]; unfold partE; rw [if_pos hv, if_pos (by omega), if_neg (by omega)])
              clear hv
              go_wp2
              go_ret
              exact ⟨ret_int HF.out.symm, hb⟩
            · by_cases hf : t.f1 = 0
              · have hf1 : (t.f1 != 0) = false := by simp [hf]
                have HF := Aside0.mk (show formE g t = 0 by rw [HE2.out]; unfold partE; rw [if_pos hv, if_pos (by omega), if_pos (by omega)])
                clear hv hf
                go_wp2
                go_ret
                exact ⟨ret_int HF.out.symm, hb⟩
              · have hf1 : (t.f1 != 0) = true := by simp [hf]
                have HF := Aside0.mk (show formE g t = 1 by rw [HE2.out]; unfold partE; rw [if_pos hv, if_pos (by omega), if_neg (by omega)])
                clear hv hf
                go_wp2
                go_ret
                exact ⟨ret_int HF.out.symm, hb⟩
def btw (n a b : Int) : Bool := decide (a ≤ n ∧ n ≤ b)
set_option maxHeartbeats 4000000 in
set_option maxRecDepth 100000 in
theorem own_any (g : List Int) (Ag : Option Addr) (cg : Nat) (t : Tm) (A : Option Addr) (c : Nat) (w : World) (hG : Kd.C (Kd.int .i64) w Ag g.length g) (hC : kTm.C w A t.f2.length t.f2) :
    Calls Try.prog 74 #[.agg #[.slice Ag g.length cg], .agg #[.int .i64 t.f0, .int .i64 t.f1, .slice A t.f2.length c]] w fun e w' => e = .returned (.int .i64 (chkT g t)) ∧ Below w.heap.size w w' := by
  have HC := Aside0.mk hC
  have HG := Aside0.mk hG
  clear hC hG
  by_cases h : 120 < szT t
  · have H := Aside0.mk (show chkT g t = 2 by unfold chkT; rw [if_pos h])
    go_enter Try.func74, Try.ntmps74
    go_wp2_with (go_at_call 87; refine (count_any _ t A c _ 120 (Nat.le_refl _) ?_ ?_ ?_).mono ?_; exact Kd.C_below HC.out (below_alloc (below_alloc (Below.refl _ _) _) _); omega; omega; rintro e w2 ⟨rfl, hb2⟩)
    go_ret
    exact ⟨ret_int H.out.symm, below_then (below_alloc (below_alloc (Below.refl _ _) _) _) (by simp; omega) hb2⟩
  · have H := Aside0.mk (show chkT g t = formE g t by unfold chkT; rw [if_neg h])
    go_enter Try.func74, Try.ntmps74
    go_wp2_with (fail)
    refine (count_any _ t A c _ 120 (Nat.le_refl _) (Kd.C_below HC.out (below_alloc (below_alloc (Below.refl _ _) _) _)) (by omega) (by omega)).mono ?_
    rintro e w2 ⟨rfl, hb2⟩
    have hb0 : Below w.heap.size w w2 := below_then (below_alloc (below_alloc (Below.refl _ _) _) _) (by simp; omega) hb2
    have g0 := (hb2.block w.heap.size (by simp; omega)).trans (blk_alloc (heap_alloc_new w (.cells #[.slice Ag g.length cg] 24)) _)
    have g1 := (hb2.block (w.heap.size + 1) (by simp)).trans (newAt (by simp))
    have q0 := (blk_cell g0 0).trans rfl
    have p0 := (blk_cell g1 0).trans rfl
    have p1 := (blk_cell g1 1).trans rfl
    have p2 := (blk_cell g1 2).trans rfl
    have HB := Aside0.mk hb0
    clear hb2 hb0 g0 g1
    go_wp2_with (fail)
    refine (form_any _ g Ag cg t A c _ (Nat.le_refl _) (Kd.C_below HG.out HB.out) (Kd.C_below HC.out HB.out)).mono ?_
    rintro e w3 ⟨rfl, hb3⟩
    go_wp2
    go_ret
    exact ⟨ret_int H.out.symm, hbT HB.out hb3⟩
end Go.Proofs.Ytcgnpmjkeifokaa
-- K3
/- superposeref.PartsOf, CheckTerm, CheckSignature, CheckTerms. -/
namespace Go.Proofs.Ytcgnpmjkeifokaa
open Go.RowKit Go.Proofs.YtcgnpmjkeifokaaW.PrintWords
set_option linter.unusedVariables false
set_option linter.unusedSimpArgs false
/-- Where a row that is appended to lies: where it lay, or in a block that is new. -/
def InOrNew (w : World) (v v1 : Value) : Prop := v1.ownBlock = v.ownBlock ∨ ∃ b, v1.ownBlock = some b ∧ w.heap.size ≤ b
end Go.Proofs.Ytcgnpmjkeifokaa
-- K4
/- superposeref.CheckTerm, CheckSignature, CheckTerms. -/
namespace Go.Proofs.Ytcgnpmjkeifokaa
open Go.RowKit Go.Proofs.YtcgnpmjkeifokaaW.PrintWords
set_option linter.unusedVariables false
set_option linter.unusedSimpArgs false
end Go.Proofs.Ytcgnpmjkeifokaa
-- K5
/- slices.IndexFunc, ContainsFunc over whole numbers at whatever predicate; term.Signature; superposeref.CheckSignature. -/
namespace Go.Proofs.Ytcgnpmjkeifokaa
open Go.RowKit Go.Proofs.YtcgnpmjkeifokaaW.PrintWords
set_option linter.unusedVariables false
set_option linter.unusedSimpArgs false
/-- Which one is the first (-1: none). -/
def idxB {α : Type} (p : α → Bool) (l : List α) : Int := match l.findIdx? p with
  | some i => i
  | none => -1
theorem idxB_none {α : Type} {p : α → Bool} {l : List α} (h : l.all (fun x => !p x) = true) : idxB p l = -1 := by
  unfold idxB
  have : l.findIdx? p = none := by
    rw [List.findIdx?_eq_none_iff]; intro x hx
    have := List.all_eq_true.1 h x hx; simpa using this
  rw [this]
theorem idxB_at {α : Type} {p : α → Bool} {l : List α} {k : Nat} (hk : k < l.length) (h0 : (l.take k).all (fun x => !p x) = true) (hp : p l[k] = true) : idxB p l = k := by
  unfold idxB
  have : l.findIdx? p = some k := by
    rw [List.findIdx?_eq_some_iff_getElem]
    refine ⟨hk, hp, fun j hj => ?_⟩
    have hm : l[j]'(by omega) ∈ l.take k := by rw [List.mem_take_iff_getElem]; exact ⟨j, by omega, rfl⟩
    have := List.all_eq_true.1 h0 _ hm; simpa using this
  rw [this]
theorem idxB_any {α : Type} (p : α → Bool) (l : List α) : decide (0 ≤ idxB p l) = l.any p := by
  rw [Bool.eq_iff_iff, decide_eq_true_eq]
  unfold idxB
  cases h : l.findIdx? p with
  | none =>
    rw [List.findIdx?_eq_none_iff] at h
    constructor
    · intro h2; simp at h2
    · intro h2; obtain ⟨x, hx, hp⟩ := List.any_eq_true.1 h2; rw [h x hx] at hp; exact absurd hp (by simp)
  | some i =>
    rw [List.findIdx?_eq_some_iff_getElem] at h
    obtain ⟨hi, hp, _⟩ := h
    constructor
    · intro _; exact List.any_eq_true.2 ⟨l[i], List.getElem_mem _, hp⟩
    · intro _; simp
theorem take_all_succ {α : Type} {p : α → Bool} {l : List α} {k : Nat} (hk : k < l.length) (h0 : (l.take k).all p = true) (hp : p l[k] = true) : (l.take (k+1)).all p = true := by
  rw [List.take_succ_eq_append_getElem hk, List.all_append, h0]; simp [hp]
set_option maxHeartbeats 4000000 in
set_option maxRecDepth 100000 in
theorem indexFunc_int (g : Nat) (lb : Array Value) (p : Int → Bool) (eg : ∀ args w, (callFunc g args).run Try.prog w = .ok (.enter g args) w) (xs : List Int) (A : Option Addr) (c : Nat) (w : World) (hC : Kd.C (Kd.int .i64) w A xs.length xs)
    (hp : ∀ x, x ∈ xs → ∀ W : World, Below w.heap.size w W → Calls Try.prog g (#[.int .i64 x] ++ lb) W fun e w' => e = .returned (.bool (p x)) ∧ Below W.heap.size W w') :
    Calls Try.prog 124 #[.slice A xs.length c, .func (.func g) #[] lb] w fun e w' => e = .returned (.int .i64 (idxB p xs)) ∧ Below w.heap.size w w' := by
  have hlen := hC.2.1
  have HC := Aside0.mk hC
  have HP := Aside0.mk hp
  clear hC hp
  go_enter Try.func124, Try.ntmps124
  go_wp2
  go_loopw [8] (fun i wr => ∃ k : Nat, k ≤ xs.length ∧ i = .int .i64 k ∧ Aside0 ((xs.take k).all (fun x => !p x) = true) ∧ Below w.heap.size w wr) (fun i _ => xs.length - (intOf i).toNat)
  case atStart => exact ⟨0, by omega, rfl, ⟨rfl⟩, Below.refl _ _⟩
  case round =>
    obtain ⟨k, hk, rfl, h0, hb⟩ := hrel
    by_cases hlt : k < xs.length
    · obtain ⟨ad, rfl, e0⟩ := at_Int HC.out (k : Int) (by omega) (by omega)
      simp only [Int.toNat_natCast] at e0
      have hx : xs.getD k 0 = xs[k] := by simp [List.getD_eq_getElem?_getD, hlt]
      rw [hx] at e0
      have E0 := oldc hb e0
      have HX := Aside0.mk (HP.out xs[k] (List.getElem_mem _))
      have H1 := Aside0.mk (fun h => idxB_at (p := p) hlt h0.out h)
      have H2 := Aside0.mk (fun h => take_all_succ (p := fun x => !p x) hlt h0.out h)
      clear e0 hx
      generalize xs[k] = x at *
      go_wp2_with (fail)
      refine (HX.out _ hb).mono ?_
      rintro e w2 ⟨rfl, hb2⟩
      cases hpx : p x with
      | true =>
        have HF := Aside0.mk (H1.out hpx)
        clear H1 H2 HX hpx
        go_wp2
        go_ret
        exact ⟨ret_int HF.out.symm, hbT hb hb2⟩
      | false =>
        have HF := Aside0.mk (H2.out (by simp [hpx]))
        clear H1 H2 HX hpx
        go_wp2
        go_roundw
        case rel => exact ⟨k + 1, by omega, by go_num, HF, hbT hb hb2⟩
        case measure => simp [intOf]; omega
    · obtain rfl : k = xs.length := by omega
      have HF := Aside0.mk (idxB_none (p := p) (l := xs) (by have := h0.out; rwa [List.take_length] at this))
      clear h0
      go_wp2
      go_ret
      exact ⟨ret_int HF.out.symm, hb⟩
def anyB {α : Type} (p : α → Bool) (l : List α) : Bool := l.any p
set_option maxHeartbeats 4000000 in
set_option maxRecDepth 100000 in
theorem containsFunc_int (g : Nat) (lb : Array Value) (p : Int → Bool) (eg : ∀ args w, (callFunc g args).run Try.prog w = .ok (.enter g args) w) (xs : List Int) (A : Option Addr) (c : Nat) (w : World) (hC : Kd.C (Kd.int .i64) w A xs.length xs)
    (hp : ∀ x, x ∈ xs → ∀ W : World, Below w.heap.size w W → Calls Try.prog g (#[.int .i64 x] ++ lb) W fun e w' => e = .returned (.bool (p x)) ∧ Below W.heap.size W w') :
    Calls Try.prog 90 #[.slice A xs.length c, .func (.func g) #[] lb] w fun e w' => e = .returned (.bool (anyB p xs)) ∧ Below w.heap.size w w' := by
  have H := Aside0.mk (idxB_any p xs)
  have HI := Aside0.mk (indexFunc_int g lb p eg xs A c w hC hp)
  clear hC hp eg
  go_enter Try.func90, Try.ntmps90
  go_wp2_with (fail)
  refine HI.out.mono ?_
  rintro e w2 ⟨rfl, hb2⟩
  generalize idxB p xs = y at *
  go_wp2
  go_ret
  exact ⟨ret_bool H.out, hb2⟩
set_option maxHeartbeats 4000000 in
set_option maxRecDepth 100000 in
theorem signature1_any (n : Int) (w : World) : Calls Try.prog 91 #[.int .i64 n] w fun e w' => e = .returned (.bool (badAr n)) ∧ Below w.heap.size w w' := by
  by_cases h1 : n < 0
  · have H := Aside0.mk (badAr_t (.inl h1))
    go_enter Try.func91, Try.ntmps91
    go_wp2
    go_ret
    exact ⟨ret_bool H.out.symm, Below.refl _ _⟩
  · by_cases h2 : 3 < n
    · have H := Aside0.mk (badAr_t (.inr h2))
      go_enter Try.func91, Try.ntmps91
      go_wp2
      go_ret
      exact ⟨ret_bool H.out.symm, Below.refl _ _⟩
    · have H := Aside0.mk (badAr_f (n := n) (by omega))
      go_enter Try.func91, Try.ntmps91
      go_wp2
      go_ret
      exact ⟨ret_bool H.out.symm, Below.refl _ _⟩
set_option maxHeartbeats 4000000 in
set_option maxRecDepth 100000 in
theorem signature_any (g : List Int) (Ag : Option Addr) (cg : Nat) (w : World) (hG : Kd.C (Kd.int .i64) w Ag g.length g) :
    Calls Try.prog 43 #[.agg #[.slice Ag g.length cg]] w fun e w' => e = .returned (.int .i64 (sigE g)) ∧ Below w.heap.size w w' := by
  have HG := Aside0.mk hG
  clear hG
  by_cases h1 : 12 < g.length
  · have H := Aside0.mk (show sigE g = 2 by unfold sigE; rw [if_pos h1])
    go_enter Try.func43, Try.ntmps43
    go_wp2
    go_ret
    exact ⟨ret_int H.out.symm, below_alloc (Below.refl _ _) _⟩
  · have H := Aside0.mk (show sigE g = if g.any badAr then 3 else 0 by unfold sigE; rw [if_neg h1])
    have HB := Aside0.mk (below_alloc (Below.refl w.heap.size w) (.cells #[.slice Ag g.length cg] 24))
    go_enter Try.func43, Try.ntmps43
    go_wp2_with (fail)
    refine (containsFunc_int 91 #[] badAr (enters_of Try.func91 (by kernel_rfl) rfl) g Ag cg _ (Kd.C_below HG.out HB.out) (fun x _ W _ => signature1_any x W)).mono ?_
    rintro e w2 ⟨rfl, hb2⟩
    cases h : anyB badAr g with
    | true =>
      have H2 := Aside0.mk (show sigE g = 3 by rw [H.out]; unfold anyB at h; rw [h]; rfl)
      clear H h
      go_wp2
      go_ret
      exact ⟨ret_int H2.out.symm, hbT HB.out hb2⟩
    | false =>
      have H2 := Aside0.mk (show sigE g = 0 by rw [H.out]; unfold anyB at h; rw [h]; rfl)
      clear H h
      go_wp2
      go_ret
      exact ⟨ret_int H2.out.symm, hbT HB.out hb2⟩
end Go.Proofs.Ytcgnpmjkeifokaa
-- K6
/- superposeref.CheckTerms, CheckClause, CheckClauses. -/
namespace Go.Proofs.Ytcgnpmjkeifokaa
open Go.RowKit Go.Proofs.YtcgnpmjkeifokaaW.PrintWords
set_option linter.unusedVariables false
set_option linter.unusedSimpArgs false
/-- The first that is wrong. -/
def fe {α : Type} (f : α → Int) : List α → Int
  | [] => 0
  | x :: xs => if f x ≠ 0 then f x else fe f xs
section
variable {α : Type} {f : α → Int} {l : List α} {k : Nat}
theorem fe_append (a b : List α) : fe f (a ++ b) = if fe f a ≠ 0 then fe f a else fe f b := by
  induction a with
  | nil => simp [fe]
  | cons t ts ih =>
    simp only [List.cons_append, fe, ih]
    by_cases h : f t = 0 <;> simp [h]
theorem fe_take_succ (h : k < l.length) (h0 : fe f (l.take k) = 0) : fe f (l.take (k+1)) = f l[k] := by
  rw [List.take_succ_eq_append_getElem h, fe_append, h0]
  simp only [fe, ne_eq, not_true_eq_false, if_false]
  by_cases h2 : f l[k] = 0 <;> simp [h2]
theorem fe_bad (h : fe f (l.take k) ≠ 0) : fe f l = fe f (l.take k) := by
  have := fe_append (f := f) (l.take k) (l.drop k)
  rw [List.take_append_drop, if_pos h] at this; exact this
theorem fe_mem (h : fe f l = 0) : ∀ x ∈ l, f x = 0 := by
  induction l with
  | nil => intro x hx; cases hx
  | cons t ts ih =>
    rw [fe] at h
    by_cases h2 : f t = 0
    · rw [if_neg (by simp [h2])] at h
      intro x hx; cases hx with
      | head => exact h2
      | tail _ hx => exact ih h x hx
    · rw [if_pos h2] at h; exact absurd h h2
theorem fe_of (h : ∀ x ∈ l, f x = 0) : fe f l = 0 := by
  induction l with
  | nil => rfl
  | cons t ts ih => rw [fe, h t (by simp), ih (fun x hx => h x (by simp [hx]))]; simp
end
def chkTs (g : List Int) (l : List Tm) : Int := if sigE g ≠ 0 then sigE g else fe (chkT g) l
def chkLi (g : List Int) (x : Li) : Int := if chkT g x.f1 ≠ 0 then chkT g x.f1 else chkT g x.f2
def chkC (g : List Int) (c : List Li) : Int := if 8 < c.length then 2 else fe (chkLi g) c
def chkCs (g : List Int) (l : List (List Li)) : Int := if sigE g ≠ 0 then sigE g else if 60 < l.length then 2 else fe (chkC g) l
theorem beqT {a b : Int} (h : a = b) : (a == b) = true := by rw [h]; simp
theorem beqF {a b : Int} (h : a ≠ b) : (a == b) = false := by simpa using h
theorem getD_tm {l : List Tm} {k : Nat} (h : k < l.length) : rd_Tm l k = l[k] := rd_get l k h
def kCl : Kd (List Li) := Kd.slice 84 kLi
end Go.Proofs.Ytcgnpmjkeifokaa
-- K7
/- superposeref.CheckClause, CheckClauses; term.All. -/
namespace Go.Proofs.Ytcgnpmjkeifokaa
open Go.RowKit Go.Proofs.YtcgnpmjkeifokaaW.PrintWords
set_option linter.unusedVariables false
set_option linter.unusedSimpArgs false
theorem flat_get {α : Type} {sz : Nat} : ∀ (css : List (List α)) (j i : Nat) (c : List α) (u : α), (∀ c ∈ css, c.length = sz) → css[j]? = some c → c[i]? = some u → css.flatten[j * sz + i]? = some u
  | [], j, i, c, u, _, h, _ => by simp at h
  | c0 :: css, j, i, c, u, hl, h, hu => by
    have h0 : c0.length = sz := hl c0 (by simp)
    cases j with
    | zero =>
      simp only [List.getElem?_cons_zero, Option.some.injEq] at h
      subst h
      have hi := (List.getElem?_eq_some_iff.1 hu).1
      rw [List.flatten_cons, Nat.zero_mul, Nat.zero_add, List.getElem?_append_left hi]; exact hu
    | succ j =>
      simp only [List.getElem?_cons_succ] at h
      rw [List.flatten_cons, List.getElem?_append_right (by rw [h0, Nat.succ_mul]; omega)]
      have := flat_get css j i c u (fun c hc => hl c (by simp [hc])) h hu
      rw [← this, h0]; congr 1; rw [Nat.succ_mul]; omega
/-- A row that was just laid, its elements leading to what was there. -/
theorem F_lit {α : Type} {d : Kd α} {W : World} {ok : Nat → Prop} {gb e : Nat} {xs : List α} (css : List (List Value)) (hb : W.heap[gb]? = some (.cells css.flatten.toArray e (0, 0))) (hl : css.length = xs.length) (hn : xs.length ≤ 9223372036854775807)
    (h : ∀ (j : Nat) (x : α) (c : List Value), xs[j]? = some x → css[j]? = some c → Kd.FK d W ok x c) : Kd.F d W (fun k => ok k ∨ k = gb) (some ⟨gb, 0, none⟩) xs.length xs := by
  have hsz : ∀ c ∈ css, c.length = d.sz := by
    intro c hc
    obtain ⟨j, hj, rfl⟩ := List.mem_iff_getElem.1 hc
    exact d.K_len (Kd.FK_now (h j xs[j] css[j] (by simp) (by simp)))
  intro W' hW
  refine ⟨rfl, hn, fun _ => ⟨_, rfl, fun j p hj => ?_⟩⟩
  have hjl : j < css.length := by have := (List.getElem?_eq_some_iff.1 hj).1; omega
  have hcj : css[j]? = some css[j] := by simp
  refine ⟨css[j], hsz _ (List.getElem_mem _), h j p _ hj hcj W' (fun k hk hlt => hW k (.inl hk) hlt), fun i u hu => ?_⟩
  have hb' : W'.heap[gb]? = some (.cells css.flatten.toArray e (0, 0)) := (hW gb (.inr rfl) (blk_lt hb)).trans hb
  have h3 := blk_cell hb' (j * d.sz + i)
  rw [add_plain]
  rw [h3]
  have := flat_get css j i css[j] u hsz hcj hu
  simpa using this
theorem F_lit1 {W : World} {ok : Nat → Prop} {gb : Nat} {t : Tm} {A : Option Addr} {c : Nat} (hb : W.heap[gb]? = some (.cells #[.int .i64 t.f0, .int .i64 t.f1, .slice A t.f2.length c] 46 (0, 0))) (hF : Kd.F kTm W ok A t.f2.length t.f2) (hc : t.f2.length ≤ c) : Kd.F kTm W (fun k => ok k ∨ k = gb) (some ⟨gb, 0, none⟩) [t].length [t] :=
  F_lit (d := kTm) [[.int .i64 t.f0, .int .i64 t.f1, .slice A t.f2.length c]] hb rfl (by simp) (fun j x c' hx hc' => by
    cases j with
    | zero => simp at hx hc'; subst hx hc'; exact kTm_mkF W ok t hc hF
    | succ j => simp at hx)
theorem F_lit2 {W : World} {ok : Nat → Prop} {gb : Nat} {t u : Tm} {A B : Option Addr} {c d : Nat} (hb : W.heap[gb]? = some (.cells #[.int .i64 t.f0, .int .i64 t.f1, .slice A t.f2.length c, .int .i64 u.f0, .int .i64 u.f1, .slice B u.f2.length d] 46 (0, 0))) (hF : Kd.F kTm W ok A t.f2.length t.f2) (hc : t.f2.length ≤ c) (hF2 : Kd.F kTm W ok B u.f2.length u.f2) (hd : u.f2.length ≤ d) : Kd.F kTm W (fun k => ok k ∨ k = gb) (some ⟨gb, 0, none⟩) [t, u].length [t, u] :=
  F_lit (d := kTm) [[.int .i64 t.f0, .int .i64 t.f1, .slice A t.f2.length c], [.int .i64 u.f0, .int .i64 u.f1, .slice B u.f2.length d]] hb rfl (by simp) (fun j x c' hx hc' => by
    match j with
    | 0 => simp at hx hc'; subst hx hc'; exact kTm_mkF W ok t hc hF
    | 1 => simp at hx hc'; subst hx hc'; exact kTm_mkF W ok u hd hF2
    | j + 2 => simp at hx)
set_option maxHeartbeats 4000000 in
set_option maxRecDepth 100000 in
theorem termAll_any (g : List Int) (Ag : Option Addr) (cg : Nat) (l : List Tm) (A : Option Addr) (c : Nat) (ok : Nat → Prop) (w : World) (hG : Kd.C (Kd.int .i64) w Ag g.length g) (hF : Kd.F kTm w ok A l.length l) :
    Calls Try.prog 77 #[.agg #[.slice Ag g.length cg], .slice A l.length c] w fun e w' => e = .returned (.int .i64 (chkTs g l)) ∧ Below w.heap.size w w' := by
  have hlen := Kd.F_max hF
  have HF := Aside0.mk hF
  have HG := Aside0.mk hG
  clear hG hF
  have HB0 := Aside0.mk (below_alloc (Below.refl w.heap.size w) (.cells #[.slice Ag g.length cg] 24))
  go_enter Try.func77, Try.ntmps77
  go_wp2_with (fail)
  refine (signature_any g Ag cg _ (Kd.C_below HG.out HB0.out)).mono ?_
  rintro e w2 ⟨rfl, hb2⟩
  have g0 := Aside0.mk ((hb2.block w.heap.size (by simp)).trans (newAt rfl))
  have HB2 := Aside0.mk (hbT HB0.out hb2)
  clear hb2 HB0
  by_cases hs : sigE g = 0
  · have H := Aside0.mk (show chkTs g l = fe (chkT g) l by unfold chkTs; rw [if_neg (by simp [hs])])
    have hB := bneF hs
    clear hs
    go_wp2
    go_loopw [16] (fun i wr => ∃ k : Nat, k ≤ l.length ∧ i = .int .i64 k ∧ Aside0 (fe (chkT g) (l.take k) = 0) ∧ Aside0 (Below w2.heap.size w2 wr)) (fun i _ => l.length - (intOf i).toNat)
    case atStart => exact ⟨0, by omega, rfl, ⟨rfl⟩, ⟨Below.refl _ _⟩⟩
    case round =>
      obtain ⟨k, hk, rfl, h0, hb⟩ := hrel
      have HBr := Aside0.mk (hbT HB2.out hb.out)
      have hgr := (hb.out.block _ (blk_lt g0.out)).trans g0.out
      have q0 := (blk_cell hgr 0).trans rfl
      have hl0 := blk_lt hgr
      have HFr := Aside0.mk (Kd.F_below HF.out HBr.out)
      clear hgr
      by_cases hlt : k < l.length
      · obtain ⟨ad, A2, c2, rfl, E0, E1, E2, hl2, hF2, _⟩ := at_TmF HFr.out (k : Int) (by omega) (by omega)
        simp only [Int.toNat_natCast] at E0 E1 E2
        have HE := Aside0.mk (fe_take_succ (f := chkT g) hlt h0.out)
        have HBad := Aside0.mk (fe_bad (f := chkT g) (l := l) (k := k+1))
        have HRD := Aside0.mk (getD_tm hlt)
        have HF2 := Aside0.mk hF2
        clear hF2
        by_cases h1 : chkT g (rd_Tm l k) = 0
        · have hB1 := bneF h1
          have HR := Aside0.mk (show fe (chkT g) (l.take (k+1)) = 0 by rw [HE.out, ← HRD.out, h1])
          clear h1
          go_wp2_with (go_at_call 74; refine (own_any g Ag cg (rd_Tm l k) A2 c2 _ (Kd.C_below HG.out (below_alloc HBr.out _)) (Kd.F_now (Kd.F_alloc HF2.out _))).mono ?_; rintro e w3 ⟨rfl, hb3⟩)
          go_roundw
          case rel => exact ⟨k + 1, by omega, by go_num, HR, ⟨hbA hb.out _ hb3⟩⟩
          case measure => simp [intOf]; omega
        · have hB1 := bneT h1
          have HR := Aside0.mk (show chkTs g l = chkT g (rd_Tm l k) by
            have h3 : fe (chkT g) (l.take (k+1)) = chkT g (rd_Tm l k) := by rw [HE.out, ← HRD.out]
            rw [H.out, HBad.out (by rw [h3]; exact h1), h3])
          clear h1
          go_wp2_with (go_at_call 74; refine (own_any g Ag cg (rd_Tm l k) A2 c2 _ (Kd.C_below HG.out (below_alloc HBr.out _)) (Kd.F_now (Kd.F_alloc HF2.out _))).mono ?_; rintro e w3 ⟨rfl, hb3⟩)
          go_ret
          exact ⟨ret_int HR.out.symm, hbA HBr.out _ hb3⟩
      · obtain rfl : k = l.length := by omega
        have H0 := Aside0.mk (show chkTs g l = 0 by rw [H.out]; have := h0.out; rwa [List.take_length] at this)
        clear h0
        go_wp2
        go_ret
        exact ⟨ret_int H0.out.symm, HBr.out⟩
  · have H := Aside0.mk (show chkTs g l = sigE g by unfold chkTs; rw [if_pos hs])
    have hB := bneT hs
    clear hs
    generalize sigE g = z at *
    go_wp2
    go_ret
    exact ⟨ret_int H.out.symm, HB2.out⟩
end Go.Proofs.Ytcgnpmjkeifokaa
-- K8
/- slices.EqualFunc over terms (what is asked only reads), term.Same, superposeref.SameTerm. -/
namespace Go.Proofs.Ytcgnpmjkeifokaa
open Go.RowKit Go.Proofs.YtcgnpmjkeifokaaW.PrintWords
set_option linter.unusedVariables false
set_option linter.unusedSimpArgs false
def eqF {α β : Type} (p : α → β → Bool) : List α → List β → Bool
  | [], [] => true
  | x :: xs, y :: ys => p x y && eqF p xs ys
  | _, _ => false
theorem eqF_len {α β : Type} {p : α → β → Bool} : ∀ {l : List α} {l' : List β}, l.length ≠ l'.length → eqF p l l' = false
  | [], [], h => absurd rfl h
  | [], _ :: _, _ => rfl
  | _ :: _, [], _ => rfl
  | a :: l, b :: l', h => by rw [eqF, eqF_len (fun e => h (by simp [e])), Bool.and_false]
theorem eqF_drop {α β : Type} {p : α → β → Bool} {l : List α} {l' : List β} {i : Nat} (h : i < l.length) (h' : i < l'.length) : eqF p (l.drop i) (l'.drop i) = (p l[i] l'[i] && eqF p (l.drop (i+1)) (l'.drop (i+1))) := by
  rw [List.drop_eq_getElem_cons h, List.drop_eq_getElem_cons h', eqF]
theorem eqF_eqT : ∀ l l' : List Tm, eqF eqT l l' = eqL l l'
  | [], [] => by rw [eqF, eqL]
  | [], _ :: _ => by rw [eqF, eqL] <;> simp
  | _ :: _, [] => by rw [eqF, eqL] <;> simp
  | a :: l, b :: l' => by rw [eqF, eqL, eqF_eqT l l']
theorem eqF_end {α β : Type} {p : α → β → Bool} {l : List α} {l' : List β} (h : l.length = l'.length) : eqF p (l.drop l.length) (l'.drop l.length) = true := by
  rw [List.drop_length, h, List.drop_length]; rfl
set_option maxHeartbeats 4000000 in
set_option maxRecDepth 100000 in
theorem equalFuncT (g : Nat) (lb : Array Value) (p : Tm → Tm → Bool) (eg : ∀ args w, (callFunc g args).run Try.prog w = .ok (.enter g args) w) (xs ys : List Tm) (A B : Option Addr) (c d : Nat) (okx oky : Nat → Prop) (w : World) (hF : Kd.F kTm w okx A xs.length xs) (hF2 : Kd.F kTm w oky B ys.length ys)
    (hp : ∀ x, x ∈ xs → ∀ y, y ∈ ys → ∀ (Ax Ay : Option Addr) (cx cy : Nat) (W : World), Below w.heap.size w W → Kd.F kTm W okx Ax x.f2.length x.f2 → x.f2.length ≤ cx → Kd.F kTm W oky Ay y.f2.length y.f2 → y.f2.length ≤ cy →
      Calls Try.prog g (#[.agg #[.int .i64 x.f0, .int .i64 x.f1, .slice Ax x.f2.length cx], .agg #[.int .i64 y.f0, .int .i64 y.f1, .slice Ay y.f2.length cy]] ++ lb) W fun e w' => e = .returned (.bool (p x y)) ∧ Below W.heap.size W w') :
    Calls Try.prog 126 #[.slice A xs.length c, .slice B ys.length d, .func (.func g) #[] lb] w fun e w' => e = .returned (.bool (eqF p xs ys)) ∧ Below w.heap.size w w' := by
  have hlen := Kd.F_max hF
  have hlen2 := Kd.F_max hF2
  have HF := Aside0.mk hF
  have HF2 := Aside0.mk hF2
  have HP := Aside0.mk hp
  clear hF hF2 hp
  by_cases hn : xs.length = ys.length
  · have hB := bneF (a := xs.length) (b := ys.length) (by omega)
    have HN := Aside0.mk hn
    have hle : xs.length ≤ ys.length := by omega
    have hB' : (xs.length != ys.length) = false := by simp [hn]
    clear hn
    go_enter Try.func126, Try.ntmps126
    go_wp2
    go_loopw [17] (fun i wr => ∃ k : Nat, k ≤ xs.length ∧ i = .int .i64 k ∧ Aside0 (eqF p xs ys = eqF p (xs.drop k) (ys.drop k)) ∧ Aside0 (Below w.heap.size w wr)) (fun i _ => xs.length - (intOf i).toNat)
    case atStart => exact ⟨0, by omega, rfl, ⟨by simp⟩, ⟨Below.refl _ _⟩⟩
    case round =>
      obtain ⟨k, hk, rfl, h0, hb⟩ := hrel
      have HFr := Aside0.mk (Kd.F_below HF.out hb.out)
      have HFr2 := Aside0.mk (Kd.F_below HF2.out hb.out)
      by_cases hlt : k < xs.length
      · have hlt2 : k < ys.length := by omega
        obtain ⟨ad, A2, c2, rfl, E0, E1, E2, hl2, hG, _⟩ := at_TmF HFr.out (k : Int) (by omega) (by omega)
        obtain ⟨bd, B2, d2, rfl, G0, G1, G2, gl2, hG2, _⟩ := at_TmF HFr2.out (k : Int) (by omega) (by omega)
        simp only [Int.toNat_natCast] at E0 E1 E2 G0 G1 G2
        have HE := Aside0.mk (eqF_drop (p := p) hlt hlt2)
        have HX := Aside0.mk (HP.out _ (rd_mem xs k hlt) _ (rd_mem ys k hlt2))
        have R1 := Aside0.mk (rd_get xs k hlt)
        have R2 := Aside0.mk (rd_get ys k hlt2)
        have HG := Aside0.mk hG
        have HG2 := Aside0.mk hG2
        have HC := Aside0.mk hl2
        have HC2 := Aside0.mk gl2
        have HB2 := Aside0.mk (below_alloc (below_alloc (Below.refl wr.heap.size wr) (.cells #[.int .i64 (rd_Tm xs (k : Int)).f0, .int .i64 (rd_Tm xs (k : Int)).f1, .slice A2 (rd_Tm xs (k : Int)).f2.length c2] 46)) (.cells #[.int .i64 (rd_Tm ys (k : Int)).f0, .int .i64 (rd_Tm ys (k : Int)).f1, .slice B2 (rd_Tm ys (k : Int)).f2.length d2] 46))
        have L0 := oldc (below_alloc (Below.refl wr.heap.size wr) (.cells #[.int .i64 (rd_Tm xs (k : Int)).f0, .int .i64 (rd_Tm xs (k : Int)).f1, .slice A2 (rd_Tm xs (k : Int)).f2.length c2] 46)) G0
        have L1 := oldc (below_alloc (Below.refl wr.heap.size wr) (.cells #[.int .i64 (rd_Tm xs (k : Int)).f0, .int .i64 (rd_Tm xs (k : Int)).f1, .slice A2 (rd_Tm xs (k : Int)).f2.length c2] 46)) G1
        have L2 := oldc (below_alloc (Below.refl wr.heap.size wr) (.cells #[.int .i64 (rd_Tm xs (k : Int)).f0, .int .i64 (rd_Tm xs (k : Int)).f1, .slice A2 (rd_Tm xs (k : Int)).f2.length c2] 46)) G2
        clear hG hG2 hl2 gl2
        go_wp2_with (fail)
        refine (HX.out A2 B2 c2 d2 _ (hbT hb.out HB2.out) (Kd.F_below HG.out HB2.out) HC.out (Kd.F_below HG2.out HB2.out) HC2.out).mono ?_
        rintro e w2 ⟨rfl, hb2⟩
        have HB3 := Aside0.mk (hbT (hbT hb.out HB2.out) hb2)
        clear HB2 hb2
        cases hpx : p (rd_Tm xs (k : Int)) (rd_Tm ys (k : Int)) with
        | true =>
          have HR := Aside0.mk (show eqF p xs ys = eqF p (xs.drop (k+1)) (ys.drop (k+1)) by rw [h0.out, HE.out, ← R1.out, ← R2.out, hpx, Bool.true_and])
          clear h0 HE HX hpx
          go_wp2
          go_roundw
          case rel => exact ⟨k + 1, by omega, by go_num, HR, HB3⟩
          case measure => simp [intOf]; omega
        | false =>
          have HR := Aside0.mk (show eqF p xs ys = false by rw [h0.out, HE.out, ← R1.out, ← R2.out, hpx, Bool.false_and])
          clear h0 HE HX hpx
          go_wp2
          go_ret
          exact ⟨ret_bool HR.out.symm, HB3.out⟩
      · obtain rfl : k = xs.length := by omega
        have HR := Aside0.mk (show eqF p xs ys = true by rw [h0.out]; exact eqF_end HN.out)
        clear h0
        go_wp2
        go_ret
        exact ⟨ret_bool HR.out.symm, hb.out⟩
  · have hB := bneT (a := xs.length) (b := ys.length) (by omega)
    have hB' : (xs.length != ys.length) = true := by simp [hn]
    have HR := Aside0.mk (eqF_len (p := p) hn)
    clear hn
    go_enter Try.func126, Try.ntmps126
    go_wp2
    go_ret
    exact ⟨ret_bool HR.out.symm, Below.refl _ _⟩
set_option maxHeartbeats 4000000 in
set_option maxRecDepth 100000 in
theorem same_any (m : Nat) : ∀ (t u : Tm) (A B : Option Addr) (c d : Nat) (okx oky : Nat → Prop) (w : World), szT t ≤ m → Kd.F kTm w okx A t.f2.length t.f2 → t.f2.length ≤ c → Kd.F kTm w oky B u.f2.length u.f2 → u.f2.length ≤ d →
    Calls Try.prog 94 #[.agg #[.int .i64 t.f0, .int .i64 t.f1, .slice A t.f2.length c], .agg #[.int .i64 u.f0, .int .i64 u.f1, .slice B u.f2.length d]] w fun e w' => e = .returned (.bool (eqT t u)) ∧ Below w.heap.size w w' := by
  induction m with
  | zero => intro t u A B c d okx oky w h; have := szT_pos t; omega
  | succ m ih =>
  intro t u A B c d okx oky w hm hF hc hF2 hd
  have H := Aside0.mk (eqT_eq t u)
  have HF := Aside0.mk hF
  have HF2 := Aside0.mk hF2
  have HS := Aside0.mk (szT_eq t)
  have HM := Aside0.mk hm
  have IH := Aside0.mk ih
  have HB := Aside0.mk (below_alloc (below_alloc (Below.refl w.heap.size w) (.cells #[.int .i64 t.f0, .int .i64 t.f1, .slice A t.f2.length c] 46)) (.cells #[.int .i64 u.f0, .int .i64 u.f1, .slice B u.f2.length d] 46))
  clear hF hF2 hm ih
  cases h0 : (t.f0 == u.f0) with
  | false =>
    have HR := Aside0.mk (show eqT t u = false by rw [H.out, h0]; rfl)
    go_enter Try.func94, Try.ntmps94
    go_wp2
    go_ret
    exact ⟨ret_bool HR.out.symm, HB.out⟩
  | true =>
    cases h1 : (t.f1 == u.f1) with
    | false =>
      have HR := Aside0.mk (show eqT t u = false by rw [H.out, h0, h1]; rfl)
      go_enter Try.func94, Try.ntmps94
      go_wp2
      go_ret
      exact ⟨ret_bool HR.out.symm, HB.out⟩
    | true =>
      have HR := Aside0.mk (show eqT t u = eqL t.f2 u.f2 by rw [H.out, h0, h1]; rfl)
      go_enter Try.func94, Try.ntmps94
      go_wp2_with (fail)
      refine (equalFuncT 94 #[] eqT (enters_of Try.func94 (by kernel_rfl) rfl) t.f2 u.f2 A B c d okx oky _ (Kd.F_below HF.out HB.out) (Kd.F_below HF2.out HB.out) (fun x hx y hy Ax Ay cx cy W hW hFx hcx hFy hcy => IH.out x y Ax Ay cx cy okx oky W (by have := szT_mem hx; have := HS.out; have := HM.out; omega) hFx hcx hFy hcy)).mono ?_
      rintro e w2 ⟨rfl, hb2⟩
      rw [eqF_eqT]
      go_wp2
      go_ret
      exact ⟨ret_bool HR.out.symm, hbT HB.out hb2⟩
set_option maxHeartbeats 4000000 in
set_option maxRecDepth 100000 in
theorem sameTerm_any (m : Nat) : ∀ (t u : Tm) (A B : Option Addr) (c d : Nat) (okx oky : Nat → Prop) (w : World), szT t ≤ m → Kd.F kTm w okx A t.f2.length t.f2 → t.f2.length ≤ c → Kd.F kTm w oky B u.f2.length u.f2 → u.f2.length ≤ d →
    Calls Try.prog 33 #[.agg #[.int .i64 t.f0, .int .i64 t.f1, .slice A t.f2.length c], .agg #[.int .i64 u.f0, .int .i64 u.f1, .slice B u.f2.length d]] w fun e w' => e = .returned (.bool (eqT t u)) ∧ Below w.heap.size w w' := by
  induction m with
  | zero => intro t u A B c d okx oky w h; have := szT_pos t; omega
  | succ m ih =>
  intro t u A B c d okx oky w hm hF hc hF2 hd
  have hlen := Kd.F_max hF
  have hlen2 := Kd.F_max hF2
  have H := Aside0.mk (eqT_eq t u)
  have HF := Aside0.mk hF
  have HF2 := Aside0.mk hF2
  have HS := Aside0.mk (szT_eq t)
  have HM := Aside0.mk hm
  have IH := Aside0.mk ih
  have HB := Aside0.mk (below_alloc (below_alloc (Below.refl w.heap.size w) (.cells #[.int .i64 t.f0, .int .i64 t.f1, .slice A t.f2.length c] 46)) (.cells #[.int .i64 u.f0, .int .i64 u.f1, .slice B u.f2.length d] 46))
  clear hF hF2 hm ih
  by_cases h0 : t.f0 = u.f0
  · by_cases h1 : t.f1 = u.f1
    · by_cases hn : t.f2.length = u.f2.length
      · have HR := Aside0.mk (show eqT t u = eqF eqT t.f2 u.f2 by rw [H.out, beqT h0, beqT h1, eqF_eqT]; rfl)
        have b0 := bneF h0
        have b1 := bneF h1
        have b2 := bneF (a := (t.f2.length : Int)) (b := (u.f2.length : Int)) (by omega)
        have b3 : (t.f2.length != u.f2.length) = false := by simp [hn]
        have HN := Aside0.mk hn
        have hle : t.f2.length ≤ u.f2.length := by omega
        clear h0 h1 hn
        go_enter Try.func33, Try.ntmps33
        go_wp2
        go_loopw [5] (fun i wr => ∃ k : Nat, k ≤ t.f2.length ∧ i = .int .i64 k ∧ Aside0 (eqT t u = eqF eqT (t.f2.drop k) (u.f2.drop k)) ∧ Aside0 (Below w.heap.size w wr) ∧ Aside0 (wr.heap[w.heap.size]? = some (.cells #[.int .i64 t.f0, .int .i64 t.f1, .slice A t.f2.length c] 46 (0, 0))) ∧ Aside0 (wr.heap[w.heap.size + 1]? = some (.cells #[.int .i64 u.f0, .int .i64 u.f1, .slice B u.f2.length d] 46 (0, 0)))) (fun i _ => t.f2.length - (intOf i).toNat)
        case atStart => exact ⟨0, by omega, rfl, by simpa using HR, HB, ⟨blk_alloc (newAt rfl) _⟩, ⟨newAt (by simp)⟩⟩
        case round =>
          obtain ⟨k, hk, rfl, h0, hb, hg, hg2⟩ := hrel
          have p2 := (blk_cell hg.out 2).trans rfl
          have q2 := (blk_cell hg2.out 2).trans rfl
          have HFr := Aside0.mk (Kd.F_below HF.out hb.out)
          have HFr2 := Aside0.mk (Kd.F_below HF2.out hb.out)
          by_cases hlt : k < t.f2.length
          · have hlt2 : k < u.f2.length := by omega
            obtain ⟨ad, A2, c2, rfl, E0, E1, E2, hl2, hG, _⟩ := at_TmF HFr.out (k : Int) (by omega) (by omega)
            obtain ⟨bd, B2, d2, rfl, G0, G1, G2, gl2, hG2, _⟩ := at_TmF HFr2.out (k : Int) (by omega) (by omega)
            simp only [Int.toNat_natCast] at E0 E1 E2 G0 G1 G2
            have HE := Aside0.mk (eqF_drop (p := eqT) hlt hlt2)
            have HX := Aside0.mk (szT_mem (rd_mem t.f2 k hlt))
            have R1 := Aside0.mk (rd_get t.f2 k hlt)
            have R2 := Aside0.mk (rd_get u.f2 k hlt2)
            have HG := Aside0.mk hG
            have HG2 := Aside0.mk hG2
            have HC := Aside0.mk hl2
            have HC2 := Aside0.mk gl2
            have rp2 := fun d os => cell_regrown p2 d os
            have rq2 := fun d os => cell_regrown q2 d os
            have rE0 := fun d os => cell_regrown E0 d os
            have rE1 := fun d os => cell_regrown E1 d os
            have rE2 := fun d os => cell_regrown E2 d os
            have rG0 := fun d os => cell_regrown G0 d os
            have rG1 := fun d os => cell_regrown G1 d os
            have rG2 := fun d os => cell_regrown G2 d os
            clear hG hG2 hl2 gl2
            go_wp2_with (fail)
            (refine wp_region_quiet_below (by kernel_rfl) (by kernel_rfl) ?_; (repeat (quiet_step ((go_at_call 33; refine Calls.regrown_of (IH.out (rd_Tm t.f2 k) (rd_Tm u.f2 k) A2 B2 c2 d2 okx oky _ ?_ (Kd.F_below HG.out (below_regrown _ _ _)) HC.out (Kd.F_below HG2.out (below_regrown _ _ _)) HC2.out); have := HX.out; have := HS.out; have := HM.out; omega)))); refine wpQuiet_nil ?_; intro _ hw'; obtain ⟨⟨nq, osq⟩, hw''⟩ := hw'; subst hw'')
            have hbW := Aside0.mk (below_regrown wr nq osq)
            clear rp2 rq2 rE0 rE1 rE2 rG0 rG1 rG2 E0 E1 E2 G0 G1 G2 p2 q2
            generalize Go.Sort.grow (redrawn wr nq) osq = W at *
            cases hpx : eqT (rd_Tm t.f2 (k : Int)) (rd_Tm u.f2 (k : Int)) with
            | true =>
              have HR := Aside0.mk (show eqT t u = eqF eqT (t.f2.drop (k+1)) (u.f2.drop (k+1)) by rw [h0.out, HE.out, ← R1.out, ← R2.out, hpx, Bool.true_and])
              clear h0 HE HX hpx
              go_wp2
              go_roundw
              case rel => exact ⟨k + 1, by omega, by go_num, HR, ⟨hbT hb.out hbW.out⟩, ⟨(hbW.out.block _ (blk_lt hg.out)).trans hg.out⟩, ⟨(hbW.out.block _ (blk_lt hg2.out)).trans hg2.out⟩⟩
              case measure => simp [intOf]; omega
            | false =>
              have HR := Aside0.mk (show eqT t u = false by rw [h0.out, HE.out, ← R1.out, ← R2.out, hpx, Bool.false_and])
              clear h0 HE HX hpx
              go_wp2
              go_ret
              exact ⟨ret_bool HR.out.symm, hbT hb.out hbW.out⟩
          · obtain rfl : k = t.f2.length := by omega
            have HR := Aside0.mk (show eqT t u = true by rw [h0.out]; exact eqF_end HN.out)
            clear h0
            go_wp2
            go_ret
            exact ⟨ret_bool HR.out.symm, hb.out⟩
      · have HR := Aside0.mk (show eqT t u = false by rw [H.out, eqL_len hn, Bool.and_false])
        have b0 := bneF h0
        have b1 := bneF h1
        have b2 := bneT (a := (t.f2.length : Int)) (b := (u.f2.length : Int)) (by omega)
        have b3 : (t.f2.length != u.f2.length) = true := by simp [hn]
        clear h0 h1 hn
        go_enter Try.func33, Try.ntmps33
        go_wp2
        go_ret
        exact ⟨ret_bool HR.out.symm, HB.out⟩
    · have HR := Aside0.mk (show eqT t u = false by rw [H.out, beqF h1]; simp)
      have b0 := bneF h0
      have b1 := bneT h1
      clear h0 h1
      go_enter Try.func33, Try.ntmps33
      go_wp2
      go_ret
      exact ⟨ret_bool HR.out.symm, HB.out⟩
  · have HR := Aside0.mk (show eqT t u = false by rw [H.out, beqF h0]; simp)
    have b0 := bneT h0
    clear h0
    go_enter Try.func33, Try.ntmps33
    go_wp2
    go_ret
    exact ⟨ret_bool HR.out.symm, HB.out⟩
end Go.Proofs.Ytcgnpmjkeifokaa
-- K9
/- superposeref.CheckClauses, text.Right, clause.Check, clause.one, term.Check. -/
namespace Go.Proofs.Ytcgnpmjkeifokaa
open Go.RowKit Go.Proofs.YtcgnpmjkeifokaaW.PrintWords
set_option linter.unusedVariables false
set_option linter.unusedSimpArgs false
end Go.Proofs.Ytcgnpmjkeifokaa
-- K10
/- clause.Check, clause.one, term.Check, term.Count's callers: small ones. -/
namespace Go.Proofs.Ytcgnpmjkeifokaa
open Go.RowKit Go.Proofs.YtcgnpmjkeifokaaW.PrintWords
set_option linter.unusedVariables false
set_option linter.unusedSimpArgs false
end Go.Proofs.Ytcgnpmjkeifokaa
-- K11
/- A region in the text's order whose operations only read and whose callees only lay blocks: walked once, over every such world. clause.sides, superposeref.SameSides. -/
namespace Go.Proofs.Ytcgnpmjkeifokaa
open Go.RowKit Go.Proofs.YtcgnpmjkeifokaaW.PrintWords
set_option linter.unusedVariables false
set_option linter.unusedSimpArgs false
/-- The same walk, behind a name that is not looked through. -/
structure WQ (P : Program) (ops : Array Oper) (C : World → Prop) (Q : Act → Prop) (l : List Oper) (a : Act) : Prop where mk :: (out : wpQuiet P ops C Q l a)
theorem wq_step {P : Program} {ops : Array Oper} {C : World → Prop} {Q : Act → Prop} {a : Act} {o : Oper} {rest : List Oper}
    (h : ∀ K : Act → Prop, (∀ a, WQ P ops C Q rest a → K a) → if Region.wanted o (yielded ops a.tmps) then o.quiet P a C K else K (a.put o.dst undef)) : WQ P ops C Q (o :: rest) a :=
  ⟨wpQuiet_step fun K hK => h K (fun a ha => hK a ha.out)⟩
theorem wq_nil {P : Program} {ops : Array Oper} {C : World → Prop} {Q : Act → Prop} {a : Act} (h : Q a) : WQ P ops C Q [] a := ⟨h⟩
def ClsB (w w' : World) : Prop := ∃ p : Regrown, w' = Go.Sort.grow (redrawn w p.d) p.os
theorem wpQuiet_mono {P : Program} {ops : Array Oper} {C : World → Prop} {Q Q' : Act → Prop} (h : ∀ a, Q a → Q' a) : ∀ (l : List Oper) (a : Act), wpQuiet P ops C Q l a → wpQuiet P ops C Q' l a
  | [], a, hh => h a hh
  | o :: rest, a, hh => by
    unfold wpQuiet at hh ⊢
    split
    · rename_i hw
      rw [if_pos hw] at hh
      exact Oper.quiet_mono (fun a => wpQuiet_mono h rest a) hh
    · rename_i hw
      rw [if_neg hw] at hh
      exact wpQuiet_mono h rest _ hh
theorem wq_draws {P : Program} {id : Nat} {Q : Exit → Act → World → Prop} {a : Act} {w : World} {l : List Oper} (hm : P.follows .mixedOrders = true) (hB : Region.lexB .any l.toArray = true)
    (h : WQ P l.toArray (fun w' => ∃ p : Regrown, w' = Go.Sort.grow (redrawn w p.d) p.os) (fun a' => ∀ w', Below w.heap.size w w' → Q .normal a' w') l a) : (Code.region id l.toArray true).wp P Q a w :=
  wp_region_quiet (C := fun w' => ∃ p : Regrown, w' = Go.Sort.grow (redrawn w p.d) p.os) hm hB ⟨⟨w.drawn + 1, #[]⟩, by rw [Go.Sort.grow_empty]; rfl⟩ (by
    have := wpQuiet_mono (Q' := fun a' => ∀ w', (∃ p : Regrown, w' = Go.Sort.grow (redrawn w p.d) p.os) → Q .normal a' w') (fun a' h w' hC => h w' (by obtain ⟨p, rfl⟩ := hC; exact below_regrown _ _ _)) l a h.out
    simpa using this)
def sidesB (a b : Li) : Bool := eqT a.f1 b.f1 && eqT a.f2 b.f2 || eqT a.f1 b.f2 && eqT a.f2 b.f1
end Go.Proofs.Ytcgnpmjkeifokaa
-- K12
/- The part at a place: term.Find, plain laws. -/
namespace Go.Proofs.Ytcgnpmjkeifokaa
open Go.RowKit Go.Proofs.YtcgnpmjkeifokaaW.PrintWords
set_option linter.unusedVariables false
set_option linter.unusedSimpArgs false
/-- The part at a place. -/
def atP : Tm → List Int → Option Tm
  | t, [] => some t
  | t, i :: p => if 0 ≤ i ∧ i < t.f2.length then atP (rd_Tm t.f2 i) p else none
def atT (t : Tm) (p : List Int) : Tm := (atP t p).getD zTm
def atB (t : Tm) (p : List Int) : Bool := (atP t p).isSome
/-! ### a store into a block that is known whole -/
theorem sizeTm : (Try.prog.info? 46).map (·.size) = some 3 := by kernel_rfl
theorem sizeTs : (Try.prog.info? 44).map (·.size) = some 1 := by kernel_rfl
theorem gbS {w w1 w2 : World} {g : Nat} (h : Below w.heap.size w w1) (k : w1.grownBy w2 (some g)) (hg : w.heap.size ≤ g) : Below w.heap.size w w2 :=
  ⟨k.os.trans h.os, k.tape.trans h.tape, k.output.trans h.output, Nat.le_trans h.size k.size, fun i hi => (k.block i (Nat.lt_of_lt_of_le hi h.size) (by intro e; injection e with e; omega)).trans (h.block i hi)⟩
section
variable {P : Program} {ops : Array Oper} {rest : List Oper} {o : Oper} {a : Act} {Q : Exit → Act → World → Prop} {W : World}
theorem run_blk {t : TypeId} {g off : Nat} {e : TypeId} {cur : Array Value} (cur' : Array Value) {u : Value} (seg : List Value) (hu : u.cells.toList = seg) (ht : (P.info? t).map (·.size) = some seg.length) (h1 : ∀ q ∈ seg, q.oneCell' = true)
    (hh : W.heap[g]? = some (.cells cur e (0, 0))) (hfit : off + seg.length ≤ cur.size) (hc : cur.toList.take off ++ seg ++ cur.toList.drop (off + seg.length) = cur'.toList) :
    ∃ w1, (Instr.storeAt t (.pointer (some ⟨g, off, none⟩)) u).run P W = .ok () w1 ∧ w1.heap[g]? = some (.cells cur' e (0, 0)) ∧ W.grownBy w1 (some g) ∧ w1.heap.size = W.heap.size := by
  refine ⟨_, run_store_run t u seg hh hu ht hfit h1, ?_, ?_, ?_⟩
  · obtain ⟨c2, h2, _, h4⟩ := setCells_row seg off W cur hh hfit
    rw [h2, show c2 = cur' from Array.toList_inj.1 (h4.trans hc)]
  · obtain ⟨s1, s2, s3, s4⟩ := setCells_same g seg off W
    exact ⟨s1, s2, s3, by rw [s4]; exact Nat.le_refl _, fun k _ hk => setCells_far _ _ k (fun he => hk (by rw [he]))⟩
  · exact (setCells_same g seg off W).2.2.2
theorem st_blk (hgd : o.guard = none) (hN : o.dst = none) {t : TypeId} {p x : Operand} (ho : o.op = .store t p x) {g off : Nat} {e : TypeId} {cur : Array Value} (cur' : Array Value) {u : Value} (seg : List Value)
    (haddr : a.eval p = .pointer (some ⟨g, off, none⟩)) (hx : a.eval x = u) (hu : u.cells.toList = seg) (ht : (P.info? t).map (·.size) = some seg.length) (h1 : ∀ q ∈ seg, q.oneCell' = true)
    (hh : W.heap[g]? = some (.cells cur e (0, 0))) (hfit : off + seg.length ≤ cur.size) (hc : cur.toList.take off ++ seg ++ cur.toList.drop (off + seg.length) = cur'.toList)
    (h : ∀ w1, w1.heap[g]? = some (.cells cur' e (0, 0)) → W.grownBy w1 (some g) → w1.heap.size = W.heap.size → wpList P ops Q rest a w1) : wpList P ops Q (o :: rest) a W := by
  obtain ⟨w1, hr, h2, h3, h4⟩ := run_blk (P := P) cur' seg hu ht h1 hh hfit hc
  refine wpList_plain hgd fun K hK => ?_
  unfold Oper.wp execOp
  simp only [ho, haddr, hx, Sem.run_bind, Sem.run_pure, Result.andThen_ok, hr]
  show K (a.put o.dst undef) _
  rw [hN]
  exact hK a _ (h _ h2 h3 h4)
end
theorem one3 (a b : Int) (A : Option Addr) (n c : Nat) : ∀ q ∈ [Value.int .i64 a, .int .i64 b, .slice A n c], q.oneCell' = true := by
  intro q hq
  simp only [List.mem_cons, List.not_mem_nil, or_false] at hq
  rcases hq with rfl | rfl | rfl <;> rfl
theorem one1 (A : Option Addr) (n c : Nat) : ∀ q ∈ [Value.slice A n c], q.oneCell' = true := by
  intro q hq
  simp only [List.mem_cons, List.not_mem_nil, or_false] at hq
  subst hq; rfl
section
variable {ops : Array Oper} {rest : List Oper} {o : Oper} {act : Act} {Q : Exit → Act → World → Prop} {W : World}
/-- A term into a term's own block. -/
theorem st_tm (p : Tmp) {x : Operand} (ho : o.op = .store 46 (.tmp p) x) (hgd : o.guard = none) (hN : o.dst = none) {g : Nat} {a b a' b' : Int} {A A' : Option Addr} {n c n' c' : Nat}
    (haddr : act.eval (.tmp p) = .pointer (some ⟨g, 0, none⟩)) (hx : act.eval x = .agg #[.int .i64 a', .int .i64 b', .slice A' n' c'])
    (hh : W.heap[g]? = some (.cells #[.int .i64 a, .int .i64 b, .slice A n c] 46 (0, 0)))
    (h : ∀ w1, w1.heap[g]? = some (.cells #[.int .i64 a', .int .i64 b', .slice A' n' c'] 46 (0, 0)) → W.grownBy w1 (some g) → w1.heap.size = W.heap.size → wpList Try.prog ops Q rest act w1) : wpList Try.prog ops Q (o :: rest) act W :=
  st_blk hgd hN ho #[.int .i64 a', .int .i64 b', .slice A' n' c'] [.int .i64 a', .int .i64 b', .slice A' n' c'] haddr hx rfl sizeTm (one3 _ _ _ _ _) hh (Nat.le_refl 3) rfl h
/-- The arguments of a term's own block. -/
theorem st_args (p : Tmp) {x : Operand} (ho : o.op = .store 44 (.tmp p) x) (hgd : o.guard = none) (hN : o.dst = none) {g : Nat} {a b : Int} {A A' : Option Addr} {n c n' c' : Nat}
    (haddr : act.eval (.tmp p) = .pointer (some ⟨g, 2, none⟩)) (hx : act.eval x = .slice A' n' c')
    (hh : W.heap[g]? = some (.cells #[.int .i64 a, .int .i64 b, .slice A n c] 46 (0, 0)))
    (h : ∀ w1, w1.heap[g]? = some (.cells #[.int .i64 a, .int .i64 b, .slice A' n' c'] 46 (0, 0)) → W.grownBy w1 (some g) → w1.heap.size = W.heap.size → wpList Try.prog ops Q rest act w1) : wpList Try.prog ops Q (o :: rest) act W :=
  st_blk hgd hN ho #[.int .i64 a, .int .i64 b, .slice A' n' c'] [.slice A' n' c'] haddr hx rfl sizeTs (one1 _ _ _) hh (Nat.le_refl 3) rfl h
end
theorem F_none (w : World) (ok : Nat → Prop) : Kd.F kTm w ok none zTm.f2.length zTm.f2 := fun W' _ => Kd.C_nil _ _
end Go.Proofs.Ytcgnpmjkeifokaa
-- KHead
/- A statement that draws its order: its first n operations in whatever order, a relation S held behind each; then the others (the stores), which wait for all of them, in the text's order, where S need not hold. -/
namespace Go.Proofs.Ytcgnpmjkeifokaa
open Go.RowKit Go.Proofs.YtcgnpmjkeifokaaW.PrintWords
set_option linter.unusedVariables false
section
variable {P : Program} {ops : Array Oper} {Q : Exit → Act → World → Prop} {md : Region.Mode} {S : World → Prop} {n : Nat} {L : Array Bool → Act → World → Prop}
/-- The head, in whatever order; then L. -/
def Hd (P : Program) (md : Region.Mode) (ops : Array Oper) (Q : Exit → Act → World → Prop) (S : World → Prop) (n : Nat) (L : Array Bool → Act → World → Prop) : Nat → Array Bool → Act → World → Prop
  | 0, listed, a, w => L listed a w
  | f + 1, listed, a, w => Region.ready md ops listed ≠ [] ∧ ∀ i ∈ Region.ready md ops listed, i < n ∧ wpOp P ops Q i (fun a' w' => S w' ∧ Hd P md ops Q S n L f (listed.setIfInBounds i true) a' w') a w
theorem hd_any {g : Nat} (hL : ∀ listed a w, L listed a w → wpAny P md ops Q g listed a w) :
    ∀ (f : Nat) (listed : Array Bool) (a : Act) (w : World), Hd P md ops Q S n L f listed a w → wpAny P md ops Q (f + g) listed a w
  | 0, listed, a, w, h => by rw [Nat.zero_add]; exact hL _ _ _ h
  | f + 1, listed, a, w, h => by
    rw [show f + 1 + g = (f + g) + 1 by omega]
    exact ⟨fun h0 => absurd h0 h.1, fun i hi => wpOp_mono (fun a' w' h' => hd_any hL f _ a' w' h'.2) (h.2 i hi).2⟩
/-- All from n on wait for operation i. -/
def tailsB (md : Region.Mode) (ops : Array Oper) (n i : Nat) : Bool := (List.range ops.size).all fun t => decide (t < n) || Region.waitsFor md ops t i
theorem tails_not {i : Nat} (h : tailsB md ops n i = true) {listed : Array Bool} (hun : listed.getD i true = false) : ∀ t, n ≤ t → t ∉ Region.ready md ops listed := by
  intro t ht hr
  obtain ⟨_, ot, hot, hall⟩ := mem_ready.1 hr
  have htlt : t < ops.size := (Array.getElem?_eq_some_iff.1 hot).1
  have h1 := List.all_eq_true.1 h t (List.mem_range.2 htlt)
  simp only [Bool.or_eq_true, decide_eq_true_eq] at h1
  rcases h1 with h1 | h1
  · omega
  · obtain ⟨o', ho', e, he, hb, hon⟩ := Region.waitsFor_spec h1
    have : o' = ot := Option.some.inj (ho'.symm.trans hot)
    subst this
    have h2 := hall e he hb
    rw [hon, getD_both hun] at h2
    cases h2
theorem hd_first {i : Nat} {oi : Oper} {v : Value} (hi : ops[i]? = some oi) (hsel : ∀ (j : Nat) (o : Oper) cs b, ops[j]? = some o → o.op ≠ .select cs b)
    (hQ : ∀ c a w, Q (.panic c) (a.put oi.dst v) w → Q (.panic c) a w) (hin : i < n) (htl : tailsB md ops n i = true) (hdone : ∀ listed a w, L listed a w → ∀ j ∈ Region.ready md ops listed, n ≤ j) :
    ∀ (f : Nat) (listed : Array Bool) (a : Act) (w : World),
      (∀ j oj, ops[j]? = some oj → j ≠ i → listed.getD j true = false → (∀ e ∈ oj.after, Region.binds md e = true → e.on ≠ i) → oi.apart ops oj = true) →
      i ∈ Region.ready md ops listed → YieldsIf P ops S oi v a → S w →
      Hd P md ops Q S n L f (listed.setIfInBounds i true) (a.put oi.dst v) w → Hd P md ops Q S n L (f + 1) listed a w := by
  intro f
  induction f with
  | zero =>
    intro listed a w _ hr hy hS H
    have hun := (mem_ready.1 hr).1
    refine ⟨fun h => (by rw [h] at hr; cases hr), fun j hj => ?_⟩
    by_cases hji : j = i
    · subst hji; exact ⟨hin, hy.wpOp hi hS ⟨hS, H⟩⟩
    · exact absurd hj (tails_not htl hun j (hdone _ _ _ H j (ready_mono hj hji)))
  | succ f ih =>
    intro listed a w hfree hr hy hS H
    have hun := (mem_ready.1 hr).1
    refine ⟨fun h => (by rw [h] at hr; cases hr), fun j hj => ?_⟩
    by_cases hji : j = i
    · subst hji; exact ⟨hin, hy.wpOp hi hS ⟨hS, H⟩⟩
    · have h1 := (H.2 j (ready_mono hj hji)).2
      refine ⟨(H.2 j (ready_mono hj hji)).1, ?_⟩
      obtain ⟨hjun, oj, hoj, hall⟩ := mem_ready.1 hj
      have hnot : ∀ e ∈ oj.after, Region.binds md e = true → e.on ≠ i := fun e he hb heq => by
        have h1 := hall e he hb
        rw [heq, getD_both hun] at h1
        cases h1
      have h2 := wpOp_putIf hoj (hfree j oj hoj hji hjun hnot) (fun cs b => hsel i oi cs b hi) (fun cs b => hsel j oj cs b hoj) hQ hy h1
      have hfree' : ∀ k ok, ops[k]? = some ok → k ≠ i → (listed.setIfInBounds j true).getD k true = false →
          (∀ e ∈ ok.after, Region.binds md e = true → e.on ≠ i) → oi.apart ops ok = true := fun k ok hk hki hun hno => by
        refine hfree k ok hk hki ?_ hno
        by_cases hjk : j = k
        · subst hjk; exact hjun
        · rw [getD_set_ne true hjk] at hun; exact hun
      refine wpOp_mono (fun a' w' h3 => ⟨h3.2.1, ih (listed.setIfInBounds j true) a' w' hfree' (ready_mono hr (Ne.symm hji)) h3.1 h3.2.1 ?_⟩) h2
      rw [Array.setIfInBounds_comm _ _ hji]
      exact h3.2.2
end
section
variable {P : Program} {ops : Array Oper} {Q : Exit → Act → World → Prop} {S : World → Prop} {n g : Nat} {T : Act → World → Prop}
/-- The head of a region; then T, the others being in the text's order. -/
structure HD (P : Program) (ops : Array Oper) (Q : Exit → Act → World → Prop) (S : World → Prop) (n g : Nat) (T : Act → World → Prop) (f : Nat) (listed : Array Bool) (a : Act) (w : World) : Prop where
  mk :: (out : Hd P .any ops Q S n (fun listed a w => Region.seqB .any ops g n listed = true ∧ T a w) f listed a w)
theorem hd_take {f i : Nat} {oi : Oper} {v : Value} {listed : Array Bool} {a : Act} {w : World} (hi : ops[i]? = some oi) (hs : Region.noSelect ops = true) (hf : Region.free .any ops listed i = true)
    (hr : (Region.ready .any ops listed).contains i = true) (htl : tailsB .any ops n i = true) (hin : i < n) (hQ : ∀ c a w, Q (.panic c) (a.put oi.dst v) w → Q (.panic c) a w)
    (hw : Region.wanted oi (yielded ops a.tmps) = true) (hy : ∀ w, S w → (execOp a.eval oi).run P w = .ok (.value v) w) (hS : S w)
    (h : HD P ops Q S n g T f (listed.setIfInBounds i true) (a.put oi.dst v) w) : HD P ops Q S n g T (f + 1) listed a w :=
  ⟨hd_first hi (Region.noSelect_spec hs) hQ hin htl (fun _ _ _ hL => seqB_ready hL.1) f listed a w (Region.free_spec hi hf) (by simpa using hr) (.inl ⟨hw, hy⟩) hS h.out⟩
/-- One alone can come up. -/
theorem hd_one {f i : Nat} {oi : Oper} {listed : Array Bool} {a : Act} {w : World} (hi : ops[i]? = some oi) (hr : Region.ready .any ops listed = [i]) (hin : i < n)
    (h : ∀ K : Act → World → Prop, Shut (∀ a w, S w → (S w → HD P ops Q S n g T f (listed.setIfInBounds i true) a w) → K a w) → if Region.wanted oi (yielded ops a.tmps) = true then Oper.wp P oi a w K Q else K (a.put oi.dst undef) w) : HD P ops Q S n g T (f + 1) listed a w :=
  ⟨⟨fun h0 => (by rw [hr] at h0; cases h0), fun j hj => (by
    rw [hr] at hj
    have : j = i := by simpa using hj
    subst this
    exact ⟨hin, wpOp_step hi (fun K hK => h K (fun a w hS hH => hK a w ⟨hS, (hH hS).out⟩))⟩)⟩⟩
/-- Two can come up. -/
theorem hd_two {f i j : Nat} {listed : Array Bool} {a : Act} {w : World} {oi oj : Oper} (hi : ops[i]? = some oi) (hj : ops[j]? = some oj) (hr : Region.ready .any ops listed = [i, j]) (hin : i < n) (hjn : j < n)
    (h1 : ∀ K : Act → World → Prop, Shut (∀ a w, S w → (S w → HD P ops Q S n g T f (listed.setIfInBounds i true) a w) → K a w) → if Region.wanted oi (yielded ops a.tmps) = true then Oper.wp P oi a w K Q else K (a.put oi.dst undef) w)
    (h2 : ∀ K : Act → World → Prop, Shut (∀ a w, S w → (S w → HD P ops Q S n g T f (listed.setIfInBounds j true) a w) → K a w) → if Region.wanted oj (yielded ops a.tmps) = true then Oper.wp P oj a w K Q else K (a.put oj.dst undef) w) : HD P ops Q S n g T (f + 1) listed a w :=
  ⟨⟨fun h0 => (by rw [hr] at h0; cases h0), fun k hk => (by
    rw [hr] at hk
    rcases (by simpa using hk : k = i ∨ k = j) with rfl | rfl
    · exact ⟨hin, wpOp_step hi (fun K hK => h1 K (fun a w hS hH => hK a w ⟨hS, (hH hS).out⟩))⟩
    · exact ⟨hjn, wpOp_step hj (fun K hK => h2 K (fun a w hS hH => hK a w ⟨hS, (hH hS).out⟩))⟩)⟩⟩
theorem hd_done {listed : Array Bool} {a : Act} {w : World} (hB : Region.seqB .any ops g n listed = true) (h : T a w) : HD P ops Q S n g T 0 listed a w := ⟨⟨hB, h⟩⟩
end
theorem hd_region {P : Program} {id : Nat} {Q : Exit → Act → World → Prop} {a : Act} {w : World} {l : List Oper} (n g : Nat) (S : World → Prop) (hm : P.follows .mixedOrders = true) (hn : n + g = l.length)
    (h : ∀ W, Below w.heap.size w W → W.heap.size = w.heap.size → S W → HD P l.toArray Q S n g (fun a' w' => wpList P l.toArray Q (l.drop n) a' w') n (Array.replicate l.length false) a W)
    (hS : ∀ W, Below w.heap.size w W → S W) : (Code.region id l.toArray true).wp P Q a w := by
  refine wp_region_any hm ?_
  have hB : Below w.heap.size w { w with drawn := w.drawn + 1 } := ⟨rfl, rfl, rfl, Nat.le_refl _, fun _ _ => rfl⟩
  have h1 := (h { w with drawn := w.drawn + 1 } hB rfl (hS _ hB)).out
  have hdl : (l.drop n).length = g := by rw [List.length_drop]; omega
  have := hd_any (g := g) (fun listed a' w' hL => by
    have := wpAny_of_seq (md := .any) (P := P) (ops := l.toArray) (Q' := Q) (l.drop n) n listed a' w' (fun j => by simp [List.getElem?_drop]) (by rw [hdl]; exact hL.1) hL.2
    rwa [hdl] at this) _ _ _ _ h1
  rw [hn] at this
  simpa using this
end Go.Proofs.Ytcgnpmjkeifokaa
-- K13
/- superposeref.AtOf. -/
namespace Go.Proofs.Ytcgnpmjkeifokaa
open Go.RowKit Go.Proofs.YtcgnpmjkeifokaaW.PrintWords
set_option linter.unusedVariables false
set_option linter.unusedSimpArgs false
end Go.Proofs.Ytcgnpmjkeifokaa
-- K14
/- term.Mapped by a function that only reads and makes what is new; term.Copied. -/
namespace Go.Proofs.Ytcgnpmjkeifokaa
open Go.RowKit Go.Proofs.YtcgnpmjkeifokaaW.PrintWords
set_option linter.unusedVariables false
set_option linter.unusedSimpArgs false
mutual
def mapT (δ : Tm → Option Tm) : Tm → Tm
  | ⟨v, f, l⟩ => match δ ⟨v, f, l⟩ with | some u => u | none => ⟨v, f, mapL δ l⟩
def mapL (δ : Tm → Option Tm) : List Tm → List Tm
  | [] => []
  | t :: ts => mapT δ t :: mapL δ ts
end
theorem mapT_some {δ : Tm → Option Tm} {t u : Tm} (h : δ t = some u) : mapT δ t = u := by cases t; rw [mapT, h]
theorem mapT_none {δ : Tm → Option Tm} {t : Tm} (h : δ t = none) : mapT δ t = ⟨t.f0, t.f1, mapL δ t.f2⟩ := by cases t; rw [mapT, h]
theorem mapL_len (δ : Tm → Option Tm) (l : List Tm) : (mapL δ l).length = l.length := by
  induction l with
  | nil => simp [mapL]
  | cons t ts ih => simp [mapL, ih]
theorem mapL_append (δ : Tm → Option Tm) (a b : List Tm) : mapL δ (a ++ b) = mapL δ a ++ mapL δ b := by
  induction a with
  | nil => simp [mapL]
  | cons t ts ih => simp [mapL, ih]
theorem mapL_take_succ (δ : Tm → Option Tm) (l : List Tm) (i : Nat) (h : i < l.length) : mapL δ (l.take (i+1)) = mapL δ (l.take i) ++ [mapT δ (rd_Tm l i)] := by
  rw [List.take_succ_eq_append_getElem h, mapL_append, rd_get l i h]; simp [mapL]
/-- A function value that answers δ, reading what stands at w0 and making what is new. -/
def DoC (g : Nat) (lb : Array Value) (δ : Tm → Option Tm) (ok : Nat → Prop) (w0 : World) : Prop :=
  ∀ (x : Tm) (A : Option Addr) (c : Nat) (W : World), Below w0.heap.size w0 W → Kd.F kTm W ok A x.f2.length x.f2 → x.f2.length ≤ c →
    Calls Try.prog g (#[.agg #[.int .i64 x.f0, .int .i64 x.f1, .slice A x.f2.length c]] ++ lb) W fun e w' => ∃ (r : Tm) (A' : Option Addr) (c' : Nat), e = .returned (.tuple #[.agg #[.int .i64 r.f0, .int .i64 r.f1, .slice A' r.f2.length c'], .bool (δ x).isSome]) ∧ r.f2.length ≤ c' ∧
      (∀ u, δ x = some u → r = u ∧ Kd.F kTm w' (fun k => W.heap.size ≤ k) A' r.f2.length r.f2) ∧ Below W.heap.size W w'
theorem hbW {w w' : World} {B B' : Nat} (h : Below B w w') (hB : B' ≤ B) : Below B' w w' := ⟨h.os, h.tape, h.output, h.size, fun i hi => h.block i (Nat.lt_of_lt_of_le hi hB)⟩
set_option maxHeartbeats 4000000 in
set_option maxRecDepth 100000 in
theorem mapped_any (g : Nat) (lb : Array Value) (δ : Tm → Option Tm) (ok : Nat → Prop) (w0 : World) (eg : ∀ args w, (callFunc g args).run Try.prog w = .ok (.enter g args) w) (hd : DoC g lb δ ok w0) (m : Nat) :
    ∀ (t : Tm) (A : Option Addr) (c : Nat) (w : World), szT t ≤ m → szT t * 40 ≤ 140737488355328 → Below w0.heap.size w0 w → Kd.F kTm w (fun k => ok k ∧ k < w0.heap.size) A t.f2.length t.f2 → t.f2.length ≤ c →
    Calls Try.prog 106 #[.agg #[.int .i64 t.f0, .int .i64 t.f1, .slice A t.f2.length c], .func (.func g) #[] lb] w fun e w' => ∃ A' c', e = .returned (.agg #[.int .i64 (mapT δ t).f0, .int .i64 (mapT δ t).f1, .slice A' (mapT δ t).f2.length c']) ∧ (mapT δ t).f2.length ≤ c' ∧ Kd.F kTm w' (fun k => w.heap.size ≤ k) A' (mapT δ t).f2.length (mapT δ t).f2 ∧ Below w.heap.size w w' := by
  induction m with
  | zero => intro t A c w h; have := szT_pos t; omega
  | succ m ih =>
  intro t A c w hm hbd hB0 hF hc
  have hlen := Kd.F_max hF
  have IH := Aside0.mk ih
  have HD := Aside0.mk hd
  have HF := Aside0.mk hF
  have HM := Aside0.mk hm
  have HBD := Aside0.mk hbd
  have HS := Aside0.mk (szT_eq t)
  have HB0 := Aside0.mk hB0
  have hz0 := hB0.size
  clear hF ih hm hbd hd hB0
  have g0 := newAt (w := w) (o := .cells #[.int .i64 t.f0, .int .i64 t.f1, .slice A t.f2.length c] 46) rfl
  have g1 := blk_alloc g0 (.cells #[.int .i64 0, .int .i64 0, .slice none 0 0] 46)
  have g2 := newAt (w := w.alloc (.cells #[.int .i64 t.f0, .int .i64 t.f1, .slice A t.f2.length c] 46)) (o := .cells #[.int .i64 0, .int .i64 0, .slice none 0 0] 46) (k := w.heap.size + 1) (by simp)
  have HB := Aside0.mk (below_alloc (below_alloc (Below.refl w.heap.size w) (.cells #[.int .i64 t.f0, .int .i64 t.f1, .slice A t.f2.length c] 46)) (.cells #[.int .i64 0, .int .i64 0, .slice none 0 0] 46))
  go_enter Try.func106, Try.ntmps106
  go_upto_region 1 with (fail)
  generalize (w.alloc (.cells #[.int .i64 t.f0, .int .i64 t.f1, .slice A t.f2.length c] 46)).alloc (.cells #[.int .i64 0, .int .i64 0, .slice none 0 0] 46) = W at *
  have c0 := (blk_cell g1 0).trans rfl
  have c1 := (blk_cell g1 1).trans rfl
  have c2 := (blk_cell g1 2).trans rfl
  have HT := Aside0.mk g1
  have HR := Aside0.mk g2
  have hl1 := blk_lt g2
  clear g0 g1 g2
  have hWz : w0.heap.size ≤ W.heap.size := by have := HB.out.size; omega
  have HBW : Aside0 (Below w0.heap.size w0 W) := ⟨below_then HB0.out hz0 HB.out⟩
  have HFW := Aside0.mk (Kd.F_below HF.out HB.out)
  go_upto_region 2 with (first | (refine (HD.out t A c W HBW.out (Kd.F_mono HFW.out (fun _ h => h.1)) hc).mono ?_; rintro e w2 ⟨r, A', c', rfl, hrc, hru, hb2⟩; have HRU := Aside0.mk hru; have HB2 := Aside0.mk hb2; clear hru hb2 c0 c1 c2) | (((with_reducible refine gate_store (t := 46) (p := 5) rfl ?_); refine st_tm 5 rfl rfl rfl rfl rfl (heap_alloc_new _ _) ?_); intro w3 hs3 hG3 hz3; have HS3 := Aside0.mk hs3; have HG3 := Aside0.mk hG3; clear hs3 hG3))
  have g1 := HB2.out.block _ (blk_lt HT.out) |>.trans HT.out
  have g2 := HB2.out.block _ hl1 |>.trans HR.out
  have hz2 := HB2.out.size
  have HB23 := Aside0.mk (gbS (below_alloc (Below.refl w2.heap.size w2) _) HG3.out (Nat.le_refl _))
  have hz3' := HB23.out.size
  have p3 := (blk_cell HS3.out 0).trans rfl
  have p4 := (blk_cell HS3.out 1).trans rfl
  have p5 := (blk_cell HS3.out 2).trans rfl
  have HT3 := Aside0.mk ((HB23.out.block _ (blk_lt g1)).trans g1)
  have HR3 := Aside0.mk ((HB23.out.block _ (blk_lt g2)).trans g2)
  have HB3 := Aside0.mk (hbT (hbT HB.out HB2.out) HB23.out)
  clear g1 g2 HT HR HS3 HG3 hz3
  rcases hδ : δ t with _ | u
  · have hB : (δ t).isSome = false := by rw [hδ]; rfl
    have HE := Aside0.mk (mapT_none hδ)
    have hT3 := HT3.out
    have t2 := (blk_cell hT3 2).trans rfl
    have hl3 := blk_lt hT3
    clear hδ HRU p3 p4 p5 hT3
    simp only [Option.isSome_none]
    clear hB
    go_wp2
    go_loopw [7, 21] (fun v7 i wr => ∃ (k : Nat) (vk : Value), k ≤ t.f2.length ∧ i = .int .i64 k ∧ vk = v7 ∧ Aside0 (Kd.N kTm 46 wr (w.heap.size + 2) (fun k => w.heap.size + 2 ≤ k) vk (mapL δ (t.f2.take k))) ∧ Aside0 (Below w.heap.size w wr) ∧ Aside0 (wr.heap[w.heap.size]? = some (.cells #[.int .i64 t.f0, .int .i64 t.f1, .slice A t.f2.length c] 46 (0, 0))) ∧ Aside0 (wr.heap[w.heap.size + 1]? = some (.cells #[.int .i64 0, .int .i64 0, .slice none 0 0] 46 (0, 0)))) (fun _ i _ => t.f2.length - (intOf i).toNat)
    case atStart => exact ⟨0, _, by omega, rfl, rfl, ⟨by simpa [mapL] using Kd.N_nil kTm _ _ _ _⟩, HB3, HT3, HR3⟩
    case round =>
      obtain ⟨k, vk, hk, rfl, rfl, HNk, HBr, HTr, HRr⟩ := hrel
      have hzr := HBr.out.size
      have hl4 := blk_lt HRr.out
      by_cases hlt : k < t.f2.length
      · obtain ⟨ad, A2, c2, rfl, E0, E1, E2, hl2, hF2, _⟩ := at_TmF (Kd.F_below HF.out HBr.out) (k : Int) (by omega) (by omega)
        simp only [Int.toNat_natCast] at E0 E1 E2
        have HTm := Aside0.mk (szT_mem (rd_mem t.f2 k hlt))
        have HP := Aside0.mk (mapL_take_succ δ t.f2 k hlt)
        have HF2 := Aside0.mk hF2
        have HC2 := Aside0.mk hl2
        have HLt := Aside0.mk (Kd.N_lt HNk.out)
        clear hF2 hl2
        go_wp2_with (first | (((with_reducible refine gate_store (t := 46) (p := 9) rfl ?_); refine st_tm 9 rfl rfl rfl rfl rfl (heap_alloc_new _ _) ?_); intro w4 hs4 hG4 hz4; have s0 := (blk_cell hs4 0).trans rfl; have s1 := (blk_cell hs4 1).trans rfl; have s2 := (blk_cell hs4 2).trans rfl; have HBr4 := Aside0.mk (gbS (below_alloc (Below.refl wr.heap.size wr) _) hG4 (Nat.le_refl _)); have hz4' := HBr4.out.size; clear hs4 hG4 E0 E1 E2) | (go_at_call 106; refine (IH.out (rd_Tm t.f2 k) A2 c2 _ ?_ ?_ ?_ (Kd.F_below HF2.out HBr4.out) HC2.out).mono ?_; (have := HS.out; have := HM.out; have := HTm.out; omega); (have := HS.out; have := HBD.out; have := HTm.out; omega); exact below_then HB0.out hz0 (hbT HBr.out HBr4.out); rintro e w5 ⟨A5, c5, rfl, h5, hF5, hb5⟩; have HF5 := Aside0.mk hF5; have HB5 := Aside0.mk hb5; have hz5 := hb5.size; clear hF5 hb5) | (at_builtin; refine Kd.N_append kTm (w0 := w5) (w.heap.size + 2) rfl _ _ 44 46 _ 40 rfl Try.underlying44 infoTm rfl (by decide) (by decide) vk _ (mapT δ (rd_Tm t.f2 k)) _ (fun k => w.heap.size + 2 ≤ k) (fun k => w4.heap.size ≤ k) rfl rfl (kTm_mkF w5 _ _ h5 HF5.out) ?_ (fun k hk => by omega) (Kd.N_below (Kd.N_below HNk.out HBr4.out) HB5.out) (Below.refl _ _) (by omega) ?_ ?_; (intro k' hk'; refine ⟨by omega, fun e => ?_⟩; have := HLt.out _ e.symm; simp at hz4; omega); (have h1 := HS.out; have h2 := HBD.out; rw [mapL_len]; have h3 := szL_len t.f2; have h4 := List.length_take_le k t.f2; omega); intro v1 w6 hN1 hB1 hG1 hI1; have HN1 := Aside0.mk hN1; have HB1 := Aside0.mk hB1; clear hN1 hB1 hG1 hI1))
        go_roundw
        case rel =>
          have hb5 := hbT (hbT HBr.out HBr4.out) HB5.out
          exact ⟨k + 1, v1, by omega, by go_num, rfl, ⟨by rw [HP.out]; exact HN1.out⟩, ⟨hb5.trans (hbW HB1.out (by omega))⟩, ⟨(HB1.out.block _ (by omega)).trans ((HB5.out.block _ (by omega)).trans ((HBr4.out.block _ (by omega)).trans HTr.out))⟩, ⟨(HB1.out.block _ (by omega)).trans ((HB5.out.block _ (by omega)).trans ((HBr4.out.block _ (by omega)).trans HRr.out))⟩⟩
        case measure => simp [intOf]; omega
      · obtain rfl : k = t.f2.length := by omega
        obtain ⟨Av, cv, rfl⟩ := Kd.N_slice HNk.out
        have HN := Aside0.mk HNk.out
        simp only [List.take_length] at HN
        simp only [List.take_length]
        have hmc := (Kd.N_reads' HN.out).2.1
        have HNB := Aside0.mk (Kd.N_base HN.out)
        have HTr2 := HTr.out
        clear HNk
        go_wp2_with (first | (((with_reducible refine gate_store (t := 44) (p := 33) rfl ?_); refine st_args 33 rfl rfl rfl rfl rfl HTr.out ?_); intro w4 hs4 hG4 hz4; have HG4 := Aside0.mk hG4; have p0 := (blk_cell hs4 0).trans rfl; have p1 := (blk_cell hs4 1).trans rfl; have p2 := (blk_cell hs4 2).trans rfl; have HR4 := Aside0.mk ((hG4.block _ hl4 (by simp)).trans HRr.out); clear hs4 hG4 HTr2) | (((with_reducible refine gate_store (t := 46) (p := 4) rfl ?_); refine st_tm 4 rfl rfl rfl rfl rfl HR4.out ?_); intro w5 hs5 hG5 hz5; have HS5 := Aside0.mk hs5; have HG5 := Aside0.mk hG5; clear hs5 hG5 p0 p1 p2))
        ((try simp only [Exit.inBlock, Exit.then]); refine bodyPost_ret (results_cell_row rfl _ _ _ 46 _ (0, 0) _ rfl HS5.out Try.underlying46 rfl (by kernel_rfl)) rfl ?_)
        exact ⟨Av, cv, by rw [HE.out], by rw [HE.out]; exact hmc, by rw [HE.out]; exact Kd.F_mono (Kd.F_grown (Kd.F_grown (Kd.N_F HN.out) HG4.out (fun k hk => by intro e; injection e with e; omega)) HG5.out (fun k hk => by intro e; injection e with e; omega)) (fun k hk => by omega), gbS (gbS HBr.out HG4.out (by omega)) HG5.out (by omega)⟩
  · have hB : (δ t).isSome = true := by rw [hδ]; rfl
    obtain ⟨hru, hFu⟩ := HRU.out u hδ
    have HE := Aside0.mk ((mapT_some hδ).trans hru.symm)
    have HFu := Aside0.mk hFu
    clear hFu hru hδ HRU
    go_wp2_with (((with_reducible refine gate_store (t := 46) (p := 4) rfl ?_); refine st_tm 4 rfl rfl rfl rfl rfl HR3.out ?_); intro w4 hs4 hG4 hz4; have HS4 := Aside0.mk hs4; have HG4 := Aside0.mk hG4; clear hs4 hG4 p3 p4 p5)
    ((try simp only [Exit.inBlock, Exit.then]); refine bodyPost_ret (results_cell_row rfl _ _ _ 46 _ (0, 0) _ rfl HS4.out Try.underlying46 rfl (by kernel_rfl)) rfl ?_)
    exact ⟨A', c', by rw [HE.out], by rw [HE.out]; exact hrc, by rw [HE.out]; exact Kd.F_mono (Kd.F_grown (Kd.F_below HFu.out HB23.out) HG4.out (fun k hk => by intro e; injection e with e; omega)) (fun k hk => by omega), gbS HB3.out HG4.out (by omega)⟩
theorem copied1_any (x : Tm) (A : Option Addr) (c : Nat) (W : World) (hF : Kd.F kTm W (fun _ => True) A x.f2.length x.f2) :
    Calls Try.prog 107 #[.agg #[.int .i64 x.f0, .int .i64 x.f1, .slice A x.f2.length c]] W fun e w' => e = .returned (.tuple #[.agg #[.int .i64 x.f0, .int .i64 x.f1, .slice A x.f2.length c], .bool false]) ∧ Below W.heap.size W w' := by
  have g0 := newAt (w := W) (o := .cells #[.int .i64 x.f0, .int .i64 x.f1, .slice A x.f2.length c] 46) rfl
  have g1 := blk_alloc g0 (.cells #[.int .i64 0, .int .i64 0, .slice none 0 0] 46)
  have g2 := newAt (w := W.alloc (.cells #[.int .i64 x.f0, .int .i64 x.f1, .slice A x.f2.length c] 46)) (o := .cells #[.int .i64 0, .int .i64 0, .slice none 0 0] 46) (k := W.heap.size + 1) (by simp)
  have HB := Aside0.mk (below_alloc (below_alloc (Below.refl W.heap.size W) (.cells #[.int .i64 x.f0, .int .i64 x.f1, .slice A x.f2.length c] 46)) (.cells #[.int .i64 0, .int .i64 0, .slice none 0 0] 46))
  clear hF
  go_enter Try.func107, Try.ntmps107
  go_upto_region 1 with (fail)
  generalize (W.alloc (.cells #[.int .i64 x.f0, .int .i64 x.f1, .slice A x.f2.length c] 46)).alloc (.cells #[.int .i64 0, .int .i64 0, .slice none 0 0] 46) = W2 at *
  have c0 := (blk_cell g1 0).trans rfl
  have c1 := (blk_cell g1 1).trans rfl
  have c2 := (blk_cell g1 2).trans rfl
  have HR := Aside0.mk g2
  clear g0 g1 g2
  go_wp2_with (((with_reducible refine gate_store (t := 46) (p := 2) rfl ?_); refine st_tm 2 rfl rfl rfl rfl rfl HR.out ?_); intro w1 hs1 hG1 hz1; have HS1 := Aside0.mk hs1; have HG1 := Aside0.mk hG1; clear hs1 hG1 c0 c1 c2)
  ((try simp only [Exit.inBlock, Exit.then]); refine bodyPost_ret (results_ct rfl _ _ _ 46 _ (0, 0) _ rfl HS1.out Try.underlying46 rfl (by kernel_rfl)) rfl ?_)
  exact ⟨rfl, gbS HB.out HG1.out (by omega)⟩
theorem mapT_id (t : Tm) : mapT (fun _ => none) t = t := by
  refine Tm.rec (motive_1 := fun t => mapT (fun _ => none) t = t) (motive_2 := fun l => mapL (fun _ => none) l = l) ?_ ?_ ?_ t
  · intro v f l ih; rw [mapT_none rfl, ih]
  · rfl
  · intro t ts h1 h2; rw [mapL, h1, h2]
set_option maxHeartbeats 4000000 in
set_option maxRecDepth 100000 in
theorem copied_any (t : Tm) (A : Option Addr) (c : Nat) (ok : Nat → Prop) (w : World) (hbd : szT t * 40 ≤ 140737488355328) (hF : Kd.F kTm w ok A t.f2.length t.f2) (hc : t.f2.length ≤ c) :
    Calls Try.prog 67 #[.agg #[.int .i64 t.f0, .int .i64 t.f1, .slice A t.f2.length c]] w fun e w' => ∃ A' c', e = .returned (.agg #[.int .i64 t.f0, .int .i64 t.f1, .slice A' t.f2.length c']) ∧ t.f2.length ≤ c' ∧ Kd.F kTm w' (fun k => w.heap.size ≤ k) A' t.f2.length t.f2 ∧ Below w.heap.size w w' := by
  have hlen := Kd.F_max hF
  have HF := Aside0.mk (Kd.F_bound hF)
  have g0 := newAt (w := w) (o := .cells #[.int .i64 t.f0, .int .i64 t.f1, .slice A t.f2.length c] 46) rfl
  have g1 := blk_alloc g0 (.cells #[.int .i64 0, .int .i64 0, .slice none 0 0] 46)
  have g2 := newAt (w := w.alloc (.cells #[.int .i64 t.f0, .int .i64 t.f1, .slice A t.f2.length c] 46)) (o := .cells #[.int .i64 0, .int .i64 0, .slice none 0 0] 46) (k := w.heap.size + 1) (by simp)
  have HB := Aside0.mk (below_alloc (below_alloc (Below.refl w.heap.size w) (.cells #[.int .i64 t.f0, .int .i64 t.f1, .slice A t.f2.length c] 46)) (.cells #[.int .i64 0, .int .i64 0, .slice none 0 0] 46))
  clear hF
  go_enter Try.func67, Try.ntmps67
  go_upto_region 1 with (fail)
  generalize (w.alloc (.cells #[.int .i64 t.f0, .int .i64 t.f1, .slice A t.f2.length c] 46)).alloc (.cells #[.int .i64 0, .int .i64 0, .slice none 0 0] 46) = W at *
  have c0 := (blk_cell g1 0).trans rfl
  have c1 := (blk_cell g1 1).trans rfl
  have c2 := (blk_cell g1 2).trans rfl
  have HR := Aside0.mk g2
  have hl1 := blk_lt g2
  clear g0 g1 g2
  have HM : Aside0 (∀ A c, Kd.F kTm W (fun k => ok k ∧ k < w.heap.size) A t.f2.length t.f2 → t.f2.length ≤ c → Calls Try.prog 106 #[.agg #[.int .i64 t.f0, .int .i64 t.f1, .slice A t.f2.length c], .func (.func 107) #[] #[]] W fun e w' => ∃ A' c', e = .returned (.agg #[.int .i64 t.f0, .int .i64 t.f1, .slice A' t.f2.length c']) ∧ t.f2.length ≤ c' ∧ Kd.F kTm w' (fun k => W.heap.size ≤ k) A' t.f2.length t.f2 ∧ Below W.heap.size W w') := ⟨by
    intro A c hF hc
    have := mapped_any 107 #[] (fun _ => none) (fun _ => True) W (enters_of Try.func107 (by kernel_rfl) rfl) (fun x A c W' hB hF hc => (copied1_any x A c W' hF).mono fun e w' h => ⟨x, A, c, h.1, hc, (fun u h' => nomatch h'), h.2⟩) (szT t) t A c W (Nat.le_refl _) hbd (Below.refl _ _) (Kd.F_mono (Kd.F_bound hF) (fun k hk => ⟨trivial, hk.2⟩)) hc
    rwa [mapT_id] at this⟩
  go_wp2_with (first | (go_at_call 106; refine (HM.out A c (Kd.F_below HF.out HB.out) hc).mono ?_; rintro e w2 ⟨A', c', rfl, hc', hF2, hb2⟩; have HF2 := Aside0.mk hF2; have HB2 := Aside0.mk hb2; have HR2 := Aside0.mk ((hb2.block _ hl1).trans HR.out); clear hF2 hb2 c0 c1 c2) | (((with_reducible refine gate_store (t := 46) (p := 2) rfl ?_); refine st_tm 2 rfl rfl rfl rfl rfl HR2.out ?_); intro w1 hs1 hG1 hz1; have HS1 := Aside0.mk hs1; have HG1 := Aside0.mk hG1; clear hs1 hG1))
  ((try simp only [Exit.inBlock, Exit.then]); refine bodyPost_ret (results_cell_row rfl _ _ _ 46 _ (0, 0) _ rfl HS1.out Try.underlying46 rfl (by kernel_rfl)) rfl ?_)
  exact ⟨A', c', rfl, hc', Kd.F_mono (Kd.F_grown HF2.out HG1.out (fun k hk => by intro e; injection e with e; omega)) (fun k hk => by omega), gbS (hbT HB.out HB2.out) HG1.out (by omega)⟩
end Go.Proofs.Ytcgnpmjkeifokaa
-- K15
/- slices.Clone of terms; term.Lay. -/
namespace Go.Proofs.Ytcgnpmjkeifokaa
open Go.RowKit Go.Proofs.YtcgnpmjkeifokaaW.PrintWords
set_option linter.unusedVariables false
set_option linter.unusedSimpArgs false
set_option maxHeartbeats 4000000 in
set_option maxRecDepth 100000 in
theorem cloneT_any (xs : List Tm) (ad : Addr) (c : Nat) (ok : Nat → Prop) (w : World) (hbd : xs.length * 40 ≤ 140737488355328) (hF : Kd.F kTm w ok (some ad) xs.length xs) (hc : xs.length ≤ c) :
    Calls Try.prog 125 #[.slice (some ad) xs.length c] w fun e w' => ∃ v1, e = .returned v1 ∧ Kd.N kTm 46 w' w.heap.size (fun k => (ok k ∧ k < w.heap.size) ∨ w.heap.size ≤ k) v1 xs ∧ Below w.heap.size w w' := by
  have hq : ∀ (w : World), (binOp .eql 44 (.slice (some ad) xs.length c) (.slice none 0 0)).run Try.prog w = .ok (.bool false) w := fun w => Lib.run_eql_slice_nil w _ 46 (some ad) xs.length c 0 0 Try.underlying44
  have HF := Aside0.mk (Kd.F_bound hF)
  clear hF
  go_enter Try.func125, Try.ntmps125
  go_wp2_with (first | ((with_reducible refine gate_dst (N := 5) rfl ?_); refine Kd.N_lit kTm (w0 := w) w.heap.size 46 rfl rfl (xs := []) (inner := []) (ok := fun k => (ok k ∧ k < w.heap.size) ∨ w.heap.size ≤ k) (okp := fun _ => False) ?hr ⟨rfl, fun j y hy => by simp at hy⟩ (fun _ h => h.elim) (.inr (Nat.le_refl _)) (Below.refl _ _) (Nat.le_refl _) (by decide) ?_; (case hr => first | (go_simp; done) | (go_simp; rfl)); intro v1 w1 hN1 hB1 hG1 hI1; have HN1 := Aside0.mk hN1; have HB1 := Aside0.mk hB1; have HI1 := Aside0.mk hI1; clear hN1 hB1 hG1 hI1) | (at_builtin; refine Kd.N_append_rows kTm (w0 := w) w.heap.size rfl _ _ 44 46 _ 40 rfl Try.underlying44 infoTm rfl (by decide) (by decide) v1 [] xs (some ad) xs.length c _ (fun k => ok k ∧ k < w.heap.size) rfl rfl HN1.out (Kd.F_below HF.out HB1.out) ?_ (fun k hk => .inr (Nat.le_trans HB1.out.size hk)) HB1.out HB1.out.size (by simpa using hbd) ?_; (intro k hk; refine ⟨.inl hk, fun e => ?_⟩; obtain ⟨b, hb, hb2⟩ := HI1.out; rw [hb] at e; injection e with e; omega); intro v2 w2 hN2 hB2 hG2 hI2; have HN2 := Aside0.mk hN2; have HB2 := Aside0.mk hB2; clear hN2 hB2 hG2 hI2))
  go_ret
  exact ⟨v2, rfl, HN2.out, HB2.out⟩
def layP : Tm → List Int → Tm → Tm
  | _, [], u => u
  | t, i :: p, u => ⟨t.f0, t.f1, t.f2.set i.toNat (layP (rd_Tm t.f2 i) p u)⟩
theorem atB_cons {t : Tm} {y : Int} {p : List Int} (h : atB t (y :: p) = true) : 0 ≤ y ∧ y < t.f2.length ∧ atB (rd_Tm t.f2 y) p = true := by
  unfold atB at h ⊢
  rw [atP] at h
  by_cases hb : 0 ≤ y ∧ y < t.f2.length
  · rw [if_pos hb] at h; exact ⟨hb.1, hb.2, h⟩
  · rw [if_neg hb] at h; cases h
theorem rd_mem' (l : List Tm) (y : Int) (h0 : 0 ≤ y) (h1 : y < l.length) : rd_Tm l y ∈ l := by
  have := rd_mem l y.toNat (by omega)
  rwa [show ((y.toNat : Nat) : Int) = y by omega] at this
set_option maxHeartbeats 4000000 in
set_option maxRecDepth 100000 in
theorem lay_any (p : List Int) : ∀ (t u : Tm) (A B : Option Addr) (c d : Nat) (Ap : Option Addr) (cp : Nat) (ok : Nat → Prop) (w : World) (hat : atB t p = true) (hbd : szT t * 40 ≤ 140737488355328) (hF : Kd.F kTm w ok A t.f2.length t.f2) (hc : t.f2.length ≤ c) (hG : Kd.F kTm w ok B u.f2.length u.f2) (hd : u.f2.length ≤ d) (hP : Kd.C (Kd.int .i64) w Ap p.length p) (hpc : p.length ≤ cp),
    Calls Try.prog 93 #[.agg #[.int .i64 t.f0, .int .i64 t.f1, .slice A t.f2.length c], .slice Ap p.length cp, .agg #[.int .i64 u.f0, .int .i64 u.f1, .slice B u.f2.length d]] w fun e w' => ∃ A' c', e = .returned (.agg #[.int .i64 (layP t p u).f0, .int .i64 (layP t p u).f1, .slice A' (layP t p u).f2.length c']) ∧ (layP t p u).f2.length ≤ c' ∧ Kd.F kTm w' (fun k => ok k ∨ w.heap.size ≤ k) A' (layP t p u).f2.length (layP t p u).f2 ∧ Below w.heap.size w w' := by
  induction p with
  | nil =>
    intro t u A B c d Ap cp ok w hat hbd hF hc hG hd hP hpc
    have HF := Aside0.mk (Kd.F_bound hG)
    clear hF hG hP hat
    have g0 := newAt (w := w) (o := .cells #[.int .i64 t.f0, .int .i64 t.f1, .slice A t.f2.length c] 46) rfl
    have g1 := newAt (w := w.alloc (.cells #[.int .i64 t.f0, .int .i64 t.f1, .slice A t.f2.length c] 46)) (o := .cells #[.int .i64 u.f0, .int .i64 u.f1, .slice B u.f2.length d] 46) (k := w.heap.size + 1) (by simp)
    have g2 := blk_alloc g1 (.cells #[.int .i64 0, .int .i64 0, .slice none 0 0] 46)
    have g3 := newAt (w := (w.alloc (.cells #[.int .i64 t.f0, .int .i64 t.f1, .slice A t.f2.length c] 46)).alloc (.cells #[.int .i64 u.f0, .int .i64 u.f1, .slice B u.f2.length d] 46)) (o := .cells #[.int .i64 0, .int .i64 0, .slice none 0 0] 46) (k := w.heap.size + 2) (by simp)
    have HB := Aside0.mk (below_alloc (below_alloc (below_alloc (Below.refl w.heap.size w) (.cells #[.int .i64 t.f0, .int .i64 t.f1, .slice A t.f2.length c] 46)) (.cells #[.int .i64 u.f0, .int .i64 u.f1, .slice B u.f2.length d] 46)) (.cells #[.int .i64 0, .int .i64 0, .slice none 0 0] 46))
    go_enter Try.func93, Try.ntmps93
    go_upto_region 1 with (fail)
    generalize ((w.alloc (.cells #[.int .i64 t.f0, .int .i64 t.f1, .slice A t.f2.length c] 46)).alloc (.cells #[.int .i64 u.f0, .int .i64 u.f1, .slice B u.f2.length d] 46)).alloc (.cells #[.int .i64 0, .int .i64 0, .slice none 0 0] 46) = W at *
    have c0 := (blk_cell g2 0).trans rfl
    have c1 := (blk_cell g2 1).trans rfl
    have c2 := (blk_cell g2 2).trans rfl
    have HR := Aside0.mk g3
    clear g0 g1 g2 g3
    go_wp2_with (((with_reducible refine gate_store (t := 46) (p := 6) rfl ?_); refine st_tm 6 rfl rfl rfl rfl rfl HR.out ?_); intro w1 hs1 hG1 hz1; have HS1 := Aside0.mk hs1; have HG1 := Aside0.mk hG1; clear hs1 hG1 c0 c1 c2)
    ((try simp only [Exit.inBlock, Exit.then]); refine bodyPost_ret (results_cell_row rfl _ _ _ 46 _ (0, 0) _ rfl HS1.out Try.underlying46 rfl (by kernel_rfl)) rfl ?_)
    exact ⟨B, d, rfl, hd, Kd.F_mono (Kd.F_grown (Kd.F_below HF.out HB.out) HG1.out (fun k' hk' => by intro e; injection e with e; have := hk'.2; omega)) (fun k' hk' => .inl hk'.1), gbS HB.out HG1.out (by omega)⟩
  | cons y p ih =>
    intro t u A B c d Ap cp ok w hat hbd hF hc hG hd hP hpc
    have hlen := Kd.F_max hF
    obtain ⟨hy0, hy1, hat2⟩ := atB_cons hat
    obtain ⟨ap, rfl, ep0⟩ := at_Int hP 0 (by omega) (by simp)
    have ep : w.cell? ap = some (.int .i64 y) := ep0
    clear ep0
    obtain ⟨ad, _, _, rfl, -⟩ := at_TmF hF y hy0 hy1
    have HP : Aside0 (Kd.C (Kd.int .i64) w (if cp = 1 then some ap else some { block := ap.block, off := ap.off + 1 }) p.length p) := ⟨Kd.C_drop (c := cp) (m := 1) hP (by simp) hpc⟩
    have hplen := hP.2.1
    have HF := Aside0.mk (Kd.F_bound hF)
    have HG := Aside0.mk (Kd.F_bound hG)
    have IH := Aside0.mk ih
    have HAT := Aside0.mk hat2
    have HBD := Aside0.mk hbd
    have HS := Aside0.mk (szT_eq t)
    have HSL := Aside0.mk (szL_len t.f2)
    have HSM := Aside0.mk (szT_mem (rd_mem' t.f2 y hy0 hy1))
    clear hF hG hP ih hat hat2 hbd
    have g0 := blk_alloc (blk_alloc (newAt (w := w) (o := .cells #[.int .i64 t.f0, .int .i64 t.f1, .slice (some ad) t.f2.length c] 46) rfl) (.cells #[.int .i64 u.f0, .int .i64 u.f1, .slice B u.f2.length d] 46)) (.cells #[.int .i64 0, .int .i64 0, .slice none 0 0] 46)
    have g2 := blk_alloc (newAt (w := w.alloc (.cells #[.int .i64 t.f0, .int .i64 t.f1, .slice (some ad) t.f2.length c] 46)) (o := .cells #[.int .i64 u.f0, .int .i64 u.f1, .slice B u.f2.length d] 46) (k := w.heap.size + 1) (by simp)) (.cells #[.int .i64 0, .int .i64 0, .slice none 0 0] 46)
    have g3 := newAt (w := (w.alloc (.cells #[.int .i64 t.f0, .int .i64 t.f1, .slice (some ad) t.f2.length c] 46)).alloc (.cells #[.int .i64 u.f0, .int .i64 u.f1, .slice B u.f2.length d] 46)) (o := .cells #[.int .i64 0, .int .i64 0, .slice none 0 0] 46) (k := w.heap.size + 2) (by simp)
    have HB := Aside0.mk (below_alloc (below_alloc (below_alloc (Below.refl w.heap.size w) (.cells #[.int .i64 t.f0, .int .i64 t.f1, .slice (some ad) t.f2.length c] 46)) (.cells #[.int .i64 u.f0, .int .i64 u.f1, .slice B u.f2.length d] 46)) (.cells #[.int .i64 0, .int .i64 0, .slice none 0 0] 46))
    have EP := Aside0.mk (oldc HB.out ep)
    clear ep
    simp only [List.length_cons] at *
    go_enter Try.func93, Try.ntmps93
    go_upto_region 1 with (fail)
    generalize ((w.alloc (.cells #[.int .i64 t.f0, .int .i64 t.f1, .slice (some ad) t.f2.length c] 46)).alloc (.cells #[.int .i64 u.f0, .int .i64 u.f1, .slice B u.f2.length d] 46)).alloc (.cells #[.int .i64 0, .int .i64 0, .slice none 0 0] 46) = W at *
    have G0 := Aside0.mk g0
    have G2 := Aside0.mk g2
    have G3 := Aside0.mk g3
    have hl3 := blk_lt g3
    have c2 := (blk_cell g0 2).trans rfl
    have h01 : (0:Int) < ((p.length + 1 : Nat) : Int) := by omega
    have h02 : (0:Int) < (p.length : Int) + 1 := by omega
    have h03 : (1:Int) ≤ (p.length : Int) + 1 := by omega
    clear g0 g2 g3
    go_upto_region 4 with (go_at_call 125; refine (cloneT_any t.f2 ad c _ W ?_ (Kd.F_below HF.out HB.out) hc).mono ?_; (have := HS.out; have := HBD.out; have := HSL.out; omega); rintro e w2 ⟨v1, rfl, hN2, hb2⟩; have HN2 := Aside0.mk hN2; have HB2 := Aside0.mk hb2; clear hN2 hb2 c2)
    obtain ⟨gb, cap, rfl, hgb, hgb2, -⟩ := Kd.N_form HN2.out (by omega)
    obtain ⟨cs, hcs, hFK, hcell, -⟩ := Kd.N_elem HN2.out zTm y hy0 hy1
    obtain ⟨A3, c3, rfl, hl3', hF3⟩ := kTm_openF hFK
    have hX : t.f2.getD y.toNat zTm = rd_Tm t.f2 y := rfl
    rw [hX] at hl3' hF3 hcell
    have E0 : w2.cell? ⟨gb, y.toNat * 3, none⟩ = some (.int .i64 (rd_Tm t.f2 y).f0) := hcell 0 _ rfl
    have E1 : w2.cell? ⟨gb, y.toNat * 3 + 1, none⟩ = some (.int .i64 (rd_Tm t.f2 y).f1) := hcell 1 _ rfl
    have E2 : w2.cell? ⟨gb, y.toNat * 3 + 2, none⟩ = some (.slice A3 (rd_Tm t.f2 y).f2.length c3) := hcell 2 _ rfl
    have HF3 := Aside0.mk hF3
    have hz2 := HB2.out.size
    have HG02 := Aside0.mk (HB2.out.block _ (blk_lt G0.out) |>.trans G0.out)
    have HG22 := Aside0.mk (HB2.out.block _ (blk_lt G2.out) |>.trans G2.out)
    have HG32 := Aside0.mk (HB2.out.block _ hl3 |>.trans G3.out)
    have e0 := (blk_cell HG22.out 0).trans rfl
    have e1 := (blk_cell HG22.out 1).trans rfl
    have e2 := (blk_cell HG22.out 2).trans rfl
    have ep2 := oldc HB2.out EP.out
    have k1 := fun (w' : World) (h : Below w2.heap.size w2 w') => oldc h e0
    have k2 := fun (w' : World) (h : Below w2.heap.size w2 w') => oldc h e1
    have k3 := fun (w' : World) (h : Below w2.heap.size w2 w') => oldc h e2
    have k4 := fun (w' : World) (h : Below w2.heap.size w2 w') => oldc h ep2
    have k5 := fun (w' : World) (h : Below w2.heap.size w2 w') => oldc h E0
    have k6 := fun (w' : World) (h : Below w2.heap.size w2 w') => oldc h E1
    have k7 := fun (w' : World) (h : Below w2.heap.size w2 w') => oldc h E2
    clear e0 e1 e2 ep2 E0 E1 E2 hF3 hFK hcell
    refine hd_region 14 2 (fun w' => Below w2.heap.size w2 w') (by kernel_rfl) rfl ?_ (fun _ h => h)
    intro W3 hb3 hz3 hHeld
    clear hb3
    (refine hd_take (i := 0) (oi := ?oi88) (v := ?v88) ?hi88 (by kernel_rfl) (by kernel_rfl) (by kernel_rfl) (by kernel_rfl) (by decide) ?hq88 ?hw88 ?hy88 hHeld ?hr88; (case hi88 => (simp only [List.getElem?_toArray, List.getElem?_cons_succ, List.getElem?_cons_zero]; rfl)); (case hw88 => rfl); (case hy88 => (intro w hSw; go_simp; try with_reducible rfl)); (case hq88 => exact fun _ _ _ h => h); simp only [Act.put, List.setIfInBounds_toArray, List.set_cons_zero, List.set_cons_succ])
    (refine hd_take (i := 1) (oi := ?oi90) (v := ?v90) ?hi90 (by kernel_rfl) (by kernel_rfl) (by kernel_rfl) (by kernel_rfl) (by decide) ?hq90 ?hw90 ?hy90 hHeld ?hr90; (case hi90 => (simp only [List.getElem?_toArray, List.getElem?_cons_succ, List.getElem?_cons_zero]; rfl)); (case hw90 => rfl); (case hy90 => (intro w hSw; go_simp; try with_reducible rfl)); (case hq90 => exact fun _ _ _ h => h); simp only [Act.put, List.setIfInBounds_toArray, List.set_cons_zero, List.set_cons_succ])
    (refine hd_take (i := 2) (oi := ?oi92) (v := ?v92) ?hi92 (by kernel_rfl) (by kernel_rfl) (by kernel_rfl) (by kernel_rfl) (by decide) ?hq92 ?hw92 ?hy92 hHeld ?hr92; (case hi92 => (simp only [List.getElem?_toArray, List.getElem?_cons_succ, List.getElem?_cons_zero]; rfl)); (case hw92 => rfl); (case hy92 => (intro w hSw; go_simp; try with_reducible rfl)); (case hq92 => exact fun _ _ _ h => h); simp only [Act.put, List.setIfInBounds_toArray, List.set_cons_zero, List.set_cons_succ])
    (refine hd_take (i := 3) (oi := ?oi94) (v := ?v94) ?hi94 (by kernel_rfl) (by kernel_rfl) (by kernel_rfl) (by kernel_rfl) (by decide) ?hq94 ?hw94 ?hy94 hHeld ?hr94; (case hi94 => (simp only [List.getElem?_toArray, List.getElem?_cons_succ, List.getElem?_cons_zero]; rfl)); (case hw94 => rfl); (case hy94 => (intro w hSw; go_simp; try with_reducible rfl)); (case hq94 => exact fun _ _ _ h => h); simp only [Act.put, List.setIfInBounds_toArray, List.set_cons_zero, List.set_cons_succ])
    (refine hd_take (i := 4) (oi := ?oi96) (v := ?v96) ?hi96 (by kernel_rfl) (by kernel_rfl) (by kernel_rfl) (by kernel_rfl) (by decide) ?hq96 ?hw96 ?hy96 hHeld ?hr96; (case hi96 => (simp only [List.getElem?_toArray, List.getElem?_cons_succ, List.getElem?_cons_zero]; rfl)); (case hw96 => rfl); (case hy96 => (intro w hSw; go_simp; try with_reducible rfl)); (case hq96 => exact fun _ _ _ h => h); simp only [Act.put, List.setIfInBounds_toArray, List.set_cons_zero, List.set_cons_succ])
    (refine hd_take (i := 5) (oi := ?oi98) (v := ?v98) ?hi98 (by kernel_rfl) (by kernel_rfl) (by kernel_rfl) (by kernel_rfl) (by decide) ?hq98 ?hw98 ?hy98 hHeld ?hr98; (case hi98 => (simp only [List.getElem?_toArray, List.getElem?_cons_succ, List.getElem?_cons_zero]; rfl)); (case hw98 => rfl); (case hy98 => (intro w hSw; go_simp; try with_reducible rfl)); (case hq98 => exact fun _ _ _ h => h); simp only [Act.put, List.setIfInBounds_toArray, List.set_cons_zero, List.set_cons_succ])
    (refine hd_take (i := 6) (oi := ?oi100) (v := ?v100) ?hi100 (by kernel_rfl) (by kernel_rfl) (by kernel_rfl) (by kernel_rfl) (by decide) ?hq100 ?hw100 ?hy100 hHeld ?hr100; (case hi100 => (simp only [List.getElem?_toArray, List.getElem?_cons_succ, List.getElem?_cons_zero]; rfl)); (case hw100 => rfl); (case hy100 => (intro w hSw; go_simp; try with_reducible rfl)); (case hq100 => exact fun _ _ _ h => h); simp only [Act.put, List.setIfInBounds_toArray, List.set_cons_zero, List.set_cons_succ])
    (refine hd_take (i := 7) (oi := ?oi102) (v := ?v102) ?hi102 (by kernel_rfl) (by kernel_rfl) (by kernel_rfl) (by kernel_rfl) (by decide) ?hq102 ?hw102 ?hy102 hHeld ?hr102; (case hi102 => (simp only [List.getElem?_toArray, List.getElem?_cons_succ, List.getElem?_cons_zero]; rfl)); (case hw102 => rfl); (case hy102 => (intro w hSw; go_simp; try with_reducible rfl)); (case hq102 => exact fun _ _ _ h => h); simp only [Act.put, List.setIfInBounds_toArray, List.set_cons_zero, List.set_cons_succ])
    (refine hd_take (i := 8) (oi := ?oi104) (v := ?v104) ?hi104 (by kernel_rfl) (by kernel_rfl) (by kernel_rfl) (by kernel_rfl) (by decide) ?hq104 ?hw104 ?hy104 hHeld ?hr104; (case hi104 => (simp only [List.getElem?_toArray, List.getElem?_cons_succ, List.getElem?_cons_zero]; rfl)); (case hw104 => rfl); (case hy104 => (intro w hSw; go_simp; try with_reducible rfl)); (case hq104 => exact fun _ _ _ h => h); simp only [Act.put, List.setIfInBounds_toArray, List.set_cons_zero, List.set_cons_succ])
    (refine hd_take (i := 9) (oi := ?oi106) (v := ?v106) ?hi106 (by kernel_rfl) (by kernel_rfl) (by kernel_rfl) (by kernel_rfl) (by decide) ?hq106 ?hw106 ?hy106 hHeld ?hr106; (case hi106 => (simp only [List.getElem?_toArray, List.getElem?_cons_succ, List.getElem?_cons_zero]; rfl)); (case hw106 => rfl); (case hy106 => (intro w hSw; go_simp; try with_reducible rfl)); (case hq106 => exact fun _ _ _ h => h); simp only [Act.put, List.setIfInBounds_toArray, List.set_cons_zero, List.set_cons_succ])
    (refine hd_take (i := 10) (oi := ?oi108) (v := ?v108) ?hi108 (by kernel_rfl) (by kernel_rfl) (by kernel_rfl) (by kernel_rfl) (by decide) ?hq108 ?hw108 ?hy108 hHeld ?hr108; (case hi108 => (simp only [List.getElem?_toArray, List.getElem?_cons_succ, List.getElem?_cons_zero]; rfl)); (case hw108 => rfl); (case hy108 => (intro w hSw; go_simp; try with_reducible rfl)); (case hq108 => exact fun _ _ _ h => h); simp only [Act.put, List.setIfInBounds_toArray, List.set_cons_zero, List.set_cons_succ])
    (refine hd_take (i := 11) (oi := ?oi110) (v := ?v110) ?hi110 (by kernel_rfl) (by kernel_rfl) (by kernel_rfl) (by kernel_rfl) (by decide) ?hq110 ?hw110 ?hy110 hHeld ?hr110; (case hi110 => (simp only [List.getElem?_toArray, List.getElem?_cons_succ, List.getElem?_cons_zero]; rfl)); (case hw110 => rfl); (case hy110 => (intro w hSw; go_simp; try with_reducible rfl)); (case hq110 => exact fun _ _ _ h => h); simp only [Act.put, List.setIfInBounds_toArray, List.set_cons_zero, List.set_cons_succ])
    generalize (if cp = 1 then some ap else some { block := ap.block, off := ap.off + 1 : Addr }) = Ap' at *
    (refine hd_take (i := 12) (oi := ?oi112) (v := ?v112) ?hi112 (by kernel_rfl) (by kernel_rfl) (by kernel_rfl) (by kernel_rfl) (by decide) ?hq112 ?hw112 ?hy112 hHeld ?hr112; (case hi112 => (simp only [List.getElem?_toArray, List.getElem?_cons_succ, List.getElem?_cons_zero]; rfl)); (case hw112 => rfl); (case hy112 => (intro w hSw; go_simp; try with_reducible rfl)); (case hq112 => exact fun _ _ _ h => h); simp only [Act.put, List.setIfInBounds_toArray, List.set_cons_zero, List.set_cons_succ])
    (refine hd_one (i := 13) (oi := ?oi114) ?hi114 (by kernel_rfl) (by decide) ?hr114; (case hi114 => (simp only [List.getElem?_toArray, List.getElem?_cons_succ, List.getElem?_cons_zero]; rfl)); intro K hK)
    go_simp
    go_at_call 93
    refine (IH.out (rd_Tm t.f2 y) u A3 B c3 d Ap' (cp - 1) (fun k => ((ok k ∧ k < w.heap.size) ∧ k < W.heap.size ∨ W.heap.size ≤ k) ∧ k ≠ gb) W3 HAT.out ?_ (Kd.F_below HF3.out hHeld) hl3' (Kd.F_mono (Kd.F_below HG.out (hbT (hbT HB.out HB2.out) hHeld)) ?_) hd (Kd.C_below HP.out (hbT (hbT HB.out HB2.out) hHeld)) (by omega)).mono ?_
    · have := HBD.out; have := HS.out; have := HSM.out; omega
    · intro k hk; have := HB.out.size; exact ⟨.inl ⟨hk, by omega⟩, by omega⟩
    rintro e w5 ⟨A5, c5, rfl, h5, hF5, hb5⟩
    have HF5 := Aside0.mk hF5
    clear hF5
    go_simp
    (refine hK.out _ _ ?hS116 (fun hHeld => ?hr116); (case hS116 => exact hbT hHeld hb5); clear hK K; try simp only [Act.put, List.setIfInBounds_toArray, List.set_cons_zero, List.set_cons_succ])
    (refine hd_done (by kernel_rfl) ?_; simp only [List.drop_succ_cons, List.drop_zero])
    have HB5 := Aside0.mk hHeld
    have HN5 := Aside0.mk (Kd.N_below HN2.out hHeld)
    obtain ⟨cs5, hcs5, hFK5, hcell5, -⟩ := Kd.N_elem HN5.out zTm y hy0 hy1
    obtain ⟨A6, c6, rfl, -, -⟩ := kTm_openF hFK5
    have HC5 := Aside0.mk hcell5
    have HG05 := Aside0.mk ((hHeld.block _ (blk_lt HG02.out)).trans HG02.out)
    have HG35 := Aside0.mk ((hHeld.block _ (blk_lt HG32.out)).trans HG32.out)
    clear hFK5 hcell5 hHeld hb5
    go_wp2_with (first | ((with_reducible refine gate_store (t := 46) (p := 29) rfl ?_); refine Kd.N_store kTm (w0 := w2) W.heap.size rfl rfl 46 _ _ rfl 46 y 0 t.f2 (layP (rd_Tm t.f2 y) p u) _ _ _ _ (fun k => (((ok k ∧ k < w.heap.size) ∧ k < W.heap.size ∨ W.heap.size ≤ k) ∧ k ≠ gb) ∨ W3.heap.size ≤ k) rfl rfl rfl rfl sizeTm (one3 _ _ _ _ _) HN5.out hy0 hy1 rfl HC5.out (Nat.le_refl 3) (kTm_mkF w5 _ _ h5 HF5.out) ?_ (hbW HB5.out (by omega)) ?_; (intro k hk; rcases hk with hk | hk; exact ⟨hk.1, hk.2⟩; exact ⟨.inr (by omega), by omega⟩); intro w6 hN6 hB6 hG6; have HN6 := Aside0.mk hN6; have HB6 := Aside0.mk hB6; have HG6 := Aside0.mk hG6; have HG06 := Aside0.mk ((hG6.block _ (blk_lt HG05.out) (by intro e; injection e with e; omega)).trans HG05.out); have HG36 := Aside0.mk ((hG6.block _ (blk_lt HG35.out) (by intro e; injection e with e; omega)).trans HG35.out); have hz6 := hG6.size; clear hN6 hB6 hG6) | (((with_reducible refine gate_store (t := 44) (p := 31) rfl ?_); refine st_args 31 rfl rfl rfl rfl rfl HG06.out ?_); intro w7 hs7 hG7 hz7; have HG7 := Aside0.mk hG7; have p0 := (blk_cell hs7 0).trans rfl; have p1 := (blk_cell hs7 1).trans rfl; have p2 := (blk_cell hs7 2).trans rfl; have HG37 := Aside0.mk ((hG7.block _ (blk_lt HG36.out) (by simp)).trans HG36.out); clear hs7 hG7) | (((with_reducible refine gate_store (t := 46) (p := 6) rfl ?_); refine st_tm 6 rfl rfl rfl rfl rfl HG37.out ?_); intro w8 hs8 hG8 hz8; have HS8 := Aside0.mk hs8; have HG8 := Aside0.mk hG8; clear hs8 hG8 p0 p1 p2))
    ((try simp only [Exit.inBlock, Exit.then]); refine bodyPost_ret (results_cell_row rfl _ _ _ 46 _ (0, 0) _ rfl HS8.out Try.underlying46 rfl (by kernel_rfl)) rfl ?_)
    have hLs : (layP t (y :: p) u).f2.length = t.f2.length := by simp [layP]
    have hz5 := HB5.out.size
    have hb6 := hbT (hbT HB.out HB2.out) HB5.out
    have hb7 := gbS hb6 HG6.out (by have := HB.out.size; omega)
    have hF := Kd.N_F HN6.out
    have hcap := (Kd.N_reads' HN6.out).2.1
    refine ⟨some ⟨gb, 0, none⟩, cap, by rw [hLs]; rfl, by rw [hLs]; exact hcap, ?_, gbS (gbS hb7 HG7.out (by omega)) HG8.out (by omega)⟩
    rw [hLs]
    have hsz := HB.out.size
    have hF1 : Kd.F kTm w6 (fun k => (ok k ∧ k < w.heap.size) ∨ W.heap.size ≤ k) (some ⟨gb, 0, none⟩) t.f2.length (layP t (y :: p) u).f2 := Kd.F_mono hF (fun k hk => by
      rcases hk with hk | hk
      · exact .inl hk.1
      · exact .inr hk)
    have hF2 := Kd.F_grown hF1 HG7.out (fun k hk => by intro e; injection e with e; rcases hk with hk | hk; exact absurd hk.2 (by omega); omega)
    have hF3 := Kd.F_grown hF2 HG8.out (fun k hk => by intro e; injection e with e; rcases hk with hk | hk; exact absurd hk.2 (by omega); omega)
    exact Kd.F_mono hF3 (fun k hk => by
      rcases hk with hk | hk
      · exact .inl hk.1
      · exact .inr (by omega))
end Go.Proofs.Ytcgnpmjkeifokaa
-- K16
/- superposeref.PutOf. -/
namespace Go.Proofs.Ytcgnpmjkeifokaa
open Go.RowKit Go.Proofs.YtcgnpmjkeifokaaW.PrintWords
set_option linter.unusedVariables false
set_option linter.unusedSimpArgs false
def putP : Tm → List Int → Tm → Tm
  | _, [], u => u
  | t, i :: p, u => ⟨0, t.f1, t.f2.set i.toNat (putP (rd_Tm t.f2 i) p u)⟩
theorem addB (a : Addr) (n : Nat) : (a.add n).block = a.block := by unfold Addr.add; split <;> rfl
theorem oldg {w w' : World} {row : Option Nat} (h : w.grownBy w' row) {a : Addr} {v : Value} (hv : w.cell? a = some v) (hne : some a.block ≠ row) : w'.cell? a = some v := by
  have := h.block a.block (World.block_lt_of_cell? w _ hv) hne
  unfold World.cell? at hv ⊢
  rw [this]; exact hv
end Go.Proofs.Ytcgnpmjkeifokaa
-- K17
/- term.At, term.Put, superposelaw.fn, va, small, termIs. -/
namespace Go.Proofs.Ytcgnpmjkeifokaa
open Go.RowKit Go.Proofs.YtcgnpmjkeifokaaW.PrintWords
set_option linter.unusedVariables false
set_option linter.unusedSimpArgs false
/-- What At answers. -/
def atE (g : List Int) (t : Tm) (p : List Int) : Int := if chkTs g [t] ≠ 0 then chkTs g [t] else if atB t p then 0 else 5
def atR (g : List Int) (t : Tm) (p : List Int) : Tm := if chkTs g [t] ≠ 0 then zTm else atT t p
theorem chkTs_ok {g : List Int} {l : List Tm} (h : chkTs g l = 0) : sigE g = 0 ∧ ∀ x ∈ l, okT g x := by
  unfold chkTs at h
  by_cases hs : sigE g = 0
  · refine ⟨hs, ?_⟩
    rw [if_neg (by simpa using hs)] at h
    induction l with
    | nil => intro x hx; cases hx
    | cons a l ih =>
      simp only [fe] at h
      by_cases ha : chkT g a = 0
      · simp only [ha, ne_eq, not_true_eq_false, if_false] at h
        intro x hx
        cases hx with
        | head => exact chkT_ok.1 ha
        | tail _ hx => exact ih h x hx
      · simp only [ne_eq, ha, not_false_eq_true, if_true] at h
  · rw [if_pos hs] at h; exact absurd h hs
/-- What Put answers. -/
def putE (g : List Int) (t u : Tm) (p : List Int) : Int := if chkTs g [t, u] ≠ 0 then chkTs g [t, u] else if atB t p then (if 120 < szT (putP t p u) then 2 else 0) else 5
def putR (g : List Int) (t u : Tm) (p : List Int) : Tm := if putE g t u p ≠ 0 then zTm else putP t p u
theorem layP_putP (g : List Int) (u : Tm) : ∀ (p : List Int) (t : Tm), formE g t = 0 → atB t p = true → layP t p u = putP t p u
  | [], t, _, _ => rfl
  | y :: p, t, hf, ha => by
    obtain ⟨h0, h1, h2⟩ := atB_cons ha
    rw [formE_eq] at hf
    by_cases hl : formEL g t.f2 = 0
    · rw [if_neg (by simpa using hl)] at hf
      have hv : t.f0 = 0 := by
        by_cases hv : t.f0 = 0
        · exact hv
        · unfold partE at hf
          rw [if_pos hv] at hf
          split at hf
          · split at hf
            · omega
            · cases hf
          · cases hf
      have hr := layP_putP g u p (rd_Tm t.f2 y) (formEL_mem hl _ (rd_mem' t.f2 y h0 h1)) h2
      rw [layP, putP, hr, hv]
    · rw [if_pos hl] at hf; exact absurd hf hl
end Go.Proofs.Ytcgnpmjkeifokaa
-- K18
/- superposelaw.fn, va, small, termIs. -/
namespace Go.Proofs.Ytcgnpmjkeifokaa
open Go.RowKit Go.Proofs.YtcgnpmjkeifokaaW.PrintWords
set_option linter.unusedVariables false
set_option linter.unusedSimpArgs false
theorem fn_any (n : Int) (A : Option Addr) (k c : Nat) (w : World) :
    Calls Try.prog 62 #[.int .i64 n, .slice A k c] w fun e w' => e = .returned (.agg #[.int .i64 0, .int .i64 n, .slice A k c]) ∧ Below w.heap.size w w' := by
  have g0 := newAt (w := w) (o := .cells #[.int .i64 0, .int .i64 0, .slice none 0 0] 46) rfl
  have HB := Aside0.mk (below_alloc (Below.refl w.heap.size w) (.cells #[.int .i64 0, .int .i64 0, .slice none 0 0] 46))
  go_enter Try.func62, Try.ntmps62
  go_upto_region 1 with (fail)
  generalize w.alloc (.cells #[.int .i64 0, .int .i64 0, .slice none 0 0] 46) = W at *
  have HR := Aside0.mk g0
  clear g0
  go_wp2_with (((with_reducible refine gate_store (t := 46) (p := 4) rfl ?_); refine st_tm 4 rfl rfl rfl rfl rfl HR.out ?_); intro w1 hs1 hG1 hz1; have HS1 := Aside0.mk hs1; have HG1 := Aside0.mk hG1; clear hs1 hG1)
  ((try simp only [Exit.inBlock, Exit.then]); refine bodyPost_ret (results_cell_row rfl _ _ _ 46 _ (0, 0) _ rfl HS1.out Try.underlying46 rfl (by kernel_rfl)) rfl ?_)
  exact ⟨rfl, gbS HB.out HG1.out (Nat.le_refl _)⟩
theorem va_any (n : Int) (w : World) :
    Calls Try.prog 61 #[.int .i64 n] w fun e w' => e = .returned (.agg #[.int .i64 n, .int .i64 0, .slice none 0 0]) ∧ Below w.heap.size w w' := by
  have g0 := newAt (w := w) (o := .cells #[.int .i64 0, .int .i64 0, .slice none 0 0] 46) rfl
  have HB := Aside0.mk (below_alloc (Below.refl w.heap.size w) (.cells #[.int .i64 0, .int .i64 0, .slice none 0 0] 46))
  go_enter Try.func61, Try.ntmps61
  go_upto_region 1 with (fail)
  generalize w.alloc (.cells #[.int .i64 0, .int .i64 0, .slice none 0 0] 46) = W at *
  have HR := Aside0.mk g0
  clear g0
  go_wp2_with (((with_reducible refine gate_store (t := 46) (p := 2) rfl ?_); refine st_tm 2 rfl rfl rfl rfl rfl HR.out ?_); intro w1 hs1 hG1 hz1; have HS1 := Aside0.mk hs1; have HG1 := Aside0.mk hG1; clear hs1 hG1)
  ((try simp only [Exit.inBlock, Exit.then]); refine bodyPost_ret (results_cell_row rfl _ _ _ 46 _ (0, 0) _ rfl HS1.out Try.underlying46 rfl (by kernel_rfl)) rfl ?_)
  exact ⟨rfl, gbS HB.out HG1.out (Nat.le_refl _)⟩
theorem sizeSg : (Try.prog.info? 24).map (·.size) = some 1 := by kernel_rfl
theorem small_any (w : World) :
    Calls Try.prog 63 #[] w fun e w' => ∃ A, e = .returned (.agg #[.slice A 2 2]) ∧ Kd.C (Kd.int .i64) w' A 2 [0, 1] ∧ Below w.heap.size w w' := by
  have g0 := newAt (w := w) (o := .cells #[.slice none 0 0] 24) rfl
  have HB := Aside0.mk (below_alloc (Below.refl w.heap.size w) (.cells #[.slice none 0 0] 24))
  go_enter Try.func63, Try.ntmps63
  go_upto_region 1 with (fail)
  generalize w.alloc (.cells #[.slice none 0 0] 24) = W at *
  have HR := Aside0.mk (blk_alloc g0 (.cells #[.int .i64 0, .int .i64 1] 3))
  have hN := heap_alloc_new W (.cells #[.int .i64 0, .int .i64 1] 3)
  have hlt := blk_lt g0
  have HN := Aside0.mk hN
  clear g0 hN
  go_wp2_with ((with_reducible refine gate_store (t := 24) (p := 0) rfl ?_); refine st_blk rfl rfl rfl #[.slice (some ⟨W.heap.size, 0, none⟩) 2 2] [.slice (some ⟨W.heap.size, 0, none⟩) 2 2] rfl rfl rfl sizeSg (one1 _ _ _) HR.out (Nat.le_refl 1) rfl ?_; intro w1 hs1 hG1 hz1; have HS1 := Aside0.mk hs1; have HG1 := Aside0.mk hG1; clear hs1 hG1)
  refine bodyPost_ret (results_cell_row rfl _ _ _ 24 _ (0, 0) _ rfl HS1.out Try.underlying24 rfl (by kernel_rfl)) rfl ?_
  refine ⟨_, rfl, ?_, gbS (below_alloc HB.out _) HG1.out (by omega)⟩
  have h1 : w1.heap[W.heap.size]? = some (.cells #[.int .i64 0, .int .i64 1] 3 (0, 0)) := (HG1.out.block _ (blk_lt HN.out) (by intro e; injection e with e; omega)).trans HN.out
  refine ⟨rfl, by decide, fun _ => ⟨_, rfl, ?_⟩⟩
  intro j p hp
  match j with
  | 0 =>
    simp at hp; subst hp
    refine ⟨[.int .i64 0], rfl, rfl, fun i u hu => ?_⟩
    match i with
    | 0 => simp at hu; subst hu; exact (blk_cell h1 0).trans rfl
    | i + 1 => simp at hu
  | 1 =>
    simp at hp; subst hp
    refine ⟨[.int .i64 1], rfl, rfl, fun i u hu => ?_⟩
    match i with
    | 0 => simp at hu; subst hu; exact (blk_cell h1 1).trans rfl
    | i + 1 => simp at hu
  | j + 2 => simp at hp
end Go.Proofs.Ytcgnpmjkeifokaa
-- K19
/- slices.Index, Contains, Clone over whole numbers; superposeref.Has. -/
namespace Go.Proofs.Ytcgnpmjkeifokaa
open Go.RowKit Go.Proofs.YtcgnpmjkeifokaaW.PrintWords
set_option linter.unusedVariables false
set_option linter.unusedSimpArgs false
def eqP (y : Int) : Int → Bool := fun x => decide (y = x)
def hasB (xs : List Int) (y : Int) : Bool := xs.any (eqP y)
theorem infoI : (Try.prog.info? 3).map (fun i => (i.zero, i.size, i.bytes)) = some (some (.int .i64 0), (Kd.int .i64).sz, 8) := by kernel_rfl
set_option maxHeartbeats 4000000 in
set_option maxRecDepth 100000 in
theorem cloneI_any (xs : List Int) (A : Option Addr) (c : Nat) (w : World) (hbd : xs.length * 8 ≤ 140737488355328) (hC : Kd.C (Kd.int .i64) w A xs.length xs) :
    Calls Try.prog 153 #[.slice A xs.length c] w fun e w' => ∃ v1, e = .returned v1 ∧ Kd.N (Kd.int .i64) 3 w' w.heap.size (fun _ => True) v1 xs ∧ Below w.heap.size w w' := by
  cases A with
  | none =>
    have hx : xs = [] := by
      cases xs with
      | nil => rfl
      | cons x xs => obtain ⟨ad, h, _⟩ := hC.2.2 (by simp); cases h
    subst hx
    have hq : ∀ (w : World), (binOp .eql 22 (.slice none 0 c) (.slice none 0 0)).run Try.prog w = .ok (.bool true) w := fun w => Lib.run_eql_slice_nil w _ 3 none _ c 0 0 Try.underlying22
    clear hC
    simp only [List.length_nil]
    go_enter Try.func153, Try.ntmps153
    go_wp2
    go_ret
    exact ⟨_, rfl, Kd.N_nil _ _ _ _ _, Below.refl _ _⟩
  | some ad =>
    have hq : ∀ (w : World), (binOp .eql 22 (.slice (some ad) xs.length c) (.slice none 0 0)).run Try.prog w = .ok (.bool false) w := fun w => Lib.run_eql_slice_nil w _ 3 (some ad) xs.length c 0 0 Try.underlying22
    have HF := Aside0.mk (Kd.C_F (Kd.heap_int .i64) hC)
    clear hC
    go_enter Try.func153, Try.ntmps153
    go_wp2_with (first | ((with_reducible refine gate_dst (N := 5) rfl ?_); refine Kd.N_lit (Kd.int .i64) (w0 := w) w.heap.size 3 rfl rfl (xs := []) (inner := []) (ok := fun _ => True) (okp := fun _ => False) ?hr ⟨rfl, fun j y hy => by simp at hy⟩ (fun _ h => h.elim) trivial (Below.refl _ _) (Nat.le_refl _) (by decide) ?_; (case hr => first | (go_simp; done) | (go_simp; rfl)); intro v1 w1 hN1 hB1 hG1 hI1; have HN1 := Aside0.mk hN1; have HB1 := Aside0.mk hB1; have HI1 := Aside0.mk hI1; clear hN1 hB1 hG1 hI1) | (at_builtin; refine Kd.N_append_rows (Kd.int .i64) (w0 := w) w.heap.size rfl _ _ 22 3 _ 8 rfl Try.underlying22 infoI rfl (by decide) (by decide) v1 [] xs (some ad) xs.length c _ (fun k => k < w.heap.size) rfl rfl HN1.out (Kd.F_below HF.out HB1.out) ?_ (fun k hk => trivial) HB1.out HB1.out.size (by simpa using hbd) ?_; (intro k hk; refine ⟨trivial, fun e => ?_⟩; obtain ⟨b, hb, hb2⟩ := HI1.out; rw [hb] at e; injection e with e; omega); intro v2 w2 hN2 hB2 hG2 hI2; have HN2 := Aside0.mk hN2; have HB2 := Aside0.mk hB2; clear hN2 hB2 hG2 hI2))
    go_ret
    exact ⟨v2, rfl, HN2.out, HB2.out⟩
end Go.Proofs.Ytcgnpmjkeifokaa
