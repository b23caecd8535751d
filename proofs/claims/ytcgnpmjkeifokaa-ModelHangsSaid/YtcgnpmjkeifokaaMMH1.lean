/- ModelHangs: in a model in which a clause holds all hold that it subsumes, and those that are always hold in all; a clause tidied holds just if it did: for every input. Part 1: the walks and plain laws that it uses. -/
import Derived.Test.YtcgnpmjkeifokaaProg
import Derived.Below
import Derived.Deep.Draws
import Derived.Deep.AppendLies
import Derived.Maps.AppendAt
import Derived.OwnWalk
import Derived.Laws.BytesArg
import Derived.Laws.MakeOwn
import Derived.Laws.OwnMore
import Derived.Deep.OwnRows
import Derived.Tactics
import Derived.Lib.ConvBytes
import Derived.Laws.Slices
import Derived.WalkKit
import Derived.KernelRfl
import Derived.RowKit3
import Derived.Deep.LoopGhost
import Derived.Deep.QuietTactic
import Derived.BigQuiet
import Derived.WideLaws
import Derived.Deep.DeepCutAuto
import Derived.Deep.CutBlock
import Derived.Deep.RegionHeld3
import Derived.Laws.Rows
import Derived.Lib.AppendStr
import Derived.ArgAppend
import Derived.Laws.IdiomCopy
import Derived.OrdersHeld
import Derived.Laws.BitsLemmas
import Derived.RowKit
import Derived.Test.YtcgnpmjkeifokaaWWords
import Derived.Test.YtcgnpmjkeifokaaWLast
import Derived.Test.YtcgnpmjkeifokaaWTab
import Derived.Test.YtcgnpmjkeifokaaWFour
import Derived.Test.YtcgnpmjkeifokaaWQPut
import Derived.Test.YtcgnpmjkeifokaaWApart
import Derived.Test.YtcgnpmjkeifokaaWArr
import Derived.Test.YtcgnpmjkeifokaaWZeros
import Derived.Test.YtcgnpmjkeifokaaWFoot
import Derived.Test.YtcgnpmjkeifokaaWKept
import Derived.Test.YtcgnpmjkeifokaaWShare
import Derived.Test.YtcgnpmjkeifokaaWN
import Derived.Test.YtcgnpmjkeifokaaWFootNe
import Derived.Test.YtcgnpmjkeifokaaWAt
import Derived.Test.YtcgnpmjkeifokaaWEqStruct
import Derived.Test.YtcgnpmjkeifokaaWRepsOne
import Derived.Test.YtcgnpmjkeifokaaWInv
import Derived.Test.YtcgnpmjkeifokaaWInvWords
import Derived.Test.YtcgnpmjkeifokaaWGuard
import Derived.Test.YtcgnpmjkeifokaaWNEv
import Derived.Test.YtcgnpmjkeifokaaWMore
import Derived.Lib.QuietBelow
import Derived.Shelf.Abstract
import Derived.StillTail
import Derived.Deep.RegionHeld
-- KBase
/- The kinds of values of this program (terms, literals, clauses, bindings) by the print tool's combinators: began as a text printed by the kit's print.sh for this seat. -/
namespace Go.Proofs.Ytcgnpmjkeifokaa
open Go.RowKit Go.Proofs.YtcgnpmjkeifokaaW.PrintWords
set_option linter.unusedVariables false
theorem infoInt : (Try.prog.info? 3).map (fun i => (i.zero, i.size, i.bytes)) = some (some (.int .i64 0), 1, 8) := by kernel_rfl
theorem infoTm : (Try.prog.info? 46).map (fun i => (i.zero, i.size, i.bytes)) = some (some (.agg #[(.int .i64 0), (.int .i64 0), (.slice none 0 0)]), 3, 40) := by kernel_rfl
theorem infoLi : (Try.prog.info? 84).map (fun i => (i.zero, i.size, i.bytes)) = some (some (.agg #[(.bool false), (.int .i64 0), (.int .i64 0), (.slice none 0 0), (.int .i64 0), (.int .i64 0), (.slice none 0 0)]), 7, 88) := by kernel_rfl
theorem infoBd : (Try.prog.info? 89).map (fun i => (i.zero, i.size, i.bytes)) = some (some (.agg #[(.int .i64 0), (.int .i64 0), (.int .i64 0), (.slice none 0 0)]), 4, 48) := by kernel_rfl
-- the values' own types
/-! #### struct type 46, nested in itself -/
structure Tm where
  f0 : Int
  f1 : Int
  f2 : (List Tm)
def zTm : Tm := ⟨(0 : Int), (0 : Int), ([] : List Tm)⟩
def FTm (d : Kd Tm) : Kd Tm := Kd.iso (Kd.pair (Kd.int .i64) (Kd.pair (Kd.int .i64) (Kd.slice 46 d))) (fun x : Tm => (x.f0, x.f1, x.f2))
theorem monoTm : Kd.Mono FTm := Kd.mono_iso _ (Kd.mono_pair (Kd.mono_const _) (Kd.mono_pair (Kd.mono_const _) (Kd.mono_slice 46 Kd.mono_id)))
theorem subTm : Kd.Sub FTm [46] := Kd.sub_iso _ (Kd.sub_pair (Kd.sub_const _ (by decide)) (Kd.sub_pair (Kd.sub_const _ (by decide)) (Kd.sub_slice 46 (by decide) Kd.sub_id)))
theorem szTm : ∀ n, (Kd.upto FTm 3 [46] n).sz = 3 := Kd.upto_sz (fun _ => rfl)
def kTm : Kd Tm := Kd.fix FTm 3 [46] szTm (Kd.upto_E subTm)
theorem kTm_heap : Kd.Heap kTm := Kd.heap_fix (fun _ h_ => Kd.heap_iso _ (Kd.heap_pair (Kd.heap_int .i64) (Kd.heap_pair (Kd.heap_int .i64) (Kd.heap_slice 46 h_))))
theorem kTm_open {w : World} {x : Tm} {cs : List Value} (h : kTm.K w x cs) : ∃ A2 c2, cs = [.int .i64 x.f0, .int .i64 x.f1, .slice A2 x.f2.length c2] ∧ x.f2.length ≤ c2 ∧ kTm.C w A2 x.f2.length x.f2 := by
  obtain ⟨n, h⟩ := h
  cases n with
  | zero => exact h.elim
  | succ n =>
    obtain ⟨_, _, rfl, rfl, ⟨_, _, rfl, rfl, ⟨A2, c2, rfl, l2, g2⟩⟩⟩ := h
    exact ⟨A2, c2, rfl, l2, Kd.fix_C g2⟩
theorem kTm_openM {w : World} {base : Nat} {ok : Nat → Prop} {x : Tm} {cs : List Value} (h : kTm.M w base ok x cs) : ∃ v2, cs = [.int .i64 x.f0, .int .i64 x.f1, v2] ∧ kTm.R 46 w base ok v2 x.f2 := by
  obtain ⟨n, h⟩ := h
  cases n with
  | zero => exact h.elim
  | succ n =>
    obtain ⟨_, _, rfl, rfl, ⟨_, _, rfl, rfl, ⟨v2, rfl, g2⟩⟩⟩ := h
    exact ⟨v2, rfl, Kd.fix_R g2⟩
theorem kTm_mk (w : World) (x : Tm) {A2 : Option Addr} {c2 : Nat} (l2 : x.f2.length ≤ c2) (g2 : kTm.C w A2 x.f2.length x.f2) : kTm.K w x [.int .i64 x.f0, .int .i64 x.f1, .slice A2 x.f2.length c2] := by
  obtain ⟨n2, q2⟩ := Kd.fix_C_back monoTm g2
  have r2 := Kd.upto_C_le monoTm szTm (show n2 ≤ n2 by omega) q2
  exact ⟨n2 + 1, ⟨[.int .i64 x.f0], [.int .i64 x.f1, .slice A2 x.f2.length c2], rfl, rfl, ⟨[.int .i64 x.f1], [.slice A2 x.f2.length c2], rfl, rfl, ⟨A2, c2, rfl, l2, r2⟩⟩⟩⟩
theorem kTm_mkM (w : World) (base : Nat) (ok : Nat → Prop) (x : Tm) {v2 : Value} (g2 : kTm.R 46 w base ok v2 x.f2) : kTm.M w base ok x [.int .i64 x.f0, .int .i64 x.f1, v2] := by
  obtain ⟨n2, q2⟩ := Kd.fix_R_back monoTm g2
  have r2 := Kd.upto_R_le monoTm szTm (show n2 ≤ n2 by omega) q2
  exact ⟨n2 + 1, ⟨[.int .i64 x.f0], [.int .i64 x.f1, v2], rfl, rfl, ⟨[.int .i64 x.f1], [v2], rfl, rfl, ⟨v2, rfl, r2⟩⟩⟩⟩
theorem kTm_openF {W : World} {ok : Nat → Prop} {x : Tm} {cs : List Value} (h : Kd.FK kTm W ok x cs) : ∃ A2 c2, cs = [.int .i64 x.f0, .int .i64 x.f1, .slice A2 x.f2.length c2] ∧ x.f2.length ≤ c2 ∧ Kd.F kTm W ok A2 x.f2.length x.f2 := by
  obtain ⟨A2, c2, rfl, l2, _⟩ := kTm_open (Kd.FK_now h)
  exact ⟨A2, c2, rfl, l2, (fun W' hW => by obtain ⟨A2_, c2_, he, l2_, g2_⟩ := kTm_open (h W' hW); injection (Option.some.inj (show some (Value.slice A2 x.f2.length c2) = some (Value.slice A2_ x.f2.length c2_) from congrArg (fun l => l[2]?) he)) with ha_ _ _; rw [ha_]; exact g2_)⟩
theorem kTm_mkF (W : World) (ok : Nat → Prop) (x : Tm) {A2 : Option Addr} {c2 : Nat} (l2 : x.f2.length ≤ c2) (g2 : Kd.F kTm W ok A2 x.f2.length x.f2) : Kd.FK kTm W ok x [.int .i64 x.f0, .int .i64 x.f1, .slice A2 x.f2.length c2] := fun W2 hW => kTm_mk W2 x l2 (g2 W2 hW)
def rd_Tm (xs : List Tm) (i : Int) : Tm := xs.getD i.toNat zTm
theorem at_Tm {w : World} {A : Option Addr} {n : Nat} {xs : List Tm} (h : Kd.C kTm w A n xs) (i : Int) (h0 : 0 ≤ i) (h1 : i < n) : ∃ ad A2 c2, A = some ad ∧ w.cell? (ad.add (i.toNat * 3)) = some (.int .i64 (rd_Tm xs i).f0) ∧ w.cell? ⟨(ad.add (i.toNat * 3)).block, (ad.add (i.toNat * 3)).off + 1, none⟩ = some (.int .i64 (rd_Tm xs i).f1) ∧ w.cell? ⟨(ad.add (i.toNat * 3)).block, (ad.add (i.toNat * 3)).off + 2, none⟩ = some (.slice A2 (rd_Tm xs i).f2.length c2) ∧ (rd_Tm xs i).f2.length ≤ c2 ∧ kTm.C w A2 (rd_Tm xs i).f2.length (rd_Tm xs i).f2 := by
  obtain ⟨ad, c, e, _, hK, hc0⟩ := Kd.C_get h zTm i h0 h1
  have hc : ∀ j u, c[j]? = some u → w.cell? (ad.add (i.toNat * 3 + j)) = some u := hc0
  obtain ⟨A2, c2, rfl, l2, g2⟩ := kTm_open hK
  exact ⟨ad, A2, c2, e, hc 0 _ rfl, by rw [← add_field _ _ 1 (by omega)]; exact hc 1 _ rfl, by rw [← add_field _ _ 2 (by omega)]; exact hc 2 _ rfl, l2, g2⟩
/-! #### struct type 84 -/
structure Li where
  f0 : Bool
  f1 : Tm
  f2 : Tm
def zLi : Li := ⟨false, zTm, zTm⟩
def kLi : Kd Li := Kd.iso (Kd.pair Kd.bool (Kd.pair kTm kTm)) (fun x : Li => (x.f0, x.f1, x.f2))
theorem kLi_heap : Kd.Heap kLi := Kd.heap_iso _ (Kd.heap_pair Kd.heap_bool (Kd.heap_pair kTm_heap kTm_heap))
theorem kLi_open {w : World} {x : Li} {cs : List Value} (h : kLi.K w x cs) : ∃ A3 c3 A6 c6, cs = [.bool x.f0, .int .i64 x.f1.f0, .int .i64 x.f1.f1, .slice A3 x.f1.f2.length c3, .int .i64 x.f2.f0, .int .i64 x.f2.f1, .slice A6 x.f2.f2.length c6] ∧ x.f1.f2.length ≤ c3 ∧ kTm.C w A3 x.f1.f2.length x.f1.f2 ∧ x.f2.f2.length ≤ c6 ∧ kTm.C w A6 x.f2.f2.length x.f2.f2 := by
  obtain ⟨_, _, rfl, rfl, ⟨_, _, rfl, s1, s4⟩⟩ := h
  obtain ⟨A3, c3, rfl, l3, g3⟩ := kTm_open s1
  obtain ⟨A6, c6, rfl, l6, g6⟩ := kTm_open s4
  exact ⟨A3, c3, A6, c6, rfl, l3, g3, l6, g6⟩
theorem kLi_openM {w : World} {base : Nat} {ok : Nat → Prop} {x : Li} {cs : List Value} (h : kLi.M w base ok x cs) : ∃ v3 v6, cs = [.bool x.f0, .int .i64 x.f1.f0, .int .i64 x.f1.f1, v3, .int .i64 x.f2.f0, .int .i64 x.f2.f1, v6] ∧ kTm.R 46 w base ok v3 x.f1.f2 ∧ kTm.R 46 w base ok v6 x.f2.f2 := by
  obtain ⟨_, _, rfl, rfl, ⟨_, _, rfl, s1, s4⟩⟩ := h
  obtain ⟨v3, rfl, g3⟩ := kTm_openM s1
  obtain ⟨v6, rfl, g6⟩ := kTm_openM s4
  exact ⟨v3, v6, rfl, g3, g6⟩
theorem kLi_mk (w : World) (x : Li) {A3 : Option Addr} {c3 : Nat} (l3 : x.f1.f2.length ≤ c3) (g3 : kTm.C w A3 x.f1.f2.length x.f1.f2) {A6 : Option Addr} {c6 : Nat} (l6 : x.f2.f2.length ≤ c6) (g6 : kTm.C w A6 x.f2.f2.length x.f2.f2) : kLi.K w x [.bool x.f0, .int .i64 x.f1.f0, .int .i64 x.f1.f1, .slice A3 x.f1.f2.length c3, .int .i64 x.f2.f0, .int .i64 x.f2.f1, .slice A6 x.f2.f2.length c6] := ⟨[.bool x.f0], [.int .i64 x.f1.f0, .int .i64 x.f1.f1, .slice A3 x.f1.f2.length c3, .int .i64 x.f2.f0, .int .i64 x.f2.f1, .slice A6 x.f2.f2.length c6], rfl, rfl, ⟨[.int .i64 x.f1.f0, .int .i64 x.f1.f1, .slice A3 x.f1.f2.length c3], [.int .i64 x.f2.f0, .int .i64 x.f2.f1, .slice A6 x.f2.f2.length c6], rfl, (kTm_mk w x.f1 l3 g3), (kTm_mk w x.f2 l6 g6)⟩⟩
theorem kLi_mkM (w : World) (base : Nat) (ok : Nat → Prop) (x : Li) {v3 : Value} (g3 : kTm.R 46 w base ok v3 x.f1.f2) {v6 : Value} (g6 : kTm.R 46 w base ok v6 x.f2.f2) : kLi.M w base ok x [.bool x.f0, .int .i64 x.f1.f0, .int .i64 x.f1.f1, v3, .int .i64 x.f2.f0, .int .i64 x.f2.f1, v6] := ⟨[.bool x.f0], [.int .i64 x.f1.f0, .int .i64 x.f1.f1, v3, .int .i64 x.f2.f0, .int .i64 x.f2.f1, v6], rfl, rfl, ⟨[.int .i64 x.f1.f0, .int .i64 x.f1.f1, v3], [.int .i64 x.f2.f0, .int .i64 x.f2.f1, v6], rfl, (kTm_mkM w base ok x.f1 g3), (kTm_mkM w base ok x.f2 g6)⟩⟩
theorem kLi_openF {W : World} {ok : Nat → Prop} {x : Li} {cs : List Value} (h : Kd.FK kLi W ok x cs) : ∃ A3 c3 A6 c6, cs = [.bool x.f0, .int .i64 x.f1.f0, .int .i64 x.f1.f1, .slice A3 x.f1.f2.length c3, .int .i64 x.f2.f0, .int .i64 x.f2.f1, .slice A6 x.f2.f2.length c6] ∧ x.f1.f2.length ≤ c3 ∧ Kd.F kTm W ok A3 x.f1.f2.length x.f1.f2 ∧ x.f2.f2.length ≤ c6 ∧ Kd.F kTm W ok A6 x.f2.f2.length x.f2.f2 := by
  obtain ⟨A3, c3, A6, c6, rfl, l3, _, l6, _⟩ := kLi_open (Kd.FK_now h)
  exact ⟨A3, c3, A6, c6, rfl, l3, (fun W' hW => by obtain ⟨A3_, c3_, A6_, c6_, he, l3_, g3_, l6_, g6_⟩ := kLi_open (h W' hW); injection (Option.some.inj (show some (Value.slice A3 x.f1.f2.length c3) = some (Value.slice A3_ x.f1.f2.length c3_) from congrArg (fun l => l[3]?) he)) with ha_ _ _; rw [ha_]; exact g3_), l6, (fun W' hW => by obtain ⟨A3_, c3_, A6_, c6_, he, l3_, g3_, l6_, g6_⟩ := kLi_open (h W' hW); injection (Option.some.inj (show some (Value.slice A6 x.f2.f2.length c6) = some (Value.slice A6_ x.f2.f2.length c6_) from congrArg (fun l => l[6]?) he)) with ha_ _ _; rw [ha_]; exact g6_)⟩
theorem kLi_mkF (W : World) (ok : Nat → Prop) (x : Li) {A3 : Option Addr} {c3 : Nat} (l3 : x.f1.f2.length ≤ c3) (g3 : Kd.F kTm W ok A3 x.f1.f2.length x.f1.f2) {A6 : Option Addr} {c6 : Nat} (l6 : x.f2.f2.length ≤ c6) (g6 : Kd.F kTm W ok A6 x.f2.f2.length x.f2.f2) : Kd.FK kLi W ok x [.bool x.f0, .int .i64 x.f1.f0, .int .i64 x.f1.f1, .slice A3 x.f1.f2.length c3, .int .i64 x.f2.f0, .int .i64 x.f2.f1, .slice A6 x.f2.f2.length c6] := fun W2 hW => kLi_mk W2 x l3 (g3 W2 hW) l6 (g6 W2 hW)
def rd_Li (xs : List Li) (i : Int) : Li := xs.getD i.toNat zLi
theorem at_Li {w : World} {A : Option Addr} {n : Nat} {xs : List Li} (h : Kd.C kLi w A n xs) (i : Int) (h0 : 0 ≤ i) (h1 : i < n) : ∃ ad A3 c3 A6 c6, A = some ad ∧ w.cell? (ad.add (i.toNat * 7)) = some (.bool (rd_Li xs i).f0) ∧ w.cell? ⟨(ad.add (i.toNat * 7)).block, (ad.add (i.toNat * 7)).off + 1, none⟩ = some (.int .i64 (rd_Li xs i).f1.f0) ∧ w.cell? ⟨(ad.add (i.toNat * 7)).block, (ad.add (i.toNat * 7)).off + 2, none⟩ = some (.int .i64 (rd_Li xs i).f1.f1) ∧ w.cell? ⟨(ad.add (i.toNat * 7)).block, (ad.add (i.toNat * 7)).off + 3, none⟩ = some (.slice A3 (rd_Li xs i).f1.f2.length c3) ∧ w.cell? ⟨(ad.add (i.toNat * 7)).block, (ad.add (i.toNat * 7)).off + 4, none⟩ = some (.int .i64 (rd_Li xs i).f2.f0) ∧ w.cell? ⟨(ad.add (i.toNat * 7)).block, (ad.add (i.toNat * 7)).off + 5, none⟩ = some (.int .i64 (rd_Li xs i).f2.f1) ∧ w.cell? ⟨(ad.add (i.toNat * 7)).block, (ad.add (i.toNat * 7)).off + 6, none⟩ = some (.slice A6 (rd_Li xs i).f2.f2.length c6) ∧ (rd_Li xs i).f1.f2.length ≤ c3 ∧ kTm.C w A3 (rd_Li xs i).f1.f2.length (rd_Li xs i).f1.f2 ∧ (rd_Li xs i).f2.f2.length ≤ c6 ∧ kTm.C w A6 (rd_Li xs i).f2.f2.length (rd_Li xs i).f2.f2 := by
  obtain ⟨ad, c, e, _, hK, hc0⟩ := Kd.C_get h zLi i h0 h1
  have hc : ∀ j u, c[j]? = some u → w.cell? (ad.add (i.toNat * 7 + j)) = some u := hc0
  obtain ⟨A3, c3, A6, c6, rfl, l3, g3, l6, g6⟩ := kLi_open hK
  exact ⟨ad, A3, c3, A6, c6, e, hc 0 _ rfl, by rw [← add_field _ _ 1 (by omega)]; exact hc 1 _ rfl, by rw [← add_field _ _ 2 (by omega)]; exact hc 2 _ rfl, by rw [← add_field _ _ 3 (by omega)]; exact hc 3 _ rfl, by rw [← add_field _ _ 4 (by omega)]; exact hc 4 _ rfl, by rw [← add_field _ _ 5 (by omega)]; exact hc 5 _ rfl, by rw [← add_field _ _ 6 (by omega)]; exact hc 6 _ rfl, l3, g3, l6, g6⟩
def rd_Cl (xs : List (List Li)) (i : Int) : (List Li) := xs.getD i.toNat ([] : List Li)
theorem at_Cl {w : World} {A : Option Addr} {n : Nat} {xs : List (List Li)} (h : Kd.C (Kd.slice 84 kLi) w A n xs) (i : Int) (h0 : 0 ≤ i) (h1 : i < n) : ∃ ad A0 c0, A = some ad ∧ w.cell? (ad.add i.toNat) = some (.slice A0 (rd_Cl xs i).length c0) ∧ (rd_Cl xs i).length ≤ c0 ∧ kLi.C w A0 (rd_Cl xs i).length (rd_Cl xs i) := by
  obtain ⟨ad, c, e, _, hK, hc0⟩ := Kd.C_get h ([] : List Li) i h0 h1
  have hc : ∀ j u, c[j]? = some u → w.cell? (ad.add (i.toNat * 1 + j)) = some u := hc0
  obtain ⟨A0, c0, rfl, l0, g0⟩ := hK
  exact ⟨ad, A0, c0, e, by have hq := hc 0 _ rfl; rwa [Nat.mul_one, Nat.add_zero] at hq, l0, g0⟩
/-! #### struct type 89 -/
structure Bd where
  f0 : Int
  f1 : Tm
def zBd : Bd := ⟨(0 : Int), zTm⟩
def kBd : Kd Bd := Kd.iso (Kd.pair (Kd.int .i64) kTm) (fun x : Bd => (x.f0, x.f1))
theorem kBd_heap : Kd.Heap kBd := Kd.heap_iso _ (Kd.heap_pair (Kd.heap_int .i64) kTm_heap)
theorem kBd_open {w : World} {x : Bd} {cs : List Value} (h : kBd.K w x cs) : ∃ A3 c3, cs = [.int .i64 x.f0, .int .i64 x.f1.f0, .int .i64 x.f1.f1, .slice A3 x.f1.f2.length c3] ∧ x.f1.f2.length ≤ c3 ∧ kTm.C w A3 x.f1.f2.length x.f1.f2 := by
  obtain ⟨_, _, rfl, rfl, s1⟩ := h
  obtain ⟨A3, c3, rfl, l3, g3⟩ := kTm_open s1
  exact ⟨A3, c3, rfl, l3, g3⟩
theorem kBd_openM {w : World} {base : Nat} {ok : Nat → Prop} {x : Bd} {cs : List Value} (h : kBd.M w base ok x cs) : ∃ v3, cs = [.int .i64 x.f0, .int .i64 x.f1.f0, .int .i64 x.f1.f1, v3] ∧ kTm.R 46 w base ok v3 x.f1.f2 := by
  obtain ⟨_, _, rfl, rfl, s1⟩ := h
  obtain ⟨v3, rfl, g3⟩ := kTm_openM s1
  exact ⟨v3, rfl, g3⟩
theorem kBd_mk (w : World) (x : Bd) {A3 : Option Addr} {c3 : Nat} (l3 : x.f1.f2.length ≤ c3) (g3 : kTm.C w A3 x.f1.f2.length x.f1.f2) : kBd.K w x [.int .i64 x.f0, .int .i64 x.f1.f0, .int .i64 x.f1.f1, .slice A3 x.f1.f2.length c3] := ⟨[.int .i64 x.f0], [.int .i64 x.f1.f0, .int .i64 x.f1.f1, .slice A3 x.f1.f2.length c3], rfl, rfl, (kTm_mk w x.f1 l3 g3)⟩
theorem kBd_mkM (w : World) (base : Nat) (ok : Nat → Prop) (x : Bd) {v3 : Value} (g3 : kTm.R 46 w base ok v3 x.f1.f2) : kBd.M w base ok x [.int .i64 x.f0, .int .i64 x.f1.f0, .int .i64 x.f1.f1, v3] := ⟨[.int .i64 x.f0], [.int .i64 x.f1.f0, .int .i64 x.f1.f1, v3], rfl, rfl, (kTm_mkM w base ok x.f1 g3)⟩
theorem kBd_openF {W : World} {ok : Nat → Prop} {x : Bd} {cs : List Value} (h : Kd.FK kBd W ok x cs) : ∃ A3 c3, cs = [.int .i64 x.f0, .int .i64 x.f1.f0, .int .i64 x.f1.f1, .slice A3 x.f1.f2.length c3] ∧ x.f1.f2.length ≤ c3 ∧ Kd.F kTm W ok A3 x.f1.f2.length x.f1.f2 := by
  obtain ⟨A3, c3, rfl, l3, _⟩ := kBd_open (Kd.FK_now h)
  exact ⟨A3, c3, rfl, l3, (fun W' hW => by obtain ⟨A3_, c3_, he, l3_, g3_⟩ := kBd_open (h W' hW); injection (Option.some.inj (show some (Value.slice A3 x.f1.f2.length c3) = some (Value.slice A3_ x.f1.f2.length c3_) from congrArg (fun l => l[3]?) he)) with ha_ _ _; rw [ha_]; exact g3_)⟩
theorem kBd_mkF (W : World) (ok : Nat → Prop) (x : Bd) {A3 : Option Addr} {c3 : Nat} (l3 : x.f1.f2.length ≤ c3) (g3 : Kd.F kTm W ok A3 x.f1.f2.length x.f1.f2) : Kd.FK kBd W ok x [.int .i64 x.f0, .int .i64 x.f1.f0, .int .i64 x.f1.f1, .slice A3 x.f1.f2.length c3] := fun W2 hW => kBd_mk W2 x l3 (g3 W2 hW)
def rd_Bd (xs : List Bd) (i : Int) : Bd := xs.getD i.toNat zBd
theorem at_Bd {w : World} {A : Option Addr} {n : Nat} {xs : List Bd} (h : Kd.C kBd w A n xs) (i : Int) (h0 : 0 ≤ i) (h1 : i < n) : ∃ ad A3 c3, A = some ad ∧ w.cell? (ad.add (i.toNat * 4)) = some (.int .i64 (rd_Bd xs i).f0) ∧ w.cell? ⟨(ad.add (i.toNat * 4)).block, (ad.add (i.toNat * 4)).off + 1, none⟩ = some (.int .i64 (rd_Bd xs i).f1.f0) ∧ w.cell? ⟨(ad.add (i.toNat * 4)).block, (ad.add (i.toNat * 4)).off + 2, none⟩ = some (.int .i64 (rd_Bd xs i).f1.f1) ∧ w.cell? ⟨(ad.add (i.toNat * 4)).block, (ad.add (i.toNat * 4)).off + 3, none⟩ = some (.slice A3 (rd_Bd xs i).f1.f2.length c3) ∧ (rd_Bd xs i).f1.f2.length ≤ c3 ∧ kTm.C w A3 (rd_Bd xs i).f1.f2.length (rd_Bd xs i).f1.f2 := by
  obtain ⟨ad, c, e, _, hK, hc0⟩ := Kd.C_get h zBd i h0 h1
  have hc : ∀ j u, c[j]? = some u → w.cell? (ad.add (i.toNat * 4 + j)) = some u := hc0
  obtain ⟨A3, c3, rfl, l3, g3⟩ := kBd_open hK
  exact ⟨ad, A3, c3, e, hc 0 _ rfl, by rw [← add_field _ _ 1 (by omega)]; exact hc 1 _ rfl, by rw [← add_field _ _ 2 (by omega)]; exact hc 2 _ rfl, by rw [← add_field _ _ 3 (by omega)]; exact hc 3 _ rfl, l3, g3⟩
end Go.Proofs.Ytcgnpmjkeifokaa
-- KPure
/- Plain definitions: sizes, forms, equality, parts and variables of terms; no program in sight. -/
namespace Go.Proofs.Ytcgnpmjkeifokaa
open Go.RowKit Go.Proofs.YtcgnpmjkeifokaaW.PrintWords
set_option linter.unusedVariables false
theorem Tm.ind {Q : Tm → Prop} (h : ∀ v f l, (∀ x ∈ l, Q x) → Q ⟨v, f, l⟩) : ∀ t, Q t := by
  intro t
  refine Tm.rec (motive_1 := Q) (motive_2 := fun l => ∀ x ∈ l, Q x) (fun v f l hl => h v f l hl) (fun x hx => by cases hx) (fun a l ha hl x hx => ?_) t
  cases hx with
  | head => exact ha
  | tail _ hx => exact hl x hx
theorem rd_mem (l : List Tm) (i : Nat) (h : i < l.length) : rd_Tm l i ∈ l := by
  unfold rd_Tm; simp [List.getD_eq_getElem?_getD, h]
theorem rd_get (l : List Tm) (i : Nat) (h : i < l.length) : rd_Tm l i = l[i] := by
  unfold rd_Tm; simp [List.getD_eq_getElem?_getD, h]
/-! ### sizes -/
mutual
def szT : Tm → Nat
  | ⟨_, _, l⟩ => 1 + szL l
def szL : List Tm → Nat
  | [] => 0
  | t :: ts => szT t + szL ts
end
theorem szT_eq (t : Tm) : szT t = 1 + szL t.f2 := by cases t; rw [szT]
theorem szL_append (a b : List Tm) : szL (a ++ b) = szL a + szL b := by
  induction a with
  | nil => simp [szL]
  | cons t ts ih => simp only [List.cons_append, szL, ih]; omega
theorem szL_take_succ (l : List Tm) (i : Nat) (h : i < l.length) : szL (l.take (i+1)) = szL (l.take i) + szT (rd_Tm l i) := by
  rw [List.take_succ_eq_append_getElem h, szL_append, rd_get l i h]; simp [szL]
theorem szL_take_le (l : List Tm) (i : Nat) : szL (l.take i) ≤ szL l := by
  have := szL_append (l.take i) (l.drop i); rw [List.take_append_drop] at this; omega
theorem szT_mem {l : List Tm} {t : Tm} (h : t ∈ l) : szT t ≤ szL l := by
  induction l with
  | nil => cases h
  | cons a l ih => cases h with
    | head => simp [szL]
    | tail _ h => have := ih h; simp [szL]; omega
theorem szL_len (l : List Tm) : l.length ≤ szL l := by
  induction l with
  | nil => simp
  | cons a l ih => simp only [List.length_cons, szL]; have := szT_eq a; omega
theorem szT_pos (t : Tm) : 1 ≤ szT t := by rw [szT_eq]; omega
/-! ### equality as a Bool -/
mutual
def eqT : Tm → Tm → Bool
  | ⟨v, f, l⟩, ⟨v', f', l'⟩ => v == v' && f == f' && eqL l l'
def eqL : List Tm → List Tm → Bool
  | [], [] => true
  | a :: l, b :: l' => eqT a b && eqL l l'
  | _, _ => false
end
theorem eqT_eq (a b : Tm) : eqT a b = (a.f0 == b.f0 && a.f1 == b.f1 && eqL a.f2 b.f2) := by cases a; cases b; rw [eqT]
theorem eqT_iff (a : Tm) : ∀ b, eqT a b = true ↔ a = b := by
  refine Tm.rec (motive_1 := fun a => ∀ b, eqT a b = true ↔ a = b) (motive_2 := fun l => ∀ l', eqL l l' = true ↔ l = l') ?_ ?_ ?_ a
  · intro v f l ih b
    obtain ⟨v', f', l'⟩ := b
    rw [eqT]
    simp only [Bool.and_eq_true, beq_iff_eq, ih l', Tm.mk.injEq, and_assoc]
  · intro l'
    cases l' <;> simp [eqL]
  · intro t ts iht ihs l'
    cases l' with
    | nil => simp [eqL]
    | cons b l' => simp only [eqL, Bool.and_eq_true, iht b, ihs l', List.cons.injEq]
theorem eqL_iff : ∀ l l' : List Tm, eqL l l' = true ↔ l = l'
  | [], [] => by simp [eqL]
  | [], _ :: _ => by simp [eqL]
  | _ :: _, [] => by simp [eqL]
  | a :: l, b :: l' => by simp only [eqL, Bool.and_eq_true, eqT_iff, eqL_iff l l', List.cons.injEq]
theorem eqT_refl (a : Tm) : eqT a a = true := (eqT_iff a a).2 rfl
theorem eqT_comm (a b : Tm) : eqT a b = eqT b a := by
  rw [Bool.eq_iff_iff, eqT_iff, eqT_iff]; exact eq_comm
theorem eqL_len {l l' : List Tm} (h : l.length ≠ l'.length) : eqL l l' = false := by
  rw [Bool.eq_false_iff]; intro h2; rw [eqL_iff] at h2; exact h (by rw [h2])
/-- From place i on: all alike. -/
theorem eqL_drop_step {l l' : List Tm} {i : Nat} (h : i < l.length) (h' : i < l'.length) : eqL (l.drop i) (l'.drop i) = (eqT (rd_Tm l i) (rd_Tm l' i) && eqL (l.drop (i+1)) (l'.drop (i+1))) := by
  rw [List.drop_eq_getElem_cons h, List.drop_eq_getElem_cons h', eqL, rd_get l i h, rd_get l' i h']
/-! ### forms -/
def badAr (n : Int) : Bool := decide (n < 0 ∨ 3 < n)
def sigE (g : List Int) : Int := if 12 < g.length then 2 else if g.any badAr then 3 else 0
theorem badAr_t {n : Int} (h : n < 0 ∨ 3 < n) : badAr n = true := decide_eq_true h
theorem badAr_f {n : Int} (h : ¬ (n < 0 ∨ 3 < n)) : badAr n = false := decide_eq_false h
/-- What is wrong with one part, its arguments looked at. -/
def partE (g : List Int) (t : Tm) : Int :=
  if t.f0 ≠ 0 then (if 1 ≤ t.f0 ∧ t.f0 ≤ 1000 then (if t.f2.length = 0 ∧ t.f1 = 0 then 0 else 1) else 3)
  else if 0 ≤ t.f1 ∧ t.f1 < g.length then (if (t.f2.length : Int) = g.getD t.f1.toNat 0 then 0 else 1) else 5
mutual
def formE (g : List Int) : Tm → Int
  | ⟨v, f, l⟩ => if formEL g l ≠ 0 then formEL g l else partE g ⟨v, f, l⟩
def formEL (g : List Int) : List Tm → Int
  | [] => 0
  | t :: ts => if formE g t ≠ 0 then formE g t else formEL g ts
end
theorem formE_eq (g : List Int) (t : Tm) : formE g t = if formEL g t.f2 ≠ 0 then formEL g t.f2 else partE g t := by cases t; rw [formE]
theorem formEL_append (g : List Int) (a b : List Tm) : formEL g (a ++ b) = if formEL g a ≠ 0 then formEL g a else formEL g b := by
  induction a with
  | nil => simp [formEL]
  | cons t ts ih =>
    simp only [List.cons_append, formEL, ih]
    by_cases h : formE g t = 0 <;> simp [h]
theorem formEL_take_succ (g : List Int) (l : List Tm) (i : Nat) (h : i < l.length) (h0 : formEL g (l.take i) = 0) : formEL g (l.take (i+1)) = formE g (rd_Tm l i) := by
  rw [List.take_succ_eq_append_getElem h, formEL_append, h0, rd_get l i h]
  simp only [formEL, ne_eq, not_true_eq_false, if_false]
  by_cases h2 : formE g l[i] = 0 <;> simp [h2]
theorem formEL_bad (g : List Int) (l : List Tm) (i : Nat) (h : formEL g (l.take i) ≠ 0) : formEL g l = formEL g (l.take i) := by
  have := formEL_append g (l.take i) (l.drop i)
  rw [List.take_append_drop, if_pos h] at this; exact this
theorem formEL_mem {g : List Int} {l : List Tm} (h : formEL g l = 0) : ∀ x ∈ l, formE g x = 0 := by
  induction l with
  | nil => intro x hx; cases hx
  | cons t ts ih =>
    rw [formEL] at h
    by_cases h2 : formE g t = 0
    · simp only [h2, ne_eq, not_true_eq_false, if_false] at h
      intro x hx; cases hx with
      | head => exact h2
      | tail _ hx => exact ih h x hx
    · simp only [ne_eq, h2, not_false_eq_true, if_true] at h
theorem formEL_of {g : List Int} {l : List Tm} (h : ∀ x ∈ l, formE g x = 0) : formEL g l = 0 := by
  induction l with
  | nil => rfl
  | cons t ts ih => rw [formEL, h t (by simp), ih (fun x hx => h x (by simp [hx]))]; simp
def chkT (g : List Int) (t : Tm) : Int := if 120 < szT t then 2 else formE g t
/-- A term that is right. -/
def okT (g : List Int) (t : Tm) : Prop := szT t ≤ 120 ∧ formE g t = 0
theorem chkT_ok {g : List Int} {t : Tm} : chkT g t = 0 ↔ okT g t := by
  unfold chkT okT
  by_cases h : 120 < szT t
  · simp [h]; omega
  · simp only [h, if_false]; omega
/-! ### parts, behind those that stand in them -/
mutual
def ptsT : Tm → List Tm
  | ⟨v, f, l⟩ => ptsL l ++ [⟨v, f, l⟩]
def ptsL : List Tm → List Tm
  | [] => []
  | t :: ts => ptsT t ++ ptsL ts
end
theorem ptsT_eq (t : Tm) : ptsT t = ptsL t.f2 ++ [t] := by cases t; rw [ptsT]
theorem ptsL_append (a b : List Tm) : ptsL (a ++ b) = ptsL a ++ ptsL b := by
  induction a with
  | nil => simp [ptsL]
  | cons t ts ih => simp [ptsL, ih]
theorem ptsL_take_succ (l : List Tm) (i : Nat) (h : i < l.length) : ptsL (l.take (i+1)) = ptsL (l.take i) ++ ptsT (rd_Tm l i) := by
  rw [List.take_succ_eq_append_getElem h, ptsL_append, rd_get l i h]; simp [ptsL]
theorem ptsT_len (t : Tm) : (ptsT t).length = szT t := by
  refine Tm.rec (motive_1 := fun t => (ptsT t).length = szT t) (motive_2 := fun l => (ptsL l).length = szL l) ?_ ?_ ?_ t
  · intro v f l ih; rw [ptsT, szT, List.length_append, ih]; simp; omega
  · simp [ptsL, szL]
  · intro t ts h1 h2; rw [ptsL, szL, List.length_append, h1, h2]
theorem ptsL_len (l : List Tm) : (ptsL l).length = szL l := by
  induction l with
  | nil => simp [ptsL, szL]
  | cons t ts ih => rw [ptsL, szL, List.length_append, ptsT_len, ih]
/-- The first part that is wrong, told part by part. -/
def firstE (g : List Int) : List Tm → Int
  | [] => 0
  | t :: ts => if partE g t ≠ 0 then partE g t else firstE g ts
theorem firstE_append (g : List Int) (a b : List Tm) : firstE g (a ++ b) = if firstE g a ≠ 0 then firstE g a else firstE g b := by
  induction a with
  | nil => simp [firstE]
  | cons t ts ih =>
    simp only [List.cons_append, firstE, ih]
    by_cases h : partE g t = 0 <;> simp [h]
theorem firstE_pts (g : List Int) (t : Tm) : firstE g (ptsT t) = formE g t := by
  refine Tm.rec (motive_1 := fun t => firstE g (ptsT t) = formE g t) (motive_2 := fun l => firstE g (ptsL l) = formEL g l) ?_ ?_ ?_ t
  · intro v f l ih
    rw [ptsT, firstE_append, ih, formE]
    by_cases h : formEL g l = 0
    · simp only [h, firstE, ne_eq, not_true_eq_false, if_false]
      by_cases h2 : partE g ⟨v, f, l⟩ = 0 <;> simp [h2]
    · simp [h]
  · simp [ptsL, firstE, formEL]
  · intro t ts h1 h2
    rw [ptsL, firstE_append, h1, h2, formEL]
theorem firstE_take_succ (g : List Int) (l : List Tm) (i : Nat) (h : i < l.length) (h0 : firstE g (l.take i) = 0) : firstE g (l.take (i+1)) = partE g (rd_Tm l i) := by
  rw [List.take_succ_eq_append_getElem h, firstE_append, h0, rd_get l i h]
  simp only [firstE, ne_eq, not_true_eq_false, if_false]
  by_cases h2 : partE g l[i] = 0 <;> simp [h2]
theorem firstE_bad (g : List Int) (l : List Tm) (i : Nat) (h : firstE g (l.take i) ≠ 0) : firstE g l = firstE g (l.take i) := by
  have := firstE_append g (l.take i) (l.drop i)
  rw [List.take_append_drop, if_pos h] at this; exact this
/-! ### small -/
theorem newAt {w : World} {o : Obj} {k : Nat} (h : k = w.heap.size) : (w.alloc o).heap[k]? = some o := by subst h; exact heap_alloc_new w o
theorem bneF {a b : Int} (h : a = b) : (a != b) = false := by rw [h]; simp
theorem bneT {a b : Int} (h : a ≠ b) : (a != b) = true := by simpa using h
theorem at_Int {w : World} {A : Option Addr} {n : Nat} {xs : List Int} (h : Kd.C (Kd.int .i64) w A n xs) (i : Int) (h0 : 0 ≤ i) (h1 : i < n) : ∃ ad, A = some ad ∧ w.cell? (ad.add i.toNat) = some (.int .i64 (xs.getD i.toNat 0)) := by
  obtain ⟨ad, c, e, _, hK, hc⟩ := Kd.C_get h 0 i h0 h1
  have hK' : c = [.int .i64 (xs.getD i.toNat 0)] := hK
  have := hc 0 _ (by rw [hK']; rfl)
  refine ⟨ad, e, ?_⟩
  have e1 : i.toNat * (Kd.int IntKind.i64).sz + 0 = i.toNat := by show i.toNat * 1 + 0 = _; omega
  rwa [e1] at this
theorem oldc {w w' : World} (hb : Below w.heap.size w w') {a : Addr} {v : Value} (h : w.cell? a = some v) : w'.cell? a = some v := (hb.cell (World.block_lt_of_cell? w _ h)).trans h
theorem ret_int {k : IntKind} {a b : Int} (h : a = b) : Ending.returned (.int k a) = .returned (.int k b) := by rw [h]
theorem ret_bool {a b : Bool} (h : a = b) : Ending.returned (.bool a) = .returned (.bool b) := by rw [h]
theorem hbB {B : Nat} {w w1 w2 : World} (h : Below B w w1) (hB : B ≤ w1.heap.size) (k : Below w1.heap.size w1 w2) : Below B w w2 := below_then h hB k
theorem hbA {w w1 w2 : World} (h : Below w.heap.size w w1) (o : Obj) (k : Below (w1.alloc o).heap.size (w1.alloc o) w2) : Below w.heap.size w w2 := below_then (below_alloc h o) (by have := h.size; simp; omega) k
theorem hbT {w w1 w2 : World} (h : Below w.heap.size w w1) (k : Below w1.heap.size w1 w2) : Below w.heap.size w w2 := below_then h h.size k
theorem gbT {w w1 w2 : World} {r r1 : Option Nat} (h : w.grownBy w1 r) (k : w1.grownBy w2 r1) (hr : r1 = r ∨ ∃ b, r1 = some b ∧ w.heap.size ≤ b) : w.grownBy w2 r :=
  ⟨k.os.trans h.os, k.tape.trans h.tape, k.output.trans h.output, Nat.le_trans h.size k.size, fun i hi hn => (k.block i (Nat.lt_of_lt_of_le hi h.size) (by
    rcases hr with rfl | ⟨b, rfl, hb⟩
    · exact hn
    · intro e; injection e with e; omega)).trans (h.block i hi hn)⟩
theorem gbB {w w1 : World} {r : Option Nat} (h : w.grownBy w1 r) (hr : r = none ∨ ∃ b, r = some b ∧ w.heap.size ≤ b) : Below w.heap.size w w1 :=
  ⟨h.os, h.tape, h.output, h.size, fun i hi => h.block i hi (by
    rcases hr with rfl | ⟨b, rfl, hb⟩
    · simp
    · intro e; injection e with e; omega)⟩
theorem gbOf {w w1 : World} (h : Below w.heap.size w w1) (r : Option Nat) : w.grownBy w1 r := grown_of_below h r
/-- An element of a row that is read, with what it leads to. -/
theorem at_TmF {w : World} {ok : Nat → Prop} {A : Option Addr} {n : Nat} {xs : List Tm} (h : Kd.F kTm w ok A n xs) (i : Int) (h0 : 0 ≤ i) (h1 : i < n) : ∃ ad A2 c2, A = some ad ∧ w.cell? (ad.add (i.toNat * 3)) = some (.int .i64 (rd_Tm xs i).f0) ∧ w.cell? ⟨(ad.add (i.toNat * 3)).block, (ad.add (i.toNat * 3)).off + 1, none⟩ = some (.int .i64 (rd_Tm xs i).f1) ∧ w.cell? ⟨(ad.add (i.toNat * 3)).block, (ad.add (i.toNat * 3)).off + 2, none⟩ = some (.slice A2 (rd_Tm xs i).f2.length c2) ∧ (rd_Tm xs i).f2.length ≤ c2 ∧ Kd.F kTm w ok A2 (rd_Tm xs i).f2.length (rd_Tm xs i).f2 ∧ ok ad.block := by
  obtain ⟨ad, c, e, _, hK, hc0, hin⟩ := Kd.F_get h zTm i h0 h1
  have hc : ∀ j u, c[j]? = some u → w.cell? (ad.add (i.toNat * 3 + j)) = some u := hc0
  obtain ⟨A2, c2, rfl, l2, g2⟩ := kTm_openF hK
  exact ⟨ad, A2, c2, e, hc 0 _ rfl, by rw [← add_field _ _ 1 (by omega)]; exact hc 1 _ rfl, by rw [← add_field _ _ 2 (by omega)]; exact hc 2 _ rfl, l2, g2, hin (by decide)⟩
end Go.Proofs.Ytcgnpmjkeifokaa
-- K1
/- The walks of what counts and checks a term: term.Count, superposeref.SizeOf. -/
namespace Go.Proofs.Ytcgnpmjkeifokaa
open Go.RowKit Go.Proofs.YtcgnpmjkeifokaaW.PrintWords
set_option linter.unusedVariables false
set_option linter.unusedSimpArgs false
theorem cnt_step (m x s k : Int) (h0 : 0 ≤ m) (h1 : min (1 + s) (m + 1) ≤ m) : min (1 + s) (m + 1) + min x (m - min (1 + s) (m + 1) + 1) = min (1 + (s + x)) (m + 1) := by omega
set_option maxHeartbeats 4000000 in
set_option maxRecDepth 100000 in
theorem count_any (m : Nat) : ∀ (t : Tm) (A : Option Addr) (c : Nat) (w : World) (most : Int), szT t ≤ m → kTm.C w A t.f2.length t.f2 → 0 ≤ most → most ≤ 1000 →
    Calls Try.prog 87 #[.agg #[.int .i64 t.f0, .int .i64 t.f1, .slice A t.f2.length c], .int .i64 most] w fun e w' => e = .returned (.int .i64 (min (szT t : Int) (most + 1))) ∧ Below w.heap.size w w' := by
  induction m with
  | zero => intro t A c w most h; have := szT_pos t; omega
  | succ m ih =>
  intro t A c w most hm hC h0 h1
  have hlen := hC.2.1
  have IH := Aside0.mk ih
  have HC := Aside0.mk hC
  have HS := Aside0.mk (szT_eq t)
  have HM := Aside0.mk hm
  clear hm hC ih
  go_enter Try.func87, Try.ntmps87
  go_wp2
  go_loopw [5, 11] (fun v i wr => ∃ k : Nat, k ≤ t.f2.length ∧ i = .int .i64 k ∧ v = .int .i64 (min (1 + szL (t.f2.take k) : Int) (most + 1)) ∧ Below w.heap.size w wr) (fun _ i _ => t.f2.length - (intOf i).toNat)
  case atStart => exact ⟨0, by omega, rfl, by simp [szL]; omega, by exact (Below.refl _ _).alloc (Nat.le_refl _) _⟩
  case round =>
    obtain ⟨k, hk, rfl, rfl, hb⟩ := hrel
    by_cases hlt : k < t.f2.length
    · obtain ⟨ad, A2, c2, rfl, e0, e1, e2, hl2, hC2⟩ := at_Tm HC.out (k : Int) (by omega) (by omega)
      simp only [Int.toNat_natCast] at e0 e1 e2
      have E0 := oldc hb e0
      have E1 := oldc hb e1
      have E2 := oldc hb e2
      have HK := Aside0.mk (szL_take_succ t.f2 k hlt)
      have HT := Aside0.mk (szT_mem (rd_mem t.f2 k hlt))
      have HL := Aside0.mk (szL_take_le t.f2 (k+1))
      have HC2 := Aside0.mk hC2
      clear e0 e1 e2 hC2
      go_wp2_with (go_at_call 87; refine (IH.out (rd_Tm t.f2 k) A2 c2 _ _ ?_ ?_ ?_ ?_).mono ?_; (have := HS.out; have := HM.out; have := HT.out; omega); exact Kd.C_below HC2.out (below_alloc hb _); omega; omega; rintro e w2 ⟨rfl, hb2⟩)
      · go_ret
        refine ⟨ret_int ?_, below_alloc hb _⟩
        have h3 := HS.out; have h4 := szL_take_le t.f2 k
        omega
      · go_roundw
        case rel =>
          refine ⟨k + 1, by omega, by go_num, ?_, hbA hb _ hb2⟩
          have h3 := HK.out
          rw [h3, cnt_step most _ _ k h0 (by assumption)]; rfl
        case measure => simp [intOf]; omega
    · obtain rfl : k = t.f2.length := by omega
      go_wp2
      go_ret
      refine ⟨ret_int ?_, hb⟩
      rw [List.take_length]; have h3 := HS.out; omega
end Go.Proofs.Ytcgnpmjkeifokaa
-- K2
/- The walks of what checks a term: term.form, superposeref.between, PartsOf, CheckTerm, CheckSignature, term.Signature, term.Own. -/
namespace Go.Proofs.Ytcgnpmjkeifokaa
open Go.RowKit Go.Proofs.YtcgnpmjkeifokaaW.PrintWords
set_option linter.unusedVariables false
set_option linter.unusedSimpArgs false
set_option maxHeartbeats 4000000 in
set_option maxRecDepth 100000 in
theorem form_any (m : Nat) : ∀ (g : List Int) (Ag : Option Addr) (cg : Nat) (t : Tm) (A : Option Addr) (c : Nat) (w : World), szT t ≤ m → Kd.C (Kd.int .i64) w Ag g.length g → kTm.C w A t.f2.length t.f2 →
    Calls Try.prog 109 #[.agg #[.slice Ag g.length cg], .agg #[.int .i64 t.f0, .int .i64 t.f1, .slice A t.f2.length c]] w fun e w' => e = .returned (.int .i64 (formE g t)) ∧ Below w.heap.size w w' := by
  induction m with
  | zero => intro g Ag cg t A c w h; have := szT_pos t; omega
  | succ m ih =>
  intro g Ag cg t A c w hm hG hC
  have hlen := hC.2.1
  have hglen := hG.2.1
  have IH := Aside0.mk ih
  have HC := Aside0.mk hC
  have HG := Aside0.mk hG
  have HS := Aside0.mk (szT_eq t)
  have HM := Aside0.mk hm
  have HE := Aside0.mk (formE_eq g t)
  clear hm hC ih hG
  go_enter Try.func109, Try.ntmps109
  go_wp2
  go_loopw [11] (fun i wr => ∃ k : Nat, k ≤ t.f2.length ∧ i = .int .i64 k ∧ Aside0 (formEL g (t.f2.take k) = 0) ∧ Below w.heap.size w wr ∧ wr.heap[w.heap.size]? = some (.cells #[.slice Ag g.length cg] 24 (0, 0)) ∧ wr.heap[w.heap.size + 1]? = some (.cells #[.int .i64 t.f0, .int .i64 t.f1, .slice A t.f2.length c] 46 (0, 0))) (fun i _ => t.f2.length - (intOf i).toNat)
  case atStart => exact ⟨0, by omega, rfl, ⟨rfl⟩, by exact below_alloc (below_alloc (Below.refl _ _) _) _, by refine blk_alloc ?_ _; exact heap_alloc_new _ _, newAt (by simp)⟩
  case round =>
    obtain ⟨k, hk, rfl, h0, hb, hg, hg2⟩ := hrel
    have l0 := blk_lt hg
    have l1 := blk_lt hg2
    have q0 := (blk_cell hg 0).trans rfl
    have p0 := (blk_cell hg2 0).trans rfl
    have p1 := (blk_cell hg2 1).trans rfl
    have p2 := (blk_cell hg2 2).trans rfl
    by_cases hlt : k < t.f2.length
    · obtain ⟨ad, A2, c2, rfl, e0, e1, e2, hl2, hC2⟩ := at_Tm HC.out (k : Int) (by omega) (by omega)
      simp only [Int.toNat_natCast] at e0 e1 e2
      have E0 := oldc hb e0
      have E1 := oldc hb e1
      have E2 := oldc hb e2
      have HT := Aside0.mk (szT_mem (rd_mem t.f2 k hlt))
      have HC2 := Aside0.mk hC2
      have HH := Aside0.mk (formEL_take_succ g t.f2 k hlt h0.out)
      have HB2 := Aside0.mk (formEL_bad g t.f2 (k+1))
      have HG1 := Aside0.mk hg
      have HG2 := Aside0.mk hg2
      clear e0 e1 e2 hC2 hg hg2
      by_cases hz : formE g (rd_Tm t.f2 k) = 0
      · have hz1 : (formE g (rd_Tm t.f2 k) != 0) = false := by simp [hz]
        have HZ := Aside0.mk hz
        clear hz
        go_wp2_with (go_at_call 109; refine (IH.out g Ag cg (rd_Tm t.f2 k) A2 c2 _ ?_ ?_ ?_).mono ?_; (have := HS.out; have := HM.out; have := HT.out; omega); exact Kd.C_below HG.out (below_alloc hb _); exact Kd.C_below HC2.out (below_alloc hb _); rintro e w2 ⟨rfl, hb2⟩)
        go_roundw
        case rel =>
          refine ⟨k + 1, by omega, by go_num, ⟨HH.out.trans HZ.out⟩, hbA hb _ hb2, (hb2.block _ (by have := blk_lt HG1.out; simp; omega)).trans (blk_alloc HG1.out _), (hb2.block _ (by have := blk_lt HG2.out; simp; omega)).trans (blk_alloc HG2.out _)⟩
        case measure => simp [intOf]; omega
      · have hz1 : (formE g (rd_Tm t.f2 k) != 0) = true := by simp [hz]
        have HZ := Aside0.mk hz
        clear hz
        go_wp2_with (go_at_call 109; refine (IH.out g Ag cg (rd_Tm t.f2 k) A2 c2 _ ?_ ?_ ?_).mono ?_; (have := HS.out; have := HM.out; have := HT.out; omega); exact Kd.C_below HG.out (below_alloc hb _); exact Kd.C_below HC2.out (below_alloc hb _); rintro e w2 ⟨rfl, hb2⟩)
        go_ret
        refine ⟨ret_int ?_, hbA hb _ hb2⟩
        have h3 := HB2.out (by rw [HH.out]; exact HZ.out)
        rw [HE.out, if_pos (by rw [h3, HH.out]; exact HZ.out), h3, HH.out]
    · obtain rfl : k = t.f2.length := by omega
      have HE2 := Aside0.mk (show formE g t = partE g t by rw [HE.out, if_neg (by have := h0.out; rw [List.take_length] at this; simp [this])])
      clear HE h0
      by_cases hv : t.f0 = 0
      · have hv1 : (t.f0 != 0) = false := by simp [hv]
        by_cases hf : 0 ≤ t.f1 ∧ t.f1 < g.length
        · obtain ⟨hf0, hf1⟩ := hf
          obtain ⟨ag, rfl, ea⟩ := at_Int HG.out t.f1 hf0 hf1
          have EA := oldc hb ea
          have hn : t.f1.toNat < g.length := by omega
          by_cases hq : (t.f2.length : Int) = g.getD t.f1.toNat 0
          · have hq1 : ((t.f2.length : Int) != g.getD t.f1.toNat 0) = false := bneF hq
            have HF := Aside0.mk (show formE g t = 0 by rw [HE2.out]; unfold partE; rw [if_neg (by simp [hv]), if_pos ⟨hf0, hf1⟩, if_pos hq])
            clear ea hq hv
            generalize g.getD t.f1.toNat 0 = x at *
            go_wp2
            go_quiet (fail)
            go_wp2
            go_ret
            exact ⟨ret_int HF.out.symm, pw_below_drewN hb _⟩
          · have hq1 : ((t.f2.length : Int) != g.getD t.f1.toNat 0) = true := bneT hq
            have HF := Aside0.mk (show formE g t = 1 by rw [HE2.out]; unfold partE; rw [if_neg (by simp [hv]), if_pos ⟨hf0, hf1⟩, if_neg hq])
            clear ea hq hv
            generalize g.getD t.f1.toNat 0 = x at *
            go_wp2
            go_quiet (fail)
            go_wp2
            go_ret
            exact ⟨ret_int HF.out.symm, pw_below_drewN hb _⟩
        · have HF := Aside0.mk (show formE g t = 5 by rw [HE2.out]; unfold partE; rw [if_neg (by simp [hv]), if_neg hf])
          clear hv
          by_cases hf0 : t.f1 < 0
          · go_wp2
            go_ret
            exact ⟨ret_int HF.out.symm, hb⟩
          · have hf1 : (g.length : Int) ≤ t.f1 := by omega
            clear hf
            go_wp2
            go_ret
            exact ⟨ret_int HF.out.symm, hb⟩
      · have hv1 : (t.f0 != 0) = true := by simp [hv]
        by_cases hr : t.f0 < 1
        · have HF := Aside0.mk (show formE g t = 3 by rw [HE2.out]; unfold partE; rw [if_pos hv, if_neg (by omega)])
          clear hv
          go_wp2
          go_ret
          exact ⟨ret_int HF.out.symm, hb⟩
        · by_cases hr2 : 1000 < t.f0
          · have HF := Aside0.mk (show formE g t = 3 by rw [HE2.out]; unfold partE; rw [if_pos hv, if_neg (by omega)])
            clear hv
            go_wp2
            go_ret
            exact ⟨ret_int HF.out.symm, hb⟩
          · by_cases hl : 0 < t.f2.length
            · have HF := Aside0.mk (show formE g t = 1 by rw [HE2.out]; unfold partE; rw [if_pos hv, if_pos (by omega), if_neg (by omega)])
              clear hv
              go_wp2
              go_ret
              exact ⟨ret_int HF.out.symm, hb⟩
            · by_cases hf : t.f1 = 0
              · have hf1 : (t.f1 != 0) = false := by simp [hf]
                have HF := Aside0.mk (show formE g t = 0 by rw [HE2.out]; unfold partE; rw [if_pos hv, if_pos (by omega), if_pos (by omega)])
                clear hv hf
                go_wp2
                go_ret
                exact ⟨ret_int HF.out.symm, hb⟩
              · have hf1 : (t.f1 != 0) = true := by simp [hf]
                have HF := Aside0.mk (show formE g t = 1 by rw [HE2.out]; unfold partE; rw [if_pos hv, if_pos (by omega), if_neg (by omega)])
                clear hv hf
                go_wp2
                go_ret
                exact ⟨ret_int HF.out.symm, hb⟩
def btw (n a b : Int) : Bool := decide (a ≤ n ∧ n ≤ b)
theorem btw_t {n a b : Int} (h1 : a ≤ n) (h2 : n ≤ b) : btw n a b = true := by simp [btw, h1, h2]
theorem btw_f {n a b : Int} (h : ¬ (a ≤ n ∧ n ≤ b)) : btw n a b = false := by unfold btw; exact decide_eq_false h
set_option maxHeartbeats 4000000 in
set_option maxRecDepth 100000 in
theorem own_any (g : List Int) (Ag : Option Addr) (cg : Nat) (t : Tm) (A : Option Addr) (c : Nat) (w : World) (hG : Kd.C (Kd.int .i64) w Ag g.length g) (hC : kTm.C w A t.f2.length t.f2) :
    Calls Try.prog 74 #[.agg #[.slice Ag g.length cg], .agg #[.int .i64 t.f0, .int .i64 t.f1, .slice A t.f2.length c]] w fun e w' => e = .returned (.int .i64 (chkT g t)) ∧ Below w.heap.size w w' := by
  have HC := Aside0.mk hC
  have HG := Aside0.mk hG
  clear hC hG
  by_cases h : 120 < szT t
  · have H := Aside0.mk (show chkT g t = 2 by unfold chkT; rw [if_pos h])
    go_enter Try.func74, Try.ntmps74
    go_wp2_with (go_at_call 87; refine (count_any _ t A c _ 120 (Nat.le_refl _) ?_ ?_ ?_).mono ?_; exact Kd.C_below HC.out (below_alloc (below_alloc (Below.refl _ _) _) _); omega; omega; rintro e w2 ⟨rfl, hb2⟩)
    go_ret
    exact ⟨ret_int H.out.symm, below_then (below_alloc (below_alloc (Below.refl _ _) _) _) (by simp; omega) hb2⟩
  · have H := Aside0.mk (show chkT g t = formE g t by unfold chkT; rw [if_neg h])
    go_enter Try.func74, Try.ntmps74
    go_wp2_with (fail)
    refine (count_any _ t A c _ 120 (Nat.le_refl _) (Kd.C_below HC.out (below_alloc (below_alloc (Below.refl _ _) _) _)) (by omega) (by omega)).mono ?_
    rintro e w2 ⟨rfl, hb2⟩
    have hb0 : Below w.heap.size w w2 := below_then (below_alloc (below_alloc (Below.refl _ _) _) _) (by simp; omega) hb2
    have g0 := (hb2.block w.heap.size (by simp; omega)).trans (blk_alloc (heap_alloc_new w (.cells #[.slice Ag g.length cg] 24)) _)
    have g1 := (hb2.block (w.heap.size + 1) (by simp)).trans (newAt (by simp))
    have q0 := (blk_cell g0 0).trans rfl
    have p0 := (blk_cell g1 0).trans rfl
    have p1 := (blk_cell g1 1).trans rfl
    have p2 := (blk_cell g1 2).trans rfl
    have HB := Aside0.mk hb0
    clear hb2 hb0 g0 g1
    go_wp2_with (fail)
    refine (form_any _ g Ag cg t A c _ (Nat.le_refl _) (Kd.C_below HG.out HB.out) (Kd.C_below HC.out HB.out)).mono ?_
    rintro e w3 ⟨rfl, hb3⟩
    go_wp2
    go_ret
    exact ⟨ret_int H.out.symm, hbT HB.out hb3⟩
end Go.Proofs.Ytcgnpmjkeifokaa
-- K3
/- superposeref.PartsOf, CheckTerm, CheckSignature, CheckTerms. -/
namespace Go.Proofs.Ytcgnpmjkeifokaa
open Go.RowKit Go.Proofs.YtcgnpmjkeifokaaW.PrintWords
set_option linter.unusedVariables false
set_option linter.unusedSimpArgs false
/-- Where a row that is appended to lies: where it lay, or in a block that is new. -/
def InOrNew (w : World) (v v1 : Value) : Prop := v1.ownBlock = v.ownBlock ∨ ∃ b, v1.ownBlock = some b ∧ w.heap.size ≤ b
end Go.Proofs.Ytcgnpmjkeifokaa
-- K4
/- superposeref.CheckTerm, CheckSignature, CheckTerms. -/
namespace Go.Proofs.Ytcgnpmjkeifokaa
open Go.RowKit Go.Proofs.YtcgnpmjkeifokaaW.PrintWords
set_option linter.unusedVariables false
set_option linter.unusedSimpArgs false
theorem partE_cases (g : List Int) (x : Tm) :
    (x.f0 ≠ 0 ∧ ¬ (1 ≤ x.f0 ∧ x.f0 ≤ 1000) ∧ partE g x = 3) ∨ (x.f0 ≠ 0 ∧ 1 ≤ x.f0 ∧ x.f0 ≤ 1000 ∧ 0 < x.f2.length ∧ partE g x = 1) ∨ (x.f0 ≠ 0 ∧ 1 ≤ x.f0 ∧ x.f0 ≤ 1000 ∧ x.f2.length = 0 ∧ x.f1 ≠ 0 ∧ partE g x = 1) ∨
    (x.f0 ≠ 0 ∧ 1 ≤ x.f0 ∧ x.f0 ≤ 1000 ∧ x.f2.length = 0 ∧ x.f1 = 0 ∧ partE g x = 0) ∨ (x.f0 = 0 ∧ ¬ (0 ≤ x.f1 ∧ x.f1 < g.length) ∧ partE g x = 5) ∨ (x.f0 = 0 ∧ 0 ≤ x.f1 ∧ x.f1 < g.length ∧ (x.f2.length : Int) ≠ g.getD x.f1.toNat 0 ∧ partE g x = 1) ∨
    (x.f0 = 0 ∧ 0 ≤ x.f1 ∧ x.f1 < g.length ∧ (x.f2.length : Int) = g.getD x.f1.toNat 0 ∧ partE g x = 0) := by
  unfold partE
  by_cases h0 : x.f0 = 0
  · by_cases h1 : 0 ≤ x.f1 ∧ x.f1 < g.length
    · by_cases h2 : (x.f2.length : Int) = g.getD x.f1.toNat 0
      · exact .inr (.inr (.inr (.inr (.inr (.inr ⟨h0, h1.1, h1.2, h2, by rw [if_neg (by simp [h0]), if_pos h1, if_pos h2]⟩)))))
      · exact .inr (.inr (.inr (.inr (.inr (.inl ⟨h0, h1.1, h1.2, h2, by rw [if_neg (by simp [h0]), if_pos h1, if_neg h2]⟩)))))
    · exact .inr (.inr (.inr (.inr (.inl ⟨h0, h1, by rw [if_neg (by simp [h0]), if_neg h1]⟩))))
  · by_cases h1 : 1 ≤ x.f0 ∧ x.f0 ≤ 1000
    · by_cases h2 : x.f2.length = 0
      · by_cases h3 : x.f1 = 0
        · exact .inr (.inr (.inr (.inl ⟨h0, h1.1, h1.2, h2, h3, by rw [if_pos h0, if_pos h1, if_pos ⟨h2, h3⟩]⟩)))
        · exact .inr (.inr (.inl ⟨h0, h1.1, h1.2, h2, h3, by rw [if_pos h0, if_pos h1, if_neg (by omega)]⟩))
      · exact .inr (.inl ⟨h0, h1.1, h1.2, by omega, by rw [if_pos h0, if_pos h1, if_neg (by omega)]⟩)
    · exact .inl ⟨h0, h1, by rw [if_pos h0, if_neg h1]⟩
end Go.Proofs.Ytcgnpmjkeifokaa
-- K5
/- slices.IndexFunc, ContainsFunc over whole numbers at whatever predicate; term.Signature; superposeref.CheckSignature. -/
namespace Go.Proofs.Ytcgnpmjkeifokaa
open Go.RowKit Go.Proofs.YtcgnpmjkeifokaaW.PrintWords
set_option linter.unusedVariables false
set_option linter.unusedSimpArgs false
/-- Which one is the first (-1: none). -/
def idxB {α : Type} (p : α → Bool) (l : List α) : Int := match l.findIdx? p with
  | some i => i
  | none => -1
theorem idxB_none {α : Type} {p : α → Bool} {l : List α} (h : l.all (fun x => !p x) = true) : idxB p l = -1 := by
  unfold idxB
  have : l.findIdx? p = none := by
    rw [List.findIdx?_eq_none_iff]; intro x hx
    have := List.all_eq_true.1 h x hx; simpa using this
  rw [this]
theorem idxB_at {α : Type} {p : α → Bool} {l : List α} {k : Nat} (hk : k < l.length) (h0 : (l.take k).all (fun x => !p x) = true) (hp : p l[k] = true) : idxB p l = k := by
  unfold idxB
  have : l.findIdx? p = some k := by
    rw [List.findIdx?_eq_some_iff_getElem]
    refine ⟨hk, hp, fun j hj => ?_⟩
    have hm : l[j]'(by omega) ∈ l.take k := by rw [List.mem_take_iff_getElem]; exact ⟨j, by omega, rfl⟩
    have := List.all_eq_true.1 h0 _ hm; simpa using this
  rw [this]
theorem idxB_any {α : Type} (p : α → Bool) (l : List α) : decide (0 ≤ idxB p l) = l.any p := by
  rw [Bool.eq_iff_iff, decide_eq_true_eq]
  unfold idxB
  cases h : l.findIdx? p with
  | none =>
    rw [List.findIdx?_eq_none_iff] at h
    constructor
    · intro h2; simp at h2
    · intro h2; obtain ⟨x, hx, hp⟩ := List.any_eq_true.1 h2; rw [h x hx] at hp; exact absurd hp (by simp)
  | some i =>
    rw [List.findIdx?_eq_some_iff_getElem] at h
    obtain ⟨hi, hp, _⟩ := h
    constructor
    · intro _; exact List.any_eq_true.2 ⟨l[i], List.getElem_mem _, hp⟩
    · intro _; simp
theorem idxB_ge {α : Type} (p : α → Bool) (l : List α) : -1 ≤ idxB p l := by unfold idxB; split <;> omega
theorem take_all_succ {α : Type} {p : α → Bool} {l : List α} {k : Nat} (hk : k < l.length) (h0 : (l.take k).all p = true) (hp : p l[k] = true) : (l.take (k+1)).all p = true := by
  rw [List.take_succ_eq_append_getElem hk, List.all_append, h0]; simp [hp]
set_option maxHeartbeats 4000000 in
set_option maxRecDepth 100000 in
theorem indexFunc_int (g : Nat) (lb : Array Value) (p : Int → Bool) (eg : ∀ args w, (callFunc g args).run Try.prog w = .ok (.enter g args) w) (xs : List Int) (A : Option Addr) (c : Nat) (w : World) (hC : Kd.C (Kd.int .i64) w A xs.length xs)
    (hp : ∀ x, x ∈ xs → ∀ W : World, Below w.heap.size w W → Calls Try.prog g (#[.int .i64 x] ++ lb) W fun e w' => e = .returned (.bool (p x)) ∧ Below W.heap.size W w') :
    Calls Try.prog 124 #[.slice A xs.length c, .func (.func g) #[] lb] w fun e w' => e = .returned (.int .i64 (idxB p xs)) ∧ Below w.heap.size w w' := by
  have hlen := hC.2.1
  have HC := Aside0.mk hC
  have HP := Aside0.mk hp
  clear hC hp
  go_enter Try.func124, Try.ntmps124
  go_wp2
  go_loopw [8] (fun i wr => ∃ k : Nat, k ≤ xs.length ∧ i = .int .i64 k ∧ Aside0 ((xs.take k).all (fun x => !p x) = true) ∧ Below w.heap.size w wr) (fun i _ => xs.length - (intOf i).toNat)
  case atStart => exact ⟨0, by omega, rfl, ⟨rfl⟩, Below.refl _ _⟩
  case round =>
    obtain ⟨k, hk, rfl, h0, hb⟩ := hrel
    by_cases hlt : k < xs.length
    · obtain ⟨ad, rfl, e0⟩ := at_Int HC.out (k : Int) (by omega) (by omega)
      simp only [Int.toNat_natCast] at e0
      have hx : xs.getD k 0 = xs[k] := by simp [List.getD_eq_getElem?_getD, hlt]
      rw [hx] at e0
      have E0 := oldc hb e0
      have HX := Aside0.mk (HP.out xs[k] (List.getElem_mem _))
      have H1 := Aside0.mk (fun h => idxB_at (p := p) hlt h0.out h)
      have H2 := Aside0.mk (fun h => take_all_succ (p := fun x => !p x) hlt h0.out h)
      clear e0 hx
      generalize xs[k] = x at *
      go_wp2_with (fail)
      refine (HX.out _ hb).mono ?_
      rintro e w2 ⟨rfl, hb2⟩
      cases hpx : p x with
      | true =>
        have HF := Aside0.mk (H1.out hpx)
        clear H1 H2 HX hpx
        go_wp2
        go_ret
        exact ⟨ret_int HF.out.symm, hbT hb hb2⟩
      | false =>
        have HF := Aside0.mk (H2.out (by simp [hpx]))
        clear H1 H2 HX hpx
        go_wp2
        go_roundw
        case rel => exact ⟨k + 1, by omega, by go_num, HF, hbT hb hb2⟩
        case measure => simp [intOf]; omega
    · obtain rfl : k = xs.length := by omega
      have HF := Aside0.mk (idxB_none (p := p) (l := xs) (by have := h0.out; rwa [List.take_length] at this))
      clear h0
      go_wp2
      go_ret
      exact ⟨ret_int HF.out.symm, hb⟩
def anyB {α : Type} (p : α → Bool) (l : List α) : Bool := l.any p
set_option maxHeartbeats 4000000 in
set_option maxRecDepth 100000 in
theorem containsFunc_int (g : Nat) (lb : Array Value) (p : Int → Bool) (eg : ∀ args w, (callFunc g args).run Try.prog w = .ok (.enter g args) w) (xs : List Int) (A : Option Addr) (c : Nat) (w : World) (hC : Kd.C (Kd.int .i64) w A xs.length xs)
    (hp : ∀ x, x ∈ xs → ∀ W : World, Below w.heap.size w W → Calls Try.prog g (#[.int .i64 x] ++ lb) W fun e w' => e = .returned (.bool (p x)) ∧ Below W.heap.size W w') :
    Calls Try.prog 90 #[.slice A xs.length c, .func (.func g) #[] lb] w fun e w' => e = .returned (.bool (anyB p xs)) ∧ Below w.heap.size w w' := by
  have H := Aside0.mk (idxB_any p xs)
  have HI := Aside0.mk (indexFunc_int g lb p eg xs A c w hC hp)
  clear hC hp eg
  go_enter Try.func90, Try.ntmps90
  go_wp2_with (fail)
  refine HI.out.mono ?_
  rintro e w2 ⟨rfl, hb2⟩
  generalize idxB p xs = y at *
  go_wp2
  go_ret
  exact ⟨ret_bool H.out, hb2⟩
set_option maxHeartbeats 4000000 in
set_option maxRecDepth 100000 in
theorem signature1_any (n : Int) (w : World) : Calls Try.prog 91 #[.int .i64 n] w fun e w' => e = .returned (.bool (badAr n)) ∧ Below w.heap.size w w' := by
  by_cases h1 : n < 0
  · have H := Aside0.mk (badAr_t (.inl h1))
    go_enter Try.func91, Try.ntmps91
    go_wp2
    go_ret
    exact ⟨ret_bool H.out.symm, Below.refl _ _⟩
  · by_cases h2 : 3 < n
    · have H := Aside0.mk (badAr_t (.inr h2))
      go_enter Try.func91, Try.ntmps91
      go_wp2
      go_ret
      exact ⟨ret_bool H.out.symm, Below.refl _ _⟩
    · have H := Aside0.mk (badAr_f (n := n) (by omega))
      go_enter Try.func91, Try.ntmps91
      go_wp2
      go_ret
      exact ⟨ret_bool H.out.symm, Below.refl _ _⟩
set_option maxHeartbeats 4000000 in
set_option maxRecDepth 100000 in
theorem signature_any (g : List Int) (Ag : Option Addr) (cg : Nat) (w : World) (hG : Kd.C (Kd.int .i64) w Ag g.length g) :
    Calls Try.prog 43 #[.agg #[.slice Ag g.length cg]] w fun e w' => e = .returned (.int .i64 (sigE g)) ∧ Below w.heap.size w w' := by
  have HG := Aside0.mk hG
  clear hG
  by_cases h1 : 12 < g.length
  · have H := Aside0.mk (show sigE g = 2 by unfold sigE; rw [if_pos h1])
    go_enter Try.func43, Try.ntmps43
    go_wp2
    go_ret
    exact ⟨ret_int H.out.symm, below_alloc (Below.refl _ _) _⟩
  · have H := Aside0.mk (show sigE g = if g.any badAr then 3 else 0 by unfold sigE; rw [if_neg h1])
    have HB := Aside0.mk (below_alloc (Below.refl w.heap.size w) (.cells #[.slice Ag g.length cg] 24))
    go_enter Try.func43, Try.ntmps43
    go_wp2_with (fail)
    refine (containsFunc_int 91 #[] badAr (enters_of Try.func91 (by kernel_rfl) rfl) g Ag cg _ (Kd.C_below HG.out HB.out) (fun x _ W _ => signature1_any x W)).mono ?_
    rintro e w2 ⟨rfl, hb2⟩
    cases h : anyB badAr g with
    | true =>
      have H2 := Aside0.mk (show sigE g = 3 by rw [H.out]; unfold anyB at h; rw [h]; rfl)
      clear H h
      go_wp2
      go_ret
      exact ⟨ret_int H2.out.symm, hbT HB.out hb2⟩
    | false =>
      have H2 := Aside0.mk (show sigE g = 0 by rw [H.out]; unfold anyB at h; rw [h]; rfl)
      clear H h
      go_wp2
      go_ret
      exact ⟨ret_int H2.out.symm, hbT HB.out hb2⟩
theorem any_take {p : Int → Bool} {l : List Int} {k : Nat} (hk : k < l.length) (h0 : (l.take k).any p = false) : (l.take (k+1)).any p = p l[k] := by
  rw [List.take_succ_eq_append_getElem hk, List.any_append, h0]; simp
theorem any_at {p : Int → Bool} {l : List Int} {k : Nat} (hk : k < l.length) (h : p l[k] = true) : l.any p = true := List.any_eq_true.2 ⟨_, List.getElem_mem hk, h⟩
end Go.Proofs.Ytcgnpmjkeifokaa
-- K6
/- superposeref.CheckTerms, CheckClause, CheckClauses. -/
namespace Go.Proofs.Ytcgnpmjkeifokaa
open Go.RowKit Go.Proofs.YtcgnpmjkeifokaaW.PrintWords
set_option linter.unusedVariables false
set_option linter.unusedSimpArgs false
/-- The first that is wrong. -/
def fe {α : Type} (f : α → Int) : List α → Int
  | [] => 0
  | x :: xs => if f x ≠ 0 then f x else fe f xs
section
variable {α : Type} {f : α → Int} {l : List α} {k : Nat}
theorem fe_append (a b : List α) : fe f (a ++ b) = if fe f a ≠ 0 then fe f a else fe f b := by
  induction a with
  | nil => simp [fe]
  | cons t ts ih =>
    simp only [List.cons_append, fe, ih]
    by_cases h : f t = 0 <;> simp [h]
theorem fe_take_succ (h : k < l.length) (h0 : fe f (l.take k) = 0) : fe f (l.take (k+1)) = f l[k] := by
  rw [List.take_succ_eq_append_getElem h, fe_append, h0]
  simp only [fe, ne_eq, not_true_eq_false, if_false]
  by_cases h2 : f l[k] = 0 <;> simp [h2]
theorem fe_bad (h : fe f (l.take k) ≠ 0) : fe f l = fe f (l.take k) := by
  have := fe_append (f := f) (l.take k) (l.drop k)
  rw [List.take_append_drop, if_pos h] at this; exact this
theorem fe_mem (h : fe f l = 0) : ∀ x ∈ l, f x = 0 := by
  induction l with
  | nil => intro x hx; cases hx
  | cons t ts ih =>
    rw [fe] at h
    by_cases h2 : f t = 0
    · rw [if_neg (by simp [h2])] at h
      intro x hx; cases hx with
      | head => exact h2
      | tail _ hx => exact ih h x hx
    · rw [if_pos h2] at h; exact absurd h h2
theorem fe_of (h : ∀ x ∈ l, f x = 0) : fe f l = 0 := by
  induction l with
  | nil => rfl
  | cons t ts ih => rw [fe, h t (by simp), ih (fun x hx => h x (by simp [hx]))]; simp
end
def chkTs (g : List Int) (l : List Tm) : Int := if sigE g ≠ 0 then sigE g else fe (chkT g) l
def chkLi (g : List Int) (x : Li) : Int := if chkT g x.f1 ≠ 0 then chkT g x.f1 else chkT g x.f2
def chkC (g : List Int) (c : List Li) : Int := if 8 < c.length then 2 else fe (chkLi g) c
def chkCs (g : List Int) (l : List (List Li)) : Int := if sigE g ≠ 0 then sigE g else if 60 < l.length then 2 else fe (chkC g) l
theorem beqT {a b : Int} (h : a = b) : (a == b) = true := by rw [h]; simp
theorem beqF {a b : Int} (h : a ≠ b) : (a == b) = false := by simpa using h
theorem getD_tm {l : List Tm} {k : Nat} (h : k < l.length) : rd_Tm l k = l[k] := rd_get l k h
/-- An element of a row of literals, with what it leads to. -/
theorem at_LiF {w : World} {ok : Nat → Prop} {A : Option Addr} {n : Nat} {xs : List Li} (h : Kd.F kLi w ok A n xs) (i : Int) (h0 : 0 ≤ i) (h1 : i < n) : ∃ ad A3 c3 A6 c6, A = some ad ∧ w.cell? (ad.add (i.toNat * 7)) = some (.bool (rd_Li xs i).f0) ∧
    w.cell? ⟨(ad.add (i.toNat * 7)).block, (ad.add (i.toNat * 7)).off + 1, none⟩ = some (.int .i64 (rd_Li xs i).f1.f0) ∧ w.cell? ⟨(ad.add (i.toNat * 7)).block, (ad.add (i.toNat * 7)).off + 2, none⟩ = some (.int .i64 (rd_Li xs i).f1.f1) ∧ w.cell? ⟨(ad.add (i.toNat * 7)).block, (ad.add (i.toNat * 7)).off + 3, none⟩ = some (.slice A3 (rd_Li xs i).f1.f2.length c3) ∧
    w.cell? ⟨(ad.add (i.toNat * 7)).block, (ad.add (i.toNat * 7)).off + 4, none⟩ = some (.int .i64 (rd_Li xs i).f2.f0) ∧ w.cell? ⟨(ad.add (i.toNat * 7)).block, (ad.add (i.toNat * 7)).off + 5, none⟩ = some (.int .i64 (rd_Li xs i).f2.f1) ∧ w.cell? ⟨(ad.add (i.toNat * 7)).block, (ad.add (i.toNat * 7)).off + 6, none⟩ = some (.slice A6 (rd_Li xs i).f2.f2.length c6) ∧
    (rd_Li xs i).f1.f2.length ≤ c3 ∧ Kd.F kTm w ok A3 (rd_Li xs i).f1.f2.length (rd_Li xs i).f1.f2 ∧ (rd_Li xs i).f2.f2.length ≤ c6 ∧ Kd.F kTm w ok A6 (rd_Li xs i).f2.f2.length (rd_Li xs i).f2.f2 ∧ ok ad.block := by
  obtain ⟨ad, c, e, _, hK, hc0, hin⟩ := Kd.F_get h zLi i h0 h1
  have hc : ∀ j u, c[j]? = some u → w.cell? (ad.add (i.toNat * 7 + j)) = some u := hc0
  obtain ⟨A3, c3, A6, c6, rfl, l3, g3, l6, g6⟩ := kLi_openF hK
  exact ⟨ad, A3, c3, A6, c6, e, hc 0 _ rfl, by rw [← add_field _ _ 1 (by omega)]; exact hc 1 _ rfl, by rw [← add_field _ _ 2 (by omega)]; exact hc 2 _ rfl, by rw [← add_field _ _ 3 (by omega)]; exact hc 3 _ rfl, by rw [← add_field _ _ 4 (by omega)]; exact hc 4 _ rfl, by rw [← add_field _ _ 5 (by omega)]; exact hc 5 _ rfl, by rw [← add_field _ _ 6 (by omega)]; exact hc 6 _ rfl, l3, g3, l6, g6, hin (by decide)⟩
theorem rdLi_get (l : List Li) (i : Nat) (h : i < l.length) : rd_Li l i = l[i] := by unfold rd_Li; simp [List.getD_eq_getElem?_getD, h]
def kCl : Kd (List Li) := Kd.slice 84 kLi
/-- An element of a row of clauses, with what it leads to. -/
theorem at_ClF {w : World} {ok : Nat → Prop} {A : Option Addr} {n : Nat} {xs : List (List Li)} (h : Kd.F kCl w ok A n xs) (i : Int) (h0 : 0 ≤ i) (h1 : i < n) : ∃ ad A0 c0, A = some ad ∧ w.cell? (ad.add i.toNat) = some (.slice A0 (rd_Cl xs i).length c0) ∧ (rd_Cl xs i).length ≤ c0 ∧ Kd.F kLi w ok A0 (rd_Cl xs i).length (rd_Cl xs i) ∧ ok ad.block := by
  obtain ⟨ad, c, e, _, hK, hc0, hin⟩ := Kd.F_get h [] i h0 h1
  have hc : ∀ j u, c[j]? = some u → w.cell? (ad.add (i.toNat * 1 + j)) = some u := hc0
  obtain ⟨A0, c0, rfl, l0, g0⟩ := Kd.FK_now hK
  refine ⟨ad, A0, c0, e, by have hq := hc 0 _ rfl; rwa [Nat.mul_one, Nat.add_zero] at hq, l0, fun W' hW => ?_, hin (by decide)⟩
  obtain ⟨A1, c1, he, _, g1⟩ := hK W' hW
  injection he with he _
  injection he with ha _ _
  rw [show rd_Cl xs i = xs.getD i.toNat [] from rfl, ha]; exact g1
theorem rdCl_get (l : List (List Li)) (i : Nat) (h : i < l.length) : rd_Cl l i = l[i] := by unfold rd_Cl; simp [List.getD_eq_getElem?_getD, h]
end Go.Proofs.Ytcgnpmjkeifokaa
-- K7
/- superposeref.CheckClause, CheckClauses; term.All. -/
namespace Go.Proofs.Ytcgnpmjkeifokaa
open Go.RowKit Go.Proofs.YtcgnpmjkeifokaaW.PrintWords
set_option linter.unusedVariables false
set_option linter.unusedSimpArgs false
theorem flat_get {α : Type} {sz : Nat} : ∀ (css : List (List α)) (j i : Nat) (c : List α) (u : α), (∀ c ∈ css, c.length = sz) → css[j]? = some c → c[i]? = some u → css.flatten[j * sz + i]? = some u
  | [], j, i, c, u, _, h, _ => by simp at h
  | c0 :: css, j, i, c, u, hl, h, hu => by
    have h0 : c0.length = sz := hl c0 (by simp)
    cases j with
    | zero =>
      simp only [List.getElem?_cons_zero, Option.some.injEq] at h
      subst h
      have hi := (List.getElem?_eq_some_iff.1 hu).1
      rw [List.flatten_cons, Nat.zero_mul, Nat.zero_add, List.getElem?_append_left hi]; exact hu
    | succ j =>
      simp only [List.getElem?_cons_succ] at h
      rw [List.flatten_cons, List.getElem?_append_right (by rw [h0, Nat.succ_mul]; omega)]
      have := flat_get css j i c u (fun c hc => hl c (by simp [hc])) h hu
      rw [← this, h0]; congr 1; rw [Nat.succ_mul]; omega
/-- A row that was just laid, its elements leading to what was there. -/
theorem F_lit {α : Type} {d : Kd α} {W : World} {ok : Nat → Prop} {gb e : Nat} {xs : List α} (css : List (List Value)) (hb : W.heap[gb]? = some (.cells css.flatten.toArray e (0, 0))) (hl : css.length = xs.length) (hn : xs.length ≤ 9223372036854775807)
    (h : ∀ (j : Nat) (x : α) (c : List Value), xs[j]? = some x → css[j]? = some c → Kd.FK d W ok x c) : Kd.F d W (fun k => ok k ∨ k = gb) (some ⟨gb, 0, none⟩) xs.length xs := by
  have hsz : ∀ c ∈ css, c.length = d.sz := by
    intro c hc
    obtain ⟨j, hj, rfl⟩ := List.mem_iff_getElem.1 hc
    exact d.K_len (Kd.FK_now (h j xs[j] css[j] (by simp) (by simp)))
  intro W' hW
  refine ⟨rfl, hn, fun _ => ⟨_, rfl, fun j p hj => ?_⟩⟩
  have hjl : j < css.length := by have := (List.getElem?_eq_some_iff.1 hj).1; omega
  have hcj : css[j]? = some css[j] := by simp
  refine ⟨css[j], hsz _ (List.getElem_mem _), h j p _ hj hcj W' (fun k hk hlt => hW k (.inl hk) hlt), fun i u hu => ?_⟩
  have hb' : W'.heap[gb]? = some (.cells css.flatten.toArray e (0, 0)) := (hW gb (.inr rfl) (blk_lt hb)).trans hb
  have h3 := blk_cell hb' (j * d.sz + i)
  rw [add_plain]
  rw [h3]
  have := flat_get css j i css[j] u hsz hcj hu
  simpa using this
theorem F_lit1 {W : World} {ok : Nat → Prop} {gb : Nat} {t : Tm} {A : Option Addr} {c : Nat} (hb : W.heap[gb]? = some (.cells #[.int .i64 t.f0, .int .i64 t.f1, .slice A t.f2.length c] 46 (0, 0))) (hF : Kd.F kTm W ok A t.f2.length t.f2) (hc : t.f2.length ≤ c) : Kd.F kTm W (fun k => ok k ∨ k = gb) (some ⟨gb, 0, none⟩) [t].length [t] :=
  F_lit (d := kTm) [[.int .i64 t.f0, .int .i64 t.f1, .slice A t.f2.length c]] hb rfl (by simp) (fun j x c' hx hc' => by
    cases j with
    | zero => simp at hx hc'; subst hx hc'; exact kTm_mkF W ok t hc hF
    | succ j => simp at hx)
theorem F_lit2 {W : World} {ok : Nat → Prop} {gb : Nat} {t u : Tm} {A B : Option Addr} {c d : Nat} (hb : W.heap[gb]? = some (.cells #[.int .i64 t.f0, .int .i64 t.f1, .slice A t.f2.length c, .int .i64 u.f0, .int .i64 u.f1, .slice B u.f2.length d] 46 (0, 0))) (hF : Kd.F kTm W ok A t.f2.length t.f2) (hc : t.f2.length ≤ c) (hF2 : Kd.F kTm W ok B u.f2.length u.f2) (hd : u.f2.length ≤ d) : Kd.F kTm W (fun k => ok k ∨ k = gb) (some ⟨gb, 0, none⟩) [t, u].length [t, u] :=
  F_lit (d := kTm) [[.int .i64 t.f0, .int .i64 t.f1, .slice A t.f2.length c], [.int .i64 u.f0, .int .i64 u.f1, .slice B u.f2.length d]] hb rfl (by simp) (fun j x c' hx hc' => by
    match j with
    | 0 => simp at hx hc'; subst hx hc'; exact kTm_mkF W ok t hc hF
    | 1 => simp at hx hc'; subst hx hc'; exact kTm_mkF W ok u hd hF2
    | j + 2 => simp at hx)
end Go.Proofs.Ytcgnpmjkeifokaa
-- K8
/- slices.EqualFunc over terms (what is asked only reads), term.Same, superposeref.SameTerm. -/
namespace Go.Proofs.Ytcgnpmjkeifokaa
open Go.RowKit Go.Proofs.YtcgnpmjkeifokaaW.PrintWords
set_option linter.unusedVariables false
set_option linter.unusedSimpArgs false
def eqF {α β : Type} (p : α → β → Bool) : List α → List β → Bool
  | [], [] => true
  | x :: xs, y :: ys => p x y && eqF p xs ys
  | _, _ => false
theorem eqF_len {α β : Type} {p : α → β → Bool} : ∀ {l : List α} {l' : List β}, l.length ≠ l'.length → eqF p l l' = false
  | [], [], h => absurd rfl h
  | [], _ :: _, _ => rfl
  | _ :: _, [], _ => rfl
  | a :: l, b :: l', h => by rw [eqF, eqF_len (fun e => h (by simp [e])), Bool.and_false]
theorem eqF_drop {α β : Type} {p : α → β → Bool} {l : List α} {l' : List β} {i : Nat} (h : i < l.length) (h' : i < l'.length) : eqF p (l.drop i) (l'.drop i) = (p l[i] l'[i] && eqF p (l.drop (i+1)) (l'.drop (i+1))) := by
  rw [List.drop_eq_getElem_cons h, List.drop_eq_getElem_cons h', eqF]
theorem eqF_eqT : ∀ l l' : List Tm, eqF eqT l l' = eqL l l'
  | [], [] => by rw [eqF, eqL]
  | [], _ :: _ => by rw [eqF, eqL] <;> simp
  | _ :: _, [] => by rw [eqF, eqL] <;> simp
  | a :: l, b :: l' => by rw [eqF, eqL, eqF_eqT l l']
theorem eqF_end {α β : Type} {p : α → β → Bool} {l : List α} {l' : List β} (h : l.length = l'.length) : eqF p (l.drop l.length) (l'.drop l.length) = true := by
  rw [List.drop_length, h, List.drop_length]; rfl
set_option maxHeartbeats 4000000 in
set_option maxRecDepth 100000 in
theorem equalFuncT (g : Nat) (lb : Array Value) (p : Tm → Tm → Bool) (eg : ∀ args w, (callFunc g args).run Try.prog w = .ok (.enter g args) w) (xs ys : List Tm) (A B : Option Addr) (c d : Nat) (okx oky : Nat → Prop) (w : World) (hF : Kd.F kTm w okx A xs.length xs) (hF2 : Kd.F kTm w oky B ys.length ys)
    (hp : ∀ x, x ∈ xs → ∀ y, y ∈ ys → ∀ (Ax Ay : Option Addr) (cx cy : Nat) (W : World), Below w.heap.size w W → Kd.F kTm W okx Ax x.f2.length x.f2 → x.f2.length ≤ cx → Kd.F kTm W oky Ay y.f2.length y.f2 → y.f2.length ≤ cy →
      Calls Try.prog g (#[.agg #[.int .i64 x.f0, .int .i64 x.f1, .slice Ax x.f2.length cx], .agg #[.int .i64 y.f0, .int .i64 y.f1, .slice Ay y.f2.length cy]] ++ lb) W fun e w' => e = .returned (.bool (p x y)) ∧ Below W.heap.size W w') :
    Calls Try.prog 126 #[.slice A xs.length c, .slice B ys.length d, .func (.func g) #[] lb] w fun e w' => e = .returned (.bool (eqF p xs ys)) ∧ Below w.heap.size w w' := by
  have hlen := Kd.F_max hF
  have hlen2 := Kd.F_max hF2
  have HF := Aside0.mk hF
  have HF2 := Aside0.mk hF2
  have HP := Aside0.mk hp
  clear hF hF2 hp
  by_cases hn : xs.length = ys.length
  · have hB := bneF (a := xs.length) (b := ys.length) (by omega)
    have HN := Aside0.mk hn
    have hle : xs.length ≤ ys.length := by omega
    have hB' : (xs.length != ys.length) = false := by simp [hn]
    clear hn
    go_enter Try.func126, Try.ntmps126
    go_wp2
    go_loopw [17] (fun i wr => ∃ k : Nat, k ≤ xs.length ∧ i = .int .i64 k ∧ Aside0 (eqF p xs ys = eqF p (xs.drop k) (ys.drop k)) ∧ Aside0 (Below w.heap.size w wr)) (fun i _ => xs.length - (intOf i).toNat)
    case atStart => exact ⟨0, by omega, rfl, ⟨by simp⟩, ⟨Below.refl _ _⟩⟩
    case round =>
      obtain ⟨k, hk, rfl, h0, hb⟩ := hrel
      have HFr := Aside0.mk (Kd.F_below HF.out hb.out)
      have HFr2 := Aside0.mk (Kd.F_below HF2.out hb.out)
      by_cases hlt : k < xs.length
      · have hlt2 : k < ys.length := by omega
        obtain ⟨ad, A2, c2, rfl, E0, E1, E2, hl2, hG, _⟩ := at_TmF HFr.out (k : Int) (by omega) (by omega)
        obtain ⟨bd, B2, d2, rfl, G0, G1, G2, gl2, hG2, _⟩ := at_TmF HFr2.out (k : Int) (by omega) (by omega)
        simp only [Int.toNat_natCast] at E0 E1 E2 G0 G1 G2
        have HE := Aside0.mk (eqF_drop (p := p) hlt hlt2)
        have HX := Aside0.mk (HP.out _ (rd_mem xs k hlt) _ (rd_mem ys k hlt2))
        have R1 := Aside0.mk (rd_get xs k hlt)
        have R2 := Aside0.mk (rd_get ys k hlt2)
        have HG := Aside0.mk hG
        have HG2 := Aside0.mk hG2
        have HC := Aside0.mk hl2
        have HC2 := Aside0.mk gl2
        have HB2 := Aside0.mk (below_alloc (below_alloc (Below.refl wr.heap.size wr) (.cells #[.int .i64 (rd_Tm xs (k : Int)).f0, .int .i64 (rd_Tm xs (k : Int)).f1, .slice A2 (rd_Tm xs (k : Int)).f2.length c2] 46)) (.cells #[.int .i64 (rd_Tm ys (k : Int)).f0, .int .i64 (rd_Tm ys (k : Int)).f1, .slice B2 (rd_Tm ys (k : Int)).f2.length d2] 46))
        have L0 := oldc (below_alloc (Below.refl wr.heap.size wr) (.cells #[.int .i64 (rd_Tm xs (k : Int)).f0, .int .i64 (rd_Tm xs (k : Int)).f1, .slice A2 (rd_Tm xs (k : Int)).f2.length c2] 46)) G0
        have L1 := oldc (below_alloc (Below.refl wr.heap.size wr) (.cells #[.int .i64 (rd_Tm xs (k : Int)).f0, .int .i64 (rd_Tm xs (k : Int)).f1, .slice A2 (rd_Tm xs (k : Int)).f2.length c2] 46)) G1
        have L2 := oldc (below_alloc (Below.refl wr.heap.size wr) (.cells #[.int .i64 (rd_Tm xs (k : Int)).f0, .int .i64 (rd_Tm xs (k : Int)).f1, .slice A2 (rd_Tm xs (k : Int)).f2.length c2] 46)) G2
        clear hG hG2 hl2 gl2
        go_wp2_with (fail)
        refine (HX.out A2 B2 c2 d2 _ (hbT hb.out HB2.out) (Kd.F_below HG.out HB2.out) HC.out (Kd.F_below HG2.out HB2.out) HC2.out).mono ?_
        rintro e w2 ⟨rfl, hb2⟩
        have HB3 := Aside0.mk (hbT (hbT hb.out HB2.out) hb2)
        clear HB2 hb2
        cases hpx : p (rd_Tm xs (k : Int)) (rd_Tm ys (k : Int)) with
        | true =>
          have HR := Aside0.mk (show eqF p xs ys = eqF p (xs.drop (k+1)) (ys.drop (k+1)) by rw [h0.out, HE.out, ← R1.out, ← R2.out, hpx, Bool.true_and])
          clear h0 HE HX hpx
          go_wp2
          go_roundw
          case rel => exact ⟨k + 1, by omega, by go_num, HR, HB3⟩
          case measure => simp [intOf]; omega
        | false =>
          have HR := Aside0.mk (show eqF p xs ys = false by rw [h0.out, HE.out, ← R1.out, ← R2.out, hpx, Bool.false_and])
          clear h0 HE HX hpx
          go_wp2
          go_ret
          exact ⟨ret_bool HR.out.symm, HB3.out⟩
      · obtain rfl : k = xs.length := by omega
        have HR := Aside0.mk (show eqF p xs ys = true by rw [h0.out]; exact eqF_end HN.out)
        clear h0
        go_wp2
        go_ret
        exact ⟨ret_bool HR.out.symm, hb.out⟩
  · have hB := bneT (a := xs.length) (b := ys.length) (by omega)
    have hB' : (xs.length != ys.length) = true := by simp [hn]
    have HR := Aside0.mk (eqF_len (p := p) hn)
    clear hn
    go_enter Try.func126, Try.ntmps126
    go_wp2
    go_ret
    exact ⟨ret_bool HR.out.symm, Below.refl _ _⟩
set_option maxHeartbeats 4000000 in
set_option maxRecDepth 100000 in
theorem same_any (m : Nat) : ∀ (t u : Tm) (A B : Option Addr) (c d : Nat) (okx oky : Nat → Prop) (w : World), szT t ≤ m → Kd.F kTm w okx A t.f2.length t.f2 → t.f2.length ≤ c → Kd.F kTm w oky B u.f2.length u.f2 → u.f2.length ≤ d →
    Calls Try.prog 94 #[.agg #[.int .i64 t.f0, .int .i64 t.f1, .slice A t.f2.length c], .agg #[.int .i64 u.f0, .int .i64 u.f1, .slice B u.f2.length d]] w fun e w' => e = .returned (.bool (eqT t u)) ∧ Below w.heap.size w w' := by
  induction m with
  | zero => intro t u A B c d okx oky w h; have := szT_pos t; omega
  | succ m ih =>
  intro t u A B c d okx oky w hm hF hc hF2 hd
  have H := Aside0.mk (eqT_eq t u)
  have HF := Aside0.mk hF
  have HF2 := Aside0.mk hF2
  have HS := Aside0.mk (szT_eq t)
  have HM := Aside0.mk hm
  have IH := Aside0.mk ih
  have HB := Aside0.mk (below_alloc (below_alloc (Below.refl w.heap.size w) (.cells #[.int .i64 t.f0, .int .i64 t.f1, .slice A t.f2.length c] 46)) (.cells #[.int .i64 u.f0, .int .i64 u.f1, .slice B u.f2.length d] 46))
  clear hF hF2 hm ih
  cases h0 : (t.f0 == u.f0) with
  | false =>
    have HR := Aside0.mk (show eqT t u = false by rw [H.out, h0]; rfl)
    go_enter Try.func94, Try.ntmps94
    go_wp2
    go_ret
    exact ⟨ret_bool HR.out.symm, HB.out⟩
  | true =>
    cases h1 : (t.f1 == u.f1) with
    | false =>
      have HR := Aside0.mk (show eqT t u = false by rw [H.out, h0, h1]; rfl)
      go_enter Try.func94, Try.ntmps94
      go_wp2
      go_ret
      exact ⟨ret_bool HR.out.symm, HB.out⟩
    | true =>
      have HR := Aside0.mk (show eqT t u = eqL t.f2 u.f2 by rw [H.out, h0, h1]; rfl)
      go_enter Try.func94, Try.ntmps94
      go_wp2_with (fail)
      refine (equalFuncT 94 #[] eqT (enters_of Try.func94 (by kernel_rfl) rfl) t.f2 u.f2 A B c d okx oky _ (Kd.F_below HF.out HB.out) (Kd.F_below HF2.out HB.out) (fun x hx y hy Ax Ay cx cy W hW hFx hcx hFy hcy => IH.out x y Ax Ay cx cy okx oky W (by have := szT_mem hx; have := HS.out; have := HM.out; omega) hFx hcx hFy hcy)).mono ?_
      rintro e w2 ⟨rfl, hb2⟩
      rw [eqF_eqT]
      go_wp2
      go_ret
      exact ⟨ret_bool HR.out.symm, hbT HB.out hb2⟩
end Go.Proofs.Ytcgnpmjkeifokaa
-- K9
/- superposeref.CheckClauses, text.Right, clause.Check, clause.one, term.Check. -/
namespace Go.Proofs.Ytcgnpmjkeifokaa
open Go.RowKit Go.Proofs.YtcgnpmjkeifokaaW.PrintWords
set_option linter.unusedVariables false
set_option linter.unusedSimpArgs false
set_option maxHeartbeats 4000000 in
set_option maxRecDepth 100000 in
theorem right_any (g : List Int) (Ag : Option Addr) (cg : Nat) (l : List Li) (A : Option Addr) (c : Nat) (ok : Nat → Prop) (w : World) (hG : Kd.C (Kd.int .i64) w Ag g.length g) (hF : Kd.F kLi w ok A l.length l) :
    Calls Try.prog 64 #[.agg #[.slice Ag g.length cg], .slice A l.length c] w fun e w' => e = .returned (.int .i64 (chkC g l)) ∧ Below w.heap.size w w' := by
  have hlen := Kd.F_max hF
  have HF := Aside0.mk (Kd.F_bound hF)
  have HG := Aside0.mk hG
  clear hG hF
  by_cases h8 : 8 < l.length
  · have H := Aside0.mk (show chkC g l = 2 by unfold chkC; rw [if_pos h8])
    go_enter Try.func64, Try.ntmps64
    go_wp2
    go_ret
    exact ⟨ret_int H.out.symm, below_alloc (Below.refl _ _) _⟩
  have H := Aside0.mk (show chkC g l = fe (chkLi g) l by unfold chkC; rw [if_neg h8])
  go_enter Try.func64, Try.ntmps64
  go_wp2
  go_loopw [15] (fun i wr => ∃ k : Nat, k ≤ l.length ∧ i = .int .i64 k ∧ Aside0 (fe (chkLi g) (l.take k) = 0) ∧ Aside0 (Below w.heap.size w wr) ∧ Aside0 (wr.heap[w.heap.size]? = some (.cells #[.slice Ag g.length cg] 24 (0, 0)))) (fun i _ => l.length - (intOf i).toNat)
  case atStart => exact ⟨0, by omega, rfl, ⟨rfl⟩, ⟨below_alloc (Below.refl _ _) _⟩, ⟨heap_alloc_new _ _⟩⟩
  case round =>
    obtain ⟨k, hk, rfl, h0, hb, hg⟩ := hrel
    have hl0 := blk_lt hg.out
    have HFr := Aside0.mk (Kd.F_below HF.out hb.out)
    by_cases hlt : k < l.length
    · obtain ⟨ad, A3, c3, A6, c6, rfl, E0, E1, E2, E3, E4, E5, E6, hl3, hF3, hl6, hF6, _⟩ := at_LiF HFr.out (k : Int) (by omega) (by omega)
      simp only [Int.toNat_natCast] at E0 E1 E2 E3 E4 E5 E6
      have HE := Aside0.mk (fe_take_succ (f := chkLi g) hlt h0.out)
      have HBad := Aside0.mk (fe_bad (f := chkLi g) (l := l) (k := k+1))
      have HRD := Aside0.mk (rdLi_get l k hlt)
      have HB1 := Aside0.mk (below_alloc (below_alloc (Below.refl wr.heap.size wr) (.cells #[.bool (rd_Li l (k : Int)).f0, .int .i64 (rd_Li l (k : Int)).f1.f0, .int .i64 (rd_Li l (k : Int)).f1.f1, .slice A3 (rd_Li l (k : Int)).f1.f2.length c3, .int .i64 (rd_Li l (k : Int)).f2.f0, .int .i64 (rd_Li l (k : Int)).f2.f1, .slice A6 (rd_Li l (k : Int)).f2.f2.length c6] 84)) (.cells #[.int .i64 (rd_Li l (k : Int)).f1.f0, .int .i64 (rd_Li l (k : Int)).f1.f1, .slice A3 (rd_Li l (k : Int)).f1.f2.length c3, .int .i64 (rd_Li l (k : Int)).f2.f0, .int .i64 (rd_Li l (k : Int)).f2.f1, .slice A6 (rd_Li l (k : Int)).f2.f2.length c6] 46))
      have HL := Aside0.mk (F_lit2 (newAt (w := wr.alloc (.cells #[.bool (rd_Li l (k : Int)).f0, .int .i64 (rd_Li l (k : Int)).f1.f0, .int .i64 (rd_Li l (k : Int)).f1.f1, .slice A3 (rd_Li l (k : Int)).f1.f2.length c3, .int .i64 (rd_Li l (k : Int)).f2.f0, .int .i64 (rd_Li l (k : Int)).f2.f1, .slice A6 (rd_Li l (k : Int)).f2.f2.length c6] 84)) (k := wr.heap.size + 1) (by simp)) (Kd.F_below hF3 HB1.out) hl3 (Kd.F_below hF6 HB1.out) hl6)
      clear hF3 hF6 hl3 hl6
      go_wp2
      obtain ⟨W, hW⟩ : ∃ W, W = (wr.alloc (.cells #[.bool (rd_Li l (k : Int)).f0, .int .i64 (rd_Li l (k : Int)).f1.f0, .int .i64 (rd_Li l (k : Int)).f1.f1, .slice A3 (rd_Li l (k : Int)).f1.f2.length c3, .int .i64 (rd_Li l (k : Int)).f2.f0, .int .i64 (rd_Li l (k : Int)).f2.f1, .slice A6 (rd_Li l (k : Int)).f2.f2.length c6] 84)).alloc (.cells #[.int .i64 (rd_Li l (k : Int)).f1.f0, .int .i64 (rd_Li l (k : Int)).f1.f1, .slice A3 (rd_Li l (k : Int)).f1.f2.length c3, .int .i64 (rd_Li l (k : Int)).f2.f0, .int .i64 (rd_Li l (k : Int)).f2.f1, .slice A6 (rd_Li l (k : Int)).f2.f2.length c6] 46) := ⟨_, rfl⟩
      rw [← hW] at HB1 HL ⊢
      clear hW E0 E1 E2 E3 E4 E5 E6
      have HBW := Aside0.mk (hbT hb.out HB1.out)
      have HGW := Aside0.mk ((HB1.out.block _ hl0).trans hg.out)
      generalize hxs : [(rd_Li l (k : Int)).f1, (rd_Li l (k : Int)).f2] = xs at *
      have hx2 : xs.length = 2 := by rw [← hxs]; rfl
      have HXS := Aside0.mk hxs
      clear hxs
      go_loopw [25] (fun i ws => ∃ j : Nat, j ≤ 2 ∧ i = .int .i64 j ∧ Aside0 (fe (chkT g) (xs.take j) = 0) ∧ Aside0 (Below W.heap.size W ws)) (fun i _ => 2 - (intOf i).toNat)
      case atStart => exact ⟨0, by omega, rfl, ⟨rfl⟩, ⟨Below.refl _ _⟩⟩
      case round =>
        obtain ⟨j, hj, rfl, i0, hd⟩ := hrel
        have hgr := (hd.out.block _ (blk_lt HGW.out)).trans HGW.out
        have q0 := (blk_cell hgr 0).trans rfl
        have hl1 := blk_lt hgr
        have HD := Aside0.mk (hbT HBW.out hd.out)
        clear hgr
        by_cases hjt : j < 2
        · have hjx : j < xs.length := by omega
          obtain ⟨ad2, A2, c2, had, G0, G1, G2, hl2, hF2, _⟩ := at_TmF (Kd.F_below HL.out hd.out) (j : Int) (by omega) (by omega)
          cases had
          simp only [Int.toNat_natCast, add_plain] at G0 G1 G2
          have IE := Aside0.mk (fe_take_succ (f := chkT g) hjx i0.out)
          have IB := Aside0.mk (fe_bad (f := chkT g) (l := xs) (k := j+1))
          have IR := Aside0.mk (rd_get xs j hjx)
          have HF2 := Aside0.mk hF2
          clear hF2 hl2
          by_cases h1 : chkT g (rd_Tm xs j) = 0
          · have hB1 := bneF h1
            have HR := Aside0.mk (show fe (chkT g) (xs.take (j+1)) = 0 by rw [IE.out, ← IR.out, h1])
            clear h1
            go_wp2_with (go_at_call 74; refine (own_any g Ag cg (rd_Tm xs j) A2 c2 _ (Kd.C_below HG.out (below_alloc HD.out _)) (Kd.F_now (Kd.F_alloc HF2.out _))).mono ?_; rintro e w3 ⟨rfl, hb3⟩)
            go_roundw
            case rel => exact ⟨j + 1, by omega, by go_num, HR, ⟨hbA hd.out _ hb3⟩⟩
            case measure => simp [intOf]; omega
          · have hB1 := bneT h1
            have HR := Aside0.mk (show chkC g l = chkT g (rd_Tm xs j) by
              have h3 : fe (chkT g) (xs.take (j+1)) = chkT g (rd_Tm xs j) := by rw [IE.out, ← IR.out]
              have h4 := IB.out (by rw [h3]; exact h1)
              have h5 : chkLi g (rd_Li l k) = chkT g (rd_Tm xs j) := by
                have h6 : fe (chkT g) xs = chkLi g (rd_Li l k) := by rw [← HXS.out]; simp only [fe, chkLi]; by_cases h7 : chkT g (rd_Li l k).f2 = 0 <;> simp [h7]
                rw [← h6, h4, h3]
              have h6 : fe (chkLi g) (l.take (k+1)) = chkT g (rd_Tm xs j) := by rw [HE.out, ← HRD.out, h5]
              rw [H.out, HBad.out (by rw [h6]; exact h1), h6])
            clear h1
            go_wp2_with (go_at_call 74; refine (own_any g Ag cg (rd_Tm xs j) A2 c2 _ (Kd.C_below HG.out (below_alloc HD.out _)) (Kd.F_now (Kd.F_alloc HF2.out _))).mono ?_; rintro e w3 ⟨rfl, hb3⟩)
            go_ret
            exact ⟨ret_int HR.out.symm, hbA HD.out _ hb3⟩
        · obtain rfl : j = 2 := by omega
          have HR := Aside0.mk (show fe (chkLi g) (l.take (k+1)) = 0 by
            have h5 : fe (chkT g) xs = 0 := by have := i0.out; rwa [List.take_of_length_le (by omega)] at this
            have h6 : fe (chkT g) xs = chkLi g (rd_Li l k) := by rw [← HXS.out]; simp only [fe, chkLi]; by_cases h7 : chkT g (rd_Li l k).f2 = 0 <;> simp [h7]
            rw [HE.out, ← HRD.out, ← h6, h5])
          clear i0
          go_wp2
          go_roundw
          case rel => exact ⟨k + 1, by omega, by go_num, HR, HD, ⟨(hd.out.block _ (blk_lt HGW.out)).trans HGW.out⟩⟩
          case measure => simp [intOf]; omega
    · obtain rfl : k = l.length := by omega
      have H0 := Aside0.mk (show chkC g l = 0 by rw [H.out]; have := h0.out; rwa [List.take_length] at this)
      clear h0
      go_wp2
      go_ret
      exact ⟨ret_int H0.out.symm, hb.out⟩
end Go.Proofs.Ytcgnpmjkeifokaa
-- K10
/- clause.Check, clause.one, term.Check, term.Count's callers: small ones. -/
namespace Go.Proofs.Ytcgnpmjkeifokaa
open Go.RowKit Go.Proofs.YtcgnpmjkeifokaaW.PrintWords
set_option linter.unusedVariables false
set_option linter.unusedSimpArgs false
set_option maxHeartbeats 4000000 in
set_option maxRecDepth 100000 in
theorem clauseCheck_any (g : List Int) (Ag : Option Addr) (cg : Nat) (l : List (List Li)) (A : Option Addr) (c : Nat) (ok : Nat → Prop) (w : World) (hG : Kd.C (Kd.int .i64) w Ag g.length g) (hF : Kd.F kCl w ok A l.length l) :
    Calls Try.prog 19 #[.agg #[.slice Ag g.length cg], .slice A l.length c] w fun e w' => e = .returned (.int .i64 (chkCs g l)) ∧ Below w.heap.size w w' := by
  have hlen := Kd.F_max hF
  have HF := Aside0.mk hF
  have HG := Aside0.mk hG
  clear hG hF
  have HB0 := Aside0.mk (below_alloc (Below.refl w.heap.size w) (.cells #[.slice Ag g.length cg] 24))
  go_enter Try.func19, Try.ntmps19
  go_wp2_with (fail)
  refine (signature_any g Ag cg _ (Kd.C_below HG.out HB0.out)).mono ?_
  rintro e w2 ⟨rfl, hb2⟩
  have g0 := Aside0.mk ((hb2.block w.heap.size (by simp)).trans (newAt rfl))
  have HB2 := Aside0.mk (hbT HB0.out hb2)
  clear hb2 HB0
  by_cases hs : sigE g = 0
  · have hB := bneF hs
    by_cases h60 : 60 < l.length
    · have H := Aside0.mk (show chkCs g l = 2 by unfold chkCs; rw [if_neg (by simp [hs]), if_pos h60])
      clear hs
      go_wp2
      go_ret
      exact ⟨ret_int H.out.symm, HB2.out⟩
    have H := Aside0.mk (show chkCs g l = fe (chkC g) l by unfold chkCs; rw [if_neg (by simp [hs]), if_neg h60])
    clear hs
    go_wp2
    go_loopw [19] (fun i wr => ∃ k : Nat, k ≤ l.length ∧ i = .int .i64 k ∧ Aside0 (fe (chkC g) (l.take k) = 0) ∧ Aside0 (Below w2.heap.size w2 wr)) (fun i _ => l.length - (intOf i).toNat)
    case atStart => exact ⟨0, by omega, rfl, ⟨rfl⟩, ⟨Below.refl _ _⟩⟩
    case round =>
      obtain ⟨k, hk, rfl, h0, hb⟩ := hrel
      have HBr := Aside0.mk (hbT HB2.out hb.out)
      have hgr := (hb.out.block _ (blk_lt g0.out)).trans g0.out
      have q0 := (blk_cell hgr 0).trans rfl
      have hl0 := blk_lt hgr
      have HFr := Aside0.mk (Kd.F_below HF.out HBr.out)
      clear hgr
      by_cases hlt : k < l.length
      · obtain ⟨ad, A2, c2, rfl, E0, hl2, hF2, _⟩ := at_ClF HFr.out (k : Int) (by omega) (by omega)
        simp only [Int.toNat_natCast] at E0
        have HE := Aside0.mk (fe_take_succ (f := chkC g) hlt h0.out)
        have HBad := Aside0.mk (fe_bad (f := chkC g) (l := l) (k := k+1))
        have HRD := Aside0.mk (rdCl_get l k hlt)
        have HF2 := Aside0.mk hF2
        clear hF2
        by_cases h1 : chkC g (rd_Cl l k) = 0
        · have hB1 := bneF h1
          have HR := Aside0.mk (show fe (chkC g) (l.take (k+1)) = 0 by rw [HE.out, ← HRD.out, h1])
          clear h1
          go_wp2_with (go_at_call 64; refine (right_any g Ag cg (rd_Cl l k) A2 c2 _ _ (Kd.C_below HG.out HBr.out) HF2.out).mono ?_; rintro e w3 ⟨rfl, hb3⟩)
          go_roundw
          case rel => exact ⟨k + 1, by omega, by go_num, HR, ⟨hbT hb.out hb3⟩⟩
          case measure => simp [intOf]; omega
        · have hB1 := bneT h1
          have HR := Aside0.mk (show chkCs g l = chkC g (rd_Cl l k) by
            have h3 : fe (chkC g) (l.take (k+1)) = chkC g (rd_Cl l k) := by rw [HE.out, ← HRD.out]
            rw [H.out, HBad.out (by rw [h3]; exact h1), h3])
          clear h1
          go_wp2_with (go_at_call 64; refine (right_any g Ag cg (rd_Cl l k) A2 c2 _ _ (Kd.C_below HG.out HBr.out) HF2.out).mono ?_; rintro e w3 ⟨rfl, hb3⟩)
          go_ret
          exact ⟨ret_int HR.out.symm, hbT HBr.out hb3⟩
      · obtain rfl : k = l.length := by omega
        have H0 := Aside0.mk (show chkCs g l = 0 by rw [H.out]; have := h0.out; rwa [List.take_length] at this)
        clear h0
        go_wp2
        go_ret
        exact ⟨ret_int H0.out.symm, HBr.out⟩
  · have H := Aside0.mk (show chkCs g l = sigE g by unfold chkCs; rw [if_pos hs])
    have hB := bneT hs
    clear hs
    generalize sigE g = z at *
    go_wp2
    go_ret
    exact ⟨ret_int H.out.symm, HB2.out⟩
theorem kCl_FK {w : World} {ok : Nat → Prop} {A : Option Addr} {xs : List Li} {c : Nat} (hF : Kd.F kLi w ok A xs.length xs) (hc : xs.length ≤ c) : Kd.FK kCl w ok xs [.slice A xs.length c] := fun W' hW => ⟨A, c, rfl, hc, hF W' hW⟩
/-- A row of one clause that was just laid. -/
theorem F_cl1 {W : World} {ok : Nat → Prop} {gb : Nat} {t : List Li} {A : Option Addr} {c : Nat} (hb : W.heap[gb]? = some (.cells #[.slice A t.length c] 26 (0, 0))) (hF : Kd.F kLi W ok A t.length t) (hc : t.length ≤ c) : Kd.F kCl W (fun k => ok k ∨ k = gb) (some ⟨gb, 0, none⟩) [t].length [t] :=
  F_lit (d := kCl) [[.slice A t.length c]] hb rfl (by simp) (fun j x c' hx hc' => by
    cases j with
    | zero => simp at hx hc'; subst hx hc'; exact kCl_FK hF hc
    | succ j => simp at hx)
theorem F_cl2 {W : World} {ok : Nat → Prop} {gb : Nat} {t u : List Li} {A B : Option Addr} {c d : Nat} (hb : W.heap[gb]? = some (.cells #[.slice A t.length c, .slice B u.length d] 26 (0, 0))) (hF : Kd.F kLi W ok A t.length t) (hc : t.length ≤ c) (hF2 : Kd.F kLi W ok B u.length u) (hd : u.length ≤ d) : Kd.F kCl W (fun k => ok k ∨ k = gb) (some ⟨gb, 0, none⟩) [t, u].length [t, u] :=
  F_lit (d := kCl) [[.slice A t.length c], [.slice B u.length d]] hb rfl (by simp) (fun j x c' hx hc' => by
    match j with
    | 0 => simp at hx hc'; subst hx hc'; exact kCl_FK hF hc
    | 1 => simp at hx hc'; subst hx hc'; exact kCl_FK hF2 hd
    | j + 2 => simp at hx)
theorem clauseOne_any (g : List Int) (Ag : Option Addr) (cg : Nat) (l : List Li) (A : Option Addr) (c : Nat) (ok : Nat → Prop) (w : World) (hG : Kd.C (Kd.int .i64) w Ag g.length g) (hF : Kd.F kLi w ok A l.length l) (hc : l.length ≤ c) :
    Calls Try.prog 51 #[.agg #[.slice Ag g.length cg], .slice A l.length c] w fun e w' => e = .returned (.int .i64 (chkCs g [l])) ∧ Below w.heap.size w w' := by
  have HB0 := Aside0.mk (below_alloc (below_alloc (Below.refl w.heap.size w) (.cells #[.slice Ag g.length cg] 24)) (.cells #[.slice A l.length c] 26))
  have HL := Aside0.mk (F_cl1 (newAt (w := w.alloc (.cells #[.slice Ag g.length cg] 24)) (k := w.heap.size + 1) (by simp)) (Kd.F_below hF HB0.out) hc)
  have HG := Aside0.mk hG
  clear hF hG
  go_enter Try.func51, Try.ntmps51
  go_wp2_with (go_at_call 19; refine (clauseCheck_any g Ag cg [l] _ _ _ _ (Kd.C_below HG.out HB0.out) HL.out).mono ?_; rintro e w3 ⟨rfl, hb3⟩)
  go_ret
  exact ⟨rfl, hbT HB0.out hb3⟩
end Go.Proofs.Ytcgnpmjkeifokaa
-- K11
/- A region in the text's order whose operations only read and whose callees only lay blocks: walked once, over every such world. clause.sides, superposeref.SameSides. -/
namespace Go.Proofs.Ytcgnpmjkeifokaa
open Go.RowKit Go.Proofs.YtcgnpmjkeifokaaW.PrintWords
set_option linter.unusedVariables false
set_option linter.unusedSimpArgs false
theorem wpOps_of_quiet {P : Program} {C : World → Prop} {ops : Array Oper} {Q' : Act → Prop} {Q : Exit → Act → World → Prop} (hQ : ∀ a w, C w → Q' a → Q .normal a w) :
    ∀ (rest : List Oper) (n : Nat), ops.toList.drop n = rest → ∀ a w, C w → wpQuiet P ops C Q' rest a → wpOps P ops Q (List.range' n rest.length) a w
  | [], n, _, a, w, hC, h => hQ a w hC h
  | o :: rest, n, hn, a, w, hC, h => by
    have h1 : ops[n]? = some o := by
      have := congrArg (fun l => l[0]?) hn
      simpa using this
    have h2 : ops.toList.drop (n + 1) = rest := by
      have := congrArg List.tail hn
      simpa using this
    have ih : ∀ a w, C w → wpQuiet P ops C Q' rest a → wpOps P ops Q (List.range' (n + 1) rest.length) a w := fun a w hC h => wpOps_of_quiet hQ rest (n + 1) h2 a w hC h
    simp only [List.length_cons, List.range'_succ, wpOps, h1]
    unfold wpQuiet at h
    split at h
    · rename_i hw
      rw [if_pos hw]
      exact .inl (Oper.wp_of_quiet hC (fun a' w' hC' hk => ih a' w' hC' hk) h)
    · rename_i hw
      rw [if_neg hw]
      exact ih _ w hC h
theorem wp_region_quiet_plain {P : Program} {id : Nat} {Q : Exit → Act → World → Prop} {a : Act} {w : World} {l : List Oper}
    (h : wpQuiet P l.toArray (fun w' => ∃ p : Regrown, w' = Go.Sort.grow (redrawn w p.d) p.os) (fun a' => ∀ w', (∃ p : Regrown, w' = Go.Sort.grow (redrawn w p.d) p.os) → Q .normal a' w') l a) : (Code.region id l.toArray false).wp P Q a w := by
  refine wp_region ?_
  have := wpOps_of_quiet (P := P) (C := fun w' => ∃ p : Regrown, w' = Go.Sort.grow (redrawn w p.d) p.os) (ops := l.toArray) (Q := Q) (fun a w' hC hk => hk w' hC) l 0 (by simp) a w ⟨⟨w.drawn, #[]⟩, by rw [Go.Sort.grow_empty]; rfl⟩ h
  simpa [List.range_eq_range'] using this
/-- The same walk, behind a name that is not looked through. -/
structure WQ (P : Program) (ops : Array Oper) (C : World → Prop) (Q : Act → Prop) (l : List Oper) (a : Act) : Prop where mk :: (out : wpQuiet P ops C Q l a)
theorem wq_step {P : Program} {ops : Array Oper} {C : World → Prop} {Q : Act → Prop} {a : Act} {o : Oper} {rest : List Oper}
    (h : ∀ K : Act → Prop, (∀ a, WQ P ops C Q rest a → K a) → if Region.wanted o (yielded ops a.tmps) then o.quiet P a C K else K (a.put o.dst undef)) : WQ P ops C Q (o :: rest) a :=
  ⟨wpQuiet_step fun K hK => h K (fun a ha => hK a ha.out)⟩
theorem wq_nil {P : Program} {ops : Array Oper} {C : World → Prop} {Q : Act → Prop} {a : Act} (h : Q a) : WQ P ops C Q [] a := ⟨h⟩
def ClsB (w w' : World) : Prop := ∃ p : Regrown, w' = Go.Sort.grow (redrawn w p.d) p.os
theorem wq_plain {P : Program} {id : Nat} {Q : Exit → Act → World → Prop} {a : Act} {w : World} {l : List Oper}
    (h : WQ P l.toArray (fun w' => ∃ p : Regrown, w' = Go.Sort.grow (redrawn w p.d) p.os) (fun a' => ∀ w', Below w.heap.size w w' → Q .normal a' w') l a) : (Code.region id l.toArray false).wp P Q a w := by
  refine wp_region ?_
  have := wpOps_of_quiet (P := P) (C := fun w' => ∃ p : Regrown, w' = Go.Sort.grow (redrawn w p.d) p.os) (ops := l.toArray) (Q := Q) (fun a w' hC hk => hk w' (by obtain ⟨p, rfl⟩ := hC; exact below_regrown _ _ _)) l 0 (by simp) a w ⟨⟨w.drawn, #[]⟩, by rw [Go.Sort.grow_empty]; rfl⟩ h.out
  simpa [List.range_eq_range'] using this
theorem wpQuiet_mono {P : Program} {ops : Array Oper} {C : World → Prop} {Q Q' : Act → Prop} (h : ∀ a, Q a → Q' a) : ∀ (l : List Oper) (a : Act), wpQuiet P ops C Q l a → wpQuiet P ops C Q' l a
  | [], a, hh => h a hh
  | o :: rest, a, hh => by
    unfold wpQuiet at hh ⊢
    split
    · rename_i hw
      rw [if_pos hw] at hh
      exact Oper.quiet_mono (fun a => wpQuiet_mono h rest a) hh
    · rename_i hw
      rw [if_neg hw] at hh
      exact wpQuiet_mono h rest _ hh
theorem wq_draws {P : Program} {id : Nat} {Q : Exit → Act → World → Prop} {a : Act} {w : World} {l : List Oper} (hm : P.follows .mixedOrders = true) (hB : Region.lexB .any l.toArray = true)
    (h : WQ P l.toArray (fun w' => ∃ p : Regrown, w' = Go.Sort.grow (redrawn w p.d) p.os) (fun a' => ∀ w', Below w.heap.size w w' → Q .normal a' w') l a) : (Code.region id l.toArray true).wp P Q a w :=
  wp_region_quiet (C := fun w' => ∃ p : Regrown, w' = Go.Sort.grow (redrawn w p.d) p.os) hm hB ⟨⟨w.drawn + 1, #[]⟩, by rw [Go.Sort.grow_empty]; rfl⟩ (by
    have := wpQuiet_mono (Q' := fun a' => ∀ w', (∃ p : Regrown, w' = Go.Sort.grow (redrawn w p.d) p.os) → Q .normal a' w') (fun a' h w' hC => h w' (by obtain ⟨p, rfl⟩ := hC; exact below_regrown _ _ _)) l a h.out
    simpa using this)
def sidesB (a b : Li) : Bool := eqT a.f1 b.f1 && eqT a.f2 b.f2 || eqT a.f1 b.f2 && eqT a.f2 b.f1
set_option maxHeartbeats 4000000 in
set_option maxRecDepth 100000 in
theorem sides_any (a b : Li) (A3 A6 B3 B6 : Option Addr) (c3 c6 d3 d6 : Nat) (oka okb : Nat → Prop) (w : World) (a3 : Kd.F kTm w oka A3 a.f1.f2.length a.f1.f2) (l3 : a.f1.f2.length ≤ c3) (a6 : Kd.F kTm w oka A6 a.f2.f2.length a.f2.f2) (l6 : a.f2.f2.length ≤ c6)
    (b3 : Kd.F kTm w okb B3 b.f1.f2.length b.f1.f2) (m3 : b.f1.f2.length ≤ d3) (b6 : Kd.F kTm w okb B6 b.f2.f2.length b.f2.f2) (m6 : b.f2.f2.length ≤ d6) :
    Calls Try.prog 96 #[.agg #[.bool a.f0, .int .i64 a.f1.f0, .int .i64 a.f1.f1, .slice A3 a.f1.f2.length c3, .int .i64 a.f2.f0, .int .i64 a.f2.f1, .slice A6 a.f2.f2.length c6], .agg #[.bool b.f0, .int .i64 b.f1.f0, .int .i64 b.f1.f1, .slice B3 b.f1.f2.length d3, .int .i64 b.f2.f0, .int .i64 b.f2.f1, .slice B6 b.f2.f2.length d6]] w fun e w' => e = .returned (.bool (sidesB a b)) ∧ Below w.heap.size w w' := by
  have HB := Aside0.mk (below_alloc (below_alloc (Below.refl w.heap.size w) (.cells #[.bool a.f0, .int .i64 a.f1.f0, .int .i64 a.f1.f1, .slice A3 a.f1.f2.length c3, .int .i64 a.f2.f0, .int .i64 a.f2.f1, .slice A6 a.f2.f2.length c6] 84)) (.cells #[.bool b.f0, .int .i64 b.f1.f0, .int .i64 b.f1.f1, .slice B3 b.f1.f2.length d3, .int .i64 b.f2.f0, .int .i64 b.f2.f1, .slice B6 b.f2.f2.length d6] 84))
  have ga := blk_alloc (newAt (w := w) (o := .cells #[.bool a.f0, .int .i64 a.f1.f0, .int .i64 a.f1.f1, .slice A3 a.f1.f2.length c3, .int .i64 a.f2.f0, .int .i64 a.f2.f1, .slice A6 a.f2.f2.length c6] 84) rfl) (.cells #[.bool b.f0, .int .i64 b.f1.f0, .int .i64 b.f1.f1, .slice B3 b.f1.f2.length d3, .int .i64 b.f2.f0, .int .i64 b.f2.f1, .slice B6 b.f2.f2.length d6] 84)
  have gb := newAt (w := w.alloc (.cells #[.bool a.f0, .int .i64 a.f1.f0, .int .i64 a.f1.f1, .slice A3 a.f1.f2.length c3, .int .i64 a.f2.f0, .int .i64 a.f2.f1, .slice A6 a.f2.f2.length c6] 84)) (o := .cells #[.bool b.f0, .int .i64 b.f1.f0, .int .i64 b.f1.f1, .slice B3 b.f1.f2.length d3, .int .i64 b.f2.f0, .int .i64 b.f2.f1, .slice B6 b.f2.f2.length d6] 84) (k := w.heap.size + 1) (by simp)
  have A3_ := Aside0.mk a3
  have A6_ := Aside0.mk a6
  have B3_ := Aside0.mk b3
  have B6_ := Aside0.mk b6
  have ra1 := fun d os => cell_regrown ((blk_cell ga 1).trans rfl) d os
  have ra2 := fun d os => cell_regrown ((blk_cell ga 2).trans rfl) d os
  have ra3 := fun d os => cell_regrown ((blk_cell ga 3).trans rfl) d os
  have ra4 := fun d os => cell_regrown ((blk_cell ga 4).trans rfl) d os
  have ra5 := fun d os => cell_regrown ((blk_cell ga 5).trans rfl) d os
  have ra6 := fun d os => cell_regrown ((blk_cell ga 6).trans rfl) d os
  have rb1 := fun d os => cell_regrown ((blk_cell gb 1).trans rfl) d os
  have rb2 := fun d os => cell_regrown ((blk_cell gb 2).trans rfl) d os
  have rb3 := fun d os => cell_regrown ((blk_cell gb 3).trans rfl) d os
  have rb4 := fun d os => cell_regrown ((blk_cell gb 4).trans rfl) d os
  have rb5 := fun d os => cell_regrown ((blk_cell gb 5).trans rfl) d os
  have rb6 := fun d os => cell_regrown ((blk_cell gb 6).trans rfl) d os
  clear a3 a6 b3 b6 ga gb
  cases h1 : eqT a.f1 b.f1 with
  | true =>
    cases h2 : eqT a.f2 b.f2 with
    | true =>
      have HR := Aside0.mk (show sidesB a b = true by unfold sidesB; rw [h1, h2]; rfl)
      (go_enter Try.func96, Try.ntmps96; go_upto_region 1 with (fail); generalize (w.alloc (.cells #[.bool a.f0, .int .i64 a.f1.f0, .int .i64 a.f1.f1, .slice A3 a.f1.f2.length c3, .int .i64 a.f2.f0, .int .i64 a.f2.f1, .slice A6 a.f2.f2.length c6] 84)).alloc (.cells #[.bool b.f0, .int .i64 b.f1.f0, .int .i64 b.f1.f1, .slice B3 b.f1.f2.length d3, .int .i64 b.f2.f0, .int .i64 b.f2.f1, .slice B6 b.f2.f2.length d6] 84) = W at *; (refine wq_plain ?_; (repeat (refine wq_step (fun K hK => ?_); go_simp; first | (refine hK _ ?_; clear hK K) | (apply Exists.intro; refine ⟨fun _ => ?_, hK _ ?_⟩; ((first | ((with_reducible refine Calls.regrown_of (same_any _ a.f1 b.f1 A3 B3 c3 d3 oka okb _ (Nat.le_refl _) ?_ l3 ?_ m3)); (exact Kd.F_below A3_.out (hbT HB.out (below_regrown _ _ _))); exact Kd.F_below B3_.out (hbT HB.out (below_regrown _ _ _))) | ((with_reducible refine Calls.regrown_of (same_any _ a.f1 b.f2 A3 B6 c3 d6 oka okb _ (Nat.le_refl _) ?_ l3 ?_ m6)); (exact Kd.F_below A3_.out (hbT HB.out (below_regrown _ _ _))); exact Kd.F_below B6_.out (hbT HB.out (below_regrown _ _ _))) | ((with_reducible refine Calls.regrown_of (same_any _ a.f2 b.f1 A6 B3 c6 d3 oka okb _ (Nat.le_refl _) ?_ l6 ?_ m3)); (exact Kd.F_below A6_.out (hbT HB.out (below_regrown _ _ _))); exact Kd.F_below B3_.out (hbT HB.out (below_regrown _ _ _))) | ((with_reducible refine Calls.regrown_of (same_any _ a.f2 b.f2 A6 B6 c6 d6 oka okb _ (Nat.le_refl _) ?_ l6 ?_ m6)); (exact Kd.F_below A6_.out (hbT HB.out (below_regrown _ _ _))); exact Kd.F_below B6_.out (hbT HB.out (below_regrown _ _ _))))); clear hK K))); refine wq_nil ?_; intro W2 hbW2); go_wp2; go_ret; exact ⟨ret_bool HR.out.symm, hbT HB.out hbW2⟩)
    | false =>
      cases h3 : eqT a.f1 b.f2 with
      | true =>
        cases h4 : eqT a.f2 b.f1 with
        | true =>
          have HR := Aside0.mk (show sidesB a b = true by unfold sidesB; rw [h1, h2, h3, h4]; rfl)
          (go_enter Try.func96, Try.ntmps96; go_upto_region 1 with (fail); generalize (w.alloc (.cells #[.bool a.f0, .int .i64 a.f1.f0, .int .i64 a.f1.f1, .slice A3 a.f1.f2.length c3, .int .i64 a.f2.f0, .int .i64 a.f2.f1, .slice A6 a.f2.f2.length c6] 84)).alloc (.cells #[.bool b.f0, .int .i64 b.f1.f0, .int .i64 b.f1.f1, .slice B3 b.f1.f2.length d3, .int .i64 b.f2.f0, .int .i64 b.f2.f1, .slice B6 b.f2.f2.length d6] 84) = W at *; (refine wq_plain ?_; (repeat (refine wq_step (fun K hK => ?_); go_simp; first | (refine hK _ ?_; clear hK K) | (apply Exists.intro; refine ⟨fun _ => ?_, hK _ ?_⟩; ((first | ((with_reducible refine Calls.regrown_of (same_any _ a.f1 b.f1 A3 B3 c3 d3 oka okb _ (Nat.le_refl _) ?_ l3 ?_ m3)); (exact Kd.F_below A3_.out (hbT HB.out (below_regrown _ _ _))); exact Kd.F_below B3_.out (hbT HB.out (below_regrown _ _ _))) | ((with_reducible refine Calls.regrown_of (same_any _ a.f1 b.f2 A3 B6 c3 d6 oka okb _ (Nat.le_refl _) ?_ l3 ?_ m6)); (exact Kd.F_below A3_.out (hbT HB.out (below_regrown _ _ _))); exact Kd.F_below B6_.out (hbT HB.out (below_regrown _ _ _))) | ((with_reducible refine Calls.regrown_of (same_any _ a.f2 b.f1 A6 B3 c6 d3 oka okb _ (Nat.le_refl _) ?_ l6 ?_ m3)); (exact Kd.F_below A6_.out (hbT HB.out (below_regrown _ _ _))); exact Kd.F_below B3_.out (hbT HB.out (below_regrown _ _ _))) | ((with_reducible refine Calls.regrown_of (same_any _ a.f2 b.f2 A6 B6 c6 d6 oka okb _ (Nat.le_refl _) ?_ l6 ?_ m6)); (exact Kd.F_below A6_.out (hbT HB.out (below_regrown _ _ _))); exact Kd.F_below B6_.out (hbT HB.out (below_regrown _ _ _))))); clear hK K))); refine wq_nil ?_; intro W2 hbW2); go_wp2; go_ret; exact ⟨ret_bool HR.out.symm, hbT HB.out hbW2⟩)
        | false =>
          have HR := Aside0.mk (show sidesB a b = false by unfold sidesB; rw [h1, h2, h3, h4]; rfl)
          (go_enter Try.func96, Try.ntmps96; go_upto_region 1 with (fail); generalize (w.alloc (.cells #[.bool a.f0, .int .i64 a.f1.f0, .int .i64 a.f1.f1, .slice A3 a.f1.f2.length c3, .int .i64 a.f2.f0, .int .i64 a.f2.f1, .slice A6 a.f2.f2.length c6] 84)).alloc (.cells #[.bool b.f0, .int .i64 b.f1.f0, .int .i64 b.f1.f1, .slice B3 b.f1.f2.length d3, .int .i64 b.f2.f0, .int .i64 b.f2.f1, .slice B6 b.f2.f2.length d6] 84) = W at *; (refine wq_plain ?_; (repeat (refine wq_step (fun K hK => ?_); go_simp; first | (refine hK _ ?_; clear hK K) | (apply Exists.intro; refine ⟨fun _ => ?_, hK _ ?_⟩; ((first | ((with_reducible refine Calls.regrown_of (same_any _ a.f1 b.f1 A3 B3 c3 d3 oka okb _ (Nat.le_refl _) ?_ l3 ?_ m3)); (exact Kd.F_below A3_.out (hbT HB.out (below_regrown _ _ _))); exact Kd.F_below B3_.out (hbT HB.out (below_regrown _ _ _))) | ((with_reducible refine Calls.regrown_of (same_any _ a.f1 b.f2 A3 B6 c3 d6 oka okb _ (Nat.le_refl _) ?_ l3 ?_ m6)); (exact Kd.F_below A3_.out (hbT HB.out (below_regrown _ _ _))); exact Kd.F_below B6_.out (hbT HB.out (below_regrown _ _ _))) | ((with_reducible refine Calls.regrown_of (same_any _ a.f2 b.f1 A6 B3 c6 d3 oka okb _ (Nat.le_refl _) ?_ l6 ?_ m3)); (exact Kd.F_below A6_.out (hbT HB.out (below_regrown _ _ _))); exact Kd.F_below B3_.out (hbT HB.out (below_regrown _ _ _))) | ((with_reducible refine Calls.regrown_of (same_any _ a.f2 b.f2 A6 B6 c6 d6 oka okb _ (Nat.le_refl _) ?_ l6 ?_ m6)); (exact Kd.F_below A6_.out (hbT HB.out (below_regrown _ _ _))); exact Kd.F_below B6_.out (hbT HB.out (below_regrown _ _ _))))); clear hK K))); refine wq_nil ?_; intro W2 hbW2); go_wp2; go_ret; exact ⟨ret_bool HR.out.symm, hbT HB.out hbW2⟩)
      | false =>
        have HR := Aside0.mk (show sidesB a b = false by unfold sidesB; rw [h1, h2, h3]; rfl)
        (go_enter Try.func96, Try.ntmps96; go_upto_region 1 with (fail); generalize (w.alloc (.cells #[.bool a.f0, .int .i64 a.f1.f0, .int .i64 a.f1.f1, .slice A3 a.f1.f2.length c3, .int .i64 a.f2.f0, .int .i64 a.f2.f1, .slice A6 a.f2.f2.length c6] 84)).alloc (.cells #[.bool b.f0, .int .i64 b.f1.f0, .int .i64 b.f1.f1, .slice B3 b.f1.f2.length d3, .int .i64 b.f2.f0, .int .i64 b.f2.f1, .slice B6 b.f2.f2.length d6] 84) = W at *; (refine wq_plain ?_; (repeat (refine wq_step (fun K hK => ?_); go_simp; first | (refine hK _ ?_; clear hK K) | (apply Exists.intro; refine ⟨fun _ => ?_, hK _ ?_⟩; ((first | ((with_reducible refine Calls.regrown_of (same_any _ a.f1 b.f1 A3 B3 c3 d3 oka okb _ (Nat.le_refl _) ?_ l3 ?_ m3)); (exact Kd.F_below A3_.out (hbT HB.out (below_regrown _ _ _))); exact Kd.F_below B3_.out (hbT HB.out (below_regrown _ _ _))) | ((with_reducible refine Calls.regrown_of (same_any _ a.f1 b.f2 A3 B6 c3 d6 oka okb _ (Nat.le_refl _) ?_ l3 ?_ m6)); (exact Kd.F_below A3_.out (hbT HB.out (below_regrown _ _ _))); exact Kd.F_below B6_.out (hbT HB.out (below_regrown _ _ _))) | ((with_reducible refine Calls.regrown_of (same_any _ a.f2 b.f1 A6 B3 c6 d3 oka okb _ (Nat.le_refl _) ?_ l6 ?_ m3)); (exact Kd.F_below A6_.out (hbT HB.out (below_regrown _ _ _))); exact Kd.F_below B3_.out (hbT HB.out (below_regrown _ _ _))) | ((with_reducible refine Calls.regrown_of (same_any _ a.f2 b.f2 A6 B6 c6 d6 oka okb _ (Nat.le_refl _) ?_ l6 ?_ m6)); (exact Kd.F_below A6_.out (hbT HB.out (below_regrown _ _ _))); exact Kd.F_below B6_.out (hbT HB.out (below_regrown _ _ _))))); clear hK K))); refine wq_nil ?_; intro W2 hbW2); go_wp2; go_ret; exact ⟨ret_bool HR.out.symm, hbT HB.out hbW2⟩)
  | false =>
    cases h3 : eqT a.f1 b.f2 with
    | true =>
      cases h4 : eqT a.f2 b.f1 with
      | true =>
        have HR := Aside0.mk (show sidesB a b = true by unfold sidesB; rw [h1, h3, h4]; rfl)
        (go_enter Try.func96, Try.ntmps96; go_upto_region 1 with (fail); generalize (w.alloc (.cells #[.bool a.f0, .int .i64 a.f1.f0, .int .i64 a.f1.f1, .slice A3 a.f1.f2.length c3, .int .i64 a.f2.f0, .int .i64 a.f2.f1, .slice A6 a.f2.f2.length c6] 84)).alloc (.cells #[.bool b.f0, .int .i64 b.f1.f0, .int .i64 b.f1.f1, .slice B3 b.f1.f2.length d3, .int .i64 b.f2.f0, .int .i64 b.f2.f1, .slice B6 b.f2.f2.length d6] 84) = W at *; (refine wq_plain ?_; (repeat (refine wq_step (fun K hK => ?_); go_simp; first | (refine hK _ ?_; clear hK K) | (apply Exists.intro; refine ⟨fun _ => ?_, hK _ ?_⟩; ((first | ((with_reducible refine Calls.regrown_of (same_any _ a.f1 b.f1 A3 B3 c3 d3 oka okb _ (Nat.le_refl _) ?_ l3 ?_ m3)); (exact Kd.F_below A3_.out (hbT HB.out (below_regrown _ _ _))); exact Kd.F_below B3_.out (hbT HB.out (below_regrown _ _ _))) | ((with_reducible refine Calls.regrown_of (same_any _ a.f1 b.f2 A3 B6 c3 d6 oka okb _ (Nat.le_refl _) ?_ l3 ?_ m6)); (exact Kd.F_below A3_.out (hbT HB.out (below_regrown _ _ _))); exact Kd.F_below B6_.out (hbT HB.out (below_regrown _ _ _))) | ((with_reducible refine Calls.regrown_of (same_any _ a.f2 b.f1 A6 B3 c6 d3 oka okb _ (Nat.le_refl _) ?_ l6 ?_ m3)); (exact Kd.F_below A6_.out (hbT HB.out (below_regrown _ _ _))); exact Kd.F_below B3_.out (hbT HB.out (below_regrown _ _ _))) | ((with_reducible refine Calls.regrown_of (same_any _ a.f2 b.f2 A6 B6 c6 d6 oka okb _ (Nat.le_refl _) ?_ l6 ?_ m6)); (exact Kd.F_below A6_.out (hbT HB.out (below_regrown _ _ _))); exact Kd.F_below B6_.out (hbT HB.out (below_regrown _ _ _))))); clear hK K))); refine wq_nil ?_; intro W2 hbW2); go_wp2; go_ret; exact ⟨ret_bool HR.out.symm, hbT HB.out hbW2⟩)
      | false =>
        have HR := Aside0.mk (show sidesB a b = false by unfold sidesB; rw [h1, h3, h4]; rfl)
        (go_enter Try.func96, Try.ntmps96; go_upto_region 1 with (fail); generalize (w.alloc (.cells #[.bool a.f0, .int .i64 a.f1.f0, .int .i64 a.f1.f1, .slice A3 a.f1.f2.length c3, .int .i64 a.f2.f0, .int .i64 a.f2.f1, .slice A6 a.f2.f2.length c6] 84)).alloc (.cells #[.bool b.f0, .int .i64 b.f1.f0, .int .i64 b.f1.f1, .slice B3 b.f1.f2.length d3, .int .i64 b.f2.f0, .int .i64 b.f2.f1, .slice B6 b.f2.f2.length d6] 84) = W at *; (refine wq_plain ?_; (repeat (refine wq_step (fun K hK => ?_); go_simp; first | (refine hK _ ?_; clear hK K) | (apply Exists.intro; refine ⟨fun _ => ?_, hK _ ?_⟩; ((first | ((with_reducible refine Calls.regrown_of (same_any _ a.f1 b.f1 A3 B3 c3 d3 oka okb _ (Nat.le_refl _) ?_ l3 ?_ m3)); (exact Kd.F_below A3_.out (hbT HB.out (below_regrown _ _ _))); exact Kd.F_below B3_.out (hbT HB.out (below_regrown _ _ _))) | ((with_reducible refine Calls.regrown_of (same_any _ a.f1 b.f2 A3 B6 c3 d6 oka okb _ (Nat.le_refl _) ?_ l3 ?_ m6)); (exact Kd.F_below A3_.out (hbT HB.out (below_regrown _ _ _))); exact Kd.F_below B6_.out (hbT HB.out (below_regrown _ _ _))) | ((with_reducible refine Calls.regrown_of (same_any _ a.f2 b.f1 A6 B3 c6 d3 oka okb _ (Nat.le_refl _) ?_ l6 ?_ m3)); (exact Kd.F_below A6_.out (hbT HB.out (below_regrown _ _ _))); exact Kd.F_below B3_.out (hbT HB.out (below_regrown _ _ _))) | ((with_reducible refine Calls.regrown_of (same_any _ a.f2 b.f2 A6 B6 c6 d6 oka okb _ (Nat.le_refl _) ?_ l6 ?_ m6)); (exact Kd.F_below A6_.out (hbT HB.out (below_regrown _ _ _))); exact Kd.F_below B6_.out (hbT HB.out (below_regrown _ _ _))))); clear hK K))); refine wq_nil ?_; intro W2 hbW2); go_wp2; go_ret; exact ⟨ret_bool HR.out.symm, hbT HB.out hbW2⟩)
    | false =>
      have HR := Aside0.mk (show sidesB a b = false by unfold sidesB; rw [h1, h3]; rfl)
      (go_enter Try.func96, Try.ntmps96; go_upto_region 1 with (fail); generalize (w.alloc (.cells #[.bool a.f0, .int .i64 a.f1.f0, .int .i64 a.f1.f1, .slice A3 a.f1.f2.length c3, .int .i64 a.f2.f0, .int .i64 a.f2.f1, .slice A6 a.f2.f2.length c6] 84)).alloc (.cells #[.bool b.f0, .int .i64 b.f1.f0, .int .i64 b.f1.f1, .slice B3 b.f1.f2.length d3, .int .i64 b.f2.f0, .int .i64 b.f2.f1, .slice B6 b.f2.f2.length d6] 84) = W at *; (refine wq_plain ?_; (repeat (refine wq_step (fun K hK => ?_); go_simp; first | (refine hK _ ?_; clear hK K) | (apply Exists.intro; refine ⟨fun _ => ?_, hK _ ?_⟩; ((first | ((with_reducible refine Calls.regrown_of (same_any _ a.f1 b.f1 A3 B3 c3 d3 oka okb _ (Nat.le_refl _) ?_ l3 ?_ m3)); (exact Kd.F_below A3_.out (hbT HB.out (below_regrown _ _ _))); exact Kd.F_below B3_.out (hbT HB.out (below_regrown _ _ _))) | ((with_reducible refine Calls.regrown_of (same_any _ a.f1 b.f2 A3 B6 c3 d6 oka okb _ (Nat.le_refl _) ?_ l3 ?_ m6)); (exact Kd.F_below A3_.out (hbT HB.out (below_regrown _ _ _))); exact Kd.F_below B6_.out (hbT HB.out (below_regrown _ _ _))) | ((with_reducible refine Calls.regrown_of (same_any _ a.f2 b.f1 A6 B3 c6 d3 oka okb _ (Nat.le_refl _) ?_ l6 ?_ m3)); (exact Kd.F_below A6_.out (hbT HB.out (below_regrown _ _ _))); exact Kd.F_below B3_.out (hbT HB.out (below_regrown _ _ _))) | ((with_reducible refine Calls.regrown_of (same_any _ a.f2 b.f2 A6 B6 c6 d6 oka okb _ (Nat.le_refl _) ?_ l6 ?_ m6)); (exact Kd.F_below A6_.out (hbT HB.out (below_regrown _ _ _))); exact Kd.F_below B6_.out (hbT HB.out (below_regrown _ _ _))))); clear hK K))); refine wq_nil ?_; intro W2 hbW2); go_wp2; go_ret; exact ⟨ret_bool HR.out.symm, hbT HB.out hbW2⟩)
end Go.Proofs.Ytcgnpmjkeifokaa
-- K12
/- The part at a place: term.Find, plain laws. -/
namespace Go.Proofs.Ytcgnpmjkeifokaa
open Go.RowKit Go.Proofs.YtcgnpmjkeifokaaW.PrintWords
set_option linter.unusedVariables false
set_option linter.unusedSimpArgs false
/-- The part at a place. -/
def atP : Tm → List Int → Option Tm
  | t, [] => some t
  | t, i :: p => if 0 ≤ i ∧ i < t.f2.length then atP (rd_Tm t.f2 i) p else none
def atT (t : Tm) (p : List Int) : Tm := (atP t p).getD zTm
def atB (t : Tm) (p : List Int) : Bool := (atP t p).isSome
theorem atP_drop (x : Tm) (p : List Int) (k : Nat) (h : k < p.length) : atP x (p.drop k) = if 0 ≤ p.getD k 0 ∧ p.getD k 0 < x.f2.length then atP (rd_Tm x.f2 (p.getD k 0)) (p.drop (k+1)) else none := by
  rw [List.drop_eq_getElem_cons h, atP]
  have : p.getD k 0 = p[k] := by simp [List.getD_eq_getElem?_getD, h]
  rw [this]
/-! ### a store into a block that is known whole -/
theorem sizeTm : (Try.prog.info? 46).map (·.size) = some 3 := by kernel_rfl
theorem sizeTs : (Try.prog.info? 44).map (·.size) = some 1 := by kernel_rfl
theorem gbS {w w1 w2 : World} {g : Nat} (h : Below w.heap.size w w1) (k : w1.grownBy w2 (some g)) (hg : w.heap.size ≤ g) : Below w.heap.size w w2 :=
  ⟨k.os.trans h.os, k.tape.trans h.tape, k.output.trans h.output, Nat.le_trans h.size k.size, fun i hi => (k.block i (Nat.lt_of_lt_of_le hi h.size) (by intro e; injection e with e; omega)).trans (h.block i hi)⟩
section
variable {P : Program} {ops : Array Oper} {rest : List Oper} {o : Oper} {a : Act} {Q : Exit → Act → World → Prop} {W : World}
theorem run_blk {t : TypeId} {g off : Nat} {e : TypeId} {cur : Array Value} (cur' : Array Value) {u : Value} (seg : List Value) (hu : u.cells.toList = seg) (ht : (P.info? t).map (·.size) = some seg.length) (h1 : ∀ q ∈ seg, q.oneCell' = true)
    (hh : W.heap[g]? = some (.cells cur e (0, 0))) (hfit : off + seg.length ≤ cur.size) (hc : cur.toList.take off ++ seg ++ cur.toList.drop (off + seg.length) = cur'.toList) :
    ∃ w1, (Instr.storeAt t (.pointer (some ⟨g, off, none⟩)) u).run P W = .ok () w1 ∧ w1.heap[g]? = some (.cells cur' e (0, 0)) ∧ W.grownBy w1 (some g) ∧ w1.heap.size = W.heap.size := by
  refine ⟨_, run_store_run t u seg hh hu ht hfit h1, ?_, ?_, ?_⟩
  · obtain ⟨c2, h2, _, h4⟩ := setCells_row seg off W cur hh hfit
    rw [h2, show c2 = cur' from Array.toList_inj.1 (h4.trans hc)]
  · obtain ⟨s1, s2, s3, s4⟩ := setCells_same g seg off W
    exact ⟨s1, s2, s3, by rw [s4]; exact Nat.le_refl _, fun k _ hk => setCells_far _ _ k (fun he => hk (by rw [he]))⟩
  · exact (setCells_same g seg off W).2.2.2
theorem st_blk (hgd : o.guard = none) (hN : o.dst = none) {t : TypeId} {p x : Operand} (ho : o.op = .store t p x) {g off : Nat} {e : TypeId} {cur : Array Value} (cur' : Array Value) {u : Value} (seg : List Value)
    (haddr : a.eval p = .pointer (some ⟨g, off, none⟩)) (hx : a.eval x = u) (hu : u.cells.toList = seg) (ht : (P.info? t).map (·.size) = some seg.length) (h1 : ∀ q ∈ seg, q.oneCell' = true)
    (hh : W.heap[g]? = some (.cells cur e (0, 0))) (hfit : off + seg.length ≤ cur.size) (hc : cur.toList.take off ++ seg ++ cur.toList.drop (off + seg.length) = cur'.toList)
    (h : ∀ w1, w1.heap[g]? = some (.cells cur' e (0, 0)) → W.grownBy w1 (some g) → w1.heap.size = W.heap.size → wpList P ops Q rest a w1) : wpList P ops Q (o :: rest) a W := by
  obtain ⟨w1, hr, h2, h3, h4⟩ := run_blk (P := P) cur' seg hu ht h1 hh hfit hc
  refine wpList_plain hgd fun K hK => ?_
  unfold Oper.wp execOp
  simp only [ho, haddr, hx, Sem.run_bind, Sem.run_pure, Result.andThen_ok, hr]
  show K (a.put o.dst undef) _
  rw [hN]
  exact hK a _ (h _ h2 h3 h4)
end
theorem one3 (a b : Int) (A : Option Addr) (n c : Nat) : ∀ q ∈ [Value.int .i64 a, .int .i64 b, .slice A n c], q.oneCell' = true := by
  intro q hq
  simp only [List.mem_cons, List.not_mem_nil, or_false] at hq
  rcases hq with rfl | rfl | rfl <;> rfl
theorem one1 (A : Option Addr) (n c : Nat) : ∀ q ∈ [Value.slice A n c], q.oneCell' = true := by
  intro q hq
  simp only [List.mem_cons, List.not_mem_nil, or_false] at hq
  subst hq; rfl
section
variable {ops : Array Oper} {rest : List Oper} {o : Oper} {act : Act} {Q : Exit → Act → World → Prop} {W : World}
/-- A term into a term's own block. -/
theorem st_tm (p : Tmp) {x : Operand} (ho : o.op = .store 46 (.tmp p) x) (hgd : o.guard = none) (hN : o.dst = none) {g : Nat} {a b a' b' : Int} {A A' : Option Addr} {n c n' c' : Nat}
    (haddr : act.eval (.tmp p) = .pointer (some ⟨g, 0, none⟩)) (hx : act.eval x = .agg #[.int .i64 a', .int .i64 b', .slice A' n' c'])
    (hh : W.heap[g]? = some (.cells #[.int .i64 a, .int .i64 b, .slice A n c] 46 (0, 0)))
    (h : ∀ w1, w1.heap[g]? = some (.cells #[.int .i64 a', .int .i64 b', .slice A' n' c'] 46 (0, 0)) → W.grownBy w1 (some g) → w1.heap.size = W.heap.size → wpList Try.prog ops Q rest act w1) : wpList Try.prog ops Q (o :: rest) act W :=
  st_blk hgd hN ho #[.int .i64 a', .int .i64 b', .slice A' n' c'] [.int .i64 a', .int .i64 b', .slice A' n' c'] haddr hx rfl sizeTm (one3 _ _ _ _ _) hh (Nat.le_refl 3) rfl h
/-- The arguments of a term's own block. -/
theorem st_args (p : Tmp) {x : Operand} (ho : o.op = .store 44 (.tmp p) x) (hgd : o.guard = none) (hN : o.dst = none) {g : Nat} {a b : Int} {A A' : Option Addr} {n c n' c' : Nat}
    (haddr : act.eval (.tmp p) = .pointer (some ⟨g, 2, none⟩)) (hx : act.eval x = .slice A' n' c')
    (hh : W.heap[g]? = some (.cells #[.int .i64 a, .int .i64 b, .slice A n c] 46 (0, 0)))
    (h : ∀ w1, w1.heap[g]? = some (.cells #[.int .i64 a, .int .i64 b, .slice A' n' c'] 46 (0, 0)) → W.grownBy w1 (some g) → w1.heap.size = W.heap.size → wpList Try.prog ops Q rest act w1) : wpList Try.prog ops Q (o :: rest) act W :=
  st_blk hgd hN ho #[.int .i64 a, .int .i64 b, .slice A' n' c'] [.slice A' n' c'] haddr hx rfl sizeTs (one1 _ _ _) hh (Nat.le_refl 3) rfl h
end
theorem F_none (w : World) (ok : Nat → Prop) : Kd.F kTm w ok none zTm.f2.length zTm.f2 := fun W' _ => Kd.C_nil _ _
end Go.Proofs.Ytcgnpmjkeifokaa
-- KHead
/- A statement that draws its order: its first n operations in whatever order, a relation S held behind each; then the others (the stores), which wait for all of them, in the text's order, where S need not hold. -/
namespace Go.Proofs.Ytcgnpmjkeifokaa
open Go.RowKit Go.Proofs.YtcgnpmjkeifokaaW.PrintWords
set_option linter.unusedVariables false
section
variable {P : Program} {ops : Array Oper} {Q : Exit → Act → World → Prop} {md : Region.Mode} {S : World → Prop} {n : Nat} {L : Array Bool → Act → World → Prop}
/-- The head, in whatever order; then L. -/
def Hd (P : Program) (md : Region.Mode) (ops : Array Oper) (Q : Exit → Act → World → Prop) (S : World → Prop) (n : Nat) (L : Array Bool → Act → World → Prop) : Nat → Array Bool → Act → World → Prop
  | 0, listed, a, w => L listed a w
  | f + 1, listed, a, w => Region.ready md ops listed ≠ [] ∧ ∀ i ∈ Region.ready md ops listed, i < n ∧ wpOp P ops Q i (fun a' w' => S w' ∧ Hd P md ops Q S n L f (listed.setIfInBounds i true) a' w') a w
theorem hd_any {g : Nat} (hL : ∀ listed a w, L listed a w → wpAny P md ops Q g listed a w) :
    ∀ (f : Nat) (listed : Array Bool) (a : Act) (w : World), Hd P md ops Q S n L f listed a w → wpAny P md ops Q (f + g) listed a w
  | 0, listed, a, w, h => by rw [Nat.zero_add]; exact hL _ _ _ h
  | f + 1, listed, a, w, h => by
    rw [show f + 1 + g = (f + g) + 1 by omega]
    exact ⟨fun h0 => absurd h0 h.1, fun i hi => wpOp_mono (fun a' w' h' => hd_any hL f _ a' w' h'.2) (h.2 i hi).2⟩
/-- All from n on wait for operation i. -/
def tailsB (md : Region.Mode) (ops : Array Oper) (n i : Nat) : Bool := (List.range ops.size).all fun t => decide (t < n) || Region.waitsFor md ops t i
theorem tails_not {i : Nat} (h : tailsB md ops n i = true) {listed : Array Bool} (hun : listed.getD i true = false) : ∀ t, n ≤ t → t ∉ Region.ready md ops listed := by
  intro t ht hr
  obtain ⟨_, ot, hot, hall⟩ := mem_ready.1 hr
  have htlt : t < ops.size := (Array.getElem?_eq_some_iff.1 hot).1
  have h1 := List.all_eq_true.1 h t (List.mem_range.2 htlt)
  simp only [Bool.or_eq_true, decide_eq_true_eq] at h1
  rcases h1 with h1 | h1
  · omega
  · obtain ⟨o', ho', e, he, hb, hon⟩ := Region.waitsFor_spec h1
    have : o' = ot := Option.some.inj (ho'.symm.trans hot)
    subst this
    have h2 := hall e he hb
    rw [hon, getD_both hun] at h2
    cases h2
theorem hd_first {i : Nat} {oi : Oper} {v : Value} (hi : ops[i]? = some oi) (hsel : ∀ (j : Nat) (o : Oper) cs b, ops[j]? = some o → o.op ≠ .select cs b)
    (hQ : ∀ c a w, Q (.panic c) (a.put oi.dst v) w → Q (.panic c) a w) (hin : i < n) (htl : tailsB md ops n i = true) (hdone : ∀ listed a w, L listed a w → ∀ j ∈ Region.ready md ops listed, n ≤ j) :
    ∀ (f : Nat) (listed : Array Bool) (a : Act) (w : World),
      (∀ j oj, ops[j]? = some oj → j ≠ i → listed.getD j true = false → (∀ e ∈ oj.after, Region.binds md e = true → e.on ≠ i) → oi.apart ops oj = true) →
      i ∈ Region.ready md ops listed → YieldsIf P ops S oi v a → S w →
      Hd P md ops Q S n L f (listed.setIfInBounds i true) (a.put oi.dst v) w → Hd P md ops Q S n L (f + 1) listed a w := by
  intro f
  induction f with
  | zero =>
    intro listed a w _ hr hy hS H
    have hun := (mem_ready.1 hr).1
    refine ⟨fun h => (by rw [h] at hr; cases hr), fun j hj => ?_⟩
    by_cases hji : j = i
    · subst hji; exact ⟨hin, hy.wpOp hi hS ⟨hS, H⟩⟩
    · exact absurd hj (tails_not htl hun j (hdone _ _ _ H j (ready_mono hj hji)))
  | succ f ih =>
    intro listed a w hfree hr hy hS H
    have hun := (mem_ready.1 hr).1
    refine ⟨fun h => (by rw [h] at hr; cases hr), fun j hj => ?_⟩
    by_cases hji : j = i
    · subst hji; exact ⟨hin, hy.wpOp hi hS ⟨hS, H⟩⟩
    · have h1 := (H.2 j (ready_mono hj hji)).2
      refine ⟨(H.2 j (ready_mono hj hji)).1, ?_⟩
      obtain ⟨hjun, oj, hoj, hall⟩ := mem_ready.1 hj
      have hnot : ∀ e ∈ oj.after, Region.binds md e = true → e.on ≠ i := fun e he hb heq => by
        have h1 := hall e he hb
        rw [heq, getD_both hun] at h1
        cases h1
      have h2 := wpOp_putIf hoj (hfree j oj hoj hji hjun hnot) (fun cs b => hsel i oi cs b hi) (fun cs b => hsel j oj cs b hoj) hQ hy h1
      have hfree' : ∀ k ok, ops[k]? = some ok → k ≠ i → (listed.setIfInBounds j true).getD k true = false →
          (∀ e ∈ ok.after, Region.binds md e = true → e.on ≠ i) → oi.apart ops ok = true := fun k ok hk hki hun hno => by
        refine hfree k ok hk hki ?_ hno
        by_cases hjk : j = k
        · subst hjk; exact hjun
        · rw [getD_set_ne true hjk] at hun; exact hun
      refine wpOp_mono (fun a' w' h3 => ⟨h3.2.1, ih (listed.setIfInBounds j true) a' w' hfree' (ready_mono hr (Ne.symm hji)) h3.1 h3.2.1 ?_⟩) h2
      rw [Array.setIfInBounds_comm _ _ hji]
      exact h3.2.2
end
section
variable {P : Program} {ops : Array Oper} {Q : Exit → Act → World → Prop} {S : World → Prop} {n g : Nat} {T : Act → World → Prop}
/-- The head of a region; then T, the others being in the text's order. -/
structure HD (P : Program) (ops : Array Oper) (Q : Exit → Act → World → Prop) (S : World → Prop) (n g : Nat) (T : Act → World → Prop) (f : Nat) (listed : Array Bool) (a : Act) (w : World) : Prop where
  mk :: (out : Hd P .any ops Q S n (fun listed a w => Region.seqB .any ops g n listed = true ∧ T a w) f listed a w)
theorem hd_take {f i : Nat} {oi : Oper} {v : Value} {listed : Array Bool} {a : Act} {w : World} (hi : ops[i]? = some oi) (hs : Region.noSelect ops = true) (hf : Region.free .any ops listed i = true)
    (hr : (Region.ready .any ops listed).contains i = true) (htl : tailsB .any ops n i = true) (hin : i < n) (hQ : ∀ c a w, Q (.panic c) (a.put oi.dst v) w → Q (.panic c) a w)
    (hw : Region.wanted oi (yielded ops a.tmps) = true) (hy : ∀ w, S w → (execOp a.eval oi).run P w = .ok (.value v) w) (hS : S w)
    (h : HD P ops Q S n g T f (listed.setIfInBounds i true) (a.put oi.dst v) w) : HD P ops Q S n g T (f + 1) listed a w :=
  ⟨hd_first hi (Region.noSelect_spec hs) hQ hin htl (fun _ _ _ hL => seqB_ready hL.1) f listed a w (Region.free_spec hi hf) (by simpa using hr) (.inl ⟨hw, hy⟩) hS h.out⟩
/-- One alone can come up. -/
theorem hd_one {f i : Nat} {oi : Oper} {listed : Array Bool} {a : Act} {w : World} (hi : ops[i]? = some oi) (hr : Region.ready .any ops listed = [i]) (hin : i < n)
    (h : ∀ K : Act → World → Prop, Shut (∀ a w, S w → (S w → HD P ops Q S n g T f (listed.setIfInBounds i true) a w) → K a w) → if Region.wanted oi (yielded ops a.tmps) = true then Oper.wp P oi a w K Q else K (a.put oi.dst undef) w) : HD P ops Q S n g T (f + 1) listed a w :=
  ⟨⟨fun h0 => (by rw [hr] at h0; cases h0), fun j hj => (by
    rw [hr] at hj
    have : j = i := by simpa using hj
    subst this
    exact ⟨hin, wpOp_step hi (fun K hK => h K (fun a w hS hH => hK a w ⟨hS, (hH hS).out⟩))⟩)⟩⟩
/-- Two can come up. -/
theorem hd_two {f i j : Nat} {listed : Array Bool} {a : Act} {w : World} {oi oj : Oper} (hi : ops[i]? = some oi) (hj : ops[j]? = some oj) (hr : Region.ready .any ops listed = [i, j]) (hin : i < n) (hjn : j < n)
    (h1 : ∀ K : Act → World → Prop, Shut (∀ a w, S w → (S w → HD P ops Q S n g T f (listed.setIfInBounds i true) a w) → K a w) → if Region.wanted oi (yielded ops a.tmps) = true then Oper.wp P oi a w K Q else K (a.put oi.dst undef) w)
    (h2 : ∀ K : Act → World → Prop, Shut (∀ a w, S w → (S w → HD P ops Q S n g T f (listed.setIfInBounds j true) a w) → K a w) → if Region.wanted oj (yielded ops a.tmps) = true then Oper.wp P oj a w K Q else K (a.put oj.dst undef) w) : HD P ops Q S n g T (f + 1) listed a w :=
  ⟨⟨fun h0 => (by rw [hr] at h0; cases h0), fun k hk => (by
    rw [hr] at hk
    rcases (by simpa using hk : k = i ∨ k = j) with rfl | rfl
    · exact ⟨hin, wpOp_step hi (fun K hK => h1 K (fun a w hS hH => hK a w ⟨hS, (hH hS).out⟩))⟩
    · exact ⟨hjn, wpOp_step hj (fun K hK => h2 K (fun a w hS hH => hK a w ⟨hS, (hH hS).out⟩))⟩)⟩⟩
theorem hd_done {listed : Array Bool} {a : Act} {w : World} (hB : Region.seqB .any ops g n listed = true) (h : T a w) : HD P ops Q S n g T 0 listed a w := ⟨⟨hB, h⟩⟩
end
theorem hd_region {P : Program} {id : Nat} {Q : Exit → Act → World → Prop} {a : Act} {w : World} {l : List Oper} (n g : Nat) (S : World → Prop) (hm : P.follows .mixedOrders = true) (hn : n + g = l.length)
    (h : ∀ W, Below w.heap.size w W → W.heap.size = w.heap.size → S W → HD P l.toArray Q S n g (fun a' w' => wpList P l.toArray Q (l.drop n) a' w') n (Array.replicate l.length false) a W)
    (hS : ∀ W, Below w.heap.size w W → S W) : (Code.region id l.toArray true).wp P Q a w := by
  refine wp_region_any hm ?_
  have hB : Below w.heap.size w { w with drawn := w.drawn + 1 } := ⟨rfl, rfl, rfl, Nat.le_refl _, fun _ _ => rfl⟩
  have h1 := (h { w with drawn := w.drawn + 1 } hB rfl (hS _ hB)).out
  have hdl : (l.drop n).length = g := by rw [List.length_drop]; omega
  have := hd_any (g := g) (fun listed a' w' hL => by
    have := wpAny_of_seq (md := .any) (P := P) (ops := l.toArray) (Q' := Q) (l.drop n) n listed a' w' (fun j => by simp [List.getElem?_drop]) (by rw [hdl]; exact hL.1) hL.2
    rwa [hdl] at this) _ _ _ _ h1
  rw [hn] at this
  simpa using this
end Go.Proofs.Ytcgnpmjkeifokaa
-- K13
/- superposeref.AtOf. -/
namespace Go.Proofs.Ytcgnpmjkeifokaa
open Go.RowKit Go.Proofs.YtcgnpmjkeifokaaW.PrintWords
set_option linter.unusedVariables false
set_option linter.unusedSimpArgs false
end Go.Proofs.Ytcgnpmjkeifokaa
