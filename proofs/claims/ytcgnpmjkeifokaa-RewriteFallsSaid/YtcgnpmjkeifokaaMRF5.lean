/- RewriteFalls: each step makes a lesser term, and what is normal stays as it is: for every input. Part 5: the walks and plain laws that it uses. -/
import Derived.Test.YtcgnpmjkeifokaaMRF4
-- K99
/- What rewrite.found finds; plain. -/
namespace Go.Proofs.Ytcgnpmjkeifokaa
open Go.RowKit Go.Proofs.YtcgnpmjkeifokaaW.PrintWords
set_option linter.unusedVariables false
set_option linter.unusedSimpArgs false
/-- The first rule that matches. -/
def frst : List Rl → Tm → Option (Rl × List (Int × Tm))
  | [], _ => none
  | r :: rs, t => if (growT [] r.f0 t).2 = true then some (r, (growT [] r.f0 t).1) else frst rs t
mutual
def fndT (l : List Rl) : Tm → Option (List Int × Rl × List (Int × Tm))
  | ⟨v, f, as'⟩ => match fndL l 0 as' with
    | some x => some x
    | none => (frst l ⟨v, f, as'⟩).map fun x => ([], x.1, x.2)
def fndL (l : List Rl) : Nat → List Tm → Option (List Int × Rl × List (Int × Tm))
  | _, [] => none
  | i, t :: ts => match fndT l t with
    | some x => some ((i : Int) :: x.1, x.2.1, x.2.2)
    | none => fndL l (i + 1) ts
end
theorem fndT_eq (l : List Rl) (t : Tm) : fndT l t = match fndL l 0 t.f2 with
    | some x => some x
    | none => (frst l t).map fun x => ([], x.1, x.2) := by cases t; rw [fndT]
theorem fndL_append (l : List Rl) (b : List Tm) : ∀ (a : List Tm) (i : Nat), fndL l i (a ++ b) = match fndL l i a with
    | some x => some x
    | none => fndL l (i + a.length) b
  | [], i => by rw [fndL]; rfl
  | t :: a, i => by
    rw [List.cons_append, fndL, fndL]
    cases h : fndT l t with
    | some x => rfl
    | none =>
      simp only
      rw [fndL_append l b a (i + 1), List.length_cons, show i + 1 + a.length = i + (a.length + 1) by omega]
theorem fndL_take {l : List Rl} {as' : List Tm} {k : Nat} (hk : k < as'.length) (h : fndL l 0 (as'.take k) = none) : fndL l 0 (as'.take (k + 1)) = (fndT l (rd_Tm as' k)).map fun x => ((k : Int) :: x.1, x.2.1, x.2.2) := by
  rw [List.take_succ_eq_append_getElem hk, fndL_append, h, rd_get as' k hk]
  simp only [List.length_take, Nat.zero_add]
  rw [show min k as'.length = k by omega, fndL]
  cases fndT l as'[k] with
  | some x => rfl
  | none => rw [fndL]; rfl
theorem fndL_some {l : List Rl} {as' : List Tm} {k : Nat} {x : List Int × Rl × List (Int × Tm)} (h : fndL l 0 (as'.take k) = some x) : fndL l 0 as' = some x := by
  have := fndL_append l (as'.drop k) (as'.take k) 0
  rw [List.take_append_drop, h] at this
  exact this
theorem frst_take {l : List Rl} {t : Tm} {k : Nat} (hk : k < l.length) (h : frst (l.take k) t = none) : frst (l.take (k + 1)) t = if (growT [] (rd_Rl l k).f0 t).2 = true then some (rd_Rl l k, (growT [] (rd_Rl l k).f0 t).1) else none := by
  induction l generalizing k with
  | nil => simp at hk
  | cons r rs ih =>
    cases k with
    | zero => rfl
    | succ k =>
      have e : rd_Rl (r :: rs) (k + 1) = rd_Rl rs k := by unfold rd_Rl; simp
      rw [List.take_succ_cons, frst] at h ⊢
      by_cases hr : (growT [] r.f0 t).2 = true
      · rw [if_pos hr] at h; cases h
      · rw [if_neg hr] at h ⊢
        rw [e]
        exact ih (by simpa using hk) h
theorem frst_some {l : List Rl} {t : Tm} {k : Nat} {x : Rl × List (Int × Tm)} (h : frst (l.take k) t = some x) : frst l t = some x := by
  induction l generalizing k with
  | nil => simp [frst] at h
  | cons r rs ih =>
    cases k with
    | zero => simp [frst] at h
    | succ k =>
      rw [List.take_succ_cons, frst] at h
      rw [frst]
      by_cases hr : (growT [] r.f0 t).2 = true
      · rw [if_pos hr] at h ⊢; exact h
      · rw [if_neg hr] at h ⊢; exact ih h
theorem frst_mem {l : List Rl} {t : Tm} {r : Rl} {m : List (Int × Tm)} (h : frst l t = some (r, m)) : r ∈ l ∧ growT [] r.f0 t = (m, true) := by
  induction l with
  | nil => simp [frst] at h
  | cons x xs ih =>
    rw [frst] at h
    by_cases hr : (growT [] x.f0 t).2 = true
    · rw [if_pos hr] at h
      injection h with h
      injection h with h1 h2
      subst h1 h2
      exact ⟨by simp, Prod.ext rfl hr⟩
    · rw [if_neg hr] at h
      obtain ⟨a, b⟩ := ih h
      exact ⟨by simp [a], b⟩
/-- What found hands out: rules of okl, terms of okt; the place and the map's block meet okr. -/
def FndV (okl okt okr : Nat → Prop) (p : List Int) (o : Option (List Int × Rl × List (Int × Tm))) (v1 v2 v3 : Value) (bv : Bool) (w : World) : Prop :=
  ∃ (r : Rl) (A2 : Option Addr) (c2 : Nat) (A5 : Option Addr) (c5 : Nat), v2 = .agg #[.int .i64 r.f0.f0, .int .i64 r.f0.f1, .slice A2 r.f0.f2.length c2, .int .i64 r.f1.f0, .int .i64 r.f1.f1, .slice A5 r.f1.f2.length c5] ∧
    match o with
    | none => bv = false
    | some x => bv = true ∧ r = x.2.1 ∧ (r.f0.f2.length ≤ c2 ∧ r.f1.f2.length ≤ c5) ∧ (Kd.F kTm w okl A2 r.f0.f2.length r.f0.f2 ∧ Kd.F kTm w okl A5 r.f1.f2.length r.f1.f2) ∧
      ∃ A1 c1 b, v1 = .slice A1 (p ++ x.1).length c1 ∧ (p ++ x.1).length ≤ c1 ∧ Kd.F (Kd.int .i64) w okr A1 (p ++ x.1).length (p ++ x.1) ∧ v3 = .map (some b) ∧ MapT w b okt x.2.2 ∧ okr b
section
variable {okl okt okr okr' : Nat → Prop} {p : List Int} {o : Option (List Int × Rl × List (Int × Tm))} {v1 v2 v3 : Value} {bv : Bool} {w w' : World}
theorem FndV.below (h : FndV okl okt okr p o v1 v2 v3 bv w) (hb : Below w.heap.size w w') : FndV okl okt okr p o v1 v2 v3 bv w' := by
  obtain ⟨r, A2, c2, A5, c5, e, h⟩ := h
  refine ⟨r, A2, c2, A5, c5, e, ?_⟩
  cases o with
  | none => exact h
  | some x =>
    obtain ⟨h1, h2, h3, h4, A1, c1, b, g1, g2, g3, g4, g5, g6⟩ := h
    exact ⟨h1, h2, h3, ⟨Kd.F_below h4.1 hb, Kd.F_below h4.2 hb⟩, A1, c1, b, g1, g2, Kd.F_below g3 hb, g4, g5.below hb, g6⟩
theorem FndV.bound (h : FndV okl okt okr p o v1 v2 v3 bv w) : FndV okl okt (fun k => okr k ∧ k < w.heap.size) p o v1 v2 v3 bv w := by
  obtain ⟨r, A2, c2, A5, c5, e, h⟩ := h
  refine ⟨r, A2, c2, A5, c5, e, ?_⟩
  cases o with
  | none => exact h
  | some x =>
    obtain ⟨h1, h2, h3, h4, A1, c1, b, g1, g2, g3, g4, g5, g6⟩ := h
    exact ⟨h1, h2, h3, h4, A1, c1, b, g1, g2, Kd.F_bound g3, g4, g5, g6, g5.lt⟩
theorem FndV.mono (h : FndV okl okt okr p o v1 v2 v3 bv w) (hm : ∀ k, okr k → okr' k) : FndV okl okt okr' p o v1 v2 v3 bv w := by
  obtain ⟨r, A2, c2, A5, c5, e, h⟩ := h
  refine ⟨r, A2, c2, A5, c5, e, ?_⟩
  cases o with
  | none => exact h
  | some x =>
    obtain ⟨h1, h2, h3, h4, A1, c1, b, g1, g2, g3, g4, g5, g6⟩ := h
    exact ⟨h1, h2, h3, h4, A1, c1, b, g1, g2, Kd.F_mono g3 hm, g4, g5, hm _ g6⟩
theorem FndV.grown {g : Nat} (h : FndV okl okt okr p o v1 v2 v3 bv w) (hg : w.grownBy w' (some g)) (hl : ∀ k, okl k → k ≠ g) (ht : ∀ k, okt k → k ≠ g) (hr : ∀ k, okr k → k ≠ g) : FndV okl okt okr p o v1 v2 v3 bv w' := by
  obtain ⟨r, A2, c2, A5, c5, e, h⟩ := h
  refine ⟨r, A2, c2, A5, c5, e, ?_⟩
  cases o with
  | none => exact h
  | some x =>
    obtain ⟨h1, h2, h3, h4, A1, c1, b, g1, g2, g3, g4, g5, g6⟩ := h
    exact ⟨h1, h2, h3, ⟨Kd.F_grown h4.1 hg (fun k hk e => hl k hk (by injection e)), Kd.F_grown h4.2 hg (fun k hk e => hl k hk (by injection e))⟩, A1, c1, b, g1, g2, Kd.F_grown g3 hg (fun k hk e => hr k hk (by injection e)), g4, g5.grown hg (hr _ g6) ht, g6⟩
end
theorem N_int_tight {e : Nat} {w : World} {base : Nat} {ok : Nat → Prop} {v : Value} {xs : List Int} (h : Kd.N (Kd.int .i64) e w base ok v xs) : Kd.N (Kd.int .i64) e w base (fun k => v.ownBlock = some k) v xs := by
  obtain ⟨h0, rows, hl, hR, hf⟩ := h
  refine ⟨fun k hk => hk, rows, hl, hR, fun j x c hx hc => fun W' _ => ?_⟩
  have h := Kd.FK_now (hf j x c hx hc)
  exact h
theorem results_tctt {fn : Func} {P : Program} {s p t u : Tmp} {ty : TypeId} (h : fn.results = #[.tmp s, .cell p ty, .tmp t, .tmp u]) (tmps : Array Value) (w : World) (g : Nat) (e : TypeId) (cs : Array Value) (fr : Nat × Nat) (d : TypeDesc)
    (hp : tmps.getD p undef = .pointer (some ⟨g, 0, none⟩)) (hg : w.heap[g]? = some (.cells cs e fr))
    (hu : P.underlying ty = some d) (hd : (match d with | .struct _ | .array _ _ => true | _ => false) = true) (hi : (P.info? ty).map (·.size) = some cs.size) :
    (results fn tmps).run P w = .ok (.tuple #[tmps.getD s undef, .agg cs, tmps.getD t undef, tmps.getD u undef]) w := by
  have hp' : tmps[p]?.getD undef = .pointer (some ⟨g, 0, none⟩) := by simpa using hp
  simp [results, h, hp', asAddr, run_loadVar_row w g e ty cs fr d hg hu hd hi]
end Go.Proofs.Ytcgnpmjkeifokaa
