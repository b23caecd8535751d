/- ClauseHangs: a clause subsumes itself, and what one subsumes that another one does it subsumes; tidied twice is tidied once: for every input. -/
import Derived.Test.YtcgnpmjkeifokaaMCl3
import Derived.Test.YtcgnpmjkeifokaaRows
import Derived.Test.YtcgnpmjkeifokaaChecked
import Derived.ChangeAt
-- KSub
/- Subsumption, plain laws: it is reflexive on clauses that are right, and transitive. -/
namespace Go.Proofs.Ytcgnpmjkeifokaa
open Go.RowKit Go.Proofs.YtcgnpmjkeifokaaW.PrintWords
set_option linter.unusedVariables false
set_option linter.unusedSimpArgs false

mutual
def subT (σ : Int → Tm) : Tm → Tm
  | ⟨v, f, l⟩ => if 0 < v then σ v else ⟨0, f, subL σ l⟩
def subL (σ : Int → Tm) : List Tm → List Tm
  | [] => []
  | t :: ts => subT σ t :: subL σ ts
end
theorem subT_eq (σ : Int → Tm) (t : Tm) : subT σ t = if 0 < t.f0 then σ t.f0 else ⟨0, t.f1, subL σ t.f2⟩ := by cases t; rw [subT]
theorem subL_len (σ : Int → Tm) (l : List Tm) : (subL σ l).length = l.length := by
  induction l with
  | nil => simp [subL]
  | cons t ts ih => simp [subL, ih]
theorem subT_comp (σ τ : Int → Tm) (t : Tm) : subT τ (subT σ t) = subT (fun v => subT τ (σ v)) t := by
  refine Tm.rec (motive_1 := fun t => subT τ (subT σ t) = subT (fun v => subT τ (σ v)) t) (motive_2 := fun l => subL τ (subL σ l) = subL (fun v => subT τ (σ v)) l) ?_ ?_ ?_ t
  · intro v f l ih
    rw [subT, subT]
    by_cases h : 0 < v
    · rw [if_pos h, if_pos h]
    · rw [if_neg h, if_neg h, subT, if_neg (by decide), ih]
  · rw [subL, subL, subL]
  · intro t ts h1 h2
    rw [subL, subL, subL, h1, h2]
def Ext (m : List (Int × Tm)) (σ : Int → Tm) : Prop := ∀ v u, mget m v = some u → σ v = u
def Inc (m m' : List (Int × Tm)) : Prop := ∀ v u, mget m v = some u → mget m' v = some u
theorem Inc.refl (m : List (Int × Tm)) : Inc m m := fun _ _ h => h
theorem Inc.trans {a b c : List (Int × Tm)} (h : Inc a b) (k : Inc b c) : Inc a c := fun v u e => k v u (h v u e)
theorem Ext.of {m m' : List (Int × Tm)} {σ : Int → Tm} (h : Ext m' σ) (k : Inc m m') : Ext m σ := fun v u e => h v u (k v u e)
theorem inc_push {m : List (Int × Tm)} (v : Int) (t : Tm) : Inc m (m ++ [(v, t)]) := fun _ _ h => mget_prefix h

theorem grow_sound (p : Tm) : ∀ (t : Tm) (m m' : List (Int × Tm)), growT m p t = (m', true) → Inc m m' ∧ ∀ σ, Ext m' σ → subT σ p = t := by
  refine Tm.rec (motive_1 := fun p => ∀ (t : Tm) (m m' : List (Int × Tm)), growT m p t = (m', true) → Inc m m' ∧ ∀ σ, Ext m' σ → subT σ p = t)
    (motive_2 := fun l => ∀ (ts : List Tm) (m m' : List (Int × Tm)), l.length = ts.length → growL m l ts = (m', true) → Inc m m' ∧ ∀ σ, Ext m' σ → subL σ l = ts) ?_ ?_ ?_ p
  · intro v f l ih t m m' h
    rw [growT] at h
    by_cases hv : 0 < v
    · rw [if_pos hv] at h
      cases hg : mget m v with
      | some u =>
        rw [hg] at h
        simp only [Prod.mk.injEq] at h
        obtain ⟨rfl, he⟩ := h
        refine ⟨Inc.refl _, fun σ hσ => ?_⟩
        rw [subT, if_pos hv, hσ v u hg]
        exact (eqT_iff u t).1 he
      | none =>
        rw [hg] at h
        simp only [Prod.mk.injEq] at h
        obtain ⟨rfl, _⟩ := h
        refine ⟨inc_push v t, fun σ hσ => ?_⟩
        rw [subT, if_pos hv]
        refine hσ v t ?_
        rw [mget_append hg, mget, if_pos rfl]
    · rw [if_neg hv] at h
      by_cases hc : t.f0 = 0 ∧ f = t.f1 ∧ l.length = t.f2.length
      · rw [if_pos hc] at h
        obtain ⟨h1, h2⟩ := ih t.f2 m m' hc.2.2 h
        refine ⟨h1, fun σ hσ => ?_⟩
        rw [subT, if_neg hv, h2 σ hσ]
        obtain ⟨a, b, c⟩ := t
        obtain ⟨e1, e2, _⟩ := hc
        simp only at e1 e2
        subst e1 e2
        rfl
      · rw [if_neg hc] at h
        simp at h
  · intro ts m m' hl h
    cases ts with
    | nil => rw [growL] at h; simp only [Prod.mk.injEq] at h; obtain ⟨rfl, _⟩ := h; exact ⟨Inc.refl _, fun σ _ => by rw [subL]⟩
    | cons a b => simp at hl
  · intro t ts h1 h2 us m m' hl h
    cases us with
    | nil => simp at hl
    | cons u us =>
      rw [growL] at h
      by_cases hb : (growT m t u).2 = true
      · rw [if_pos hb] at h
        obtain ⟨a1, a2⟩ := h1 u m (growT m t u).1 (by rw [← hb])
        obtain ⟨b1, b2⟩ := h2 us _ m' (by simpa using hl) h
        exact ⟨a1.trans b1, fun σ hσ => by rw [subL, a2 σ (hσ.of b1), b2 σ hσ]⟩
      · rw [if_neg hb] at h
        simp at h
theorem grow_complete (σ : Int → Tm) (p : Tm) : ∀ (m : List (Int × Tm)), Ext m σ → (growT m p (subT σ p)).2 = true ∧ Ext (growT m p (subT σ p)).1 σ := by
  refine Tm.rec (motive_1 := fun p => ∀ (m : List (Int × Tm)), Ext m σ → (growT m p (subT σ p)).2 = true ∧ Ext (growT m p (subT σ p)).1 σ)
    (motive_2 := fun l => ∀ (m : List (Int × Tm)), Ext m σ → (growL m l (subL σ l)).2 = true ∧ Ext (growL m l (subL σ l)).1 σ) ?_ ?_ ?_ p
  · intro v f l ih m hm
    rw [growT]
    by_cases hv : 0 < v
    · rw [if_pos hv, subT, if_pos hv]
      cases hg : mget m v with
      | some u => exact ⟨(eqT_iff _ _).2 (hm v u hg).symm, hm⟩
      | none =>
        refine ⟨rfl, fun v' u' h => ?_⟩
        cases hg2 : mget m v' with
        | some u2 => rw [mget_prefix hg2] at h; injection h with h; subst h; exact hm v' _ hg2
        | none =>
          rw [mget_append hg2, mget] at h
          by_cases e : v = v'
          · rw [if_pos e] at h; injection h with h; rw [← e]; exact h
          · rw [if_neg e] at h; cases h
    · rw [if_neg hv, subT, if_neg hv, if_pos ⟨rfl, rfl, (subL_len σ l).symm⟩]
      exact ih m hm
  · intro m hm
    rw [subL, growL]
    exact ⟨rfl, hm⟩
  · intro t ts h1 h2 m hm
    obtain ⟨a, b⟩ := h1 m hm
    rw [subL, growL, if_pos a]
    exact h2 _ b

/-- A literal put in is one of d. -/
def Hits (σ : Int → Tm) (l : Li) (d : List Li) : Prop := ∃ x ∈ d, x.f0 = l.f0 ∧ ((subT σ l.f1 = x.f1 ∧ subT σ l.f2 = x.f2) ∨ (subT σ l.f1 = x.f2 ∧ subT σ l.f2 = x.f1))
theorem covR_iff {m : List (Int × Tm)} {l y : Li} {R : List (Int × Tm) → Bool} : covR m l R y = true ↔ y.f0 = l.f0 ∧ (growT m l.f1 y.f1).2 = true ∧ (growT (growT m l.f1 y.f1).1 l.f2 y.f2).2 = true ∧ R (growT (growT m l.f1 y.f1).1 l.f2 y.f2).1 = true := by
  unfold covR covQ
  simp only [Bool.and_eq_true, beq_iff_eq]
theorem cov_sound (d : List Li) : ∀ (cl : List Li) (m : List (Int × Tm)), covB cl d m = true → ∃ m', Inc m m' ∧ ∀ σ, Ext m' σ → ∀ l ∈ cl, Hits σ l d
  | [], m, _ => ⟨m, Inc.refl _, fun _ _ l hl => by cases hl⟩
  | l :: ls, m, h => by
    rw [covB_cons, List.any_eq_true] at h
    obtain ⟨x, hx, h⟩ := h
    have key : ∀ y, (y = x ∨ y = turnL x) → covR m l (covB ls d) y = true → ∃ m', Inc m m' ∧ ∀ σ, Ext m' σ → ∀ l' ∈ l :: ls, Hits σ l' d := by
      intro y hy hc
      obtain ⟨c0, c1, c2, c3⟩ := covR_iff.1 hc
      obtain ⟨a1, a2⟩ := grow_sound l.f1 y.f1 m _ (Prod.ext rfl c1)
      obtain ⟨b1, b2⟩ := grow_sound l.f2 y.f2 _ _ (Prod.ext rfl c2)
      obtain ⟨m', i, hm'⟩ := cov_sound d ls _ c3
      refine ⟨m', (a1.trans b1).trans i, fun σ hσ l' hl' => ?_⟩
      cases hl' with
      | head =>
        have e1 := a2 σ ((hσ.of i).of b1)
        have e2 := b2 σ (hσ.of i)
        rcases hy with rfl | rfl
        · exact ⟨y, hx, c0, .inl ⟨e1, e2⟩⟩
        · exact ⟨x, hx, c0, .inr ⟨e1, e2⟩⟩
      | tail _ hl' => exact hm' σ hσ l' hl'
    simp only [List.any_cons, List.any_nil, Bool.or_false, Bool.or_eq_true] at h
    rcases h with h | h
    · exact key _ (.inl rfl) h
    · exact key _ (.inr rfl) h
theorem cov_complete (σ : Int → Tm) (d : List Li) : ∀ (cl : List Li) (m : List (Int × Tm)), Ext m σ → (∀ l ∈ cl, Hits σ l d) → covB cl d m = true
  | [], m, _, _ => by rw [covB]
  | l :: ls, m, hm, h => by
    obtain ⟨x, hx, h0, h1⟩ := h l (by simp)
    rw [covB_cons, List.any_eq_true]
    refine ⟨x, hx, ?_⟩
    have key : ∀ y : Li, y.f0 = l.f0 → subT σ l.f1 = y.f1 → subT σ l.f2 = y.f2 → covR m l (covB ls d) y = true := by
      intro y e0 e1 e2
      rw [covR_iff, ← e1, ← e2]
      obtain ⟨a1, a2⟩ := grow_complete σ l.f1 m hm
      obtain ⟨b1, b2⟩ := grow_complete σ l.f2 _ a2
      exact ⟨e0, a1, b1, cov_complete σ d ls _ b2 (fun l' hl' => h l' (by simp [hl']))⟩
    simp only [List.any_cons, List.any_nil, Bool.or_false, Bool.or_eq_true]
    rcases h1 with ⟨e1, e2⟩ | ⟨e1, e2⟩
    · exact .inl (key x h0 e1 e2)
    · exact .inr (key (turnL x) h0 e1 e2)
theorem ext_nil (σ : Int → Tm) : Ext [] σ := fun _ _ h => by cases h
theorem cov_iff (c d : List Li) : covB c d [] = true ↔ ∃ σ, ∀ l ∈ c, Hits σ l d := by
  constructor
  · intro h
    obtain ⟨m', _, hm⟩ := cov_sound d c [] h
    exact ⟨fun v => (mget m' v).getD zTm, hm _ (fun v u e => by show (mget m' v).getD zTm = u; rw [e]; rfl)⟩
  · rintro ⟨σ, h⟩
    exact cov_complete σ d c [] (ext_nil σ) h
theorem cov_trans {a b c : List Li} (h1 : covB a b [] = true) (h2 : covB b c [] = true) : covB a c [] = true := by
  rw [cov_iff] at *
  obtain ⟨σ, hσ⟩ := h1
  obtain ⟨τ, hτ⟩ := h2
  refine ⟨fun v => subT τ (σ v), fun l hl => ?_⟩
  obtain ⟨x, hx, e0, e⟩ := hσ l hl
  obtain ⟨y, hy, f0, f⟩ := hτ x hx
  refine ⟨y, hy, f0.trans e0, ?_⟩
  rw [← subT_comp, ← subT_comp]
  rcases e with ⟨p, q⟩ | ⟨p, q⟩ <;> rw [p, q]
  · exact f
  · exact f.symm.imp (fun h => ⟨h.2, h.1⟩) (fun h => ⟨h.2, h.1⟩)
def idS (v : Int) : Tm := ⟨v, 0, []⟩
theorem sub_id (g : List Int) (t : Tm) : formE g t = 0 → subT idS t = t := by
  refine Tm.rec (motive_1 := fun t => formE g t = 0 → subT idS t = t) (motive_2 := fun l => formEL g l = 0 → subL idS l = l) ?_ ?_ ?_ t
  · intro v f l ih hf
    have hp := formE_parts hf
    rw [formE, if_neg (by simpa using hp.1)] at hf
    rw [subT]
    by_cases hv : 0 < v
    · rw [if_pos hv]
      unfold partE at hf
      rw [if_pos (show v ≠ 0 by omega)] at hf
      split at hf
      · split at hf
        · rename_i h; have hl0 : l = [] := List.length_eq_zero_iff.1 h.1; have hf0 : f = 0 := h.2; subst hl0; subst hf0; rfl
        · cases hf
      · cases hf
    · have h0 : v = 0 := by have h2 : 0 ≤ v := hp.2; omega
      rw [if_neg hv, ih hp.1, h0]
  · intro _; rw [subL]
  · intro t ts h1 h2 hf
    rw [formEL] at hf
    by_cases hl : formE g t = 0
    · rw [if_neg (by simpa using hl)] at hf
      rw [subL, h1 hl, h2 hf]
    · rw [if_pos hl] at hf; exact absurd hf hl
theorem cov_refl {g : List Int} {c : List Li} (h : ∀ t ∈ tmsL c, formE g t = 0) : covB c c [] = true := by
  rw [cov_iff]
  refine ⟨idS, fun l hl => ⟨l, hl, rfl, .inl ?_⟩⟩
  have h2 := tms_mem1 hl
  exact ⟨sub_id g _ (h _ h2.1), sub_id g _ (h _ h2.2)⟩
end Go.Proofs.Ytcgnpmjkeifokaa
-- KTid
/- Tidied twice is tidied once, and what is tidied is right; plain laws. -/
namespace Go.Proofs.Ytcgnpmjkeifokaa
open Go.RowKit Go.Proofs.YtcgnpmjkeifokaaW.PrintWords
set_option linter.unusedVariables false
set_option linter.unusedSimpArgs false

theorem nodup_bound : ∀ (n : Nat) (l : List Int), l.Nodup → (∀ x ∈ l, 1 ≤ x ∧ x ≤ n) → l.length ≤ n
  | 0, l, _, h => by
    cases l with
    | nil => exact Nat.le_refl _
    | cons a l => have := h a (by simp); omega
  | n + 1, l, hn, h => by
    by_cases hm : ((n : Int) + 1) ∈ l
    · have h1 := nodup_bound n (l.erase ((n : Int) + 1)) (hn.erase _) (fun x hx => by
        rw [hn.mem_erase_iff] at hx
        have := h x hx.2
        have := hx.1
        omega)
      rw [List.length_erase, if_pos hm] at h1
      omega
    · have := nodup_bound n l hn (fun x hx => by
        have h2 := h x hx
        have : x ≠ (n : Int) + 1 := fun e => hm (e ▸ hx)
        omega)
      omega
/-! ### terms whose variables are among vs, and that are right -/
mutual
def inV (vs : List Int) : Tm → Prop
  | ⟨v, f, l⟩ => (v ≠ 0 → (v ∈ vs ∧ 0 < v ∧ f = 0 ∧ l = [])) ∧ inVL vs l
def inVL (vs : List Int) : List Tm → Prop
  | [] => True
  | t :: ts => inV vs t ∧ inVL vs ts
end
theorem inVL_mem {vs : List Int} : ∀ {l : List Tm}, inVL vs l ↔ ∀ t ∈ l, inV vs t
  | [] => by rw [inVL]; simp
  | t :: ts => by rw [inVL, inVL_mem]; simp
/-- The number of a variable. -/
def ren (m : List (Int × Tm)) (v : Int) : Int := (mgetT m v).f0
/-- m numbers vs. -/
structure Num (m : List (Int × Tm)) (vs : List Int) : Prop where
  get : ∀ v ∈ vs, mget m v = some ⟨ren m v, 0, []⟩
  pos : ∀ v ∈ vs, 1 ≤ ren m v ∧ ren m v ≤ vs.length
  inj : ∀ v ∈ vs, ∀ u ∈ vs, ren m v = ren m u → v = u
theorem app_inV {m : List (Int × Tm)} {vs : List Int} (hN : Num m vs) {v : Int} (hv : v ∈ vs) (h0 : 0 < v) : appT m ⟨v, 0, []⟩ = ⟨ren m v, 0, []⟩ := by
  rw [appT, if_pos h0, hN.get v hv]; rfl
theorem app_sz {m : List (Int × Tm)} {vs : List Int} (hN : Num m vs) (t : Tm) : inV vs t → szT (appT m t) = szT t := by
  refine Tm.rec (motive_1 := fun t => inV vs t → szT (appT m t) = szT t) (motive_2 := fun l => inVL vs l → szL (appL m l) = szL l) ?_ ?_ ?_ t
  · intro v f l ih h
    rw [inV] at h
    by_cases hv : v = 0
    · rw [appT, if_neg (by omega), szT, szT, ih h.2]
    · obtain ⟨h1, h2, rfl, rfl⟩ := h.1 hv
      rw [app_inV hN h1 h2]
      rfl
  · intro _; rw [appL]
  · intro t ts h1 h2 h
    rw [inVL] at h
    rw [appL, szL, szL, h1 h.1, h2 h.2]
theorem app_form {g : List Int} {m : List (Int × Tm)} {vs : List Int} (hN : Num m vs) (hl : vs.length ≤ 1000) (t : Tm) : inV vs t → formE g t = 0 → formE g (appT m t) = 0 := by
  refine Tm.rec (motive_1 := fun t => inV vs t → formE g t = 0 → formE g (appT m t) = 0) (motive_2 := fun l => inVL vs l → formEL g l = 0 → formEL g (appL m l) = 0) ?_ ?_ ?_ t
  · intro v f l ih h hf
    rw [inV] at h
    by_cases hv : v = 0
    · subst hv
      have hp := formE_parts hf
      rw [formE, if_neg (by simpa using hp.1)] at hf
      rw [appT, if_neg (by omega), formE, ih h.2 hp.1]
      unfold partE at hf ⊢
      simp only [appL_len]
      exact hf
    · obtain ⟨h1, h2, rfl, rfl⟩ := h.1 hv
      rw [app_inV hN h1 h2]
      have := hN.pos v h1
      rw [formE, formEL]
      unfold partE
      simp only [ne_eq, not_true_eq_false, if_false, List.length_nil]
      rw [if_pos (show ren m v ≠ 0 by omega), if_pos ⟨this.1, by omega⟩]
      simp
  · intro _ _; rw [appL, formEL]
  · intro t ts h1 h2 h hf
    rw [inVL] at h
    rw [formEL] at hf
    by_cases hl : formE g t = 0
    · rw [if_neg (by simpa using hl)] at hf
      rw [appL, formEL, h1 h.1 hl, h2 h.2 hf]; simp
    · rw [if_pos hl] at hf; exact absurd hf hl
theorem app_inj {m : List (Int × Tm)} {vs : List Int} (hN : Num m vs) (t : Tm) : ∀ u, inV vs t → inV vs u → appT m t = appT m u → t = u := by
  refine Tm.rec (motive_1 := fun t => ∀ u, inV vs t → inV vs u → appT m t = appT m u → t = u) (motive_2 := fun l => ∀ k, inVL vs l → inVL vs k → appL m l = appL m k → l = k) ?_ ?_ ?_ t
  · intro v f l ih u h hu e
    obtain ⟨v', f', l'⟩ := u
    rw [inV] at h hu
    by_cases hv : v = 0
    · by_cases hv' : v' = 0
      · subst hv hv'
        rw [appT, appT, if_neg (by omega), if_neg (by omega)] at e
        injection e with e1 e2 e3
        rw [e2, ih l' h.2 hu.2 e3]
      · obtain ⟨h1, h2, rfl, rfl⟩ := hu.1 hv'
        subst hv
        rw [app_inV hN h1 h2, appT, if_neg (by omega)] at e
        injection e with e1
        have := hN.pos v' h1
        omega
    · obtain ⟨h1, h2, rfl, rfl⟩ := h.1 hv
      rw [app_inV hN h1 h2] at e
      by_cases hv' : v' = 0
      · subst hv'
        rw [appT, if_neg (by omega)] at e
        injection e with e1
        have := hN.pos v h1
        omega
      · obtain ⟨h1', h2', rfl, rfl⟩ := hu.1 hv'
        rw [app_inV hN h1' h2'] at e
        injection e with e1
        rw [hN.inj v h1 v' h1' e1]
  · intro k _ hk e
    cases k with
    | nil => rfl
    | cons a b => simp [appL] at e
  · intro t ts h1 h2 k h hk e
    cases k with
    | nil => simp [appL] at e
    | cons a b =>
      rw [inVL] at h hk
      rw [appL, appL] at e
      injection e with e1 e2
      rw [h1 a h.1 hk.1 e1, h2 b h.2 hk.2 e2]
theorem app_eqT {m : List (Int × Tm)} {vs : List Int} (hN : Num m vs) {t u : Tm} (ht : inV vs t) (hu : inV vs u) : eqT (appT m t) (appT m u) = eqT t u := by
  rw [Bool.eq_iff_iff, eqT_iff, eqT_iff]
  exact ⟨app_inj hN t u ht hu, fun e => by rw [e]⟩
/-! ### what stays, stays -/
def NoDrop (c : List Li) : Prop := ∀ k, k < c.length → dropB (c.take k) (rd_Li c k) = false
theorem NoDrop.kpt {c : List Li} (h : NoDrop c) : ∀ k, k ≤ c.length → kpt c k = c.take k
  | 0, _ => rfl
  | k + 1, hk => by
    rw [kpt_f (h k (by omega)), NoDrop.kpt h k (by omega), List.take_succ_eq_append_getElem (by omega), rdLi_get c k (by omega)]
theorem NoDrop.all {c : List Li} (h : NoDrop c) : Go.Proofs.Ytcgnpmjkeifokaa.kpt c c.length = c := by rw [h.kpt c.length (Nat.le_refl _), List.take_length]
theorem NoDrop.push {c : List Li} {l : Li} (h : NoDrop c) (hl : dropB c l = false) : NoDrop (c ++ [l]) := by
  intro k hk
  rw [List.length_append, List.length_singleton] at hk
  by_cases hkc : k < c.length
  · have := h k hkc
    rw [rdLi_get _ _ (by simp; omega), List.take_append_of_le_length (by omega), List.getElem_append_left hkc]
    rwa [rdLi_get _ _ hkc] at this
  · obtain rfl : k = c.length := by omega
    rw [rdLi_get _ _ (by simp), List.take_left']
    · simpa using hl
    · rfl
theorem kpt_nodrop (c : List Li) : ∀ k, k ≤ c.length → NoDrop (kpt c k)
  | 0, _ => fun k hk => by simp [kpt] at hk
  | k + 1, hk => by
    have ih := kpt_nodrop c k (by omega)
    cases hd : dropB (c.take k) (rd_Li c k) with
    | true => rw [kpt_t hd]; exact ih
    | false =>
      rw [kpt_f hd]
      refine ih.push ?_
      unfold dropB at hd ⊢
      rw [Bool.or_eq_false_iff] at hd ⊢
      refine ⟨hd.1, ?_⟩
      rw [Bool.eq_false_iff]
      intro h
      obtain ⟨y, hy, hq⟩ := List.any_eq_true.1 h
      have hy2 := (nkp_kpt c k (by omega)).2.2 y hy
      have : (c.take k).any (dupQ (rd_Li c k)) = true := List.any_eq_true.2 ⟨y, hy2, hq⟩
      rw [this] at hd
      exact absurd hd.2 (by simp)
def inC (vs : List Int) (c : List Li) : Prop := ∀ l ∈ c, inV vs l.f1 ∧ inV vs l.f2
theorem app_dup {m : List (Int × Tm)} {vs : List Int} (hN : Num m vs) {x l : Li} (hx : inV vs x.f1 ∧ inV vs x.f2) (hl : inV vs l.f1 ∧ inV vs l.f2) : dupQ ⟨l.f0, appT m l.f1, appT m l.f2⟩ ⟨x.f0, appT m x.f1, appT m x.f2⟩ = dupQ l x := by
  unfold dupQ sidesB
  simp only
  rw [app_eqT hN hx.1 hl.1, app_eqT hN hx.2 hl.2, app_eqT hN hx.1 hl.2, app_eqT hN hx.2 hl.1]
theorem app_nodrop {m : List (Int × Tm)} {vs : List Int} (hN : Num m vs) {c : List Li} (hc : inC vs c) (h : NoDrop c) : NoDrop (appC m c) := by
  intro k hk
  rw [appC_len] at hk
  have h1 := h k hk
  have hm : c[k] ∈ c := List.getElem_mem hk
  rw [rdLi_get _ _ hk] at h1
  have e1 : rd_Li (appC m c) k = ⟨c[k].f0, appT m c[k].f1, appT m c[k].f2⟩ := by rw [rdLi_get _ _ (by rw [appC_len]; exact hk)]; simp [appC]
  have e2 : (appC m c).take k = (c.take k).map (fun l => ⟨l.f0, appT m l.f1, appT m l.f2⟩) := by unfold appC; rw [List.map_take]
  rw [e1, e2]
  unfold dropB at h1 ⊢
  rw [Bool.or_eq_false_iff] at h1 ⊢
  refine ⟨?_, ?_⟩
  · have := h1.1
    unfold trivN at this ⊢
    simp only
    rwa [app_eqT hN (hc _ hm).1 (hc _ hm).2]
  · rw [Bool.eq_false_iff]
    intro hq
    obtain ⟨y, hy, hq⟩ := List.any_eq_true.1 hq
    obtain ⟨x, hx, rfl⟩ := List.mem_map.1 hy
    rw [app_dup hN (hc x (List.mem_of_mem_take hx)) (hc _ hm)] at hq
    have : (c.take k).any (dupQ c[k]) = true := List.any_eq_true.2 ⟨x, hx, hq⟩
    rw [this] at h1
    exact absurd h1.2 (by simp)
end Go.Proofs.Ytcgnpmjkeifokaa
-- KTie
/- Tidied twice is tidied once: the variables' numbers; plain laws. -/
namespace Go.Proofs.Ytcgnpmjkeifokaa
open Go.RowKit Go.Proofs.YtcgnpmjkeifokaaW.PrintWords
set_option linter.unusedVariables false
set_option linter.unusedSimpArgs false

theorem numK_get {vs : List Int} (hn : vs.Nodup) : ∀ (k : Nat), k ≤ vs.length → ∀ j (hj : j < k) (hl : j < vs.length), mget (bds (numK vs k)) vs[j] = some ⟨(j : Int) + 1, 0, []⟩
  | 0, _, j, hj, _ => by omega
  | k + 1, hk, j, hj, hl => by
    rw [numK, bds_append]
    by_cases h : j < k
    · exact mget_prefix (numK_get hn k (by omega) j h hl)
    · obtain rfl : j = k := by omega
      have e : vs.getD j 0 = vs[j] := by simp [List.getD_eq_getElem?_getD, hl]
      have h1 := numK_new hn hl
      rw [e] at h1
      rw [mget_append h1, bds_one, mget, if_pos e]
theorem num_at {vs : List Int} (hn : vs.Nodup) (j : Nat) (hj : j < vs.length) : mget (bds (numB vs)) vs[j] = some ⟨(j : Int) + 1, 0, []⟩ := numK_get hn vs.length (Nat.le_refl _) j hj hj
theorem ren_at {vs : List Int} (hn : vs.Nodup) (j : Nat) (hj : j < vs.length) : ren (bds (numB vs)) vs[j] = (j : Int) + 1 := by
  unfold ren mgetT
  rw [num_at hn j hj]; rfl
theorem num_ok {vs : List Int} (hn : vs.Nodup) : Num (bds (numB vs)) vs where
  get := fun v hv => by
    obtain ⟨j, hj, rfl⟩ := List.getElem_of_mem hv
    rw [num_at hn j hj, ren_at hn j hj]
  pos := fun v hv => by
    obtain ⟨j, hj, rfl⟩ := List.getElem_of_mem hv
    rw [ren_at hn j hj]; omega
  inj := fun v hv u hu e => by
    obtain ⟨j, hj, rfl⟩ := List.getElem_of_mem hv
    obtain ⟨i, hi, rfl⟩ := List.getElem_of_mem hu
    rw [ren_at hn j hj, ren_at hn i hi] at e
    obtain rfl : j = i := by omega
    rfl
/-! ### the variables of what is put in -/
theorem pts_inV {vs : List Int} (t : Tm) : inV vs t → ∀ y ∈ ptsT t, inV vs y := by
  refine Tm.rec (motive_1 := fun t => inV vs t → ∀ y ∈ ptsT t, inV vs y) (motive_2 := fun l => inVL vs l → ∀ y ∈ ptsL l, inV vs y) ?_ ?_ ?_ t
  · intro v f l ih h y hy
    rw [ptsT, List.mem_append] at hy
    rcases hy with hy | hy
    · rw [inV] at h; exact ih h.2 y hy
    · obtain rfl : y = ⟨v, f, l⟩ := by simpa using hy
      exact h
  · intro _ y hy; rw [ptsL] at hy; cases hy
  · intro t ts h1 h2 h y hy
    rw [inVL] at h
    rw [ptsL, List.mem_append] at hy
    rcases hy with hy | hy
    · exact h1 h.1 y hy
    · exact h2 h.2 y hy
theorem pts_app {m : List (Int × Tm)} {vs : List Int} (hN : Num m vs) (t : Tm) : inV vs t → ptsT (appT m t) = (ptsT t).map (appT m) := by
  refine Tm.rec (motive_1 := fun t => inV vs t → ptsT (appT m t) = (ptsT t).map (appT m)) (motive_2 := fun l => inVL vs l → ptsL (appL m l) = (ptsL l).map (appT m)) ?_ ?_ ?_ t
  · intro v f l ih h
    have h0 := h
    rw [inV] at h
    by_cases hv : v = 0
    · subst hv
      rw [ptsT, List.map_append, ← ih h.2]
      rw [show List.map (appT m) [⟨0, f, l⟩] = [appT m ⟨0, f, l⟩] from rfl]
      rw [appT, if_neg (by omega), ptsT]
    · obtain ⟨h1, h2, rfl, rfl⟩ := h.1 hv
      rw [app_inV hN h1 h2, ptsT, ptsT, ptsL]
      show [_] = [appT m _]
      rw [app_inV hN h1 h2]
  · intro _; rw [appL, ptsL]; rfl
  · intro t ts h1 h2 h
    rw [inVL] at h
    rw [appL, ptsL, ptsL, List.map_append, h1 h.1, h2 h.2]
theorem fvP_app {m : List (Int × Tm)} {vs : List Int} (hN : Num m vs) : ∀ (P : List Tm) (s : List Int), (∀ x ∈ P, inV vs x) → (∀ v ∈ s, v ∈ vs) → fvP (s.map (ren m)) (P.map (appT m)) = (fvP s P).map (ren m) ∧ ∀ v ∈ fvP s P, v ∈ vs
  | [], s, _, hs => ⟨rfl, hs⟩
  | x :: P, s, hP, hs => by
    have e1 : ∀ s, fvP s (x :: P) = fvP (stepV s x) P := fun _ => rfl
    have e2 : fvP (s.map (ren m)) ((x :: P).map (appT m)) = fvP (stepV (s.map (ren m)) (appT m x)) (P.map (appT m)) := rfl
    have hx := hP x (by simp)
    have key : stepV (s.map (ren m)) (appT m x) = (stepV s x).map (ren m) ∧ ∀ v ∈ stepV s x, v ∈ vs := by
      obtain ⟨v, f, l⟩ := x
      rw [inV] at hx
      by_cases hv : v = 0
      · subst hv
        rw [appT, if_neg (by omega)]
        unfold stepV
        simp only [Int.lt_irrefl, false_and, if_false]
        exact ⟨trivial, hs⟩
      · obtain ⟨h1, h2, rfl, rfl⟩ := hx.1 hv
        rw [app_inV hN h1 h2]
        have hp := hN.pos v h1
        have hh : hasB (s.map (ren m)) (ren m v) = hasB s v := by
          rw [Bool.eq_iff_iff, hasB_iff, hasB_iff, List.mem_map]
          constructor
          · rintro ⟨u, hu, e⟩
            rw [← hN.inj u (hs u hu) v h1 e]; exact hu
          · intro h; exact ⟨v, h, rfl⟩
        unfold stepV
        simp only [hh]
        by_cases hb : hasB s v = false
        · rw [if_pos ⟨by omega, hb⟩, if_pos ⟨h2, hb⟩]
          refine ⟨by simp, fun u hu => ?_⟩
          rw [List.mem_append] at hu
          rcases hu with hu | hu
          · exact hs u hu
          · obtain rfl : u = v := by simpa using hu
            exact h1
        · rw [if_neg (fun h => hb h.2), if_neg (fun h => hb h.2)]
          exact ⟨rfl, hs⟩
    rw [e1, e2, key.1]
    exact fvP_app hN P _ (fun y hy => hP y (by simp [hy])) key.2
theorem fvL_app {m : List (Int × Tm)} {vs : List Int} (hN : Num m vs) : ∀ (l : List Tm) (s : List Int), (∀ x ∈ l, inV vs x) → (∀ v ∈ s, v ∈ vs) → fvL (s.map (ren m)) (l.map (appT m)) = (fvL s l).map (ren m)
  | [], s, _, _ => rfl
  | t :: ts, s, hl, hs => by
    have ht := hl t (by simp)
    have h := fvP_app hN (ptsT t) s (pts_inV t ht) hs
    rw [List.map_cons, fvL, fvL, pts_app hN t ht, h.1]
    exact fvL_app hN ts _ (fun x hx => hl x (by simp [hx])) h.2
theorem tms_app (m : List (Int × Tm)) (c : List Li) : tmsL (appC m c) = (tmsL c).map (appT m) := by
  induction c with
  | nil => rfl
  | cons l c ih =>
    have e : appC m (l :: c) = ⟨l.f0, appT m l.f1, appT m l.f2⟩ :: appC m c := rfl
    rw [e, tmsL, tmsL, ih]; rfl
/-! ### all variables are told -/
theorem stepV_sub (s : List Int) (x : Tm) : ∀ v ∈ s, v ∈ stepV s x := by
  intro v hv; unfold stepV; split
  · exact List.mem_append.2 (.inl hv)
  · exact hv
theorem stepV_has (s : List Int) (x : Tm) (h : 0 < x.f0) : x.f0 ∈ stepV s x := by
  unfold stepV
  cases hb : hasB s x.f0 with
  | false => rw [if_pos ⟨h, rfl⟩]; simp
  | true => rw [if_neg (by simp)]; exact hasB_iff.1 hb
theorem stepV_from (s : List Int) (x : Tm) : ∀ v ∈ stepV s x, v ∈ s ∨ (v = x.f0 ∧ 0 < v) := by
  intro v hv
  unfold stepV at hv
  split at hv
  · rename_i h
    rw [List.mem_append] at hv
    rcases hv with hv | hv
    · exact .inl hv
    · obtain rfl : v = x.f0 := by simpa using hv
      exact .inr ⟨rfl, h.1⟩
  · exact .inl hv
theorem fvP_sub : ∀ (P : List Tm) (s : List Int), ∀ v ∈ s, v ∈ fvP s P
  | [], _, v, hv => hv
  | x :: P, s, v, hv => fvP_sub P (stepV s x) v (stepV_sub s x v hv)
theorem fvP_has : ∀ (P : List Tm) (s : List Int), ∀ x ∈ P, 0 < x.f0 → x.f0 ∈ fvP s P
  | y :: P, s, x, hx, h => by
    have e : fvP s (y :: P) = fvP (stepV s y) P := rfl
    rw [e]
    cases hx with
    | head => exact fvP_sub P _ _ (stepV_has s _ h)
    | tail _ hx => exact fvP_has P _ x hx h
theorem fvP_from : ∀ (P : List Tm) (s : List Int), ∀ v ∈ fvP s P, v ∈ s ∨ ∃ x ∈ P, v = x.f0 ∧ 0 < v
  | [], _, v, hv => .inl hv
  | x :: P, s, v, hv => by
    rcases fvP_from P (stepV s x) v hv with h | ⟨y, hy, h⟩
    · rcases stepV_from s x v h with h | h
      · exact .inl h
      · exact .inr ⟨x, by simp, h⟩
    · exact .inr ⟨y, by simp [hy], h⟩
theorem fvL_sub : ∀ (l : List Tm) (s : List Int), ∀ v ∈ s, v ∈ fvL s l
  | [], _, v, hv => hv
  | t :: ts, s, v, hv => by rw [fvL]; exact fvL_sub ts _ v (fvP_sub _ s v hv)
theorem fvL_has : ∀ (l : List Tm) (s : List Int), ∀ t ∈ l, ∀ x ∈ ptsT t, 0 < x.f0 → x.f0 ∈ fvL s l
  | u :: ts, s, t, ht, x, hx, h => by
    rw [fvL]
    cases ht with
    | head => exact fvL_sub ts _ _ (fvP_has _ s x hx h)
    | tail _ ht => exact fvL_has ts _ t ht x hx h
theorem fvL_from : ∀ (l : List Tm) (s : List Int), ∀ v ∈ fvL s l, v ∈ s ∨ ∃ t ∈ l, ∃ x ∈ ptsT t, v = x.f0 ∧ 0 < v
  | [], _, v, hv => .inl hv
  | t :: ts, s, v, hv => by
    rw [fvL] at hv
    rcases fvL_from ts _ v hv with h | ⟨u, hu, x, hx, h⟩
    · rcases fvP_from _ s v h with h | ⟨x, hx, h⟩
      · exact .inl h
      · exact .inr ⟨t, by simp, x, hx, h⟩
    · exact .inr ⟨u, by simp [hu], x, hx, h⟩
theorem form_part {g : List Int} (t : Tm) : formE g t = 0 → ∀ x ∈ ptsT t, formE g x = 0 := by
  refine Tm.rec (motive_1 := fun t => formE g t = 0 → ∀ x ∈ ptsT t, formE g x = 0) (motive_2 := fun l => formEL g l = 0 → ∀ x ∈ ptsL l, formE g x = 0) ?_ ?_ ?_ t
  · intro v f l ih h x hx
    rw [ptsT, List.mem_append] at hx
    rcases hx with hx | hx
    · exact ih (formE_parts h).1 x hx
    · obtain rfl : x = ⟨v, f, l⟩ := by simpa using hx
      exact h
  · intro _ x hx; rw [ptsL] at hx; cases hx
  · intro t ts h1 h2 h x hx
    rw [formEL] at h
    by_cases hl : formE g t = 0
    · rw [if_neg (by simpa using hl)] at h
      rw [ptsL, List.mem_append] at hx
      rcases hx with hx | hx
      · exact h1 hl x hx
      · exact h2 h x hx
    · rw [if_pos hl] at h; exact absurd h hl
/-- A variable that is right. -/
theorem form_var {g : List Int} {t : Tm} (h : formE g t = 0) (hv : t.f0 ≠ 0) : 1 ≤ t.f0 ∧ t.f0 ≤ 1000 ∧ t.f1 = 0 ∧ t.f2 = [] := by
  have hp := formE_parts h
  rw [formE_eq, if_neg (by simpa using hp.1)] at h
  unfold partE at h
  rw [if_pos hv] at h
  by_cases h1 : 1 ≤ t.f0 ∧ t.f0 ≤ 1000
  · rw [if_pos h1] at h
    by_cases h2 : t.f2.length = 0 ∧ t.f1 = 0
    · exact ⟨h1.1, h1.2, h2.2, List.length_eq_zero_iff.1 h2.1⟩
    · rw [if_neg h2] at h; cases h
  · rw [if_neg h1] at h; cases h
theorem inV_of {g : List Int} {vs : List Int} (t : Tm) : formE g t = 0 → (∀ x ∈ ptsT t, 0 < x.f0 → x.f0 ∈ vs) → inV vs t := by
  refine Tm.rec (motive_1 := fun t => formE g t = 0 → (∀ x ∈ ptsT t, 0 < x.f0 → x.f0 ∈ vs) → inV vs t) (motive_2 := fun l => formEL g l = 0 → (∀ x ∈ ptsL l, 0 < x.f0 → x.f0 ∈ vs) → inVL vs l) ?_ ?_ ?_ t
  · intro v f l ih h hx
    rw [inV]
    refine ⟨fun hv => ?_, ih (formE_parts h).1 (fun x hy => hx x (by rw [ptsT]; exact List.mem_append.2 (.inl hy)))⟩
    obtain ⟨a, _, c, d⟩ := form_var h hv
    have a' : 0 < v := by have : 1 ≤ v := a; omega
    exact ⟨hx ⟨v, f, l⟩ (by rw [ptsT]; simp) a', a', c, d⟩
  · intro _ _; rw [inVL]; trivial
  · intro t ts h1 h2 h hx
    rw [formEL] at h
    by_cases hl : formE g t = 0
    · rw [if_neg (by simpa using hl)] at h
      rw [inVL]
      exact ⟨h1 hl (fun x hy => hx x (by rw [ptsL]; exact List.mem_append.2 (.inl hy))), h2 h (fun x hy => hx x (by rw [ptsL]; exact List.mem_append.2 (.inr hy)))⟩
    · rw [if_pos hl] at h; exact absurd h hl
theorem app_id {m : List (Int × Tm)} {vs : List Int} (hm : ∀ v ∈ vs, mget m v = some ⟨v, 0, []⟩) (t : Tm) : inV vs t → appT m t = t := by
  refine Tm.rec (motive_1 := fun t => inV vs t → appT m t = t) (motive_2 := fun l => inVL vs l → appL m l = l) ?_ ?_ ?_ t
  · intro v f l ih h
    rw [inV] at h
    by_cases hv : v = 0
    · subst hv
      rw [appT, if_neg (by omega), ih h.2]
    · obtain ⟨h1, h2, rfl, rfl⟩ := h.1 hv
      rw [appT, if_pos h2, hm v h1]; rfl
  · intro _; rw [appL]
  · intro t ts h1 h2 h
    rw [inVL] at h
    rw [appL, h1 h.1, h2 h.2]

/-- Tidied twice is tidied once; and what is tidied is right. -/
theorem tidy_fix {g : List Int} {a : List Li} (h0 : chkCs g [a] = 0) : chkCs g [tidyL a] = 0 ∧ tidyL (tidyL a) = tidyL a := by
  have hk := chkCs_ok h0 a (by simp)
  have hf : ∀ t ∈ tmsL (kpt a a.length), formE g t = 0 := fun t ht => okC_tms hk.2 t (tms_kpt ht)
  have hs : ∀ l ∈ kpt a a.length, okT g l.f1 ∧ okT g l.f2 := fun l hl => hk.2 l (kpt_mem hl)
  have hlen : (kpt a a.length).length ≤ 8 := Nat.le_trans (kpt_len a a.length) hk.1
  have hnd := kpt_nodrop a a.length (Nat.le_refl _)
  have hT : tidyL a = tidyK (kpt a a.length) := rfl
  generalize kpt a a.length = s at *
  have hV : ∀ t ∈ tmsL s, inV (fvL [] (tmsL s)) t := fun t ht => inV_of t (hf t ht) (fun x hx hp => fvL_has _ [] t ht x hx hp)
  have hn : (fvL [] (tmsL s)).Nodup := fvL_nodup _ _ List.nodup_nil
  have hb : ∀ v ∈ fvL [] (tmsL s), 1 ≤ v ∧ v ≤ (1000 : Nat) := by
    intro v hv
    rcases fvL_from _ [] v hv with h | ⟨t, ht, x, hx, rfl, hp⟩
    · cases h
    · have := form_var (form_part t (hf t ht) x hx) (by omega)
      omega
  have hl : (fvL [] (tmsL s)).length ≤ 1000 := nodup_bound 1000 _ hn hb
  have hK : tidyK s = appC (bds (numB (fvL [] (tmsL s)))) s := rfl
  generalize hvs : fvL [] (tmsL s) = vs at *
  have hN := num_ok hn
  generalize hm : bds (numB vs) = m at *
  have hC : inC vs s := fun l hl => ⟨hV _ (tms_mem1 hl).1, hV _ (tms_mem1 hl).2⟩
  have hfv : fvL [] (tmsL (appC m s)) = vs.map (ren m) := by
    rw [tms_app]
    have := fvL_app hN (tmsL s) [] hV (fun v hv => by cases hv)
    rw [hvs] at this
    exact this
  rw [hT, hK]
  constructor
  · have hlc : (appC m s).length ≤ 8 := by rw [appC_len]; exact hlen
    have hsg : sigE g = 0 := by
      unfold chkCs at h0
      by_cases h1 : sigE g = 0
      · exact h1
      · rw [if_pos h1] at h0; exact absurd h0 h1
    unfold chkCs
    rw [if_neg (by simpa using hsg), if_neg (by simp)]
    refine fe_of (fun c hc => ?_)
    obtain rfl : c = appC m s := by simpa using hc
    unfold chkC
    rw [if_neg (by omega)]
    refine fe_of (fun l hl2 => ?_)
    unfold appC at hl2
    obtain ⟨x, hx, rfl⟩ := List.mem_map.1 hl2
    have h1 : ∀ t, inV vs t → okT g t → chkT g (appT m t) = 0 := fun t ht hok => chkT_ok.2 ⟨by rw [app_sz hN t ht]; exact hok.1, app_form hN hl t ht hok.2⟩
    unfold chkLi
    simp only
    rw [h1 _ (hC x hx).1 (hs x hx).1, h1 _ (hC x hx).2 (hs x hx).2]
    simp
  · have hnd2 := app_nodrop hN hC hnd
    have e1 : tidyL (appC m s) = tidyK (appC m s) := by unfold tidyL; rw [hnd2.all]
    rw [e1]
    have e2 : tidyK (appC m s) = appC (bds (numB (fvL [] (tmsL (appC m s))))) (appC m s) := rfl
    rw [e2]
    have hn2 : (fvL [] (tmsL (appC m s))).Nodup := fvL_nodup _ _ List.nodup_nil
    rw [hfv] at hn2 ⊢
    have hid : ∀ v ∈ vs.map (ren m), mget (bds (numB (vs.map (ren m)))) v = some ⟨v, 0, []⟩ := by
      intro v hv
      obtain ⟨j, hj, rfl⟩ := List.getElem_of_mem hv
      rw [num_at hn2 j hj]
      have hj2 : j < vs.length := by simpa using hj
      have : (vs.map (ren m))[j] = (j : Int) + 1 := by
        rw [List.getElem_map]
        subst hm
        exact ren_at hn j hj2
      rw [this]
    have hin : ∀ t, inV vs t → inV (vs.map (ren m)) (appT m t) := by
      intro t
      refine Tm.rec (motive_1 := fun t => inV vs t → inV (vs.map (ren m)) (appT m t)) (motive_2 := fun l => inVL vs l → inVL (vs.map (ren m)) (appL m l)) ?_ ?_ ?_ t
      · intro v f l ih h
        rw [inV] at h
        by_cases hv : v = 0
        · subst hv
          rw [appT, if_neg (by omega), inV]
          exact ⟨fun h => absurd rfl h, ih h.2⟩
        · obtain ⟨h1, h2, rfl, rfl⟩ := h.1 hv
          rw [app_inV hN h1 h2, inV, inVL]
          have := hN.pos v h1
          exact ⟨fun _ => ⟨List.mem_map.2 ⟨v, h1, rfl⟩, by omega, rfl, rfl⟩, trivial⟩
      · intro _; rw [appL, inVL]; trivial
      · intro t ts h1 h2 h
        rw [inVL] at h
        rw [appL, inVL]
        exact ⟨h1 h.1, h2 h.2⟩
    show (appC m s).map _ = appC m s
    have : ∀ l ∈ appC m s, (⟨l.f0, appT (bds (numB (vs.map (ren m)))) l.f1, appT (bds (numB (vs.map (ren m)))) l.f2⟩ : Li) = l := by
      intro l hl2
      unfold appC at hl2
      obtain ⟨x, hx, rfl⟩ := List.mem_map.1 hl2
      simp only
      rw [app_id hid _ (hin _ (hC x hx).1), app_id hid _ (hin _ (hC x hx).2)]
    exact (List.map_congr_left this).trans (List.map_id _)
end Go.Proofs.Ytcgnpmjkeifokaa
-- K61
/- superposelaw.ClauseHangs, its walk. -/
namespace Go.Proofs.Ytcgnpmjkeifokaa
open Go.RowKit Go.Proofs.YtcgnpmjkeifokaaW.PrintWords
set_option linter.unusedVariables false
set_option linter.unusedSimpArgs false

theorem chkCs_two {g : List Int} {a : List Li} (h : chkCs g [a] = 0) : chkCs g [a, a] = 0 := by
  unfold chkCs at *
  by_cases h1 : sigE g = 0
  · rw [if_neg (by simpa using h1), if_neg (by simp)] at h ⊢
    refine fe_of (fun c hc => ?_)
    have : c = a := by simpa using hc
    subst this
    exact fe_mem h c (by simp)
  · rw [if_pos h1] at h; exact absurd h h1
theorem sub_self {g : List Int} {a : List Li} (h : chkCs g [a] = 0) : subB g a a = true := by
  unfold subB
  rw [if_pos (chkCs_two h)]
  exact cov_refl (okC_tms (chkCs_ok h a (by simp)).2)
theorem sub_trans {g : List Int} {a b c : List Li} (h1 : chkCs g [a, b] = 0) (h2 : chkCs g [b, c] = 0) (h3 : chkCs g [a, c] = 0) (k1 : subB g a b = true) (k2 : subB g b c = true) : subB g a c = true := by
  unfold subB at *
  rw [if_pos h1] at k1
  rw [if_pos h2] at k2
  rw [if_pos h3]
  exact cov_trans k1 k2

set_option maxHeartbeats 4000000 in
set_option maxRecDepth 100000 in
theorem clauseHangs_any (g : List Int) (Ag : Option Addr) (cg : Nat) (a : List Li) (Aa : Option Addr) (ca : Nat) (oka : Nat → Prop) (b : List Li) (Ab : Option Addr) (cb : Nat) (okb : Nat → Prop) (c : List Li) (Ac : Option Addr) (cc : Nat) (okc : Nat → Prop) (w : World) (hG : Kd.C (Kd.int .i64) w Ag g.length g) (hA0 : Kd.F kLi w oka Aa a.length a) (ha : a.length ≤ ca) (hB0 : Kd.F kLi w okb Ab b.length b) (hb : b.length ≤ cb) (hC0 : Kd.F kLi w okc Ac c.length c) (hc : c.length ≤ cc) :
    Calls Try.prog 4 #[.agg #[.slice Ag g.length cg], .slice Aa a.length ca, .slice Ab b.length cb, .slice Ac c.length cc] w fun e w' => e = .returned (.bool true) ∧ Below w.heap.size w w' := by
  have HG := Aside0.mk hG
  have HA := Aside0.mk (Kd.F_mono (Kd.F_bound hA0) (ok' := fun k => k < w.heap.size) (fun _ h => h.2))
  have HBb := Aside0.mk (Kd.F_mono (Kd.F_bound hB0) (ok' := fun k => k < w.heap.size) (fun _ h => h.2))
  have HCc := Aside0.mk (Kd.F_mono (Kd.F_bound hC0) (ok' := fun k => k < w.heap.size) (fun _ h => h.2))
  clear hG hA0 hB0 hC0
  have TI : Aside0 (∀ W', Below w.heap.size w W' → Calls Try.prog 11 #[.agg #[.slice Ag g.length cg], .slice Aa a.length ca] W' fun e w' => ∃ A' c', e = .returned (.tuple #[.slice A' (tidR g a).length c', .int .i64 (chkCs g [a])]) ∧ (tidR g a).length ≤ c' ∧ Kd.F kLi w' (fun k => W'.heap.size ≤ k) A' (tidR g a).length (tidR g a) ∧ Below W'.heap.size W' w') := ⟨fun W' hb => tidy_any g Ag cg a Aa ca _ W' (Kd.C_below HG.out hb) (Kd.F_below HA.out hb) ha⟩
  have T2 : Aside0 (chkCs g [a] = 0 → ∀ W' A' c', Below w.heap.size w W' → Kd.F kLi W' (fun _ => True) A' (tidR g a).length (tidR g a) → (tidR g a).length ≤ c' → Calls Try.prog 11 #[.agg #[.slice Ag g.length cg], .slice A' (tidR g a).length c'] W' fun e w' => ∃ A2 c2, e = .returned (.tuple #[.slice A2 (tidR g a).length c2, .int .i64 0]) ∧ Kd.F kLi w' (fun k => W'.heap.size ≤ k) A2 (tidR g a).length (tidR g a) ∧ Below W'.heap.size W' w') := ⟨fun h0 W' A' c' hb hF hc' => by
    have ht : tidR g a = tidyL a := by unfold tidR; rw [if_pos h0]
    have hx := tidy_fix h0
    have h := tidy_any g Ag cg (tidR g a) A' c' _ W' (Kd.C_below HG.out hb) hF hc'
    have e1 : chkCs g [tidR g a] = 0 := by rw [ht]; exact hx.1
    have e2 : tidR g (tidR g a) = tidR g a := by
      have : tidR g (tidR g a) = tidyL (tidR g a) := by rw [tidR, if_pos e1]
      rw [this, ht, hx.2]
    rw [e1, e2] at h
    exact h.mono (fun e w' ⟨A2, c2, x1, _, x3, x4⟩ => ⟨A2, c2, x1, x3, x4⟩)⟩
  have S0 : Aside0 (chkCs g [a] = 0 → ∀ W', Below w.heap.size w W' → Calls Try.prog 13 #[.agg #[.slice Ag g.length cg], .slice Aa a.length ca, .slice Aa a.length ca] W' fun e w' => e = .returned (.tuple #[.bool true, .int .i64 0]) ∧ Below W'.heap.size W' w') := ⟨fun h0 W' hb => by
    have h := subsumes_any g Ag cg a a Aa Aa ca ca _ W' (Kd.C_below HG.out hb) (Kd.F_below HA.out hb) ha (Kd.F_below HA.out hb) ha
    rw [sub_self h0, chkCs_two h0] at h
    exact h⟩
  have S1 : Aside0 (∀ W', Below w.heap.size w W' → Calls Try.prog 13 #[.agg #[.slice Ag g.length cg], .slice Aa a.length ca, .slice Ab b.length cb] W' fun e w' => e = .returned (.tuple #[.bool (subB g a b), .int .i64 (chkCs g [a, b])]) ∧ Below W'.heap.size W' w') := ⟨fun W' h => subsumes_any g Ag cg a b Aa Ab ca cb _ W' (Kd.C_below HG.out h) (Kd.F_below HA.out h) ha (Kd.F_below HBb.out h) hb⟩
  have S2 : Aside0 (∀ W', Below w.heap.size w W' → Calls Try.prog 13 #[.agg #[.slice Ag g.length cg], .slice Ab b.length cb, .slice Ac c.length cc] W' fun e w' => e = .returned (.tuple #[.bool (subB g b c), .int .i64 (chkCs g [b, c])]) ∧ Below W'.heap.size W' w') := ⟨fun W' h => subsumes_any g Ag cg b c Ab Ac cb cc _ W' (Kd.C_below HG.out h) (Kd.F_below HBb.out h) hb (Kd.F_below HCc.out h) hc⟩
  have S3 : Aside0 (∀ W', Below w.heap.size w W' → Calls Try.prog 13 #[.agg #[.slice Ag g.length cg], .slice Aa a.length ca, .slice Ac c.length cc] W' fun e w' => e = .returned (.tuple #[.bool (subB g a c), .int .i64 (chkCs g [a, c])]) ∧ Below W'.heap.size W' w') := ⟨fun W' h => subsumes_any g Ag cg a c Aa Ac ca cc _ W' (Kd.C_below HG.out h) (Kd.F_below HA.out h) ha (Kd.F_below HCc.out h) hc⟩
  have TR : Aside0 (chkCs g [a, b] = 0 → chkCs g [b, c] = 0 → chkCs g [a, c] = 0 → subB g a b = true → subB g b c = true → subB g a c = true) := ⟨sub_trans⟩
  generalize chkCs g [a] = E at *
  generalize chkCs g [a, b] = e1 at *
  generalize chkCs g [b, c] = e2 at *
  generalize chkCs g [a, c] = e3 at *
  generalize tidR g a = T at *
  generalize subB g a b = ab at *
  generalize subB g b c = bc at *
  generalize subB g a c = ac at *
  have g0 := newAt (w := w) (o := .cells #[.slice Ag g.length cg] 24) rfl
  have HB := Aside0.mk (below_alloc (Below.refl w.heap.size w) (.cells #[.slice Ag g.length cg] 24))
  go_enter Try.func4, Try.ntmps4
  go_upto_region 1 with (fail)
  generalize w.alloc (.cells #[.slice Ag g.length cg] 24) = W at *
  have HS := Aside0.mk g0
  clear g0
  go_upto_region 3 with (go_at_call 18; refine (clauseBegun_any _).mono ?_; rintro e w1 ⟨rfl, hb1⟩; have HB1 := Aside0.mk hb1; clear hb1)
  have s0 := sg_cell ((HB1.out.block _ (blk_lt HS.out)).trans HS.out)
  have HW1 := Aside0.mk (hbT HB.out HB1.out)
  go_upto_region 4 with (go_at_call 11; refine (TI.out w1 HW1.out).mono ?_; rintro e w2 ⟨A2, c2, rfl, hc2, hF2, hb2⟩; have HF2 := Aside0.mk (Kd.F_mono hF2 (ok' := fun _ => True) (fun _ _ => trivial)); have HB12 := Aside0.mk hb2; clear hF2 hb2 s0)
  have HB2 := Aside0.mk (hbT HB1.out HB12.out)
  have HW2 := Aside0.mk (hbT HB.out HB2.out)
  by_cases hE : E = 0
  · have hEb := beqT hE
    have T2' := Aside0.mk (T2.out hE)
    have S0' := Aside0.mk (S0.out hE)
    clear hE TI T2 S0
    have s0 := sg_cell ((HB2.out.block _ (blk_lt HS.out)).trans HS.out)
    go_upto_region 6 with (go_at_call 11; refine (T2'.out w2 A2 c2 HW2.out HF2.out hc2).mono ?_; rintro e w3 ⟨A3, c3, rfl, hF3, hb3⟩; have HF3 := Aside0.mk (Kd.F_mono hF3 (ok' := fun _ => True) (fun _ _ => trivial)); have HB23 := Aside0.mk hb3; clear hF3 hb3 s0)
    have HB3 := Aside0.mk (hbT HB2.out HB23.out)
    have HW3 := Aside0.mk (hbT HB.out HB3.out)
    have s0 := sg_cell ((HB3.out.block _ (blk_lt HS.out)).trans HS.out)
    go_upto_region 7 with (go_at_call 13; refine (S0'.out w3 HW3.out).mono ?_; rintro e w4 ⟨rfl, hb4⟩; have HB34 := Aside0.mk hb4; clear hb4 s0)
    have SC := Aside0.mk (sameClause_any T T A2 A3 c2 c3 _ _ w4 (Kd.F_below HF2.out (hbT HB23.out HB34.out)) (Kd.F_below HF3.out HB34.out))
    rw [samC_refl] at SC
    go_upto_region 9 with (go_at_call 21; refine SC.out.mono ?_; rintro e wk ⟨rfl, hbk⟩; have HB4k := Aside0.mk hbk; clear hbk)
    have HBk := Aside0.mk (hbT (hbT HB3.out HB34.out) HB4k.out)
    clear SC T2' S0'
    have HWk := Aside0.mk (hbT HB.out HBk.out)
    have s0 := sg_cell ((HBk.out.block _ (blk_lt HS.out)).trans HS.out)
    go_upto_region 10 with (go_at_call 13; refine (S1.out wk HWk.out).mono ?_; rintro e w5 ⟨rfl, hb5⟩; have HB5 := Aside0.mk (hbT HBk.out hb5); clear hb5 s0)
    have HW5 := Aside0.mk (hbT HB.out HB5.out)
    have s0 := sg_cell ((HB5.out.block _ (blk_lt HS.out)).trans HS.out)
    go_upto_region 11 with (go_at_call 13; refine (S2.out w5 HW5.out).mono ?_; rintro e w6 ⟨rfl, hb6⟩; have HB6 := Aside0.mk (hbT HB5.out hb6); clear hb6 s0)
    have HW6 := Aside0.mk (hbT HB.out HB6.out)
    have s0 := sg_cell ((HB6.out.block _ (blk_lt HS.out)).trans HS.out)
    go_upto_region 12 with (go_at_call 13; refine (S3.out w6 HW6.out).mono ?_; rintro e w7 ⟨rfl, hb7⟩; have HB7 := Aside0.mk (hbT HB6.out hb7); clear hb7 s0)
    have HW7 := Aside0.mk (hbT HB.out HB7.out)
    clear S1 S2 S3
    by_cases h1 : e1 = 0
    · have h1b := bneF h1
      by_cases h2 : e2 = 0
      · have h2b := bneF h2
        by_cases h3 : e3 = 0
        · have h3b := bneF h3
          cases hab : ab with
          | false => subst hab; go_wp2; go_ret; exact ⟨rfl, HW7.out⟩
          | true =>
            cases hbc : bc with
            | false => subst hab hbc; go_wp2; go_ret; exact ⟨rfl, HW7.out⟩
            | true =>
              obtain rfl := TR.out h1 h2 h3 hab hbc
              subst hab hbc
              go_wp2
              go_ret
              exact ⟨rfl, HW7.out⟩
        · have h3b := bneT h3
          go_wp2
          go_ret
          exact ⟨rfl, HW7.out⟩
      · have h2b := bneT h2
        go_wp2
        go_ret
        exact ⟨rfl, HW7.out⟩
    · have h1b := bneT h1
      go_wp2
      go_ret
      exact ⟨rfl, HW7.out⟩
  · have hEb := beqF hE
    clear hE TI T2 S0
    go_upto_region 9 with (fail)
    have HBk := HB2
    have HWk := Aside0.mk (hbT HB.out HBk.out)
    have s0 := sg_cell ((HBk.out.block _ (blk_lt HS.out)).trans HS.out)
    go_upto_region 10 with (go_at_call 13; refine (S1.out w2 HWk.out).mono ?_; rintro e w5 ⟨rfl, hb5⟩; have HB5 := Aside0.mk (hbT HBk.out hb5); clear hb5 s0)
    have HW5 := Aside0.mk (hbT HB.out HB5.out)
    have s0 := sg_cell ((HB5.out.block _ (blk_lt HS.out)).trans HS.out)
    go_upto_region 11 with (go_at_call 13; refine (S2.out w5 HW5.out).mono ?_; rintro e w6 ⟨rfl, hb6⟩; have HB6 := Aside0.mk (hbT HB5.out hb6); clear hb6 s0)
    have HW6 := Aside0.mk (hbT HB.out HB6.out)
    have s0 := sg_cell ((HB6.out.block _ (blk_lt HS.out)).trans HS.out)
    go_upto_region 12 with (go_at_call 13; refine (S3.out w6 HW6.out).mono ?_; rintro e w7 ⟨rfl, hb7⟩; have HB7 := Aside0.mk (hbT HB6.out hb7); clear hb7 s0)
    have HW7 := Aside0.mk (hbT HB.out HB7.out)
    clear S1 S2 S3
    by_cases h1 : e1 = 0
    · have h1b := bneF h1
      by_cases h2 : e2 = 0
      · have h2b := bneF h2
        by_cases h3 : e3 = 0
        · have h3b := bneF h3
          cases hab : ab with
          | false => subst hab; go_wp2; go_ret; exact ⟨rfl, HW7.out⟩
          | true =>
            cases hbc : bc with
            | false => subst hab hbc; go_wp2; go_ret; exact ⟨rfl, HW7.out⟩
            | true =>
              obtain rfl := TR.out h1 h2 h3 hab hbc
              subst hab hbc
              go_wp2
              go_ret
              exact ⟨rfl, HW7.out⟩
        · have h3b := bneT h3
          go_wp2
          go_ret
          exact ⟨rfl, HW7.out⟩
      · have h2b := bneT h2
        go_wp2
        go_ret
        exact ⟨rfl, HW7.out⟩
    · have h1b := bneT h1
      go_wp2
      go_ret
      exact ⟨rfl, HW7.out⟩
end Go.Proofs.Ytcgnpmjkeifokaa
-- LClauseHangs
/- ClauseHangs: a clause subsumes itself, and what one subsumes that another one does it subsumes; tidied twice is tidied once: for every input. -/
namespace Go.Proofs.Ytcgnpmjkeifokaa
open Go.RowKit Go.WideShapes Go.ChangeShapes Go.ChangeAt Go.Proofs.YtcgnpmjkeifokaaW.PrintWords
set_option linter.unusedVariables false
set_option linter.unusedSimpArgs false
namespace ClauseHangsRow
theorem own_ : ownKnob Try.prog.godebug = none := by kernel_rfl
theorem laidOut_ : laidOutB Try.prog = true := by kernel_rfl
set_option maxRecDepth 100000 in
theorem lifted (os : Os) (started : os.Started) (H : Type) (enc : TypeId × Value → H) :
    ReturnsInHanded {} Try.checked os 4 .any (Rows.clauseHangsSpec.pre6 enc Try.prog Try.f4 Rows.clauseHangsRow.domain false) (Rows.clauseHangsSpec.post enc Try.prog Try.f4 false true false false) := by
  refine returnsInHanded_of_change_sized (C := Try.checked) own_ started (by kernel_rfl) Try.func4
    (ChangeSpec.witness6 (enc := enc) (C := Try.checked) false ⟨#[], #[.agg #[.slice none 0 0], .slice none 0 0, .slice none 0 0, .slice none 0 0], []⟩ 8 (by kernel_rfl) (by kernel_rfl) (by kernel_rfl) (by kernel_rfl)) ?_
  intro W base args ds gs before hval0 hW hcnd hsz0 _
  have hval : ∀ (j : Nat) t v, Try.f4.params[j]? = some t → args[j]? = some v → Value.okWide Try.prog W .any base t v := hval0
  have hW' := hW
  obtain ⟨p, q, hA0, hV, rfl, hfz, hnd⟩ := hW
  have hA : DataW.TrodAll enc Try.prog W 0 (fun _ => true) true Try.f4.params.toList args.toList ds p := hA0
  rw [Try.params4] at hA hval
  obtain ⟨v0, vs0, d0, ds0, p0, q0, hargs, rfl, rfl, h0, r0⟩ := trodAll_cons hA
  obtain ⟨v1, vs1, d1, ds1, p1, q1, rfl, rfl, rfl, h1, r1⟩ := trodAll_cons r0
  obtain ⟨v2, vs2, d2, ds2, p2, q2, rfl, rfl, rfl, h2, r2⟩ := trodAll_cons r1
  obtain ⟨v3, vs3, d3, ds3, p3, q3, rfl, rfl, rfl, h3, r3⟩ := trodAll_cons r2
  obtain ⟨rfl, rfl, rfl⟩ := trodAll_nil r3
  obtain rfl : args = #[v0, v1, v2, v3] := by cases args; simp_all
  obtain ⟨rfl, rfl⟩ := trodVars_none hV
  obtain ⟨x0, A0, c0, rfl, l0, G0⟩ := arg_sg (hval 0 24 v0 rfl rfl) h0
  obtain ⟨x1, A1, c1, rfl, l1, G1⟩ := arg_cl (hval 1 26 v1 rfl rfl) h1
  obtain ⟨x2, A2, c2, rfl, l2, G2⟩ := arg_cl (hval 2 26 v2 rfl rfl) h2
  obtain ⟨x3, A3, c3, rfl, l3, G3⟩ := arg_cl (hval 3 26 v3 rfl rfl) h3
  have lt0 : ∀ x ∈ p0, x.block < W.heap.size := by obtain ⟨m, hm⟩ := h0; exact DataW.trod_lt m _ _ _ hm
  have lt1 : ∀ x ∈ p1, x.block < W.heap.size := by obtain ⟨m, hm⟩ := h1; exact DataW.trod_lt m _ _ _ hm
  have lt2 : ∀ x ∈ p2, x.block < W.heap.size := by obtain ⟨m, hm⟩ := h2; exact DataW.trod_lt m _ _ _ hm
  have lt3 : ∀ x ∈ p3, x.block < W.heap.size := by obtain ⟨m, hm⟩ := h3; exact DataW.trod_lt m _ _ _ hm
  clear hA0 hval0 hsz0
  refine (clauseHangs_any x0 A0 c0 x1 A1 c1 _ x2 A2 c2 _ x3 A3 c3 _ W G0 G1 l1 G2 l2 G3 l3).mono fun e W' ⟨he, bel⟩ => ?_
  subst he
  exact ⟨_, rfl, _, _, _, [], _, [], hW', trodAll_mk1 (shut_bool Try.underlying4 _), (trodAll_cons_mk (Below.trod laidOut_ (by kernel_rfl) (of_decide_eq_true (by kernel_rfl)) h0 bel lt0) (trodAll_cons_mk (Below.trod laidOut_ (by kernel_rfl) (of_decide_eq_true (by kernel_rfl)) h1 bel lt1) (trodAll_cons_mk (Below.trod laidOut_ (by kernel_rfl) (of_decide_eq_true (by kernel_rfl)) h2 bel lt2) (trodAll_cons_mk (Below.trod laidOut_ (by kernel_rfl) (of_decide_eq_true (by kernel_rfl)) h3 bel lt3) trodAll_mk0)))), rfl, bel.frame _, fun h => by cases h⟩
theorem over : Rows.clauseHangsRow.holds Try.pinned (OpenSpec.ofChange Rows.clauseHangsSpec) :=
  OpenClaim.holds_of_wide 4 Try.f4 rfl rfl rfl rfl rfl rfl rfl ⟨rfl, rfl, rfl, rfl, rfl⟩ rfl rfl rfl rfl rfl (by kernel_rfl) Try.func4 (by kernel_rfl)
    (of_decide_eq_true (by kernel_rfl)) (by unfold Func.isWrapper; first | (rw [if_pos (by decide +kernel)]; kernel_rfl) | (rw [if_neg (by decide +kernel)]; exact ⟨rfl, rfl⟩))
    (fun os started H enc _ => lifted os started H enc)
end ClauseHangsRow
/-- The statement. -/
theorem clauseHangs_holds : Rows.ClauseHangsSaid := ClauseHangsRow.over
#print axioms clauseHangs_holds
end Go.Proofs.Ytcgnpmjkeifokaa
