/- Rx, part 2: an own object is made, written, or given up to be read alone. -/
import Derived.Test.YtghiaobecppbeaaRxA
namespace Go.Rx
open Go Go.RowKit
set_option linter.unusedVariables false
set_option linter.unusedSimpArgs false

def setφ (φ : Nm → Nat × Nat) (o : Nm) (pl : Nat × Nat) : Nm → Nat × Nat := fun p => if p = o then pl else φ p
theorem setφ_same (φ : Nm → Nat × Nat) (o : Nm) (pl : Nat × Nat) : setφ φ o pl o = pl := by simp [setφ]
theorem setφ_other (φ : Nm → Nat × Nat) {o p : Nm} (pl : Nat × Nat) (h : p ≠ o) : setφ φ o pl p = φ p := by simp [setφ, h]

theorem RO.lt {E : En} {o : Nm} {x : AObj} (h : RO E o x) : (E.φ o).1 < E.w.heap.size := by
  have key : ∀ y, E.w.heap[(E.φ o).1]? = some y → (E.φ o).1 < E.w.heap.size := fun y hy => by
    apply Decidable.byContradiction
    intro hn
    rw [Array.getElem?_eq_none (by omega)] at hy
    cases hy
  cases x with
  | cells cs => obtain ⟨c, ty, hh, _⟩ := h; exact key _ hh
  | arr e s v es => obtain ⟨c, hh, _⟩ := h; exact key _ hh
  | frz e s v es => obtain ⟨_, c, fz, hh, _⟩ := h; exact key _ hh

theorem RO.mono {E E' : En} (h : Fit E E') {o : Nm} {x : AObj} (hφ : E'.φ o = E.φ o) (hb : E'.w.heap[(E.φ o).1]? = E.w.heap[(E.φ o).1]?) (hr : RO E o x) : RO E' o x := by
  cases x with
  | cells cs =>
    obtain ⟨c, ty, h1, h2, h3, h4⟩ := hr
    exact ⟨c, ty, by rw [hφ, hb]; exact h1, h2, h3, fun k v a hv ha => (h4 k v a hv ha).mono h⟩
  | arr e s v es =>
    obtain ⟨c, h1, h2, h3, h4, h5, h6⟩ := hr
    refine ⟨c, by rw [hφ, hb]; exact h1, by rw [hφ]; exact h2, by rw [hφ]; exact h3, by rw [hφ]; exact h4, h5, fun i x j d hx hd => ?_⟩
    obtain ⟨v, hv, hv2⟩ := h6 i x j d hx hd
    exact ⟨v, hv, h.rep hv2⟩
  | frz e s v es =>
    obtain ⟨h0, c, fz, h1, h3, h4, h5, h6⟩ := hr
    refine ⟨by rw [hφ]; exact (h.st _ h0).1, c, fz, by rw [hφ, hb]; exact h1, by rw [hφ]; exact h3, by rw [hφ]; exact h4, h5, fun i x j d hx hd => ?_⟩
    obtain ⟨v, hv, hv2⟩ := h6 i x j d hx hd
    exact ⟨v, hv, h.rep hv2⟩

/-- An own object is made, or written. -/
theorem put_ok {E : En} (I : Inv E) (o : Nm) (x' : AObj) (pl : Nat × Nat) (w' : World) (hos : w'.os = E.w.os) (ht : w'.tape = E.w.tape) (hout : w'.output = E.w.output) (hsz : E.w.heap.size ≤ w'.heap.size)
    (hlive : x'.live = true)
    (hpl : E.w.heap.size ≤ pl.1 ∨ ∃ x, E.H.get o = some x ∧ x.live = true ∧ pl.1 = (E.φ o).1)
    (hkeep : ∀ b, b < E.w.heap.size → b ≠ pl.1 → w'.heap[b]? = E.w.heap[b]?)
    (hcomp : ∀ x, E.H.get o = some x → Compat E ⟨w', E.S, setφ E.φ o pl, (o, x') :: E.H⟩ o x x')
    (hro : Fit E ⟨w', E.S, setφ E.φ o pl, (o, x') :: E.H⟩ → RO ⟨w', E.S, setφ E.φ o pl, (o, x') :: E.H⟩ o x') :
    Inv ⟨w', E.S, setφ E.φ o pl, (o, x') :: E.H⟩ ∧ Step E ⟨w', E.S, setφ E.φ o pl, (o, x') :: E.H⟩ ∧ Fit E ⟨w', E.S, setφ E.φ o pl, (o, x') :: E.H⟩ := by
  have hnS : ¬ E.S pl.1 := fun hS => by
    rcases hpl with h | ⟨x, hg, hl, hb⟩
    · have := I.sin _ hS; omega
    · exact I.free o x hg hl (hb ▸ hS)
  have hblk : ∀ p x, p ≠ o → E.H.get p = some x → (E.φ p).1 ≠ pl.1 := fun p x hne hg hb => by
    have hlt := (I.obj p x hg).lt
    rcases hpl with h | ⟨y, hgo, hl, hbo⟩
    · omega
    · cases hx : x.live with
      | true => exact hne (I.dist p o x y hg hgo hx hl (hb.trans hbo))
      | false =>
        cases x with
        | frz e s v es =>
          obtain ⟨h0, _⟩ := I.obj p _ hg
          exact hnS (hb ▸ h0)
        | cells cs => cases hx
        | arr e s v es => cases hx
  have fit : Fit E ⟨w', E.S, setφ E.φ o pl, (o, x') :: E.H⟩ := by
    refine ⟨fun b hb => ⟨hb, hkeep b (I.sin b hb) (fun e => hnS (e ▸ hb))⟩, fun p x hg => ?_⟩
    by_cases hp : p = o
    · subst hp
      exact ⟨x', Hp.get_same _ _ _, hcomp x hg⟩
    · refine ⟨x, by show Hp.get ((o, x') :: E.H) p = _; rw [Hp.get_other _ _ (Ne.symm hp)]; exact hg, ?_⟩
      have hφ : setφ E.φ o pl p = E.φ p := setφ_other _ _ hp
      cases x with
      | cells cs => exact hφ
      | arr e s v es => exact ⟨Nat.le_refl _, fun _ => ⟨rfl, hφ, Nat.le_refl _⟩⟩
      | frz e s v es => exact ⟨Nat.le_refl _, fun _ => ⟨rfl, hφ, Nat.le_refl _⟩⟩
  have get' : ∀ p x, p ≠ o → Hp.get ((o, x') :: E.H) p = some x → E.H.get p = some x := fun p x hp hg => by rwa [Hp.get_other _ _ (Ne.symm hp)] at hg
  refine ⟨⟨fun p x hg => ?_, fun p q x y hg hq hx hy hb => ?_, fun p x hg hx => ?_, fun b hb => Nat.lt_of_lt_of_le (I.sin b hb) hsz⟩,
    ⟨hos, ht, hout, hsz, fun b hb hno => ?_, fun b hb => hb, fun b hb hlt => ?_⟩, fit⟩
  · by_cases hp : p = o
    · subst hp
      obtain rfl : x' = x := by have : Hp.get ((p, x') :: E.H) p = some x := hg; rw [Hp.get_same] at this; injection this
      exact hro fit
    · have hg' := get' p x hp hg
      have hr := I.obj p x hg'
      exact hr.mono fit (setφ_other _ _ hp) (hkeep _ hr.lt (hblk p x hp hg'))
  · by_cases hp : p = o
    · by_cases hq' : q = o
      · rw [hp, hq']
      · exfalso
        have hb' : pl.1 = (E.φ q).1 := by have : (setφ E.φ o pl p).1 = (setφ E.φ o pl q).1 := hb; rwa [hp, setφ_same, setφ_other _ _ hq'] at this
        exact hblk q y hq' (get' q y hq' hq) hb'.symm
    · by_cases hq' : q = o
      · exfalso
        have hb' : (E.φ p).1 = pl.1 := by have : (setφ E.φ o pl p).1 = (setφ E.φ o pl q).1 := hb; rwa [hq', setφ_same, setφ_other _ _ hp] at this
        exact hblk p x hp (get' p x hp hg) hb'
      · have hb' : (E.φ p).1 = (E.φ q).1 := by have : (setφ E.φ o pl p).1 = (setφ E.φ o pl q).1 := hb; rwa [setφ_other _ _ hq', setφ_other _ _ hp] at this
        exact I.dist p q x y (get' p x hp hg) (get' q y hq' hq) hx hy hb'
  · by_cases hp : p = o
    · show ¬ E.S (setφ E.φ o pl p).1
      rw [hp, setφ_same]; exact hnS
    · show ¬ E.S (setφ E.φ o pl p).1
      rw [setφ_other _ _ hp]
      exact I.free p x (get' p x hp hg) hx
  · refine hkeep b hb (fun e => ?_)
    rcases hpl with h | ⟨x, hg, hl, hbo⟩
    · omega
    · exact hno ⟨o, x, hg, hl, by omega⟩
  · rcases hb with hb | ⟨p, x, hg, hx, hb⟩
    · exact .inl hb
    · refine .inr ?_
      by_cases hp : p = o
      · have hb' : pl.1 = b := by have : (setφ E.φ o pl p).1 = b := hb; rwa [hp, setφ_same] at this
        rcases hpl with h | ⟨y, hgo, hl, hbo⟩
        · omega
        · exact ⟨o, y, hgo, hl, by omega⟩
      · have hb' : (E.φ p).1 = b := by have : (setφ E.φ o pl p).1 = b := hb; rwa [setφ_other _ _ hp] at this
        exact ⟨p, x, get' p x hp hg, hx, hb'⟩

/-- A row that grew is given up: from now on it is read alone. -/
theorem frz_ok {E : En} (I : Inv E) (o : Nm) (e : TypeId) (s v : Nat) (es : List (List D)) (hg : E.H.get o = some (.arr e s v es)) :
    Inv ⟨E.w, fun b => E.S b ∨ b = (E.φ o).1, E.φ, (o, .frz e s v es) :: E.H⟩ ∧ Step E ⟨E.w, fun b => E.S b ∨ b = (E.φ o).1, E.φ, (o, .frz e s v es) :: E.H⟩ ∧ Fit E ⟨E.w, fun b => E.S b ∨ b = (E.φ o).1, E.φ, (o, .frz e s v es) :: E.H⟩ := by
  have fit : Fit E ⟨E.w, fun b => E.S b ∨ b = (E.φ o).1, E.φ, (o, .frz e s v es) :: E.H⟩ := by
    refine ⟨fun b hb => ⟨.inl hb, rfl⟩, fun p x hp => ?_⟩
    by_cases h : p = o
    · subst h
      rw [hg] at hp
      injection hp with hp
      subst hp
      exact ⟨_, Hp.get_same _ _ _, Nat.le_refl _, fun _ => ⟨rfl, rfl, Nat.le_refl _⟩⟩
    · refine ⟨x, by show Hp.get ((o, _) :: E.H) p = _; rw [Hp.get_other _ _ (Ne.symm h)]; exact hp, ?_⟩
      cases x with
      | cells cs => exact rfl
      | arr e s v es => exact ⟨Nat.le_refl _, fun _ => ⟨rfl, rfl, Nat.le_refl _⟩⟩
      | frz e s v es => exact ⟨Nat.le_refl _, fun _ => ⟨rfl, rfl, Nat.le_refl _⟩⟩
  have get' : ∀ p x, p ≠ o → Hp.get ((o, AObj.frz e s v es) :: E.H) p = some x → E.H.get p = some x := fun p x hp hg => by rwa [Hp.get_other _ _ (Ne.symm hp)] at hg
  have live' : ∀ p x, Hp.get ((o, AObj.frz e s v es) :: E.H) p = some x → x.live = true → p ≠ o := fun p x hp hx h => by
    subst h
    rw [Hp.get_same] at hp
    injection hp with hp
    subst hp
    cases hx
  refine ⟨⟨fun p x hp => ?_, fun p q x y hp hq hx hy hb => I.dist p q x y (get' p x (live' p x hp hx) hp) (get' q y (live' q y hq hy) hq) hx hy hb, fun p x hp hx => ?_, fun b hb => ?_⟩,
    ⟨rfl, rfl, rfl, Nat.le_refl _, fun _ _ _ => rfl, fun b hb => .inl hb, fun b hb hlt => ?_⟩, fit⟩
  · by_cases h : p = o
    · subst h
      rw [Hp.get_same] at hp
      injection hp with hp
      subst hp
      obtain ⟨c, h1, h2, h3, h4, h5, h6⟩ := (I.obj p _ hg).mono fit rfl rfl
      exact ⟨.inr rfl, c, (0, 0), h1, h3, h4, h5, h6⟩
    · exact (I.obj p x (get' p x h hp)).mono fit rfl rfl
  · rintro (h | h)
    · exact I.free p x (get' p x (live' p x hp hx) hp) hx h
    · exact live' p x hp hx (I.dist p o x _ (get' p x (live' p x hp hx) hp) hg hx rfl h)
  · rcases hb with h | h
    · exact I.sin b h
    · subst h; exact (I.obj o _ hg).lt
  · rcases hb with (h | h) | ⟨p, x, hp, hx, hb⟩
    · exact .inl h
    · exact .inr ⟨o, _, hg, rfl, h.symm⟩
    · exact .inr ⟨p, x, get' p x (live' p x hp hx) hp, hx, hb⟩
end Go.Rx
