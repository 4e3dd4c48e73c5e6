/- Rx, part 13: own objects under other names. -/
import Derived.Test.YtghiaobecppbeaaRxL
namespace Go.Rx
open Go Go.RowKit
set_option linter.unusedVariables false
set_option linter.unusedSimpArgs false

/-- New names: each old name's new name, and the version that its handles get. -/
abbrev Gm := List (Nm × (Nm × Nat))
def Gm.get : Gm → Nm → Option (Nm × Nat)
  | [], _ => none
  | (p, x) :: r, o => if p = o then some x else Gm.get r o

def renH (g : Gm) (H : Hp) (o : Nm) (ver : Nat) : Option (Nm × Nat) :=
  match g.get o, H.get o with
  | some y, some (.arr _ _ v _) => if v = ver then some y else none
  | some y, some (.frz _ _ v _) => if v = ver then some y else none
  | _, _ => none

mutual
def ren (g : Gm) (H : Hp) : AV → AV
  | .own o ver n => match renH g H o ver with
    | some y => .own y.1 y.2 n
    | none => .undef
  | .eptr o ver i off => match renH g H o ver with
    | some y => .eptr y.1 y.2 i off
    | none => .undef
  | .ptr o off => match g.get o, H.get o with
    | some y, some (.cells _) => .ptr y.1 off
    | _, _ => .undef
  | .agg vs => .agg (renL g H vs)
  | .tuple vs => .tuple (renL g H vs)
  | .fn f vs => .fn f (renL g H vs)
  | .iface t a => .iface t (ren g H a)
  | .d x => .d x
  | .nilsl => .nilsl
  | .rptr e off => .rptr e off
  | .undef => .undef
def renL (g : Gm) (H : Hp) : List AV → List AV
  | [] => []
  | a :: r => ren g H a :: renL g H r
end
theorem renL_eq (g : Gm) (H : Hp) : ∀ l, renL g H l = l.map (ren g H)
  | [] => by simp [renL]
  | a :: r => by simp [renL, renL_eq g H r]

def renO (g : Gm) (H : Hp) (nv : Nat) : AObj → AObj
  | .cells cs => .cells (renL g H cs)
  | .arr e s _ es => .arr e s nv es
  | .frz e s _ es => .frz e s nv es

/-- The objects that have new names, under these. -/
def renHp (g : Gm) (H : Hp) : Gm → Hp
  | [] => []
  | (o, y) :: r => match H.get o with
    | some x => (y.1, renO g H y.2 x) :: renHp g H r
    | none => renHp g H r

def Gm.ok (g : Gm) : Bool := decide ((g.map (·.1)).Nodup) && decide ((g.map (·.2.1)).Nodup)

structure Hom (g : Gm) (E E' : En) : Prop where
  st : ∀ b, E.S b → E'.S b ∧ E'.w.heap[b]? = E.w.heap[b]?
  obj : ∀ o y x, g.get o = some y → E.H.get o = some x → E'.H.get y.1 = some (renO g E.H y.2 x) ∧ E'.φ y.1 = E.φ o

theorem renH_ok {g : Gm} {E E' : En} (h : Hom g E E') {o : Nm} {ver : Nat} {y : Nm × Nat} (hr : renH g E.H o ver = some y) {R R' : Nat → List (List D) → Prop} (ho : OwnOk E o ver R) (hR : ∀ s es, E'.φ y.1 = E.φ o → R s es → R' s es) : OwnOk E' y.1 y.2 R' := by
  obtain ⟨x, hg, hx⟩ := ho
  unfold renH at hr
  rw [hg] at hr
  cases x with
  | cells cs => exact hx.elim
  | arr e s v es =>
    cases hgo : g.get o with
    | none => rw [hgo] at hr; cases hr
    | some z =>
      rw [hgo] at hr
      simp only [] at hr
      split at hr
      · rename_i hv
        injection hr with hr
        subst hr
        obtain ⟨h1, h2⟩ := h.obj o _ _ hgo hg
        exact ⟨_, h1, Nat.le_refl _, fun _ => hR s es h2 (hx.2 hv.symm)⟩
      · cases hr
  | frz e s v es =>
    cases hgo : g.get o with
    | none => rw [hgo] at hr; cases hr
    | some z =>
      rw [hgo] at hr
      simp only [] at hr
      split at hr
      · rename_i hv
        injection hr with hr
        subst hr
        obtain ⟨h1, h2⟩ := h.obj o _ _ hgo hg
        exact ⟨_, h1, Nat.le_refl _, fun _ => hR s es h2 (hx.2 hv.symm)⟩
      · cases hr

theorem RV.hom {g : Gm} {E E' : En} (h : Hom g E E') {v : Value} {a : AV} (hr : RV E v a) : RV E' v (ren g E.H a) := by
  have hrep : ∀ v x, Rep E.w E.S v x → Rep E'.w E'.S v x := fun v x hx => hx.mono h.st
  have many : ∀ (cs : List Value) (vs : List AV), (∀ (i : Nat) (v : Value) (a : AV), cs[i]? = some v → vs[i]? = some a → RV E' v (ren g E.H a)) → ∀ (i : Nat) (v : Value) (a : AV), cs[i]? = some v → (renL g E.H vs)[i]? = some a → RV E' v a := fun cs vs ih i v a hv ha => by
    rw [renL_eq, List.getElem?_map, Option.map_eq_some_iff] at ha
    obtain ⟨b, hb, rfl⟩ := ha
    exact ih i v b hv hb
  induction hr with
  | undef v => simp only [ren]; exact .undef v
  | d v x hx => simp only [ren]; exact .d v x (hrep _ _ hx)
  | nilsl => simp only [ren]; exact .nilsl
  | agg cs vs hl h1 _ ih => simp only [ren]; exact .agg cs _ (by rw [renL_eq]; simpa using hl) h1 (many cs vs ih)
  | tuple cs vs hl _ ih => simp only [ren]; exact .tuple cs _ (by rw [renL_eq]; simpa using hl) (many cs vs ih)
  | fn f cs caps hl _ ih => simp only [ren]; exact .fn f cs _ (by rw [renL_eq]; simpa using hl) (many cs caps ih)
  | iface t v a _ ih => simp only [ren]; exact .iface t v _ ih
  | rptr b off e k hb hc =>
    simp only [ren]
    refine .rptr b off e k (h.st b hb).1 (fun j d hd => ?_)
    obtain ⟨c, h1, h2⟩ := hc j d hd
    exact ⟨c, by rw [cell?_of_heap (h.st b hb).2]; exact h1, hrep _ _ h2⟩
  | ptr o off cs hg =>
    simp only [ren, hg]
    cases hgo : g.get o with
    | none => exact .undef _
    | some y =>
      obtain ⟨h1, h2⟩ := h.obj o y _ hgo hg
      rw [← h2]
      exact .ptr _ _ _ h1
  | own v o ver n h1 ho =>
    simp only [ren]
    cases hr : renH g E.H o ver with
    | none => exact .undef _
    | some y => exact .own _ _ _ _ h1 (renH_ok h hr ho (fun s es hφ hR => ⟨by rw [hR.1, En.sl, En.sl, hφ], hR.2⟩))
  | eptr v o ver i off h1 ho =>
    simp only [ren]
    cases hr : renH g E.H o ver with
    | none => exact .undef _
    | some y => exact .eptr _ _ _ _ _ h1 (renH_ok h hr ho (fun s es hφ hR => ⟨by rw [hR.1, hφ], hR.2⟩))

theorem RO.hom {g : Gm} {E E' : En} (h : Hom g E E') {o : Nm} {y : Nm × Nat} {x : AObj} (hφ : E'.φ y.1 = E.φ o) (hb : E'.w.heap[(E.φ o).1]? = E.w.heap[(E.φ o).1]?) (hr : RO E o x) : RO E' y.1 (renO g E.H y.2 x) := by
  have hrep : ∀ v x, Rep E.w E.S v x → Rep E'.w E'.S v x := fun v x hx => hx.mono h.st
  cases x with
  | cells cs =>
    obtain ⟨c, ty, h1, h2, h3, h4⟩ := hr
    refine ⟨c, ty, by rw [hφ, hb]; exact h1, by rw [renL_eq]; simpa using h2, h3, fun k v a hv ha => ?_⟩
    rw [renL_eq, List.getElem?_map, Option.map_eq_some_iff] at ha
    obtain ⟨b, hb', rfl⟩ := ha
    exact (h4 k v b hv hb').hom h
  | arr e s v es =>
    obtain ⟨c, h1, h2, h3, h4, h5, h6⟩ := hr
    refine ⟨c, by rw [hφ, hb]; exact h1, by rw [hφ]; exact h2, by rw [hφ]; exact h3, by rw [hφ]; exact h4, h5, fun i x j d hx hd => ?_⟩
    obtain ⟨v, hv, hv2⟩ := h6 i x j d hx hd
    exact ⟨v, hv, hrep _ _ hv2⟩
  | frz e s v es =>
    obtain ⟨h0, c, fz, h1, h3, h4, h5, h6⟩ := hr
    refine ⟨by rw [hφ]; exact (h.st _ h0).1, c, fz, by rw [hφ, hb]; exact h1, by rw [hφ]; exact h3, by rw [hφ]; exact h4, h5, fun i x j d hx hd => ?_⟩
    obtain ⟨v, hv, hv2⟩ := h6 i x j d hx hd
    exact ⟨v, hv, hrep _ _ hv2⟩

theorem renO_live (g : Gm) (H : Hp) (nv : Nat) (x : AObj) : (renO g H nv x).live = x.live := by cases x <;> rfl

theorem Gm.get_mem : ∀ {g : Gm} {o : Nm} {y : Nm × Nat}, g.get o = some y → (o, y) ∈ g
  | [], _, _, h => by cases h
  | (p, x) :: r, o, y, h => by
    simp only [Gm.get] at h
    split at h
    · rename_i hp; subst hp; injection h with h; subst h; simp
    · exact List.mem_cons_of_mem _ (Gm.get_mem h)
theorem Gm.mem_get : ∀ {g : Gm} {o : Nm} {y : Nm × Nat}, (g.map (·.1)).Nodup → (o, y) ∈ g → g.get o = some y
  | [], _, _, _, h => by cases h
  | (p, x) :: r, o, y, hn, h => by
    simp only [List.map_cons, List.nodup_cons] at hn
    simp only [Gm.get]
    rcases List.mem_cons.1 h with h | h
    · injection h with h1 h2; subst h1 h2; simp
    · have hne : p ≠ o := fun e => hn.1 (e ▸ List.mem_map_of_mem h)
      rw [if_neg hne]
      exact Gm.mem_get hn.2 h

theorem renHp_get (g : Gm) (H : Hp) : ∀ (l : Gm), (l.map (·.2.1)).Nodup → ∀ p x', (renHp g H l).get p = some x' ↔ ∃ o nv x, (o, (p, nv)) ∈ l ∧ H.get o = some x ∧ x' = renO g H nv x
  | [], _, p, x' => by simp [renHp, Hp.get]
  | (o, y) :: r, hn, p, x' => by
    simp only [List.map_cons, List.nodup_cons] at hn
    have ih := renHp_get g H r hn.2 p x'
    have notin : ∀ o' nv, (o', (y.1, nv)) ∈ r → False := fun o' nv h => hn.1 (List.mem_map.2 ⟨_, h, rfl⟩)
    cases hx : H.get o with
    | none =>
      simp only [renHp, hx, ih]
      constructor
      · rintro ⟨o', nv, x, h1, h2, h3⟩; exact ⟨o', nv, x, List.mem_cons_of_mem _ h1, h2, h3⟩
      · rintro ⟨o', nv, x, h1, h2, h3⟩
        rcases List.mem_cons.1 h1 with h | h
        · injection h with ha hb; subst ha; rw [hx] at h2; cases h2
        · exact ⟨o', nv, x, h, h2, h3⟩
    | some z =>
      simp only [renHp, hx, Hp.get_cons]
      split
      · rename_i hp
        subst hp
        constructor
        · intro h; injection h with h; exact ⟨o, y.2, z, by simp, hx, h.symm⟩
        · rintro ⟨o', nv, x, h1, h2, h3⟩
          rcases List.mem_cons.1 h1 with h | h
          · injection h with ha hb
            subst ha
            have : y.2 = nv := by rw [← hb]
            subst this
            rw [hx] at h2; injection h2 with h2; subst h2; rw [h3]
          · exact (notin _ _ h).elim
      · rename_i hp
        rw [ih]
        constructor
        · rintro ⟨o', nv, x, h1, h2, h3⟩; exact ⟨o', nv, x, List.mem_cons_of_mem _ h1, h2, h3⟩
        · rintro ⟨o', nv, x, h1, h2, h3⟩
          rcases List.mem_cons.1 h1 with h | h
          · injection h with ha hb; exact absurd (by rw [← hb]) hp
          · exact ⟨o', nv, x, h, h2, h3⟩

def Gm.back : Gm → Nm → Option Nm
  | [], _ => none
  | (o, y) :: r, p => if y.1 = p then some o else Gm.back r p
theorem Gm.back_mem : ∀ {g : Gm} {o p : Nm} {nv : Nat}, (g.map (·.2.1)).Nodup → (o, (p, nv)) ∈ g → g.back p = some o
  | [], _, _, _, _, h => by cases h
  | (q, y) :: r, o, p, nv, hn, h => by
    simp only [List.map_cons, List.nodup_cons] at hn
    simp only [Gm.back]
    rcases List.mem_cons.1 h with h | h
    · injection h with h1 h2; subst h1 h2; simp
    · have hne : y.1 ≠ p := fun e => hn.1 (by rw [e]; exact List.mem_map.2 ⟨_, h, rfl⟩)
      rw [if_neg hne]
      exact Gm.back_mem hn.2 h

def renφ (g : Gm) (φ : Nm → Nat × Nat) : Nm → Nat × Nat := fun p => match g.back p with
  | some o => φ o
  | none => (0, 0)

/-- All under new names; what has none is forgotten. -/
def rehome (g : Gm) (E : En) : En := ⟨E.w, E.S, renφ g E.φ, renHp g E.H g⟩

theorem Gm.ok_keys {g : Gm} (h : g.ok = true) : (g.map (·.1)).Nodup ∧ (g.map (·.2.1)).Nodup := by
  simp [Gm.ok] at h; exact h

theorem rehome_hom {g : Gm} (hg : g.ok = true) (E : En) : Hom g E (rehome g E) := by
  obtain ⟨h1, h2⟩ := Gm.ok_keys hg
  refine ⟨fun b hb => ⟨hb, rfl⟩, fun o y x ho hx => ⟨(renHp_get g E.H g h2 y.1 _).2 ⟨o, y.2, x, Gm.get_mem ho, hx, rfl⟩, ?_⟩⟩
  show renφ g E.φ y.1 = _
  simp only [renφ, Gm.back_mem h2 (Gm.get_mem ho : (o, (y.1, y.2)) ∈ g)]

theorem rehome_src {g : Gm} (hg : g.ok = true) {E : En} {p : Nm} {x' : AObj} (h : (rehome g E).H.get p = some x') : ∃ o nv x, g.get o = some (p, nv) ∧ E.H.get o = some x ∧ x' = renO g E.H nv x ∧ (rehome g E).φ p = E.φ o := by
  obtain ⟨h1, h2⟩ := Gm.ok_keys hg
  obtain ⟨o, nv, x, ho, hx, rfl⟩ := (renHp_get g E.H g h2 p _).1 h
  have hgo := Gm.mem_get h1 ho
  exact ⟨o, nv, x, hgo, hx, rfl, ((rehome_hom hg E).obj o _ x hgo hx).2⟩

theorem rehome_ok {g : Gm} (hg : g.ok = true) {E : En} (I : Inv E) : Inv (rehome g E) ∧ Step E (rehome g E) := by
  have hom := rehome_hom hg E
  refine ⟨⟨fun p x' hp => ?_, fun p q x y hp hq hx hy hb => ?_, fun p x hp hx => ?_, I.sin⟩, ⟨rfl, rfl, rfl, Nat.le_refl _, fun _ _ _ => rfl, fun b hb => hb, fun b hb _ => ?_⟩⟩
  · obtain ⟨o, nv, x, h1, h2, rfl, h3⟩ := rehome_src hg hp
    exact RO.hom hom (y := (p, nv)) h3 rfl (I.obj o x h2)
  · obtain ⟨o, nv, x, h1, h2, rfl, h3⟩ := rehome_src hg hp
    obtain ⟨o', nv', x', h1', h2', rfl, h3'⟩ := rehome_src hg hq
    rw [renO_live] at hx hy
    have e : o = o' := I.dist o o' x x' h2 h2' hx hy (by rw [← h3, ← h3']; exact hb)
    subst e
    rw [h1] at h1'
    injection h1' with h1'
    injection h1'
  · obtain ⟨o, nv, x, h1, h2, rfl, h3⟩ := rehome_src hg hp
    rw [renO_live] at hx
    rw [h3]
    exact I.free o x h2 hx
  · rcases hb with h | ⟨p, x, hp, hx, hb⟩
    · exact .inl h
    · obtain ⟨o, nv, x, h1, h2, rfl, h3⟩ := rehome_src hg hp
      rw [renO_live] at hx
      exact .inr ⟨o, x, h2, hx, by rw [← h3]; exact hb⟩
end Go.Rx
