/- Rx, part 5: sealing, stores and append, as operations. -/
import Derived.Test.YtghiaobecppbeaaRxD
namespace Go.Rx
open Go Go.RowKit
set_option linter.unusedVariables false
set_option linter.unusedSimpArgs false

def seal1 (H : Hp) : AV → Option (D × Hp)
  | .d x => some (x, H)
  | .nilsl => some (.list [], H)
  | .own o ver n => match H.get o with
    | some (.arr e s v es) => if v = ver then some (.list (es.take n), (o, .frz e s v es) :: H) else none
    | some (.frz _ _ v es) => if v = ver then some (.list (es.take n), H) else none
    | _ => none
  | _ => none
def sealL : Hp → List AV → Option (List D × Hp)
  | H, [] => some ([], H)
  | H, a :: r => (seal1 H a).bind fun x => (sealL x.2 r).map fun y => (x.1 :: y.1, y.2)

theorem own_rep {E : En} (I : Inv E) {v : Value} {o : Nm} {ver n : Nat} (h : RV E v (.own o ver n)) {e : TypeId} {s : Nat} {es : List (List D)} (hg : E.H.get o = some (.frz e s ver es)) :
    Rep E.w E.S v (.list (es.take n)) := by
  cases h with
  | own v o ver n h1 ho =>
    obtain ⟨x, hg', hx⟩ := ho
    rw [hg] at hg'
    injection hg' with hg'
    subst hg'
    obtain ⟨rfl, hn⟩ := hx.2 rfl
    obtain ⟨b0, c, fz, b1, b3, b4, b5, b6⟩ := I.obj o _ hg
    have hl : (es.take n).length = n := by simp; omega
    have key := Rep.list (w := E.w) (S := E.S) (E.φ o).1 0 (E.φ o).2 s (es.take n) (fun i j => c.getD (i * s + j) undef) b0 (by omega) b4 (fun e he => b5 e (List.mem_of_mem_take he))
      (fun i e j d he hd => by
        have he' : es[i]? = some e := by
          rw [List.getElem?_take] at he
          split at he
          · exact he
          · cases he
        obtain ⟨u, hu, hu2⟩ := b6 i e j d he' hd
        simp only [World.cell?, b1, Nat.zero_add]
        simp [hu])
      (fun i e j d he hd => by
        have he' : es[i]? = some e := by
          rw [List.getElem?_take] at he
          split at he
          · exact he
          · cases he
        obtain ⟨u, hu, hu2⟩ := b6 i e j d he' hd
        simp only [Array.getD_eq_getD_getElem?, hu, Option.getD_some]
        exact hu2)
    rw [hl] at key
    exact key

theorem seal1_ok {E : En} (I : Inv E) {v : Value} {a : AV} {x : D} {H' : Hp} (h : RV E v a) (hs : seal1 E.H a = some (x, H')) :
    ∃ E', E'.w = E.w ∧ E'.H = H' ∧ Inv E' ∧ Step E E' ∧ Fit E E' ∧ Rep E'.w E'.S v x := by
  cases a with
  | undef => cases hs
  | agg => cases hs
  | tuple => cases hs
  | ptr => cases hs
  | eptr => cases hs
  | rptr => cases hs
  | fn => cases hs
  | iface => cases hs
  | d y =>
    injection hs with hs
    injection hs with h1 h2
    subst h1 h2
    cases h with
    | d _ _ hx => exact ⟨E, rfl, rfl, I, .refl E, .refl E, hx⟩
  | nilsl =>
    injection hs with hs
    injection hs with h1 h2
    subst h1 h2
    cases h with
    | nilsl => exact ⟨E, rfl, rfl, I, .refl E, .refl E, .empty _ _ (by unfold maxLen; omega)⟩
  | own o ver n =>
    simp only [seal1] at hs
    split at hs
    · rename_i e s w es hg
      split at hs
      · rename_i hw
        subst hw
        injection hs with hs
        injection hs with h1 h2
        subst h1 h2
        obtain ⟨I', S', F'⟩ := frz_ok I o e s w es hg
        exact ⟨⟨E.w, fun b => E.S b ∨ b = (E.φ o).1, E.φ, (o, .frz e s w es) :: E.H⟩, rfl, rfl, I', S', F', own_rep I' (h.mono F') (Hp.get_same _ _ _)⟩
      · cases hs
    · rename_i e s w es hg
      split at hs
      · rename_i hw
        subst hw
        injection hs with hs
        injection hs with h1 h2
        subst h1 h2
        exact ⟨E, rfl, rfl, I, .refl E, .refl E, own_rep I h hg⟩
      · cases hs
    · cases hs

theorem sealL_ok {E : En} (I : Inv E) {c : List Value} {cs : List AV} {xs : List D} {H' : Hp} (hl : c.length = cs.length) (h : ∀ (i : Nat) (x : Value) (b : AV), c[i]? = some x → cs[i]? = some b → RV E x b)
    (hs : sealL E.H cs = some (xs, H')) : ∃ E', E'.w = E.w ∧ E'.H = H' ∧ Inv E' ∧ Step E E' ∧ Fit E E' ∧ xs.length = cs.length ∧ ∀ (i : Nat) (u : Value) (x : D), c[i]? = some u → xs[i]? = some x → Rep E'.w E'.S u x := by
  induction cs generalizing E c xs with
  | nil =>
    injection hs with hs
    injection hs with h1 h2
    subst h1 h2
    exact ⟨E, rfl, rfl, I, .refl E, .refl E, rfl, fun i u x _ hx => by simp at hx⟩
  | cons a r ih =>
    cases c with
    | nil => simp at hl
    | cons u c =>
      simp only [sealL, Option.bind_eq_some_iff, Option.map_eq_some_iff] at hs
      obtain ⟨⟨x, H1⟩, h1, ⟨ys, H2⟩, h2, h3⟩ := hs
      injection h3 with h3 h4
      subst h3 h4
      obtain ⟨E1, w1, e1, I1, S1, F1, r1⟩ := seal1_ok I (h 0 u a rfl rfl) h1
      subst e1
      obtain ⟨E2, w2, e2, I2, S2, F2, l2, r2⟩ := ih I1 (c := c) (by simpa using hl) (fun i x b hx hb => (h (i + 1) x b hx hb).mono F1) h2
      refine ⟨E2, w2.trans w1, e2, I2, S1.trans I1 S2, F1.trans F2, by simp [l2], fun i u' x' hu hx => ?_⟩
      cases i with
      | zero => simp at hu hx; subst hu hx; exact F2.rep r1
      | succ i => exact r2 i u' x' (by simpa using hu) (by simpa using hx)

def wrAt (H : Hp) (p : AV) (cs : List AV) : Option Hp :=
  match p with
  | .ptr o off => match H.get o with
    | some (.cells vs) => if off + cs.length ≤ vs.length then some ((o, .cells (splice vs off cs)) :: H) else none
    | _ => none
  | .eptr o ver i off => (sealL H cs).bind fun x => match x.2.get o with
    | some (.arr e s v es) => if v = ver then (es[i]?).bind fun y => if off + x.1.length ≤ y.length then some ((o, .arr e s v (es.set i (splice y off x.1))) :: x.2) else none else none
    | _ => none
  | _ => none

def aStore (P : Program) (H : Hp) (t : TypeId) (p x : AV) : Option Hp :=
  (cellsOf x).bind fun cs => (sizeT P t).bind fun n => if cs.length = n then wrAt H p cs else none

theorem storeRun {P : Program} (w : World) (t : TypeId) (g off : Nat) (v : Value) (c : List Value) (hc : v.cells = c.toArray) (hn : sizeT P t = some c.length) (h1 : ∀ x ∈ c, x.oneCell' = true) (cur : Array Value) (ty : TypeId)
    (hg : w.heap[g]? = some (.cells cur ty (0, 0))) (hle : off + c.length ≤ cur.size) :
    (Instr.storeAt t (.pointer (some ⟨g, off, none⟩)) v).run P w = .ok () (w.setRow g (splice cur.toList off c).toArray) := by
  have hst := run_storeCells_at P g off ty c 0 cur w hg (by omega) h1
  simp only [Nat.add_zero] at hst
  simp only [Instr.storeAt, Instr.sureAddr, storeVar, Sem.run_bind, Sem.run_pure, Result.andThen_ok, sizeT_ok hn, hc, List.size_toArray]
  simp [hst, splice]

theorem Compat.self {E E' : En} {o : Nm} (h : E'.φ o = E.φ o) (x : AObj) : Compat E E' o x x := by
  cases x with
  | cells cs => exact h
  | arr e s v es => exact ⟨Nat.le_refl _, fun _ => ⟨rfl, h, Nat.le_refl _⟩⟩
  | frz e s v es => exact ⟨Nat.le_refl _, fun _ => ⟨rfl, h, Nat.le_refl _⟩⟩

theorem setφ_self (φ : Nm → Nat × Nat) (o p : Nm) : setφ φ o (φ o) p = φ p := by
  unfold setφ; split
  · rename_i h; rw [h]
  · rfl

/-- An own block is written in place. -/
theorem write_ok {E : En} (I : Inv E) (o : Nm) (x x' : AObj) (hg : E.H.get o = some x) (hlive : x.live = true) (hlive' : x'.live = true) (cs : Array Value)
    (hcomp : Compat E ⟨E.w.setRow (E.φ o).1 cs, E.S, setφ E.φ o (E.φ o), (o, x') :: E.H⟩ o x x')
    (hro : Fit E ⟨E.w.setRow (E.φ o).1 cs, E.S, setφ E.φ o (E.φ o), (o, x') :: E.H⟩ → RO ⟨E.w.setRow (E.φ o).1 cs, E.S, setφ E.φ o (E.φ o), (o, x') :: E.H⟩ o x') :
    Inv ⟨E.w.setRow (E.φ o).1 cs, E.S, setφ E.φ o (E.φ o), (o, x') :: E.H⟩ ∧ Step E ⟨E.w.setRow (E.φ o).1 cs, E.S, setφ E.φ o (E.φ o), (o, x') :: E.H⟩ ∧ Fit E ⟨E.w.setRow (E.φ o).1 cs, E.S, setφ E.φ o (E.φ o), (o, x') :: E.H⟩ :=
  put_ok I o x' (E.φ o) _ rfl rfl rfl (by simp) hlive' (.inr ⟨x, hg, hlive, rfl⟩) (fun b _ hne => setRow_other _ _ _ _ hne) (fun y hy => by rw [hg] at hy; injection hy with hy; subst hy; exact hcomp) hro

theorem idx_apart {i i' s j off len : Nat} (hj : j < s) (hle : off + len ≤ s) (hne : i' ≠ i) : ¬ (i * s + off ≤ i' * s + j ∧ i' * s + j < i * s + off + len) := by
  rcases Nat.lt_or_ge i' i with h | h
  · have : (i' + 1) * s ≤ i * s := Nat.mul_le_mul_right _ h
    rw [Nat.add_mul] at this
    omega
  · have : (i + 1) * s ≤ i' * s := Nat.mul_le_mul_right _ (by omega)
    rw [Nat.add_mul] at this
    omega

theorem store_ok {P : Program} {E : En} (I : Inv E) {t : TypeId} {u v : Value} {p x : AV} {H' : Hp} (hp : RV E u p) (hx : RV E v x) (h : aStore P E.H t p x = some H') :
    OpS P E (do Instr.storeAt t u v; pure .skip) .undef H' := by
  unfold aStore at h
  simp only [Option.bind_eq_some_iff] at h
  obtain ⟨cs, hcs, n, hn, h⟩ := h
  split at h
  · rename_i hl
    subst hl
    obtain ⟨c, hc1, hc2, hc3, hc4⟩ := cells_rv hx hcs
    rw [← hc2] at hn
    cases p with
    | undef => cases h
    | d => cases h
    | nilsl => cases h
    | agg => cases h
    | tuple => cases h
    | own => cases h
    | rptr => cases h
    | fn => cases h
    | iface => cases h
    | ptr o off =>
      cases hp with
      | ptr _ _ vs hg =>
      simp only [wrAt, hg] at h
      split at h
      · rename_i hle
        injection h with h
        subst h
        obtain ⟨cur, ty, b1, b2, b3, b4⟩ := I.obj o _ hg
        have hrun := storeRun (P := P) E.w t (E.φ o).1 off v c hc1 hn hc3 cur ty b1 (by omega)
        have hle' : off + c.length ≤ cur.toList.length := by simp; omega
        obtain ⟨I', S', F'⟩ := write_ok I o (.cells vs) (.cells (splice vs off cs)) hg rfl rfl (splice cur.toList off c).toArray (setφ_self _ _ _) (fun f => by
          refine ⟨(splice cur.toList off c).toArray, ty, ?_, ?_, fun k w hk => ?_, fun k w a hk ha => ?_⟩
          · simp only [setφ_self]; exact setRow_heap _ _ cur _ ty _ b1
          · simp [splice_length _ _ _ hle', splice_length _ _ _ hle, b2]
          · rw [List.getElem?_toArray, splice_get _ _ _ hle'] at hk
            split at hk
            · exact hc3 w (List.mem_of_getElem? hk)
            · exact b3 k w (by simpa using hk)
          · rw [List.getElem?_toArray, splice_get _ _ _ hle'] at hk
            rw [splice_get _ _ _ hle, ← hc2] at ha
            split at hk
            · rename_i hin
              rw [if_pos hin] at ha
              exact (hc4 _ w a hk ha).mono f
            · rename_i hin
              rw [if_neg hin] at ha
              exact (b4 k w a (by simpa using hk) ha).mono f)
        exact ⟨undef, _, .skip, by simp only [Sem.run_bind, hrun, Result.andThen_ok, Sem.run_pure], .inr ⟨rfl, rfl⟩, .undef _, I', rfl, S', F'⟩
      · cases h
    | eptr o ver i off =>
      simp only [wrAt, Option.bind_eq_some_iff] at h
      obtain ⟨⟨xs, H1⟩, hs, h⟩ := h
      obtain ⟨E1, w1, e1, I1, S1, F1, l1, r1⟩ := sealL_ok I hc2 hc4 hs
      subst e1
      have hp1 := hp.mono F1
      cases hp1 with
      | eptr _ _ _ _ _ h1 ho =>
      obtain ⟨y, hg, hy⟩ := ho
      simp only [hg] at h
      cases y with
      | cells => exact hy.elim
      | frz => cases h
      | arr e s w es =>
      simp only [] at h
      split at h
      · rename_i hw
        subst hw
        simp only [Option.bind_eq_some_iff] at h
        obtain ⟨y, hyi, h⟩ := h
        split at h
        · rename_i hle
          injection h with h
          subst h
          obtain ⟨rfl, hin⟩ := hy.2 rfl
          obtain ⟨cur, b1, b2, b3, b4, b5, b6⟩ := I1.obj o _ hg
          have hys : y.length = s := b5 y (List.mem_of_getElem? hyi)
          have hi : i < es.length := hin
          have hfit : i * s + off + c.length ≤ cur.size := by
            have : (i + 1) * s ≤ (E1.φ o).2 * s := Nat.mul_le_mul_right _ (by omega)
            rw [Nat.add_mul] at this
            rw [b2]; omega
          have hle' : i * s + off + c.length ≤ cur.toList.length := by simp; omega
          have hrun := storeRun (P := P) E1.w t (E1.φ o).1 (i * s + off) v c hc1 hn hc3 cur e b1 hfit
          obtain ⟨I', S', F'⟩ := write_ok I1 o (.arr e s w es) (.arr e s w (es.set i (splice y off xs))) hg rfl rfl (splice cur.toList (i * s + off) c).toArray
            ⟨Nat.le_refl _, fun _ => ⟨rfl, setφ_self _ _ _, by simp⟩⟩ (fun f => by
            refine ⟨(splice cur.toList (i * s + off) c).toArray, ?_, ?_, ?_, ?_, fun z hz => ?_, fun i' z j d hz hd => ?_⟩
            · simp only [setφ_self]; exact setRow_heap _ _ cur _ e _ b1
            · simp only [setφ_self]; simp [splice_length _ _ _ hle', b2]
            · simp only [setφ_self]; simpa using b3
            · simp only [setφ_self]; exact b4
            · rcases List.mem_or_eq_of_mem_set hz with h | h
              · exact b5 z h
              · subst h; rw [splice_length _ _ _ hle]; exact hys
            · rw [List.getElem?_toArray, splice_get _ _ _ hle']
              by_cases hii : i' = i
              · subst hii
                rw [List.getElem?_set_self hi] at hz
                injection hz with hz
                subst hz
                rw [splice_get _ _ _ hle] at hd
                by_cases hj : off ≤ j ∧ j < off + xs.length
                · rw [if_pos hj] at hd
                  rw [if_pos (by omega)]
                  have hjl : i' * s + j - (i' * s + off) < c.length := by omega
                  refine ⟨_, List.getElem?_eq_getElem hjl, ?_⟩
                  have := r1 (i' * s + j - (i' * s + off)) _ d (List.getElem?_eq_getElem hjl) (by rw [show i' * s + j - (i' * s + off) = j - off by omega]; exact hd)
                  exact f.rep this
                · rw [if_neg hj] at hd
                  rw [if_neg (by omega)]
                  obtain ⟨u, hu, hu2⟩ := b6 i' y j d hyi hd
                  exact ⟨u, by simpa using hu, f.rep hu2⟩
              · rw [List.getElem?_set_ne (Ne.symm hii)] at hz
                have hj : j < s := by have := (List.getElem?_eq_some_iff.1 hd).1; have := b5 z (List.mem_of_getElem? hz); omega
                rw [if_neg (idx_apart hj (by omega) hii)]
                obtain ⟨u, hu, hu2⟩ := b6 i' z j d hz hd
                exact ⟨u, by simpa using hu, f.rep hu2⟩)
          refine ⟨undef, _, .skip, ?_, .inr ⟨rfl, rfl⟩, .undef _, I', rfl, S1.trans I1 S', F1.trans F'⟩
          rw [← w1]
          simp only [Sem.run_bind, hrun, Result.andThen_ok, Sem.run_pure]
        · cases h
      · cases h
  · cases h
end Go.Rx
