/- What holds of a balanced definition's shape. -/
import Derived.Test.YtaghcidejnhahaaRSpecJ
open Go Go.Rx
namespace Go.RxTree
set_option linter.unusedVariables false
structure PsOk (ps : List PlaceT) (n : Nat) : Prop where
  len : ps.length = n
  pl : ∀ p ∈ ps, PlOk p n
  fork0 : ∀ (i : Nat) (p : PlaceT), ps[i]? = some p → p.kind = 4 → i ≠ 0
theorem check_ps {d : DefT} (h : checkD d = 0) : PsOk d.places d.places.length := ⟨rfl, (check_ok h).2.2, fun i p hp h4 h0 => by
  have := (check_start h hp).2 h0; omega⟩
theorem walk_err' {ps : List PlaceT} : ∀ {m : Nat} {w : Wk}, (walkS ps m w).err = 0 → w.err = 0
  | 0, w, h => h
  | m + 1, w, h => by
    by_cases he : w.err = 0
    · exact he
    · rw [walkS_err he] at h; exact h
theorem walk_inv {ps : List PlaceT} {n : Nat} (hps : PsOk ps n) : ∀ {m b : Nat} {w : Wk}, w.Len n → w.Bd n b → WInv ps w → JInv ps w → (walkS ps m w).err = 0 → WInv ps (walkS ps m w) ∧ JInv ps (walkS ps m w)
  | 0, b, w, hl, hb, I, J, he => ⟨I, J⟩
  | m + 1, b, w, hl, hb, I, J, he => by
    rw [walkS] at he ⊢
    by_cases hc : w.next = [] ∨ w.err ≠ 0
    · rw [if_pos hc]; exact ⟨I, J⟩
    · rw [if_neg hc] at he ⊢
      have hs := walk_err' he
      obtain ⟨me, fo, de, jo, up, nx, e⟩ := w
      cases nx with
      | nil => exact absurd (.inl rfl) hc
      | cons a r =>
        have ha := hb.next a (by simp)
        have hlt : a.toNat < ps.length := by have := hps.len; omega
        have hpi : ps[a.toNat]? = some ps[a.toNat] := List.getElem?_eq_getElem hlt
        have hst : stepS ps ⟨me, fo, de, jo, up, a :: r, e⟩ = leaveS ps[a.toNat] ⟨me, fo, de, jo, up, r, e⟩ a.toNat := by simp only [stepS, hpi]
        rw [hst] at he hs ⊢
        generalize ps[a.toNat] = p at *
        have hok := hps.pl p (List.mem_of_getElem? hpi)
        have hl1 : Wk.Len ⟨me, fo, de, jo, up, r, e⟩ n := hl
        have hb1 : Wk.Bd ⟨me, fo, de, jo, up, r, e⟩ n b := ⟨fun z hz => hb.next z (by simp [hz]), hb.fork, hb.up, hb.deep⟩
        have I1 : WInv ps ⟨me, fo, de, jo, up, r, e⟩ := ⟨I.ctx, fun z hz => I.next z (by simp [hz])⟩
        obtain ⟨q1, q2⟩ := leave_inv hl1 (by omega) hpi hok.out (hps.fork0 _ p hpi) hb.fork I1 J (I.next a (by simp)) hs
        exact walk_inv hps (leave_len hl1 hok.out).1 (leave_bd hl1 hb1 (by omega) hok.out) q1 q2 he
theorem getI_rep {n i : Nat} : getI (List.replicate n 0) i = 0 := by
  unfold getI; rw [List.getElem?_replicate]; split <;> rfl
theorem start_inv {ps : List PlaceT} {n : Nat} (h : 0 < n) : WInv ps (startW n) ∧ JInv ps (startW n) := by
  have hf : ∀ i, getI (startW n).fork i = 0 := fun i => by
    show getI ((List.replicate n 0).set 0 0) i = 0
    rw [getI_set (by simpa using h)]; split
    · rfl
    · exact getI_rep
  have hd : ∀ i, getI (startW n).deep i = 0 := hf
  refine ⟨⟨fun i hi => ?_, fun z hz => ?_⟩, fun f hj => absurd (getI_rep (n := n)) hj⟩
  · rw [hf, hd]; exact ⟨fun _ => rfl, fun h => absurd rfl h⟩
  · simp only [startW, List.mem_singleton] at hz ⊢
    subst hz
    rw [getB_set (by simpa using h)]; rfl
theorem endE_0 {w : Wk} : ∀ {l : List PlaceT} {i : Nat} {e : Int}, endE w l i e = 0 → e = 0 ∧ ∀ k p, l[k]? = some p → badP w p (i + k) = false
  | [], i, e, h => ⟨h, fun k p hp => by simp at hp⟩
  | q :: r, i, e, h => by
    rw [endE] at h
    obtain ⟨h1, h2⟩ := endE_0 h
    by_cases hb : badP w q i = true
    · rw [if_pos hb] at h1; exact absurd h1 (fl_ne (by decide))
    · rw [if_neg hb] at h1
      refine ⟨h1, fun k p hp => ?_⟩
      cases k with
      | zero =>
        simp only [List.getElem?_cons_zero, Option.some.injEq] at hp
        subst hp; simpa using hb
      | succ k =>
        have := h2 k p (by simpa using hp)
        rwa [show i + (k + 1) = i + 1 + k by omega]
/-- Of a balanced definition. -/
structure Bal (ps : List PlaceT) (n : Nat) (w : Wk) : Prop where
  len : w.Len n
  bd : w.Bd n n
  inv : WInv ps w
  jinv : JInv ps w
  met : ∀ i, i < n → getB w.met i = true
  join : ∀ (i : Nat) (p : PlaceT), ps[i]? = some p → p.kind = 4 → getI w.join i ≠ 0
theorem walk_bd {ps : List PlaceT} {n : Nat} (hps : PsOk ps n) : ∀ {m b : Nat} {w : Wk}, w.Len n → w.Bd n b → (walkS ps m w).Bd n (b + m)
  | 0, b, w, hl, hb => hb
  | m + 1, b, w, hl, hb => by
    rw [walkS]
    split
    · exact bd_up hb (by omega)
    · obtain ⟨me, fo, de, jo, up, nx, e⟩ := w
      cases nx with
      | nil => exact bd_up (walk_bd hps (b := b) (m := m) hl hb) (by omega)
      | cons a r =>
        have ha := hb.next a (by simp)
        have hlt : a.toNat < ps.length := by have := hps.len; omega
        have hpi : ps[a.toNat]? = some ps[a.toNat] := List.getElem?_eq_getElem hlt
        have hst : stepS ps ⟨me, fo, de, jo, up, a :: r, e⟩ = leaveS ps[a.toNat] ⟨me, fo, de, jo, up, r, e⟩ a.toNat := by simp only [stepS, hpi]
        rw [hst]
        generalize ps[a.toNat] = p at *
        have hok := hps.pl p (List.mem_of_getElem? hpi)
        have hl1 : Wk.Len ⟨me, fo, de, jo, up, r, e⟩ n := hl
        have hb1 : Wk.Bd ⟨me, fo, de, jo, up, r, e⟩ n b := ⟨fun z hz => hb.next z (by simp [hz]), hb.fork, hb.up, hb.deep⟩
        rw [show b + (m + 1) = b + 1 + m by omega]
        exact walk_bd hps (leave_len hl1 hok.out).1 (leave_bd hl1 hb1 (by omega) hok.out)
theorem walk_bal {ps : List PlaceT} {n : Nat} (hps : PsOk ps n) (hn : 0 < n) (h : walkE ps = 0) : Bal ps n (walkW ps) := by
  unfold walkE at h
  obtain ⟨h1, h2⟩ := endE_0 h
  have hw : walkW ps = walkS ps n (startW n) := by unfold walkW; rw [hps.len]
  rw [hw] at h1 h2 ⊢
  obtain ⟨s1, s2⟩ := start_inv (ps := ps) hn
  obtain ⟨i1, i2⟩ := walk_inv hps (start_len n) (start_bd hn) s1 s2 h1
  have hb := walk_bd hps (m := n) (start_len n) (start_bd hn)
  refine ⟨walk_len (fun p hp => (hps.pl p hp).out) (start_len n), bd_up hb (by omega), i1, i2, fun i hi => ?_, fun i p hp h4 => ?_⟩
  · have hlt : i < ps.length := by have := hps.len; omega
    have := h2 i ps[i] (List.getElem?_eq_getElem hlt)
    rw [Nat.zero_add] at this
    unfold badP at this
    simp only [Bool.or_eq_false_iff] at this
    simpa using this.1
  · have := h2 i p hp
    rw [Nat.zero_add] at this
    unfold badP at this
    simp only [Bool.or_eq_false_iff, Bool.and_eq_false_iff, decide_eq_false_iff_not] at this
    rcases this.2 with h | h
    · exact absurd h4 h
    · exact h
end Go.RxTree
