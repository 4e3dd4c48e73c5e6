/- What holds of a walker when a place was left. -/
import Derived.Test.YtaghcidejnhahaaRSpecI
open Go Go.Rx
namespace Go.RxTree
set_option linter.unusedVariables false
/-- What a fork's join is. -/
def JAt (ps : List PlaceT) (w : Wk) (f j : Nat) : Prop :=
  getB w.met f = true ∧ kindAt ps f = 4 ∧ getB w.met j = true ∧ kindAt ps j = 5 ∧ getI w.fork j = (f : Int) ∧ ∀ p, ps[j]? = some p → ∀ o ∈ p.out, getB w.met o.to.toNat = true ∧ getI w.fork o.to.toNat = getI w.fork f
theorem JAt.ext {ps : List PlaceT} {w v : Wk} {f j : Nat} (h : JAt ps w f j) (e : Ext w v) : JAt ps v f j := by
  obtain ⟨h1, h2, h3, h4, h5, h6⟩ := h
  obtain ⟨a1, a2, a3⟩ := e.met f h1
  obtain ⟨b1, b2, b3⟩ := e.met j h3
  refine ⟨a1, h2, b1, h4, by rw [b2]; exact h5, fun p hp o ho => ?_⟩
  obtain ⟨c1, c2⟩ := h6 p hp o ho
  obtain ⟨d1, d2, d3⟩ := e.met _ c1
  exact ⟨d1, by rw [d2, a2]; exact c2⟩
def JInv (ps : List PlaceT) (w : Wk) : Prop := ∀ f : Nat, getI w.join f ≠ 0 → ∃ j : Nat, getI w.join f = (j : Int) ∧ JAt ps w f j
theorem JInv.ext {ps : List PlaceT} {w v : Wk} (h : JInv ps w) (e : Ext w v) : JInv ps v := fun f hf => by
  rw [e.join] at hf
  obtain ⟨j, h1, h2⟩ := h f hf
  exact ⟨j, by rw [e.join]; exact h1, h2.ext e⟩
theorem kind_some {ps : List PlaceT} {i : Nat} {p : PlaceT} (h : ps[i]? = some p) : kindAt ps i = p.kind := by rw [kindAt, h]; rfl
theorem fail_err {w : Wk} {e : Int} (h : e ≠ 0) : (w.fail e).err ≠ 0 := fl_ne h
theorem leave_inv {ps : List PlaceT} {w : Wk} {n i : Nat} {p : PlaceT} (hl : w.Len n) (hi : i < n) (hp : ps[i]? = some p) (ho : outsOk p.out n) (h0 : p.kind = 4 → i ≠ 0) (hb : ∀ z ∈ w.fork, 0 ≤ z ∧ z < (n : Int)) (I : WInv ps w) (J : JInv ps w) (hm : getB w.met i = true) (he : (leaveS p w i).err = 0) :
    WInv ps (leaveS p w i) ∧ JInv ps (leaveS p w i) := by
  obtain ⟨l1, l2, l3, l4, l5⟩ := hl
  have hl : w.Len n := ⟨l1, l2, l3, l4, l5⟩
  have hc := I.ctx i hm
  unfold leaveS at he ⊢
  by_cases g8 : p.kind = 8
  · rw [if_pos g8] at he ⊢
    split
    · exact ⟨I, J⟩
    · rename_i h
      rw [if_neg h] at he
      exact absurd he (fail_err (by decide))
  · rw [if_neg g8] at he ⊢
    by_cases g4 : p.kind = 4
    · rw [if_pos g4] at he ⊢
      have hw1 : Wk.Len { w with up := w.up.set i (getI w.fork i) } n := ⟨l1, l2, l3, l4, by simpa using l5⟩
      have up : ∀ f dp, Ctx ps w f dp → Ctx ps { w with up := w.up.set i (getI w.fork i) } f dp := fun f dp h => by
        refine ⟨h.1, fun hf => ?_⟩
        obtain ⟨g, h1, h2, h3, h4, h5⟩ := h.2 hf
        refine ⟨g, h1, h2, h3, h4, ?_⟩
        dsimp only
        rw [getI_set (by omega)]
        split
        · rename_i hig; rw [hig]
        · exact h5
      have I1 : WInv ps { w with up := w.up.set i (getI w.fork i) } := ⟨fun j hj => up _ _ (I.ctx j hj), I.next⟩
      have hc1 : Ctx ps { w with up := w.up.set i (getI w.fork i) } (i : Int) (getI w.deep i + 1) := by
        refine ⟨fun h => absurd h (by have := h0 g4; omega), fun _ => ⟨i, rfl, hm, by rw [kind_some hp]; exact g4, rfl, ?_⟩⟩
        dsimp only
        rw [getI_set (by omega), if_pos rfl]
      obtain ⟨a1, a2, a3⟩ := outs_ext hw1 ho I1 hc1 he
      exact ⟨a2, JInv.ext (w := { w with up := w.up.set i (getI w.fork i) }) J a1⟩
    · rw [if_neg g4] at he ⊢
      by_cases g5 : p.kind = 5
      · rw [if_pos g5] at he ⊢
        split
        · rename_i h
          rw [if_pos h] at he
          exact absurd he (fail_err (by decide))
        · rename_i h
          rw [if_neg h] at he
          have hf0 : getI w.fork i ≠ 0 := fun hh => h (.inl hh)
          obtain ⟨g, c1, c2, c3, c4, c5⟩ := hc.2 hf0
          have hfb := getI_mem (P := fun z => 0 ≤ z ∧ z < (n : Int)) hb (i := i) (by omega)
          rw [c1, Int.toNat_natCast] at he ⊢
          have hgn : g < n := by omega
          have hw1 : Wk.Len { w with join := w.join.set g (i : Int) } n := ⟨l1, l2, l3, by simpa using l4, l5⟩
          have I1 : WInv ps { w with join := w.join.set g (i : Int) } := ⟨I.ctx, I.next⟩
          have hc1 : Ctx ps { w with join := w.join.set g (i : Int) } (getI w.up g) (getI w.deep i - 1) := by
            have := I.ctx g c2
            rw [c5, c4, Int.add_sub_cancel]
            exact this
          obtain ⟨a1, a2, a3⟩ := outs_ext hw1 ho I1 hc1 he
          refine ⟨a2, fun f hf => ?_⟩
          rw [a1.join] at hf ⊢
          dsimp only at hf ⊢
          rw [getI_set (by omega)] at hf ⊢
          by_cases hgf : g = f
          · subst hgf
            rw [if_pos rfl] at hf ⊢
            obtain ⟨d1, d2, d3⟩ := a1.met g c2
            obtain ⟨e1, e2, e3⟩ := a1.met i hm
            refine ⟨i, rfl, d1, c3, e1, by rw [kind_some hp]; exact g5, by rw [e2]; exact c1, fun q hq o hoq => ?_⟩
            obtain rfl : p = q := by rw [hp] at hq; exact Option.some.inj hq
            obtain ⟨f1, f2⟩ := a3 o hoq
            exact ⟨f1, by rw [f2, d2]; exact c5⟩
          · rw [if_neg hgf] at hf ⊢
            obtain ⟨j, j1, j2⟩ := J f hf
            exact ⟨j, j1, JAt.ext (w := { w with join := w.join.set g (i : Int) }) j2 a1⟩
      · rw [if_neg g5] at he ⊢
        obtain ⟨a1, a2, a3⟩ := outs_ext hl ho I hc he
        exact ⟨a2, J.ext a1⟩
end Go.RxTree
