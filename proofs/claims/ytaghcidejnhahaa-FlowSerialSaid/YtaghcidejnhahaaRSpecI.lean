/- What holds of a walker at each step. -/
import Derived.Test.YtaghcidejnhahaaRSpecH
open Go Go.Rx
namespace Go.RxTree
set_option linter.unusedVariables false
def kindAt (ps : List PlaceT) (i : Nat) : Int := (ps[i]?.map PlaceT.kind).getD 0
/-- What is met stays as it is. -/
structure Ext (w v : Wk) : Prop where
  met : ∀ i, getB w.met i = true → getB v.met i = true ∧ getI v.fork i = getI w.fork i ∧ getI v.deep i = getI w.deep i
  up : v.up = w.up
  join : v.join = w.join
theorem Ext.rfl' (w : Wk) : Ext w w := ⟨fun i h => ⟨h, rfl, rfl⟩, rfl, rfl⟩
theorem Ext.trans {w v u : Wk} (h : Ext w v) (g : Ext v u) : Ext w u := by
  refine ⟨fun i hi => ?_, g.up.trans h.up, g.join.trans h.join⟩
  obtain ⟨h1, h2, h3⟩ := h.met i hi
  obtain ⟨g1, g2, g3⟩ := g.met i h1
  exact ⟨g1, g2.trans h2, g3.trans h3⟩
/-- May a place lie within that fork, so deep? -/
def Ctx (ps : List PlaceT) (w : Wk) (f dp : Int) : Prop :=
  (f = 0 → dp = 0) ∧ (f ≠ 0 → ∃ g : Nat, f = (g : Int) ∧ getB w.met g = true ∧ kindAt ps g = 4 ∧ dp = getI w.deep g + 1 ∧ getI w.up g = getI w.fork g)
theorem Ctx.ext {ps : List PlaceT} {w v : Wk} {f dp : Int} (h : Ctx ps w f dp) (e : Ext w v) : Ctx ps v f dp := by
  refine ⟨h.1, fun hf => ?_⟩
  obtain ⟨g, h1, h2, h3, h4, h5⟩ := h.2 hf
  obtain ⟨e1, e2, e3⟩ := e.met g h2
  exact ⟨g, h1, e1, h3, by rw [e3]; exact h4, by rw [e.up, e2]; exact h5⟩
structure WInv (ps : List PlaceT) (w : Wk) : Prop where
  ctx : ∀ i, getB w.met i = true → Ctx ps w (getI w.fork i) (getI w.deep i)
  next : ∀ z ∈ w.next, getB w.met z.toNat = true
theorem getB_set {l : List Bool} {i j : Nat} (h : i < l.length) (b : Bool) : getB (l.set i b) j = if i = j then b else getB l j := by
  unfold getB
  rw [List.getElem?_set]
  split <;> rename_i h1
  · subst h1; first | rfl | (rw [if_pos h]; rfl)
  · rfl
theorem getI_set {l : List Int} {i j : Nat} (h : i < l.length) (b : Int) : getI (l.set i b) j = if i = j then b else getI l j := by
  unfold getI
  rw [List.getElem?_set]
  split <;> rename_i h1
  · subst h1; first | rfl | (rw [if_pos h]; rfl)
  · rfl
theorem fl_ne {e e1 : Int} (h : e1 ≠ 0) : fl e e1 ≠ 0 := by unfold fl; split <;> assumption
theorem enter_ext {ps : List PlaceT} {w : Wk} {n t : Nat} {f dp : Int} (hl : w.Len n) (ht : t < n) (hi : WInv ps w) (hc : Ctx ps w f dp) (he : (enterS w t f dp).err = 0) :
    Ext w (enterS w t f dp) ∧ WInv ps (enterS w t f dp) ∧ getB (enterS w t f dp).met t = true ∧ getI (enterS w t f dp).fork t = f := by
  obtain ⟨l1, l2, l3, l4, l5⟩ := hl
  unfold enterS at he ⊢
  split
  · rename_i h1
    rw [if_pos h1] at he
    split
    · rename_i h2
      exact ⟨Ext.rfl' w, hi, h1, h2⟩
    · rename_i h2
      rw [if_neg h2] at he
      exact absurd he (fl_ne (by decide))
  · rename_i h1
    rw [if_neg h1] at he
    split
    · rename_i h2
      rw [if_pos h2] at he
      exact absurd he (fl_ne (by decide))
    · rename_i h2
      have e : Ext w { w with met := w.met.set t true, fork := w.fork.set t f, deep := w.deep.set t dp, next := w.next ++ [(t : Int)] } := by
        refine ⟨fun i hm => ?_, rfl, rfl⟩
        have hne : t ≠ i := fun h => h1 (by rw [h]; exact hm)
        dsimp only
        rw [getB_set (by omega), getI_set (by omega), getI_set (by omega), if_neg hne, if_neg hne, if_neg hne]
        exact ⟨hm, rfl, rfl⟩
      refine ⟨e, ⟨fun i hm => ?_, fun z hz => ?_⟩, ?_, ?_⟩
      · dsimp only at hm ⊢
        rw [getB_set (by omega)] at hm
        rw [getI_set (by omega), getI_set (by omega)]
        by_cases hit : t = i
        · rw [if_pos hit, if_pos hit]; exact hc.ext e
        · rw [if_neg hit] at hm
          rw [if_neg hit, if_neg hit]; exact (hi.ctx i hm).ext e
      · dsimp only at hz ⊢
        rw [getB_set (by omega)]
        rcases List.mem_append.1 hz with h | h
        · rw [hi.next z h]; split <;> rfl
        · rw [List.mem_singleton] at h; subst h; rw [Int.toNat_natCast, if_pos rfl]
      · dsimp only; rw [getB_set (by omega), if_pos rfl]
      · dsimp only; rw [getI_set (by omega), if_pos rfl]
theorem enter_err {w : Wk} (h : w.err ≠ 0) (t : Nat) (f dp : Int) : (enterS w t f dp).err ≠ 0 := by
  unfold enterS Wk.fail
  split
  · split
    · exact h
    · rw [fl_e h]; exact h
  · split
    · rw [fl_e h]; exact h
    · exact h
theorem outs_err : ∀ {w : Wk}, w.err ≠ 0 → ∀ (l : List FlowT) (f dp : Int), (outsS w l f dp).err ≠ 0
  | w, h, [], f, dp => h
  | w, h, o :: r, f, dp => outs_err (enter_err h o.to.toNat f dp) r f dp
theorem outs_ext {ps : List PlaceT} {n : Nat} : ∀ {l : List FlowT} {w : Wk} {f dp : Int}, w.Len n → outsOk l n → WInv ps w → Ctx ps w f dp → (outsS w l f dp).err = 0 →
    Ext w (outsS w l f dp) ∧ WInv ps (outsS w l f dp) ∧ ∀ o ∈ l, getB (outsS w l f dp).met o.to.toNat = true ∧ getI (outsS w l f dp).fork o.to.toNat = f
  | [], w, f, dp, hl, ho, hi, hc, he => ⟨Ext.rfl' w, hi, fun o h => by cases h⟩
  | o :: r, w, f, dp, hl, ho, hi, hc, he => by
    have ht := ho o (by simp)
    have hl1 := enter_len hl o.to.toNat f dp
    rw [outsS] at he ⊢
    have e1 : (enterS w o.to.toNat f dp).err = 0 := by
      by_cases h : (enterS w o.to.toNat f dp).err = 0
      · exact h
      · exact absurd he (outs_err h r f dp)
    obtain ⟨a1, a2, a3, a4⟩ := enter_ext hl (by omega) hi hc e1
    obtain ⟨b1, b2, b3⟩ := outs_ext (l := r) hl1 (fun x hx => ho x (by simp [hx])) a2 (hc.ext a1) he
    refine ⟨a1.trans b1, b2, fun q hq => ?_⟩
    rcases List.mem_cons.1 hq with rfl | hq
    · obtain ⟨c1, c2, c3⟩ := b1.met _ a3
      exact ⟨c1, c2.trans a4⟩
    · exact b3 q hq
end Go.RxTree
