/- What a walk over a definition comes to. -/
import Derived.Test.YtaghcidejnhahaaRSpecB
open Go Go.Rx
namespace Go.RxTree
set_option linter.unusedVariables false
/-- The first error stays. -/
def fl (e e1 : Int) : Int := if e = 0 then e1 else e
theorem fl_0 (e1 : Int) : fl 0 e1 = e1 := rfl
theorem fl_e {e : Int} (h : e ≠ 0) (e1 : Int) : fl e e1 = e := by rw [fl, if_neg h]
def bC (l : List Bool) : List (List D) := l.map fun b => [.bool b]
def iC (l : List Int) : List (List D) := l.map fun z => [.int .i64 z]
theorem bC_len (l : List Bool) : (bC l).length = l.length := List.length_map ..
theorem iC_len (l : List Int) : (iC l).length = l.length := List.length_map ..
theorem bC_get {l : List Bool} {i : Nat} {b : Bool} (h : l[i]? = some b) : (bC l)[i]? = some [.bool b] := by rw [bC, List.getElem?_map, h]; rfl
theorem iC_get {l : List Int} {i : Nat} {z : Int} (h : l[i]? = some z) : (iC l)[i]? = some [.int .i64 z] := by rw [iC, List.getElem?_map, h]; rfl
theorem bC_set (l : List Bool) (i : Nat) (b : Bool) : (bC l).set i [.bool b] = bC (l.set i b) := by rw [bC, bC, List.map_set]
theorem iC_set (l : List Int) (i : Nat) (z : Int) : (iC l).set i [.int .i64 z] = iC (l.set i z) := by rw [iC, iC, List.map_set]
theorem iC_app (l : List Int) (z : Int) : (iC l).take l.length ++ [[.int .i64 z]] = iC (l ++ [z]) := by
  rw [List.take_of_length_le (by rw [iC_len]; exact Nat.le_refl _), iC, iC, List.map_append]; rfl
/-- A walker: which places were met; of each its fork, how deep, its join, the fork about it; what comes next; the first error. -/
structure Wk where
  met : List Bool
  fork : List Int
  deep : List Int
  join : List Int
  up : List Int
  next : List Int
  err : Int
/-- Rows of one length. -/
def Wk.Len (w : Wk) (n : Nat) : Prop := w.met.length = n ∧ w.fork.length = n ∧ w.deep.length = n ∧ w.join.length = n ∧ w.up.length = n
def getI (l : List Int) (i : Nat) : Int := l[i]?.getD 0
def getB (l : List Bool) (i : Nat) : Bool := l[i]?.getD false
theorem getI_some {l : List Int} {i : Nat} (h : i < l.length) : l[i]? = some (getI l i) := by rw [getI, List.getElem?_eq_getElem h]; rfl
theorem getB_some {l : List Bool} {i : Nat} (h : i < l.length) : l[i]? = some (getB l i) := by rw [getB, List.getElem?_eq_getElem h]; rfl
def Wk.fail (w : Wk) (e : Int) : Wk := { w with err := fl w.err e }
def enterS (w : Wk) (t : Nat) (f dp : Int) : Wk :=
  if getB w.met t = true then (if getI w.fork t = f then w else w.fail 8)
  else if dp > 16 then w.fail 6
  else { w with met := w.met.set t true, fork := w.fork.set t f, deep := w.deep.set t dp, next := w.next ++ [(t : Int)] }
def outsS (w : Wk) : List FlowT → Int → Int → Wk
  | [], f, dp => w
  | o :: r, f, dp => outsS (enterS w o.to.toNat f dp) r f dp
def leaveS (p : PlaceT) (w : Wk) (i : Nat) : Wk :=
  if p.kind = 8 then (if getI w.fork i = 0 then w else w.fail 8)
  else if p.kind = 4 then outsS { w with up := w.up.set i (getI w.fork i) } p.out (i : Int) (getI w.deep i + 1)
  else if p.kind = 5 then
    if getI w.fork i = 0 ∨ (getI w.join (getI w.fork i).toNat ≠ 0 ∧ getI w.join (getI w.fork i).toNat ≠ (i : Int)) then w.fail 8
    else outsS { w with join := w.join.set (getI w.fork i).toNat (i : Int) } p.out (getI w.up (getI w.fork i).toNat) (getI w.deep i - 1)
  else outsS w p.out (getI w.fork i) (getI w.deep i)
/-- How many places were not met. -/
def unmet (l : List Bool) : Nat := (l.filter fun b => !b).length
theorem unmet_set : ∀ {l : List Bool} {i : Nat}, l[i]? = some false → unmet (l.set i true) + 1 = unmet l
  | [], i, h => by simp at h
  | a :: r, 0, h => by
    simp only [List.getElem?_cons_zero, Option.some.injEq] at h
    subst h; simp [unmet]
  | a :: r, i + 1, h => by
    have := unmet_set (l := r) (i := i) (by simpa using h)
    cases a <;> simp [unmet] at * <;> omega
/-- How much there is still to do. -/
def Wk.mu (w : Wk) : Nat := w.next.length + unmet w.met
theorem fail_len {w : Wk} {n : Nat} (h : w.Len n) (e : Int) : (w.fail e).Len n := h
theorem enter_len {w : Wk} {n : Nat} (h : w.Len n) (t : Nat) (f dp : Int) : (enterS w t f dp).Len n := by
  obtain ⟨h1, h2, h3, h4, h5⟩ := h
  unfold enterS
  split
  · split
    · exact ⟨h1, h2, h3, h4, h5⟩
    · exact ⟨h1, h2, h3, h4, h5⟩
  · split
    · exact ⟨h1, h2, h3, h4, h5⟩
    · exact ⟨by simpa using h1, by simpa using h2, by simpa using h3, h4, h5⟩
theorem enter_mu {w : Wk} {n t : Nat} (h : w.Len n) (ht : t < n) (f dp : Int) : (enterS w t f dp).mu = w.mu := by
  obtain ⟨h1, h2, h3, h4, h5⟩ := h
  unfold enterS
  split
  · split <;> rfl
  · rename_i hm
    split
    · rfl
    · have := unmet_set (l := w.met) (i := t) (by rw [getB_some (by omega)]; simpa using hm)
      simp only [Wk.mu, List.length_append, List.length_singleton]; omega
/-- Each flow leads to a place. -/
def outsOk (l : List FlowT) (n : Nat) : Prop := ∀ f ∈ l, 1 ≤ f.to ∧ f.to < (n : Int)
theorem outs_len : ∀ {l : List FlowT} {w : Wk} {n : Nat} (f dp : Int), w.Len n → outsOk l n → (outsS w l f dp).Len n ∧ (outsS w l f dp).mu = w.mu
  | [], w, n, f, dp, h, ho => ⟨h, rfl⟩
  | o :: r, w, n, f, dp, h, ho => by
    have ht := ho o (by simp)
    obtain ⟨h1, h2⟩ := outs_len (l := r) f dp (enter_len h o.to.toNat f dp) (fun x hx => ho x (by simp [hx]))
    exact ⟨h1, by rw [outsS, h2, enter_mu h (by omega)]⟩
end Go.RxTree
