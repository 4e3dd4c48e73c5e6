/- How large trees and definitions are. -/
import Derived.Test.YtaghcidejnhahaaRSpecB
open Go Go.Rx
namespace Go.RxTree
set_option linter.unusedVariables false
set_option linter.unusedSimpArgs false
def wB : Int := 288230376151711744
mutual
def weighT : T → Int → Int → Int
  | .mk _ _ s l, most, deep => weighL l most deep (1 + (s.length : Int) / 40)
def weighL : List T → Int → Int → Int → Int
  | [], _, _, n => n
  | t :: r, most, deep, n => if n ≤ most then (if deep = 0 then most + 1 else weighL r most deep (n + weighT t (most - n) (deep - 1))) else n
end
theorem weighL_drop {l : List T} {i : Nat} {x : T} {most deep n : Int} (h : l[i]? = some x) : weighL (l.drop i) most deep n = if n ≤ most then (if deep = 0 then most + 1 else weighL (l.drop (i + 1)) most deep (n + weighT x (most - n) (deep - 1))) else n := by
  obtain ⟨h1, e1⟩ := List.getElem?_eq_some_iff.1 h
  rw [List.drop_eq_getElem_cons h1, e1, weighL]
theorem weighL_stop {l : List T} {most deep n : Int} (h : ¬ n ≤ most) : weighL l most deep n = n := by
  cases l with
  | nil => rfl
  | cons t r => rw [weighL, if_neg h]
theorem name_q (s : List UInt8) (h : s.length ≤ maxLen) (c : Int) (hc : 40 ≤ c) : 0 ≤ (s.length : Int) / c ∧ (s.length : Int) / c + 1 ≤ wB := by
  have hm : (maxLen : Int) ≤ 9223372036854775807 := by decide
  have h0 : (s.length : Int) ≤ 9223372036854775807 := by omega
  have h1 : (s.length : Int) / c ≤ (s.length : Int) / 40 := by
    have e := Int.mul_ediv_add_emod (s.length : Int) c
    have e2 := Int.emod_nonneg (s.length : Int) (show c ≠ 0 by omega)
    have e3 : 0 ≤ (s.length : Int) / c := Int.ediv_nonneg (by omega) (by omega)
    have e4 : 40 * ((s.length : Int) / c) ≤ c * ((s.length : Int) / c) := Int.mul_le_mul_of_nonneg_right hc e3
    omega
  refine ⟨Int.ediv_nonneg (by omega) (by omega), ?_⟩
  unfold wB; omega
mutual
theorem weighT_b : ∀ (t : T) (most deep : Int), t.Ok → 0 ≤ most → 1 ≤ weighT t most deep ∧ weighT t most deep ≤ most + wB
  | .mk k n s l, most, deep, h, hm => by
    obtain ⟨h1, h2, h3, h4, h5⟩ := h
    rw [weighT]
    have := name_q s h3 40 (by omega)
    exact weighL_b l most deep _ h5 hm (by omega) (by omega)
theorem weighL_b : ∀ (l : List T) (most deep n : Int), OkL l → 0 ≤ most → 1 ≤ n → n ≤ most + wB → 1 ≤ weighL l most deep n ∧ weighL l most deep n ≤ most + wB
  | [], most, deep, n, h, hm, h1, h2 => by rw [weighL]; omega
  | t :: r, most, deep, n, h, hm, h1, h2 => by
    rw [weighL]
    split
    · split
      · unfold wB; omega
      · have := weighT_b t (most - n) (deep - 1) h.1 (by omega)
        exact weighL_b r most deep _ h.2 hm (by omega) (by omega)
    · omega
end
abbrev plH (s : Nat) (p : PlaceT) : Nm × AObj := (.slot s, .cells [.d (.int .i64 p.kind), .d (.str p.name), .d (.int .i64 p.n), .d (.list (cellsL p.arg)), .d (.list (p.out.map FlowT.cells))])
abbrev dfH (s : Nat) (d : DefT) : Nm × AObj := (.slot s, .cells [.d (.str d.id), .d (.list (d.places.map PlaceT.cells))])
def wC : Int := 1152921504606846976
def wArgs (most : Int) : List T → Int → Int
  | [], n => n
  | x :: r, n => if n ≤ most then wArgs most r (n + weighT x most 30) else n
def wFlows (most : Int) : List FlowT → Int → Int
  | [], n => n
  | f :: r, n => if n ≤ most then wFlows most r (wArgs most f.iff n) else n
def wPlaces (most : Int) : List PlaceT → Int → Int
  | [], n => n
  | p :: r, n => if n ≤ most then wPlaces most r (wFlows most p.out (wArgs most p.arg (n + 1 + (p.name.length : Int) / 60 + (p.out.length : Int)))) else n
def weightD (d : DefT) (most : Int) : Int := wPlaces most d.places ((d.id.length : Int) / 100)
section
variable {most n : Int} {i : Nat}
theorem wArgs_drop {l : List T} {x : T} (h : l[i]? = some x) : wArgs most (l.drop i) n = if n ≤ most then wArgs most (l.drop (i + 1)) (n + weighT x most 30) else n := by
  obtain ⟨h1, e1⟩ := List.getElem?_eq_some_iff.1 h
  rw [List.drop_eq_getElem_cons h1, e1, wArgs]
theorem wFlows_drop {l : List FlowT} {x : FlowT} (h : l[i]? = some x) : wFlows most (l.drop i) n = if n ≤ most then wFlows most (l.drop (i + 1)) (wArgs most x.iff n) else n := by
  obtain ⟨h1, e1⟩ := List.getElem?_eq_some_iff.1 h
  rw [List.drop_eq_getElem_cons h1, e1, wFlows]
theorem wPlaces_drop {l : List PlaceT} {p : PlaceT} (h : l[i]? = some p) : wPlaces most (l.drop i) n = if n ≤ most then wPlaces most (l.drop (i + 1)) (wFlows most p.out (wArgs most p.arg (n + 1 + (p.name.length : Int) / 60 + (p.out.length : Int)))) else n := by
  obtain ⟨h1, e1⟩ := List.getElem?_eq_some_iff.1 h
  rw [List.drop_eq_getElem_cons h1, e1, wPlaces]
theorem wArgs_b (hm : 0 ≤ most ∧ most ≤ 1099511627776) : ∀ (l : List T) (n : Int), OkL l → 0 ≤ n → n ≤ wC → 0 ≤ wArgs most l n ∧ wArgs most l n ≤ wC
  | [], n, h, h1, h2 => ⟨h1, h2⟩
  | x :: r, n, h, h1, h2 => by
    rw [wArgs]
    split
    · have := weighT_b x most 30 h.1 hm.1
      unfold wB at this; unfold wC at h2
      exact wArgs_b hm r _ h.2 (by omega) (by unfold wC; omega)
    · exact ⟨h1, h2⟩
theorem wFlows_b (hm : 0 ≤ most ∧ most ≤ 1099511627776) : ∀ (l : List FlowT) (n : Int), (∀ f ∈ l, f.Ok) → 0 ≤ n → n ≤ wC → 0 ≤ wFlows most l n ∧ wFlows most l n ≤ wC
  | [], n, h, h1, h2 => ⟨h1, h2⟩
  | f :: r, n, h, h1, h2 => by
    rw [wFlows]
    split
    · have := wArgs_b hm f.iff n (h f (by simp)).2.2 h1 h2
      exact wFlows_b hm r _ (fun g hg => h g (by simp [hg])) this.1 this.2
    · exact ⟨h1, h2⟩
end
end Go.RxTree
