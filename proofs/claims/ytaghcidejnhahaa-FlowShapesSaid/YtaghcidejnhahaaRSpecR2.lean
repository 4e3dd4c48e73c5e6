/- The document's shape of a definition. -/
import Derived.Test.YtaghcidejnhahaaRSpecR
import Derived.Test.YtaghcidejnhahaaRSpecH
open Go Go.Rx
set_option linter.unusedVariables false
namespace Go.RxTree
/-- The fork within which a place lies directly. -/
def forkOf (fs : List Int) : Int := if 0 < fs.length then getI fs (fs.length - 1) else 0
theorem forkOf_nil : forkOf [] = 0 := rfl
theorem forkOf_some {fs : List Int} (h : fs.length ≠ 0) : forkOf fs = getI fs (fs.length - 1) := by rw [forkOf, if_pos (by omega)]
def rowF (l : List RowT) : List Int := l.map fun r => forkOf r.2
def rowD (l : List RowT) : List Int := l.map fun r => (r.2.length : Int)
/-- Is each place met, and has each fork a join? -/
def endR : List PlaceT → List RowT → List Int → Bool
  | p :: ps, r :: rs, j :: js => if r.1 = false ∨ (p.kind = 4 ∧ j = 0) then false else endR ps rs js
  | _, _, _ => true
theorem endR_drop {ps : List PlaceT} {rs : List RowT} {js : List Int} {i : Nat} {p : PlaceT} {b : Bool} {fs : List Int} {j : Int} (hp : ps[i]? = some p) (hr : rs[i]? = some (b, fs)) (hj : js[i]? = some j) :
    endR (ps.drop i) (rs.drop i) (js.drop i) = if b = false ∨ (p.kind = 4 ∧ j = 0) then false else endR (ps.drop (i + 1)) (rs.drop (i + 1)) (js.drop (i + 1)) := by
  obtain ⟨h1, h2⟩ := List.getElem?_eq_some_iff.1 hp
  obtain ⟨h3, h4⟩ := List.getElem?_eq_some_iff.1 hr
  obtain ⟨h5, h6⟩ := List.getElem?_eq_some_iff.1 hj
  rw [List.drop_eq_getElem_cons h1, List.drop_eq_getElem_cons h3, List.drop_eq_getElem_cons h5, endR, h2, h4, h6]
theorem endR_end {ps : List PlaceT} {rs : List RowT} {js : List Int} {i : Nat} (h : rs.length ≤ i) : endR (ps.drop i) (rs.drop i) (js.drop i) = true := by
  rw [List.drop_eq_nil_of_le (as := rs) h]
  generalize ps.drop i = a
  cases a <;> rfl
theorem rowF_drop {rs : List RowT} {i : Nat} {b : Bool} {fs : List Int} (hr : rs[i]? = some (b, fs)) : rowF (rs.drop i) = forkOf fs :: rowF (rs.drop (i + 1)) := by
  obtain ⟨h3, h4⟩ := List.getElem?_eq_some_iff.1 hr
  rw [List.drop_eq_getElem_cons h3, rowF, List.map_cons, h4]; rfl
theorem rowD_drop {rs : List RowT} {i : Nat} {b : Bool} {fs : List Int} (hr : rs[i]? = some (b, fs)) : rowD (rs.drop i) = (fs.length : Int) :: rowD (rs.drop (i + 1)) := by
  obtain ⟨h3, h4⟩ := List.getElem?_eq_some_iff.1 hr
  rw [List.drop_eq_getElem_cons h3, rowD, List.map_cons, h4]; rfl
end Go.RxTree
namespace Go.RxTree
/-- What was put together before a place that fails. -/
def badF : List PlaceT → List RowT → List Int → List Int
  | p :: ps, r :: rs, j :: js => if r.1 = false ∨ (p.kind = 4 ∧ j = 0) then [] else forkOf r.2 :: badF ps rs js
  | _, _, _ => []
def badD : List PlaceT → List RowT → List Int → List Int
  | p :: ps, r :: rs, j :: js => if r.1 = false ∨ (p.kind = 4 ∧ j = 0) then [] else (r.2.length : Int) :: badD ps rs js
  | _, _, _ => []
theorem badF_drop {ps : List PlaceT} {rs : List RowT} {js : List Int} {i : Nat} {p : PlaceT} {b : Bool} {fs : List Int} {j : Int} (hp : ps[i]? = some p) (hr : rs[i]? = some (b, fs)) (hj : js[i]? = some j) :
    badF (ps.drop i) (rs.drop i) (js.drop i) = if b = false ∨ (p.kind = 4 ∧ j = 0) then [] else forkOf fs :: badF (ps.drop (i + 1)) (rs.drop (i + 1)) (js.drop (i + 1)) := by
  obtain ⟨h1, h2⟩ := List.getElem?_eq_some_iff.1 hp
  obtain ⟨h3, h4⟩ := List.getElem?_eq_some_iff.1 hr
  obtain ⟨h5, h6⟩ := List.getElem?_eq_some_iff.1 hj
  rw [List.drop_eq_getElem_cons h1, List.drop_eq_getElem_cons h3, List.drop_eq_getElem_cons h5, badF, h2, h4, h6]
theorem badD_drop {ps : List PlaceT} {rs : List RowT} {js : List Int} {i : Nat} {p : PlaceT} {b : Bool} {fs : List Int} {j : Int} (hp : ps[i]? = some p) (hr : rs[i]? = some (b, fs)) (hj : js[i]? = some j) :
    badD (ps.drop i) (rs.drop i) (js.drop i) = if b = false ∨ (p.kind = 4 ∧ j = 0) then [] else (fs.length : Int) :: badD (ps.drop (i + 1)) (rs.drop (i + 1)) (js.drop (i + 1)) := by
  obtain ⟨h1, h2⟩ := List.getElem?_eq_some_iff.1 hp
  obtain ⟨h3, h4⟩ := List.getElem?_eq_some_iff.1 hr
  obtain ⟨h5, h6⟩ := List.getElem?_eq_some_iff.1 hj
  rw [List.drop_eq_getElem_cons h1, List.drop_eq_getElem_cons h3, List.drop_eq_getElem_cons h5, badD, h2, h4, h6]
end Go.RxTree
