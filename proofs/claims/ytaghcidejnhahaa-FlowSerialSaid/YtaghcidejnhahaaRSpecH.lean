/- What a definition has that may be. -/
import Derived.Test.YtaghcidejnhahaaRSpecG
open Go Go.Rx
namespace Go.RxTree
set_option linter.unusedVariables false
structure PlOk (p : PlaceT) (n : Nat) : Prop where
  kind : 1 ≤ p.kind ∧ p.kind ≤ 9
  out : outsOk p.out n
  len : leastK p.kind ≤ (p.out.length : Int) ∧ (p.out.length : Int) ≤ mostK p.kind
theorem flows_ok {k : Int} {n : Nat} : ∀ {l : List FlowT}, flowsL k n l = 0 → outsOk l n
  | [], h => fun f hf => by cases hf
  | f :: r, h => by
    rw [flowsL] at h
    split at h
    · cases h
    · rename_i h1
      have hr : flowsL k n r = 0 := by
        split at h
        · split at h
          · exact h
          · cases h
        · split at h
          · split at h
            · exact h
            · cases h
          · split at h
            · exact h
            · rename_i h2; exact absurd h h2
          · cases h
      intro g hg
      rcases List.mem_cons.1 hg with rfl | hg
      · omega
      · exact flows_ok hr g hg
theorem fields_ok {p : PlaceT} (h : fieldsS p = 0) : (1 ≤ p.kind ∧ p.kind ≤ 9) ∧ leastK p.kind ≤ (p.out.length : Int) ∧ (p.out.length : Int) ≤ mostK p.kind := by
  unfold fieldsS at h
  split at h
  · cases h
  · split at h
    · cases h
    · split at h
      · cases h
      · split at h
        · cases h
        · split at h
          · cases h
          · omega
theorem places_ok {n : Nat} : ∀ {l : List PlaceT} {b : Bool}, placesL n b l = 0 → ∀ p ∈ l, PlOk p n
  | [], b, h => fun p hp => by cases hp
  | q :: r, b, h => by
    rw [placesL] at h
    split at h
    · rename_i h1; exact absurd h h1
    · rename_i h1
      split at h
      · cases h
      · split at h
        · rename_i h3; exact absurd h h3
        · rename_i h3
          intro p hp
          rcases List.mem_cons.1 hp with rfl | hp
          · obtain ⟨f1, f2⟩ := fields_ok (p := p) (by omega)
            exact ⟨f1, flows_ok (k := p.kind) (by omega), f2⟩
          · exact places_ok h p hp
theorem check_ok {d : DefT} (h : checkD d = 0) : d.places.length ≤ 4096 ∧ 0 < d.places.length ∧ ∀ p ∈ d.places, PlOk p d.places.length := by
  unfold checkD at h
  split at h
  · cases h
  · split at h
    · cases h
    · split at h
      · cases h
      · exact ⟨by omega, by omega, places_ok h⟩
theorem most_16 (k : Int) : mostK k ≤ 16 := by unfold mostK; split <;> (try split) <;> omega
theorem check_out {d : DefT} (h : checkD d = 0) : ∀ p ∈ d.places, outsOk p.out d.places.length ∧ p.out.length ≤ 16 := fun p hp => by
  have hq := (check_ok h).2.2 p hp
  have := hq.len
  have := most_16 p.kind
  exact ⟨hq.out, by omega⟩
/-- The first place is the only start. -/
theorem places_start {n : Nat} : ∀ {l : List PlaceT}, placesL n false l = 0 → ∀ p ∈ l, p.kind ≠ 1
  | [], h => fun p hp => by cases hp
  | q :: r, h => by
    rw [placesL] at h
    split at h
    · rename_i h1; exact absurd h h1
    · split at h
      · cases h
      · rename_i h2
        split at h
        · rename_i h3; exact absurd h h3
        · intro p hp
          rcases List.mem_cons.1 hp with rfl | hp
          · simpa using h2
          · exact places_start h p hp
theorem check_start {d : DefT} (h : checkD d = 0) {i : Nat} {p : PlaceT} (hp : d.places[i]? = some p) : p.kind = 1 ↔ i = 0 := by
  unfold checkD at h
  split at h
  · cases h
  · split at h
    · cases h
    · split at h
      · cases h
      · generalize hl : d.places = l at *
        cases l with
        | nil => simp at hp
        | cons q r =>
          generalize ((q :: r).length : Nat) = n at h
          rw [placesL] at h
          split at h
          · rename_i h1; exact absurd h h1
          · split at h
            · cases h
            · rename_i h2
              split at h
              · rename_i h3; exact absurd h h3
              · cases i with
                | zero =>
                  simp only [List.getElem?_cons_zero, Option.some.injEq] at hp
                  subst hp
                  simpa using h2
                | succ i =>
                  have := places_start h p (List.mem_of_getElem? (by simpa using hp))
                  exact ⟨fun h => absurd h this, fun h => by omega⟩
/-- Which definitions are balanced, and which shape they have. -/
def ofErr (d : DefT) : Int := if checkD d = 0 then walkE d.places else checkD d
def ofFork (d : DefT) : List Int := if ofErr d = 0 then (walkW d.places).fork else []
def ofDeep (d : DefT) : List Int := if ofErr d = 0 then (walkW d.places).deep else []
def ofJoin (d : DefT) : List Int := if ofErr d = 0 then (walkW d.places).join else []
end Go.RxTree
