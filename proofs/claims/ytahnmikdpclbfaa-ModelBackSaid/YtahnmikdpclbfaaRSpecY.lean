/- Definitions as bytes; what a definition that may be has. -/
import Derived.Test.YtahnmikdpclbfaaRSpecX
set_option linter.unusedVariables false
set_option linter.unusedSimpArgs false
namespace Go.RxTree
open Go Go.Rx
def maybeB (l : List T) : List UInt8 := UInt8.ofNat l.length :: exprL l
def flowB (f : FlowT) : List UInt8 := uintB f.to.toNat ++ maybeB f.iff
def flowsB (l : List FlowT) : List UInt8 := l.flatMap flowB
def placeB (p : PlaceT) : List UInt8 := UInt8.ofNat p.kind.toNat :: (bytesB p.name ++ (uintB p.n.toNat ++ (maybeB p.arg ++ (uintB p.out.length ++ flowsB p.out))))
def placesB (l : List PlaceT) : List UInt8 := l.flatMap placeB
def defB (d : DefT) : List UInt8 := bytesB d.id ++ (uintB d.places.length ++ placesB d.places)
/-- None, or a tree that may be. -/
def GoodL (l : List T) : Prop := l.length ≤ 1 ∧ ∀ x ∈ l, checkT x 1 = 0
structure GoodF (n : Int) (f : FlowT) : Prop where
  to : 1 ≤ f.to ∧ f.to < n
  iff : GoodL f.iff
structure GoodP (n : Int) (p : PlaceT) : Prop where
  kind : 1 ≤ p.kind ∧ p.kind ≤ 9
  name : p.name.length ≤ 32
  num : 0 ≤ p.n ∧ p.n ≤ 9
  arg : GoodL p.arg
  few : p.out.length ≤ 16
  out : ∀ f ∈ p.out, GoodF n f
structure GoodD (d : DefT) : Prop where
  id : d.id.length ≤ 32
  some : 1 ≤ d.places.length
  few : d.places.length ≤ 4096
  places : ∀ p ∈ d.places, GoodP d.places.length p
theorem typedS_chk {x : T} {b : Bool} (h : typedS x b = 0) : checkT x 1 = 0 := by
  unfold typedS at h
  by_cases h1 : (truthP x).2 = 0
  · unfold truthP at h1
    by_cases h2 : checkT x 1 = 0
    · exact h2
    · rw [if_pos h2] at h1; exact absurd h1 h2
  · rw [if_pos h1] at h; exact absurd h h1
theorem nameOk_len {s : List UInt8} (h : nameOk s = true) : s.length ≤ 32 := by
  simp only [Bool.and_eq_true, nameOk, decide_eq_true_eq] at h; omega
theorem good_arg {l : List T} (h : l.length ≤ 1) (ha : argS l = 0) : GoodL l := by
  refine ⟨h, fun x hx => ?_⟩
  match l, h, ha, hx with
  | [y], _, ha, hx =>
    simp only [List.mem_singleton] at hx
    subst hx
    exact typedS_chk (b := false) (by simpa [argS] using ha)
theorem good_name {k : Int} {s : List UInt8} (h : badName k s = false) : s.length ≤ 32 := by
  unfold badName at h
  split at h
  · simp only [Bool.or_eq_false_iff, Bool.not_eq_false'] at h
    exact nameOk_len h.1
  · have : s = [] := by simpa using h
    subst this; simp
theorem fields_good {p : PlaceT} (h : fieldsS p = 0) : (1 ≤ p.kind ∧ p.kind ≤ 9) ∧ p.name.length ≤ 32 ∧ (0 ≤ p.n ∧ p.n ≤ 9) ∧ GoodL p.arg ∧ p.out.length ≤ 16 := by
  unfold fieldsS at h
  split at h
  · cases h
  · rename_i h1
    split at h
    · cases h
    · rename_i h2
      split at h
      · cases h
      · rename_i h3
        split at h
        · cases h
        · rename_i h4
          split at h
          · cases h
          · rename_i h5
            have ha : (p.arg.length : Int) = argN p.kind := Decidable.byContradiction h4
            have hb : argN p.kind ≤ 1 := by unfold argN; split <;> omega
            have hm : mostK p.kind ≤ 16 := by unfold mostK; split <;> (try split) <;> omega
            exact ⟨by omega, good_name (by simpa using h2), by omega, good_arg (by omega) h, by omega⟩
theorem flows_good {k n : Int} : ∀ (l : List FlowT), flowsL k n l = 0 → ∀ f ∈ l, GoodF n f
  | [], h, f, hf => by cases hf
  | g :: r, h, f, hf => by
    rw [flowsL] at h
    split at h
    · cases h
    · rename_i h1
      have hg : GoodL g.iff ∧ flowsL k n r = 0 := by
        split at h
        · split at h
          · rename_i h3
            have : g.iff = [] := List.eq_nil_of_length_eq_zero (by omega)
            rw [this]; exact ⟨⟨by simp, fun x hx => by cases hx⟩, h⟩
          · cases h
        · rcases hi : g.iff with _ | ⟨x, _ | ⟨y, q⟩⟩
          · rw [hi] at h
            simp only [] at h
            split at h
            · exact ⟨⟨by simp, fun x hx => by cases hx⟩, h⟩
            · cases h
          · rw [hi] at h
            simp only [] at h
            split at h
            · rename_i h5
              exact ⟨⟨by simp, fun z hz => by simp only [List.mem_singleton] at hz; subst hz; exact typedS_chk h5⟩, h⟩
            · rename_i h5; exact absurd h h5
          · rw [hi] at h; cases h
      rcases List.mem_cons.1 hf with rfl | hf
      · exact ⟨by omega, hg.1⟩
      · exact flows_good r hg.2 f hf
theorem places_good {n : Int} : ∀ (b : Bool) (l : List PlaceT), placesL n b l = 0 → ∀ p ∈ l, GoodP n p
  | b, [], h, p, hp => by cases hp
  | b, q :: r, h, p, hp => by
    rw [placesL] at h
    split at h
    · rename_i h1; exact absurd h h1
    · rename_i h1
      split at h
      · cases h
      · split at h
        · rename_i h3; exact absurd h h3
        · rename_i h3
          rcases List.mem_cons.1 hp with rfl | hp
          · obtain ⟨a1, a2, a3, a4, a5⟩ := fields_good (Decidable.byContradiction h1)
            exact ⟨a1, a2, a3, a4, a5, flows_good _ (Decidable.byContradiction h3)⟩
          · exact places_good false r h p hp
theorem check_good {d : DefT} (h : checkD d = 0) : GoodD d := by
  unfold checkD at h
  split at h
  · cases h
  · rename_i h1
    split at h
    · cases h
    · rename_i h2
      split at h
      · cases h
      · rename_i h3
        exact ⟨nameOk_len (by simpa using h1), by omega, by omega, places_good true _ h⟩
theorem maybe_len {l : List T} (h : GoodL l) (ho : OkL l) : (maybeB l).length ≤ 4194305 := by
  obtain ⟨h1, h2⟩ := h
  match l, h1, h2, ho with
  | [], _, _, _ => simp [maybeB, exprL]
  | [x], _, h2, ho =>
    have := expr_most (h2 x (by simp)) ho.1
    simp [maybeB, exprL]; omega
theorem flow_len {n : Int} {f : FlowT} (hn : n ≤ 4096) (h : GoodF n f) (ho : f.Ok) : (flowB f).length ≤ 4194315 := by
  have h1 := maybe_len h.iff ho.2.2
  have h2 := h.to
  have h3 := uintB_len10 (n := f.to.toNat) (by omega)
  unfold flowB; rw [List.length_append]; omega
theorem flat_len {α : Type} {g : α → List UInt8} {b : Nat} : ∀ l : List α, (∀ x ∈ l, (g x).length ≤ b) → (l.flatMap g).length ≤ l.length * b
  | [], _ => by simp
  | x :: r, h => by
    have h1 := h x (by simp)
    have h2 := flat_len r (fun y hy => h y (by simp [hy]))
    rw [List.flatMap_cons, List.length_append, List.length_cons, Nat.add_mul]; omega
theorem flat_take {α : Type} {g : α → List UInt8} {l : List α} {i : Nat} {x : α} (h : l[i]? = some x) : (l.take (i + 1)).flatMap g = (l.take i).flatMap g ++ g x := by
  rw [List.take_add_one, h]; simp
theorem flat_le {α : Type} {g : α → List UInt8} {l : List α} {i : Nat} {x : α} (h : l[i]? = some x) : ((l.take i).flatMap g).length + (g x).length ≤ (l.flatMap g).length := by
  have e : l.flatMap g = (l.take (i + 1)).flatMap g ++ (l.drop (i + 1)).flatMap g := by rw [← List.flatMap_append, List.take_append_drop]
  rw [e, List.length_append, flat_take h, List.length_append]; omega
theorem place_len {n : Int} {p : PlaceT} (hn : n ≤ 4096) (h : GoodP n p) (ho : p.Ok) : (placeB p).length ≤ 80000000 := by
  obtain ⟨o1, o2, o3, o4, o5, o6, o7⟩ := ho
  have h1 := maybe_len h.arg o5
  have h2 := h.num
  have h3 := uintB_len10 (n := p.n.toNat) (by omega)
  have h4 := h.name
  have h5 := h.few
  have h6 := uintB_len10 (n := p.out.length) (by omega)
  have h7 := uintB_len10 (n := p.name.length) (by omega)
  have h8 := flat_len (g := flowB) (b := 4194315) p.out (fun f hf => flow_len hn (h.out f hf) (o7 f hf))
  have h9 : p.out.length * 4194315 ≤ 16 * 4194315 := Nat.mul_le_mul_right _ h5
  unfold placeB bytesB flowsB
  simp only [List.length_cons, List.length_append]; omega
theorem def_len {d : DefT} (h : GoodD d) (ho : d.Ok) : (placesB d.places).length ≤ 327680000000 ∧ (bytesB d.id).length ≤ 42 ∧ (uintB d.places.length).length ≤ 10 := by
  have h1 := h.few
  have h2 := flat_len (g := placeB) (b := 80000000) d.places (fun p hp => place_len (by omega) (h.places p hp) (ho.2.2 p hp))
  have h3 : d.places.length * 80000000 ≤ 4096 * 80000000 := Nat.mul_le_mul_right _ h1
  have h4 := uintB_len10 (n := d.places.length) (by omega)
  have h5 := h.id
  have h6 := uintB_len10 (n := d.id.length) (by omega)
  unfold placesB bytesB
  rw [List.length_append]; omega
end Go.RxTree
