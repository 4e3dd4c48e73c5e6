/- A walk from place to place: bounds, and the walk as a whole. -/
import Derived.Test.YtaghcidejnhahaaRSpecF
open Go Go.Rx
namespace Go.RxTree
set_option linter.unusedVariables false
/-- What a walker names are places; no place is deeper than 16. -/
structure Wk.Bd (w : Wk) (n b : Nat) : Prop where
  next : ∀ z ∈ w.next, 0 ≤ z ∧ z < (n : Int)
  fork : ∀ z ∈ w.fork, 0 ≤ z ∧ z < (n : Int)
  up : ∀ z ∈ w.up, 0 ≤ z ∧ z < (n : Int)
  deep : ∀ z ∈ w.deep, -(b : Int) ≤ z ∧ z ≤ 16
theorem mem_set' {α : Type} {l : List α} {i : Nat} {a x : α} {P : α → Prop} (h : ∀ z ∈ l, P z) (ha : P a) (hx : x ∈ l.set i a) : P x := by
  rcases List.mem_or_eq_of_mem_set hx with h1 | rfl
  · exact h _ h1
  · exact ha
theorem getI_mem {l : List Int} {i : Nat} {P : Int → Prop} (h : ∀ z ∈ l, P z) (hi : i < l.length) : P (getI l i) := h _ (List.mem_of_getElem? (getI_some hi))
theorem fail_bd {w : Wk} {n b : Nat} (h : w.Bd n b) (e : Int) : (w.fail e).Bd n b := ⟨h.next, h.fork, h.up, h.deep⟩
theorem enter_bd {w : Wk} {n b t : Nat} (h : w.Bd n b) (ht : t < n) {f dp : Int} (hf : 0 ≤ f ∧ f < (n : Int)) (hd : -(b : Int) ≤ dp) : (enterS w t f dp).Bd n b := by
  unfold enterS
  split
  · split
    · exact h
    · exact fail_bd h _
  · split
    · exact fail_bd h _
    · refine ⟨fun z hz => ?_, fun z hz => mem_set' (P := fun z => 0 ≤ z ∧ z < (n : Int)) h.fork hf hz, h.up, fun z hz => mem_set' (P := fun z => -(b : Int) ≤ z ∧ z ≤ 16) h.deep ⟨hd, by omega⟩ hz⟩
      rcases List.mem_append.1 hz with h1 | h1
      · exact h.next z h1
      · rw [List.mem_singleton] at h1; omega
theorem outs_bd : ∀ {l : List FlowT} {w : Wk} {n b : Nat} {f dp : Int}, w.Bd n b → outsOk l n → 0 ≤ f ∧ f < (n : Int) → -(b : Int) ≤ dp → (outsS w l f dp).Bd n b
  | [], w, n, b, f, dp, h, ho, hf, hd => h
  | o :: r, w, n, b, f, dp, h, ho, hf, hd => by
    have ht := ho o (by simp)
    exact outs_bd (l := r) (enter_bd h (by omega) hf hd) (fun x hx => ho x (by simp [hx])) hf hd
theorem bd_up {w : Wk} {n b c : Nat} (h : w.Bd n b) (hb : b ≤ c) : w.Bd n c := ⟨h.next, h.fork, h.up, fun z hz => by have := h.deep z hz; omega⟩
theorem leave_bd {w : Wk} {n b i : Nat} {p : PlaceT} (hl : w.Len n) (h : w.Bd n b) (hi : i < n) (ho : outsOk p.out n) : (leaveS p w i).Bd n (b + 1) := by
  obtain ⟨l1, l2, l3, l4, l5⟩ := hl
  have hf := getI_mem h.fork (i := i) (by omega)
  have hd := getI_mem (P := fun z => -(b : Int) ≤ z ∧ z ≤ 16) h.deep (i := i) (by omega)
  have h' := bd_up h (Nat.le_succ b)
  have hu := getI_mem h.up (i := (getI w.fork i).toNat) (by omega)
  unfold leaveS
  split
  · split
    · exact h'
    · exact fail_bd h' _
  · split
    · exact outs_bd ⟨h'.next, h'.fork, fun z hz => mem_set' (P := fun z => 0 ≤ z ∧ z < (n : Int)) h.up hf hz, h'.deep⟩ ho (by omega) (by omega)
    · split
      · split
        · exact fail_bd h' _
        · exact outs_bd ⟨h'.next, h'.fork, h'.up, h'.deep⟩ ho hu (by omega)
      · exact outs_bd h' ho hf (by omega)
theorem leave_len {w : Wk} {n i : Nat} {p : PlaceT} (hl : w.Len n) (ho : outsOk p.out n) : (leaveS p w i).Len n ∧ (leaveS p w i).mu = w.mu := by
  obtain ⟨l1, l2, l3, l4, l5⟩ := hl
  have hl : w.Len n := ⟨l1, l2, l3, l4, l5⟩
  unfold leaveS
  split
  · split
    · exact ⟨hl, rfl⟩
    · exact ⟨hl, rfl⟩
  · split
    · exact outs_len (w := { w with up := w.up.set i (getI w.fork i) }) _ _ ⟨l1, l2, l3, l4, by simpa using l5⟩ ho
    · split
      · split
        · exact ⟨hl, rfl⟩
        · exact outs_len (w := { w with join := w.join.set (getI w.fork i).toNat (i : Int) }) _ _ ⟨l1, l2, l3, by simpa using l4, l5⟩ ho
      · exact outs_len _ _ hl ho
/-- The next place is left. -/
def stepS (ps : List PlaceT) (w : Wk) : Wk :=
  match w.next with
  | [] => w
  | a :: r => match ps[a.toNat]? with
    | some p => leaveS p { w with next := r } a.toNat
    | none => w
def walkS (ps : List PlaceT) : Nat → Wk → Wk
  | 0, w => w
  | m + 1, w => if w.next = [] ∨ w.err ≠ 0 then w else walkS ps m (stepS ps w)
theorem walkS_nil {ps : List PlaceT} {w : Wk} (h : w.next = []) : ∀ m, walkS ps m w = w
  | 0 => rfl
  | m + 1 => by rw [walkS, if_pos (.inl h)]
theorem walkS_err {ps : List PlaceT} {w : Wk} (h : w.err ≠ 0) : ∀ m, walkS ps m w = w
  | 0 => rfl
  | m + 1 => by rw [walkS, if_pos (.inr h)]
/-- At the walk's start: the first place is met. -/
def startW (n : Nat) : Wk := ⟨(List.replicate n false).set 0 true, (List.replicate n 0).set 0 0, (List.replicate n 0).set 0 0, List.replicate n 0, List.replicate n 0, [0], 0⟩
/-- Is a place not met, or a fork without a join? -/
def badP (w : Wk) (p : PlaceT) (i : Nat) : Bool := !getB w.met i || (decide (p.kind = 4) && decide (getI w.join i = 0))
def endE (w : Wk) : List PlaceT → Nat → Int → Int
  | [], i, e => e
  | p :: r, i, e => endE w r (i + 1) (if badP w p i = true then fl e 8 else e)
theorem bad_1 {w : Wk} {p : PlaceT} {i : Nat} (h : getB w.met i = false) : badP w p i = true := by rw [badP, h]; rfl
theorem bad_2 {w : Wk} {p : PlaceT} {i : Nat} (h : getB w.met i = true) (hk : p.kind ≠ 4) : badP w p i = false := by simp [badP, h, hk]
theorem bad_3 {w : Wk} {p : PlaceT} {i : Nat} (h : getB w.met i = true) (hk : p.kind = 4) (hj : getI w.join i = 0) : badP w p i = true := by simp [badP, h, hk, hj]
theorem bad_4 {w : Wk} {p : PlaceT} {i : Nat} (h : getB w.met i = true) (hk : p.kind = 4) (hj : getI w.join i ≠ 0) : badP w p i = false := by simp [badP, h, hk, hj]
theorem bC_rep (n : Nat) (b : Bool) : bC (List.replicate n b) = List.replicate n [.bool b] := by simp [bC]
theorem iC_rep (n : Nat) (z : Int) : iC (List.replicate n z) = List.replicate n [.int .i64 z] := by simp [iC]
theorem start_len (n : Nat) : (startW n).Len n := by simp [startW, Wk.Len]
theorem unmet_rep : ∀ n, unmet (List.replicate n false) = n := fun n => by simp [unmet]
theorem start_mu {n : Nat} (h : 0 < n) : (startW n).mu = n := by
  have := unmet_set (l := List.replicate n false) (i := 0) (by simp [h])
  rw [unmet_rep] at this
  simp only [startW, Wk.mu, List.length_singleton]; omega
theorem start_bd {n : Nat} (h : 0 < n) : (startW n).Bd n 0 := by
  refine ⟨fun z hz => ?_, fun z hz => ?_, fun z hz => ?_, fun z hz => ?_⟩
  · simp [startW] at hz; omega
  · exact mem_set' (P := fun z => 0 ≤ z ∧ z < (n : Int)) (fun z hz => by have := List.eq_of_mem_replicate hz; omega) (by omega) hz
  · have := List.eq_of_mem_replicate hz; omega
  · exact mem_set' (P := fun z => -((0 : Nat) : Int) ≤ z ∧ z ≤ 16) (fun z hz => by have := List.eq_of_mem_replicate hz; omega) (by omega) hz
theorem step_len {ps : List PlaceT} {w : Wk} {n : Nat} (hO : ∀ p ∈ ps, outsOk p.out n) (h : w.Len n) : (stepS ps w).Len n := by
  unfold stepS
  split
  · exact h
  · rename_i a r hnx
    split
    · rename_i p hp
      exact (leave_len (w := { w with next := r }) h (hO p (List.mem_of_getElem? hp))).1
    · exact h
theorem walk_len {ps : List PlaceT} {n : Nat} (hO : ∀ p ∈ ps, outsOk p.out n) : ∀ {m : Nat} {w : Wk}, w.Len n → (walkS ps m w).Len n
  | 0, w, h => h
  | m + 1, w, h => by
    rw [walkS]; split
    · exact h
    · exact walk_len hO (step_len hO h)
/-- The walk over a definition, and what is wrong then. -/
def walkW (ps : List PlaceT) : Wk := walkS ps ps.length (startW ps.length)
def walkE (ps : List PlaceT) : Int := endE (walkW ps) ps 0 (walkW ps).err
end Go.RxTree
