/- A part of the proof of the law: what functions of the program come to, walked by Rx, or plain facts on it. -/
import Derived.Test.YtaghcidejnhahaaRSpecF
section
open Go Go.Rx
namespace Go.RxTree
set_option linter.unusedVariables false
/-- What a walker names are places; no place is deeper than 16. -/
structure Wk.Bd (w : Wk) (n b : Nat) : Prop where
  next : ∀ z ∈ w.next, 0 ≤ z ∧ z < (n : Int)
  fork : ∀ z ∈ w.fork, 0 ≤ z ∧ z < (n : Int)
  up : ∀ z ∈ w.up, 0 ≤ z ∧ z < (n : Int)
  deep : ∀ z ∈ w.deep, -(b : Int) ≤ z ∧ z ≤ 16
theorem mem_set' {α : Type} {l : List α} {i : Nat} {a x : α} {P : α → Prop} (h : ∀ z ∈ l, P z) (ha : P a) (hx : x ∈ l.set i a) : P x := by
  rcases List.mem_or_eq_of_mem_set hx with h1 | rfl
  · exact h _ h1
  · exact ha
theorem getI_mem {l : List Int} {i : Nat} {P : Int → Prop} (h : ∀ z ∈ l, P z) (hi : i < l.length) : P (getI l i) := h _ (List.mem_of_getElem? (getI_some hi))
theorem fail_bd {w : Wk} {n b : Nat} (h : w.Bd n b) (e : Int) : (w.fail e).Bd n b := ⟨h.next, h.fork, h.up, h.deep⟩
theorem enter_bd {w : Wk} {n b t : Nat} (h : w.Bd n b) (ht : t < n) {f dp : Int} (hf : 0 ≤ f ∧ f < (n : Int)) (hd : -(b : Int) ≤ dp) : (enterS w t f dp).Bd n b := by
  unfold enterS
  split
  · split
    · exact h
    · exact fail_bd h _
  · split
    · exact fail_bd h _
    · refine ⟨fun z hz => ?_, fun z hz => mem_set' (P := fun z => 0 ≤ z ∧ z < (n : Int)) h.fork hf hz, h.up, fun z hz => mem_set' (P := fun z => -(b : Int) ≤ z ∧ z ≤ 16) h.deep ⟨hd, by omega⟩ hz⟩
      rcases List.mem_append.1 hz with h1 | h1
      · exact h.next z h1
      · rw [List.mem_singleton] at h1; omega
theorem outs_bd : ∀ {l : List FlowT} {w : Wk} {n b : Nat} {f dp : Int}, w.Bd n b → outsOk l n → 0 ≤ f ∧ f < (n : Int) → -(b : Int) ≤ dp → (outsS w l f dp).Bd n b
  | [], w, n, b, f, dp, h, ho, hf, hd => h
  | o :: r, w, n, b, f, dp, h, ho, hf, hd => by
    have ht := ho o (by simp)
    exact outs_bd (l := r) (enter_bd h (by omega) hf hd) (fun x hx => ho x (by simp [hx])) hf hd
theorem bd_up {w : Wk} {n b c : Nat} (h : w.Bd n b) (hb : b ≤ c) : w.Bd n c := ⟨h.next, h.fork, h.up, fun z hz => by have := h.deep z hz; omega⟩
theorem leave_bd {w : Wk} {n b i : Nat} {p : PlaceT} (hl : w.Len n) (h : w.Bd n b) (hi : i < n) (ho : outsOk p.out n) : (leaveS p w i).Bd n (b + 1) := by
  obtain ⟨l1, l2, l3, l4, l5⟩ := hl
  have hf := getI_mem h.fork (i := i) (by omega)
  have hd := getI_mem (P := fun z => -(b : Int) ≤ z ∧ z ≤ 16) h.deep (i := i) (by omega)
  have h' := bd_up h (Nat.le_succ b)
  have hu := getI_mem h.up (i := (getI w.fork i).toNat) (by omega)
  unfold leaveS
  split
  · split
    · exact h'
    · exact fail_bd h' _
  · split
    · exact outs_bd ⟨h'.next, h'.fork, fun z hz => mem_set' (P := fun z => 0 ≤ z ∧ z < (n : Int)) h.up hf hz, h'.deep⟩ ho (by omega) (by omega)
    · split
      · split
        · exact fail_bd h' _
        · exact outs_bd ⟨h'.next, h'.fork, h'.up, h'.deep⟩ ho hu (by omega)
      · exact outs_bd h' ho hf (by omega)
theorem leave_len {w : Wk} {n i : Nat} {p : PlaceT} (hl : w.Len n) (ho : outsOk p.out n) : (leaveS p w i).Len n ∧ (leaveS p w i).mu = w.mu := by
  obtain ⟨l1, l2, l3, l4, l5⟩ := hl
  have hl : w.Len n := ⟨l1, l2, l3, l4, l5⟩
  unfold leaveS
  split
  · split
    · exact ⟨hl, rfl⟩
    · exact ⟨hl, rfl⟩
  · split
    · exact outs_len (w := { w with up := w.up.set i (getI w.fork i) }) _ _ ⟨l1, l2, l3, l4, by simpa using l5⟩ ho
    · split
      · split
        · exact ⟨hl, rfl⟩
        · exact outs_len (w := { w with join := w.join.set (getI w.fork i).toNat (i : Int) }) _ _ ⟨l1, l2, l3, by simpa using l4, l5⟩ ho
      · exact outs_len _ _ hl ho
/-- The next place is left. -/
def stepS (ps : List PlaceT) (w : Wk) : Wk :=
  match w.next with
  | [] => w
  | a :: r => match ps[a.toNat]? with
    | some p => leaveS p { w with next := r } a.toNat
    | none => w
def walkS (ps : List PlaceT) : Nat → Wk → Wk
  | 0, w => w
  | m + 1, w => if w.next = [] ∨ w.err ≠ 0 then w else walkS ps m (stepS ps w)
theorem walkS_nil {ps : List PlaceT} {w : Wk} (h : w.next = []) : ∀ m, walkS ps m w = w
  | 0 => rfl
  | m + 1 => by rw [walkS, if_pos (.inl h)]
theorem walkS_err {ps : List PlaceT} {w : Wk} (h : w.err ≠ 0) : ∀ m, walkS ps m w = w
  | 0 => rfl
  | m + 1 => by rw [walkS, if_pos (.inr h)]
/-- At the walk's start: the first place is met. -/
def startW (n : Nat) : Wk := ⟨(List.replicate n false).set 0 true, (List.replicate n 0).set 0 0, (List.replicate n 0).set 0 0, List.replicate n 0, List.replicate n 0, [0], 0⟩
/-- Is a place not met, or a fork without a join? -/
def badP (w : Wk) (p : PlaceT) (i : Nat) : Bool := !getB w.met i || (decide (p.kind = 4) && decide (getI w.join i = 0))
def endE (w : Wk) : List PlaceT → Nat → Int → Int
  | [], i, e => e
  | p :: r, i, e => endE w r (i + 1) (if badP w p i = true then fl e 8 else e)
theorem bad_1 {w : Wk} {p : PlaceT} {i : Nat} (h : getB w.met i = false) : badP w p i = true := by rw [badP, h]; rfl
theorem bad_2 {w : Wk} {p : PlaceT} {i : Nat} (h : getB w.met i = true) (hk : p.kind ≠ 4) : badP w p i = false := by simp [badP, h, hk]
theorem bad_3 {w : Wk} {p : PlaceT} {i : Nat} (h : getB w.met i = true) (hk : p.kind = 4) (hj : getI w.join i = 0) : badP w p i = true := by simp [badP, h, hk, hj]
theorem bad_4 {w : Wk} {p : PlaceT} {i : Nat} (h : getB w.met i = true) (hk : p.kind = 4) (hj : getI w.join i ≠ 0) : badP w p i = false := by simp [badP, h, hk, hj]
theorem bC_rep (n : Nat) (b : Bool) : bC (List.replicate n b) = List.replicate n [.bool b] := by simp [bC]
theorem iC_rep (n : Nat) (z : Int) : iC (List.replicate n z) = List.replicate n [.int .i64 z] := by simp [iC]
theorem start_len (n : Nat) : (startW n).Len n := by simp [startW, Wk.Len]
theorem unmet_rep : ∀ n, unmet (List.replicate n false) = n := fun n => by simp [unmet]
theorem start_mu {n : Nat} (h : 0 < n) : (startW n).mu = n := by
  have := unmet_set (l := List.replicate n false) (i := 0) (by simp [h])
  rw [unmet_rep] at this
  simp only [startW, Wk.mu, List.length_singleton]; omega
theorem start_bd {n : Nat} (h : 0 < n) : (startW n).Bd n 0 := by
  refine ⟨fun z hz => ?_, fun z hz => ?_, fun z hz => ?_, fun z hz => ?_⟩
  · simp [startW] at hz; omega
  · exact mem_set' (P := fun z => 0 ≤ z ∧ z < (n : Int)) (fun z hz => by have := List.eq_of_mem_replicate hz; omega) (by omega) hz
  · have := List.eq_of_mem_replicate hz; omega
  · exact mem_set' (P := fun z => -((0 : Nat) : Int) ≤ z ∧ z ≤ 16) (fun z hz => by have := List.eq_of_mem_replicate hz; omega) (by omega) hz
theorem step_len {ps : List PlaceT} {w : Wk} {n : Nat} (hO : ∀ p ∈ ps, outsOk p.out n) (h : w.Len n) : (stepS ps w).Len n := by
  unfold stepS
  split
  · exact h
  · rename_i a r hnx
    split
    · rename_i p hp
      exact (leave_len (w := { w with next := r }) h (hO p (List.mem_of_getElem? hp))).1
    · exact h
theorem walk_len {ps : List PlaceT} {n : Nat} (hO : ∀ p ∈ ps, outsOk p.out n) : ∀ {m : Nat} {w : Wk}, w.Len n → (walkS ps m w).Len n
  | 0, w, h => h
  | m + 1, w, h => by
    rw [walkS]; split
    · exact h
    · exact walk_len hO (step_len hO h)
/-- The walk over a definition, and what is wrong then. -/
def walkW (ps : List PlaceT) : Wk := walkS ps ps.length (startW ps.length)
def walkE (ps : List PlaceT) : Int := endE (walkW ps) ps 0 (walkW ps).err
end Go.RxTree
end
section
open Go Go.Rx
namespace Go.RxTree
set_option linter.unusedVariables false
structure PlOk (p : PlaceT) (n : Nat) : Prop where
  kind : 1 ≤ p.kind ∧ p.kind ≤ 9
  out : outsOk p.out n
  len : leastK p.kind ≤ (p.out.length : Int) ∧ (p.out.length : Int) ≤ mostK p.kind
theorem flows_ok {k : Int} {n : Nat} : ∀ {l : List FlowT}, flowsL k n l = 0 → outsOk l n
  | [], h => fun f hf => by cases hf
  | f :: r, h => by
    rw [flowsL] at h
    split at h
    · cases h
    · rename_i h1
      have hr : flowsL k n r = 0 := by
        split at h
        · split at h
          · exact h
          · cases h
        · split at h
          · split at h
            · exact h
            · cases h
          · split at h
            · exact h
            · rename_i h2; exact absurd h h2
          · cases h
      intro g hg
      rcases List.mem_cons.1 hg with rfl | hg
      · omega
      · exact flows_ok hr g hg
theorem fields_ok {p : PlaceT} (h : fieldsS p = 0) : (1 ≤ p.kind ∧ p.kind ≤ 9) ∧ leastK p.kind ≤ (p.out.length : Int) ∧ (p.out.length : Int) ≤ mostK p.kind := by
  unfold fieldsS at h
  split at h
  · cases h
  · split at h
    · cases h
    · split at h
      · cases h
      · split at h
        · cases h
        · split at h
          · cases h
          · omega
theorem places_ok {n : Nat} : ∀ {l : List PlaceT} {b : Bool}, placesL n b l = 0 → ∀ p ∈ l, PlOk p n
  | [], b, h => fun p hp => by cases hp
  | q :: r, b, h => by
    rw [placesL] at h
    split at h
    · rename_i h1; exact absurd h h1
    · rename_i h1
      split at h
      · cases h
      · split at h
        · rename_i h3; exact absurd h h3
        · rename_i h3
          intro p hp
          rcases List.mem_cons.1 hp with rfl | hp
          · obtain ⟨f1, f2⟩ := fields_ok (p := p) (by omega)
            exact ⟨f1, flows_ok (k := p.kind) (by omega), f2⟩
          · exact places_ok h p hp
theorem check_ok {d : DefT} (h : checkD d = 0) : d.places.length ≤ 4096 ∧ 0 < d.places.length ∧ ∀ p ∈ d.places, PlOk p d.places.length := by
  unfold checkD at h
  split at h
  · cases h
  · split at h
    · cases h
    · split at h
      · cases h
      · exact ⟨by omega, by omega, places_ok h⟩
theorem most_16 (k : Int) : mostK k ≤ 16 := by unfold mostK; split <;> (try split) <;> omega
theorem check_out {d : DefT} (h : checkD d = 0) : ∀ p ∈ d.places, outsOk p.out d.places.length ∧ p.out.length ≤ 16 := fun p hp => by
  have hq := (check_ok h).2.2 p hp
  have := hq.len
  have := most_16 p.kind
  exact ⟨hq.out, by omega⟩
/-- The first place is the only start. -/
theorem places_start {n : Nat} : ∀ {l : List PlaceT}, placesL n false l = 0 → ∀ p ∈ l, p.kind ≠ 1
  | [], h => fun p hp => by cases hp
  | q :: r, h => by
    rw [placesL] at h
    split at h
    · rename_i h1; exact absurd h h1
    · split at h
      · cases h
      · rename_i h2
        split at h
        · rename_i h3; exact absurd h h3
        · intro p hp
          rcases List.mem_cons.1 hp with rfl | hp
          · simpa using h2
          · exact places_start h p hp
theorem check_start {d : DefT} (h : checkD d = 0) {i : Nat} {p : PlaceT} (hp : d.places[i]? = some p) : p.kind = 1 ↔ i = 0 := by
  unfold checkD at h
  split at h
  · cases h
  · split at h
    · cases h
    · split at h
      · cases h
      · generalize hl : d.places = l at *
        cases l with
        | nil => simp at hp
        | cons q r =>
          generalize ((q :: r).length : Nat) = n at h
          rw [placesL] at h
          split at h
          · rename_i h1; exact absurd h h1
          · split at h
            · cases h
            · rename_i h2
              split at h
              · rename_i h3; exact absurd h h3
              · cases i with
                | zero =>
                  simp only [List.getElem?_cons_zero, Option.some.injEq] at hp
                  subst hp
                  simpa using h2
                | succ i =>
                  have := places_start h p (List.mem_of_getElem? (by simpa using hp))
                  exact ⟨fun h => absurd h this, fun h => by omega⟩
/-- Which definitions are balanced, and which shape they have. -/
def ofErr (d : DefT) : Int := if checkD d = 0 then walkE d.places else checkD d
def ofFork (d : DefT) : List Int := if ofErr d = 0 then (walkW d.places).fork else []
def ofDeep (d : DefT) : List Int := if ofErr d = 0 then (walkW d.places).deep else []
def ofJoin (d : DefT) : List Int := if ofErr d = 0 then (walkW d.places).join else []
end Go.RxTree
end
section
open Go Go.Rx
namespace Go.RxTree
set_option linter.unusedVariables false
def kindAt (ps : List PlaceT) (i : Nat) : Int := (ps[i]?.map PlaceT.kind).getD 0
/-- What is met stays as it is. -/
structure Ext (w v : Wk) : Prop where
  met : ∀ i, getB w.met i = true → getB v.met i = true ∧ getI v.fork i = getI w.fork i ∧ getI v.deep i = getI w.deep i
  up : v.up = w.up
  join : v.join = w.join
theorem Ext.rfl' (w : Wk) : Ext w w := ⟨fun i h => ⟨h, rfl, rfl⟩, rfl, rfl⟩
theorem Ext.trans {w v u : Wk} (h : Ext w v) (g : Ext v u) : Ext w u := by
  refine ⟨fun i hi => ?_, g.up.trans h.up, g.join.trans h.join⟩
  obtain ⟨h1, h2, h3⟩ := h.met i hi
  obtain ⟨g1, g2, g3⟩ := g.met i h1
  exact ⟨g1, g2.trans h2, g3.trans h3⟩
/-- May a place lie within that fork, so deep? -/
def Ctx (ps : List PlaceT) (w : Wk) (f dp : Int) : Prop :=
  (f = 0 → dp = 0) ∧ (f ≠ 0 → ∃ g : Nat, f = (g : Int) ∧ getB w.met g = true ∧ kindAt ps g = 4 ∧ dp = getI w.deep g + 1 ∧ getI w.up g = getI w.fork g)
theorem Ctx.ext {ps : List PlaceT} {w v : Wk} {f dp : Int} (h : Ctx ps w f dp) (e : Ext w v) : Ctx ps v f dp := by
  refine ⟨h.1, fun hf => ?_⟩
  obtain ⟨g, h1, h2, h3, h4, h5⟩ := h.2 hf
  obtain ⟨e1, e2, e3⟩ := e.met g h2
  exact ⟨g, h1, e1, h3, by rw [e3]; exact h4, by rw [e.up, e2]; exact h5⟩
structure WInv (ps : List PlaceT) (w : Wk) : Prop where
  ctx : ∀ i, getB w.met i = true → Ctx ps w (getI w.fork i) (getI w.deep i)
  next : ∀ z ∈ w.next, getB w.met z.toNat = true
theorem getB_set {l : List Bool} {i j : Nat} (h : i < l.length) (b : Bool) : getB (l.set i b) j = if i = j then b else getB l j := by
  unfold getB
  rw [List.getElem?_set]
  split <;> rename_i h1
  · subst h1; first | rfl | (rw [if_pos h]; rfl)
  · rfl
theorem getI_set {l : List Int} {i j : Nat} (h : i < l.length) (b : Int) : getI (l.set i b) j = if i = j then b else getI l j := by
  unfold getI
  rw [List.getElem?_set]
  split <;> rename_i h1
  · subst h1; first | rfl | (rw [if_pos h]; rfl)
  · rfl
theorem fl_ne {e e1 : Int} (h : e1 ≠ 0) : fl e e1 ≠ 0 := by unfold fl; split <;> assumption
theorem enter_ext {ps : List PlaceT} {w : Wk} {n t : Nat} {f dp : Int} (hl : w.Len n) (ht : t < n) (hi : WInv ps w) (hc : Ctx ps w f dp) (he : (enterS w t f dp).err = 0) :
    Ext w (enterS w t f dp) ∧ WInv ps (enterS w t f dp) ∧ getB (enterS w t f dp).met t = true ∧ getI (enterS w t f dp).fork t = f := by
  obtain ⟨l1, l2, l3, l4, l5⟩ := hl
  unfold enterS at he ⊢
  split
  · rename_i h1
    rw [if_pos h1] at he
    split
    · rename_i h2
      exact ⟨Ext.rfl' w, hi, h1, h2⟩
    · rename_i h2
      rw [if_neg h2] at he
      exact absurd he (fl_ne (by decide))
  · rename_i h1
    rw [if_neg h1] at he
    split
    · rename_i h2
      rw [if_pos h2] at he
      exact absurd he (fl_ne (by decide))
    · rename_i h2
      have e : Ext w { w with met := w.met.set t true, fork := w.fork.set t f, deep := w.deep.set t dp, next := w.next ++ [(t : Int)] } := by
        refine ⟨fun i hm => ?_, rfl, rfl⟩
        have hne : t ≠ i := fun h => h1 (by rw [h]; exact hm)
        dsimp only
        rw [getB_set (by omega), getI_set (by omega), getI_set (by omega), if_neg hne, if_neg hne, if_neg hne]
        exact ⟨hm, rfl, rfl⟩
      refine ⟨e, ⟨fun i hm => ?_, fun z hz => ?_⟩, ?_, ?_⟩
      · dsimp only at hm ⊢
        rw [getB_set (by omega)] at hm
        rw [getI_set (by omega), getI_set (by omega)]
        by_cases hit : t = i
        · rw [if_pos hit, if_pos hit]; exact hc.ext e
        · rw [if_neg hit] at hm
          rw [if_neg hit, if_neg hit]; exact (hi.ctx i hm).ext e
      · dsimp only at hz ⊢
        rw [getB_set (by omega)]
        rcases List.mem_append.1 hz with h | h
        · rw [hi.next z h]; split <;> rfl
        · rw [List.mem_singleton] at h; subst h; rw [Int.toNat_natCast, if_pos rfl]
      · dsimp only; rw [getB_set (by omega), if_pos rfl]
      · dsimp only; rw [getI_set (by omega), if_pos rfl]
theorem enter_err {w : Wk} (h : w.err ≠ 0) (t : Nat) (f dp : Int) : (enterS w t f dp).err ≠ 0 := by
  unfold enterS Wk.fail
  split
  · split
    · exact h
    · rw [fl_e h]; exact h
  · split
    · rw [fl_e h]; exact h
    · exact h
theorem outs_err : ∀ {w : Wk}, w.err ≠ 0 → ∀ (l : List FlowT) (f dp : Int), (outsS w l f dp).err ≠ 0
  | w, h, [], f, dp => h
  | w, h, o :: r, f, dp => outs_err (enter_err h o.to.toNat f dp) r f dp
theorem outs_ext {ps : List PlaceT} {n : Nat} : ∀ {l : List FlowT} {w : Wk} {f dp : Int}, w.Len n → outsOk l n → WInv ps w → Ctx ps w f dp → (outsS w l f dp).err = 0 →
    Ext w (outsS w l f dp) ∧ WInv ps (outsS w l f dp) ∧ ∀ o ∈ l, getB (outsS w l f dp).met o.to.toNat = true ∧ getI (outsS w l f dp).fork o.to.toNat = f
  | [], w, f, dp, hl, ho, hi, hc, he => ⟨Ext.rfl' w, hi, fun o h => by cases h⟩
  | o :: r, w, f, dp, hl, ho, hi, hc, he => by
    have ht := ho o (by simp)
    have hl1 := enter_len hl o.to.toNat f dp
    rw [outsS] at he ⊢
    have e1 : (enterS w o.to.toNat f dp).err = 0 := by
      by_cases h : (enterS w o.to.toNat f dp).err = 0
      · exact h
      · exact absurd he (outs_err h r f dp)
    obtain ⟨a1, a2, a3, a4⟩ := enter_ext hl (by omega) hi hc e1
    obtain ⟨b1, b2, b3⟩ := outs_ext (l := r) hl1 (fun x hx => ho x (by simp [hx])) a2 (hc.ext a1) he
    refine ⟨a1.trans b1, b2, fun q hq => ?_⟩
    rcases List.mem_cons.1 hq with rfl | hq
    · obtain ⟨c1, c2, c3⟩ := b1.met _ a3
      exact ⟨c1, c2.trans a4⟩
    · exact b3 q hq
end Go.RxTree
end
section
open Go Go.Rx
namespace Go.RxTree
set_option linter.unusedVariables false
/-- What a fork's join is. -/
def JAt (ps : List PlaceT) (w : Wk) (f j : Nat) : Prop :=
  getB w.met f = true ∧ kindAt ps f = 4 ∧ getB w.met j = true ∧ kindAt ps j = 5 ∧ getI w.fork j = (f : Int) ∧ ∀ p, ps[j]? = some p → ∀ o ∈ p.out, getB w.met o.to.toNat = true ∧ getI w.fork o.to.toNat = getI w.fork f
theorem JAt.ext {ps : List PlaceT} {w v : Wk} {f j : Nat} (h : JAt ps w f j) (e : Ext w v) : JAt ps v f j := by
  obtain ⟨h1, h2, h3, h4, h5, h6⟩ := h
  obtain ⟨a1, a2, a3⟩ := e.met f h1
  obtain ⟨b1, b2, b3⟩ := e.met j h3
  refine ⟨a1, h2, b1, h4, by rw [b2]; exact h5, fun p hp o ho => ?_⟩
  obtain ⟨c1, c2⟩ := h6 p hp o ho
  obtain ⟨d1, d2, d3⟩ := e.met _ c1
  exact ⟨d1, by rw [d2, a2]; exact c2⟩
def JInv (ps : List PlaceT) (w : Wk) : Prop := ∀ f : Nat, getI w.join f ≠ 0 → ∃ j : Nat, getI w.join f = (j : Int) ∧ JAt ps w f j
theorem JInv.ext {ps : List PlaceT} {w v : Wk} (h : JInv ps w) (e : Ext w v) : JInv ps v := fun f hf => by
  rw [e.join] at hf
  obtain ⟨j, h1, h2⟩ := h f hf
  exact ⟨j, by rw [e.join]; exact h1, h2.ext e⟩
theorem kind_some {ps : List PlaceT} {i : Nat} {p : PlaceT} (h : ps[i]? = some p) : kindAt ps i = p.kind := by rw [kindAt, h]; rfl
theorem fail_err {w : Wk} {e : Int} (h : e ≠ 0) : (w.fail e).err ≠ 0 := fl_ne h
theorem leave_inv {ps : List PlaceT} {w : Wk} {n i : Nat} {p : PlaceT} (hl : w.Len n) (hi : i < n) (hp : ps[i]? = some p) (ho : outsOk p.out n) (h0 : p.kind = 4 → i ≠ 0) (hb : ∀ z ∈ w.fork, 0 ≤ z ∧ z < (n : Int)) (I : WInv ps w) (J : JInv ps w) (hm : getB w.met i = true) (he : (leaveS p w i).err = 0) :
    WInv ps (leaveS p w i) ∧ JInv ps (leaveS p w i) := by
  obtain ⟨l1, l2, l3, l4, l5⟩ := hl
  have hl : w.Len n := ⟨l1, l2, l3, l4, l5⟩
  have hc := I.ctx i hm
  unfold leaveS at he ⊢
  by_cases g8 : p.kind = 8
  · rw [if_pos g8] at he ⊢
    split
    · exact ⟨I, J⟩
    · rename_i h
      rw [if_neg h] at he
      exact absurd he (fail_err (by decide))
  · rw [if_neg g8] at he ⊢
    by_cases g4 : p.kind = 4
    · rw [if_pos g4] at he ⊢
      have hw1 : Wk.Len { w with up := w.up.set i (getI w.fork i) } n := ⟨l1, l2, l3, l4, by simpa using l5⟩
      have up : ∀ f dp, Ctx ps w f dp → Ctx ps { w with up := w.up.set i (getI w.fork i) } f dp := fun f dp h => by
        refine ⟨h.1, fun hf => ?_⟩
        obtain ⟨g, h1, h2, h3, h4, h5⟩ := h.2 hf
        refine ⟨g, h1, h2, h3, h4, ?_⟩
        dsimp only
        rw [getI_set (by omega)]
        split
        · rename_i hig; rw [hig]
        · exact h5
      have I1 : WInv ps { w with up := w.up.set i (getI w.fork i) } := ⟨fun j hj => up _ _ (I.ctx j hj), I.next⟩
      have hc1 : Ctx ps { w with up := w.up.set i (getI w.fork i) } (i : Int) (getI w.deep i + 1) := by
        refine ⟨fun h => absurd h (by have := h0 g4; omega), fun _ => ⟨i, rfl, hm, by rw [kind_some hp]; exact g4, rfl, ?_⟩⟩
        dsimp only
        rw [getI_set (by omega), if_pos rfl]
      obtain ⟨a1, a2, a3⟩ := outs_ext hw1 ho I1 hc1 he
      exact ⟨a2, JInv.ext (w := { w with up := w.up.set i (getI w.fork i) }) J a1⟩
    · rw [if_neg g4] at he ⊢
      by_cases g5 : p.kind = 5
      · rw [if_pos g5] at he ⊢
        split
        · rename_i h
          rw [if_pos h] at he
          exact absurd he (fail_err (by decide))
        · rename_i h
          rw [if_neg h] at he
          have hf0 : getI w.fork i ≠ 0 := fun hh => h (.inl hh)
          obtain ⟨g, c1, c2, c3, c4, c5⟩ := hc.2 hf0
          have hfb := getI_mem (P := fun z => 0 ≤ z ∧ z < (n : Int)) hb (i := i) (by omega)
          rw [c1, Int.toNat_natCast] at he ⊢
          have hgn : g < n := by omega
          have hw1 : Wk.Len { w with join := w.join.set g (i : Int) } n := ⟨l1, l2, l3, by simpa using l4, l5⟩
          have I1 : WInv ps { w with join := w.join.set g (i : Int) } := ⟨I.ctx, I.next⟩
          have hc1 : Ctx ps { w with join := w.join.set g (i : Int) } (getI w.up g) (getI w.deep i - 1) := by
            have := I.ctx g c2
            rw [c5, c4, Int.add_sub_cancel]
            exact this
          obtain ⟨a1, a2, a3⟩ := outs_ext hw1 ho I1 hc1 he
          refine ⟨a2, fun f hf => ?_⟩
          rw [a1.join] at hf ⊢
          dsimp only at hf ⊢
          rw [getI_set (by omega)] at hf ⊢
          by_cases hgf : g = f
          · subst hgf
            rw [if_pos rfl] at hf ⊢
            obtain ⟨d1, d2, d3⟩ := a1.met g c2
            obtain ⟨e1, e2, e3⟩ := a1.met i hm
            refine ⟨i, rfl, d1, c3, e1, by rw [kind_some hp]; exact g5, by rw [e2]; exact c1, fun q hq o hoq => ?_⟩
            obtain rfl : p = q := by rw [hp] at hq; exact Option.some.inj hq
            obtain ⟨f1, f2⟩ := a3 o hoq
            exact ⟨f1, by rw [f2, d2]; exact c5⟩
          · rw [if_neg hgf] at hf ⊢
            obtain ⟨j, j1, j2⟩ := J f hf
            exact ⟨j, j1, JAt.ext (w := { w with join := w.join.set g (i : Int) }) j2 a1⟩
      · rw [if_neg g5] at he ⊢
        obtain ⟨a1, a2, a3⟩ := outs_ext hl ho I hc he
        exact ⟨a2, J.ext a1⟩
end Go.RxTree
end
section
open Go Go.Rx
namespace Go.RxTree
set_option linter.unusedVariables false
structure PsOk (ps : List PlaceT) (n : Nat) : Prop where
  len : ps.length = n
  pl : ∀ p ∈ ps, PlOk p n
  fork0 : ∀ (i : Nat) (p : PlaceT), ps[i]? = some p → p.kind = 4 → i ≠ 0
theorem check_ps {d : DefT} (h : checkD d = 0) : PsOk d.places d.places.length := ⟨rfl, (check_ok h).2.2, fun i p hp h4 h0 => by
  have := (check_start h hp).2 h0; omega⟩
theorem walk_err' {ps : List PlaceT} : ∀ {m : Nat} {w : Wk}, (walkS ps m w).err = 0 → w.err = 0
  | 0, w, h => h
  | m + 1, w, h => by
    by_cases he : w.err = 0
    · exact he
    · rw [walkS_err he] at h; exact h
theorem walk_inv {ps : List PlaceT} {n : Nat} (hps : PsOk ps n) : ∀ {m b : Nat} {w : Wk}, w.Len n → w.Bd n b → WInv ps w → JInv ps w → (walkS ps m w).err = 0 → WInv ps (walkS ps m w) ∧ JInv ps (walkS ps m w)
  | 0, b, w, hl, hb, I, J, he => ⟨I, J⟩
  | m + 1, b, w, hl, hb, I, J, he => by
    rw [walkS] at he ⊢
    by_cases hc : w.next = [] ∨ w.err ≠ 0
    · rw [if_pos hc]; exact ⟨I, J⟩
    · rw [if_neg hc] at he ⊢
      have hs := walk_err' he
      obtain ⟨me, fo, de, jo, up, nx, e⟩ := w
      cases nx with
      | nil => exact absurd (.inl rfl) hc
      | cons a r =>
        have ha := hb.next a (by simp)
        have hlt : a.toNat < ps.length := by have := hps.len; omega
        have hpi : ps[a.toNat]? = some ps[a.toNat] := List.getElem?_eq_getElem hlt
        have hst : stepS ps ⟨me, fo, de, jo, up, a :: r, e⟩ = leaveS ps[a.toNat] ⟨me, fo, de, jo, up, r, e⟩ a.toNat := by simp only [stepS, hpi]
        rw [hst] at he hs ⊢
        generalize ps[a.toNat] = p at *
        have hok := hps.pl p (List.mem_of_getElem? hpi)
        have hl1 : Wk.Len ⟨me, fo, de, jo, up, r, e⟩ n := hl
        have hb1 : Wk.Bd ⟨me, fo, de, jo, up, r, e⟩ n b := ⟨fun z hz => hb.next z (by simp [hz]), hb.fork, hb.up, hb.deep⟩
        have I1 : WInv ps ⟨me, fo, de, jo, up, r, e⟩ := ⟨I.ctx, fun z hz => I.next z (by simp [hz])⟩
        obtain ⟨q1, q2⟩ := leave_inv hl1 (by omega) hpi hok.out (hps.fork0 _ p hpi) hb.fork I1 J (I.next a (by simp)) hs
        exact walk_inv hps (leave_len hl1 hok.out).1 (leave_bd hl1 hb1 (by omega) hok.out) q1 q2 he
theorem getI_rep {n i : Nat} : getI (List.replicate n 0) i = 0 := by
  unfold getI; rw [List.getElem?_replicate]; split <;> rfl
theorem start_inv {ps : List PlaceT} {n : Nat} (h : 0 < n) : WInv ps (startW n) ∧ JInv ps (startW n) := by
  have hf : ∀ i, getI (startW n).fork i = 0 := fun i => by
    show getI ((List.replicate n 0).set 0 0) i = 0
    rw [getI_set (by simpa using h)]; split
    · rfl
    · exact getI_rep
  have hd : ∀ i, getI (startW n).deep i = 0 := hf
  refine ⟨⟨fun i hi => ?_, fun z hz => ?_⟩, fun f hj => absurd (getI_rep (n := n)) hj⟩
  · rw [hf, hd]; exact ⟨fun _ => rfl, fun h => absurd rfl h⟩
  · simp only [startW, List.mem_singleton] at hz ⊢
    subst hz
    rw [getB_set (by simpa using h)]; rfl
theorem endE_0 {w : Wk} : ∀ {l : List PlaceT} {i : Nat} {e : Int}, endE w l i e = 0 → e = 0 ∧ ∀ k p, l[k]? = some p → badP w p (i + k) = false
  | [], i, e, h => ⟨h, fun k p hp => by simp at hp⟩
  | q :: r, i, e, h => by
    rw [endE] at h
    obtain ⟨h1, h2⟩ := endE_0 h
    by_cases hb : badP w q i = true
    · rw [if_pos hb] at h1; exact absurd h1 (fl_ne (by decide))
    · rw [if_neg hb] at h1
      refine ⟨h1, fun k p hp => ?_⟩
      cases k with
      | zero =>
        simp only [List.getElem?_cons_zero, Option.some.injEq] at hp
        subst hp; simpa using hb
      | succ k =>
        have := h2 k p (by simpa using hp)
        rwa [show i + (k + 1) = i + 1 + k by omega]
/-- Of a balanced definition. -/
structure Bal (ps : List PlaceT) (n : Nat) (w : Wk) : Prop where
  len : w.Len n
  bd : w.Bd n n
  inv : WInv ps w
  jinv : JInv ps w
  met : ∀ i, i < n → getB w.met i = true
  join : ∀ (i : Nat) (p : PlaceT), ps[i]? = some p → p.kind = 4 → getI w.join i ≠ 0
theorem walk_bd {ps : List PlaceT} {n : Nat} (hps : PsOk ps n) : ∀ {m b : Nat} {w : Wk}, w.Len n → w.Bd n b → (walkS ps m w).Bd n (b + m)
  | 0, b, w, hl, hb => hb
  | m + 1, b, w, hl, hb => by
    rw [walkS]
    split
    · exact bd_up hb (by omega)
    · obtain ⟨me, fo, de, jo, up, nx, e⟩ := w
      cases nx with
      | nil => exact bd_up (walk_bd hps (b := b) (m := m) hl hb) (by omega)
      | cons a r =>
        have ha := hb.next a (by simp)
        have hlt : a.toNat < ps.length := by have := hps.len; omega
        have hpi : ps[a.toNat]? = some ps[a.toNat] := List.getElem?_eq_getElem hlt
        have hst : stepS ps ⟨me, fo, de, jo, up, a :: r, e⟩ = leaveS ps[a.toNat] ⟨me, fo, de, jo, up, r, e⟩ a.toNat := by simp only [stepS, hpi]
        rw [hst]
        generalize ps[a.toNat] = p at *
        have hok := hps.pl p (List.mem_of_getElem? hpi)
        have hl1 : Wk.Len ⟨me, fo, de, jo, up, r, e⟩ n := hl
        have hb1 : Wk.Bd ⟨me, fo, de, jo, up, r, e⟩ n b := ⟨fun z hz => hb.next z (by simp [hz]), hb.fork, hb.up, hb.deep⟩
        rw [show b + (m + 1) = b + 1 + m by omega]
        exact walk_bd hps (leave_len hl1 hok.out).1 (leave_bd hl1 hb1 (by omega) hok.out)
theorem walk_bal {ps : List PlaceT} {n : Nat} (hps : PsOk ps n) (hn : 0 < n) (h : walkE ps = 0) : Bal ps n (walkW ps) := by
  unfold walkE at h
  obtain ⟨h1, h2⟩ := endE_0 h
  have hw : walkW ps = walkS ps n (startW n) := by unfold walkW; rw [hps.len]
  rw [hw] at h1 h2 ⊢
  obtain ⟨s1, s2⟩ := start_inv (ps := ps) hn
  obtain ⟨i1, i2⟩ := walk_inv hps (start_len n) (start_bd hn) s1 s2 h1
  have hb := walk_bd hps (m := n) (start_len n) (start_bd hn)
  refine ⟨walk_len (fun p hp => (hps.pl p hp).out) (start_len n), bd_up hb (by omega), i1, i2, fun i hi => ?_, fun i p hp h4 => ?_⟩
  · have hlt : i < ps.length := by have := hps.len; omega
    have := h2 i ps[i] (List.getElem?_eq_getElem hlt)
    rw [Nat.zero_add] at this
    unfold badP at this
    simp only [Bool.or_eq_false_iff] at this
    simpa using this.1
  · have := h2 i p hp
    rw [Nat.zero_add] at this
    unfold badP at this
    simp only [Bool.or_eq_false_iff, Bool.and_eq_false_iff, decide_eq_false_iff_not] at this
    rcases this.2 with h | h
    · exact absurd h4 h
    · exact h
end Go.RxTree
end
