/- A part of the proof of the law: what functions of the program come to, walked by Rx, or plain facts on it. -/
import Derived.Test.YtaghcidejnhahaaRJ2
section
open Go Go.Rx
namespace Go.RxTree
set_option linter.unusedVariables false
/-- The same numbers? -/
def sameS : List Int → List Int → Bool
  | [], [] => true
  | a :: r, b :: s => if a = b then sameS r s else false
  | _, _ => false
theorem sameS_eq : ∀ (a b : List Int), sameS a b = decide (a = b)
  | [], [] => rfl
  | [], b :: s => rfl
  | a :: r, [] => rfl
  | a :: r, b :: s => by
    rw [sameS, sameS_eq r s]
    by_cases h : a = b
    · rw [if_pos h]; subst h; simp
    · rw [if_neg h]; simp [h]
/-- The forks behind a place; false: it may not stand there. -/
def afterS (k a : Int) (fs : List Int) : List Int × Bool :=
  if k = 4 then (fs ++ [a], true)
  else if k = 5 then (if fs.length = 0 then ([], false) else (fs.dropLast, true))
  else if k = 8 then ([], decide (fs.length = 0))
  else (fs, true)
/-- A row: whether a place is met, and the forks within which it lies. -/
abbrev RowT := Bool × List Int
def rC (l : List RowT) : List (List D) := l.map fun r => [.bool r.1, .list (iC r.2)]
def getR (l : List RowT) (i : Nat) : RowT := l[i]?.getD (false, [])
theorem getR_some {l : List RowT} {i : Nat} (h : i < l.length) : l[i]? = some (getR l i) := by rw [getR, List.getElem?_eq_getElem h]; rfl
theorem rC_len (l : List RowT) : (rC l).length = l.length := List.length_map ..
theorem rC_get {l : List RowT} {i : Nat} {b : Bool} {f : List Int} (h : l[i]? = some (b, f)) : (rC l)[i]? = some [.bool b, .list (iC f)] := by rw [rC, List.getElem?_map, h]; rfl
theorem rC_set (l : List RowT) (i : Nat) (b : Bool) (f : List Int) : (rC l).set i [.bool b, .list (iC f)] = rC (l.set i (b, f)) := by rw [rC, rC, List.map_set]
structure Rw where
  rows : List RowT
  joins : List Int
  order : List Int
def Rw.Len (w : Rw) (n : Nat) : Prop := w.rows.length = n ∧ w.joins.length = n
/-- A place's flows are gone along. -/
def rowO : List FlowT → List Int → Rw → Rw × Int
  | [], nx, w => (w, 0)
  | o :: r, nx, w =>
    if (getR w.rows o.to.toNat).1 = true then (if sameS (getR w.rows o.to.toNat).2 nx = true then rowO r nx w else (w, 8))
    else if 16 < nx.length then (w, 6)
    else rowO r nx { w with rows := w.rows.set o.to.toNat (true, nx), order := w.order ++ [(o.to.toNat : Int)] }
/-- A join is noted. -/
def rowJ (k : Int) (a : Nat) (fs : List Int) (w : Rw) : Rw × Int :=
  if k = 5 then
    (if getI w.joins (getI fs (fs.length - 1)).toNat ≠ 0 ∧ getI w.joins (getI fs (fs.length - 1)).toNat ≠ (a : Int) then (w, 8)
    else ({ w with joins := w.joins.set (getI fs (fs.length - 1)).toNat (a : Int) }, 0))
  else (w, 0)
/-- One place is left. -/
def rowS (p : PlaceT) (a : Nat) (w : Rw) : Rw × Int :=
  if (afterS p.kind a (getR w.rows a).2).2 = false then (w, 8)
  else if (rowJ p.kind a (getR w.rows a).2 w).2 = 0 then rowO p.out (afterS p.kind a (getR w.rows a).2).1 (rowJ p.kind a (getR w.rows a).2 w).1
  else rowJ p.kind a (getR w.rows a).2 w
/-- Place by place in the order in which they are come to. -/
def rowsS (ps : List PlaceT) : Nat → Nat → Rw → Rw × Int
  | 0, i, w => (w, 0)
  | m + 1, i, w => match w.order[i]? with
    | none => (w, 0)
    | some a => match ps[a.toNat]? with
      | none => (w, 0)
      | some p => if (rowS p a.toNat w).2 = 0 then rowsS ps m (i + 1) (rowS p a.toNat w).1 else rowS p a.toNat w
def rowsW (n : Nat) : Rw := ⟨(List.replicate n (false, [])).set 0 (true, []), List.replicate n 0, [0]⟩
end Go.RxTree
namespace Go.RxTree
def unmetR (l : List RowT) : Nat := (l.filter fun r => !r.1).length
theorem unmetR_set : ∀ {l : List RowT} {i : Nat} {f g : List Int}, l[i]? = some (false, f) → unmetR (l.set i (true, g)) + 1 = unmetR l
  | [], i, f, g, h => by simp at h
  | a :: r, 0, f, g, h => by
    simp only [List.getElem?_cons_zero, Option.some.injEq] at h
    subst h; simp [unmetR]
  | a :: r, i + 1, f, g, h => by
    have := unmetR_set (l := r) (i := i) (f := f) (g := g) (by simpa using h)
    obtain ⟨a1, a2⟩ := a
    cases a1 <;> simp [unmetR] at * <;> omega
/-- What is in the order, and what is not met. -/
def Rw.mu (w : Rw) : Nat := w.order.length + unmetR w.rows
def rowN (w : Rw) (t : Nat) (nx : List Int) : Rw := { w with rows := w.rows.set t (true, nx), order := w.order ++ [(t : Int)] }
theorem rowN_len {w : Rw} {n : Nat} (h : w.Len n) (t : Nat) (nx : List Int) : (rowN w t nx).Len n := ⟨by simpa [rowN] using h.1, h.2⟩
theorem rowN_mu {w : Rw} {t : Nat} {f : List Int} (h : w.rows[t]? = some (false, f)) (nx : List Int) : (rowN w t nx).mu = w.mu := by
  have := unmetR_set (g := nx) h
  simp only [Rw.mu, rowN, List.length_append, List.length_singleton]; omega
theorem rowO_nil (nx : List Int) (w : Rw) : rowO [] nx w = (w, 0) := by unfold rowO; rfl
theorem rowO_met {o : FlowT} {t : Nat} (ho : o.to = (t : Int)) (r : List FlowT) (nx : List Int) {w : Rw} {f : List Int} (h : w.rows[t]? = some (true, f)) (hs : sameS f nx = true) : rowO (o :: r) nx w = rowO r nx w := by
  rw [rowO, ho, Int.toNat_natCast, show getR w.rows t = (true, f) by rw [getR, h]; rfl, if_pos rfl, if_pos hs]
theorem rowO_dif {o : FlowT} {t : Nat} (ho : o.to = (t : Int)) (r : List FlowT) (nx : List Int) {w : Rw} {f : List Int} (h : w.rows[t]? = some (true, f)) (hs : sameS f nx = false) : rowO (o :: r) nx w = (w, 8) := by
  rw [rowO, ho, Int.toNat_natCast, show getR w.rows t = (true, f) by rw [getR, h]; rfl, if_pos rfl, if_neg (by rw [hs]; exact Bool.false_ne_true)]
theorem rowO_lim {o : FlowT} {t : Nat} (ho : o.to = (t : Int)) (r : List FlowT) (nx : List Int) {w : Rw} {f : List Int} (h : w.rows[t]? = some (false, f)) (hs : 16 < nx.length) : rowO (o :: r) nx w = (w, 6) := by
  rw [rowO, ho, Int.toNat_natCast, show getR w.rows t = (false, f) by rw [getR, h]; rfl, if_neg (by exact Bool.false_ne_true), if_pos hs]
theorem rowO_new {o : FlowT} {t : Nat} (ho : o.to = (t : Int)) (r : List FlowT) (nx : List Int) {w : Rw} {f : List Int} (h : w.rows[t]? = some (false, f)) (hs : ¬ 16 < nx.length) : rowO (o :: r) nx w = rowO r nx (rowN w t nx) := by
  rw [rowO, ho, Int.toNat_natCast, show getR w.rows t = (false, f) by rw [getR, h]; rfl, if_neg (by exact Bool.false_ne_true), if_neg hs]; rfl
end Go.RxTree
namespace Go.RxTree
/-- What rows are as they should be. -/
structure RwOk (n : Nat) (w : Rw) : Prop where
  len : w.Len n
  mu : w.mu ≤ n
  ord : ∀ a ∈ w.order, 0 ≤ a ∧ a < (n : Int)
  fks : ∀ r ∈ w.rows, r.2.length ≤ 16 ∧ ∀ f ∈ r.2, 0 ≤ f ∧ f < (n : Int)
theorem rowN_ok {n : Nat} {w : Rw} (h : RwOk n w) {t : Nat} (ht : t < n) {nx : List Int} (hn : nx.length ≤ 16 ∧ ∀ f ∈ nx, 0 ≤ f ∧ f < (n : Int)) {f : List Int} (hr : w.rows[t]? = some (false, f)) : RwOk n (rowN w t nx) where
  len := rowN_len h.len t nx
  mu := by rw [rowN_mu hr]; exact h.mu
  ord := fun a ha => by
    rcases List.mem_append.1 ha with h1 | h1
    · exact h.ord a h1
    · rw [List.mem_singleton] at h1; omega
  fks := fun r hr => by
    rcases List.mem_or_eq_of_mem_set hr with h1 | h1
    · exact h.fks r h1
    · subst h1; exact hn
theorem rowO_ok {n : Nat} {nx : List Int} (hnx : ∀ f ∈ nx, 0 ≤ f ∧ f < (n : Int)) : ∀ {l : List FlowT} {w : Rw}, outsOk l n → RwOk n w → RwOk n (rowO l nx w).1
  | [], w, ho, h => by rw [rowO_nil]; exact h
  | o :: r, w, ho, h => by
    have hto := ho o (by simp)
    obtain ⟨t, hot⟩ : ∃ t : Nat, o.to = (t : Int) := ⟨o.to.toNat, by omega⟩
    have hrt := getR_some (l := w.rows) (i := t) (by rw [h.len.1]; omega)
    have hor : outsOk r n := fun x hx => ho x (by simp [hx])
    generalize getR w.rows t = bf at hrt
    obtain ⟨b, f⟩ := bf
    cases b with
    | true =>
      cases hs : sameS f nx with
      | true => rw [rowO_met hot _ nx hrt hs]; exact rowO_ok hnx hor h
      | false => rw [rowO_dif hot _ nx hrt hs]; exact h
    | false =>
      by_cases hs : 16 < nx.length
      · rw [rowO_lim hot _ nx hrt hs]; exact h
      · rw [rowO_new hot _ nx hrt hs]; exact rowO_ok hnx hor (rowN_ok h (by omega) ⟨by omega, hnx⟩ hrt)
/-- A join is noted. -/
def rowK (w : Rw) (f a : Nat) : Rw := { w with joins := w.joins.set f (a : Int) }
theorem rowK_ok {n : Nat} {w : Rw} (h : RwOk n w) (f a : Nat) : RwOk n (rowK w f a) := ⟨⟨h.len.1, by simpa [rowK] using h.len.2⟩, h.mu, h.ord, h.fks⟩
theorem after_mem {k a : Int} {fs : List Int} {n : Nat} (ha : 0 ≤ a ∧ a < (n : Int)) (hf : ∀ f ∈ fs, 0 ≤ f ∧ f < (n : Int)) : ∀ f ∈ (afterS k a fs).1, 0 ≤ f ∧ f < (n : Int) := by
  unfold afterS
  split
  · intro f hm
    rcases List.mem_append.1 hm with h | h
    · exact hf f h
    · rw [List.mem_singleton] at h; omega
  · split
    · split
      · intro f hm; cases hm
      · intro f hm; exact hf f (List.dropLast_subset _ hm)
    · split
      · intro f hm; cases hm
      · exact hf
theorem after_len (k a : Int) (fs : List Int) : (afterS k a fs).1.length ≤ fs.length + 1 := by
  unfold afterS
  split
  · simp
  · split
    · split <;> simp; omega
    · split <;> simp
theorem after_5 {a : Int} {fs : List Int} (h : (afterS 5 a fs).2 = true) : fs.length ≠ 0 := by
  intro hl
  rw [afterS, if_neg (by decide), if_pos rfl, if_pos hl] at h
  cases h
theorem rowS_no {p : PlaceT} {a : Nat} {w : Rw} (h : (afterS p.kind a (getR w.rows a).2).2 = false) : rowS p a w = (w, 8) := by rw [rowS, if_pos h]
theorem rowS_o {p : PlaceT} {a : Nat} {w : Rw} (h : (afterS p.kind a (getR w.rows a).2).2 = true) (h5 : p.kind ≠ 5) : rowS p a w = rowO p.out (afterS p.kind a (getR w.rows a).2).1 w := by
  rw [rowS, if_neg (by rw [h]; exact Bool.noConfusion), show rowJ p.kind a (getR w.rows a).2 w = (w, 0) by rw [rowJ, if_neg h5], if_pos rfl]
theorem rowS_8 {p : PlaceT} {a f : Nat} {w : Rw} (h : (afterS p.kind a (getR w.rows a).2).2 = true) (h5 : p.kind = 5) (hf : getI (getR w.rows a).2 ((getR w.rows a).2.length - 1) = (f : Int)) (h1 : getI w.joins f ≠ 0) (h2 : getI w.joins f ≠ (a : Int)) : rowS p a w = (w, 8) := by
  rw [rowS, if_neg (by rw [h]; exact Bool.noConfusion), show rowJ p.kind a (getR w.rows a).2 w = (w, 8) by rw [rowJ, if_pos h5, hf, Int.toNat_natCast, if_pos ⟨h1, h2⟩], if_neg (by show ¬ ((8 : Int) = 0); decide)]
theorem rowS_j {p : PlaceT} {a f : Nat} {w : Rw} (h : (afterS p.kind a (getR w.rows a).2).2 = true) (h5 : p.kind = 5) (hf : getI (getR w.rows a).2 ((getR w.rows a).2.length - 1) = (f : Int)) (h1 : getI w.joins f = 0 ∨ getI w.joins f = (a : Int)) : rowS p a w = rowO p.out (afterS p.kind a (getR w.rows a).2).1 (rowK w f a) := by
  rw [rowS, if_neg (by rw [h]; exact Bool.noConfusion), show rowJ p.kind a (getR w.rows a).2 w = (rowK w f a, 0) by rw [rowJ, if_pos h5, hf, Int.toNat_natCast, if_neg (by omega)]; rfl, if_pos rfl]
theorem rowS_ok {n : Nat} {w : Rw} (h : RwOk n w) {a : Nat} (ha : a < n) {p : PlaceT} (ho : outsOk p.out n) : RwOk n (rowS p a w).1 := by
  have hrt := getR_some (l := w.rows) (i := a) (by rw [h.len.1]; exact ha)
  have hfk := h.fks _ (List.mem_of_getElem? hrt)
  have hnx := after_mem (k := p.kind) (a := a) (n := n) (by omega) hfk.2
  cases ha2 : (afterS p.kind a (getR w.rows a).2).2 with
  | false => rw [rowS_no ha2]; exact h
  | true =>
    by_cases h5 : p.kind = 5
    · have hl : (getR w.rows a).2.length ≠ 0 := after_5 (a := a) (by rw [← h5]; exact ha2)
      have hlast := getI_some (l := (getR w.rows a).2) (i := (getR w.rows a).2.length - 1) (by omega)
      have hb := hfk.2 _ (List.mem_of_getElem? hlast)
      obtain ⟨f, hf⟩ : ∃ f : Nat, getI (getR w.rows a).2 ((getR w.rows a).2.length - 1) = (f : Int) := ⟨(getI (getR w.rows a).2 ((getR w.rows a).2.length - 1)).toNat, by omega⟩
      by_cases h1 : getI w.joins f = 0 ∨ getI w.joins f = (a : Int)
      · rw [rowS_j ha2 h5 hf h1]; exact rowO_ok hnx ho (rowK_ok h f a)
      · rw [rowS_8 ha2 h5 hf (by omega) (by omega)]; exact h
    · rw [rowS_o ha2 h5]; exact rowO_ok hnx ho h
theorem rowsS_end {ps : List PlaceT} {m i : Nat} {w : Rw} (h : w.order.length ≤ i) : rowsS ps m i w = (w, 0) := by
  cases m with
  | zero => rfl
  | succ m => rw [rowsS, List.getElem?_eq_none h]
theorem rowsS_go {ps : List PlaceT} {m i a : Nat} {w : Rw} {p : PlaceT} (h : w.order[i]? = some (a : Int)) (hp : ps[a]? = some p) (he : (rowS p a w).2 = 0) : rowsS ps (m + 1) i w = rowsS ps m (i + 1) (rowS p a w).1 := by
  rw [rowsS, h]; simp only [Int.toNat_natCast, hp]; rw [if_pos he]
theorem rowsS_err {ps : List PlaceT} {m i a : Nat} {w : Rw} {p : PlaceT} (h : w.order[i]? = some (a : Int)) (hp : ps[a]? = some p) (he : (rowS p a w).2 ≠ 0) : rowsS ps (m + 1) i w = rowS p a w := by
  rw [rowsS, h]; simp only [Int.toNat_natCast, hp]; rw [if_neg he]
theorem rowsS_ok {ps : List PlaceT} {n : Nat} (hps : ps.length = n) (hO : ∀ p ∈ ps, outsOk p.out n) : ∀ {m i : Nat} {w : Rw}, RwOk n w → RwOk n (rowsS ps m i w).1 := by
  intro m
  induction m with
  | zero => intro i w h; exact h
  | succ m ih =>
    intro i w h
    by_cases hi : w.order.length ≤ i
    · rw [rowsS_end hi]; exact h
    · have hoi := getI_some (l := w.order) (i := i) (by omega)
      have hb := h.ord _ (List.mem_of_getElem? hoi)
      obtain ⟨a, ha⟩ : ∃ a : Nat, getI w.order i = (a : Int) := ⟨(getI w.order i).toNat, by omega⟩
      rw [ha] at hoi hb
      have hp : ps[a]? = some ps[a] := List.getElem?_eq_getElem (by omega)
      have hk := rowS_ok h (a := a) (by omega) (hO _ (List.mem_of_getElem? hp))
      by_cases he : (rowS ps[a] a w).2 = 0
      · rw [rowsS_go hoi hp he]; exact ih hk
      · rw [rowsS_err hoi hp he]; exact hk
theorem unmetR_rep (n : Nat) : unmetR (List.replicate n (false, [])) = n := by
  simp [unmetR]
theorem rowsW_ok {n : Nat} (h : 0 < n) : RwOk n (rowsW n) where
  len := ⟨by simp [rowsW], by simp [rowsW]⟩
  mu := by
    have := unmetR_set (l := List.replicate n (false, [])) (i := 0) (f := []) (g := []) (by simp [h])
    rw [unmetR_rep] at this
    simp only [Rw.mu, rowsW, List.length_singleton]; omega
  ord := fun a ha => by simp only [rowsW, List.mem_singleton] at ha; omega
  fks := fun r hr => by
    rcases List.mem_or_eq_of_mem_set hr with h1 | h1
    · rw [List.mem_replicate] at h1; rw [h1.2]; exact ⟨by simp, fun f hf => by cases hf⟩
    · subst h1; exact ⟨by simp, fun f hf => by cases hf⟩
end Go.RxTree
namespace Go.RxTree
theorem getR_of {l : List RowT} {a : Nat} {b : Bool} {fs : List Int} (h : l[a]? = some (b, fs)) : getR l a = (b, fs) := by rw [getR, h]; rfl
theorem rowT_no {p : PlaceT} {a : Nat} {w : Rw} {b : Bool} {fs : List Int} (hr : w.rows[a]? = some (b, fs)) (h : (afterS p.kind a fs).2 = false) : rowS p a w = (w, 8) := rowS_no (by rw [getR_of hr]; exact h)
theorem rowT_o {p : PlaceT} {a : Nat} {w : Rw} {b : Bool} {fs : List Int} (hr : w.rows[a]? = some (b, fs)) (h : (afterS p.kind a fs).2 = true) (h5 : p.kind ≠ 5) : rowS p a w = rowO p.out (afterS p.kind a fs).1 w := by
  have := rowS_o (p := p) (a := a) (w := w) (by rw [getR_of hr]; exact h) h5
  rw [getR_of hr] at this; exact this
theorem rowT_8 {p : PlaceT} {a f : Nat} {w : Rw} {b : Bool} {fs : List Int} (hr : w.rows[a]? = some (b, fs)) (h : (afterS p.kind a fs).2 = true) (h5 : p.kind = 5) (hf : getI fs (fs.length - 1) = (f : Int)) (h1 : getI w.joins f ≠ 0) (h2 : getI w.joins f ≠ (a : Int)) : rowS p a w = (w, 8) :=
  rowS_8 (by rw [getR_of hr]; exact h) h5 (by rw [getR_of hr]; exact hf) h1 h2
theorem rowT_j {p : PlaceT} {a f : Nat} {w : Rw} {b : Bool} {fs : List Int} (hr : w.rows[a]? = some (b, fs)) (h : (afterS p.kind a fs).2 = true) (h5 : p.kind = 5) (hf : getI fs (fs.length - 1) = (f : Int)) (h1 : getI w.joins f = 0 ∨ getI w.joins f = (a : Int)) : rowS p a w = rowO p.out (afterS p.kind a fs).1 (rowK w f a) := by
  have := rowS_j (p := p) (a := a) (w := w) (f := f) (by rw [getR_of hr]; exact h) h5 (by rw [getR_of hr]; exact hf) h1
  rw [getR_of hr] at this; exact this
end Go.RxTree
namespace Go.RxTree
/-- The document's rows, joins and error. -/
def rowsR (ps : List PlaceT) : Rw × Int := rowsS ps ps.length 0 (rowsW ps.length)
theorem rC_rep (n : Nat) : List.replicate n [D.bool false, D.list []] = rC (List.replicate n (false, [])) := by rw [rC, List.map_replicate]; rfl
theorem iC_rep0 (n : Nat) : List.replicate n [D.int .i64 0] = iC (List.replicate n 0) := by rw [iC, List.map_replicate]
theorem rC_fullN {l : List RowT} {n : Nat} (h : l.length = n) : (rC l).take n = rC l := List.take_of_length_le (by rw [rC_len, h]; exact Nat.le_refl _)
theorem iC_fullN {l : List Int} {n : Nat} (h : l.length = n) : (iC l).take n = iC l := List.take_of_length_le (by rw [iC_len, h]; exact Nat.le_refl _)
end Go.RxTree
end
section
open Go Go.Rx
set_option linter.unusedVariables false
namespace Go.RxTree
/-- The fork within which a place lies directly. -/
def forkOf (fs : List Int) : Int := if 0 < fs.length then getI fs (fs.length - 1) else 0
theorem forkOf_nil : forkOf [] = 0 := rfl
theorem forkOf_some {fs : List Int} (h : fs.length ≠ 0) : forkOf fs = getI fs (fs.length - 1) := by rw [forkOf, if_pos (by omega)]
def rowF (l : List RowT) : List Int := l.map fun r => forkOf r.2
def rowD (l : List RowT) : List Int := l.map fun r => (r.2.length : Int)
/-- Is each place met, and has each fork a join? -/
def endR : List PlaceT → List RowT → List Int → Bool
  | p :: ps, r :: rs, j :: js => if r.1 = false ∨ (p.kind = 4 ∧ j = 0) then false else endR ps rs js
  | _, _, _ => true
theorem endR_drop {ps : List PlaceT} {rs : List RowT} {js : List Int} {i : Nat} {p : PlaceT} {b : Bool} {fs : List Int} {j : Int} (hp : ps[i]? = some p) (hr : rs[i]? = some (b, fs)) (hj : js[i]? = some j) :
    endR (ps.drop i) (rs.drop i) (js.drop i) = if b = false ∨ (p.kind = 4 ∧ j = 0) then false else endR (ps.drop (i + 1)) (rs.drop (i + 1)) (js.drop (i + 1)) := by
  obtain ⟨h1, h2⟩ := List.getElem?_eq_some_iff.1 hp
  obtain ⟨h3, h4⟩ := List.getElem?_eq_some_iff.1 hr
  obtain ⟨h5, h6⟩ := List.getElem?_eq_some_iff.1 hj
  rw [List.drop_eq_getElem_cons h1, List.drop_eq_getElem_cons h3, List.drop_eq_getElem_cons h5, endR, h2, h4, h6]
theorem endR_end {ps : List PlaceT} {rs : List RowT} {js : List Int} {i : Nat} (h : rs.length ≤ i) : endR (ps.drop i) (rs.drop i) (js.drop i) = true := by
  rw [List.drop_eq_nil_of_le (as := rs) h]
  generalize ps.drop i = a
  cases a <;> rfl
theorem rowF_drop {rs : List RowT} {i : Nat} {b : Bool} {fs : List Int} (hr : rs[i]? = some (b, fs)) : rowF (rs.drop i) = forkOf fs :: rowF (rs.drop (i + 1)) := by
  obtain ⟨h3, h4⟩ := List.getElem?_eq_some_iff.1 hr
  rw [List.drop_eq_getElem_cons h3, rowF, List.map_cons, h4]; rfl
theorem rowD_drop {rs : List RowT} {i : Nat} {b : Bool} {fs : List Int} (hr : rs[i]? = some (b, fs)) : rowD (rs.drop i) = (fs.length : Int) :: rowD (rs.drop (i + 1)) := by
  obtain ⟨h3, h4⟩ := List.getElem?_eq_some_iff.1 hr
  rw [List.drop_eq_getElem_cons h3, rowD, List.map_cons, h4]; rfl
end Go.RxTree
namespace Go.RxTree
/-- What was put together before a place that fails. -/
def badF : List PlaceT → List RowT → List Int → List Int
  | p :: ps, r :: rs, j :: js => if r.1 = false ∨ (p.kind = 4 ∧ j = 0) then [] else forkOf r.2 :: badF ps rs js
  | _, _, _ => []
def badD : List PlaceT → List RowT → List Int → List Int
  | p :: ps, r :: rs, j :: js => if r.1 = false ∨ (p.kind = 4 ∧ j = 0) then [] else (r.2.length : Int) :: badD ps rs js
  | _, _, _ => []
theorem badF_drop {ps : List PlaceT} {rs : List RowT} {js : List Int} {i : Nat} {p : PlaceT} {b : Bool} {fs : List Int} {j : Int} (hp : ps[i]? = some p) (hr : rs[i]? = some (b, fs)) (hj : js[i]? = some j) :
    badF (ps.drop i) (rs.drop i) (js.drop i) = if b = false ∨ (p.kind = 4 ∧ j = 0) then [] else forkOf fs :: badF (ps.drop (i + 1)) (rs.drop (i + 1)) (js.drop (i + 1)) := by
  obtain ⟨h1, h2⟩ := List.getElem?_eq_some_iff.1 hp
  obtain ⟨h3, h4⟩ := List.getElem?_eq_some_iff.1 hr
  obtain ⟨h5, h6⟩ := List.getElem?_eq_some_iff.1 hj
  rw [List.drop_eq_getElem_cons h1, List.drop_eq_getElem_cons h3, List.drop_eq_getElem_cons h5, badF, h2, h4, h6]
theorem badD_drop {ps : List PlaceT} {rs : List RowT} {js : List Int} {i : Nat} {p : PlaceT} {b : Bool} {fs : List Int} {j : Int} (hp : ps[i]? = some p) (hr : rs[i]? = some (b, fs)) (hj : js[i]? = some j) :
    badD (ps.drop i) (rs.drop i) (js.drop i) = if b = false ∨ (p.kind = 4 ∧ j = 0) then [] else (fs.length : Int) :: badD (ps.drop (i + 1)) (rs.drop (i + 1)) (js.drop (i + 1)) := by
  obtain ⟨h1, h2⟩ := List.getElem?_eq_some_iff.1 hp
  obtain ⟨h3, h4⟩ := List.getElem?_eq_some_iff.1 hr
  obtain ⟨h5, h6⟩ := List.getElem?_eq_some_iff.1 hj
  rw [List.drop_eq_getElem_cons h1, List.drop_eq_getElem_cons h3, List.drop_eq_getElem_cons h5, badD, h2, h4, h6]
end Go.RxTree
end
section
open Go Go.Rx
namespace Go.RxTree
set_option linter.unusedVariables false
def refE (ps : List PlaceT) : Int := if (rowsR ps).2 = 0 then (if endR ps (rowsR ps).1.rows (rowsR ps).1.joins = true then 0 else 8) else (rowsR ps).2
def refErr (d : DefT) : Int := if checkD d = 0 then refE d.places else checkD d
def refFork (d : DefT) : List Int := if refErr d = 0 then rowF (rowsR d.places).1.rows else []
def refDeep (d : DefT) : List Int := if refErr d = 0 then rowD (rowsR d.places).1.rows else []
def refJoin (d : DefT) : List Int := if refErr d = 0 then (rowsR d.places).1.joins else []
theorem rowsR_ok {ps : List PlaceT} (h0 : 0 < ps.length) (hO : ∀ p ∈ ps, outsOk p.out ps.length) : RwOk ps.length (rowsR ps).1 := rowsS_ok rfl hO (rowsW_ok h0)
end Go.RxTree
end
