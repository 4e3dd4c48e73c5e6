/- What the functions of definitions come to. -/
import Derived.Test.YtaghcidejnhahaaRSpecA
import Derived.Test.YtaghcidejnhahaaRxDef
open Go Go.Rx
namespace Go.RxTree
set_option linter.unusedVariables false
set_option linter.unusedSimpArgs false
def tv (k : Int) : Int := if truthK k = true then 1 else 0
theorem tv_eq {a b : Int} : (truthK a == truthK b) = decide (tv a = tv b) := by
  unfold tv; cases truthK a <;> cases truthK b <;> rfl
def allAs (w : Int) (l : List T) : Bool := l.all fun x => typedT x && decide (tv x.kind = w)
theorem ofL_all {o : Int} : ∀ (l : List T) (f : Bool) (w : Int), 0 ≤ w → (∀ x ∈ l, ofT x = if typedT x = true then (tv x.kind, 0) else (0, 7)) → ofL l f w o = if allAs w l = true then (o, 0) else (0, 7)
  | [], f, w, hw, h => rfl
  | x :: r, f, w, hw, h => by
    have hx := h x (by simp)
    have ih := ofL_all (o := o) r false w hw (fun y hy => h y (by simp [hy]))
    rw [ofL, hx, if_neg (show ¬(f = true ∧ w < 0) by omega)]
    simp only [allAs, List.all_cons] at ih ⊢
    by_cases ht : typedT x = true
    · by_cases hv : tv x.kind = w
      · rw [if_pos ht, if_neg (by simp), if_neg (by simp [hv]), ih]; simp [ht, hv]
      · rw [if_pos ht, if_neg (by simp), if_pos (by simp [hv])]; simp [ht, hv]
    · rw [if_neg ht]; simp [ht]
theorem typedL_all {k : Int} {f : Option Int} {w : Int} (hw : ∀ x : Int, (if k = 11 then truthK x == truthK (f.getD 0) else truthK x == decide (k = 6 ∨ k = 13 ∨ k = 14)) = decide (tv x = w)) : ∀ l : List T, typedL k f l = allAs w l
  | [] => rfl
  | x :: r => by
    rw [typedL, hw, typedL_all hw r]; simp only [allAs, List.all_cons, Bool.and_assoc]
theorem tv_dec (x : Int) (b : Bool) : (truthK x == b) = decide (tv x = if b = true then 1 else 0) := by
  unfold tv; cases truthK x <;> cases b <;> rfl
theorem checkL_mem : ∀ {l : List T} {d : Int} {x : T}, checkL l d = 0 → x ∈ l → checkT x d = 0
  | a :: r, d, x, h, hm => by
    rw [checkL] at h
    by_cases h1 : checkT a d = 0
    · rw [if_pos h1] at h
      rcases List.mem_cons.1 hm with rfl | hm
      · exact h1
      · exact checkL_mem h hm
    · rw [if_neg h1] at h; exact absurd h h1
theorem checkT_inv {k n d : Int} {s : List UInt8} {l : List T} (h : checkT (.mk k n s l) d = 0) : ¬d > 16 ∧ nodeN k n l.length ∧ textOk k s = true ∧ checkL l (d + 1) = 0 := by
  rw [checkT] at h
  by_cases h1 : d > 16
  · rw [if_pos h1] at h; cases h
  · rw [if_neg h1] at h
    cases h2 : nodeOk k n s l.length
    · rw [h2] at h; cases h
    · rw [h2] at h
      simp only [nodeOk, Bool.and_eq_true, decide_eq_true_eq] at h2
      exact ⟨h1, h2.1, h2.2, h⟩
theorem of_typed : ∀ (m : Nat) (t : T) (d : Int), t.wt ≤ m → checkT t d = 0 → ofT t = if typedT t = true then (tv t.kind, 0) else (0, 7) := by
  intro m
  induction m with
  | zero => intro t d h; rw [T.wt_eq] at h; omega
  | succ m ihm =>
  intro t d hm hc
  obtain ⟨k, n, s, l⟩ := t
  obtain ⟨c1, ⟨c2, c3, c4, c5, c6, c7, c8⟩, c9, c10⟩ := checkT_inv hc
  rw [T.wt] at hm
  have ih : ∀ x ∈ l, ofT x = if typedT x = true then (tv x.kind, 0) else (0, 7) := fun x hx => ihm x (d + 1) (by have := wtL_mem l x hx; omega) (checkL_mem c10 hx)
  rw [ofT, typedT]
  show _ = if typedL k (l.head?.map T.kind) l = true then (tv k, 0) else (0, 7)
  by_cases h11 : k = 11
  · subst h11
    obtain ⟨x, y, rfl⟩ : ∃ x y, l = [x, y] := by
      have := c6 (by omega)
      match l, this with
      | [x, y], _ => exact ⟨x, y, rfl⟩
    have hx := ih x (by simp)
    show ofL [x, y] true (-1) 1 = _
    have h2 := ofL_all (o := 1) [y] false (tv x.kind) (by unfold tv; split <;> omega) (fun z hz => ih z (by simp at hz; simp [hz]))
    rw [ofL, hx, typedL_all (w := tv x.kind) (fun z => by rw [if_pos rfl]; exact tv_eq)]
    simp only [allAs, List.all_cons, decide_true, Bool.and_true] at h2 ⊢
    by_cases ht : typedT x = true
    · have h11 : tv 11 = 1 := by decide
      simp [ht, h2, h11]
    · rw [if_neg ht]; simp [ht]
  · have hsh : (shapeP k).1 = (if decide (k = 6 ∨ k = 13 ∨ k = 14) = true then 1 else 0) ∨ l = [] := by
      unfold shapeP
      by_cases h : k = 3 ∨ k = 4
      · right; exact List.eq_nil_of_length_eq_zero (c4 (by omega))
      · left; simp only [decide_eq_true_eq]; split <;> (try split) <;> (try split) <;> first | rfl | omega | (simp; omega) | skip
        all_goals (simp only []; split <;> first | rfl | omega)
    have ho : (shapeP k).2 = tv k := by
      unfold shapeP tv truthK
      simp only [decide_eq_true_eq]
      by_cases h1 : k = 3 ∨ k = 4 ∨ k = 6 ∨ k = 11 ∨ k = 12 ∨ k = 13 ∨ k = 14
      · rw [if_pos h1, if_neg (by omega)]; split <;> (try split) <;> rfl
      · rw [if_neg h1, if_pos (by omega)]
    rcases hsh with hsh | rfl
    · rw [ofL_all l true _ (by rw [hsh]; split <;> omega) ih, ho, hsh, typedL_all (w := if decide (k = 6 ∨ k = 13 ∨ k = 14) = true then 1 else 0) (fun z => by rw [if_neg h11]; exact tv_dec z _)]
    · rw [ofL, ho]; rfl
/-- Does a condition come to a truth, and what is wrong? -/
def truthP (t : T) : Bool × Int := if checkT t 1 ≠ 0 then (false, checkT t 1) else if typedT t = true then (truthK t.kind, 0) else (false, 7)
theorem truthP_e {t : T} (h : checkT t 1 ≠ 0) : truthP t = (false, checkT t 1) := by rw [truthP, if_pos h]
theorem truthP_of {t : T} (h : checkT t 1 = 0) : truthP t = ((ofT t).1 == 1, (ofT t).2) := by
  rw [truthP, if_neg (by simp [h]), of_typed _ t 1 (Nat.le_refl _) h]
  cases typedT t
  · rfl
  · simp only [if_true]; unfold tv; cases truthK t.kind <;> rfl
theorem truthP_7 {t : T} (h : checkT t 1 = 0) (h1 : typedT t = false) : truthP t = (false, 7) := by rw [truthP, if_neg (by simp [h]), h1]; rfl
theorem truthP_k {t : T} (h : checkT t 1 = 0) (h1 : typedT t = true) : truthP t = (truthK t.kind, 0) := by rw [truthP, if_neg (by simp [h]), h1]; rfl
/-- What is wrong with a condition that must come to a truth, or a number. -/
def typedS (t : T) (b : Bool) : Int := if (truthP t).2 ≠ 0 then (truthP t).2 else if (truthP t).1 ≠ b then 7 else 0
def namedK (k : Int) : Bool := decide (k = 2 ∨ k = 6 ∨ k = 9)
def asksK (k : Int) : Bool := decide (k = 6 ∨ k = 7 ∨ k = 9)
def leastK (k : Int) : Int := if k = 4 then 2 else if k = 8 then 0 else 1
def mostK (k : Int) : Int := if k = 3 ∨ k = 4 then 16 else if k = 8 then 0 else 1
def argS : List T → Int
  | [] => 0
  | x :: _ => typedS x false
theorem arg_first (l : List T) : ∃ x : T, (l.length ≠ 0 → l[0]? = some x ∧ argS l = typedS x false) ∧ (l.length = 0 → argS l = 0) := by
  cases l with
  | nil => exact ⟨.mk 0 0 [] [], fun h => absurd rfl h, fun _ => rfl⟩
  | cons x r => exact ⟨x, fun _ => ⟨rfl, rfl⟩, fun h => by simp at h⟩
/-- Is a name, or that there is one, wrong? -/
def badName (k : Int) (s : List UInt8) : Bool := if namedK k = true then !nameOk s || (decide (k = 9) && (s == [121, 101, 115] || s == [110, 111])) else !(s == [])
def argN (k : Int) : Int := if asksK k = true then 1 else 0
/-- Has a place what its kind has? -/
def fieldsS (p : PlaceT) : Int :=
  if p.kind < 1 ∨ p.kind > 9 then 1
  else if badName p.kind p.name = true then 1
  else if p.n < 0 ∨ p.n > 9 ∨ (p.n ≠ 0 ∧ p.kind ≠ 2) then 2
  else if (p.arg.length : Int) ≠ argN p.kind then 1
  else if (p.out.length : Int) < leastK p.kind ∨ (p.out.length : Int) > mostK p.kind then 8
  else argS p.arg
section
variable {k n : Int} {s : List UInt8} {a : List T} {o : List FlowT}
theorem badN_1 (h : namedK k = false) (hs : s = []) : badName k s = false := by subst hs; unfold badName; rw [h]; rfl
theorem badN_2 (h : namedK k = false) (hs : s ≠ []) : badName k s = true := by unfold badName; rw [h, if_neg (by simp), beq_f hs]; rfl
theorem badN_3 (h : namedK k = true) (hn : nameOk s = false) : badName k s = true := by unfold badName; rw [h, if_pos rfl, hn]; rfl
theorem badN_4 (h : namedK k = true) (hk : k ≠ 9) (hn : nameOk s = true) : badName k s = false := by unfold badName; rw [h, if_pos rfl, hn, dec_f hk]; rfl
theorem badN_9 (h : (nameOk s && (!(s == [121, 101, 115]) && !(s == [110, 111]))) = true) : badName 9 s = false := by
  simp only [Bool.and_eq_true, Bool.not_eq_true'] at h
  show (!nameOk s || (true && (s == [121, 101, 115] || s == [110, 111]))) = false
  rw [h.1, h.2.1, h.2.2]; rfl
theorem badN_9f (h : (nameOk s && (!(s == [121, 101, 115]) && !(s == [110, 111]))) = false) : badName 9 s = true := by
  show (!nameOk s || (true && (s == [121, 101, 115] || s == [110, 111]))) = true
  revert h; cases nameOk s <;> cases (s == [121, 101, 115]) <;> cases (s == [110, 111]) <;> simp
theorem badN_9a (h : nameOk s = true) (h1 : s ≠ [121, 101, 115]) (h2 : s ≠ [110, 111]) : badName 9 s = false := badN_9 (by rw [h, beq_f h1, beq_f h2]; rfl)
theorem badN_9b : badName 9 [121, 101, 115] = true := badN_9f (by decide)
theorem badN_9c : badName 9 [110, 111] = true := badN_9f (by decide)
theorem F1 (h : k < 1 ∨ k > 9) : fieldsS ⟨k, s, n, a, o⟩ = 1 := by rw [fieldsS, if_pos h]
theorem F2 (h : 1 ≤ k ∧ k ≤ 9) (hb : badName k s = true) : fieldsS ⟨k, s, n, a, o⟩ = 1 := by rw [fieldsS, if_neg (by simp only []; omega), if_pos hb]
theorem F3 (h : 1 ≤ k ∧ k ≤ 9) (hb : badName k s = false) (hn : n < 0 ∨ n > 9 ∨ (n ≠ 0 ∧ k ≠ 2)) : fieldsS ⟨k, s, n, a, o⟩ = 2 := by rw [fieldsS, if_neg (by simp only []; omega), if_neg (by simp only []; rw [hb]; simp), if_pos hn]
theorem F4 (h : 1 ≤ k ∧ k ≤ 9) (hb : badName k s = false) (hn : ¬(n < 0 ∨ n > 9 ∨ (n ≠ 0 ∧ k ≠ 2))) (ha : (a.length : Int) ≠ argN k) : fieldsS ⟨k, s, n, a, o⟩ = 1 := by rw [fieldsS, if_neg (by simp only []; omega), if_neg (by simp only []; rw [hb]; simp), if_neg hn, if_pos ha]
theorem F5 (h : 1 ≤ k ∧ k ≤ 9) (hb : badName k s = false) (hn : ¬(n < 0 ∨ n > 9 ∨ (n ≠ 0 ∧ k ≠ 2))) (ha : (a.length : Int) = argN k) (ho : (o.length : Int) < leastK k ∨ (o.length : Int) > mostK k) : fieldsS ⟨k, s, n, a, o⟩ = 8 := by rw [fieldsS, if_neg (by simp only []; omega), if_neg (by simp only []; rw [hb]; simp), if_neg hn, if_neg (by simp only []; omega), if_pos ho]
theorem F6 (h : 1 ≤ k ∧ k ≤ 9) (hb : badName k s = false) (hn : ¬(n < 0 ∨ n > 9 ∨ (n ≠ 0 ∧ k ≠ 2))) (ha : (a.length : Int) = argN k) (ho : ¬((o.length : Int) < leastK k ∨ (o.length : Int) > mostK k)) : fieldsS ⟨k, s, n, a, o⟩ = argS a := by rw [fieldsS, if_neg (by simp only []; omega), if_neg (by simp only []; rw [hb]; simp), if_neg hn, if_neg (by simp only []; omega), if_neg ho]
theorem ab_1 {x y : Int} : (false = (x == y)) ↔ x ≠ y := by rw [eq_comm]; simp
theorem ab_2 {x y : Int} : (false ≠ (x == y)) ↔ x = y := by rw [ne_comm]; simp
theorem ab_3 {x y : Int} : (true = (x == y)) ↔ x = y := by rw [eq_comm]; simp
theorem ab_4 {x y : Int} : (true ≠ (x == y)) ↔ x ≠ y := by rw [ne_comm]; simp
end
/-- Does a place lead where it may? -/
def flowsL (k n : Int) : List FlowT → Int
  | [] => 0
  | f :: r => if f.to < 1 ∨ f.to ≥ n then 8 else if k ≠ 3 then (if f.iff.length = 0 then flowsL k n r else 8) else match f.iff with
    | [] => if r.length = 0 then flowsL k n r else 8
    | [x] => if typedS x true = 0 then flowsL k n r else typedS x true
    | _ => 8
/-- May places be, from some one on? -/
def placesL (n : Int) : Bool → List PlaceT → Int
  | _, [] => 0
  | b, p :: r => if fieldsS p ≠ 0 then fieldsS p else if decide (p.kind = 1) ≠ b then 8 else if flowsL p.kind n p.out ≠ 0 then flowsL p.kind n p.out else placesL n false r
/-- May a definition be? -/
def checkD (d : DefT) : Int :=
  if nameOk d.id = false then 1 else if d.places.length > 4096 then 6 else if d.places.length = 0 then 8 else placesL d.places.length true d.places
theorem iff_first (l : List T) : ∃ x : T, l.length ≠ 0 → l[0]? = some x ∧ (l.length = 1 → l = [x]) := by
  match l with
  | [] => exact ⟨.mk 0 0 [] [], fun h => absurd rfl h⟩
  | [x] => exact ⟨x, fun _ => ⟨rfl, fun _ => rfl⟩⟩
  | x :: y :: r => exact ⟨x, fun _ => ⟨rfl, fun h => by simp at h⟩⟩
section
variable {l : List FlowT} {i : Nat} {f : FlowT} {k n : Int} {y : T}
theorem flowsL_drop (h : l[i]? = some f) : flowsL k n (l.drop i) = flowsL k n (f :: l.drop (i + 1)) := by
  obtain ⟨h1, e1⟩ := List.getElem?_eq_some_iff.1 h
  rw [List.drop_eq_getElem_cons h1, e1]
theorem flowsL_1 (h : l[i]? = some f) (h1 : f.to < 1 ∨ f.to ≥ n) : flowsL k n (l.drop i) = 8 := by rw [flowsL_drop h, flowsL, if_pos h1]
theorem flowsL_2 (h : l[i]? = some f) (h1 : ¬(f.to < 1 ∨ f.to ≥ n)) (h2 : k ≠ 3) (h3 : f.iff.length ≠ 0) : flowsL k n (l.drop i) = 8 := by rw [flowsL_drop h, flowsL, if_neg h1, if_pos h2, if_neg h3]
theorem flowsL_3 (h : l[i]? = some f) (h1 : ¬(f.to < 1 ∨ f.to ≥ n)) (h2 : k ≠ 3) (h3 : f.iff.length = 0) : flowsL k n (l.drop i) = flowsL k n (l.drop (i + 1)) := by rw [flowsL_drop h, flowsL, if_neg h1, if_pos h2, if_pos h3]
theorem flowsL_4 (h : l[i]? = some f) (h1 : ¬(f.to < 1 ∨ f.to ≥ n)) (h2 : k = 3) (h3 : f.iff.length > 1) : flowsL k n (l.drop i) = 8 := by
  rw [flowsL_drop h, flowsL, if_neg h1, if_neg (by omega)]
  match hq : f.iff, h3 with
  | x :: z :: r, _ => rfl
theorem flowsL_5 (h : l[i]? = some f) (h1 : ¬(f.to < 1 ∨ f.to ≥ n)) (h2 : k = 3) (h3 : f.iff.length = 0) (h4 : i + 1 < l.length) : flowsL k n (l.drop i) = 8 := by
  rw [flowsL_drop h, flowsL, if_neg h1, if_neg (by omega), List.eq_nil_of_length_eq_zero h3]
  simp only []
  rw [if_neg (by simp; omega)]
theorem flowsL_6 (h : l[i]? = some f) (h1 : ¬(f.to < 1 ∨ f.to ≥ n)) (h2 : k = 3) (h3 : f.iff.length = 0) (h4 : ¬ i + 1 < l.length) : flowsL k n (l.drop i) = flowsL k n (l.drop (i + 1)) := by
  rw [flowsL_drop h, flowsL, if_neg h1, if_neg (by omega), List.eq_nil_of_length_eq_zero h3]
  simp only []
  rw [if_pos (by simp; omega)]
theorem flowsL_7 (h : l[i]? = some f) (h1 : ¬(f.to < 1 ∨ f.to ≥ n)) (h2 : k = 3) (h3 : f.iff = [y]) (h4 : typedS y true ≠ 0) : flowsL k n (l.drop i) = typedS y true := by
  rw [flowsL_drop h, flowsL, if_neg h1, if_neg (by omega), h3]
  simp only []
  rw [if_neg h4]
theorem flowsL_8 (h : l[i]? = some f) (h1 : ¬(f.to < 1 ∨ f.to ≥ n)) (h2 : k = 3) (h3 : f.iff = [y]) (h4 : typedS y true = 0) : flowsL k n (l.drop i) = flowsL k n (l.drop (i + 1)) := by
  rw [flowsL_drop h, flowsL, if_neg h1, if_neg (by omega), h3]
  simp only []
  rw [if_pos h4]
end
section
variable {l : List PlaceT} {i : Nat} {p : PlaceT} {n : Int} {b : Bool}
theorem placesL_drop (h : l[i]? = some p) : placesL n b (l.drop i) = placesL n b (p :: l.drop (i + 1)) := by
  obtain ⟨h1, e1⟩ := List.getElem?_eq_some_iff.1 h
  rw [List.drop_eq_getElem_cons h1, e1]
theorem placesL_1 (h : l[i]? = some p) (h1 : fieldsS p ≠ 0) : placesL n b (l.drop i) = fieldsS p := by rw [placesL_drop h, placesL, if_pos h1]
theorem placesL_2 (h : l[i]? = some p) (h1 : fieldsS p = 0) (h2 : decide (p.kind = 1) ≠ b) : placesL n b (l.drop i) = 8 := by rw [placesL_drop h, placesL, if_neg (by omega), if_pos h2]
theorem placesL_3 (h : l[i]? = some p) (h1 : fieldsS p = 0) (h2 : decide (p.kind = 1) = b) (h3 : flowsL p.kind n p.out ≠ 0) : placesL n b (l.drop i) = flowsL p.kind n p.out := by rw [placesL_drop h, placesL, if_neg (by omega), if_neg (by simp [h2]), if_pos h3]
theorem placesL_4 (h : l[i]? = some p) (h1 : fieldsS p = 0) (h2 : decide (p.kind = 1) = b) (h3 : flowsL p.kind n p.out = 0) : placesL n b (l.drop i) = placesL n false (l.drop (i + 1)) := by rw [placesL_drop h, placesL, if_neg (by omega), if_neg (by simp [h2]), if_neg (by omega)]
theorem bb_eq {a b c d : Int} : ((a == b) = (c == d)) ↔ (a = b ↔ c = d) := by rw [Bool.eq_iff_iff]; simp
theorem bb_ne {a b c d : Int} : ((a == b) ≠ (c == d)) ↔ ¬(a = b ↔ c = d) := by rw [ne_eq, bb_eq]
theorem dd_ne {p : Prop} {q : Prop} [Decidable p] [Decidable q] (h : ¬(p ↔ q)) : decide p ≠ decide q := by simpa using h
theorem dd_eq {p : Prop} {q : Prop} [Decidable p] [Decidable q] (h : p ↔ q) : decide p = decide q := by simpa using h
end
def FlowT.Sm (f : FlowT) : Prop := SmL f.iff
def PlaceT.Sm (p : PlaceT) : Prop := p.name.length ≤ 140737488351232 ∧ SmL p.arg ∧ (∀ f ∈ p.out, f.Sm) ∧ p.out.length ≤ 140737488351232
def DefT.Sm (d : DefT) : Prop := d.id.length ≤ 140737488351232 ∧ ∀ p ∈ d.places, p.Sm
end Go.RxTree
