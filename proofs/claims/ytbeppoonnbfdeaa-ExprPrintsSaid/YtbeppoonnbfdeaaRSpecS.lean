/- The document's answer on words: where they can't go on, and which tree they are. -/
import Derived.Test.YtbeppoonnbfdeaaRSpecP
set_option linter.unusedVariables false
set_option linter.unusedSimpArgs false
namespace Go.RxTree
open Go Go.Rx
def W.sg (w : W) : List UInt8 := if w.k = 3 then w.t else []
def W.Wf (w : W) : Prop := w.k = 1 ∨ w.k = 2 ∨ (w.k = 3 ∧ w.t ≠ [])
def kindW (w : W) : Int := twoK w.sg
/-- Where words can't go on, and why: what is open here, with its levels (the last one first), and about it. -/
def scanW (L : Int) : List W → Int → List Int → List (Int × List Int) → Int → Bool → Int × Int
  | [], D, lv, rest, u, true => if D + lv.length + u > 16 then (6, L) else (3, L)
  | [], D, lv, rest, u, false => if rest.length > 0 then (3, L) else (0, 0)
  | w :: r, D, lv, rest, u, true =>
    if D + lv.length + u > 16 then (6, w.at')
    else if w.sg = [45] ∨ w.sg = [33] then scanW L r D lv rest (u + 1) true
    else if w.sg = [40] then scanW L r (D + lv.length + u + 1) [] ((D, lv) :: rest) 0 true
    else if w.k ≠ 1 ∧ w.k ≠ 2 then (3, w.at')
    else scanW L r D lv rest 0 false
  | w :: r, D, lv, rest, u, false => match (if w.sg = [41] then rest else []) with
    | (D', lv') :: rest' => scanW L r D' lv' rest' u false
    | [] =>
      if levelK (kindW w) = 6 ∨ ((lv.dropWhile fun a => decide (a > levelK (kindW w))).head? = some (levelK (kindW w)) ∧ levelK (kindW w) = 3) then (3, w.at')
      else scanW L r D (if (lv.dropWhile fun a => decide (a > levelK (kindW w))).head? = some (levelK (kindW w)) then lv.dropWhile fun a => decide (a > levelK (kindW w)) else levelK (kindW w) :: lv.dropWhile fun a => decide (a > levelK (kindW w))) rest u true
/-- Words that are a condition that binds so. -/
inductive Seg : Int → List W → T → Prop
  | word (w : W) : w.k = 1 ∨ w.k = 2 → Seg 6 [w] (wordT w)
  | un (w : W) (a : List W) (x : T) : w.sg = [45] ∨ w.sg = [33] → Seg 6 a x → Seg 6 (w :: a) (.mk (if w.sg = [45] then 5 else 6) 0 [] [x])
  | br (w v : W) (a : List W) (x : T) : w.sg = [40] → v.sg = [41] → Seg 1 a x → Seg 6 (w :: (a ++ [v])) x
  | bin (lo : Int) (a b : List W) (w : W) (x y : T) : Seg lo a x → Seg (lo + 1) b y → kindW w ≠ 0 → levelK (kindW w) = lo → Seg lo (a ++ w :: b) (.mk (kindW w) 0 [] [x, y])
  | weak (lo : Int) (a : List W) (x : T) : Seg (lo + 1) a x → Seg lo a x
def seg (l : List W) (i j : Nat) : List W := (l.drop i).take (j - i)
theorem seg_app (l : List W) {i j k : Nat} (h1 : i ≤ j) (h2 : j ≤ k) : seg l i k = seg l i j ++ seg l j k := by
  unfold seg
  rw [show k - i = (j - i) + (k - j) by omega, List.take_add, List.drop_drop, show i + (j - i) = j by omega]
theorem drop_at {l : List W} {i : Nat} {w : W} (h : l[i]? = some w) : l.drop i = w :: l.drop (i + 1) := by
  obtain ⟨h1, e1⟩ := List.getElem?_eq_some_iff.1 h
  rw [List.drop_eq_getElem_cons h1, e1]
theorem seg_cons {l : List W} {i j : Nat} {w : W} (h : l[i]? = some w) (hj : i < j) : seg l i j = w :: seg l (i + 1) j := by
  unfold seg
  rw [drop_at h, show j - i = (j - (i + 1)) + 1 by omega, List.take_succ_cons]
theorem seg_one {l : List W} {i : Nat} {w : W} (h : l[i]? = some w) : seg l i (i + 1) = [w] := by
  rw [seg_cons h (by omega)]; unfold seg; simp
theorem sign_at {l : List W} {i : Nat} {w : W} (h : l[i]? = some w) : signL l i = w.sg := by unfold signL W.sg; rw [h]
theorem sign_none {l : List W} {i : Nat} (h : l[i]? = none) : signL l i = [] := by unfold signL; rw [h]
theorem at_at {l : List W} {i : Nat} {w : W} {L : Int} (h : l[i]? = some w) : atL l i L = w.at' := by unfold atL; rw [h]
theorem at_none {l : List W} {i : Nat} {L : Int} (h : l[i]? = none) : atL l i L = L := by unfold atL; rw [h]
theorem sg_some {l : List W} {i : Nat} {c : UInt8} (h : signL l i = [c]) : ∃ w, l[i]? = some w ∧ w.sg = [c] := by
  cases hw : l[i]? with
  | none => rw [sign_none hw] at h; cases h
  | some w => rw [sign_at hw] at h; exact ⟨w, rfl, h⟩
theorem level6 (s : List UInt8) : levelK (twoK s) = 6 ↔ twoK s = 0 := by
  unfold twoK
  repeat' split
  all_goals decide
theorem level_pos (k : Int) : 1 ≤ levelK k := by
  unfold levelK
  repeat' split
  all_goals omega
abbrev KL (l : List W) (j : Nat) : Int := levelK (twoK (signL l j))
theorem twoK_nil : twoK [] = 0 := by decide
abbrev Dec (l : List Int) : Prop := l.Pairwise (· > ·)
theorem dw_mem {k : Int} : ∀ (ex Lv : List Int), Dec ex → k ∈ ex → ∃ r, (ex ++ Lv).dropWhile (fun a => decide (a > k)) = k :: r
  | [], Lv, _, h => by simp at h
  | a :: ex, Lv, hd, h => by
    replace hd := List.pairwise_cons.1 hd
    rcases List.mem_cons.1 h with rfl | h
    · exact ⟨ex ++ Lv, by rw [List.cons_append, List.dropWhile_cons, if_neg (by simp)]⟩
    · have := hd.1 k h
      obtain ⟨r, hr⟩ := dw_mem ex Lv hd.2 h
      exact ⟨r, by rw [List.cons_append, List.dropWhile_cons, if_pos (by simpa using this)]; exact hr⟩
theorem dw_low {k : Int} : ∀ (Lv : List Int), (∀ v ∈ Lv, v < k) → Lv.dropWhile (fun a => decide (a > k)) = Lv
  | [], _ => rfl
  | a :: r, h => by
    have := h a (by simp)
    rw [List.dropWhile_cons, if_neg (by simp; omega)]
theorem dw_at {k : Int} : ∀ (ex Lv : List Int), Dec ex → (∀ v ∈ ex, k ≤ v) → (∀ v ∈ Lv, v < k) → (ex ++ Lv).dropWhile (fun a => decide (a > k)) = if k ∈ ex then k :: Lv else Lv
  | [], Lv, _, _, h => by rw [List.nil_append, dw_low Lv h]; simp
  | a :: ex, Lv, hd, h1, h2 => by
    replace hd := List.pairwise_cons.1 hd
    have ha := h1 a (by simp)
    by_cases hk : a = k
    · subst hk
      rw [List.cons_append, List.dropWhile_cons, if_neg (by simp)]
      have he : ex = [] := by
        cases ex with
        | nil => rfl
        | cons b r => have := hd.1 b (by simp); have := h1 b (by simp); omega
      subst he; simp
    · rw [List.cons_append, List.dropWhile_cons, if_pos (by simp; omega), dw_at ex Lv hd.2 (fun v hv => h1 v (by simp [hv])) h2]
      by_cases hm : k ∈ ex
      · rw [if_pos hm, if_pos (by simp [hm])]
      · rw [if_neg hm, if_neg (by simp [hm]; omega)]
theorem head_low {k : Int} {Lv : List Int} (h : ∀ v ∈ Lv, v < k) : Lv.head? ≠ some k := by
  cases Lv with
  | nil => simp
  | cons a r => have := h a (by simp); simp; omega
/-- What is read where words may be, comes to where they may go on. -/
def SimO (l : List W) (L : Int) (i : Nat) (D : Int) (Lv : List Int) (rest : List (Int × List Int)) (u : Int) : Rs → Prop
  | .bad e a => scanW L (l.drop i) D Lv rest u true = (e, a)
  | .tree x j => i < j ∧ j ≤ l.length ∧ scanW L (l.drop i) D Lv rest u true = scanW L (l.drop j) D Lv rest 0 false ∧ Seg 6 (seg l i j) x
def StopK (l : List W) (lo : Int) (j : Nat) (ex : List Int) : Prop := KL l j = 6 ∨ KL l j < lo ∨ (KL l j = 3 ∧ 3 ∈ ex)
def SimE (l : List W) (L : Int) (i : Nat) (lo D : Int) (Lv : List Int) (rest : List (Int × List Int)) : Rs → Prop
  | .bad e a => scanW L (l.drop i) D Lv rest 0 true = (e, a)
  | .tree x j => ∃ ex, i < j ∧ j ≤ l.length ∧ scanW L (l.drop i) D Lv rest 0 true = scanW L (l.drop j) D (ex ++ Lv) rest 0 false ∧ Dec ex ∧ (∀ v ∈ ex, lo ≤ v) ∧ StopK l lo j ex ∧ Seg lo (seg l i j) x
theorem sim_loop (l : List W) (L : Int) (lo D : Int) (Lv : List Int) (rest : List (Int × List Int)) (f : Nat → Rs) (i : Nat) (h1 : 1 ≤ lo) (h5 : lo ≤ 5) (hLv : ∀ v ∈ Lv, v < lo)
    (hf : ∀ q, i < q → q < l.length → SimE l L (q + 1) (lo + 1) D (lo :: Lv) rest (f (q + 1))) :
    ∀ (m j : Nat) (x : T) (b : Bool) (ex : List Int), l.length ≤ j + m → i < j → j ≤ l.length → Dec ex → (∀ v ∈ ex, lo ≤ v) → (b = true ↔ lo ∈ ex) → (KL l j = 6 ∨ KL l j ≤ lo ∨ (KL l j = 3 ∧ 3 ∈ ex)) → Seg lo (seg l i j) x →
      match loopS f l lo m j x b with
      | .bad e a => scanW L (l.drop j) D (ex ++ Lv) rest 0 false = (e, a)
      | .tree x' j' => ∃ ex', j ≤ j' ∧ j' ≤ l.length ∧ scanW L (l.drop j) D (ex ++ Lv) rest 0 false = scanW L (l.drop j') D (ex' ++ Lv) rest 0 false ∧ Dec ex' ∧ (∀ v ∈ ex', lo ≤ v) ∧ StopK l lo j' ex' ∧ Seg lo (seg l i j') x' := by
  intro m
  induction m with
  | zero =>
    intro j x b ex hm hij hjl hd hex hb hs hg
    rw [loopS]
    refine ⟨ex, Nat.le_refl _, hjl, rfl, hd, hex, .inl ?_, hg⟩
    rw [level6, sign_none (List.getElem?_eq_none (by omega))]; exact twoK_nil
  | succ m ih =>
    intro j x b ex hm hij hjl hd hex hb hs hg
    rw [loopS]
    by_cases he : endsK l lo b j
    · rw [if_pos he]
      refine ⟨ex, Nat.le_refl _, hjl, rfl, hd, hex, ?_, hg⟩
      unfold StopK
      rcases hs with hs | hs | hs
      · exact .inl hs
      · rcases he with he | he | ⟨he, hb'⟩
        · exact .inl ((level6 _).2 he)
        · exact .inr (.inl (by unfold KL at hs ⊢; omega))
        · by_cases hk : KL l j = lo
          · exact .inr (.inr ⟨by omega, by rw [← he]; exact hb.1 hb'⟩)
          · exact .inr (.inl (by omega))
      · exact .inr (.inr hs)
    · rw [if_neg he]
      have hk : KL l j = lo := Decidable.byContradiction fun h => he (.inr (.inl h))
      have hk0 : twoK (signL l j) ≠ 0 := fun h => he (.inl h)
      have hb3 : ¬ (lo = 3 ∧ b = true) := fun h => he (.inr (.inr h))
      have hjl' : j < l.length := by
        apply Decidable.byContradiction; intro h
        apply hk0; rw [sign_none (List.getElem?_eq_none (by omega))]; exact twoK_nil
      obtain ⟨w, hw⟩ : ∃ w, l[j]? = some w := ⟨_, List.getElem?_eq_getElem hjl'⟩
      have hkw : kindW w = twoK (signL l j) := by rw [sign_at hw]; rfl
      have hlw : levelK (kindW w) = lo := by rw [hkw]; exact hk
      have h41 : w.sg ≠ [41] := fun h => hk0 (by rw [sign_at hw, h]; decide)
      have hstep : scanW L (l.drop j) D (ex ++ Lv) rest 0 false = scanW L (l.drop (j + 1)) D (lo :: Lv) rest 0 true := by
        rw [drop_at hw, scanW, if_neg h41, hlw, dw_at ex Lv hd hex hLv]
        by_cases hm : lo ∈ ex
        · rw [if_pos hm]
          rw [if_neg (by simp; exact ⟨by omega, fun h => hb3 ⟨h, hb.2 hm⟩⟩)]
          simp
        · rw [if_neg hm, if_neg (by rintro (h | ⟨h, h2⟩); omega; exact head_low hLv h), if_neg (head_low hLv)]
      have hq := hf j hij hjl'
      cases hr : f (j + 1) with
      | bad e a =>
        rw [hr] at hq
        show scanW L (l.drop j) D (ex ++ Lv) rest 0 false = (e, a)
        rw [hstep]; exact hq
      | tree y j' =>
        rw [hr] at hq
        obtain ⟨ex1, g1, g2, g3, g4, g5, g6, g7⟩ := hq
        have hstop : KL l j' = 6 ∨ KL l j' ≤ lo ∨ (KL l j' = 3 ∧ 3 ∈ ex1 ++ [lo]) := by
          rcases g6 with h | h | ⟨h, h'⟩
          · exact .inl h
          · exact .inr (.inl (by omega))
          · exact .inr (.inr ⟨h, by simp [h']⟩)
        have hsg : Seg lo (seg l i j') (.mk (twoK (signL l j)) 0 [] [x, y]) := by
          rw [seg_app l (show i ≤ j by omega) (show j ≤ j' by omega), seg_cons hw (by omega), ← hkw]
          exact .bin lo _ _ w x y hg g7 (by rw [hkw]; exact hk0) hlw
        have := ih j' (.mk (twoK (signL l j)) 0 [] [x, y]) true (ex1 ++ [lo]) (by omega) (by omega) g2 (List.pairwise_append.2 ⟨g4, by simp, fun a ha b hb => by
          simp at hb; subst hb; have := g5 a ha; omega⟩) (fun v hv => by
          rcases List.mem_append.1 hv with h | h
          · have := g5 v h; omega
          · simp at h; omega) (by simp) hstop hsg
        have e1 : scanW L (l.drop j) D (ex ++ Lv) rest 0 false = scanW L (l.drop j') D ((ex1 ++ [lo]) ++ Lv) rest 0 false := by
          rw [hstep, g3, List.append_assoc]; rfl
        simp only []
        cases hl : loopS f l lo m j' (.mk (twoK (signL l j)) 0 [] [x, y]) true with
        | bad e a => rw [hl] at this; show _ = (e, a); rw [e1]; exact this
        | tree x' j'' =>
          rw [hl] at this
          obtain ⟨ex2, k1, k2, k3, k4, k5, k6, k7⟩ := this
          exact ⟨ex2, by omega, k2, by rw [e1]; exact k3, k4, k5, k6, k7⟩
theorem sim (l : List W) (L : Int) (hw : ∀ w ∈ l, w.Wf) : ∀ (M : Nat),
    (∀ (i : Nat) (d D : Int) (Lv : List Int) (rest : List (Int × List Int)) (u : Int), i ≤ l.length → 8 * (l.length - i) + 1 ≤ M → d = D + Lv.length + u → SimO l L i D Lv rest u (oneS l L M i d)) ∧
    (∀ (i : Nat) (lo d D : Int) (Lv : List Int) (rest : List (Int × List Int)), i ≤ l.length → 1 ≤ lo → lo ≤ 6 → 8 * ((l.length - i : Nat) : Int) + 8 - lo ≤ M → d = D + Lv.length → (∀ v ∈ Lv, v < lo) → SimE l L i lo D Lv rest (exprS l L M i lo d)) := by
  intro M
  induction M with
  | zero => exact ⟨fun i d D Lv rest u hi hM => by omega, fun i lo d D Lv rest hi q1 q6 hM => by omega⟩
  | succ M ih =>
    obtain ⟨ih1, ih2⟩ := ih
    refine ⟨fun i d D Lv rest u hi hM hd => ?_, fun i lo d D Lv rest hi q1 q6 hM hd hLv => ?_⟩
    · rw [oneS]
      cases hwi : l[i]? with
      | none =>
        have hdr : l.drop i = [] := List.drop_eq_nil_of_le (List.getElem?_eq_none_iff.1 hwi)
        have h0 : signL l i = [] := sign_none hwi
        by_cases g : d > 16
        · rw [if_pos g]
          show scanW L (l.drop i) D Lv rest u true = _
          rw [hdr, scanW, if_pos (by omega), at_none hwi]
        · rw [if_neg g, h0, if_neg (by simp), if_neg (by simp)]
          show scanW L (l.drop i) D Lv rest u true = _
          rw [hdr, scanW, if_neg (by omega), at_none hwi]
      | some w =>
        have hil := (List.getElem?_eq_some_iff.1 hwi).1
        have hsw := sign_at hwi
        rw [hsw, at_at hwi]
        have hdr := drop_at hwi
        by_cases g : d > 16
        · rw [if_pos g]
          show scanW L (l.drop i) D Lv rest u true = _
          rw [hdr, scanW, if_pos (by omega)]
        · rw [if_neg g]
          by_cases g1 : w.sg = [45] ∨ w.sg = [33]
          · rw [if_pos g1]
            have h := ih1 (i + 1) (d + 1) D Lv rest (u + 1) (by omega) (by omega) (by omega)
            have e1 : scanW L (l.drop i) D Lv rest u true = scanW L (l.drop (i + 1)) D Lv rest (u + 1) true := by
              rw [hdr, scanW, if_neg (by omega), if_pos g1]
            cases hr : oneS l L M (i + 1) (d + 1) with
            | bad e a => rw [hr] at h; show scanW _ _ _ _ _ _ _ = _; rw [e1]; exact h
            | tree x j =>
              rw [hr] at h
              obtain ⟨k1, k2, k3, k4⟩ := h
              exact ⟨by omega, k2, by rw [e1]; exact k3, by rw [seg_cons hwi (by omega)]; exact .un w _ x g1 k4⟩
          · rw [if_neg g1]
            have n1 : w.sg ≠ [45] ∧ w.sg ≠ [33] := ⟨fun h => g1 (.inl h), fun h => g1 (.inr h)⟩
            by_cases g2 : w.sg = [40]
            · rw [if_pos g2]
              have h := ih2 (i + 1) 1 (d + 1) (D + Lv.length + u + 1) [] ((D, Lv) :: rest) (by omega) (by omega) (by omega) (by omega) (by simp; omega) (by simp)
              have e1 : scanW L (l.drop i) D Lv rest u true = scanW L (l.drop (i + 1)) (D + Lv.length + u + 1) [] ((D, Lv) :: rest) 0 true := by
                rw [hdr, scanW, if_neg (by omega), if_neg g1, if_pos g2]
              cases hr : exprS l L M (i + 1) 1 (d + 1) with
              | bad e a => rw [hr] at h; show scanW _ _ _ _ _ _ _ = _; rw [e1]; exact h
              | tree x j =>
                rw [hr] at h
                obtain ⟨ex, k1, k2, k3, k4, k5, k6, k7⟩ := h
                rw [List.append_nil] at k3
                simp only []
                by_cases g3 : signL l j = [41]
                · rw [if_pos g3]
                  obtain ⟨v, hv, hvs⟩ := sg_some g3
                  have hjl := (List.getElem?_eq_some_iff.1 hv).1
                  refine ⟨by omega, by omega, ?_, ?_⟩
                  · rw [e1, k3, drop_at hv, scanW, if_pos hvs]
                  · rw [seg_cons hwi (by omega), seg_app l (show i + 1 ≤ j by omega) (show j ≤ j + 1 by omega), seg_one hv]
                    exact .br w v _ x g2 hvs k7
                · rw [if_neg g3]
                  show scanW _ _ _ _ _ _ _ = _
                  rw [e1, k3]
                  cases hv : l[j]? with
                  | none =>
                    rw [List.drop_eq_nil_of_le (List.getElem?_eq_none_iff.1 hv), scanW, if_pos (by simp), at_none hv]
                  | some v =>
                    have hvk : levelK (kindW v) = KL l j := by unfold KL; rw [sign_at hv]; rfl
                    rw [sign_at hv] at g3
                    rw [drop_at hv, scanW, if_neg g3, at_at hv, hvk]
                    simp only []
                    rw [if_pos]
                    rcases k6 with h | h | ⟨h, h'⟩
                    · exact .inl h
                    · have := level_pos (twoK (signL l j)); unfold KL at h; omega
                    · rw [h]
                      obtain ⟨r, hr⟩ := dw_mem ex [] k4 h'
                      rw [List.append_nil] at hr
                      exact .inr ⟨by rw [hr]; rfl, rfl⟩
            · rw [if_neg g2]
              simp only []
              have hwf := hw w (List.mem_of_getElem? hwi)
              by_cases g3 : w.sg ≠ []
              · rw [if_pos g3]
                show scanW _ _ _ _ _ _ _ = _
                have hk3 : w.k = 3 := Decidable.byContradiction fun h => g3 (by unfold W.sg; rw [if_neg h])
                rw [hdr, scanW, if_neg (by omega), if_neg g1, if_neg g2, if_pos (by omega)]
              · rw [if_neg g3]
                have hk : w.k = 1 ∨ w.k = 2 := by
                  rcases hwf with h | h | ⟨h, h'⟩
                  · exact .inl h
                  · exact .inr h
                  · exact absurd h' (by unfold W.sg at g3; rw [if_pos h] at g3; exact g3)
                refine ⟨by omega, by omega, ?_, ?_⟩
                · rw [hdr, scanW, if_neg (by omega), if_neg g1, if_neg g2, if_neg (by omega)]
                · rw [seg_one hwi]; exact .word w hk
    · rw [exprS]
      by_cases g0 : lo > 5
      · rw [if_pos g0]
        have hlo : lo = 6 := by omega
        subst hlo
        have h := ih1 i d D Lv rest 0 hi (by omega) (by omega)
        cases hr : oneS l L M i d with
        | bad e a => rw [hr] at h; exact h
        | tree x j =>
          rw [hr] at h
          obtain ⟨k1, k2, k3, k4⟩ := h
          refine ⟨[], k1, k2, by rw [List.nil_append]; exact k3, List.Pairwise.nil, by simp, ?_, k4⟩
          have : KL l j ≤ 6 := by unfold KL levelK; repeat' split
                                  all_goals omega
          unfold StopK; omega
      · rw [if_neg g0]
        have h := ih2 i (lo + 1) d D Lv rest hi (by omega) (by omega) (by omega) hd (fun v hv => by have := hLv v hv; omega)
        cases hr : exprS l L M i (lo + 1) d with
        | bad e a => rw [hr] at h; exact h
        | tree x j =>
          rw [hr] at h
          obtain ⟨ex, k1, k2, k3, k4, k5, k6, k7⟩ := h
          simp only []
          have hnot : lo ∉ ex := fun hm => by have := k5 lo hm; omega
          have := sim_loop l L lo D Lv rest (fun q => exprS l L M q (lo + 1) (d + 1)) i q1 (by omega) hLv (fun q hq hql => ih2 (q + 1) (lo + 1) (d + 1) D (lo :: Lv) rest (by omega) (by omega) (by omega) (by omega) (by simp; omega) (fun v hv => by
            rcases List.mem_cons.1 hv with rfl | hv
            · omega
            · have := hLv v hv; omega)) l.length j x false ex (by omega) k1 k2 k4 (fun v hv => by have := k5 v hv; omega) (by simp [hnot]) (by
            rcases k6 with h | h | h
            · exact .inl h
            · exact .inr (.inl (by omega))
            · exact .inr (.inr h)) (.weak lo _ x k7)
          cases hl : loopS (fun q => exprS l L M q (lo + 1) (d + 1)) l lo l.length j x false with
          | bad e a => rw [hl] at this; show scanW _ _ _ _ _ _ _ = _; rw [k3]; exact this
          | tree x' j' =>
            rw [hl] at this
            obtain ⟨ex', g1, g2, g3, g4, g5, g6, g7⟩ := this
            exact ⟨ex', by omega, g2, by rw [k3]; exact g3, g4, g5, g6, g7⟩
/-- The parser and the scan say the same. -/
theorem scan_parse (l : List W) (L : Int) (hw : ∀ w ∈ l, w.Wf) : match exprS l L (8 * l.length + 8) 0 1 1 with
    | .bad e a => scanW L l 1 [] [] 0 true = (e, a)
    | .tree x j => if j < l.length then scanW L l 1 [] [] 0 true = (3, atL l j L) else scanW L l 1 [] [] 0 true = (0, 0) ∧ Seg 1 l x := by
  have h := (sim l L hw (8 * l.length + 8)).2 0 1 1 1 [] [] (by omega) (by omega) (by omega) (by omega) (by simp) (by simp)
  cases hr : exprS l L (8 * l.length + 8) 0 1 1 with
  | bad e a => rw [hr] at h; exact h
  | tree x j =>
    rw [hr] at h
    obtain ⟨ex, k1, k2, k3, k4, k5, k6, k7⟩ := h
    rw [List.append_nil, List.drop_zero] at k3
    simp only []
    split
    · rename_i hj
      obtain ⟨v, hv⟩ : ∃ v, l[j]? = some v := ⟨_, List.getElem?_eq_getElem hj⟩
      have hvk : levelK (kindW v) = KL l j := by unfold KL; rw [sign_at hv]; rfl
      rw [k3, drop_at hv, scanW, show (if v.sg = [41] then ([] : List (Int × List Int)) else []) = [] by split <;> rfl, hvk, at_at hv]
      simp only []
      rw [if_pos]
      rcases k6 with h | h | ⟨h, h'⟩
      · exact .inl h
      · have := level_pos (twoK (signL l j)); unfold KL at h; omega
      · rw [h]
        obtain ⟨r, hr⟩ := dw_mem ex [] k4 h'
        rw [List.append_nil] at hr
        exact .inr ⟨by rw [hr]; rfl, rfl⟩
    · rename_i hj
      have hj' : j = l.length := by omega
      subst hj'
      refine ⟨by rw [k3, List.drop_length, scanW]; rfl, ?_⟩
      have : seg l 0 l.length = l := by unfold seg; simp
      rwa [this] at k7
end Go.RxTree
