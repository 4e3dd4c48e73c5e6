/- What is reckoned once stays. -/
import Derived.Test.YtghiaobecppbeaaRSpecFp
import Derived.Test.YtghiaobecppbeaaRSpecM
open Go Go.Rx
namespace Go.RxTree
set_option linter.unusedVariables false
set_option linter.unusedSimpArgs false
theorem one_res (k : Int) (a : T) : oneT k a = .mk k 0 [] [a] ∨ (k = 6 ∧ ∃ c, oneT k a = yesT c) ∨ (k = 5 ∧ oneT k a = a ∧ a.kind = 1) := by
  unfold oneT
  split
  · rename_i h; exact .inr (.inl ⟨h.1, _, rfl⟩)
  · split
    · rename_i h; exact .inr (.inr ⟨h.1, rfl, h.2.1⟩)
    · exact .inl rfl
theorem two_res (k : Int) (a b : T) : twoT k a b = .mk k 0 [] [a, b] ∨ (twoT k a b = a ∧ (k = 13 ∨ k = 14)) ∨ (twoT k a b = b ∧ (k = 13 ∨ k = 14)) ∨ ((k = 11 ∨ k = 12) ∧ ∃ c, twoT k a b = yesT c) ∨ (7 ≤ k ∧ k ≤ 10 ∧ ∃ n, twoT k a b = numT n) := by
  unfold twoT
  split
  · rename_i h
    split
    · exact .inr (.inl ⟨rfl, .inl h⟩)
    · split
      · exact .inr (.inr (.inl ⟨rfl, .inl h⟩))
      · exact .inl rfl
  · split
    · rename_i h
      split
      · exact .inr (.inl ⟨rfl, .inr h⟩)
      · split
        · exact .inr (.inr (.inl ⟨rfl, .inr h⟩))
        · exact .inl rfl
    · split
      · split
        · rename_i h; exact .inr (.inr (.inr (.inl ⟨.inl h, _, rfl⟩)))
        · unfold sumsT
          split
          · split
            · exact .inr (.inr (.inr (.inr ⟨by omega, by omega, _, rfl⟩)))
            · exact .inl rfl
          · split
            · split
              · exact .inr (.inr (.inr (.inr ⟨by omega, by omega, _, rfl⟩)))
              · exact .inl rfl
            · split
              · split
                · exact .inr (.inr (.inr (.inr ⟨by omega, by omega, _, rfl⟩)))
                · exact .inl rfl
              · split
                · split
                  · exact .inr (.inr (.inr (.inr ⟨by omega, by omega, _, rfl⟩)))
                  · exact .inl rfl
                · split
                  · rename_i h; exact .inr (.inr (.inr (.inl ⟨.inr h, _, rfl⟩)))
                  · exact .inl rfl
      · exact .inl rfl
/-- A reckoned tree: it may be, has its type, stays, and asks for nothing more. -/
structure Stay (f : T) (d : Int) (b : Bool) (x : T) : Prop where
  chk : checkT f d = 0
  typ : typedT f = true
  tru : truthK f.kind = b
  fix : foldT f = f
  nms : ∀ n ∈ namesT f, n ∈ namesT x
theorem stay_yes (c : Bool) (d : Int) (hd : ¬d > 16) (x : T) : Stay (yesT c) d true x := by
  refine ⟨?_, by cases c <;> rfl, by cases c <;> rfl, by cases c <;> exact foldT_0 _ _ _, by cases c <;> (intro n h; cases h)⟩
  cases c
  · exact checkT_intro (k := 4) (n := 0) (s := []) (l := []) hd (by unfold nodeN; simp) rfl
  · exact checkT_intro (k := 3) (n := 0) (s := []) (l := []) hd (by unfold nodeN; simp) rfl
theorem stay_num {m : Int} (hm : InN m) (d : Int) (hd : ¬d > 16) (x : T) : Stay (numT m) d false x := by
  refine ⟨?_, rfl, rfl, foldT_0 _ _ _, by intro n h; cases h⟩
  exact checkT_intro (k := 1) (n := m) (s := []) (l := []) hd (by unfold nodeN; simp; exact hm.1) rfl
theorem text0 {k : Int} (h : k ≠ 2) : textOk k [] = true := textOk_2 h rfl
theorem stay_one {k : Int} {a x : T} {d : Int} {b : Bool} {n : Int} {s : List UInt8} (hk : (k = 5 ∧ b = false) ∨ (k = 6 ∧ b = true)) (hd : ¬d > 16) (h : Stay a (d + 1) b x) : Stay (oneT k a) d (truthK k) (.mk k n s [x]) := by
  have hk2 : k ≠ 2 := by omega
  have hN : ∀ y, namesT (.mk k n s [y]) = namesT y := fun y => by rw [namesT, if_neg hk2]; simp [namesL]
  have hN0 : ∀ y, namesT (.mk k 0 [] [y]) = namesT y := fun y => by rw [namesT, if_neg hk2]; simp [namesL]
  have h3 : foldT (.mk k 0 [] [a]) = oneT k a := by rw [foldT_1, h.fix]
  rcases one_res k a with e | ⟨e1, c, e⟩ | ⟨e1, e, e2⟩
  · rw [e]
    refine ⟨?_, ?_, rfl, by rw [h3, e], fun m hm => by rw [hN]; rw [hN0] at hm; exact h.nms m hm⟩
    · rw [checkT_intro hd (by unfold nodeN; simp; omega) (text0 hk2), checkL, h.chk]; rfl
    · rw [typedT, typedL, h.typ, if_neg (by omega), h.tru]
      rcases hk with ⟨rfl, rfl⟩ | ⟨rfl, rfl⟩ <;> rfl
  · rw [e, e1]; exact stay_yes c d hd _
  · rw [e]
    obtain ⟨_, rfl⟩ : k = 5 ∧ b = false := by rcases hk with hk | hk; · exact hk
                                              · omega
    subst e1
    exact ⟨checkT_down _ _ h.chk, h.typ, h.tru, h.fix, fun m hm => by rw [hN]; exact h.nms m hm⟩
theorem stay_two {k : Int} {a b x y : T} {d : Int} {p q : Bool} {n : Int} {s : List UInt8} (hk : 7 ≤ k ∧ k ≤ 14) (hd : ¬d > 16) (hB : Both k p q) (ha : Stay a (d + 1) p x) (hb : Stay b (d + 1) q y) (hn : InN (twoT k a b).n) : Stay (twoT k a b) d (truthK k) (.mk k n s [x, y]) := by
  have hk2 : k ≠ 2 := by omega
  have hN : ∀ u v, namesT (.mk k n s [u, v]) = namesT u ++ namesT v := fun u v => by rw [namesT, if_neg hk2]; simp [namesL]
  have hN0 : ∀ u v, namesT (.mk k 0 [] [u, v]) = namesT u ++ namesT v := fun u v => by rw [namesT, if_neg hk2]; simp [namesL]
  have h3 : foldT (.mk k 0 [] [a, b]) = twoT k a b := by rw [foldT_2, ha.fix, hb.fix]
  obtain ⟨b1, b2, b3⟩ := hB
  rcases two_res k a b with e | ⟨e, e1⟩ | ⟨e, e1⟩ | ⟨e1, c, e⟩ | ⟨e1, e2, m, e⟩
  · rw [e]
    refine ⟨?_, ?_, rfl, by rw [h3, e], fun m hm => ?_⟩
    · rw [checkT_intro hd (by unfold nodeN; simp; omega) (text0 hk2), checkL, if_pos ha.chk, checkL, if_pos hb.chk]; rfl
    · rw [typedT, typedL, typedL, typedL, ha.typ, hb.typ]
      by_cases h11 : k = 11
      · rw [if_pos h11, if_pos h11, ha.tru, hb.tru, ← b1 h11]
        show (true && (p == truthK a.kind && (true && (p == truthK a.kind && true)))) = true
        rw [ha.tru]; cases p <;> rfl
      · rw [if_neg h11, if_neg h11, ha.tru, hb.tru]
        by_cases h6 : k = 13 ∨ k = 14
        · obtain ⟨rfl, rfl⟩ := b2 h6
          rw [dec_t (show k = 6 ∨ k = 13 ∨ k = 14 by omega)]; rfl
        · obtain ⟨rfl, rfl⟩ := b3 h11 (by omega) (by omega)
          rw [dec_f (show ¬(k = 6 ∨ k = 13 ∨ k = 14) by omega)]; rfl
    · rw [hN]; rw [hN0] at hm
      rcases List.mem_append.1 hm with hm | hm
      · exact List.mem_append_left _ (ha.nms m hm)
      · exact List.mem_append_right _ (hb.nms m hm)
  · rw [e]
    have ht : truthK k = p := by rw [(b2 e1).1]; exact truthK_t (by omega)
    rw [ht]
    exact ⟨checkT_down _ _ ha.chk, ha.typ, ha.tru, ha.fix, fun m hm => by rw [hN]; exact List.mem_append_left _ (ha.nms m hm)⟩
  · rw [e]
    have ht : truthK k = q := by rw [(b2 e1).2]; exact truthK_t (by omega)
    rw [ht]
    exact ⟨checkT_down _ _ hb.chk, hb.typ, hb.tru, hb.fix, fun m hm => by rw [hN]; exact List.mem_append_right _ (hb.nms m hm)⟩
  · rw [e, show truthK k = true from truthK_t (by omega)]; exact stay_yes c d hd _
  · rw [e, show truthK k = false from truthK_f (by omega)]
    rw [e] at hn
    exact stay_num hn d hd _
theorem stay_all : ∀ (m : Nat) (t : T) (d : Int), t.wt ≤ m → t.Ok → checkT t d = 0 → typedT t = true → Stay (foldT t) d (truthK t.kind) t := by
  intro m
  induction m with
  | zero => intro t d h; rw [T.wt_eq] at h; omega
  | succ m ihm =>
  intro t d hm ho hc ht
  have hn := fold_n t.wt t d (Nat.le_refl _) ho hc
  obtain ⟨k, n, s, l⟩ := t
  obtain ⟨c1, c2, c3, c4⟩ := checkT_inv hc
  have ho' := ho
  obtain ⟨o1, o2, o3, o4, o5⟩ := ho
  rw [T.wt] at hm
  have ih : ∀ x ∈ l, typedT x = true → Stay (foldT x) (d + 1) (truthK x.kind) x := fun x hx h => ihm x (d + 1) (by have := wtL_mem l x hx; omega) (OkL_mem o5 hx) (checkL_mem c4 hx) h
  rcases forms (s := s) c2 with ⟨rfl, h4⟩ | ⟨x, rfl, h5, _⟩ | ⟨x, y, rfl, h7, _⟩
  · rw [foldT_0]; exact ⟨hc, ht, rfl, foldT_0 _ _ _, fun m h => h⟩
  · obtain ⟨t1, t2⟩ := typed_1 h5 ht
    rw [foldT_1]
    exact stay_one t2 c1 (ih x (by simp) t1)
  · obtain ⟨t1, t2, t3⟩ := typed_2 ⟨h7, c2.2.1⟩ ht
    rw [foldT_2] at hn ⊢
    exact stay_two ⟨h7, c2.2.1⟩ c1 t3 (ih x (by simp) t1) (ih y (by simp) t2) hn
mutual
theorem names_asks {a : List UInt8} : ∀ t : T, a ∈ namesT t → asksT a t = true
  | .mk k n s l, h => by
    rw [namesT, List.mem_append] at h
    rw [asksT, Bool.or_eq_true]
    rcases h with h | h
    · left
      by_cases hk : k = 2
      · rw [if_pos hk, List.mem_singleton] at h; subst hk h; simp
      · rw [if_neg hk] at h; cases h
    · exact .inr (namesL_asks l h)
theorem namesL_asks {a : List UInt8} : ∀ l : List T, a ∈ namesL l → asksL a l = true
  | [], h => by cases h
  | t :: r, h => by
    rw [asksL, Bool.or_eq_true]
    rcases List.mem_append.1 h with h | h
    · exact .inl (names_asks t h)
    · exact .inr (namesL_asks r h)
end
end Go.RxTree
namespace Go.RxTree
mutual
theorem check_sm : ∀ (t : T) (d : Int), checkT t d = 0 → t.Sm
  | .mk k n s l, d, h => by
    obtain ⟨h1, h2, h3, h4⟩ := checkT_inv h
    refine ⟨?_, checkL_sm l (d + 1) h4⟩
    by_cases hk : k = 2
    · subst hk
      rw [textOk_v] at h3
      simp only [Bool.and_eq_true, nameOk, decide_eq_true_eq] at h3
      omega
    · rw [textOk_n hk] at h3
      have : s = [] := by simpa using h3
      subst this; simp
theorem checkL_sm : ∀ (l : List T) (d : Int), checkL l d = 0 → SmL l
  | [], d, h => trivial
  | t :: r, d, h => by
    rw [checkL] at h
    by_cases h1 : checkT t d = 0
    · rw [if_pos h1] at h
      exact ⟨check_sm t d h1, checkL_sm r d h⟩
    · rw [if_neg h1] at h; exact absurd h h1
end
end Go.RxTree
