/- What is reckoned keeps its bounds. -/
import Derived.Test.YtghiaobecppbeaaRSpecFo
open Go Go.Rx
namespace Go.RxTree
set_option linter.unusedVariables false
set_option linter.unusedSimpArgs false
theorem ok_yes (b : Bool) : (yesT b).Ok := by cases b <;> exact ⟨by decide, by decide, by simp [maxLen], by simp [maxLen], trivial⟩
theorem ok_num {n : Int} (h : InN n) : (numT n).Ok := ⟨by decide, wf_i64.2 ⟨by unfold InN at h; omega, h.2⟩, by simp [maxLen], by simp [maxLen], trivial⟩
theorem ok_mk2 {k : Int} {a b : T} (hk : 1 ≤ k ∧ k ≤ 14) (ha : a.Ok) (hb : b.Ok) : (T.mk k 0 [] [a, b]).Ok := ⟨wf_i64.2 (by omega), by decide, by simp [maxLen], by simp [maxLen], ha, hb, trivial⟩
theorem ok_mk1 {k : Int} {a : T} (hk : 1 ≤ k ∧ k ≤ 14) (ha : a.Ok) : (T.mk k 0 [] [a]).Ok := ⟨wf_i64.2 (by omega), by decide, by simp [maxLen], by simp [maxLen], ha, trivial⟩
theorem ok_one {k : Int} {a : T} (hk : 1 ≤ k ∧ k ≤ 14) (ha : a.Ok) : (oneT k a).Ok := by
  unfold oneT
  split
  · exact ok_yes _
  · split
    · exact ha
    · exact ok_mk1 hk ha
theorem ok_two {k : Int} {a b : T} (hk : 1 ≤ k ∧ k ≤ 14) (na : InN a.n) (nb : InN b.n) (ha : a.Ok) (hb : b.Ok) : (twoT k a b).Ok := by
  have hw := ok_mk2 hk ha hb
  unfold twoT
  split
  · split
    · exact ha
    · split <;> first | exact hb | exact hw
  · split
    · split
      · exact ha
      · split <;> first | exact hb | exact hw
    · split
      · split
        · exact ok_yes _
        · unfold sumsT mostN
          split
          · split
            · exact ok_num (by unfold InN at *; omega)
            · exact hw
          · split
            · split
              · exact ok_num (by unfold InN at *; omega)
              · exact hw
            · split
              · split
                · rename_i h; exact ok_num ⟨Int.mul_nonneg na.1 nb.1, h⟩
                · exact hw
              · split
                · split
                  · exact ok_num (by have h1 := Int.ediv_nonneg na.1 nb.1; have h2 := Int.ediv_le_self b.n na.1; unfold InN at *; omega)
                  · exact hw
                · split
                  · exact ok_yes _
                  · exact hw
      · exact hw
theorem fold_ok : ∀ (m : Nat) (t : T) (d : Int), t.wt ≤ m → t.Ok → checkT t d = 0 → (foldT t).Ok := by
  intro m
  induction m with
  | zero => intro t d h; rw [T.wt_eq] at h; omega
  | succ m ihm =>
  intro t d hm ho hc
  obtain ⟨k, n, s, l⟩ := t
  obtain ⟨c1, c2, c3, c4⟩ := checkT_inv hc
  have ho' := ho
  obtain ⟨o1, o2, o3, o4, o5⟩ := ho
  rw [T.wt] at hm
  have ih : ∀ x ∈ l, (foldT x).Ok := fun x hx => ihm x (d + 1) (by have := wtL_mem l x hx; omega) (OkL_mem o5 hx) (checkL_mem c4 hx)
  have hn : ∀ x ∈ l, InN (foldT x).n := fun x hx => fold_n x.wt x (d + 1) (Nat.le_refl _) (OkL_mem o5 hx) (checkL_mem c4 hx)
  have hk : 1 ≤ k ∧ k ≤ 14 := ⟨c2.1, c2.2.1⟩
  rcases forms (s := s) c2 with ⟨rfl, _⟩ | ⟨x, rfl, _, _⟩ | ⟨x, y, rfl, _, _⟩
  · rw [foldT_0]; exact ho'
  · rw [foldT_1]; exact ok_one hk (ih x (by simp))
  · rw [foldT_2]; exact ok_two hk (hn x (by simp)) (hn y (by simp)) (ih x (by simp)) (ih y (by simp))
/-- What folding comes to: the tree, and what is wrong. -/
def foldP (t : T) : T × Int := if (truthP t).2 ≠ 0 then (.mk 0 0 [] [], (truthP t).2) else (foldT t, 0)
theorem truthP_0 {t : T} (h : (truthP t).2 = 0) : checkT t 1 = 0 ∧ typedT t = true := by
  obtain ⟨a, e⟩ : ∃ a, a = truthP t := ⟨_, rfl⟩
  have h2 : truthP t = ((truthP t).1, 0) := by rw [← h]
  obtain ⟨h3, h4, _⟩ := truthP_ok h2
  exact ⟨h3, h4⟩
end Go.RxTree
