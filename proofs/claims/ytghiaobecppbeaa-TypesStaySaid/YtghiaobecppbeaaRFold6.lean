/- A part of the proof of the law: what functions of the program come to, walked by Rx, or plain facts on it. -/
import Derived.Test.YtghiaobecppbeaaRFold4Z
import Derived.Test.YtghiaobecppbeaaRFold4A
import Derived.Test.YtghiaobecppbeaaRFold4B
import Derived.Test.YtghiaobecppbeaaRFold4C
import Derived.Test.YtghiaobecppbeaaRFold4D
import Derived.Test.YtghiaobecppbeaaRFold4E
import Derived.Test.YtghiaobecppbeaaRFold4F
import Derived.Test.YtghiaobecppbeaaRFold4G
open Go Go.Rx Go.Proofs Go.Rx08 Go.RxTree
set_option maxRecDepth 1000000
set_option maxHeartbeats 4000000
set_option linter.unusedVariables false
set_option linter.unusedSimpArgs false
namespace Go.Rx08
theorem fold35 : ∀ (m : Nat) (t : T) (d : Int), t.wt ≤ m → t.Ok → checkT t d = 0 → typedT t = true → ∀ k, t.wt + 8 < k → icall Try.prog cfg k 35 [t.av] [] = some (.ret (foldT t).av, []) := by
  intro m
  induction m with
  | zero => intro t d h; rw [T.wt_eq] at h; omega
  | succ m ihm =>
  intro t d hm ho hc ht k hk
  obtain ⟨x, n, s, l⟩ := t
  obtain ⟨c1, c2, c3, c4⟩ := checkT_inv hc
  obtain ⟨o1, o2, o3, o4, o5⟩ := ho
  rw [T.wt] at hm hk
  obtain ⟨k, rfl⟩ : ∃ j, k = j + 4 := ⟨k - 4, by omega⟩
  have ih : ∀ y ∈ l, typedT y = true → icall Try.prog cfg (k + 3) 35 [y.av] [] = some (.ret (foldT y).av, []) := fun y hy hty => ihm y (d + 1) (by have := wtL_mem l y hy; omega) (OkL_mem o5 hy) (checkL_mem c4 hy) hty (k + 3) (by have := wtL_mem l y hy; omega)
  have hn : ∀ y ∈ l, InN (foldT y).n := fun y hy => fold_n y.wt y (d + 1) (Nat.le_refl _) (OkL_mem o5 hy) (checkL_mem c4 hy)
  have hg : ∀ y ∈ l, typedT y = true → Go.RxTree.Good (foldT y) (truthK y.kind) := fun y hy hty => fold_good y.wt y (d + 1) (Nat.le_refl _) (checkL_mem c4 hy) hty
  show icall Try.prog cfg _ _ [.agg [.d (.int .i64 x), .d (.int .i64 n), .d (.str s), .d (.list (cellsL l))]] [] = _
  rcases forms (s := s) c2 with ⟨rfl, hk4⟩ | ⟨a, rfl, hk5, rfl⟩ | ⟨a, b, rfl, hk7, rfl⟩
  · rw [foldT_0]
    exact fold35_0 x n s k
  · obtain rfl : s = [] := by rw [textOk_n (by omega)] at c3; simpa using c3
    obtain ⟨ta, hta⟩ := typed_1 hk5 ht
    have ca := ih a (by simp) ta
    rw [foldT_1]
    rcases plain_cases (hg a (by simp) ta) with ⟨hf, hb⟩ | ⟨hf, hb⟩ | ⟨hf, hb⟩ | hO
    · obtain rfl : x = 5 := by rcases hta with h | h; exact h.1; exact absurd (h.2.symm.trans hb) (by simp)
      generalize (foldT a).n = m at hf
      rw [hf] at ca ⊢
      exact fold35_1N a m (cellsL [a]) rfl (by rw [cells1]; rfl) k ca
    · obtain rfl : x = 6 := by rcases hta with h | h; exact absurd (h.2.symm.trans hb) (by simp); exact h.1
      rw [hf] at ca ⊢
      exact fold35_1Y a (cellsL [a]) rfl (by rw [cells1]; rfl) k ca
    · obtain rfl : x = 6 := by rcases hta with h | h; exact absurd (h.2.symm.trans hb) (by simp); exact h.1
      rw [hf] at ca ⊢
      exact fold35_1F a (cellsL [a]) rfl (by rw [cells1]; rfl) k ca
    · exact fold35_1O x hk5 a (foldT a) hO (cellsL [a]) rfl (by rw [cells1]; rfl) k ca
  · obtain rfl : s = [] := by rw [textOk_n (by omega)] at c3; simpa using c3
    have hx : 7 ≤ x ∧ x ≤ 14 := ⟨hk7, c2.2.1⟩
    obtain ⟨ta, tb, hB⟩ := typed_2 hx ht
    have ca := ih a (by simp) ta
    have cb := ih b (by simp) tb
    have na := hn a (by simp)
    have nb := hn b (by simp)
    rw [foldT_2]
    have g0 : (cellsL [a, b])[0]? = some [.int .i64 a.kind, .int .i64 a.n, .str a.name, .list (cellsL a.kids)] := by rw [cells2]; rfl
    have g1 : (cellsL [a, b])[1]? = some [.int .i64 b.kind, .int .i64 b.n, .str b.name, .list (cellsL b.kids)] := by rw [cells2]; rfl
    have hl : (cellsL [a, b]).length = 2 := rfl
    generalize cellsL [a, b] = es at g0 g1 hl ⊢
    rcases plain_cases (hg a (by simp) ta) with ⟨hf, hb⟩ | ⟨hf, hb⟩ | ⟨hf, hb⟩ | hO
    · rw [hb] at hB
      generalize (foldT a).n = m at hf na
      rw [hf] at ca ⊢
      rcases plain_cases (hg b (by simp) tb) with ⟨hf2, hb2⟩ | ⟨hf2, hb2⟩ | ⟨hf2, hb2⟩ | hO2
      · rw [hb2] at hB
        generalize (foldT b).n = p at hf2 nb; rw [hf2] at cb ⊢
        exact fold35_2NN x hx true hB a b m na p nb es hl g0 g1 k ca cb
      · rw [hb2] at hB
        obtain ⟨q1, q2, q3⟩ := hB
        exfalso
        by_cases h1 : x = 11
        · exact absurd (q1 h1) (by simp)
        · by_cases h2 : x = 13 ∨ x = 14
          · have := q2 h2; simp at this
          · have := q3 h1 (fun e => h2 (.inl e)) (fun e => h2 (.inr e)); simp at this
      · rw [hb2] at hB
        obtain ⟨q1, q2, q3⟩ := hB
        exfalso
        by_cases h1 : x = 11
        · exact absurd (q1 h1) (by simp)
        · by_cases h2 : x = 13 ∨ x = 14
          · have := q2 h2; simp at this
          · have := q3 h1 (fun e => h2 (.inl e)) (fun e => h2 (.inr e)); simp at this
      · exact fold35_2NO x hx _ hB a b m na (foldT b) hO2 es hl g0 g1 k ca cb
    · rw [hb] at hB
      rw [hf] at ca ⊢
      rcases plain_cases (hg b (by simp) tb) with ⟨hf2, hb2⟩ | ⟨hf2, hb2⟩ | ⟨hf2, hb2⟩ | hO2
      · rw [hb2] at hB
        obtain ⟨q1, q2, q3⟩ := hB
        exfalso
        by_cases h1 : x = 11
        · exact absurd (q1 h1) (by simp)
        · by_cases h2 : x = 13 ∨ x = 14
          · have := q2 h2; simp at this
          · have := q3 h1 (fun e => h2 (.inl e)) (fun e => h2 (.inr e)); simp at this
      · rw [hb2] at hB
        rw [hf2] at cb ⊢
        obtain ⟨q1, q2, q3⟩ := hB
        rcases (by by_cases h1 : x = 11; exact .inl h1; by_cases h2 : x = 13; exact .inr (.inl h2); by_cases h3 : x = 14; exact .inr (.inr h3); exact absurd (q3 h1 h2 h3).1 (by simp) : x = 11 ∨ x = 13 ∨ x = 14) with rfl | rfl | rfl
        · exact fold35_2YY11 a b   es hl g0 g1 k ca cb
        · exact fold35_2YY13 a b   es hl g0 g1 k ca cb
        · exact fold35_2YY14 a b   es hl g0 g1 k ca cb
      · rw [hb2] at hB
        rw [hf2] at cb ⊢
        obtain ⟨q1, q2, q3⟩ := hB
        rcases (by by_cases h1 : x = 11; exact .inl h1; by_cases h2 : x = 13; exact .inr (.inl h2); by_cases h3 : x = 14; exact .inr (.inr h3); exact absurd (q3 h1 h2 h3).1 (by simp) : x = 11 ∨ x = 13 ∨ x = 14) with rfl | rfl | rfl
        · exact fold35_2YF11 a b   es hl g0 g1 k ca cb
        · exact fold35_2YF13 a b   es hl g0 g1 k ca cb
        · exact fold35_2YF14 a b   es hl g0 g1 k ca cb
      · exact fold35_2YO x hx _ hB a b  (foldT b) hO2 es hl g0 g1 k ca cb
    · rw [hb] at hB
      rw [hf] at ca ⊢
      rcases plain_cases (hg b (by simp) tb) with ⟨hf2, hb2⟩ | ⟨hf2, hb2⟩ | ⟨hf2, hb2⟩ | hO2
      · rw [hb2] at hB
        obtain ⟨q1, q2, q3⟩ := hB
        exfalso
        by_cases h1 : x = 11
        · exact absurd (q1 h1) (by simp)
        · by_cases h2 : x = 13 ∨ x = 14
          · have := q2 h2; simp at this
          · have := q3 h1 (fun e => h2 (.inl e)) (fun e => h2 (.inr e)); simp at this
      · rw [hb2] at hB
        rw [hf2] at cb ⊢
        obtain ⟨q1, q2, q3⟩ := hB
        rcases (by by_cases h1 : x = 11; exact .inl h1; by_cases h2 : x = 13; exact .inr (.inl h2); by_cases h3 : x = 14; exact .inr (.inr h3); exact absurd (q3 h1 h2 h3).1 (by simp) : x = 11 ∨ x = 13 ∨ x = 14) with rfl | rfl | rfl
        · exact fold35_2FY11 a b   es hl g0 g1 k ca cb
        · exact fold35_2FY13 a b   es hl g0 g1 k ca cb
        · exact fold35_2FY14 a b   es hl g0 g1 k ca cb
      · rw [hb2] at hB
        rw [hf2] at cb ⊢
        obtain ⟨q1, q2, q3⟩ := hB
        rcases (by by_cases h1 : x = 11; exact .inl h1; by_cases h2 : x = 13; exact .inr (.inl h2); by_cases h3 : x = 14; exact .inr (.inr h3); exact absurd (q3 h1 h2 h3).1 (by simp) : x = 11 ∨ x = 13 ∨ x = 14) with rfl | rfl | rfl
        · exact fold35_2FF11 a b   es hl g0 g1 k ca cb
        · exact fold35_2FF13 a b   es hl g0 g1 k ca cb
        · exact fold35_2FF14 a b   es hl g0 g1 k ca cb
      · exact fold35_2FO x hx _ hB a b  (foldT b) hO2 es hl g0 g1 k ca cb
    · generalize foldT a = f at hO ca
      rcases plain_cases (hg b (by simp) tb) with ⟨hf2, hb2⟩ | ⟨hf2, hb2⟩ | ⟨hf2, hb2⟩ | hO2
      · generalize (foldT b).n = p at hf2 nb; rw [hf2] at cb ⊢
        exact fold35_2ON x hx a b f hO p nb es hl g0 g1 k ca cb
      · rw [hf2] at cb ⊢
        exact fold35_2OY x hx a b f hO  es hl g0 g1 k ca cb
      · rw [hf2] at cb ⊢
        exact fold35_2OF x hx a b f hO  es hl g0 g1 k ca cb
      · skip
        exact fold35_2OO x hx a b f hO (foldT b) hO2 es hl g0 g1 k ca cb
end Go.Rx08
