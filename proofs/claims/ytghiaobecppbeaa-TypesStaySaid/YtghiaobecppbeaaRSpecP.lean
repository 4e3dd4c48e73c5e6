/- What a condition's parts come to, and two that are put together. -/
import Derived.Test.YtghiaobecppbeaaRSpecB
open Go Go.Rx
namespace Go.RxTree
set_option linter.unusedVariables false
set_option linter.unusedSimpArgs false
theorem truthP_ok {t : T} {a : Bool} (h : truthP t = (a, 0)) : checkT t 1 = 0 ∧ typedT t = true ∧ a = truthK t.kind := by
  unfold truthP at h
  by_cases h1 : checkT t 1 = 0
  · rw [if_neg (by simp [h1])] at h
    by_cases h2 : typedT t = true
    · rw [if_pos h2] at h; injection h with h3 h4; exact ⟨h1, h2, h3.symm⟩
    · rw [if_neg h2] at h; injection h with h3 h4; cases h4
  · rw [if_pos h1] at h; injection h with h3 h4; exact absurd h4 h1
theorem checkT_intro {k n d : Int} {s : List UInt8} {l : List T} (h1 : ¬d > 16) (h2 : nodeN k n l.length) (h3 : textOk k s = true) : checkT (.mk k n s l) d = checkL l (d + 1) := by
  rw [checkT, if_neg h1, nodeOk, dec_t h2, h3]; rfl
mutual
theorem checkT_down : ∀ (t : T) (d : Int), checkT t (d + 1) = 0 → checkT t d = 0
  | .mk k n s l, d, h => by
    obtain ⟨h1, h2, h3, h4⟩ := checkT_inv h
    rw [checkT_intro (by omega) h2 h3]
    exact checkL_down l (d + 1) h4
theorem checkL_down : ∀ (l : List T) (d : Int), checkL l (d + 1) = 0 → checkL l d = 0
  | [], d, h => rfl
  | t :: r, d, h => by
    rw [checkL] at h
    by_cases h1 : checkT t (d + 1) = 0
    · rw [if_pos h1] at h
      rw [checkL, if_pos (checkT_down t d h1)]
      exact checkL_down r d h
    · rw [if_neg h1] at h; exact absurd h h1
end
mutual
theorem checkT_up : ∀ (t : T) (d : Int), checkT t d = 0 → checkT t (d + 1) = 0 ∨ checkT t (d + 1) = 6
  | .mk k n s l, d, h => by
    obtain ⟨h1, h2, h3, h4⟩ := checkT_inv h
    by_cases hd : d + 1 > 16
    · right; exact checkT_big hd
    · rw [checkT_intro hd h2 h3]
      exact checkL_up l (d + 1) h4
theorem checkL_up : ∀ (l : List T) (d : Int), checkL l d = 0 → checkL l (d + 1) = 0 ∨ checkL l (d + 1) = 6
  | [], d, h => .inl rfl
  | t :: r, d, h => by
    rw [checkL] at h
    by_cases h1 : checkT t d = 0
    · rw [if_pos h1] at h
      rw [checkL]
      rcases checkT_up t d h1 with h2 | h2
      · rw [if_pos h2]; exact checkL_up r d h
      · rw [if_neg (by omega)]; exact .inr h2
    · rw [if_neg h1] at h; exact absurd h h1
end
theorem typedL_mem {k : Int} {f : Option Int} : ∀ {l : List T} {x : T}, typedL k f l = true → x ∈ l → typedT x = true
  | t :: r, x, h, hm => by
    simp only [typedL, Bool.and_eq_true] at h
    rcases List.mem_cons.1 hm with rfl | hm
    · exact h.1
    · exact typedL_mem h.2.2 hm
theorem parts_ok {t : T} {a : Bool} (h : truthP t = (a, 0)) : ∀ x ∈ t.kids, (truthP x).2 = 0 := by
  intro x hx
  obtain ⟨h1, h2, h3⟩ := truthP_ok h
  obtain ⟨k, n, s, l⟩ := t
  obtain ⟨c1, c2, c3, c4⟩ := checkT_inv h1
  have hc : checkT x 1 = 0 := checkT_down x 1 (checkL_mem c4 hx)
  rw [typedT] at h2
  rw [truthP_k hc (typedL_mem h2 hx)]
theorem put_eq {x y : T} {a b : Bool} (hx : truthP x = (a, 0)) (hy : truthP y = (b, 0)) : truthP (.mk 11 0 [] [x, y]) = (false, 6) ∨ truthP (.mk 11 0 [] [x, y]) = (if a = b then (true, 0) else (false, 7)) := by
  obtain ⟨x1, x2, x3⟩ := truthP_ok hx
  obtain ⟨y1, y2, y3⟩ := truthP_ok hy
  have hn : checkT (.mk 11 0 [] [x, y]) 1 = checkL [x, y] 2 := checkT_intro (by omega) (by unfold nodeN; simp) (by decide)
  have hl : checkL [x, y] 2 = 0 ∨ checkL [x, y] 2 = 6 := by
    rw [checkL, checkL, checkL]
    rcases checkT_up x 1 x1 with h | h <;> rcases checkT_up y 1 y1 with h' | h' <;> simp only [show (1 : Int) + 1 = 2 from rfl] at h h' <;> simp [h, h']
  rcases hl with h | h
  · right
    have hc : checkT (.mk 11 0 [] [x, y]) 1 = 0 := by rw [hn, h]
    have ht : typedT (.mk 11 0 [] [x, y]) = (truthK y.kind == truthK x.kind) := by
      simp [typedT, typedL, x2, y2]
    by_cases hab : a = b
    · rw [if_pos hab, truthP_k hc (by rw [ht]; subst x3 y3; rw [hab]; simp)]; rfl
    · rw [if_neg hab, truthP_7 hc (by rw [ht]; subst x3 y3; exact beq_f (fun e => hab e.symm))]
  · left
    have hc : checkT (.mk 11 0 [] [x, y]) 1 = 6 := by rw [hn, h]
    rw [truthP_e (by omega), hc]
end Go.RxTree
