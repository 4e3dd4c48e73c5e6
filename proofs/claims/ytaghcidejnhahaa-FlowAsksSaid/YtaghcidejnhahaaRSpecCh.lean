/- The forks about a place, one by one from within. -/
import Derived.Test.YtaghcidejnhahaaRJ1
open Go Go.Rx
namespace Go.RxTree
set_option linter.unusedVariables false
def fkR2 (ps : List PlaceT) (i : Nat) : List Int := (getR (rowsR ps).1.rows i).2
/-- Of a balanced definition: each place's forks are those of its fork, and it. -/
theorem chain_of {d : DefT} (he : refErr d = 0) : ∀ a, a < d.places.length → fkR2 d.places a = [] ∨ ∃ g : Nat, fkR2 d.places a = fkR2 d.places g ++ [(g : Int)] ∧ g ≠ 0 ∧ g < d.places.length := by
  have hc : checkD d = 0 := by
    by_cases hc : checkD d = 0
    · exact hc
    · unfold refErr at he; rw [if_neg hc] at he; exact absurd he hc
  have hps := check_ps hc
  obtain ⟨c1, c2, _⟩ := check_ok hc
  unfold refErr at he
  rw [if_pos hc] at he
  generalize d.places = ps at *
  obtain ⟨h1, h2⟩ := sim_walk hps (m := ps.length) (sim_start c2)
  unfold refE at he
  have h0 : (rowsR ps).2 = 0 := by
    by_cases h : (rowsR ps).2 = 0
    · exact h
    · rw [if_neg h] at he; exact absurd he h
  rw [if_pos h0] at he
  obtain ⟨i', S⟩ := h2 h0
  have hall : endR ps (rowsR ps).1.rows (rowsR ps).1.joins = true := by
    cases hh : endR ps (rowsR ps).1.rows (rowsR ps).1.joins with
    | true => rfl
    | false => rw [hh] at he; exact absurd he (by decide)
  have hl := S.ok.len
  have hm := endR_all (ps := ps) (rs := (rowsR ps).1.rows) (js := (rowsR ps).1.joins) hl.1 hl.2 hall
  intro a ha
  have hr := getR_some (l := (rowsR ps).1.rows) (i := a) (by rw [show (rowsR ps).1.rows.length = ps.length from hl.1]; exact ha)
  rcases S.chain a (hm _ (List.mem_of_getElem? hr)) with h | ⟨g, q1, q2, q3, q4, q5⟩
  · exact .inl h
  · exact .inr ⟨g, q1, q2, q3⟩
/-- From fork to fork. -/
def chainS (fo : List Int) : Nat → Int → List Int → List Int
  | 0, a, out => out
  | m + 1, a, out => if 0 ≤ a ∧ a < (fo.length : Int) ∧ getI fo a.toNat ≠ 0 ∧ out.length < 16 then chainS fo m (getI fo a.toNat) (out ++ [getI fo a.toNat]) else out
theorem chain_law {ps : List PlaceT} {n : Nat} (hlen : (rowsR ps).1.rows.length = n) (hb : ∀ a, a < n → (fkR2 ps a).length ≤ 16) (hc : ∀ a, a < n → fkR2 ps a = [] ∨ ∃ g : Nat, fkR2 ps a = fkR2 ps g ++ [(g : Int)] ∧ g ≠ 0 ∧ g < n) :
    ∀ (m a : Nat) (out : List Int), a < n → (fkR2 ps a).length ≤ m → out.length + (fkR2 ps a).length ≤ 16 → chainS (rowF (rowsR ps).1.rows) m (a : Int) out = out ++ (fkR2 ps a).reverse
  | 0, a, out, ha, hm, ho => by
    have : fkR2 ps a = [] := List.eq_nil_of_length_eq_zero (by omega)
    rw [this]; simp [chainS]
  | m + 1, a, out, ha, hm, ho => by
    have hg : getI (rowF (rowsR ps).1.rows) a = forkOf (fkR2 ps a) := by
      rw [getI, rowF, List.getElem?_map, getR_some (by omega)]; rfl
    rw [chainS, Int.toNat_natCast, hg]
    rcases hc a ha with h | ⟨g, h1, h2, h3⟩
    · rw [h, forkOf_nil, if_neg (by omega)]; simp
    · have hl : (fkR2 ps a).length = (fkR2 ps g).length + 1 := by rw [h1]; simp
      have hfl : (rowF (rowsR ps).1.rows).length = n := by rw [rowF, List.length_map, hlen]
      have hf : forkOf (fkR2 ps a) = (g : Int) := by rw [h1, forkOf_app]
      rw [hf, if_pos (by rw [hfl]; omega), chain_law hlen hb hc m g (out ++ [(g : Int)]) h3 (by omega) (by rw [List.length_append, List.length_singleton]; omega), h1]
      simp
/-- A row is turned round, in its place. -/
def revS : Nat → Nat → Nat → List Int → List Int
  | 0, i, j, l => l
  | m + 1, i, j, l => if i < j then revS m (i + 1) (j - 1) ((l.set i (getI l j)).set j (getI l i)) else l
theorem revS_ok {l0 : List Int} {n : Nat} (h0 : l0.length = n) : ∀ (m i : Nat) (l : List Int), n ≤ m + 2 * i + 1 → 2 * i ≤ n + 1 → 0 < n → l.length = n → (∀ t, t < n → l[t]? = if t < i ∨ n - 1 - t < i then l0[n - 1 - t]? else l0[t]?) → revS m i (n - 1 - i) l = l0.reverse := by
  have fin : ∀ (i : Nat) (l : List Int), n ≤ 2 * i + 1 → l.length = n → (∀ t, t < n → l[t]? = if t < i ∨ n - 1 - t < i then l0[n - 1 - t]? else l0[t]?) → l = l0.reverse := fun i l hm hl h => by
    refine List.ext_getElem? (fun t => ?_)
    by_cases ht : t < n
    · rw [List.getElem?_reverse (by omega), h t ht, h0]
      by_cases hc : t < i ∨ n - 1 - t < i
      · rw [if_pos hc]
      · rw [if_neg hc]
        have : n - 1 - t = t := by omega
        rw [this]
    · rw [List.getElem?_eq_none (by omega), List.getElem?_eq_none (by rw [List.length_reverse]; omega)]
  intro m
  induction m with
  | zero => intro i l hm hi hn hl h; exact fin i l (by omega) hl h
  | succ m ih =>
    intro i l hm hi hn hl h
    rw [revS]
    by_cases hij : i < n - 1 - i
    · rw [if_pos hij, show n - 1 - i - 1 = n - 1 - (i + 1) by omega]
      refine ih (i + 1) _ (by omega) (by omega) hn (by simpa using hl) (fun t ht => ?_)
      have e1 : getI l (n - 1 - i) = getI l0 (n - 1 - i) := by
        have := h (n - 1 - i) (by omega)
        rw [if_neg (by omega)] at this
        rw [getI, getI, this]
      have e2 : getI l i = getI l0 i := by
        have := h i (by omega)
        rw [if_neg (by omega)] at this
        rw [getI, getI, this]
      rw [e1, e2]
      by_cases t1 : t = n - 1 - i
      · rw [t1, List.getElem?_set_self (by rw [List.length_set]; omega), if_pos (by omega), show n - 1 - (n - 1 - i) = i by omega]
        exact (getI_some (by omega)).symm
      · rw [List.getElem?_set_ne (by omega)]
        by_cases t2 : t = i
        · rw [t2, List.getElem?_set_self (by omega), if_pos (by omega)]
          exact (getI_some (by omega)).symm
        · rw [List.getElem?_set_ne (by omega), h t ht]
          by_cases hc : t < i ∨ n - 1 - t < i
          · rw [if_pos hc, if_pos (by omega)]
          · rw [if_neg hc, if_neg (by omega)]
    · rw [if_neg hij]
      exact fin i l (by omega) hl h
theorem rev_law (l : List Int) (h : l ≠ []) : revS l.length 0 (l.length - 1) l = l.reverse := by
  have hn : 0 < l.length := List.length_pos_iff.2 h
  have := revS_ok (l0 := l) rfl l.length 0 l (by omega) (by omega) hn rfl (fun t ht => by rw [if_neg (by omega)])
  rwa [Nat.sub_zero] at this
end Go.RxTree
