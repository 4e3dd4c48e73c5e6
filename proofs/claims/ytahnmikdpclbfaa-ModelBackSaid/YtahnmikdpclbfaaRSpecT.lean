/- Trees off bytes: the ends, told one by one. -/
import Derived.Test.YtahnmikdpclbfaaRSpecZ
set_option linter.unusedVariables false
set_option linter.unusedSimpArgs false
namespace Go.RxTree
open Go Go.Rx
theorem rdB_b (b : List UInt8) : ((rdB b).2.2 = 0 → (rdB b).2.1 ≤ b.length ∧ 0 < (rdB b).2.1) ∧ ((rdB b).2.2 ≠ 0 → (rdB b).1 = [] ∧ (rdB b).2.1 = 0) ∧ (rdB b).1.length ≤ b.length := by
  have h := rdU_b b
  generalize hr : rdU b = r at *
  obtain ⟨n, kk, e⟩ := r
  dsimp only at h
  by_cases h1 : e = 0
  · subst h1
    have h2 := h.1 rfl
    by_cases h3 : b.length - kk < n
    · have e0 : rdB b = ([], 0, 5) := by unfold rdB; rw [hr, if_neg (by simp), if_pos h3]
      rw [e0]; simp
    · have e0 : rdB b = ((b.drop kk).take n, kk + n, 0) := by unfold rdB; rw [hr, if_neg (by simp), if_neg h3]
      rw [e0]
      refine ⟨fun _ => by show _ + _ ≤ _ ∧ 0 < _ + _; omega, fun h3 => absurd rfl h3, ?_⟩
      show (List.take _ _).length ≤ _
      rw [List.length_take, List.length_drop]; omega
  · have e0 : rdB b = ([], 0, e) := by unfold rdB; rw [hr, if_pos h1]
    rw [e0]; simp [h1]
theorem rdI_b (b : List UInt8) : ((rdI b).2.2 = 0 → (rdI b).2.1 ≤ b.length ∧ 0 < (rdI b).2.1) ∧ ((rdI b).2.2 ≠ 0 → (rdI b).1 = 0 ∧ (rdI b).2.1 = 0) := by
  have h := rdU_b b
  unfold rdI
  refine ⟨fun h2 => ?_, fun h2 => ?_⟩
  · have := h.1 h2; exact ⟨this.1, this.2.1⟩
  · have := h.2.2 h2
    show zag _ = 0 ∧ _ = 0
    rw [this.1]; exact ⟨rfl, this.2⟩
section
variable {m : Nat} {c : UInt8} {r : List UInt8}
theorem rdT_nil : rdT (m + 1) [] = (T0, 0, 5) := by rw [rdT]
theorem rdT_0 (b : List UInt8) : rdT 0 b = (T0, 0, 6) := by rw [rdT]
theorem rdT_1 (h : (c.toNat : Int) = 1) : rdT (m + 1) (c :: r) = (.mk 1 (rdI r).1 [] [], 1 + (rdI r).2.1, (rdI r).2.2) := by rw [rdT, if_pos h]
theorem rdT_2 (h : (c.toNat : Int) = 2) : rdT (m + 1) (c :: r) = (.mk 2 0 (rdB r).1 [], 1 + (rdB r).2.1, (rdB r).2.2) := by rw [rdT, if_neg (by omega), if_pos h]
theorem rdT_k0 (h : (c.toNat : Int) = 3 ∨ (c.toNat : Int) = 4) : rdT (m + 1) (c :: r) = (.mk c.toNat 0 [] [], 1, 0) := by
  rw [rdT, if_neg (by omega), if_neg (by omega), if_pos (by unfold kidsK; rw [if_pos h])]
theorem kidsK_1 {k : Int} (h : k = 5 ∨ k = 6) : kidsK k = 1 := by unfold kidsK; rw [if_neg (by omega), if_pos h]
theorem kidsK_2 {k : Int} (h : 7 ≤ k ∧ k ≤ 14) : kidsK k = 2 := by unfold kidsK; rw [if_neg (by omega), if_neg (by omega), if_pos h]
theorem kidsK_0 {k : Int} (h : k = 3 ∨ k = 4) : kidsK k = 0 := by unfold kidsK; rw [if_pos h]
theorem kidsK_n {k : Int} (h : k < 3 ∨ 14 < k) : kidsK k = -1 := by unfold kidsK; rw [if_neg (by omega), if_neg (by omega), if_neg (by omega)]
theorem rdT_k1 (h : (c.toNat : Int) = 5 ∨ (c.toNat : Int) = 6) : rdT (m + 1) (c :: r) = if (rdT m r).2.2 ≠ 0 then (T0, 0, (rdT m r).2.2) else (.mk c.toNat 0 [] [(rdT m r).1], 1 + (rdT m r).2.1, 0) := by
  rw [rdT, if_neg (by omega), if_neg (by omega), kidsK_1 h, if_neg (by omega), if_pos rfl]
theorem rdT_k2 (h : 7 ≤ (c.toNat : Int) ∧ (c.toNat : Int) ≤ 14) : rdT (m + 1) (c :: r) = if (rdT m r).2.2 ≠ 0 then (T0, 0, (rdT m r).2.2)
       else if (rdT m (r.drop (rdT m r).2.1)).2.2 ≠ 0 then (T0, 0, (rdT m (r.drop (rdT m r).2.1)).2.2)
       else (.mk c.toNat 0 [] [(rdT m r).1, (rdT m (r.drop (rdT m r).2.1)).1], 1 + (rdT m r).2.1 + (rdT m (r.drop (rdT m r).2.1)).2.1, 0) := by
  rw [rdT, if_neg (by omega), if_neg (by omega), kidsK_2 h, if_neg (by omega), if_neg (by omega), if_pos rfl]
theorem rdT_n (h : (c.toNat : Int) < 1 ∨ 14 < (c.toNat : Int)) : rdT (m + 1) (c :: r) = (T0, 0, 3) := by
  rw [rdT, if_neg (by omega), if_neg (by omega), kidsK_n (by omega), if_neg (by omega), if_neg (by omega), if_neg (by omega)]
end
theorem rdT_b : ∀ (m : Nat) (b : List UInt8), ((rdT m b).2.2 = 0 → (rdT m b).2.1 ≤ b.length ∧ 0 < (rdT m b).2.1)
  | 0, b => by rw [rdT_0]; simp
  | m + 1, [] => by rw [rdT_nil]; simp
  | m + 1, c :: r => by
    intro h
    by_cases h1 : (c.toNat : Int) = 1
    · rw [rdT_1 h1] at h ⊢
      have := (rdI_b r).1 h
      show 1 + _ ≤ _ ∧ 0 < 1 + _
      rw [List.length_cons]; omega
    · by_cases h2 : (c.toNat : Int) = 2
      · rw [rdT_2 h2] at h ⊢
        have := (rdB_b r).1 h
        show 1 + _ ≤ _ ∧ 0 < 1 + _
        rw [List.length_cons]; omega
      · by_cases h3 : (c.toNat : Int) = 3 ∨ (c.toNat : Int) = 4
        · rw [rdT_k0 h3]; simp
        · by_cases h4 : (c.toNat : Int) = 5 ∨ (c.toNat : Int) = 6
          · rw [rdT_k1 h4] at h ⊢
            by_cases e1 : (rdT m r).2.2 = 0
            · rw [if_neg (by omega)]
              have := rdT_b m r e1
              show 1 + _ ≤ _ ∧ 0 < 1 + _
              rw [List.length_cons]; omega
            · rw [if_pos e1] at h; exact absurd h e1
          · by_cases h5 : 7 ≤ (c.toNat : Int) ∧ (c.toNat : Int) ≤ 14
            · rw [rdT_k2 h5] at h ⊢
              by_cases e1 : (rdT m r).2.2 = 0
              · rw [if_neg (by omega)] at h ⊢
                by_cases e2 : (rdT m (r.drop (rdT m r).2.1)).2.2 = 0
                · rw [if_neg (by omega)]
                  have a1 := rdT_b m r e1
                  have a2 := rdT_b m (r.drop (rdT m r).2.1) e2
                  rw [List.length_drop] at a2
                  show 1 + _ + _ ≤ _ ∧ 0 < 1 + _ + _
                  rw [List.length_cons]; omega
                · rw [if_pos e2] at h; exact absurd h e2
              · rw [if_pos e1] at h; exact absurd h e1
            · rw [rdT_n (by omega)] at h; cases h
end Go.RxTree
namespace Go.RxTree
open Go Go.Rx
theorem zag_wf {n : Nat} (h : n < 18446744073709551616) : (Lit.int .i64 (zag n)).wf = true := by
  rw [wf_i64]; unfold zag; split <;> omega
theorem u8_wf (c : UInt8) : (Lit.int .i64 (c.toNat : Int)).wf = true := by
  have := c.toNat_lt
  rw [wf_i64]; omega
theorem T0_ok : T0.Ok ∧ T0.Sm := ⟨⟨by decide, by decide, by simp, by simp, trivial⟩, ⟨by simp, trivial⟩⟩
/-- What is read is a tree of data. -/
theorem rdT_ok : ∀ (m : Nat) (b : List UInt8), b.length ≤ 140737488351232 → (rdT m b).1.Ok ∧ (rdT m b).1.Sm
  | 0, b, _ => by rw [rdT_0]; exact T0_ok
  | m + 1, [], _ => by rw [rdT_nil]; exact T0_ok
  | m + 1, c :: r, hb => by
    rw [List.length_cons] at hb
    by_cases h1 : (c.toNat : Int) = 1
    · rw [rdT_1 h1]
      exact ⟨⟨by decide, zag_wf (rdU_b r).2.1, by simp, by simp, trivial⟩, ⟨by simp, trivial⟩⟩
    · by_cases h2 : (c.toNat : Int) = 2
      · rw [rdT_2 h2]
        have := (rdB_b r).2.2
        exact ⟨⟨by decide, by decide, by unfold maxLen; omega, by simp, trivial⟩, ⟨by omega, trivial⟩⟩
      · by_cases h3 : (c.toNat : Int) = 3 ∨ (c.toNat : Int) = 4
        · rw [rdT_k0 h3]; exact ⟨⟨u8_wf c, by decide, by simp, by simp, trivial⟩, ⟨by simp, trivial⟩⟩
        · by_cases h4 : (c.toNat : Int) = 5 ∨ (c.toNat : Int) = 6
          · rw [rdT_k1 h4]
            have i1 := rdT_ok m r (by omega)
            split
            · exact T0_ok
            · exact ⟨⟨u8_wf c, by decide, by simp, by simp [maxLen], i1.1, trivial⟩, ⟨by simp, i1.2, trivial⟩⟩
          · by_cases h5 : 7 ≤ (c.toNat : Int) ∧ (c.toNat : Int) ≤ 14
            · rw [rdT_k2 h5]
              have i1 := rdT_ok m r (by omega)
              have i2 := rdT_ok m (r.drop (rdT m r).2.1) (by rw [List.length_drop]; omega)
              split
              · exact T0_ok
              · split
                · exact T0_ok
                · exact ⟨⟨u8_wf c, by decide, by simp, by simp [maxLen], i1.1, i2.1, trivial⟩, ⟨by simp, i1.2, i2.2, trivial⟩⟩
            · rw [rdT_n (by omega)]; exact T0_ok
/-- The ends of reading a tree that may be. -/
theorem rdX_e {b : List UInt8} {e : Int} (h : (rdT 16 b).2.2 = e) (he : e ≠ 0) : rdX b = (T0, 0, e) := by
  unfold rdX; dsimp only
  rw [h, if_neg he, if_pos he]
theorem rdX_c {b : List UInt8} (h : (rdT 16 b).2.2 = 0) (he : checkT (rdT 16 b).1 1 ≠ 0) : rdX b = (T0, 0, checkT (rdT 16 b).1 1) := by
  unfold rdX; dsimp only
  rw [h, if_pos rfl, if_pos he]
theorem rdX_0 {b : List UInt8} (h : (rdT 16 b).2.2 = 0) (he : checkT (rdT 16 b).1 1 = 0) : rdX b = ((rdT 16 b).1, (rdT 16 b).2.1, 0) := by
  unfold rdX; dsimp only
  rw [h, if_pos rfl, if_neg (by omega)]
theorem rdX_ok (b : List UInt8) (hb : b.length ≤ 140737488351232) : (rdX b).1.Ok ∧ (rdX b).1.Sm := by
  by_cases h : (rdT 16 b).2.2 = 0
  · by_cases h2 : checkT (rdT 16 b).1 1 = 0
    · rw [rdX_0 h h2]; exact rdT_ok 16 b hb
    · rw [rdX_c h h2]; exact T0_ok
  · rw [rdX_e rfl h]; exact T0_ok
theorem rdX_b (b : List UInt8) : ((rdX b).2.2 = 0 → (rdX b).2.1 ≤ b.length ∧ 0 < (rdX b).2.1 ∧ checkT (rdX b).1 1 = 0 ∧ (rdT 16 b).2.2 = 0 ∧ rdX b = rdT 16 b) ∧ ((rdX b).2.2 ≠ 0 → rdX b = (T0, 0, (rdX b).2.2)) := by
  by_cases h : (rdT 16 b).2.2 = 0
  · by_cases h2 : checkT (rdT 16 b).1 1 = 0
    · rw [rdX_0 h h2]
      have := rdT_b 16 b h
      exact ⟨fun _ => ⟨this.1, this.2, h2, h, Prod.ext rfl (Prod.ext rfl h.symm)⟩, fun hh => absurd rfl hh⟩
    · rw [rdX_c h h2]; exact ⟨fun hh => absurd hh h2, fun _ => rfl⟩
  · rw [rdX_e rfl h]; exact ⟨fun hh => absurd hh h, fun _ => rfl⟩
end Go.RxTree
