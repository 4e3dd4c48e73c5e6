/- A part of the proof of the law: what functions of the program come to, walked by Rx, or plain facts on it. -/
import Derived.Test.YtahnmikdpclbfaaRReaderR
import Derived.Test.YtahnmikdpclbfaaRJ0
open Go Go.Rx Go.Proofs Go.Rx11 Go.RxTree
set_option maxRecDepth 1000000
set_option maxHeartbeats 4000000
set_option linter.unusedVariables false
set_option linter.unusedSimpArgs false
namespace Go.Rx11
/-- What model's reader keeps stands for what is left; and the reference's. -/
def Rl (L : Nat) (mb : List UInt8) (s : Sg) : Prop := mb.length ≤ L ∧ s.1.length ≤ L ∧ (s.2 = 0 → mb = s.1)
def Rf (B : List UInt8) (a : Nat) (s : Sg) : Prop := a ≤ B.length ∧ s.1.length ≤ B.length ∧ (s.2 = 0 → s.1 = B.drop a)
abbrev LB : Nat := 140737488351232
section
variable {L : Nat} (hL : L ≤ LB) {mb : List UInt8} {s : Sg}
include hL
theorem qUint (most : Nat) (hm : most ≤ 1000000) (h : Rl L mb s) : ∃ mb', Rl L mb' (sN most s).2 ∧ ∀ k, 7 * L + 100 < k → icall Try.prog cfg k 50 [.ptr (.arg 0) 0, .d (.int .u64 most)] (rdH mb s.2) = some (.ret (.d (.int .i64 (sN most s).1)), rdH mb' (sN most s).2.2) := by
  obtain ⟨b, e⟩ := s
  obtain ⟨h1, h2, h3⟩ := h
  have hmx : LB ≤ maxLen := by decide
  dsimp only at h2 h3
  by_cases he : e = 0
  · subst he
    obtain rfl := h3 rfl
    refine ⟨mN most mb, ⟨Nat.le_trans (mN_len _ _) h1, Nat.le_trans (sN_len _ _) h1, fun h => ?_⟩, fun k hk => ?_⟩
    · have : (rdN most mb).2.2 = 0 := h
      show _ = rest mb (rdN most mb).2.1 (rdN most mb).2.2
      rw [mN_0 this, this]; rfl
    · exact uint50_0 mb (by omega) most hm k (by omega)
  · refine ⟨mb, ⟨h1, ?_, ?_⟩, fun k hk => ?_⟩ <;> rw [show sN most (b, e) = (0, b, e) from if_pos he]
    · exact h2
    · exact h3
    · exact uint50_e mb (by omega) most e he k (by omega)
theorem qText (h : Rl L mb s) : ∃ mb', Rl L mb' (sT s).2 ∧ ∀ k, 7 * L + 100 < k → icall Try.prog cfg k 49 [.ptr (.arg 0) 0] (rdH mb s.2) = some (.ret (.d (.str (sT s).1)), rdH mb' (sT s).2.2) := by
  obtain ⟨b, e⟩ := s
  obtain ⟨h1, h2, h3⟩ := h
  have hmx : LB ≤ maxLen := by decide
  dsimp only at h2 h3
  by_cases he : e = 0
  · subst he
    obtain rfl := h3 rfl
    exact ⟨rest mb (rdB mb).2.1 (rdB mb).2.2, ⟨Nat.le_trans (rest_len _ _ _) h1, Nat.le_trans (sT_len _) h1, fun h => rfl⟩, fun k hk => text49_0 mb (by omega) k (by omega)⟩
  · refine ⟨mb, ⟨h1, ?_, ?_⟩, fun k hk => ?_⟩ <;> rw [show sT (b, e) = ([], b, e) from if_pos he]
    · exact h2
    · exact h3
    · exact text49_e mb (by omega) e he k (by omega)
theorem qOne (h : Rl L mb s) : ∃ mb', Rl L mb' (sO s).2 ∧ ∀ k, 7 * L + 100 < k → icall Try.prog cfg k 51 [.ptr (.arg 0) 0] (rdH mb s.2) = some (.ret (.d (.int .i64 (sO s).1)), rdH mb' (sO s).2.2) := by
  have _hL := hL
  obtain ⟨b, e⟩ := s
  obtain ⟨h1, h2, h3⟩ := h
  dsimp only at h2 h3
  by_cases he : e = 0
  · subst he
    obtain rfl := h3 rfl
    refine ⟨mO mb, ⟨Nat.le_trans (mO_len _) h1, Nat.le_trans (sO_len _) h1, fun h => ?_⟩, fun k hk => one51_0 mb k (by omega)⟩
    have : (rdO mb).2.2 = 0 := h
    show _ = rest mb (rdO mb).2.1 (rdO mb).2.2
    rw [mO_0 this, this]; rfl
  · refine ⟨mb, ⟨h1, ?_, ?_⟩, fun k hk => ?_⟩ <;> rw [show sO (b, e) = (0, b, e) from if_pos he]
    · exact h2
    · exact h3
    · exact one51_e mb e he k (by omega)
theorem qMaybe (h : Rl L mb s) : ∃ mb', Rl L mb' (sM s).2 ∧ ∀ k, 7 * L + 100 < k → icall Try.prog cfg k 52 [.ptr (.arg 0) 0] (rdH mb s.2) = some (.ret (.d (.list (cellsL (sM s).1))), rdH mb' (sM s).2.2) := by
  obtain ⟨b, e⟩ := s
  obtain ⟨h1, h2, h3⟩ := h
  dsimp only at h2 h3
  by_cases he : e = 0
  · subst he
    obtain rfl := h3 rfl
    refine ⟨mM mb, ⟨Nat.le_trans (mM_len _) h1, Nat.le_trans (sM_len _) h1, fun h => ?_⟩, fun k hk => maybe52_0 mb (Nat.le_trans h1 hL) k (by have := rdT_most mb.tail; have := List.length_tail (l := mb); omega)⟩
    have : (rdM mb).2.2 = 0 := h
    show _ = rest mb (rdM mb).2.1 (rdM mb).2.2
    rw [mM_0 this, this]; rfl
  · refine ⟨mb, ⟨h1, ?_, ?_⟩, fun k hk => ?_⟩ <;> rw [show sM (b, e) = ([], b, e) from if_pos he]
    · exact h2
    · exact h3
    · exact maybe52_e mb e he k (by omega)
end
section
variable {B : List UInt8} (hB : B.length ≤ LB) {a : Nat} {s : Sg}
include hB
theorem rest_drop (a k : Nat) (e : Int) : e = 0 → rest (B.drop a) k e = B.drop (a + k) := fun h => by have _hB := hB; subst h; rw [rest_0, List.drop_drop]
theorem pUint (most : Nat) (hm : most ≤ 1000000) (h : Rf B a s) : ∃ a', Rf B a' (sN most s).2 ∧ ∀ k, 7 * B.length + 100 < k → icall Try.prog cfg k 54 [.ptr (.arg 0) 0, .d (.int .u64 most)] (rfH B a s.2) = some (.ret (.d (.int .i64 (sN most s).1)), rfH B a' (sN most s).2.2) := by
  obtain ⟨b, e⟩ := s
  obtain ⟨h1, h2, h3⟩ := h
  dsimp only at h2 h3
  by_cases he : e = 0
  · subst he
    obtain rfl := h3 rfl
    refine ⟨if (rdN most (B.drop a)).2.2 = 0 then a + (rdN most (B.drop a)).2.1 else a, ⟨?_, Nat.le_trans (sN_len _ _) h2, fun h => ?_⟩, fun k hk => uint54_0 B hB a h1 most hm k (by omega)⟩
    · split
      · rename_i h
        have := ((rdN_b most (B.drop a)).1 h).1
        rw [List.length_drop] at this; omega
      · exact h1
    · have : (rdN most (B.drop a)).2.2 = 0 := h
      rw [if_pos this]
      exact rest_drop hB a _ _ this
  · refine ⟨a, ⟨h1, ?_, ?_⟩, fun k hk => ?_⟩ <;> rw [show sN most (b, e) = (0, b, e) from if_pos he]
    · exact h2
    · exact h3
    · exact uint54_e B a most e he k (by omega)
theorem pText (h : Rf B a s) : ∃ a', Rf B a' (sT s).2 ∧ ∀ k, 7 * B.length + 100 < k → icall Try.prog cfg k 53 [.ptr (.arg 0) 0] (rfH B a s.2) = some (.ret (.d (.str (sT s).1)), rfH B a' (sT s).2.2) := by
  obtain ⟨b, e⟩ := s
  obtain ⟨h1, h2, h3⟩ := h
  dsimp only at h2 h3
  by_cases he : e = 0
  · subst he
    obtain rfl := h3 rfl
    refine ⟨a + (rdB (B.drop a)).2.1, ⟨?_, Nat.le_trans (sT_len _) h2, fun h => ?_⟩, fun k hk => text53_0 B hB a h1 k (by omega)⟩
    · by_cases h : (rdB (B.drop a)).2.2 = 0
      · have := ((rdB_b (B.drop a)).1 h).1
        rw [List.length_drop] at this; omega
      · rw [((rdB_b (B.drop a)).2.1 h).2]; omega
    · exact rest_drop hB a _ _ h
  · refine ⟨a, ⟨h1, ?_, ?_⟩, fun k hk => ?_⟩ <;> rw [show sT (b, e) = ([], b, e) from if_pos he]
    · exact h2
    · exact h3
    · exact text53_e B a e he k (by omega)
theorem pOne (h : Rf B a s) : ∃ a', Rf B a' (sO s).2 ∧ ∀ k, 7 * B.length + 100 < k → icall Try.prog cfg k 82 [.ptr (.arg 0) 0] (rfH B a s.2) = some (.ret (.d (.int .i64 (sO s).1)), rfH B a' (sO s).2.2) := by
  obtain ⟨b, e⟩ := s
  obtain ⟨h1, h2, h3⟩ := h
  dsimp only at h2 h3
  by_cases he : e = 0
  · subst he
    obtain rfl := h3 rfl
    refine ⟨a + (rdO (B.drop a)).2.1, ⟨?_, Nat.le_trans (sO_len _) h2, fun h => ?_⟩, fun k hk => one82_0 B hB a h1 k (by omega)⟩
    · have := (rdO_b (B.drop a)).2.1
      rw [List.length_drop] at this; omega
    · exact rest_drop hB a _ _ h
  · refine ⟨a, ⟨h1, ?_, ?_⟩, fun k hk => ?_⟩ <;> rw [show sO (b, e) = (0, b, e) from if_pos he]
    · exact h2
    · exact h3
    · exact one82_e B a e he k (by omega)
theorem pMaybe (h : Rf B a s) : ∃ a', Rf B a' (sM s).2 ∧ ∀ k, 7 * B.length + 100 < k → icall Try.prog cfg k 83 [.ptr (.arg 0) 0] (rfH B a s.2) = some (.ret (.d (.list (cellsL (sM s).1))), rfH B a' (sM s).2.2) := by
  obtain ⟨b, e⟩ := s
  obtain ⟨h1, h2, h3⟩ := h
  dsimp only at h2 h3
  by_cases he : e = 0
  · subst he
    obtain rfl := h3 rfl
    refine ⟨a + (rdM (B.drop a)).2.1, ⟨?_, Nat.le_trans (sM_len _) h2, fun h => ?_⟩, fun k hk => maybe83_0 B hB a h1 k (by have h5 := rdT_most (B.drop a).tail; rw [List.length_tail, List.length_drop] at h5; omega)⟩
    · have := rdM_b (B.drop a)
      rw [List.length_drop] at this; omega
    · exact rest_drop hB a _ _ h
  · refine ⟨a, ⟨h1, ?_, ?_⟩, fun k hk => ?_⟩ <;> rw [show sM (b, e) = ([], b, e) from if_pos he]
    · exact h2
    · exact h3
    · exact maybe83_e B a e he k (by omega)
end
end Go.Rx11
