/- What is read is data, and not more than it may be. -/
import Derived.Test.YtahnmikdpclbfaaRSpecQ
set_option linter.unusedVariables false
set_option linter.unusedSimpArgs false
namespace Go.RxTree
open Go Go.Rx
theorem nat_wf {n : Nat} (h : n ≤ 1000000) : (Lit.int .i64 (n : Int)).wf = true := by rw [wf_i64]; omega
theorem rdM_ok (b : List UInt8) (hb : b.length ≤ 140737488351232) : (rdM b).1.length ≤ 1 ∧ OkL (rdM b).1 ∧ SmL (rdM b).1 := by
  cases b with
  | nil => exact ⟨by simp [rdM], trivial, trivial⟩
  | cons c r =>
    rw [List.length_cons] at hb
    rw [rdM]
    split
    · exact ⟨by simp, trivial, trivial⟩
    · split
      · exact ⟨by simp, trivial, trivial⟩
      · have := rdX_ok r (by omega)
        exact ⟨by simp, ⟨this.1, trivial⟩, ⟨this.2, trivial⟩⟩
theorem sM_ok (s : Sg) (hb : s.1.length ≤ 140737488351232) : (sM s).1.length ≤ 1 ∧ OkL (sM s).1 ∧ SmL (sM s).1 := by
  unfold sM; split
  · exact ⟨by simp, trivial, trivial⟩
  · exact rdM_ok _ hb
theorem sT_ok (s : Sg) : (sT s).1.length ≤ s.1.length := by
  unfold sT; split
  · simp
  · exact (rdB_b s.1).2.2
theorem sO_ok (s : Sg) : (sO s).1 ≤ 255 := by
  unfold sO; split
  · exact Nat.zero_le _
  · have := (rdO_b s.1).2.2; show (rdO s.1).1 ≤ 255; omega
theorem sFlow_ok (s : Sg) (hb : s.1.length ≤ 140737488351232) : (sFlow s).1.Ok ∧ (sFlow s).1.Sm := by
  have h1 := sN_most 4096 s
  have h2 := sM_ok (sN 4096 s).2 (Nat.le_trans (sN_len _ _) hb)
  exact ⟨⟨nat_wf (by omega), Nat.le_trans h2.1 (by decide), h2.2.1⟩, h2.2.2⟩
theorem sFlows_ok : ∀ (n : Nat) (s : Sg), s.1.length ≤ 140737488351232 → (sFlows n s).1.length ≤ n ∧ ∀ f ∈ (sFlows n s).1, f.Ok ∧ f.Sm
  | 0, s, hb => ⟨Nat.le_refl _, fun f h => by cases h⟩
  | n + 1, s, hb => by
    rw [sFlows]; split
    · exact ⟨by simp, fun f h => by cases h⟩
    · have h1 := sFlow_ok s hb
      have h2 := sFlows_ok n (sFlow s).2 (Nat.le_trans (sFlow_len s) hb)
      refine ⟨by simp only [List.length_cons]; omega, fun f h => ?_⟩
      rcases List.mem_cons.1 h with rfl | h
      · exact h1
      · exact h2.2 f h
theorem sPlace_ok (s : Sg) (hb : s.1.length ≤ 140737488351232) : (sPlace s).1.Ok ∧ (sPlace s).1.Sm := by
  have l1 := sO_len s
  have l2 := sT_len (sO s).2
  have l3 := sN_len 9 (sT (sO s).2).2
  have l4 := sM_len (sN 9 (sT (sO s).2).2).2
  have l5 := sN_len 16 (sM (sN 9 (sT (sO s).2).2).2).2
  have h1 := sO_ok s
  have h2 := sT_ok (sO s).2
  have h3 := sN_most 9 (sT (sO s).2).2
  have h4 := sM_ok (sN 9 (sT (sO s).2).2).2 (by omega)
  have h5 := sN_most 16 (sM (sN 9 (sT (sO s).2).2).2).2
  have h6 := sFlows_ok (sN 16 (sM (sN 9 (sT (sO s).2).2).2).2).1 (sN 16 (sM (sN 9 (sT (sO s).2).2).2).2).2 (by omega)
  have hm : 140737488351232 ≤ maxLen := by decide
  have n2 : (sT (sO s).2).1.length ≤ 140737488351232 := by omega
  have n6 : (sFlows (sN 16 (sM (sN 9 (sT (sO s).2).2).2).2).1 (sN 16 (sM (sN 9 (sT (sO s).2).2).2).2).2).1.length ≤ 140737488351232 := by omega
  exact ⟨⟨nat_wf (n := (sO s).1) (by omega), Nat.le_trans n2 hm, nat_wf (n := (sN 9 (sT (sO s).2).2).1) (by omega), Nat.le_trans h4.1 (by decide), h4.2.1, Nat.le_trans n6 hm, fun f hf => (h6.2 f hf).1⟩,
    ⟨n2, h4.2.2, fun f hf => (h6.2 f hf).2, n6⟩⟩
theorem sPlaces_ok : ∀ (n : Nat) (s : Sg), s.1.length ≤ 140737488351232 → (sPlaces n s).1.length ≤ n ∧ ∀ f ∈ (sPlaces n s).1, f.Ok ∧ f.Sm
  | 0, s, hb => ⟨Nat.le_refl _, fun f h => by cases h⟩
  | n + 1, s, hb => by
    rw [sPlaces]; split
    · exact ⟨by simp, fun f h => by cases h⟩
    · have h1 := sPlace_ok s hb
      have h2 := sPlaces_ok n (sPlace s).2 (Nat.le_trans (sPlace_len s) hb)
      refine ⟨by simp only [List.length_cons]; omega, fun f h => ?_⟩
      rcases List.mem_cons.1 h with rfl | h
      · exact h1
      · exact h2.2 f h
theorem sDef_ok (b : List UInt8) (hb : b.length ≤ 140737488351232) : (sDef b).Ok ∧ (sDef b).Sm := by
  have l1 := sT_len (b, 0)
  have l2 := sN_len 4096 (sT (b, 0)).2
  have h1 := sT_ok (b, 0)
  have h2 := sN_most 4096 (sT (b, 0)).2
  have h3 := sPlaces_ok (sN 4096 (sT (b, 0)).2).1 (sN 4096 (sT (b, 0)).2).2 (by dsimp only at l1; omega)
  have hm : 140737488351232 ≤ maxLen := by decide
  dsimp only at h1
  have n2 : (sT (b, 0)).1.length ≤ 140737488351232 := by omega
  have n3 : (sPlaces (sN 4096 (sT (b, 0)).2).1 (sN 4096 (sT (b, 0)).2).2).1.length ≤ 140737488351232 := by omega
  exact ⟨⟨Nat.le_trans n2 hm, Nat.le_trans n3 hm, fun p hp => (h3.2 p hp).1⟩, ⟨n2, fun p hp => (h3.2 p hp).2⟩⟩
theorem sPlaces_e (n : Nat) {s : Sg} (h : s.2 ≠ 0) : sPlaces n s = ([], s) := by
  cases n with
  | zero => rfl
  | succ n => rw [sPlaces, if_pos h]
theorem sPlaces_1 (n : Nat) {s : Sg} (h : s.2 = 0) : sPlaces (n + 1) s = ((sPlace s).1 :: (sPlaces n (sPlace s).2).1, (sPlaces n (sPlace s).2).2) := by
  rw [sPlaces, if_neg (by omega)]
theorem D0_ok : D0.Ok ∧ D0.Sm := ⟨⟨by simp, by simp, fun p hp => by cases hp⟩, ⟨by simp, fun p hp => by cases hp⟩⟩
theorem readD_ok (b : List UInt8) (hb : b.length ≤ 140737488351232) : (readD b).1.Ok ∧ (readD b).1.Sm := by
  have h := sDef_ok b hb
  by_cases h1 : eDef b = 0
  · by_cases h2 : checkD (sDef b) = 0
    · have e : readD b = (sDef b, 0) := by unfold readD; rw [if_neg (by omega), if_neg (by omega)]
      rw [e]; exact h
    · have e : readD b = (D0, checkD (sDef b)) := by unfold readD; rw [if_neg (by omega), if_pos h2]
      rw [e]; exact D0_ok
  · have e : readD b = (D0, eDef b) := by unfold readD; rw [if_pos h1]
    rw [e]; exact D0_ok
end Go.RxTree
namespace Go.RxTree
open Go Go.Rx
theorem readD_e {b : List UInt8} (h : (sD3 b).2.2 ≠ 0) : readD b = (D0, (sD3 b).2.2) := by
  have e : eDef b = (sD3 b).2.2 := by unfold eDef; rw [if_neg (by omega)]
  unfold readD; rw [e, if_pos h]
theorem readD_3 {b : List UInt8} (h : (sD3 b).2.2 = 0) (hl : 0 < (sD3 b).2.1.length) : readD b = (D0, 3) := by
  have e : eDef b = 3 := by unfold eDef; rw [if_pos ⟨h, hl⟩]
  unfold readD; rw [e]; rfl
theorem readD_c {b : List UInt8} (h : (sD3 b).2.2 = 0) (hl : ¬ 0 < (sD3 b).2.1.length) (hc : checkD (sDef b) ≠ 0) : readD b = (D0, checkD (sDef b)) := by
  have e : eDef b = 0 := by unfold eDef; rw [if_neg (by omega), h]
  unfold readD; rw [e, if_neg (by omega), if_pos hc]
theorem readD_0 {b : List UInt8} (h : (sD3 b).2.2 = 0) (hl : ¬ 0 < (sD3 b).2.1.length) (hc : checkD (sDef b) = 0) : readD b = (sDef b, 0) := by
  have e : eDef b = 0 := by unfold eDef; rw [if_neg (by omega), h]
  unfold readD; rw [e, if_neg (by omega), if_neg (by omega)]
end Go.RxTree
