/- Definitions off bytes: what is left, and what is wrong, handed on from step to step. -/
import Derived.Test.YtahnmikdpclbfaaRSpecM
import Derived.Test.YtahnmikdpclbfaaRSpecY
set_option linter.unusedVariables false
set_option linter.unusedSimpArgs false
namespace Go.RxTree
open Go Go.Rx
abbrev Sg := List UInt8 × Int
def nx (b : List UInt8) (k : Nat) (e : Int) : Sg := (rest b k e, e)
def sN (most : Nat) (s : Sg) : Nat × Sg := if s.2 ≠ 0 then (0, s) else ((rdN most s.1).1, nx s.1 (rdN most s.1).2.1 (rdN most s.1).2.2)
def sT (s : Sg) : List UInt8 × Sg := if s.2 ≠ 0 then ([], s) else ((rdB s.1).1, nx s.1 (rdB s.1).2.1 (rdB s.1).2.2)
def sO (s : Sg) : Nat × Sg := if s.2 ≠ 0 then (0, s) else ((rdO s.1).1, nx s.1 (rdO s.1).2.1 (rdO s.1).2.2)
def sM (s : Sg) : List T × Sg := if s.2 ≠ 0 then ([], s) else ((rdM s.1).1, nx s.1 (rdM s.1).2.1 (rdM s.1).2.2)
def sFlow (s : Sg) : FlowT × Sg := (⟨(sN 4096 s).1, (sM (sN 4096 s).2).1⟩, (sM (sN 4096 s).2).2)
def sFlows : Nat → Sg → List FlowT × Sg
  | 0, s => ([], s)
  | n + 1, s => if s.2 ≠ 0 then ([], s) else ((sFlow s).1 :: (sFlows n (sFlow s).2).1, (sFlows n (sFlow s).2).2)
def sP1 (s : Sg) : Nat × Sg := sO s
def sP2 (s : Sg) : List UInt8 × Sg := sT (sP1 s).2
def sP3 (s : Sg) : Nat × Sg := sN 9 (sP2 s).2
def sP4 (s : Sg) : List T × Sg := sM (sP3 s).2
def sP5 (s : Sg) : Nat × Sg := sN 16 (sP4 s).2
def sP6 (s : Sg) : List FlowT × Sg := sFlows (sP5 s).1 (sP5 s).2
def sPlace (s : Sg) : PlaceT × Sg := (⟨(sP1 s).1, (sP2 s).1, (sP3 s).1, (sP4 s).1, (sP6 s).1⟩, (sP6 s).2)
def sPlaces : Nat → Sg → List PlaceT × Sg
  | 0, s => ([], s)
  | n + 1, s => if s.2 ≠ 0 then ([], s) else ((sPlace s).1 :: (sPlaces n (sPlace s).2).1, (sPlaces n (sPlace s).2).2)
def sD1 (b : List UInt8) : List UInt8 × Sg := sT (b, 0)
def sD2 (b : List UInt8) : Nat × Sg := sN 4096 (sD1 b).2
def sD3 (b : List UInt8) : List PlaceT × Sg := sPlaces (sD2 b).1 (sD2 b).2
def sDef (b : List UInt8) : DefT := ⟨(sD1 b).1, (sD3 b).1⟩
abbrev D0 : DefT := ⟨[], []⟩
/-- What is wrong with bytes, their definition not looked at. -/
def eDef (b : List UInt8) : Int := if (sD3 b).2.2 = 0 ∧ 0 < (sD3 b).2.1.length then 3 else (sD3 b).2.2
def readD (b : List UInt8) : DefT × Int :=
  if eDef b ≠ 0 then (D0, eDef b) else if checkD (sDef b) ≠ 0 then (D0, checkD (sDef b)) else (sDef b, 0)
theorem rest_len (b : List UInt8) (k : Nat) (e : Int) : (rest b k e).length ≤ b.length := by
  unfold rest; split
  · rw [List.length_drop]; omega
  · simp
theorem sN_len (most : Nat) (s : Sg) : (sN most s).2.1.length ≤ s.1.length := by unfold sN; split; exact Nat.le_refl _; exact rest_len ..
theorem sT_len (s : Sg) : (sT s).2.1.length ≤ s.1.length := by unfold sT; split; exact Nat.le_refl _; exact rest_len ..
theorem sO_len (s : Sg) : (sO s).2.1.length ≤ s.1.length := by unfold sO; split; exact Nat.le_refl _; exact rest_len ..
theorem sM_len (s : Sg) : (sM s).2.1.length ≤ s.1.length := by unfold sM; split; exact Nat.le_refl _; exact rest_len ..
theorem sFlow_len (s : Sg) : (sFlow s).2.1.length ≤ s.1.length := Nat.le_trans (sM_len _) (sN_len _ _)
theorem sFlows_len : ∀ (n : Nat) (s : Sg), (sFlows n s).2.1.length ≤ s.1.length
  | 0, s => Nat.le_refl _
  | n + 1, s => by
    rw [sFlows]; split
    · exact Nat.le_refl _
    · exact Nat.le_trans (sFlows_len n _) (sFlow_len s)
theorem sPlace_len (s : Sg) : (sPlace s).2.1.length ≤ s.1.length :=
  Nat.le_trans (sFlows_len _ _) (Nat.le_trans (sN_len _ _) (Nat.le_trans (sM_len _) (Nat.le_trans (sN_len _ _) (Nat.le_trans (sT_len _) (sO_len _)))))
theorem sN_most (most : Nat) (s : Sg) : (sN most s).1 ≤ most := by
  unfold sN; split
  · exact Nat.zero_le _
  · show (rdN most s.1).1 ≤ most
    unfold rdN; split
    · exact Nat.zero_le _
    · split
      · exact Nat.zero_le _
      · omega
theorem rdN_b (most : Nat) (b : List UInt8) : ((rdN most b).2.2 = 0 → (rdN most b).2.1 ≤ b.length ∧ 0 < (rdN most b).2.1 ∧ rdN most b = rdU b ∧ (rdU b).1 ≤ most) ∧ ((rdN most b).2.2 ≠ 0 → (rdN most b).1 = 0) := by
  have h := rdU_b b
  by_cases h1 : (rdU b).2.2 = 0
  · by_cases h2 : most < (rdU b).1
    · have e : rdN most b = (0, (rdU b).2.1, 6) := by unfold rdN; rw [if_neg (by omega), if_pos h2]
      rw [e]; exact ⟨fun hh => (by cases hh), fun _ => rfl⟩
    · have e : rdN most b = rdU b := by unfold rdN; rw [if_neg (by omega), if_neg h2]
      rw [e]; have := h.1 h1; exact ⟨fun _ => ⟨this.1, this.2.1, rfl, by omega⟩, fun hh => absurd h1 hh⟩
  · have e : rdN most b = (0, 0, (rdU b).2.2) := by unfold rdN; rw [if_pos h1]
    rw [e]; exact ⟨fun hh => absurd hh h1, fun _ => rfl⟩
/-- Model's reader, what it keeps: no longer than what is left was. -/
theorem mN_0 {most : Nat} {b : List UInt8} (h : (rdN most b).2.2 = 0) : mN most b = b.drop (rdN most b).2.1 := by
  have := (rdN_b most b).1 h
  rw [this.2.2.1] at h ⊢
  unfold mN; rw [if_neg (by omega)]
theorem mO_0 {b : List UInt8} (h : (rdO b).2.2 = 0) : mO b = b.drop (rdO b).2.1 := by
  cases b with
  | nil => cases h
  | cons c r => rfl
theorem mM_0 {b : List UInt8} (h : (rdM b).2.2 = 0) : mM b = b.drop (rdM b).2.1 := by
  cases b with
  | nil => cases h
  | cons c r =>
    rw [rdM] at h ⊢
    rw [mM]
    by_cases g0 : c.toNat = 0
    · rw [if_pos (.inl g0), if_pos g0]; rfl
    · rw [if_neg g0] at h ⊢
      by_cases g1 : 1 < c.toNat
      · rw [if_pos g1] at h; cases h
      · rw [if_neg g1] at h ⊢
        rw [if_neg (by omega)]
        dsimp only at h ⊢
        rw [h, rest_0, Nat.add_comm 1, List.drop_succ_cons]
theorem mN_len (most : Nat) (b : List UInt8) : (mN most b).length ≤ b.length := by
  unfold mN; split
  · simp
  · rw [List.length_drop]; omega
theorem mO_len (b : List UInt8) : (mO b).length ≤ b.length := by cases b <;> simp [mO]
theorem mM_len (b : List UInt8) : (mM b).length ≤ b.length := by
  cases b with
  | nil => simp [mM]
  | cons c r =>
    rw [mM, List.length_cons]; split
    · omega
    · have := rest_len r (rdX r).2.1 (rdX r).2.2; omega
theorem rdO_b (b : List UInt8) : ((rdO b).2.2 = 0 → (rdO b).2.1 ≤ b.length ∧ 0 < (rdO b).2.1) ∧ (rdO b).2.1 ≤ b.length ∧ (rdO b).1 < 256 := by
  cases b with
  | nil => simp [rdO]
  | cons c r => have := c.toNat_lt; simp [rdO]; exact this
theorem rdM_b (b : List UInt8) : (rdM b).2.1 ≤ b.length := by
  cases b with
  | nil => simp [rdM]
  | cons c r =>
    rw [rdM, List.length_cons]
    split
    · simp
    · split
      · simp
      · show 1 + _ ≤ _
        by_cases h : (rdX r).2.2 = 0
        · have := ((rdX_b r).1 h).1; omega
        · rw [(rdX_b r).2 h]; simp
theorem rdT_wt : ∀ (m : Nat) (b : List UInt8), ((rdT m b).2.2 = 0 → (rdT m b).1.wt + 1 ≤ 7 * (rdT m b).2.1) ∧ ((rdT m b).2.2 ≠ 0 → (rdT m b).1.wt ≤ 5)
  | 0, b => by rw [rdT_0]; simp [T.wt, wtL]
  | m + 1, [] => by rw [rdT_nil]; simp [T.wt, wtL]
  | m + 1, c :: r => by
    by_cases h1 : (c.toNat : Int) = 1
    · rw [rdT_1 h1]
      refine ⟨fun h => ?_, fun _ => by simp [T.wt, wtL]⟩
      have := (rdI_b r).1 h
      simp [T.wt, wtL]; omega
    · by_cases h2 : (c.toNat : Int) = 2
      · rw [rdT_2 h2]
        refine ⟨fun h => ?_, fun h => ?_⟩
        · have h3 : (rdB r).1.length ≤ (rdB r).2.1 := by
            by_cases hu : (rdU r).2.2 ≠ 0
            · have e0 : rdB r = ([], 0, (rdU r).2.2) := by unfold rdB; rw [if_pos hu]
              rw [e0]; simp
            · by_cases hl : r.length - (rdU r).2.1 < (rdU r).1
              · have e0 : rdB r = ([], 0, 5) := by unfold rdB; rw [if_neg hu, if_pos hl]
                rw [e0]; simp
              · have e0 : rdB r = ((r.drop (rdU r).2.1).take (rdU r).1, (rdU r).2.1 + (rdU r).1, 0) := by unfold rdB; rw [if_neg hu, if_neg hl]
                rw [e0]
                show (List.take _ _).length ≤ _ + _
                rw [List.length_take]; omega
          have h4 := (rdB_b r).1 h
          simp [T.wt, wtL]; omega
        · have := (rdB_b r).2.1 h
          rw [this.1]; simp [T.wt, wtL]
      · by_cases h3 : (c.toNat : Int) = 3 ∨ (c.toNat : Int) = 4
        · rw [rdT_k0 h3]; simp [T.wt, wtL]
        · by_cases h4 : (c.toNat : Int) = 5 ∨ (c.toNat : Int) = 6
          · rw [rdT_k1 h4]
            by_cases e1 : (rdT m r).2.2 = 0
            · rw [if_neg (by omega)]
              have := (rdT_wt m r).1 e1
              refine ⟨fun _ => ?_, fun h => absurd rfl h⟩
              simp [T.wt, wtL]; omega
            · rw [if_pos e1]; exact ⟨fun h => absurd h e1, fun _ => by simp [T.wt, wtL]⟩
          · by_cases h5 : 7 ≤ (c.toNat : Int) ∧ (c.toNat : Int) ≤ 14
            · rw [rdT_k2 h5]
              by_cases e1 : (rdT m r).2.2 = 0
              · rw [if_neg (by omega)]
                by_cases e2 : (rdT m (r.drop (rdT m r).2.1)).2.2 = 0
                · rw [if_neg (by omega)]
                  have a1 := (rdT_wt m r).1 e1
                  have a2 := (rdT_wt m (r.drop (rdT m r).2.1)).1 e2
                  refine ⟨fun _ => ?_, fun h => absurd rfl h⟩
                  simp [T.wt, wtL]; omega
                · rw [if_pos e2]; exact ⟨fun h => absurd h e2, fun _ => by simp [T.wt, wtL]⟩
              · rw [if_pos e1]; exact ⟨fun h => absurd h e1, fun _ => by simp [T.wt, wtL]⟩
            · rw [rdT_n (by omega)]; exact ⟨fun h => (by cases h), fun _ => by simp [T.wt, wtL]⟩
/-- No tree that is read weighs more than its bytes let it. -/
theorem rdT_most (b : List UInt8) : (rdT 16 b).1.wt ≤ 7 * b.length + 5 := by
  by_cases h : (rdT 16 b).2.2 = 0
  · have h1 := (rdT_wt 16 b).1 h
    have h2 := rdT_b 16 b h
    omega
  · have := (rdT_wt 16 b).2 h; omega
end Go.RxTree
