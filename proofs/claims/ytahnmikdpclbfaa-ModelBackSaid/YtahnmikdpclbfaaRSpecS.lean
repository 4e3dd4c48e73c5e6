/- What is read was written in just that way. -/
import Derived.Test.YtahnmikdpclbfaaRSpecR
set_option linter.unusedVariables false
set_option linter.unusedSimpArgs false
namespace Go.RxTree
open Go Go.Rx
theorem u8_nat (c : UInt8) : UInt8.ofNat c.toNat = c := by simp
theorem rdUG_once : ∀ (b : List UInt8) (i acc n k : Nat), rdUG i acc b = (n, k, 0) → ∃ q r, n = acc + q * 128 ^ i ∧ k = i + (uintB q).length ∧ b = uintB q ++ r ∧ (0 < i → 0 < q)
  | [], i, acc, n, k, h => by simp [rdUG] at h
  | c :: r, i, acc, n, k, h => by
    have hc := c.toNat_lt
    rw [rdUG] at h
    by_cases h1 : i = 9 ∧ 1 < c.toNat
    · rw [if_pos h1] at h; simp at h
    · rw [if_neg h1] at h
      by_cases h2 : c.toNat < 128
      · rw [if_pos h2] at h
        by_cases h3 : c.toNat = 0 ∧ 0 < i
        · rw [if_pos h3] at h; simp at h
        · rw [if_neg h3] at h
          simp only [Prod.mk.injEq] at h
          refine ⟨c.toNat, r, ?_, ?_, ?_, fun hi => by omega⟩
          · rw [← h.1, Nat.mod_eq_of_lt h2]
          · rw [uintB_0 h2]; simp; omega
          · rw [uintB_0 h2, u8_nat]; rfl
      · rw [if_neg h2] at h
        obtain ⟨q, r', e1, e2, e3, e4⟩ := rdUG_once r (i + 1) _ n k h
        have hq := e4 (by omega)
        have hlt : ¬ c.toNat % 128 + 128 * q < 128 := by omega
        refine ⟨c.toNat % 128 + 128 * q, r', ?_, ?_, ?_, fun _ => by omega⟩
        · rw [e1, Nat.pow_succ, Nat.add_mul, Nat.mul_comm 128 q, Nat.mul_assoc q 128, Nat.mul_comm 128]; omega
        · rw [uintB_1 hlt, List.length_cons, show (c.toNat % 128 + 128 * q) / 128 = q by omega]; omega
        · rw [uintB_1 hlt, show (c.toNat % 128 + 128 * q) / 128 = q by omega, show (c.toNat % 128 + 128 * q) % 128 + 128 = c.toNat by omega, u8_nat, List.cons_append, ← e3]
theorem rdU_once {b : List UInt8} {n k : Nat} (h : rdU b = (n, k, 0)) : b = uintB n ++ b.drop k := by
  obtain ⟨q, r, e1, e2, e3, _⟩ := rdUG_once b 0 0 n k h
  simp only [Nat.pow_zero, Nat.mul_one, Nat.zero_add] at e1 e2
  subst e1 e2
  conv => lhs; rw [e3]
  rw [e3, List.drop_left]
theorem rdI_once {b : List UInt8} {n : Int} {k : Nat} (h : rdI b = (n, k, 0)) : b = uintB (zig n) ++ b.drop k := by
  unfold rdI at h
  simp only [Prod.mk.injEq] at h
  rw [← h.1, zig_zag]
  exact rdU_once (Prod.ext rfl (Prod.ext h.2.1 h.2.2))
theorem rdB_once {b : List UInt8} {s : List UInt8} {k : Nat} (h : rdB b = (s, k, 0)) : b = bytesB s ++ b.drop k := by
  unfold rdB at h
  generalize hr : rdU b = r at *
  obtain ⟨n, q, e⟩ := r
  dsimp only at h
  by_cases h1 : e = 0
  · subst h1
    rw [if_neg (by omega)] at h
    by_cases h2 : b.length - q < n
    · rw [if_pos h2] at h; simp at h
    · rw [if_neg h2] at h
      simp only [Prod.mk.injEq] at h
      have h3 := rdU_once hr
      have hl : s.length = n := by rw [← h.1, List.length_take, List.length_drop]; omega
      have hq := ((rdU_b b).1 (by rw [hr])).1
      rw [hr] at hq
      dsimp only at hq
      rw [bytesB, hl, ← h.1, ← h.2.1, List.append_assoc]
      have : (b.drop q).take n ++ b.drop (q + n) = b.drop q := by rw [← List.drop_drop]; exact List.take_append_drop ..
      rw [this]; exact h3
  · rw [if_pos h1] at h
    simp only [Prod.mk.injEq] at h
    exact absurd h.2.2 h1
theorem rdT_once : ∀ (m : Nat) (b : List UInt8) (t : T) (k : Nat), rdT m b = (t, k, 0) → b = exprB t ++ b.drop k
  | 0, b, t, k, h => by rw [rdT_0] at h; simp at h
  | m + 1, [], t, k, h => by rw [rdT_nil] at h; simp at h
  | m + 1, c :: r, t, k, h => by
    have hcz : ∀ z : Int, (c.toNat : Int) = z → UInt8.ofNat z.toNat = c := fun z hz => by subst hz; simp
    by_cases h1 : (c.toNat : Int) = 1
    · rw [rdT_1 h1] at h
      simp only [Prod.mk.injEq] at h
      obtain ⟨rfl, rfl, h3⟩ := h
      have := rdI_once (b := r) (n := (rdI r).1) (k := (rdI r).2.1) (Prod.ext rfl (Prod.ext rfl h3))
      rw [exprB, if_pos rfl, hcz 1 h1, Nat.add_comm 1, List.drop_succ_cons, List.cons_append, ← this]
    · by_cases h2 : (c.toNat : Int) = 2
      · rw [rdT_2 h2] at h
        simp only [Prod.mk.injEq] at h
        obtain ⟨rfl, rfl, h3⟩ := h
        have := rdB_once (b := r) (s := (rdB r).1) (k := (rdB r).2.1) (Prod.ext rfl (Prod.ext rfl h3))
        rw [exprB, if_neg (by decide), if_pos rfl, hcz 2 h2, Nat.add_comm 1, List.drop_succ_cons, List.cons_append, ← this]
      · have hkB : ∀ l, exprB (.mk (c.toNat : Int) 0 [] l) = c :: exprL l := fun l => by rw [exprB, if_neg h1, if_neg h2, hcz _ rfl]
        by_cases h3 : (c.toNat : Int) = 3 ∨ (c.toNat : Int) = 4
        · rw [rdT_k0 h3] at h
          simp only [Prod.mk.injEq] at h
          obtain ⟨rfl, rfl, _⟩ := h
          rw [hkB]; rfl
        · by_cases h4 : (c.toNat : Int) = 5 ∨ (c.toNat : Int) = 6
          · rw [rdT_k1 h4] at h
            by_cases e1 : (rdT m r).2.2 = 0
            · rw [if_neg (by omega)] at h
              simp only [Prod.mk.injEq] at h
              obtain ⟨rfl, rfl, _⟩ := h
              have := rdT_once m r (rdT m r).1 (rdT m r).2.1 (Prod.ext rfl (Prod.ext rfl e1))
              rw [hkB, Nat.add_comm 1, List.drop_succ_cons, List.cons_append, exprL, exprL, List.append_nil, ← this]
            · rw [if_pos e1] at h
              simp only [Prod.mk.injEq] at h
              exact absurd h.2.2 e1
          · by_cases h5 : 7 ≤ (c.toNat : Int) ∧ (c.toNat : Int) ≤ 14
            · rw [rdT_k2 h5] at h
              by_cases e1 : (rdT m r).2.2 = 0
              · rw [if_neg (by omega)] at h
                by_cases e2 : (rdT m (r.drop (rdT m r).2.1)).2.2 = 0
                · rw [if_neg (by omega)] at h
                  simp only [Prod.mk.injEq] at h
                  obtain ⟨rfl, rfl, _⟩ := h
                  have a1 := rdT_once m r (rdT m r).1 (rdT m r).2.1 (Prod.ext rfl (Prod.ext rfl e1))
                  have a2 := rdT_once m (r.drop (rdT m r).2.1) (rdT m (r.drop (rdT m r).2.1)).1 (rdT m (r.drop (rdT m r).2.1)).2.1 (Prod.ext rfl (Prod.ext rfl e2))
                  rw [hkB, show 1 + (rdT m r).2.1 + (rdT m (r.drop (rdT m r).2.1)).2.1 = ((rdT m r).2.1 + (rdT m (r.drop (rdT m r).2.1)).2.1) + 1 by omega, List.drop_succ_cons, List.cons_append, exprL, exprL, exprL, List.append_nil, List.append_assoc, ← List.drop_drop, ← a2, ← a1]
                · rw [if_pos e2] at h
                  simp only [Prod.mk.injEq] at h
                  exact absurd h.2.2 e2
              · rw [if_pos e1] at h
                simp only [Prod.mk.injEq] at h
                exact absurd h.2.2 e1
            · rw [rdT_n (by omega)] at h; simp at h
theorem rdM_once {b : List UInt8} {l : List T} {k : Nat} (h : rdM b = (l, k, 0)) : b = maybeB l ++ b.drop k := by
  cases b with
  | nil => simp [rdM] at h
  | cons c r =>
    rw [rdM] at h
    by_cases h1 : c.toNat = 0
    · rw [if_pos h1] at h
      simp only [Prod.mk.injEq] at h
      obtain ⟨rfl, rfl, _⟩ := h
      have hc : UInt8.ofNat 0 = c := by rw [← h1, u8_nat]
      show c :: r = (UInt8.ofNat 0 :: exprL []) ++ r
      rw [hc]; rfl
    · rw [if_neg h1] at h
      by_cases h2 : 1 < c.toNat
      · rw [if_pos h2] at h; simp at h
      · rw [if_neg h2] at h
        simp only [Prod.mk.injEq] at h
        obtain ⟨rfl, rfl, h3⟩ := h
        obtain ⟨_, _, _, h4, h5⟩ := (rdX_b r).1 h3
        rw [h5]
        have := rdT_once 16 r (rdT 16 r).1 (rdT 16 r).2.1 (Prod.ext rfl (Prod.ext rfl h4))
        have hc : UInt8.ofNat 1 = c := by rw [show (1 : Nat) = c.toNat by omega, u8_nat]
        show c :: r = (UInt8.ofNat 1 :: exprL [(rdT 16 r).1]) ++ _
        rw [hc, Nat.add_comm 1, List.drop_succ_cons, List.cons_append, exprL, exprL, List.append_nil, ← this]
/-- A step that ends well was on bytes that were well, and took what was written. -/
theorem sN_once {most : Nat} {s : Sg} (h : (sN most s).2.2 = 0) : s.2 = 0 ∧ s.1 = uintB (sN most s).1 ++ (sN most s).2.1 := by
  unfold sN at *
  by_cases h1 : s.2 = 0
  · rw [if_neg (by omega)] at h ⊢
    have h2 : (rdN most s.1).2.2 = 0 := h
    have h3 := (rdN_b most s.1).1 h2
    refine ⟨h1, ?_⟩
    show s.1 = uintB (rdN most s.1).1 ++ rest s.1 (rdN most s.1).2.1 (rdN most s.1).2.2
    rw [h2, rest_0]
    exact rdU_once (h3.2.2.1 ▸ Prod.ext rfl (Prod.ext rfl h2))
  · rw [if_pos h1] at h; exact absurd h h1
theorem sT_once {s : Sg} (h : (sT s).2.2 = 0) : s.2 = 0 ∧ s.1 = bytesB (sT s).1 ++ (sT s).2.1 := by
  unfold sT at *
  by_cases h1 : s.2 = 0
  · rw [if_neg (by omega)] at h ⊢
    have h2 : (rdB s.1).2.2 = 0 := h
    refine ⟨h1, ?_⟩
    show s.1 = bytesB (rdB s.1).1 ++ rest s.1 (rdB s.1).2.1 (rdB s.1).2.2
    rw [h2, rest_0]
    exact rdB_once (Prod.ext rfl (Prod.ext rfl h2))
  · rw [if_pos h1] at h; exact absurd h h1
theorem sO_once {s : Sg} (h : (sO s).2.2 = 0) : s.2 = 0 ∧ s.1 = UInt8.ofNat (sO s).1 :: (sO s).2.1 := by
  unfold sO at *
  by_cases h1 : s.2 = 0
  · rw [if_neg (by omega)] at h ⊢
    refine ⟨h1, ?_⟩
    generalize s.1 = b at *
    cases b with
    | nil => cases h
    | cons c r =>
      show c :: r = UInt8.ofNat c.toNat :: r
      rw [u8_nat]
  · rw [if_pos h1] at h; exact absurd h h1
theorem sM_once {s : Sg} (h : (sM s).2.2 = 0) : s.2 = 0 ∧ s.1 = maybeB (sM s).1 ++ (sM s).2.1 := by
  unfold sM at *
  by_cases h1 : s.2 = 0
  · rw [if_neg (by omega)] at h ⊢
    have h2 : (rdM s.1).2.2 = 0 := h
    refine ⟨h1, ?_⟩
    show s.1 = maybeB (rdM s.1).1 ++ rest s.1 (rdM s.1).2.1 (rdM s.1).2.2
    rw [h2, rest_0]
    exact rdM_once (Prod.ext rfl (Prod.ext rfl h2))
  · rw [if_pos h1] at h; exact absurd h h1
theorem sFlow_once {s : Sg} (h : (sFlow s).2.2 = 0) : s.2 = 0 ∧ s.1 = flowB (sFlow s).1 ++ (sFlow s).2.1 := by
  obtain ⟨a1, a2⟩ := sM_once (s := (sN 4096 s).2) h
  obtain ⟨b1, b2⟩ := sN_once (s := s) a1
  refine ⟨b1, ?_⟩
  rw [b2, a2]
  show _ = (uintB ((sN 4096 s).1 : Int).toNat ++ maybeB (sM (sN 4096 s).2).1) ++ _
  rw [Int.toNat_natCast, List.append_assoc]
  rfl
theorem sFlows_1x (n : Nat) {s : Sg} (h : s.2 = 0) : sFlows (n + 1) s = ((sFlow s).1 :: (sFlows n (sFlow s).2).1, (sFlows n (sFlow s).2).2) := by
  rw [sFlows, if_neg (by omega)]
theorem sFlows_once : ∀ (n : Nat) {s : Sg}, (sFlows n s).2.2 = 0 → s.2 = 0 ∧ s.1 = flowsB (sFlows n s).1 ++ (sFlows n s).2.1 ∧ (sFlows n s).1.length = n
  | 0, s, h => ⟨h, rfl, rfl⟩
  | n + 1, s, h => by
    by_cases h1 : s.2 = 0
    · rw [sFlows_1x n h1] at h ⊢
      obtain ⟨a1, a2, a3⟩ := sFlows_once n h
      obtain ⟨b1, b2⟩ := sFlow_once a1
      refine ⟨h1, ?_, by simp [a3]⟩
      rw [b2]
      conv => lhs; rw [a2]
      show _ = (flowB (sFlow s).1 ++ flowsB _) ++ _
      rw [List.append_assoc]
    · rw [sFlows, if_pos h1] at h; exact absurd h h1
theorem sPlace_once {s : Sg} (h : (sPlace s).2.2 = 0) : s.2 = 0 ∧ s.1 = placeB (sPlace s).1 ++ (sPlace s).2.1 := by
  obtain ⟨f1, f2, f3⟩ := sFlows_once (sN 16 (sM (sN 9 (sT (sO s).2).2).2).2).1 (s := (sN 16 (sM (sN 9 (sT (sO s).2).2).2).2).2) h
  obtain ⟨e1, e2⟩ := sN_once f1
  obtain ⟨d1, d2⟩ := sM_once e1
  obtain ⟨c1, c2⟩ := sN_once d1
  obtain ⟨b1, b2⟩ := sT_once c1
  obtain ⟨a1, a2⟩ := sO_once b1
  refine ⟨a1, ?_⟩
  have hP : (sPlace s) = (⟨(sO s).1, (sT (sO s).2).1, (sN 9 (sT (sO s).2).2).1, (sM (sN 9 (sT (sO s).2).2).2).1, (sFlows (sN 16 (sM (sN 9 (sT (sO s).2).2).2).2).1 (sN 16 (sM (sN 9 (sT (sO s).2).2).2).2).2).1⟩, (sFlows (sN 16 (sM (sN 9 (sT (sO s).2).2).2).2).1 (sN 16 (sM (sN 9 (sT (sO s).2).2).2).2).2).2) := rfl
  rw [hP, placeB]
  dsimp only
  rw [f3, Int.toNat_natCast, Int.toNat_natCast, List.cons_append, List.append_assoc, List.append_assoc, List.append_assoc, List.append_assoc, ← f2, ← e2, ← d2, ← c2, ← b2, ← a2]
theorem sPlaces_once : ∀ (n : Nat) {s : Sg}, (sPlaces n s).2.2 = 0 → s.2 = 0 ∧ s.1 = placesB (sPlaces n s).1 ++ (sPlaces n s).2.1 ∧ (sPlaces n s).1.length = n
  | 0, s, h => ⟨h, rfl, rfl⟩
  | n + 1, s, h => by
    by_cases h1 : s.2 = 0
    · rw [sPlaces_1 n h1] at h ⊢
      obtain ⟨a1, a2, a3⟩ := sPlaces_once n h
      obtain ⟨b1, b2⟩ := sPlace_once a1
      refine ⟨h1, ?_, by simp [a3]⟩
      rw [b2]
      conv => lhs; rw [a2]
      show _ = (placeB (sPlace s).1 ++ placesB _) ++ _
      rw [List.append_assoc]
    · rw [sPlaces_e _ h1] at h; exact absurd h h1
/-- Bytes that are read well are the definition's own, and what is behind. -/
theorem sDef_once {b : List UInt8} (h : (sD3 b).2.2 = 0) : b = defB (sDef b) ++ (sD3 b).2.1 := by
  obtain ⟨c1, c2, c3⟩ := sPlaces_once (sD2 b).1 (s := (sD2 b).2) h
  obtain ⟨b1, b2⟩ := sN_once (s := (sD1 b).2) c1
  obtain ⟨a1, a2⟩ := sT_once (s := (b, 0)) b1
  have hD : sDef b = ⟨(sD1 b).1, (sD3 b).1⟩ := rfl
  rw [hD, defB]
  dsimp only
  have e3 : (sD3 b).1.length = (sD2 b).1 := c3
  have e2 : (sD2 b).2.1 = placesB (sD3 b).1 ++ (sD3 b).2.1 := c2
  have e1 : (sD1 b).2.1 = uintB (sD2 b).1 ++ (sD2 b).2.1 := b2
  have e0 : b = bytesB (sD1 b).1 ++ (sD1 b).2.1 := a2
  rw [e3, List.append_assoc, List.append_assoc, ← e2, ← e1]; exact e0
theorem readD_once {b : List UInt8} (h : (readD b).2 = 0) : b = defB (readD b).1 ∧ checkD (readD b).1 = 0 := by
  by_cases h1 : (sD3 b).2.2 = 0
  · by_cases h2 : 0 < (sD3 b).2.1.length
    · rw [readD_3 h1 h2] at h; cases h
    · by_cases h3 : checkD (sDef b) = 0
      · rw [readD_0 h1 h2 h3]
        refine ⟨?_, h3⟩
        have := sDef_once h1
        rw [List.eq_nil_of_length_eq_zero (l := (sD3 b).2.1) (by omega), List.append_nil] at this
        exact this
      · rw [readD_c h1 h2 h3] at h; exact absurd h h3
  · rw [readD_e h1] at h; exact absurd h h1
theorem readD_D0 {b : List UInt8} (h : (readD b).2 ≠ 0) : (readD b).1 = D0 := by
  by_cases h1 : (sD3 b).2.2 = 0
  · by_cases h2 : 0 < (sD3 b).2.1.length
    · rw [readD_3 h1 h2]
    · by_cases h3 : checkD (sDef b) = 0
      · rw [readD_0 h1 h2 h3] at h; exact absurd rfl h
      · rw [readD_c h1 h2 h3]
  · rw [readD_e h1]
end Go.RxTree
