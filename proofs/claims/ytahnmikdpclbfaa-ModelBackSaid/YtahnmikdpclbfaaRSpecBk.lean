/- What is written is read again: each reader of what its writer writes, whatever is behind. -/
import Derived.Test.YtahnmikdpclbfaaRSpecS
set_option linter.unusedVariables false
set_option linter.unusedSimpArgs false
namespace Go.RxTree
open Go Go.Rx
theorem rdUG_back : ∀ (m n i acc : Nat) (r : List UInt8), n < 128 ^ (m + 1) → i ≤ 9 → n * 128 ^ i < 18446744073709551616 → (0 < i → 0 < n) → rdUG i acc (uintB n ++ r) = (acc + n * 128 ^ i, i + (uintB n).length, 0) := by
  have p9 : (128 : Nat) ^ 9 = 9223372036854775808 := by decide
  intro m
  induction m with
  | zero =>
    intro n i acc r hn hi hv hp
    have h128 : n < 128 := by simpa using hn
    rw [uintB_0 h128, List.singleton_append, rdUG]
    have hc : (UInt8.ofNat n).toNat = n := by rw [UInt8.toNat_ofNat']; omega
    rw [hc, if_neg (by rintro ⟨rfl, h⟩; rw [p9] at hv; omega), if_pos h128, if_neg (by omega), Nat.mod_eq_of_lt h128]
    rfl
  | succ m ih =>
    intro n i acc r hn hi hv hp
    by_cases h128 : n < 128
    · rw [uintB_0 h128, List.singleton_append, rdUG]
      have hc : (UInt8.ofNat n).toNat = n := by rw [UInt8.toNat_ofNat']; omega
      rw [hc, if_neg (by rintro ⟨rfl, h⟩; rw [p9] at hv; omega), if_pos h128, if_neg (by omega), Nat.mod_eq_of_lt h128]
      rfl
    · rw [uintB_1 h128, List.cons_append, rdUG]
      have hc : (UInt8.ofNat (n % 128 + 128)).toNat = n % 128 + 128 := by rw [UInt8.toNat_ofNat']; omega
      have hi9 : i ≠ 9 := by rintro rfl; rw [p9] at hv; omega
      have e1 : n * 128 ^ i = n / 128 * 128 ^ (i + 1) + n % 128 * 128 ^ i := by
        rw [Nat.pow_succ, Nat.mul_comm (128 ^ i) 128, ← Nat.mul_assoc, ← Nat.add_mul, Nat.mul_comm (n / 128) 128, Nat.div_add_mod]
      rw [hc, if_neg (by omega), if_neg (by omega), ih (n / 128) (i + 1) _ r (by rw [Nat.pow_succ] at hn; omega) (by omega) (by omega) (by omega)]
      have e2 : (n % 128 + 128) % 128 = n % 128 := by omega
      rw [e2, e1, List.length_cons]
      simp only [Prod.mk.injEq, and_true]
      omega
theorem rdU_back {n : Nat} (h : n < 18446744073709551616) (r : List UInt8) : rdU (uintB n ++ r) = (n, (uintB n).length, 0) := by
  unfold rdU
  rw [rdUG_back 9 n 0 0 r (by have : (128 : Nat) ^ (9 + 1) = 1180591620717411303424 := by decide
                              omega) (by omega) (by simpa using h) (by omega)]
  simp
theorem rdI_back {n : Int} (h0 : -9223372036854775808 ≤ n) (h1 : n ≤ 9223372036854775807) (r : List UInt8) : rdI (uintB (zig n) ++ r) = (n, (uintB (zig n)).length, 0) := by
  unfold rdI
  rw [rdU_back (zig_lt h0 h1), zag_zig]
theorem rdB_back {s : List UInt8} (h : s.length < 18446744073709551616) (r : List UInt8) : rdB (bytesB s ++ r) = (s, (bytesB s).length, 0) := by
  unfold rdB bytesB
  rw [List.append_assoc, rdU_back h]
  simp only [ne_eq, not_true, if_false]
  rw [if_neg (by simp)]
  have e1 : (uintB s.length ++ (s ++ r)).drop (uintB s.length).length = s ++ r := by simp
  rw [e1, List.take_append_of_le_length (Nat.le_refl _), List.take_length, List.length_append]
theorem kidsK_len {k n : Int} {l : List T} (h : nodeN k n l.length) (h3 : 3 ≤ k) : kidsK k = l.length := by
  obtain ⟨c2, c3, c4, c5, c6, c7, c8⟩ := h
  by_cases a : k ≤ 4
  · rw [kidsK_0 (by omega), c4 a]; rfl
  · by_cases b : k ≤ 6
    · rw [kidsK_1 (by omega), c5 (by omega)]; rfl
    · rw [kidsK_2 (by omega), c6 (by omega)]; rfl
theorem rdT_back : ∀ (m : Nat) (t : T) (r : List UInt8), t.Ok → checkT t (17 - (m : Int)) = 0 → rdT m (exprB t ++ r) = (t, (exprB t).length, 0) := by
  intro m
  induction m with
  | zero =>
    intro t r ho h
    obtain ⟨k, n, s, l⟩ := t
    exact absurd (checkT_inv h).1 (by omega)
  | succ m ih =>
    intro t r ho h
    obtain ⟨k, n, s, l⟩ := t
    obtain ⟨c1, hnode, c9, c10⟩ := checkT_inv h
    have hkl := fun h3 => kidsK_len hnode h3
    obtain ⟨c2, c3, c4, c5, c6, c7, c8⟩ := hnode
    obtain ⟨ho1, ho2, ho3, ho4, ho5⟩ := ho
    have hkc : ∀ x ∈ l, checkT x (17 - (m : Int)) = 0 := fun x hx => by have := checkL_mem c10 hx; rw [show (17 : Int) - ((m + 1 : Nat) : Int) + 1 = 17 - (m : Int) by omega] at this; exact this
    have hc : ((UInt8.ofNat k.toNat).toNat : Int) = k := by rw [UInt8.toNat_ofNat']; omega
    rw [exprB, List.cons_append]
    have hn := (wf_i64 (n := n)).1 ho2
    have hnot : k ≠ 2 → s = [] := fun h2 => by
      unfold textOk at c9
      simpa [h2] using c9
    by_cases k1 : k = 1
    · subst k1
      have hl : l = [] := List.eq_nil_of_length_eq_zero (c4 (by omega))
      have hs := hnot (by omega)
      subst hl hs
      rw [if_pos rfl, rdT_1 hc, rdI_back hn.1 hn.2]
      simp; omega
    have hn0 : n = 0 := by omega
    subst hn0
    by_cases k2 : k = 2
    · subst k2
      have hl : l = [] := List.eq_nil_of_length_eq_zero (c4 (by omega))
      subst hl
      have := name_len c9
      rw [if_neg (by omega), if_pos rfl, rdT_2 hc, rdB_back (by omega)]
      simp; omega
    have hs := hnot k2
    subst hs
    rw [if_neg k1, if_neg k2]
    by_cases k4 : k ≤ 4
    · have hl : l = [] := List.eq_nil_of_length_eq_zero (c4 k4)
      subst hl
      rw [rdT_k0 (by omega), hc, exprL]; rfl
    by_cases k6 : k ≤ 6
    · match l, c5 (by omega), ho5, hkc with
      | [x], _, ho5, hkc =>
        have hx := ih x r ho5.1 (hkc x (by simp))
        rw [rdT_k1 (by omega)]
        simp only [exprL, List.append_nil]
        rw [hx, hc]
        simp; omega
    · match l, c6 (by omega), ho5, hkc with
      | [x, y], _, ho5, hkc =>
        have hx := ih x (exprB y ++ r) ho5.1 (hkc x (by simp))
        have hy := ih y r ho5.2.1 (hkc y (by simp))
        rw [rdT_k2 (by omega)]
        simp only [exprL, List.append_nil, List.append_assoc]
        rw [hx]
        simp only [ne_eq, not_true, if_false, List.drop_left']
        rw [hy, hc]
        simp; omega
theorem rdX_back {t : T} (r : List UInt8) (ho : t.Ok) (h : checkT t 1 = 0) : rdX (exprB t ++ r) = (t, (exprB t).length, 0) := by
  have := rdT_back 16 t r ho (by simpa using h)
  rw [rdX_0 (by rw [this]) (by rw [this]; exact h), this]
theorem rdM_back {l : List T} (r : List UInt8) (ho : OkL l) (h : GoodL l) : rdM (maybeB l ++ r) = (l, (maybeB l).length, 0) := by
  obtain ⟨h1, h2⟩ := h
  match l, h1, ho, h2 with
  | [], _, _, _ => rfl
  | [x], _, ho, h2 =>
    have := rdX_back r ho.1 (h2 x (by simp))
    unfold maybeB
    rw [List.cons_append, rdM]
    have hc : (UInt8.ofNat [x].length).toNat = 1 := rfl
    rw [hc, if_neg (by omega), if_neg (by omega)]
    simp only [exprL, List.append_nil]
    rw [this]
    simp; omega
theorem sN_back {most n : Nat} (h : n ≤ most) (hm : most < 18446744073709551616) (r : List UInt8) : sN most (uintB n ++ r, 0) = (n, (r, 0)) := by
  have e := rdU_back (n := n) (by omega) r
  unfold sN rdN nx rest
  simp only [e, ne_eq, not_true, if_false, if_true]
  rw [if_neg (by omega)]
  simp
theorem sT_back {s : List UInt8} (h : s.length < 18446744073709551616) (r : List UInt8) : sT (bytesB s ++ r, 0) = (s, (r, 0)) := by
  unfold sT nx rest
  simp only [rdB_back h r, ne_eq, not_true, if_false, if_true]
  simp
theorem sO_back {n : Nat} (h : n < 256) (r : List UInt8) : sO (UInt8.ofNat n :: r, 0) = (n, (r, 0)) := by
  unfold sO nx rest rdO
  simp only [ne_eq, not_true, if_false, if_true]
  rw [UInt8.toNat_ofNat', Nat.mod_eq_of_lt (by omega)]
  simp
theorem sM_back {l : List T} (r : List UInt8) (ho : OkL l) (h : GoodL l) : sM (maybeB l ++ r, 0) = (l, (r, 0)) := by
  unfold sM nx rest
  simp only [rdM_back r ho h, ne_eq, not_true, if_false, if_true]
  simp
theorem sFlow_back {n : Int} {f : FlowT} (hn : n ≤ 4096) (r : List UInt8) (ho : f.Ok) (h : GoodF n f) : sFlow (flowB f ++ r, 0) = (f, (r, 0)) := by
  have ht := h.to
  unfold sFlow flowB
  rw [List.append_assoc, sN_back (by omega) (by omega)]
  simp only []
  rw [sM_back r ho.2.2 h.iff]
  obtain ⟨to, iff⟩ := f
  simp only [] at ht ⊢
  rw [show ((to.toNat : Nat) : Int) = to by omega]
theorem sFlows_back {n : Int} (hn : n ≤ 4096) : ∀ (l : List FlowT) (r : List UInt8), (∀ f ∈ l, f.Ok) → (∀ f ∈ l, GoodF n f) → sFlows l.length (flowsB l ++ r, 0) = (l, (r, 0))
  | [], r, _, _ => rfl
  | f :: l, r, ho, h => by
    rw [List.length_cons, sFlows, if_neg (by simp)]
    unfold flowsB
    rw [List.flatMap_cons, List.append_assoc, sFlow_back hn _ (ho f (by simp)) (h f (by simp))]
    have := sFlows_back hn l r (fun g hg => ho g (by simp [hg])) (fun g hg => h g (by simp [hg]))
    unfold flowsB at this
    rw [this]
theorem sPlace_back {n : Int} {p : PlaceT} (hn : n ≤ 4096) (r : List UInt8) (ho : p.Ok) (h : GoodP n p) : sPlace (placeB p ++ r, 0) = (p, (r, 0)) := by
  obtain ⟨h1, h2, h3, h4, h5, h6⟩ := h
  have e1 : sP1 (placeB p ++ r, 0) = (p.kind.toNat, ((bytesB p.name ++ (uintB p.n.toNat ++ (maybeB p.arg ++ (uintB p.out.length ++ flowsB p.out)))) ++ r, 0)) := by
    unfold sP1 placeB
    rw [List.cons_append, sO_back (by omega)]
  have e2 : sP2 (placeB p ++ r, 0) = (p.name, ((uintB p.n.toNat ++ (maybeB p.arg ++ (uintB p.out.length ++ flowsB p.out))) ++ r, 0)) := by
    unfold sP2; rw [e1]; simp only []; rw [List.append_assoc, sT_back (by omega)]
  have e3 : sP3 (placeB p ++ r, 0) = (p.n.toNat, ((maybeB p.arg ++ (uintB p.out.length ++ flowsB p.out)) ++ r, 0)) := by
    unfold sP3; rw [e2]; simp only []; rw [List.append_assoc, sN_back (by omega) (by omega)]
  have e4 : sP4 (placeB p ++ r, 0) = (p.arg, ((uintB p.out.length ++ flowsB p.out) ++ r, 0)) := by
    unfold sP4; rw [e3]; simp only []; rw [List.append_assoc, sM_back _ ho.2.2.2.2.1 h4]
  have e5 : sP5 (placeB p ++ r, 0) = (p.out.length, (flowsB p.out ++ r, 0)) := by
    unfold sP5; rw [e4]; simp only []; rw [List.append_assoc, sN_back (by omega) (by omega)]
  have e6 : sP6 (placeB p ++ r, 0) = (p.out, (r, 0)) := by
    unfold sP6; rw [e5]; simp only []; exact sFlows_back hn p.out r ho.2.2.2.2.2.2 h6
  unfold sPlace
  rw [e1, e2, e3, e4, e6]
  obtain ⟨k, nm, nn, ar, ou⟩ := p
  simp only [] at h1 h3 ⊢
  rw [show ((k.toNat : Nat) : Int) = k by omega, show ((nn.toNat : Nat) : Int) = nn by omega]
theorem sPlaces_back {n : Int} (hn : n ≤ 4096) : ∀ (l : List PlaceT) (r : List UInt8), (∀ p ∈ l, p.Ok) → (∀ p ∈ l, GoodP n p) → sPlaces l.length (placesB l ++ r, 0) = (l, (r, 0))
  | [], r, _, _ => rfl
  | f :: l, r, ho, h => by
    rw [List.length_cons, sPlaces, if_neg (by simp)]
    unfold placesB
    rw [List.flatMap_cons, List.append_assoc, sPlace_back hn _ (ho f (by simp)) (h f (by simp))]
    have := sPlaces_back hn l r (fun g hg => ho g (by simp [hg])) (fun g hg => h g (by simp [hg]))
    unfold placesB at this
    rw [this]
theorem sDef_back {d : DefT} (r : List UInt8) (ho : d.Ok) (h : checkD d = 0) : sDef (defB d ++ r) = d ∧ (sD3 (defB d ++ r)).2 = (r, 0) := by
  obtain ⟨h1, h2, h3, h4⟩ := check_good h
  have e1 : sD1 (defB d ++ r) = (d.id, ((uintB d.places.length ++ placesB d.places) ++ r, 0)) := by
    unfold sD1 defB; rw [List.append_assoc, sT_back (by omega)]
  have e2 : sD2 (defB d ++ r) = (d.places.length, (placesB d.places ++ r, 0)) := by
    unfold sD2; rw [e1]; simp only []; rw [List.append_assoc, sN_back (by omega) (by omega)]
  have e3 : sD3 (defB d ++ r) = (d.places, (r, 0)) := by
    unfold sD3; rw [e2]; exact sPlaces_back (n := d.places.length) (by omega) d.places r ho.2.2 h4
  refine ⟨?_, by rw [e3]⟩
  unfold sDef
  rw [e1, e3]
/-- A definition's bytes are read as it. -/
theorem readD_back {d : DefT} (ho : d.Ok) (h : checkD d = 0) : readD (defB d) = (d, 0) := by
  obtain ⟨h1, h2⟩ := sDef_back [] ho h
  rw [List.append_nil] at h1 h2
  rw [readD_0 (by rw [h2]) (by rw [h2]; simp) (by rw [h1]; exact h), h1]
/-- With more behind they are none. -/
theorem readD_more {d : DefT} {r : List UInt8} (ho : d.Ok) (h : checkD d = 0) (hr : r ≠ []) : readD (defB d ++ r) = (D0, 3) := by
  obtain ⟨h1, h2⟩ := sDef_back r ho h
  refine readD_3 (by rw [h2]) (by rw [h2]; exact List.length_pos_iff.2 hr)
/-- Cut short they are none. -/
theorem readD_cut {d : DefT} {k : Nat} (ho : d.Ok) (h : checkD d = 0) (hk : k < (defB d).length) (hl : (defB d).length ≤ 140737488351232) : (readD ((defB d).take k)).2 ≠ 0 := by
  intro h0
  obtain ⟨e1, e2⟩ := readD_once h0
  have hok := (readD_ok ((defB d).take k) (by rw [List.length_take]; omega)).1
  generalize (readD ((defB d).take k)).1 = d' at *
  have e3 : defB d = defB d' ++ (defB d).drop k := by rw [← e1, List.take_append_drop]
  have hne : (defB d).drop k ≠ [] := by intro h1; have := congrArg List.length h1; rw [List.length_drop] at this; simp at this; omega
  have e4 := readD_more hok e2 hne
  rw [← e3, readD_back ho h] at e4
  injection e4 with _ e4
  cases e4
end Go.RxTree
