/- LexNumbers: any number from 0 on, written in its digits, with noughts ahead or none, is read as it. -/
import Derived.Test.YtfcndngnoognmaaLexSplitEvLexNumbers
namespace Go.Proofs.Ytfcndngnoognmaa.Pure
open Go.RowKit Go.Proofs.Ytfcndngnoognmaa.Lx Go.Proofs.Ytfcndngnoognmaa.PLexNumbers Go.Proofs.YtfcndngnoognmaaW.PrintWords Go.Proofs.YtfcndngnoognmaaW.PrintLast Go.Proofs.YtfcndngnoognmaaW.PrintMore
set_option linter.unusedVariables false
set_option linter.unusedSimpArgs false

def allDig (l : List UInt8) : Prop := ∀ c ∈ l, dig c = true
theorem tw_all {l : List UInt8} (h : allDig l) : l.takeWhile dig = l ∧ l.dropWhile dig = [] := by
  induction l with
  | nil => exact ⟨rfl, rfl⟩
  | cons c r ih =>
    have hc := h c (by simp)
    obtain ⟨a, b⟩ := ih (fun x hx => h x (by simp [hx]))
    exact ⟨by simp [hc, a], by simp [hc, b]⟩
theorem lexB_dig {l : List UInt8} (h : allDig l) (hne : l ≠ []) (hv : valF 0 l < 9223372036854775808) (p : Nat) : lexB l p = .ok [⟨1, [], (valF 0 l : Nat), p⟩] := by
  cases l with
  | nil => exact absurd rfl hne
  | cons c r =>
    have hc := h c (by simp)
    have hcd := dig_iff.1 hc
    obtain ⟨a, b⟩ := tw_all (l := r) (fun x hx => h x (by simp [hx]))
    have e : valF 0 (c :: r) = valF (c.toNat - 48) r := by show valF (0 * 10 + (c.toNat - 48)) r = _; rw [Nat.zero_mul, Nat.zero_add]
    rw [e] at hv
    rw [lexB, if_neg (by omega), if_pos hc, a, b, if_neg (by omega), if_neg (by simp), lexB, e]
    rfl

/-- A byte of a digit. -/
theorem digit_byte (x : Int) (h0 : 0 ≤ x) (hx : x < 9223372036854775808) : ∃ c : UInt8, strOfNums [(wrap64 (48 + (Int.tmod x 10))) % 256] = ⟨#[c]⟩ ∧ dig c = true ∧ ((c.toNat - 48 : Nat) : Int) = x % 10 := by
  have hm : Int.tmod x 10 = x % 10 := Int.tmod_eq_emod_of_nonneg h0
  have e : (wrap64 (48 + (Int.tmod x 10))) % 256 = 48 + x % 10 := by
    rw [hm, wr (by omega) (by omega)]; omega
  refine ⟨UInt8.ofNat (48 + x % 10).toNat, ?_, ?_, ?_⟩
  · rw [e]; rfl
  · rw [dig_iff, UInt8.toNat_ofNat']; omega
  · rw [UInt8.toNat_ofNat']; omega

theorem noughts_ev (n z : Int) (hz : 0 ≤ z) (hz2 : z < 256) (hn : 0 ≤ n) (hn2 : n < 9223372036854775808) : ∀ (d i : Nat) (s : ByteArray), (i : Int) + d = Int.tmod z 20 → s.size ≤ 20 + i → allDig (bs s) → bs s ≠ [] → ((valF 0 (bs s) : Nat) : Int) = n →
    Ev (fun k => funicularlaw06_LexNumbers.l1 k n z s (i : Int)) true := by
  have hzz : wrap64 z = z := wr (by omega) (by omega)
  have hmod : Int.tmod z 20 = z % 20 := Int.tmod_eq_emod_of_nonneg hz
  intro d
  induction d with
  | zero =>
    intro i s hi hs hd hne hv
    apply Ev.next
    simp only [funicularlaw06_LexNumbers.l1]
    rw [hzz]
    refine Ev.no (by omega) (Ev.bind (split_ev s) ?_)
    have e : lexS (bs s) = .ok [⟨1, [], n, 0⟩] := by
      unfold lexS
      rw [if_neg (by rw [bs_len]; omega), lexB_dig hd hne (by omega), hv]
      rfl
    rw [e]
    simp only [out, List.map_cons, List.map_nil, List.nil_append]
    have e2 : rd_T32 [toS ⟨1, [], n, 0⟩] 0 = toS ⟨1, [], n, 0⟩ := rfl
    rw [e2]
    exact Ev.yes trivial (Ev.yes rfl (Ev.yes (by simp) (Ev.yes rfl (Ev.yes rfl works_then))))
  | succ d ih =>
    intro i s hi hs hd hne hv
    apply Ev.next
    simp only [funicularlaw06_LexNumbers.l1]
    rw [hzz]
    refine Ev.yes (by omega) (Ev.yes (by omega) ?_)
    have e : bs ((⟨#[48]⟩ : ByteArray) ++ s) = 48 :: bs s := by rw [bs_append]; rfl
    rw [wr (by omega) (by omega), show (i : Int) + 1 = ((i + 1 : Nat) : Int) from by omega]
    refine ih (i + 1) _ (by omega) ?_ ?_ ?_ ?_
    · rw [ByteArray.size_append, show (⟨#[48]⟩ : ByteArray).size = 1 from rfl]; omega
    · rw [e]
      intro c hc
      rcases List.mem_cons.1 hc with rfl | hc
      · rfl
      · exact hd c hc
    · rw [e]; simp
    · rw [e]; exact hv

theorem valF_split (n : Nat) (l : List UInt8) : valF n l = n * 10 ^ l.length + valF 0 l := by
  induction l generalizing n with
  | nil => rw [List.length_nil, Nat.pow_zero, Nat.mul_one]; rfl
  | cons c r ih =>
    show valF (n * 10 + (c.toNat - 48)) r = n * 10 ^ (r.length + 1) + valF (0 * 10 + (c.toNat - 48)) r
    rw [ih, ih (0 * 10 + (c.toNat - 48)), Nat.pow_succ, Nat.zero_mul, Nat.zero_add, Nat.add_mul, Nat.add_assoc, Nat.mul_assoc, Nat.mul_comm 10]

theorem digits_ev (n z : Int) (hz : 0 ≤ z) (hz2 : z < 256) (hn : 0 ≤ n) (hn2 : n < 9223372036854775808) : ∀ (d : Nat) (x : Nat) (s : ByteArray), x < 10 ^ d → s.size + d ≤ 19 → allDig (bs s) → ((x * 10 ^ s.size + valF 0 (bs s) : Nat) : Int) = n →
    Ev (fun k => funicularlaw06_LexNumbers.l0 k n z s (x : Int)) true := by
  have step : ∀ (x : Nat) (s : ByteArray), (x : Int) ≤ n → s.size ≤ 19 → allDig (bs s) → ((x * 10 ^ s.size + valF 0 (bs s) : Nat) : Int) = n →
      (∀ s' : ByteArray, s'.size = s.size + 1 → allDig (bs s') → bs s' ≠ [] → ((x / 10 * 10 ^ s'.size + valF 0 (bs s') : Nat) : Int) = n → Ev (fun k => funicularlaw06_LexNumbers.l0 k n z s' ((x / 10 : Nat) : Int)) true) →
      Ev (fun k => (some (([(wrap64 (48 + (Int.tmod (x : Int) 10))) % 256] : List Int) : List Int)).bind fun y146 => (if (strOfNums y146).size + s.size ≤ 9223372036854775807 then (funicularlaw06_LexNumbers.l0 k n z ((strOfNums y146) ++ s) (wrap64 (Int.tdiv (x : Int) 10))) else (none))) true := by
    intro x s hx hs hd hv hgo
    simp only [Option.bind_some]
    obtain ⟨c, h1, h2, h3⟩ := digit_byte (x : Int) (by omega) (by omega)
    rw [h1]
    have h4 : (⟨#[c]⟩ : ByteArray).size = 1 := rfl
    refine Ev.yes (by omega) ?_
    have e : bs ((⟨#[c]⟩ : ByteArray) ++ s) = c :: bs s := by rw [bs_append]; rfl
    rw [show Int.tdiv (x : Int) 10 = ((x / 10 : Nat) : Int) from by rw [Int.tdiv_eq_ediv_of_nonneg (by omega)]; omega, wr (by omega) (by omega)]
    refine hgo _ (by rw [ByteArray.size_append, h4]; omega) ?_ (by rw [e]; simp) ?_
    · rw [e]
      intro y hy
      rcases List.mem_cons.1 hy with rfl | hy
      · exact h2
      · exact hd y hy
    · rw [e, ByteArray.size_append, h4]
      show ((x / 10 * 10 ^ (1 + s.size) + valF (0 * 10 + (c.toNat - 48)) (bs s) : Nat) : Int) = n
      rw [valF_split, bs_len, Nat.zero_mul, Nat.zero_add, ← hv]
      congr 1
      have h5 : c.toNat - 48 = x % 10 := by omega
      rw [h5, Nat.pow_add, Nat.pow_one, ← Nat.mul_assoc, ← Nat.add_assoc, ← Nat.add_mul]
      congr 2
      omega
  intro d
  induction d with
  | zero =>
    intro x s hx hs hd hv
    have hx0 : x = 0 := by simpa using hx
    subst hx0
    apply Ev.next
    simp only [funicularlaw06_LexNumbers.l0]
    refine Ev.no (by omega) ?_
    refine Ev.cases (fun hnil => ?_) (fun hne => ?_)
    · refine step 0 s (by omega) (by omega) hd hv (fun s' h1 h2 h3 h4 => ?_)
      apply Ev.next
      simp only [funicularlaw06_LexNumbers.l0]
      refine Ev.no (by omega) (Ev.no (by rw [toList_bs]; exact h3) ?_)
      refine noughts_ev n z hz hz2 hn hn2 _ 0 s' (by have : Int.tmod z 20 = z % 20 := Int.tmod_eq_emod_of_nonneg hz; rw [this]; exact (show ((0 : Nat) : Int) + ((z % 20).toNat : Int) = z % 20 from by omega)) (by omega) h2 h3 ?_
      rw [← h4]; simp
    · refine noughts_ev n z hz hz2 hn hn2 _ 0 s (by have : Int.tmod z 20 = z % 20 := Int.tmod_eq_emod_of_nonneg hz; rw [this]; exact (show ((0 : Nat) : Int) + ((z % 20).toNat : Int) = z % 20 from by omega)) (by omega) hd (by rw [← toList_bs]; exact hne) ?_
      rw [← hv]; simp
  | succ d ih =>
    intro x s hx hs hd hv
    have hxn : (x : Int) ≤ n := by
      have h1 : x * 1 ≤ x * 10 ^ s.size := Nat.mul_le_mul_left _ (Nat.pos_of_ne_zero (by simp))
      omega
    apply Ev.next
    simp only [funicularlaw06_LexNumbers.l0]
    by_cases h0 : 0 < x
    · refine Ev.yes (by omega) (step x s hxn (by omega) hd hv (fun s' h1 h2 h3 h4 => ?_))
      exact ih (x / 10) s' (by rw [Nat.pow_succ] at hx; omega) (by omega) h2 h4
    · have hx0 : x = 0 := by omega
      subst hx0
      refine Ev.no (by omega) ?_
      refine Ev.cases (fun hnil => ?_) (fun hne => ?_)
      · refine step 0 s (by omega) (by omega) hd hv (fun s' h1 h2 h3 h4 => ?_)
        exact ih 0 s' (Nat.pos_of_ne_zero (by simp)) (by omega) h2 h4
      · refine noughts_ev n z hz hz2 hn hn2 _ 0 s (by have : Int.tmod z 20 = z % 20 := Int.tmod_eq_emod_of_nonneg hz; rw [this]; exact (show ((0 : Nat) : Int) + ((z % 20).toNat : Int) = z % 20 from by omega)) (by omega) hd (by rw [← toList_bs]; exact hne) ?_
        rw [← hv]; simp

theorem LexNumbers : funicularlaw06_LexNumbers.Pure := by
  intro n z hn hz
  have hz' : 0 ≤ z ∧ z < 256 := by
    have h1 := hz
    simp only [Lit.wf, Bool.and_eq_true, decide_eq_true_eq] at h1
    have h2 : IntKind.min .u8 = 0 := rfl
    have h3 : IntKind.max .u8 = 255 := rfl
    omega
  have hn' : n < 9223372036854775808 := by
    have h1 := hn
    simp only [Lit.wf, Bool.and_eq_true, decide_eq_true_eq] at h1
    have h3 : IntKind.max .i64 = 9223372036854775807 := rfl
    omega
  refine Ev.rounds ?_
  simp only [funicularlaw06_LexNumbers.f]
  refine Ev.cases (fun _ => works_then) (fun h0 => ?_)
  have e : n = ((n.toNat : Nat) : Int) := by omega
  have := digits_ev n z hz'.1 hz'.2 (by omega) hn' 19 n.toNat ⟨#[]⟩ (by omega) (by decide) (fun c hc => by cases hc) (by rw [show (⟨#[]⟩ : ByteArray).size = 0 from rfl]; show ((n.toNat * 10 ^ 0 + 0 : Nat) : Int) = n; omega)
  rw [← e] at this
  exact this
end Go.Proofs.Ytfcndngnoognmaa.Pure
