/- The printed funicularref06.Split comes to the words of the plain Lean function lexS, too. -/
import Derived.Test.YtfcndngnoognmaaLexSplitEvLexSplits
namespace Go.Proofs.Ytfcndngnoognmaa.PLexSplits
open Go.RowKit Go.Proofs.Ytfcndngnoognmaa.Lx Go.Proofs.YtfcndngnoognmaaW.PrintWords Go.Proofs.YtfcndngnoognmaaW.PrintLast Go.Proofs.YtfcndngnoognmaaW.PrintMore
set_option linter.unusedVariables false
set_option linter.unusedSimpArgs false

theorem rd_cons {L : List Int} {i : Nat} {x : Int} {r : List Int} (h : L.drop i = x :: r) : rd L (i : Int) = x ∧ i < L.length ∧ L.drop (i + 1) = r := by
  have h1 : i < L.length := by
    apply Decidable.byContradiction
    intro h2
    rw [List.drop_eq_nil_of_le (by omega)] at h
    cases h
  rw [List.drop_eq_getElem_cons h1] at h
  injection h with h2 h3
  refine ⟨?_, h1, h3⟩
  unfold rd
  rw [Int.toNat_natCast, List.getD_eq_getElem?_getD, List.getElem?_eq_getElem h1, Option.getD_some, h2]

theorem rsign_ev (c : UInt8) (L : List Int) (hL : L.length ≤ 100) : ∀ (q : List Int) (i : Nat), L.drop i = q → i ≤ L.length → Ev (fun k => funicularref06_sign.l0 k (c.toNat : Int) L (i : Int)) (q.contains (c.toNat : Int)) := by
  intro q
  induction q with
  | nil =>
    intro i hd hi
    have := List.drop_eq_nil_iff.1 hd
    apply Ev.next
    simp only [funicularref06_sign.l0]
    exact Ev.no (by omega) (Ev.now _)
  | cons x q ih =>
    intro i hd hi
    obtain ⟨e, hlt, hd'⟩ := rd_cons hd
    apply Ev.next
    simp only [funicularref06_sign.l0]
    rw [e]
    refine Ev.yes (by omega) (Ev.yes (by omega) (Ev.cases (fun h => ?_) (fun h => ?_)))
    · rw [show (x :: q).contains (c.toNat : Int) = true from by simp [h]]
      exact Ev.now _
    · rw [show (x :: q).contains (c.toNat : Int) = q.contains (c.toNat : Int) from by
        rw [List.contains_cons, beq_eq_false_iff_ne.2 (fun e => h e.symm), Bool.false_or]]
      rw [wr (by omega) (by omega), show (i : Int) + 1 = ((i + 1 : Nat) : Int) from by omega]
      exact ih (i + 1) hd' (by omega)
theorem sign_ev (c : UInt8) : Ev (fun k => funicularref06_sign.f k (c.toNat : Int)) (sgn c) := by
  simp only [funicularref06_sign.f]
  have := rsign_ev c [43, 45, 42, 47, 61, 60, 40, 41, 38, 124, 33] (by decide) _ 0 rfl (by decide)
  have e : sgn c = ([43, 45, 42, 47, 61, 60, 40, 41, 38, 124, 33] : List Int).contains (c.toNat : Int) := by
    rw [Bool.eq_iff_iff, sgn_iff]
    simp
    omega
  rw [e]
  exact this
theorem rdigit (c : UInt8) : funicularref06_digit.f (c.toNat : Int) = some (dig c) := by
  unfold funicularref06_digit.f
  by_cases h : dig c = true
  · have := dig_iff.1 h
    rw [if_pos (by omega), h, decide_eq_true (by omega)]
  · have h2 := fun x => h (dig_iff.2 x)
    rw [Bool.not_eq_true] at h
    split
    · rw [h, decide_eq_false (fun x => h2 (by omega))]
    · rw [h]
theorem rletter (c : UInt8) : funicularref06_letter.f (c.toNat : Int) = some (ltr c) := by
  unfold funicularref06_letter.f
  by_cases h : ltr c = true
  · have := ltr_iff.1 h
    rw [if_pos (by omega), h, decide_eq_true (by omega)]
  · have h2 := fun x => h (ltr_iff.2 x)
    rw [Bool.not_eq_true] at h
    split
    · rw [h, decide_eq_false (fun x => h2 (by omega))]
    · rw [h]
theorem w64 {x : Int} (h : 0 ≤ x) (h2 : x ≤ 18446744073709551615) : IntKind.u64.wrap x = x := IntWalk.u64_in _ ⟨h, h2⟩

theorem number_ev (s : ByteArray) (hs : s.size ≤ 4096) (hd : ∀ c ∈ bs s, dig c = true) : ∀ (l : List UInt8) (i n : Nat), (bs s).drop i = l → i ≤ s.size → n < 9223372036854775808 →
    Ev (fun k => funicularref06_number.l0 k s (n : Int) (i : Int)) (if valF n l < 9223372036854775808 then ((valF n l : Nat), true) else (0, false)) := by
  intro l
  induction l with
  | nil =>
    intro i n hl hi hn
    have := ge_of_drop hl
    apply Ev.next
    simp only [funicularref06_number.l0]
    rw [show valF n [] = n from rfl, if_pos hn, wr (x := (n : Int)) (by omega) (by omega)]
    exact Ev.no (by omega) (Ev.now _)
  | cons c l ih =>
    intro i n hl hi hn
    have hlt := lt_of_drop hl
    have hc : dig c = true := hd c (by
      have : c ∈ (bs s).drop i := by rw [hl]; simp
      exact List.mem_of_mem_drop this)
    have hcd := dig_iff.1 hc
    have hv : valF n (c :: l) = valF (n * 10 + (c.toNat - 48)) l := rfl
    rw [hv]
    have hle := valF_le (n * 10 + (c.toNat - 48)) l
    apply Ev.next
    simp only [funicularref06_number.l0]
    rw [bt_cons hl]
    have e2 : c.toNat - 48 ≤ 9 := by omega
    have e3 : (c.toNat : Int) = ((c.toNat - 48 : Nat) : Int) + 48 := by omega
    rw [e3]
    generalize c.toNat - 48 = d at *
    refine Ev.yes (by omega) (Ev.cases (fun ho => ?_) (fun ho => Ev.yes (by omega) ?_))
    · rw [if_neg (by omega)]; exact Ev.now _
    · rw [w64 (x := (n : Int) * 10) (by omega) (by omega), w64 (x := (d : Int) + 48) (by omega) (by omega), w64 (x := (n : Int) * 10 + ((d : Int) + 48)) (by omega) (by omega), w64 (by omega) (by omega)]
      refine Ev.cases (fun hb => ?_) (fun hb => ?_)
      · rw [if_neg (by omega)]; exact Ev.now _
      · rw [wr (by omega) (by omega), show (n : Int) * 10 + ((d : Int) + 48) - 48 = ((n * 10 + d : Nat) : Int) from by omega, show (i : Int) + 1 = ((i + 1 : Nat) : Int) from by omega]
        exact ih (i + 1) _ (drop_cons hl).2 (by omega) (by omega)

theorem onel0_ev (s : ByteArray) (hs : s.size ≤ 4096) (res : Int × ByteArray × Int × Int × Int × Int × Int) : ∀ (l : List UInt8) (k : Nat), (bs s).drop k = l → k ≤ s.size →
    Ev (fun m => funicularref06_One.j1 m s ((k + (l.takeWhile dig).length : Nat) : Int)) res → Ev (fun m => funicularref06_One.l0 m s (k : Int)) res := by
  intro l
  induction l with
  | nil =>
    intro k hd hk h
    have := ge_of_drop hd
    apply Ev.next
    simp only [funicularref06_One.l0]
    exact Ev.no (by omega) h
  | cons c l ih =>
    intro k hd hk h
    have hlt := lt_of_drop hd
    apply Ev.next
    simp only [funicularref06_One.l0]
    rw [bt_cons hd, rdigit]
    refine Ev.yes (by omega) (Ev.yes (by omega) ?_)
    simp only [Option.bind_some]
    by_cases hc : dig c = true
    · refine Ev.yes hc ?_
      rw [wr (by omega) (by omega), show (k : Int) + 1 = ((k + 1 : Nat) : Int) from by omega]
      refine ih (k + 1) (drop_cons hd).2 (by omega) ?_
      rw [show (c :: l).takeWhile dig = c :: l.takeWhile dig from by simp [hc]] at h
      rw [show k + 1 + (l.takeWhile dig).length = k + (c :: l.takeWhile dig).length from by simp only [List.length_cons]; omega]
      exact h
    · refine Ev.no hc ?_
      rw [show (c :: l).takeWhile dig = [] from by simp [hc]] at h
      exact h
theorem onel1_ev (s : ByteArray) (hs : s.size ≤ 4096) : ∀ (l : List UInt8) (k : Nat), (bs s).drop k = l → k ≤ s.size →
    Ev (fun m => funicularref06_One.l1 m s (k : Int)) (if 32 < k + (l.takeWhile aln).length then (0, ⟨#[]⟩, 0, 0, 0, 3, 0) else (2, s.extract 0 (k + (l.takeWhile aln).length), 0, 0, ((k + (l.takeWhile aln).length : Nat) : Int), 0, 0)) := by
  intro l
  induction l with
  | nil =>
    intro k hd hk
    have := ge_of_drop hd
    apply Ev.next
    simp only [funicularref06_One.l1]
    rw [show k + (([] : List UInt8).takeWhile aln).length = k from rfl]
    refine Ev.no (by omega) (Ev.cases (fun h => ?_) (fun h => Ev.yes (by omega) (Ev.yes (by omega) ?_)))
    · rw [if_pos (by omega)]; exact Ev.now _
    · rw [if_neg (by omega)]; exact Ev.now _
  | cons c l ih =>
    intro k hd hk
    have hlt := lt_of_drop hd
    apply Ev.next
    simp only [funicularref06_One.l1]
    rw [bt_cons hd, rdigit, rletter]
    refine Ev.yes (by omega) (Ev.yes (by omega) ?_)
    simp only [Option.bind_some]
    have hgo : aln c = true → Ev (fun m => funicularref06_One.l1 m s (wrap64 ((k : Int) + 1))) (if 32 < k + ((c :: l).takeWhile aln).length then (0, ⟨#[]⟩, 0, 0, 0, 3, 0) else (2, s.extract 0 (k + ((c :: l).takeWhile aln).length), 0, 0, ((k + ((c :: l).takeWhile aln).length : Nat) : Int), 0, 0)) := by
      intro ha
      rw [wr (by omega) (by omega), show (k : Int) + 1 = ((k + 1 : Nat) : Int) from by omega]
      rw [show (c :: l).takeWhile aln = c :: l.takeWhile aln from by simp [ha], show k + (c :: l.takeWhile aln).length = k + 1 + (l.takeWhile aln).length from by simp only [List.length_cons]; omega]
      exact ih (k + 1) (drop_cons hd).2 (by omega)
    by_cases hl : ltr c = true
    · exact Ev.yes hl (hgo (by simp [aln, hl]))
    · refine Ev.no hl ?_
      by_cases hdg : dig c = true
      · exact Ev.yes hdg (hgo (by simp [aln, hdg]))
      · refine Ev.no hdg ?_
        rw [show (c :: l).takeWhile aln = [] from by simp [aln, hl, hdg]]
        rw [show k + ([] : List UInt8).length = k from rfl]
        refine Ev.cases (fun h => ?_) (fun h => Ev.yes (by omega) ?_)
        · rw [if_pos (by omega)]; exact Ev.now _
        · rw [if_neg (by omega)]; exact Ev.now _

/-- what One tells of a word, or of a fault. -/
def oneR (s : ByteArray) (c : UInt8) (r : List UInt8) : Int × ByteArray × Int × Int × Int × Int × Int :=
  if dig c then
    if 9223372036854775808 ≤ valF (c.toNat - 48) (r.takeWhile dig) then (0, ⟨#[]⟩, 0, 0, 0, 13, 0)
    else if (r.dropWhile dig).head?.any ltr then (0, ⟨#[]⟩, 0, 0, 0, 3, ((1 + (r.takeWhile dig).length : Nat) : Int))
    else (1, ⟨#[]⟩, ((valF (c.toNat - 48) (r.takeWhile dig) : Nat) : Int), 0, ((1 + (r.takeWhile dig).length : Nat) : Int), 0, 0)
  else if ltr c then (if 32 < 1 + (r.takeWhile aln).length then (0, ⟨#[]⟩, 0, 0, 0, 3, 0) else (2, ⟨(c :: r.takeWhile aln).toArray⟩, 0, 0, ((1 + (r.takeWhile aln).length : Nat) : Int), 0, 0))
  else if sgn c then (3, ⟨#[c]⟩, 0, 0, 1, 0, 0)
  else (0, ⟨#[]⟩, 0, 0, 0, 3, 0)

theorem tw_mem {f : UInt8 → Bool} {x : UInt8} : ∀ {l : List UInt8}, x ∈ l.takeWhile f → f x = true
  | [], h => by cases h
  | c :: l, h => by
    by_cases hc : f c = true
    · rw [List.takeWhile_cons, if_pos hc] at h
      rcases List.mem_cons.1 h with rfl | h
      · exact hc
      · exact tw_mem h
    · rw [List.takeWhile_cons, if_neg hc] at h
      cases h

theorem one_ev (s : ByteArray) (hs : s.size ≤ 4096) (c : UInt8) (r : List UInt8) (h : bs s = c :: r) : Ev (fun k => funicularref06_One.f k s) (oneR s c r) := by
  have h0 : (bs s).drop 0 = c :: r := h
  have h1 : (bs s).drop 1 = r := (drop_cons h0).2
  have hsz : s.size = r.length + 1 := by rw [← bs_len, h, List.length_cons]
  simp only [funicularref06_One.f]
  rw [show bt s 0 = (c.toNat : Int) from bt_cons h0, rdigit, rletter]
  refine Ev.yes (by omega) (Ev.bind (sign_ev c) ?_)
  simp only [Option.bind_some]
  unfold oneR
  by_cases hsg : sgn c = true
  · have h2 := sgn_iff.1 hsg
    have h3 : ¬ dig c = true := fun x => by have := dig_iff.1 x; omega
    have h4 : ¬ ltr c = true := fun x => by have := ltr_iff.1 x; omega
    rw [if_neg h3, if_neg h4, if_pos hsg]
    refine Ev.yes hsg (Ev.yes (by omega) (Ev.yes (by omega) ?_))
    rw [show s.extract 0 1 = ⟨#[c]⟩ from extract_one h0]
    exact Ev.now _
  refine Ev.no hsg ?_
  by_cases hdg : dig c = true
  · rw [if_pos hdg]
    refine Ev.yes hdg ?_
    refine onel0_ev s hs _ r 1 h1 (by omega) ?_
    have htd := takeDrop dig r
    apply Ev.next
    simp only [funicularref06_One.j1]
    refine Ev.yes (by omega) (Ev.yes (by omega) ?_)
    rw [Int.toNat_natCast]
    have hx : bs (s.extract 0 (1 + (r.takeWhile dig).length)) = c :: r.takeWhile dig := by
      rw [bs_extract, List.drop_zero, h, Nat.sub_zero, Nat.add_comm, List.take_succ_cons]
      congr 1
      have h2 : r = r.takeWhile dig ++ r.dropWhile dig := List.takeWhile_append_dropWhile.symm
      generalize r.takeWhile dig = a at *
      generalize r.dropWhile dig = b at *
      rw [h2, List.take_left]
    have hnum := number_ev (s.extract 0 (1 + (r.takeWhile dig).length)) (by rw [← bs_len, hx, List.length_cons]; omega) (fun x hm => by
      rw [hx] at hm
      rcases List.mem_cons.1 hm with rfl | hm
      · exact hdg
      · exact tw_mem hm) _ 0 0 rfl (by omega) (by decide)
    rw [List.drop_zero, hx] at hnum
    have e : valF 0 (c :: r.takeWhile dig) = valF (c.toNat - 48) (r.takeWhile dig) := by show valF (0 * 10 + (c.toNat - 48)) _ = _; rw [Nat.zero_mul, Nat.zero_add]
    rw [e] at hnum
    by_cases hv : 9223372036854775808 ≤ valF (c.toNat - 48) (r.takeWhile dig)
    · rw [if_neg (show ¬ valF (c.toNat - 48) (r.takeWhile dig) < 9223372036854775808 by omega)] at hnum
      rw [if_pos hv]
      exact Ev.bind hnum (Ev.no (by decide) (Ev.now _))
    · rw [if_pos (show valF (c.toNat - 48) (r.takeWhile dig) < 9223372036854775808 by omega)] at hnum
      rw [if_neg hv]
      refine Ev.bind hnum (Ev.yes rfl ?_)
      have hdw := drop_while dig h1
      cases hq : r.dropWhile dig with
      | nil =>
        rw [hq] at hdw
        have := ge_of_drop hdw
        rw [if_neg (show ¬ (([] : List UInt8).head?.any ltr = true) by simp)]
        exact Ev.no (by omega) (Ev.now _)
      | cons x q =>
        rw [hq] at hdw
        have := lt_of_drop hdw
        refine Ev.yes (by omega) ?_
        rw [bt_cons hdw, rletter]
        simp only [Option.bind_some]
        by_cases hl : ltr x = true
        · rw [if_pos (show (x :: q).head?.any ltr = true by simp [hl])]
          exact Ev.yes hl (Ev.now _)
        · rw [if_neg (show ¬ ((x :: q).head?.any ltr = true) by simp [hl])]
          exact Ev.no hl (Ev.now _)
  rw [if_neg hdg]
  refine Ev.no hdg ?_
  by_cases hlt : ltr c = true
  · rw [if_pos hlt]
    refine Ev.yes hlt ?_
    have := onel1_ev s hs r 1 h1 (by omega)
    have e : s.extract 0 (1 + (r.takeWhile aln).length) = ⟨(c :: r.takeWhile aln).toArray⟩ := by
      rw [extract_mk, List.drop_zero, h, Nat.sub_zero, Nat.add_comm, List.take_succ_cons]
      congr 3
      have h2 : r = r.takeWhile aln ++ r.dropWhile aln := List.takeWhile_append_dropWhile.symm
      generalize r.takeWhile aln = a at *
      generalize r.dropWhile aln = b at *
      rw [h2, List.take_left]
    rw [e] at this
    exact this
  · rw [if_neg hlt, if_neg hsg]
    exact Ev.no hlt (Ev.now _)

theorem rl0_ev (s : ByteArray) (hs : s.size ≤ 4096) (l : List UInt8) (p : Nat) : (bs s).drop p = l → ∀ acc : List S32, acc.length ≤ p → p ≤ s.size → Ev (fun m => funicularref06_Split.l0 m s acc (p : Int)) (out acc (lexB l p)) := by
  have hone : ∀ (p : Nat) (c : UInt8) (r : List UInt8), (bs s).drop p = c :: r → Ev (fun k => funicularref06_One.f k (s.extract p s.size)) (oneR (s.extract p s.size) c r) := by
    intro p c r hd
    have e : bs (s.extract p s.size) = c :: r := by rw [bs_extract, ← bs_len, ← List.length_drop, List.take_length, hd]
    exact one_ev _ (by rw [← bs_len, e, ← hd, List.length_drop, bs_len]; omega) c r e
  have hstep : ∀ (p : Nat) (c : UInt8) (r : List UInt8) (acc : List S32) (res : List S32 × Int × Int), (bs s).drop p = c :: r → c.toNat ≠ 32 →
      Ev (fun k => if (oneR (s.extract p s.size) c r).2.2.2.2.2.1 = 0 then (if acc.length < 3518437208883 then (funicularref06_Split.l0 k s (acc ++ [(⟨(oneR (s.extract p s.size) c r).1, (oneR (s.extract p s.size) c r).2.1, (oneR (s.extract p s.size) c r).2.2.1, (p : Int)⟩ : S32)]) (wrap64 ((p : Int) + (oneR (s.extract p s.size) c r).2.2.2.2.1))) else (none)) else (some (([] : List S32), (oneR (s.extract p s.size) c r).2.2.2.2.2.1, wrap64 ((p : Int) + (oneR (s.extract p s.size) c r).2.2.2.2.2.2)))) res →
      Ev (fun m => funicularref06_Split.l0 m s acc (p : Int)) res := by
    intro p c r acc res hd h32 h
    have hlt := lt_of_drop hd
    apply Ev.next
    simp only [funicularref06_Split.l0]
    rw [bt_cons hd]
    refine Ev.yes (by omega) (Ev.yes (by omega) (Ev.no (by omega) (Ev.yes (by omega) ?_)))
    rw [Int.toNat_natCast]
    exact Ev.bind (hone p c r hd) h
  fun_induction lexB l p with
  | case1 p =>
    intro hd acc hacc hp
    have hge := ge_of_drop hd
    apply Ev.next
    simp only [funicularref06_Split.l0]
    refine Ev.no (by omega) ?_
    simp only [out, List.map_nil, List.append_nil]
    exact Ev.now _
  | case2 p c r h ih =>
    intro hd acc hacc hp
    have hlt := lt_of_drop hd
    apply Ev.next
    simp only [funicularref06_Split.l0]
    rw [bt_cons hd]
    refine Ev.yes (by omega) (Ev.yes (by omega) (Ev.yes (by omega) ?_))
    rw [wr (by omega) (by omega), show (p : Int) + 1 = ((p + 1 : Nat) : Int) from by omega]
    exact ih (drop_cons hd).2 acc (by omega) (by omega)
  | case3 p c r h1 h2 h3 =>
    intro hd acc hacc hp
    have hlt := lt_of_drop hd
    refine hstep p c r acc _ hd h1 ?_
    unfold oneR
    rw [if_pos h2, if_pos h3]
    refine Ev.no (by simp) ?_
    dsimp only
    rw [wr (by omega) (by omega), Int.add_zero]
    exact Ev.now _
  | case4 p c r h1 h2 h3 h4 =>
    intro hd acc hacc hp
    have hlt := lt_of_drop hd
    have htd := takeDrop dig r
    have hlen : (c :: r).length = s.size - p := by rw [← hd, List.length_drop, bs_len]
    simp only [List.length_cons] at hlen
    refine hstep p c r acc _ hd h1 ?_
    unfold oneR
    rw [if_pos h2, if_neg h3, if_pos h4]
    refine Ev.no (by simp) ?_
    dsimp only
    rw [wr (by omega) (by omega)]
    rw [show (p : Int) + ((1 + (r.takeWhile dig).length : Nat) : Int) = ((p + 1 + (r.takeWhile dig).length : Nat) : Int) from by omega]
    exact Ev.now _
  | case5 p c r h1 h2 h3 h4 ih =>
    intro hd acc hacc hp
    have hlt := lt_of_drop hd
    have htd := takeDrop dig r
    have hlen : (c :: r).length = s.size - p := by rw [← hd, List.length_drop, bs_len]
    simp only [List.length_cons] at hlen
    refine hstep p c r acc _ hd h1 ?_
    unfold oneR
    rw [if_pos h2, if_neg h3, if_neg h4]
    refine Ev.yes rfl (Ev.yes (by omega) ?_)
    dsimp only
    rw [wr (by omega) (by omega), out_cons]
    rw [show (p : Int) + ((1 + (r.takeWhile dig).length : Nat) : Int) = ((p + 1 + (r.takeWhile dig).length : Nat) : Int) from by omega]
    exact ih (drop_while dig (drop_cons hd).2) _ (by simp; omega) (by omega)
  | case6 p c r h1 h2 h3 h4 =>
    intro hd acc hacc hp
    have hlt := lt_of_drop hd
    refine hstep p c r acc _ hd h1 ?_
    unfold oneR
    rw [if_neg h2, if_pos h3, if_pos h4]
    refine Ev.no (by simp) ?_
    dsimp only
    rw [wr (by omega) (by omega), Int.add_zero]
    exact Ev.now _
  | case7 p c r h1 h2 h3 h4 ih =>
    intro hd acc hacc hp
    have hlt := lt_of_drop hd
    have htd := takeDrop aln r
    have hlen : (c :: r).length = s.size - p := by rw [← hd, List.length_drop, bs_len]
    simp only [List.length_cons] at hlen
    refine hstep p c r acc _ hd h1 ?_
    unfold oneR
    rw [if_neg h2, if_pos h3, if_neg h4]
    refine Ev.yes rfl (Ev.yes (by omega) ?_)
    dsimp only
    rw [wr (by omega) (by omega), out_cons]
    rw [show (p : Int) + ((1 + (r.takeWhile aln).length : Nat) : Int) = ((p + 1 + (r.takeWhile aln).length : Nat) : Int) from by omega]
    exact ih (drop_while aln (drop_cons hd).2) _ (by simp; omega) (by omega)
  | case8 p c r h1 h2 h3 h4 ih =>
    intro hd acc hacc hp
    have hlt := lt_of_drop hd
    refine hstep p c r acc _ hd h1 ?_
    unfold oneR
    rw [if_neg h2, if_neg h3, if_pos h4]
    refine Ev.yes rfl (Ev.yes (by omega) ?_)
    dsimp only
    rw [wr (by omega) (by omega), out_cons, show (p : Int) + 1 = ((p + 1 : Nat) : Int) from by omega]
    exact ih (drop_cons hd).2 _ (by simp; omega) (by omega)
  | case9 p c r h1 h2 h3 h4 =>
    intro hd acc hacc hp
    have hlt := lt_of_drop hd
    refine hstep p c r acc _ hd h1 ?_
    unfold oneR
    rw [if_neg h2, if_neg h3, if_neg h4]
    refine Ev.no (by simp) ?_
    dsimp only
    rw [wr (by omega) (by omega), Int.add_zero]
    exact Ev.now _

/-- funicularref06.Split. -/
theorem rsplit_ev (s : ByteArray) : Ev (fun m => funicularref06_Split.f m s) (out [] (lexS (bs s))) := by
  simp only [funicularref06_Split.f]
  unfold lexS
  rw [bs_len]
  by_cases h : 4096 < s.size
  · refine Ev.yes (by omega) ?_
    rw [if_pos h]
    exact Ev.now _
  · refine Ev.no (by omega) ?_
    rw [if_neg h]
    exact rl0_ev s (by omega) (bs s) 0 rfl [] (by simp) (by omega)
theorem same_ev (l : List S32) (hl : l.length ≤ 9000) : ∀ (d i : Nat), i + d = l.length → Ev (fun k => funicularref06_Same.l0 k l l (i : Int)) true := by
  intro d
  induction d with
  | zero =>
    intro i hi
    apply Ev.next
    simp only [funicularref06_Same.l0]
    exact Ev.no (by omega) (Ev.now _)
  | succ d ih =>
    intro i hi
    apply Ev.next
    simp only [funicularref06_Same.l0, beq_self_eq_true, Bool.not_true, Bool.or_self]
    refine Ev.yes (by omega) (Ev.yes (by omega) (Ev.yes (by omega) (Ev.no (by decide) ?_)))
    rw [wr (by omega) (by omega), show (i : Int) + 1 = ((i + 1 : Nat) : Int) from by omega]
    exact ih (i + 1) (by omega)
theorem Same_ev (l : List S32) (hl : l.length ≤ 9000) : Ev (fun k => funicularref06_Same.f k l l) true := by
  simp only [funicularref06_Same.f]
  exact Ev.yes trivial (same_ev l hl l.length 0 (by omega))
end Go.Proofs.Ytfcndngnoognmaa.PLexSplits
