/- The printed lex.Split comes to the words of the plain Lean function lexS, and the printed examples hold. -/
import Derived.Test.YtfcndngnoognmaaLexA
import Derived.Test.YtfcndngnoognmaaPLexJoinsx
namespace Go.Proofs.Ytfcndngnoognmaa.PLexJoins
open Go.RowKit Go.Proofs.Ytfcndngnoognmaa.Lx Go.Proofs.YtfcndngnoognmaaW.PrintWords Go.Proofs.YtfcndngnoognmaaW.PrintLast Go.Proofs.YtfcndngnoognmaaW.PrintMore
set_option linter.unusedVariables false
set_option linter.unusedSimpArgs false

theorem Ev.next {α : Type} {g : Nat → Option α} {r : α} (h : Ev (fun k => g (k + 1)) r) : Ev g r := Ev.step (fun _ => rfl) h
theorem Ev.yes {α : Type} {c : Prop} [Decidable c] {f g : Nat → Option α} {r : α} (h : c) (k : Ev f r) : Ev (fun n => if c then f n else g n) r := Ev.congr (fun _ => if_pos h) k
theorem Ev.no {α : Type} {c : Prop} [Decidable c] {f g : Nat → Option α} {r : α} (h : ¬ c) (k : Ev g r) : Ev (fun n => if c then f n else g n) r := Ev.congr (fun _ => if_neg h) k
theorem Ev.cases {α : Type} {c : Prop} [Decidable c] {f g : Nat → Option α} {r : α} (h : c → Ev f r) (k : ¬ c → Ev g r) : Ev (fun n => if c then f n else g n) r := by
  by_cases hc : c
  · exact Ev.yes hc (h hc)
  · exact Ev.no hc (k hc)
theorem wr {x : Int} (h : -9223372036854775808 ≤ x) (h2 : x ≤ 9223372036854775807) : wrap64 x = x := by unfold wrap64; omega
theorem bt_cons {s : ByteArray} {p : Nat} {c : UInt8} {r : List UInt8} (h : (bs s).drop p = c :: r) : bt s (p : Int) = c.toNat := by
  have h1 := (drop_cons h).1
  rw [List.drop_eq_getElem_cons h1] at h
  injection h with h2 h3
  rw [bs_len] at h1
  unfold bt
  rw [dif_pos (by simpa using h1), ← h2]
  rfl
theorem lt_of_drop {s : ByteArray} {p : Nat} {c : UInt8} {r : List UInt8} (h : (bs s).drop p = c :: r) : p < s.size := by rw [← bs_len]; exact (drop_cons h).1
theorem ge_of_drop {s : ByteArray} {p : Nat} (h : (bs s).drop p = []) : s.size ≤ p := by rw [← bs_len]; exact List.drop_eq_nil_iff.1 h

/-- A byte's kind. -/
def kindS (c : UInt8) : Int := if c.toNat = 32 then 0 else if dig c then 1 else if ltr c then 2 else if sgn c then 3 else -1
theorem kind_ev (c : UInt8) : Ev (fun k => lex_kind.f k (c.toNat : Int)) (kindS c) := by
  have hlt := u8_lt c
  by_cases h3 : c.toNat = 32
  · have hk : kindS c = 0 := by unfold kindS; rw [if_pos h3]
    rw [hk]
    exact Ev.yes (by omega) (Ev.now _)
  · refine Ev.no (by omega) ?_
    by_cases h1 : dig c = true
    · have h4 := dig_iff.1 h1
      have hk : kindS c = 1 := by unfold kindS; rw [if_neg h3, if_pos h1]
      rw [hk, decide_eq_true (by omega)]
      refine Ev.yes (by omega) (Ev.next ?_)
      simp only [lex_kind.j0]
      exact Ev.yes (by trivial) (Ev.now _)
    · have h4 := fun x => h1 (dig_iff.2 x)
      have hj1 : ¬ ltr c = true → Ev (fun k => lex_kind.j1 k (c.toNat : Int)) (kindS c) := by
        intro h2
        apply Ev.next
        simp only [lex_kind.j1]
        by_cases h : sgn c = true
        · have hk : kindS c = 3 := by unfold kindS; rw [if_neg h3, if_neg h1, if_neg h2, if_pos h]
          have h5 := sgn_iff.1 h
          rw [hk]
          repeat' (first | exact Ev.now _ | refine Ev.cases (fun _ => ?_) (fun _ => ?_))
          exfalso; omega
        · have hk : kindS c = -1 := by unfold kindS; rw [if_neg h3, if_neg h1, if_neg h2, if_neg h]
          have h5 := fun x => h (sgn_iff.2 x)
          rw [hk]
          repeat' (first | exact Ev.now _ | refine Ev.no (fun hx => h5 (by omega)) ?_)
      have hj0 : Ev (fun k => lex_kind.j0 k (c.toNat : Int) false) (kindS c) := by
        apply Ev.next
        simp only [lex_kind.j0]
        refine Ev.no (by decide) ?_
        by_cases h : ltr c = true
        · have h5 := ltr_iff.1 h
          have hk : kindS c = 2 := by unfold kindS; rw [if_neg h3, if_neg h1, if_pos h]
          rw [hk]
          exact Ev.yes (by omega) (Ev.yes (by omega) (Ev.now _))
        · have h5 := fun x => h (ltr_iff.2 x)
          exact Ev.cases (fun h6 => Ev.no (fun h7 => h5 (by omega)) (hj1 h)) (fun _ => hj1 h)
      refine Ev.cases (fun h5 => ?_) (fun _ => hj0)
      rw [decide_eq_false (fun h6 => h4 (by omega))]
      exact hj0

def toS (t : Tok) : S32 := ⟨t.k, ⟨t.t.toArray⟩, t.n, t.p⟩
def out (acc : List S32) : Res → List S32 × Int × Int
  | .ok l => (acc ++ l.map toS, 0, 0)
  | .bad e p => ([], e, p)
theorem out_cons (acc : List S32) (t : Tok) (r : Res) : out acc (r.cons t) = out (acc ++ [toS t]) r := by cases r <;> simp [out, Res.cons]

theorem dig_not {c : UInt8} (h : dig c = true) : c.toNat ≠ 32 := by have := dig_iff.1 h; omega
theorem kind_dig {c : UInt8} (h : dig c = true) : kindS c = 1 := by unfold kindS; rw [if_neg (dig_not h), if_pos h]
theorem kind_ltr {c : UInt8} (h : ltr c = true) : kindS c = 2 := by
  have h1 := ltr_iff.1 h
  unfold kindS; rw [if_neg (by omega), if_neg (fun x => by have := dig_iff.1 x; omega), if_pos h]
theorem kind_one {c : UInt8} : kindS c = 1 ↔ dig c = true := by
  unfold kindS
  constructor
  · intro h; split at h
    · cases h
    · split at h
      · assumption
      · repeat' (split at h)
        all_goals cases h
  · exact kind_dig
theorem kind_two {c : UInt8} : kindS c = 2 ↔ ltr c = true := by
  constructor
  · intro h; unfold kindS at h; split at h
    · cases h
    · split at h
      · cases h
      · split at h
        · assumption
        · split at h <;> cases h
  · exact kind_ltr

/-- The digits of a number, from k on. -/
theorem l1_ev (s : ByteArray) (acc : List S32) (i : Nat) (hs : s.size ≤ 4096) (hacc : acc.length ≤ i) : ∀ (l : List UInt8) (k n : Nat) (r : List S32 × Int × Int), (bs s).drop k = l → i < k → k ≤ s.size → n < 9223372036854775808 →
    (9223372036854775808 ≤ valF n (l.takeWhile dig) → r = ([], 13, (i : Int))) →
    (valF n (l.takeWhile dig) < 9223372036854775808 → (l.dropWhile dig).head?.any ltr = true → r = ([], 3, ((k + (l.takeWhile dig).length : Nat) : Int))) →
    (valF n (l.takeWhile dig) < 9223372036854775808 → (l.dropWhile dig).head?.any ltr = false → Ev (fun m => lex_Split.l0 m s (acc ++ [⟨1, ⟨#[]⟩, ((valF n (l.takeWhile dig) : Nat) : Int), (i : Int)⟩]) ((k + (l.takeWhile dig).length : Nat) : Int)) r) →
    Ev (fun m => lex_Split.l1 m s acc (i : Int) (k : Int) 1 ⟨#[]⟩ (n : Int) (i : Int)) r := by
  intro l
  induction l with
  | nil =>
    intro k n r hd hik hk hn h1 h2 h3
    have hge := ge_of_drop hd
    apply Ev.next
    simp only [lex_Split.l1]
    refine Ev.no (by omega) ?_
    apply Ev.next
    simp only [lex_Split.j2, Bool.false_eq_true, if_false]
    refine Ev.no (by omega) ?_; refine Ev.yes (by omega) ?_
    exact h3 hn rfl
  | cons c l ih =>
    intro k n r hd hik hk hn h1 h2 h3
    have hlt := lt_of_drop hd
    have hd' := (drop_cons hd).2
    have hc := u8_lt c
    apply Ev.next
    simp only [lex_Split.l1]
    refine Ev.yes (by omega) ?_; refine Ev.yes (by omega) ?_; rw [bt_cons hd]
    refine Ev.bind (kind_ev c) ?_
    by_cases hdig : dig c = true
    · have hcd := dig_iff.1 hdig
      rw [kind_dig hdig]
      apply Ev.next
      simp only [lex_Split.j2, beq_self_eq_true, if_true]
      refine Ev.yes (by omega) ?_; refine Ev.yes (by omega) ?_; rw [bt_cons hd]
      have htw : (c :: l).takeWhile dig = c :: l.takeWhile dig := by simp [hdig]
      have hdw : (c :: l).dropWhile dig = l.dropWhile dig := by simp [hdig]
      have hv : valF n (c :: l.takeWhile dig) = valF (n * 10 + (c.toNat - 48)) (l.takeWhile dig) := rfl
      rw [htw] at h1 h2 h3
      rw [hdw] at h2 h3
      rw [hv] at h1 h2 h3
      have hle := valF_le (n * 10 + (c.toNat - 48)) (l.takeWhile dig)
      by_cases ho : 9223372036854775808 ≤ n * 10 + (c.toNat - 48)
      · refine Ev.yes (by omega) ?_; rw [h1 (by omega)]
        exact Ev.now _
      · refine Ev.no (by omega) ?_; rw [wr (by omega) (by omega)]
        have e : wrap64 (wrap64 ((n : Int) * 10) + ((c.toNat : Int) - 48) % 256) = ((n * 10 + (c.toNat - 48) : Nat) : Int) := by
          have e1 : ((c.toNat : Int) - 48) % 256 = ((c.toNat - 48 : Nat) : Int) := by omega
          have e2 : c.toNat - 48 ≤ 9 := by omega
          rw [e1]
          generalize c.toNat - 48 = d at *
          rw [wr (x := (n : Int) * 10) (by omega) (by omega), wr (by omega) (by omega)]
          omega
        rw [e, show ((k : Int) + 1) = ((k + 1 : Nat) : Int) from by omega]
        refine ih (k + 1) _ r hd' (by omega) (by omega) (by omega) h1 ?_ ?_
        · intro ha hb; rw [h2 ha hb]; simp; omega
        · intro ha hb
          have := h3 ha hb
          rw [show k + 1 + (l.takeWhile dig).length = k + (c :: l.takeWhile dig).length from by simp; omega]
          exact this
    · have htw : (c :: l).takeWhile dig = [] := by simp [hdig]
      have hdw : (c :: l).dropWhile dig = c :: l := by simp [hdig]
      rw [htw] at h1 h2 h3
      rw [hdw] at h2 h3
      rw [show (kindS c == 1) = false from by rw [beq_eq_false_iff_ne]; exact fun h => hdig (kind_one.1 h)]
      apply Ev.next
      simp only [lex_Split.j2, Bool.false_eq_true, if_false]
      refine Ev.yes (by omega) ?_; refine Ev.yes (by omega) ?_; rw [bt_cons hd]
      refine Ev.bind (kind_ev c) ?_
      by_cases hl : ltr c = true
      · refine Ev.yes (kind_ltr hl) ?_; rw [h2 hn (by simp [hl])]
        exact Ev.now _
      · refine Ev.no (fun h => hl (kind_two.1 h)) ?_; refine Ev.yes (by omega) ?_
        exact h3 hn (by simp [hl])

/-- The letters and digits of a name, from k on. -/
theorem l2_ev (s : ByteArray) (acc : List S32) (i : Nat) (hs : s.size ≤ 4096) (hacc : acc.length ≤ i) (c0 : UInt8) (w : List UInt8) : ∀ (l : List UInt8) (k : Nat) (r : List S32 × Int × Int), (bs s).drop k = l → i < k → k ≤ s.size →
    (32 < k - i + (l.takeWhile aln).length → r = ([], 3, (i : Int))) →
    (k - i + (l.takeWhile aln).length ≤ 32 → Ev (fun m => lex_Split.l0 m s (acc ++ [⟨2, s.extract i (k + (l.takeWhile aln).length), 0, (i : Int)⟩]) ((k + (l.takeWhile aln).length : Nat) : Int)) r) →
    Ev (fun m => lex_Split.l2 m s acc (i : Int) (k : Int) 2 ⟨#[]⟩ 0 (i : Int)) r := by
  intro l
  induction l with
  | nil =>
    intro k r hd hik hk h1 h2
    have hge := ge_of_drop hd
    apply Ev.next
    simp only [lex_Split.l2]
    refine Ev.no (by omega) ?_; rw [wr (by omega) (by omega)]
    simp only [List.takeWhile_nil, List.length_nil, Nat.add_zero] at h1 h2
    by_cases h : 32 < k - i
    · refine Ev.yes (by omega) ?_; rw [h1 h]; exact Ev.now _
    · refine Ev.no (by omega) ?_; refine Ev.yes (by omega) ?_; refine Ev.yes (by omega) ?_; refine Ev.yes (by omega) ?_; refine Ev.yes (by omega) ?_
      exact h2 (by omega)
  | cons c l ih =>
    intro k r hd hik hk h1 h2
    have hlt := lt_of_drop hd
    have hd' := (drop_cons hd).2
    apply Ev.next
    simp only [lex_Split.l2]
    refine Ev.yes (by omega) ?_; refine Ev.yes (by omega) ?_; rw [bt_cons hd]
    refine Ev.bind (kind_ev c) ?_
    have hgo : aln c = true → Ev (fun m => lex_Split.l2 m s acc (i : Int) (wrap64 ((k : Int) + 1)) 2 ⟨#[]⟩ 0 (i : Int)) r := by
      intro ha
      have htw : (c :: l).takeWhile aln = c :: l.takeWhile aln := by simp [ha]
      rw [htw] at h1 h2
      rw [wr (by omega) (by omega), show ((k : Int) + 1) = ((k + 1 : Nat) : Int) from by omega]
      refine ih (k + 1) r hd' (by omega) (by omega) ?_ ?_
      · intro h; exact h1 (by simp only [List.length_cons]; omega)
      · intro h
        rw [show k + 1 + (l.takeWhile aln).length = k + (c :: l.takeWhile aln).length from by simp only [List.length_cons]; omega]
        exact h2 (by simp only [List.length_cons]; omega)
    by_cases hl : ltr c = true
    · refine Ev.yes (kind_ltr hl) ?_
      exact hgo (by simp [aln, hl])
    · refine Ev.no (fun h => hl (kind_two.1 h)) ?_
      refine Ev.bind (kind_ev c) ?_
      by_cases hdg : dig c = true
      · refine Ev.yes (kind_dig hdg) ?_
        exact hgo (by simp [aln, hdg])
      · refine Ev.no (fun h => hdg (kind_one.1 h)) ?_
        have htw : (c :: l).takeWhile aln = [] := by simp [aln, hl, hdg]
        rw [htw] at h1 h2
        simp only [List.length_nil, Nat.add_zero] at h1 h2
        rw [wr (by omega) (by omega)]
        by_cases h : 32 < k - i
        · refine Ev.yes (by omega) ?_; rw [h1 h]; exact Ev.now _
        · refine Ev.no (by omega) ?_; refine Ev.yes (by omega) ?_; refine Ev.yes (by omega) ?_; refine Ev.yes (by omega) ?_; refine Ev.yes (by omega) ?_
          exact h2 (by omega)

theorem l0_ev (s : ByteArray) (hs : s.size ≤ 4096) (l : List UInt8) (p : Nat) : (bs s).drop p = l → ∀ acc : List S32, acc.length ≤ p → p ≤ s.size → Ev (fun m => lex_Split.l0 m s acc (p : Int)) (out acc (lexB l p)) := by
  fun_induction lexB l p with
  | case1 p =>
    intro hd acc hacc hp
    have hge := ge_of_drop hd
    apply Ev.next
    simp only [lex_Split.l0]
    refine Ev.no (by omega) ?_
    simp only [out, List.map_nil, List.append_nil]
    exact Ev.now _
  | case2 p c r h ih =>
    intro hd acc hacc hp
    have hlt := lt_of_drop hd
    apply Ev.next
    simp only [lex_Split.l0]
    refine Ev.yes (by omega) ?_; refine Ev.yes (by omega) ?_; rw [bt_cons hd]
    refine Ev.bind (kind_ev c) ?_
    have hk : kindS c = 0 := by unfold kindS; rw [if_pos h]
    rw [hk, wr (by omega) (by omega)]; refine Ev.no (by decide) (Ev.yes rfl ?_)
    exact ih (drop_cons hd).2 acc (by omega) (by omega)
  | case3 p c r h1 h2 h3 =>
    intro hd acc hacc hp
    have hlt := lt_of_drop hd
    have hcd := dig_iff.1 h2
    apply Ev.next
    simp only [lex_Split.l0]
    refine Ev.yes (by omega) ?_; refine Ev.yes (by omega) ?_; rw [bt_cons hd]
    refine Ev.bind (kind_ev c) ?_
    rw [kind_dig h2]; refine Ev.no (by decide) ?_; refine Ev.no (by decide) ?_; refine Ev.yes rfl ?_; rw [wr (by omega) (by omega)]
    rw [show ((c.toNat : Int) - 48) % 256 = ((c.toNat - 48 : Nat) : Int) from by omega, show (p : Int) + 1 = ((p + 1 : Nat) : Int) from by omega]
    exact l1_ev s acc p hs hacc r (p + 1) _ _ (drop_cons hd).2 (by omega) (by omega) (by omega) (fun _ => rfl) (fun h => absurd h3 (by omega)) (fun h => absurd h3 (by omega))
  | case4 p c r h1 h2 h3 h4 =>
    intro hd acc hacc hp
    have hlt := lt_of_drop hd
    have hcd := dig_iff.1 h2
    apply Ev.next
    simp only [lex_Split.l0]
    refine Ev.yes (by omega) ?_; refine Ev.yes (by omega) ?_; rw [bt_cons hd]
    refine Ev.bind (kind_ev c) ?_
    rw [kind_dig h2]; refine Ev.no (by decide) ?_; refine Ev.no (by decide) ?_; refine Ev.yes rfl ?_; rw [wr (by omega) (by omega)]
    rw [show ((c.toNat : Int) - 48) % 256 = ((c.toNat - 48 : Nat) : Int) from by omega, show (p : Int) + 1 = ((p + 1 : Nat) : Int) from by omega]
    exact l1_ev s acc p hs hacc r (p + 1) _ _ (drop_cons hd).2 (by omega) (by omega) (by omega) (fun h => absurd h h3) (fun _ _ => rfl) (fun _ h => absurd (h4.symm.trans h) (by decide))
  | case5 p c r h1 h2 h3 h4 ih =>
    intro hd acc hacc hp
    have hlt := lt_of_drop hd
    have hcd := dig_iff.1 h2
    apply Ev.next
    simp only [lex_Split.l0]
    refine Ev.yes (by omega) ?_; refine Ev.yes (by omega) ?_; rw [bt_cons hd]
    refine Ev.bind (kind_ev c) ?_
    rw [kind_dig h2]; refine Ev.no (by decide) ?_; refine Ev.no (by decide) ?_; refine Ev.yes rfl ?_; rw [wr (by omega) (by omega)]
    rw [show ((c.toNat : Int) - 48) % 256 = ((c.toNat - 48 : Nat) : Int) from by omega, show (p : Int) + 1 = ((p + 1 : Nat) : Int) from by omega]
    have htd := takeDrop dig r
    have hlen : (c :: r).length = s.size - p := by rw [← hd, List.length_drop, bs_len]
    simp only [List.length_cons] at hlen
    refine l1_ev s acc p hs hacc r (p + 1) _ _ (drop_cons hd).2 (by omega) (by omega) (by omega) (fun h => absurd h h3) (fun _ h => absurd h h4) (fun _ _ => ?_)
    rw [out_cons]
    exact ih (drop_while dig (drop_cons hd).2) _ (by simp; omega) (by omega)
  | case6 p c r h1 h2 h3 h4 =>
    intro hd acc hacc hp
    have hlt := lt_of_drop hd
    apply Ev.next
    simp only [lex_Split.l0]
    refine Ev.yes (by omega) ?_; refine Ev.yes (by omega) ?_; rw [bt_cons hd]
    refine Ev.bind (kind_ev c) ?_
    rw [kind_ltr h3]; refine Ev.no (by decide) ?_; refine Ev.no (by decide) ?_; refine Ev.no (by decide) ?_; refine Ev.yes rfl ?_; rw [wr (by omega) (by omega), show (p : Int) + 1 = ((p + 1 : Nat) : Int) from by omega]
    exact l2_ev s acc p hs hacc c [] r (p + 1) _ (drop_cons hd).2 (by omega) (by omega) (fun _ => rfl) (fun h => absurd h4 (by omega))
  | case7 p c r h1 h2 h3 h4 ih =>
    intro hd acc hacc hp
    have hlt := lt_of_drop hd
    apply Ev.next
    simp only [lex_Split.l0]
    refine Ev.yes (by omega) ?_; refine Ev.yes (by omega) ?_; rw [bt_cons hd]
    refine Ev.bind (kind_ev c) ?_
    rw [kind_ltr h3]; refine Ev.no (by decide) ?_; refine Ev.no (by decide) ?_; refine Ev.no (by decide) ?_; refine Ev.yes rfl ?_; rw [wr (by omega) (by omega), show (p : Int) + 1 = ((p + 1 : Nat) : Int) from by omega]
    have htd := takeDrop aln r
    have hlen : (c :: r).length = s.size - p := by rw [← hd, List.length_drop, bs_len]
    simp only [List.length_cons] at hlen
    refine l2_ev s acc p hs hacc c [] r (p + 1) _ (drop_cons hd).2 (by omega) (by omega) (fun h => absurd h (by omega)) (fun _ => ?_)
    rw [out_cons]
    have e : s.extract p (p + 1 + (r.takeWhile aln).length) = ⟨(c :: r.takeWhile aln).toArray⟩ := by
      rw [extract_mk, hd, show p + 1 + (r.takeWhile aln).length - p = (r.takeWhile aln).length + 1 from by omega, List.take_succ_cons]
      congr 3
      have h2 : r = r.takeWhile aln ++ r.dropWhile aln := List.takeWhile_append_dropWhile.symm
      generalize r.takeWhile aln = a at *
      generalize r.dropWhile aln = b at *
      rw [h2, List.take_left]
    rw [e]
    exact ih (drop_while aln (drop_cons hd).2) _ (by simp; omega) (by omega)
  | case8 p c r h1 h2 h3 h4 ih =>
    intro hd acc hacc hp
    have hlt := lt_of_drop hd
    apply Ev.next
    simp only [lex_Split.l0]
    refine Ev.yes (by omega) ?_; refine Ev.yes (by omega) ?_; rw [bt_cons hd]
    refine Ev.bind (kind_ev c) ?_
    have hk : kindS c = 3 := by unfold kindS; rw [if_neg h1, if_neg h2, if_neg h3, if_pos h4]
    rw [hk, wr (by omega) (by omega)]; refine Ev.no (by decide) (Ev.no (by decide) (Ev.no (by decide) (Ev.no (by decide) ?_)))
    refine Ev.yes (by omega) ?_; refine Ev.yes (by omega) ?_; refine Ev.yes (by omega) ?_
    rw [show (p : Int) + 1 = ((p + 1 : Nat) : Int) from by omega, Int.toNat_natCast, Int.toNat_natCast, extract_one hd, out_cons]
    exact ih (drop_cons hd).2 _ (by simp; omega) (by omega)
  | case9 p c r h1 h2 h3 h4 =>
    intro hd acc hacc hp
    have hlt := lt_of_drop hd
    apply Ev.next
    simp only [lex_Split.l0]
    refine Ev.yes (by omega) ?_; refine Ev.yes (by omega) ?_; rw [bt_cons hd]
    refine Ev.bind (kind_ev c) ?_
    have hk : kindS c = -1 := by unfold kindS; rw [if_neg h1, if_neg h2, if_neg h3, if_neg h4]
    rw [hk]; refine Ev.yes rfl ?_
    exact Ev.now _

/-- lex.Split. -/
theorem split_ev (s : ByteArray) : Ev (fun m => lex_Split.f m s) (out [] (lexS (bs s))) := by
  simp only [lex_Split.f]
  unfold lexS
  rw [bs_len]
  by_cases h : 4096 < s.size
  · refine Ev.yes (by omega) ?_; rw [if_pos h]
    exact Ev.now _
  · refine Ev.no (by omega) ?_; rw [if_neg h]
    exact l0_ev s (by omega) (bs s) 0 rfl [] (by simp) (by omega)
theorem works_ev : Ev (fun m => funicularlaw06_works.f m) true := Ev.of funicularlaw06_works.mono (k := 40) (by decide +kernel)
theorem works_then : Ev (fun k => (funicularlaw06_works.f k).bind fun t => some t) true := Ev.bind works_ev (Ev.now _)

theorem rd_at (l : List S32) (i : Nat) (x : S32) (r : List S32) (h : l.drop i = x :: r) : rd_T32 l (i : Int) = x ∧ i < l.length := by
  have h1 : i < l.length := by
    apply Decidable.byContradiction
    intro h2
    rw [List.drop_eq_nil_of_le (by omega)] at h
    cases h
  refine ⟨?_, h1⟩
  rw [List.drop_eq_getElem_cons h1] at h
  injection h with h2 h3
  unfold rd_T32
  rw [Int.toNat_natCast, List.getD_eq_getElem?_getD, List.getElem?_eq_getElem h1, Option.getD_some, h2]

end Go.Proofs.Ytfcndngnoognmaa.PLexJoins
