/- LexJoins: a text with a blank and another one behind has both ones' words. For all two texts. -/
import Derived.Test.YtfcndngnoognmaaLexSplitEvLexJoins
namespace Go.Proofs.Ytfcndngnoognmaa.Pure
open Go.RowKit Go.Proofs.Ytfcndngnoognmaa.Lx Go.Proofs.Ytfcndngnoognmaa.PLexJoins Go.Proofs.YtfcndngnoognmaaW.PrintWords Go.Proofs.YtfcndngnoognmaaW.PrintLast Go.Proofs.YtfcndngnoognmaaW.PrintMore
set_option linter.unusedVariables false
set_option linter.unusedSimpArgs false

theorem rd_drop (l : List S32) (i : Nat) (h : i < l.length) : l.drop i = rd_T32 l (i : Int) :: l.drop (i + 1) := by
  rw [List.drop_eq_getElem_cons h]
  unfold rd_T32
  rw [Int.toNat_natCast, List.getD_eq_getElem?_getD, List.getElem?_eq_getElem h, Option.getD_some]

theorem same_ev (l : List S32) (hl : l.length ≤ 9000) : ∀ (d i : Nat), i + d = l.length → Ev (fun k => funicularref06_Same.l0 k l l (i : Int)) true := by
  intro d
  induction d with
  | zero =>
    intro i hi
    apply Ev.next
    simp only [funicularref06_Same.l0]
    exact Ev.no (by omega) (Ev.now _)
  | succ d ih =>
    intro i hi
    apply Ev.next
    simp only [funicularref06_Same.l0, beq_self_eq_true, Bool.not_true, Bool.or_self]
    refine Ev.yes (by omega) (Ev.yes (by omega) (Ev.yes (by omega) (Ev.no (by decide) ?_)))
    rw [wr (by omega) (by omega), show (i : Int) + 1 = ((i + 1 : Nat) : Int) from by omega]
    exact ih (i + 1) (by omega)
theorem Same_ev (l : List S32) (hl : l.length ≤ 9000) : Ev (fun k => funicularref06_Same.f k l l) true := by
  simp only [funicularref06_Same.f]
  exact Ev.yes trivial (same_ev l hl l.length 0 (by omega))

theorem tail_ev (s : ByteArray) (hs : s.size ≤ 1500) (A : List S32) (hA : A.length ≤ 1500) (ts : List Tok) (hts : ts.length ≤ 1500) (hp : ∀ t ∈ ts, 0 ≤ t.p ∧ t.p ≤ 1500) : ∀ (q : List Tok) (i : Nat), ts.drop i = q → i ≤ ts.length →
    Ev (fun k => funicularlaw06_LexJoins.l0 k s A (ts.map toS) (A ++ (ts.map (Tok.shift ((s.size : Int) + 1))).map toS) (i : Int)) true := by
  intro q
  induction q with
  | nil =>
    intro i hd hi
    have := List.drop_eq_nil_iff.1 hd
    apply Ev.next
    simp only [funicularlaw06_LexJoins.l0, List.length_map]
    exact Ev.no (by omega) works_then
  | cons t q ih =>
    intro i hd hi
    have hlt : i < ts.length := by
      apply Decidable.byContradiction
      intro h2
      rw [List.drop_eq_nil_of_le (by omega)] at hd
      cases hd
    have e1 := (rd_at (ts.map toS) i (toS t) (q.map toS) (by rw [← List.map_drop, hd]; rfl)).1
    have e2 := (rd_at (A ++ (ts.map (Tok.shift ((s.size : Int) + 1))).map toS) (A.length + i) (toS (t.shift ((s.size : Int) + 1))) ((q.map (Tok.shift ((s.size : Int) + 1))).map toS) (by
      rw [← List.drop_drop, List.drop_left, ← List.map_drop, ← List.map_drop, hd]; rfl)).1
    have hmem : t ∈ ts := by
      have : t ∈ ts.drop i := by rw [hd]; simp
      exact List.mem_of_mem_drop this
    have hb := hp t hmem
    have hd' : ts.drop (i + 1) = q := by rw [← List.drop_drop, hd]; rfl
    apply Ev.next
    simp only [funicularlaw06_LexJoins.l0]
    rw [wr (x := (A.length : Int) + (i : Int)) (by omega) (by omega), show (A.length : Int) + (i : Int) = ((A.length + i : Nat) : Int) from by omega, e1, e2]
    have f3 : (toS (t.shift ((s.size : Int) + 1))).f3 = t.p + ((s.size : Int) + 1) := rfl
    have f0 : (toS (t.shift ((s.size : Int) + 1))).f0 = (toS t).f0 := rfl
    have f1 : (toS (t.shift ((s.size : Int) + 1))).f1 = (toS t).f1 := rfl
    have f2 : (toS (t.shift ((s.size : Int) + 1))).f2 = (toS t).f2 := rfl
    have g3 : (toS t).f3 = t.p := rfl
    rw [f0, f1, f2, f3, g3]
    rw [wr (x := t.p + ((s.size : Int) + 1) - (s.size : Int)) (by omega) (by omega), wr (by omega) (by omega), show t.p + ((s.size : Int) + 1) - (s.size : Int) - 1 = t.p from by omega]
    simp only [beq_self_eq_true, Bool.not_true, Bool.or_self, List.length_map, List.length_append]
    refine Ev.yes (by omega) (Ev.yes (by omega) (Ev.yes (by omega) (Ev.yes (by omega) (Ev.no (by decide) ?_))))
    rw [wr (by omega) (by omega), show (i : Int) + 1 = ((i + 1 : Nat) : Int) from by omega]
    exact ih (i + 1) hd' (by omega)

theorem rising_low {L : List UInt8} : ∀ {lo : Int} {ts : List Tok}, 0 ≤ lo → rising L lo ts → ∀ t ∈ ts, 0 ≤ t.p ∧ t.p < L.length
  | _, [], _, _, _, h => by cases h
  | lo, x :: r, hlo, ⟨h1, h2, h3⟩, t, h => by
    rcases List.mem_cons.1 h with rfl | h
    · exact ⟨h2.1, h2.2.1⟩
    · exact rising_low (by have := h2.1; omega) h3 t h

theorem LexJoins : funicularlaw06_LexJoins.Pure := by
  intro a b ha0 hb0
  refine Ev.rounds ?_
  simp only [funicularlaw06_LexJoins.f]
  have hbig : Ev (fun k => funicularlaw06_LexJoins.j0 k a b true) true := by
    apply Ev.next
    simp only [funicularlaw06_LexJoins.j0]
    exact Ev.yes trivial works_then
  refine Ev.cases (fun _ => hbig) (fun ha => ?_)
  by_cases hb : (b.size : Int) > 1500
  · rw [decide_eq_true hb]; exact hbig
  rw [decide_eq_false hb]
  apply Ev.next
  simp only [funicularlaw06_LexJoins.j0]
  refine Ev.no (by decide) (Ev.bind (split_ev a) (Ev.bind (split_ev b) ?_))
  have h32 : (⟨#[32]⟩ : ByteArray).size = 1 := rfl
  refine Ev.yes (by omega) (Ev.yes (by rw [ByteArray.size_append, h32]; omega) (Ev.bind (split_ev _) ?_))
  have hA : lexS (bs a) = lexB (bs a) 0 := by unfold lexS; rw [if_neg (by rw [bs_len]; omega)]
  have hB : lexS (bs b) = lexB (bs b) 0 := by unfold lexS; rw [if_neg (by rw [bs_len]; omega)]
  have hC : lexS (bs (a ++ (⟨#[32]⟩ : ByteArray) ++ b)) = (lexB (bs a) 0).then ((lexB (bs b) 0).shift ((a.size : Int) + 1)) := by
    have e : bs (a ++ (⟨#[32]⟩ : ByteArray) ++ b) = bs a ++ 32 :: bs b := by
      rw [bs_append, bs_append, List.append_assoc]; rfl
    unfold lexS
    rw [e, if_neg (by rw [List.length_append, List.length_cons, bs_len, bs_len]; omega), lexB_app, bs_len, show 0 + a.size + 1 = 0 + (a.size + 1) from by omega, lexB_shift]
    rfl
  rw [hA, hB, hC]
  have hlenA := lexB_len (bs a) 0
  have hlenB := lexB_len (bs b) 0
  have herrA := lexB_err (bs a) 0
  have herrB := lexB_err (bs b) 0
  have hrB := lexB_rises (bs b) (bs b) 0 rfl
  rw [bs_len] at hlenA hlenB
  cases hra : lexB (bs a) 0 with
  | bad e p =>
    rw [hra] at herrA
    simp only [out, Res.then]
    refine Ev.no herrA ?_
    apply Ev.next
    simp only [funicularlaw06_LexJoins.j1]
    exact Ev.yes trivial (Ev.no herrA works_then)
  | ok la =>
    rw [hra] at hlenA
    cases hrb : lexB (bs b) 0 with
    | bad e p =>
      rw [hrb] at herrB
      simp only [out, Res.then, Res.shift]
      refine Ev.yes trivial ?_
      rw [bne_iff_ne.2 herrB]
      apply Ev.next
      simp only [funicularlaw06_LexJoins.j1]
      exact Ev.yes trivial (Ev.no herrB works_then)
    | ok lb =>
      rw [hrb] at hlenB hrB
      have hlow := rising_low (by omega) hrB
      rw [bs_len] at hlow
      simp only [out, Res.then, Res.shift, List.nil_append]
      refine Ev.yes trivial ?_
      rw [show ((0 : Int) != 0) = false from rfl]
      apply Ev.next
      simp only [funicularlaw06_LexJoins.j1, List.length_map, List.length_append]
      rw [wr (by omega) (by omega)]
      refine Ev.no (by decide) (Ev.yes trivial (Ev.yes (by omega) (Ev.yes (by omega) (Ev.yes (by omega) ?_))))
      rw [List.map_append, Int.toNat_natCast, show la.length = (la.map toS).length from by rw [List.length_map], List.take_left]
      refine Ev.bind (Same_ev _ (by rw [List.length_map]; omega)) ?_
      apply Ev.next
      simp only [funicularlaw06_LexJoins.j2]
      refine Ev.no (by decide) ?_
      exact tail_ev a (by omega) (la.map toS) (by rw [List.length_map]; omega) lb (by omega) (fun t ht => by have := hlow t ht; omega) lb 0 rfl (by omega)
end Go.Proofs.Ytfcndngnoognmaa.Pure
