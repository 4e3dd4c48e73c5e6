/- LexPlaces: words stand in the text in their order, and do not meet; a fault lies in the text. For every text. -/
import Derived.Test.YtfcndngnoognmaaLexSplitEvLexPlaces
namespace Go.Proofs.Ytfcndngnoognmaa.Pure
open Go.RowKit Go.Proofs.Ytfcndngnoognmaa.Lx Go.Proofs.Ytfcndngnoognmaa.PLexPlaces Go.Proofs.YtfcndngnoognmaaW.PrintWords Go.Proofs.YtfcndngnoognmaaW.PrintLast Go.Proofs.YtfcndngnoognmaaW.PrintMore
set_option linter.unusedVariables false
set_option linter.unusedSimpArgs false

theorem places_ev (s : ByteArray) (hs : s.size ≤ 4096) (L : List S32) (hL : L.length ≤ 4096) : ∀ (ts : List Tok) (i : Nat) (lo : Int), L.drop i = ts.map toS → i ≤ L.length → 0 ≤ lo → rising (bs s) lo ts →
    Ev (fun k => funicularlaw06_LexPlaces.l0 k s L lo (i : Int)) true := by
  intro ts
  induction ts with
  | nil =>
    intro i lo hd hi hlo hr
    apply Ev.next
    simp only [funicularlaw06_LexPlaces.l0]
    have := List.drop_eq_nil_iff.1 hd
    exact Ev.no (by omega) works_then
  | cons t ts ih =>
    intro i lo hd hi hlo hr
    obtain ⟨h1, ⟨f1, f2, f3, f4, f5, f6⟩, h2⟩ := hr
    rw [List.map_cons] at hd
    obtain ⟨e, hlt⟩ := rd_at L i _ _ hd
    have hd' : L.drop (i + 1) = ts.map toS := by rw [← List.drop_drop, hd]; rfl
    rw [bs_len] at f2 f3
    have hsz : (toS t).f1.size = t.t.length := by rw [← bs_len]; rfl
    have htl : (toS t).f1.toList = t.t := by rw [toList_bs]; rfl
    have hp : (toS t).f3 = t.p := rfl
    apply Ev.next
    simp only [funicularlaw06_LexPlaces.l0, e]
    rw [hsz, hp, wr (x := (s.size : Int) - t.p) (by omega) (by omega), wr (x := t.p + (t.t.length : Int)) (by omega) (by omega)]
    refine Ev.yes (by omega) (Ev.yes (by omega) (Ev.no (by omega) (Ev.no (by omega) (Ev.no (by omega) (Ev.yes (by omega) (Ev.yes (by omega) (Ev.yes (by omega) ?_)))))))
    have ex : (s.extract t.p.toNat (t.p + (t.t.length : Int)).toNat).toList = t.t := by
      rw [toList_bs, bs_extract, show (t.p + (t.t.length : Int)).toNat - t.p.toNat = t.t.length from by omega, f4]
    rw [ex, htl]
    have hne : (t.t != t.t) = false := by simp
    rw [hne]
    apply Ev.next
    simp only [funicularlaw06_LexPlaces.j1]
    rw [htl, hsz]
    have hgo : Ev (fun k => funicularlaw06_LexPlaces.l0 k s L (wrap64 (t.p + mx 1 (t.t.length : Int))) (wrap64 ((i : Int) + 1))) true := by
      have hm : mx 1 (t.t.length : Int) = max 1 (t.t.length : Int) := by unfold mx; omega
      rw [hm, wr (by omega) (by omega), wr (by omega) (by omega), show (i : Int) + 1 = ((i + 1 : Nat) : Int) from by omega]
      exact ih (i + 1) _ hd' (by omega) (by omega) h2
    refine Ev.no (by decide) ?_
    have hk : (toS t).f0 = t.k := rfl
    have hn : (toS t).f2 = t.n := rfl
    rw [hk, hn]
    refine Ev.cases (fun hk1 => ?_) (fun hk1 => ?_)
    · obtain ⟨a, b⟩ := f5 hk1
      exact Ev.yes a (Ev.no (by omega) hgo)
    · obtain ⟨a, b⟩ := f6 hk1
      exact Ev.no a (Ev.yes b hgo)

theorem LexPlaces : funicularlaw06_LexPlaces.Pure := by
  intro s hs0
  refine Ev.rounds ?_
  simp only [funicularlaw06_LexPlaces.f]
  refine Ev.cases (fun _ => works_then) (fun hsz => ?_)
  refine Ev.bind (split_ev s) ?_
  by_cases hbig : s.size ≤ 4096
  · have hS : lexS (bs s) = lexB (bs s) 0 := by unfold lexS; rw [if_neg (by rw [bs_len]; omega)]
    rw [hS]
    cases hr : lexB (bs s) 0 with
    | ok ts =>
      have h1 := lexB_rises (bs s) (bs s) 0 rfl
      rw [hr] at h1
      have hlen : ts.length ≤ s.size := by
        have := lexB_len (bs s) 0
        rw [hr, bs_len] at this
        exact this
      simp only [out, List.nil_append]
      refine Ev.yes trivial ?_
      exact places_ev s hbig (ts.map toS) (by rw [List.length_map]; omega) ts 0 0 rfl (by omega) (by omega) h1
    | bad e p =>
      have h1 := lexB_good (bs s) 0
      have h2 := lexB_err (bs s) 0
      rw [hr] at h1 h2
      have h3 := h1.1
      have h4 := h1.2
      rw [bs_len] at h4
      simp only [out]
      exact Ev.no h2 (Ev.yes rfl (Ev.yes (by omega) (Ev.yes (by omega) works_then)))
  · have hS : lexS (bs s) = .bad 6 0 := by unfold lexS; rw [if_pos (by rw [bs_len]; omega)]
    rw [hS]
    simp only [out]
    exact Ev.no (by decide) (Ev.yes rfl (Ev.yes (by decide) (Ev.yes (by omega) works_then)))
end Go.Proofs.Ytfcndngnoognmaa.Pure
