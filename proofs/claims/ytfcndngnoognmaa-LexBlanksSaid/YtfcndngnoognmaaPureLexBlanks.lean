/- LexBlanks: how many blanks stand between two texts plays no part, if there is one. For all two texts and any number. -/
import Derived.Test.YtfcndngnoognmaaLexSplitEvLexBlanks
namespace Go.Proofs.Ytfcndngnoognmaa.Pure
open Go.RowKit Go.Proofs.Ytfcndngnoognmaa.Lx Go.Proofs.Ytfcndngnoognmaa.PLexBlanks Go.Proofs.YtfcndngnoognmaaW.PrintWords Go.Proofs.YtfcndngnoognmaaW.PrintLast Go.Proofs.YtfcndngnoognmaaW.PrintMore
set_option linter.unusedVariables false
set_option linter.unusedSimpArgs false

theorem alike_ev (A B : List S32) (hA : A.length ≤ 9000) (h : ∀ i : Nat, i < A.length → (rd_T32 A i).f0 = (rd_T32 B i).f0 ∧ (rd_T32 A i).f1 = (rd_T32 B i).f1 ∧ (rd_T32 A i).f2 = (rd_T32 B i).f2) (hl : A.length = B.length) :
    ∀ (d i : Nat), i + d = A.length → Ev (fun k => funicularlaw06_LexBlanks.l1 k A B (i : Int)) true := by
  intro d
  induction d with
  | zero =>
    intro i hi
    apply Ev.next
    simp only [funicularlaw06_LexBlanks.l1]
    exact Ev.no (by omega) works_then
  | succ d ih =>
    intro i hi
    obtain ⟨h0, h1, h2⟩ := h i (by omega)
    apply Ev.next
    simp only [funicularlaw06_LexBlanks.l1]
    refine Ev.yes (by omega) (Ev.yes (by omega) (Ev.yes (by omega) (Ev.yes h0 (Ev.yes (by rw [h1]) (Ev.yes h2 ?_)))))
    rw [wr (by omega) (by omega), show (i : Int) + 1 = ((i + 1 : Nat) : Int) from by omega]
    exact ih (i + 1) (by omega)

theorem rd_lt (l : List S32) (i : Nat) (h : i < l.length) : rd_T32 l (i : Int) = l[i] := by
  unfold rd_T32
  rw [Int.toNat_natCast, List.getD_eq_getElem?_getD, List.getElem?_eq_getElem h, Option.getD_some]

theorem two_ev (a b : ByteArray) (ha : a.size ≤ 1500) (hb : b.size ≤ 1500) (m : Nat) (hm : m ≤ 60) :
    ∀ x y, x = out [] (lexS (bs (a ++ (⟨#[32]⟩ : ByteArray) ++ b))) → y = out [] (lexS (bs (a ++ (⟨(List.replicate (m + 1) 32).toArray⟩ : ByteArray) ++ b))) →
    Ev (fun k => if x.2.1 = y.2.1 then (funicularlaw06_LexBlanks.j2 k x.1 y.1 ((x.1.length : Int) != (y.1.length : Int))) else (funicularlaw06_LexBlanks.j2 k x.1 y.1 true)) true := by
  rintro _ _ rfl rfl
  have e1 : bs (a ++ (⟨#[32]⟩ : ByteArray) ++ b) = bs a ++ 32 :: bs b := by
    rw [bs_append, bs_append, List.append_assoc]; rfl
  have e2 : bs (a ++ (⟨(List.replicate (m + 1) 32).toArray⟩ : ByteArray) ++ b) = bs a ++ 32 :: (List.replicate m 32 ++ bs b) := by
    rw [bs_append, bs_append, List.append_assoc, bs_mk, List.replicate_succ]; rfl
  have hX : lexS (bs a ++ 32 :: bs b) = (lexB (bs a) 0).then (lexB (bs b) (0 + (bs a).length + 1)) := by
    unfold lexS
    rw [if_neg (by rw [List.length_append, List.length_cons, bs_len, bs_len]; omega), lexB_app]
  have hY : lexS (bs a ++ 32 :: (List.replicate m 32 ++ bs b)) = (lexB (bs a) 0).then ((lexB (bs b) (0 + (bs a).length + 1)).shift (m : Int)) := by
    unfold lexS
    rw [if_neg (by rw [List.length_append, List.length_cons, List.length_append, List.length_replicate, bs_len, bs_len]; omega), lexB_app, lexB_blanks, lexB_shift]
  rw [e1, e2, hX, hY]
  have hlenA := lexB_len (bs a) 0
  have hlenB := lexB_len (bs b) (0 + (bs a).length + 1)
  rw [bs_len a] at hlenA
  rw [bs_len b] at hlenB
  have nil_go : Ev (fun k => funicularlaw06_LexBlanks.j2 k [] [] ((([] : List S32).length : Int) != (([] : List S32).length : Int))) true := by
    apply Ev.next
    simp only [funicularlaw06_LexBlanks.j2]
    exact Ev.no (by decide) (alike_ev [] [] (by simp) (fun i h => by simp at h) rfl 0 0 rfl)
  cases hra : lexB (bs a) 0 with
  | bad e p => simp only [out, Res.then]; exact Ev.yes trivial nil_go
  | ok la =>
    rw [hra] at hlenA
    cases hrb : lexB (bs b) (0 + (bs a).length + 1) with
    | bad e p => simp only [out, Res.then, Res.shift]; exact Ev.yes trivial nil_go
    | ok lb =>
      rw [hrb] at hlenB
      simp only [out, Res.then, Res.shift, List.nil_append]
      refine Ev.yes trivial ?_
      have hl : ((la ++ lb).map toS).length = ((la ++ lb.map (Tok.shift (m : Int))).map toS).length := by simp
      rw [show ((((la ++ lb).map toS).length : Int) != (((la ++ lb.map (Tok.shift (m : Int))).map toS).length : Int)) = false from by rw [hl]; simp]
      apply Ev.next
      simp only [funicularlaw06_LexBlanks.j2]
      refine Ev.no (by decide) (alike_ev _ _ (by rw [List.length_map, List.length_append]; omega) (fun i h => ?_) hl _ 0 (Nat.zero_add _))
      rw [rd_lt _ i h, rd_lt _ i (by rw [← hl]; exact h)]
      simp only [List.getElem_map, List.getElem_append, List.length_map]
      split
      · exact ⟨rfl, rfl, rfl⟩
      · exact ⟨rfl, rfl, rfl⟩

theorem more_ev (a b : ByteArray) (n : Int) (ha : a.size ≤ 1500) (hb : b.size ≤ 1500) (h0 : 0 ≤ n) (h1 : n < 256) : ∀ (d i : Nat), (i : Int) + d = Int.tmod n 60 →
    Ev (fun k => funicularlaw06_LexBlanks.l0 k a b n ⟨(List.replicate (i + 1) 32).toArray⟩ (i : Int)) true := by
  have hn : wrap64 n = n := wr (by omega) (by omega)
  have hmod : Int.tmod n 60 = n % 60 := Int.tmod_eq_emod_of_nonneg h0
  have h32 : (⟨#[32]⟩ : ByteArray).size = 1 := rfl
  have hsz : ∀ i : Nat, (⟨(List.replicate (i + 1) 32).toArray⟩ : ByteArray).size = i + 1 := fun i => by rw [← bs_len, bs_mk, List.length_replicate]
  intro d
  induction d with
  | zero =>
    intro i hi
    apply Ev.next
    simp only [funicularlaw06_LexBlanks.l0]
    rw [hn]
    refine Ev.no (by omega) (Ev.yes (by omega) (Ev.yes (by rw [ByteArray.size_append, h32]; omega) (Ev.bind (split_ev _) (Ev.yes (by rw [hsz]; omega) (Ev.yes (by rw [ByteArray.size_append, hsz]; omega) (Ev.bind (split_ev _) ?_))))))
    exact two_ev a b ha hb i (by omega) _ _ rfl rfl
  | succ d ih =>
    intro i hi
    apply Ev.next
    simp only [funicularlaw06_LexBlanks.l0]
    rw [hn]
    refine Ev.yes (by omega) (Ev.yes (by rw [hsz]; omega) ?_)
    have e : (⟨(List.replicate (i + 1) 32).toArray⟩ : ByteArray) ++ (⟨#[32]⟩ : ByteArray) = ⟨(List.replicate (i + 1 + 1) 32).toArray⟩ := by
      apply bs_inj
      rw [bs_append, bs_mk, bs_mk, List.replicate_succ' (n := i + 1)]
      rfl
    rw [e, wr (by omega) (by omega), show (i : Int) + 1 = ((i + 1 : Nat) : Int) from by omega]
    exact ih (i + 1) (by omega)

theorem LexBlanks : funicularlaw06_LexBlanks.Pure := by
  intro a b n ha0 hb0 hn
  have hn' : 0 ≤ n ∧ n < 256 := by
    have h1 := hn
    simp only [Lit.wf, Bool.and_eq_true, decide_eq_true_eq] at h1
    have h2 : IntKind.min .u8 = 0 := rfl
    have h3 : IntKind.max .u8 = 255 := rfl
    omega
  refine Ev.rounds ?_
  simp only [funicularlaw06_LexBlanks.f]
  have hbig : Ev (fun k => funicularlaw06_LexBlanks.j0 k a b n true) true := by
    apply Ev.next
    simp only [funicularlaw06_LexBlanks.j0]
    exact Ev.yes trivial works_then
  refine Ev.cases (fun _ => hbig) (fun ha => ?_)
  by_cases hb : (b.size : Int) > 1500
  · rw [decide_eq_true hb]; exact hbig
  rw [decide_eq_false hb]
  apply Ev.next
  simp only [funicularlaw06_LexBlanks.j0]
  refine Ev.no (by decide) ?_
  have hmod : Int.tmod n 60 = n % 60 := Int.tmod_eq_emod_of_nonneg hn'.1
  exact more_ev a b n (by omega) (by omega) hn'.1 hn'.2 (n % 60).toNat 0 (by omega)
end Go.Proofs.Ytfcndngnoognmaa.Pure
