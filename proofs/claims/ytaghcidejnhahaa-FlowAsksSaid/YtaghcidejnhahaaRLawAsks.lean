/- A part of the proof of the law: what functions of the program come to, walked by Rx, or plain facts on it. -/
import Derived.Test.YtaghcidejnhahaaRWeightD
import Derived.Test.YtaghcidejnhahaaRNm2
import Derived.Test.YtaghcidejnhahaaRNm4
open Go Go.Rx Go.Proofs Go.Rx12 Go.RxTree
set_option maxRecDepth 1000000
set_option maxHeartbeats 4000000
set_option linter.unusedVariables false
set_option linter.unusedSimpArgs false
namespace Go.Rx12
theorem wArgs_ge {most : Int} (hm : 0 ≤ most) : ∀ (l : List T) (n : Int), OkL l → n ≤ wArgs most l n
  | [], n, h => Int.le_refl _
  | x :: r, n, h => by
    rw [wArgs]
    split
    · have h1 := weighT_b x most 30 h.1 hm
      have h2 := wArgs_ge hm r (n + weighT x most 30) h.2
      omega
    · exact Int.le_refl _
theorem wFlows_ge {most : Int} (hm : 0 ≤ most) : ∀ (l : List FlowT) (n : Int), (∀ f ∈ l, f.Ok) → n ≤ wFlows most l n
  | [], n, h => Int.le_refl _
  | f :: r, n, h => by
    rw [wFlows]
    split
    · have h1 := wArgs_ge hm f.iff n (h f (by simp)).2.2
      have h2 := wFlows_ge hm r (wArgs most f.iff n) (fun g hg => h g (by simp [hg]))
      omega
    · exact Int.le_refl _
theorem wPlaces_ge {most : Int} (hm : 0 ≤ most) : ∀ (l : List PlaceT) (n : Int), (∀ p ∈ l, p.Ok) → wPlaces most l n ≤ most → n + (l.length : Int) ≤ most
  | [], n, h, hle => by rw [wPlaces] at hle; simpa using hle
  | p :: r, n, h, hle => by
    rw [wPlaces] at hle
    split at hle
    · obtain ⟨_, _, _, _, q5, _, q7⟩ := h p (by simp)
      have h1 := wArgs_ge hm p.arg (n + 1 + (p.name.length : Int) / 60 + (p.out.length : Int)) q5
      have h2 := wFlows_ge hm p.out (wArgs most p.arg (n + 1 + (p.name.length : Int) / 60 + (p.out.length : Int))) q7
      have h3 := wPlaces_ge hm r _ (fun g hg => h g (by simp [hg])) hle
      have h4 : 0 ≤ (p.name.length : Int) / 60 := Int.ediv_nonneg (by omega) (by omega)
      simp only [List.length_cons]
      omega
    · omega
theorem light_places {d : DefT} (ho : d.Ok) (h : weightD d 600 ≤ 600) : d.places.length ≤ 600 := by
  obtain ⟨o1, o2, o3⟩ := ho
  have := wPlaces_ge (by decide) d.places _ o3 h
  have h4 : 0 ≤ (d.id.length : Int) / 100 := Int.ediv_nonneg (by omega) (by omega)
  omega
theorem works12 (k : Nat) (hk : 0 < k) : icall Try.prog cfg k 9 [] [] = some (.ret (.d (.bool true)), []) := by
  obtain ⟨k, rfl⟩ : ∃ j, k = j + 1 := ⟨k - 1, by omega⟩
  rfl
theorem light12 (d : DefT) (ho : d.Ok) (hs : d.Sm) (k : Nat) (hk : d.wt + 2 < k) : icall Try.prog cfg k 8 [d.av] [] = some (.ret (.d (.bool (decide (weightD d 600 ≤ 600)))), []) := by
  obtain ⟨k, rfl⟩ : ∃ j, k = j + 1 := ⟨k - 1, by omega⟩
  show icall Try.prog cfg _ _ [.agg [.d (.str d.id), .d (.list (d.places.map PlaceT.cells))]] [] = _
  rw [icall_body rfl Try.func8]
  obtain ⟨lp, hlp⟩ : ∃ lp, lp = lpOf Try.prog cfg (icall Try.prog cfg k) Try.f8.ntmps 8 k (([] : Hp).map (·.1)) := ⟨_, rfl⟩
  rw [← hlp]
  conv => lhs; whnf
  refine nextK_of (weight28 d 600 ho hs (by omega) (by omega) k (by omega)) ?_
  conv => lhs; whnf
  refine Eq.trans (b := some (Res.ret (AV.d (D.bool (decide (weightD d (600 : Int) ≤ (600 : Int))))), [])) (by kernel_rfl) ?_
  rfl
theorem law4_n (d : DefT) (ho : d.Ok) (hs : d.Sm) (a : Int) (k : Nat) (hk : d.wt + 120000 < k) (hl : decide (weightD d 600 ≤ 600) = false) : icall Try.prog cfg k 4 [d.av, .d (.int .i64 a)] [] = some (.ret (.d (.bool true)), []) := by
  obtain ⟨k, rfl⟩ : ∃ j, k = j + 1 := ⟨k - 1, by omega⟩
  have c1 := light12 d ho hs k (by omega)
  rw [hl] at c1
  show icall Try.prog cfg _ _ [.agg [.d (.str d.id), .d (.list (d.places.map PlaceT.cells))], .d (.int .i64 a)] [] = _
  rw [icall_body rfl Try.func4]
  obtain ⟨lp, hlp⟩ : ∃ lp, lp = lpOf Try.prog cfg (icall Try.prog cfg k) Try.f4.ntmps 4 k (([] : Hp).map (·.1)) := ⟨_, rfl⟩
  rw [← hlp]
  conv => lhs; whnf
  refine nextK_of c1 ?_
  conv => lhs; whnf
  refine nextK_of (works12 k (by omega)) ?_
  conv => lhs; whnf
  refine Eq.trans (b := some (Res.ret (AV.d (D.bool true)), [])) (by kernel_rfl) ?_
  rfl
theorem law4_m (d : DefT) (ho : d.Ok) (hs : d.Sm) (a : Int) (k : Nat) (hk : d.wt + 120000 < k) (hl : decide (weightD d 600 ≤ 600) = true) (hn : (d.places.all fun p => decide (p.name.length ≤ 200)) = false) : icall Try.prog cfg k 4 [d.av, .d (.int .i64 a)] [] = some (.ret (.d (.bool true)), []) := by
  obtain ⟨k, rfl⟩ : ∃ j, k = j + 1 := ⟨k - 1, by omega⟩
  have hpl := light_places ho (of_decide_eq_true hl)
  have c1 := light12 d ho hs k (by omega)
  have c2 := names13 d.id d.places (by omega) k (by omega)
  rw [hl] at c1
  rw [hn] at c2
  show icall Try.prog cfg _ _ [.agg [.d (.str d.id), .d (.list (d.places.map PlaceT.cells))], .d (.int .i64 a)] [] = _
  rw [icall_body rfl Try.func4]
  obtain ⟨lp, hlp⟩ : ∃ lp, lp = lpOf Try.prog cfg (icall Try.prog cfg k) Try.f4.ntmps 4 k (([] : Hp).map (·.1)) := ⟨_, rfl⟩
  rw [← hlp]
  conv => lhs; whnf
  refine nextK_of c1 ?_
  conv => lhs; whnf
  refine nextK_of c2 ?_
  conv => lhs; whnf
  refine nextK_of (works12 k (by omega)) ?_
  conv => lhs; whnf
  refine Eq.trans (b := some (Res.ret (AV.d (D.bool true)), [])) (by kernel_rfl) ?_
  rfl
theorem law4_e (d : DefT) (ho : d.Ok) (hs : d.Sm) (a : Int) (k : Nat) (hk : d.wt + 120000 < k) (hl : decide (weightD d 600 ≤ 600) = true) (hn : (d.places.all fun p => decide (p.name.length ≤ 200)) = true) (he : refErr d ≠ 0) : icall Try.prog cfg k 4 [d.av, .d (.int .i64 a)] [] = some (.ret (.d (.bool true)), []) := by
  obtain ⟨k, rfl⟩ : ∃ j, k = j + 1 := ⟨k - 1, by omega⟩
  have hpl := light_places ho (of_decide_eq_true hl)
  have c1 := light12 d ho hs k (by omega)
  have c2 := names13 d.id d.places (by omega) k (by omega)
  rw [hl] at c1
  rw [hn] at c2
  have u2 := uniq_len (namesOf 2 d.places)
  have u6 := uniq_len (namesOf 6 d.places)
  have v2 := namesOf_len 2 d.places
  have v6 := namesOf_len 6 d.places
  have c3 := jobs15 d.id d.places (by omega) k (by omega)
  have c4 := messages17 d.id d.places (by omega) k (by omega)
  have c5 := named16 d.id d.places (by omega) 2 k (by omega)
  have c6 := named16 d.id d.places (by omega) 6 k (by omega)
  have c7 := texts14 (uniq (namesOf 2 d.places)) (by omega) k (by omega)
  have c8 := texts14 (uniq (namesOf 6 d.places)) (by omega) k (by omega)
  have c9 := of11 d hs ho k (by omega)
  unfold shV at c9
  generalize iC (refFork d) = x1 at *
  generalize iC (refDeep d) = x2 at *
  generalize iC (refJoin d) = x3 at *
  generalize refErr d = e at *
  generalize uniq (namesOf 2 d.places) = q2 at *
  generalize uniq (namesOf 6 d.places) = q6 at *
  show icall Try.prog cfg _ _ [.agg [.d (.str d.id), .d (.list (d.places.map PlaceT.cells))], .d (.int .i64 a)] [] = _
  rw [icall_body rfl Try.func4]
  obtain ⟨lp, hlp⟩ : ∃ lp, lp = lpOf Try.prog cfg (icall Try.prog cfg k) Try.f4.ntmps 4 k (([] : Hp).map (·.1)) := ⟨_, rfl⟩
  rw [← hlp]
  conv => lhs; whnf
  refine nextK_of c1 ?_
  conv => lhs; whnf
  refine nextK_of c2 ?_
  conv => lhs; whnf
  refine iteO_t (by kernel_rfl) ?_
  conv => lhs; whnf
  refine nextK_of c3 ?_
  conv => lhs; whnf
  refine nextK_of c5 ?_
  conv => lhs; whnf
  refine nextK_of c7 ?_
  conv => lhs; whnf
  refine nextK_of c4 ?_
  conv => lhs; whnf
  refine nextK_of c6 ?_
  conv => lhs; whnf
  refine nextK_of c8 ?_
  conv => lhs; whnf
  refine iteO_t (by kernel_rfl) ?_
  conv => lhs; whnf
  refine nextK_of c9 ?_
  conv => lhs; whnf
  refine iteK_bne_t he ?_
  conv => lhs; whnf
  refine nextK_of (works12 k (by omega)) ?_
  conv => lhs; whnf
  refine Eq.trans (b := some (Res.ret (AV.d (D.bool true)), [])) (by kernel_rfl) ?_
  rfl
theorem law4_g (d : DefT) (ho : d.Ok) (hs : d.Sm) (a : Int) (k : Nat) (hk : d.wt + 120000 < k) (hl : decide (weightD d 600 ≤ 600) = true) (hn : (d.places.all fun p => decide (p.name.length ≤ 200)) = true) (he : refErr d = 0) : icall Try.prog cfg k 4 [d.av, .d (.int .i64 a)] [] = some (.ret (.d (.bool true)), []) := by
  obtain ⟨k, rfl⟩ : ∃ j, k = j + 1 := ⟨k - 1, by omega⟩
  have hpl := light_places ho (of_decide_eq_true hl)
  have c1 := light12 d ho hs k (by omega)
  have c2 := names13 d.id d.places (by omega) k (by omega)
  rw [hl] at c1
  rw [hn] at c2
  have u2 := uniq_len (namesOf 2 d.places)
  have u6 := uniq_len (namesOf 6 d.places)
  have v2 := namesOf_len 2 d.places
  have v6 := namesOf_len 6 d.places
  have c3 := jobs15 d.id d.places (by omega) k (by omega)
  have c4 := messages17 d.id d.places (by omega) k (by omega)
  have c5 := named16 d.id d.places (by omega) 2 k (by omega)
  have c6 := named16 d.id d.places (by omega) 6 k (by omega)
  have c7 := texts14 (uniq (namesOf 2 d.places)) (by omega) k (by omega)
  have c8 := texts14 (uniq (namesOf 6 d.places)) (by omega) k (by omega)
  have c9 := of11 d hs ho k (by omega)
  have hc : checkD d = 0 := by
    by_cases hc : checkD d = 0
    · exact hc
    · unfold refErr at he; rw [if_neg hc] at he; exact absurd he hc
  obtain ⟨n1, n2, _⟩ := check_ok hc
  have hok := rowsR_ok (ps := d.places) n2 (fun p hp => (check_out hc p hp).1)
  have hch := chain_of he
  have hf : refFork d = rowF (rowsR d.places).1.rows := by rw [refFork, if_pos he]
  have hfl : (refFork d).length = d.places.length := by rw [hf, rowF, List.length_map, hok.len.1]
  have hfb : ∀ b, b < d.places.length → (fkR2 d.places b).length ≤ 16 := fun b hb => (hok.fks _ (List.mem_of_getElem? (getR_some (by rw [hok.len.1]; exact hb)))).1
  -- the forks about that place, both ways
  have key : ∃ F : List Int, F.length ≤ 5000 ∧ icall Try.prog cfg k 19 [shV (refFork d) (refDeep d) (refJoin d), .d (.int .i64 a)] [] = some (.ret (.d (.list (iC F))), []) ∧
      icall Try.prog cfg k 20 [.agg [.d (.str d.id), .d (.list (d.places.map PlaceT.cells))], .d (.int .i64 a)] [] = some (.ret (.d (.list (iC F))), []) := by
    by_cases hr : 0 ≤ a ∧ a < (d.places.length : Int)
    · obtain ⟨b, rfl⟩ : ∃ b : Nat, a = (b : Int) := ⟨a.toNat, by omega⟩
      have hb : b < d.places.length := by omega
      have hcl := chain_law hok.len.1 hfb hch 16 b [] hb (hfb b hb) (by have := hfb b hb; simpa using this)
      rw [← hf, List.nil_append] at hcl
      have h19 := forks19 (refFork d) (refDeep d) (refJoin d) (b : Int) k (by omega) (by rw [hcl, List.length_reverse]; exact hfb b hb)
      rw [hcl, List.reverse_reverse] at h19
      exact ⟨fkR2 d.places b, by have := hfb b hb; omega, h19, forks20 d.id d.places d.places.length rfl n1 n2 (check_out hc) b hb k (by omega)⟩
    · have hcl : chainS (refFork d) 16 a [] = [] := chain_end (by rw [hfl]; omega)
      have h19 := forks19 (refFork d) (refDeep d) (refJoin d) a k (by omega) (by rw [hcl]; simp)
      rw [hcl] at h19
      exact ⟨[], by simp, h19, forks20o d.id d.places d.places.length rfl n1 n2 (check_out hc) a hr k (by omega)⟩
  obtain ⟨F, hF, cA, cB⟩ := key
  have cC := ints18 F hF k (by omega)
  rw [he] at c9
  clear hok hch hf hfl hfb
  unfold shV at c9 cA
  generalize iC (refFork d) = x1 at *
  generalize iC (refDeep d) = x2 at *
  generalize iC (refJoin d) = x3 at *
  generalize iC F = xF at *
  generalize uniq (namesOf 2 d.places) = q2 at *
  generalize uniq (namesOf 6 d.places) = q6 at *
  show icall Try.prog cfg _ _ [.agg [.d (.str d.id), .d (.list (d.places.map PlaceT.cells))], .d (.int .i64 a)] [] = _
  rw [icall_body rfl Try.func4]
  obtain ⟨lp, hlp⟩ : ∃ lp, lp = lpOf Try.prog cfg (icall Try.prog cfg k) Try.f4.ntmps 4 k (([] : Hp).map (·.1)) := ⟨_, rfl⟩
  rw [← hlp]
  conv => lhs; whnf
  refine nextK_of c1 ?_
  conv => lhs; whnf
  refine nextK_of c2 ?_
  conv => lhs; whnf
  refine iteO_t (by kernel_rfl) ?_
  conv => lhs; whnf
  refine nextK_of c3 ?_
  conv => lhs; whnf
  refine nextK_of c5 ?_
  conv => lhs; whnf
  refine nextK_of c7 ?_
  conv => lhs; whnf
  refine nextK_of c4 ?_
  conv => lhs; whnf
  refine nextK_of c6 ?_
  conv => lhs; whnf
  refine nextK_of c8 ?_
  conv => lhs; whnf
  refine iteO_t (by kernel_rfl) ?_
  conv => lhs; whnf
  refine nextK_of c9 ?_
  conv => lhs; whnf
  refine iteO_t (by kernel_rfl) ?_
  conv => lhs; whnf
  refine nextK_of cA ?_
  conv => lhs; whnf
  refine nextK_of cB ?_
  conv => lhs; whnf
  refine nextK_of cC ?_
  conv => lhs; whnf
  refine nextK_of (works12 k (by omega)) ?_
  conv => lhs; whnf
  refine iteO_t (by kernel_rfl) ?_
  conv => lhs; whnf
  refine Eq.trans (b := some (Res.ret (AV.d (D.bool true)), [])) (by kernel_rfl) ?_
  rfl
theorem law4 (d : DefT) (ho : d.Ok) (hs : d.Sm) (a : Int) (ha : (Lit.int .i64 a).wf = true) (k : Nat) (hk : d.wt + 120000 < k) : icall Try.prog cfg k 4 [d.av, .d (.int .i64 a)] [] = some (.ret (.d (.bool true)), []) := by
  by_cases hl : decide (weightD d 600 ≤ 600) = true
  · by_cases hn : (d.places.all fun p => decide (p.name.length ≤ 200)) = true
    · by_cases he : refErr d = 0
      · exact law4_g d ho hs a k hk hl hn he
      · exact law4_e d ho hs a k hk hl hn he
    · exact law4_m d ho hs a k hk hl (by simpa using hn)
  · exact law4_n d ho hs a k hk (by simpa using hl)
end Go.Rx12
