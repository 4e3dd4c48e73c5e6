/- A part of the proof of the law: what functions of the program come to, walked by Rx, or plain facts on it. -/
import Derived.Test.YtaghcidejnhahaaRMove4
import Derived.Test.YtaghcidejnhahaaRJ1
open Go Go.Rx Go.Proofs Go.Rx12 Go.RxTree
set_option maxRecDepth 1000000
set_option maxHeartbeats 4000000
set_option linter.unusedVariables false
set_option linter.unusedSimpArgs false
namespace Go.Rx12
theorem rest_nil {w : Nat} {T : List TokT} : restS w 0 T = [] ∨ ∃ x r, restS w 0 T = x :: r := by
  cases restS w 0 T with
  | nil => exact .inl rfl
  | cons x r => exact .inr ⟨x, r, rfl⟩
/-- Move, in a game in which no token was lost. -/
theorem move21 (id : List UInt8) (ps : List PlaceT) (n : Nat) (hps : PsOk ps n) (hn : n ≤ 4096) (hn0 : 0 < n) (hO : ∀ p ∈ ps, outsOk p.out n ∧ p.out.length ≤ 16) (K : Closed ps (fkR ps)) (T : List TokT) (C F : List Int) (P : List (List Int)) (G : GInv ps n (fkR ps) T C F P)
    (htl : T.length ≤ 4000) (hcl : C.length ≤ 900) (w : Nat) (a : Nat) (pys : List Int) (ht : T[w]? = some ((a : Int), pys)) (p : PlaceT) (hp : ps[a]? = some p) (fl : Int) (hf0 : 0 ≤ fl) (k : Nat) (hk : 110001 ≤ k) :
    ∃ T' C', icall Try.prog cfg k 21 [.agg [.d (.str id), .d (.list (ps.map PlaceT.cells))], gameV T C, .d (.int .i64 (w : Int)), .d (.int .i64 fl)] [] = some (.ret (gameV T' C'), []) ∧
      (p.kind = 8 → T.length = 1) ∧ T'.length ≤ T.length + 16 ∧ C'.length ≤ C.length + 1 ∧ (T' = [] ∨ ∃ F' P', GInv ps n (fkR ps) T' C' F' P') := by
  obtain ⟨k, rfl⟩ : ∃ j, k = j + 1 := ⟨k - 1, by omega⟩
  have hPl := hps.len
  have hpm := List.mem_of_getElem? hp
  obtain ⟨ho, hol⟩ := hO p hpm
  have hpk := hps.pl p hpm
  obtain ⟨t1, t2, t3⟩ := G.tok _ (List.mem_of_getElem? ht)
  dsimp only at t2 t3
  rw [Int.toNat_natCast] at t3
  have hlen := rest_len ht
  have hok := rowsR_ok (ps := ps) (by omega) (fun p hp => by rw [hPl]; exact (hO p hp).1)
  have han : a < n := by have := (List.getElem?_eq_some_iff.1 hp).1; omega
  have hfkb : (fkR ps a).length ≤ 16 := (hok.fks _ (List.mem_of_getElem? (getR_some (by rw [hok.len.1, hPl]; exact han)))).1
  have hpyl : pys.length ≤ 1000 := by rw [t3, List.length_map] at hfkb; omega
  by_cases h8 : p.kind = 8
  · have hr := g_end G K ht hp h8
    have h1 : T.length = 1 := by rw [hlen, hr]; rfl
    by_cases hC : C = []
    · obtain ⟨q1, q2, q3⟩ := g_one G hC ht
      subst hC; subst q2
      exact ⟨[], [], mv8N id ps n hPl hn hn0 hO T (by omega) fl a p hp q3 h8 k (by omega), fun _ => h1, by simp, by simp, .inl rfl⟩
    · refine ⟨[], C, ?_, fun _ => h1, by simp, by omega, .inl rfl⟩
      have hpy : pys = [] := by
        obtain ⟨k1, k2⟩ := K.cl a p hp
        rw [h8, afterS, if_neg (by decide), if_neg (by decide), if_pos rfl] at k1
        have hfl := of_decide_eq_true k1
        rw [t3, List.length_map] at hfl
        exact List.eq_nil_of_length_eq_zero hfl
      rw [hpy] at ht
      exact mv8C id ps n hPl hn hn0 hO T (by omega) fl a p hp C hC (by omega) w ht hr h8 k (by omega)
  · by_cases h4 : p.kind = 4
    · have h0 : 0 < p.out.length := by
        have := hpk.len.1
        rw [h4] at this
        have h2 : leastK 4 = 2 := by decide
        omega
      have G' := g_fork G K ht hp ho h4 h0
      have hfl : (restS w 0 T ++ forkT p.out (pys ++ [(C.length : Int)])).length ≤ T.length + 16 := by
        rw [List.length_append, forkT, List.length_map]; omega
      by_cases hC : C = []
      · obtain ⟨q1, q2, q3⟩ := g_one G hC ht
        subst hC; subst q2; subst q1
        refine ⟨_, _, ?_, fun h => absurd h h8, hfl, by simp, .inr ⟨_, _, G'⟩⟩
        rw [show restS 0 0 T = [] by rw [q3]; rfl]
        exact mv4A id ps n hPl hn hn0 hO T (by omega) fl a p hp q3 h4 h0 k (by omega)
      · refine ⟨_, _, ?_, fun h => absurd h h8, hfl, by simp, .inr ⟨_, _, G'⟩⟩
        rcases rest_nil (w := w) (T := T) with hr | ⟨x, r, hr⟩
        · rw [hr]
          by_cases hpy : pys = []
          · subst hpy; exact mv4C id ps n hPl hn hn0 hO T (by omega) fl a p hp C hC (by omega) w ht hr h4 h0 k (by omega)
          · exact mv4E id ps n hPl hn hn0 hO T (by omega) fl a p hp C hC (by omega) w pys hpy hpyl ht hr h4 h0 k (by omega)
        · rw [hr]
          by_cases hpy : pys = []
          · subst hpy; exact mv4B id ps n hPl hn hn0 hO T (by omega) fl a p hp C hC (by omega) w x r ht hr h4 h0 k (by omega)
          · exact mv4D id ps n hPl hn hn0 hO T (by omega) fl a p hp C hC (by omega) w x r pys hpy hpyl ht hr h4 h0 k (by omega)
    · have hl0 : 0 < p.out.length := by
        have := hpk.len.1
        have h2 : 1 ≤ leastK p.kind := by
          have := hpk.kind
          unfold leastK
          split <;> (try split) <;> omega
        omega
      have hml : fl.toNat % p.out.length < p.out.length := Nat.mod_lt _ hl0
      have hfo : p.out[fl.toNat % p.out.length]? = some p.out[fl.toNat % p.out.length] := List.getElem?_eq_getElem hml
      generalize p.out[fl.toNat % p.out.length] = o at hfo
      have hof := List.mem_of_getElem? hfo
      by_cases h5 : p.kind = 5
      · obtain ⟨q, hq, hpy, hfn, hg, gA, gB⟩ := g_join G K ht hp ho h5
        have hpn : pys ≠ [] := by rw [hpy]; simp
        have hC : C ≠ [] := fun h => by rw [h] at hq; exact absurd hq (Nat.not_lt_zero _)
        have hql : getI pys (pys.length - 1) = (q : Int) := by rw [hpy]; exact getI_last _ _
        have hqc := getI_some (l := C) (i := q) hq
        have hfl1 : (fkR ps a).length ≠ 0 := fun h => hfn (List.eq_nil_of_length_eq_zero h)
        have hgb := (hok.fks _ (List.mem_of_getElem? (getR_some (i := a) (by rw [hok.len.1, hPl]; exact han)))).2 _ (List.mem_of_getElem? (getI_some (l := fkR ps a) (i := (fkR ps a).length - 1) (by omega)))
        rw [hg] at hgb
        obtain ⟨g, hgg⟩ : ∃ g : Nat, getI F q = (g : Int) := ⟨(getI F q).toNat, by omega⟩
        rw [hgg] at hgb hg gA gB
        have hpgg : ps[g]? = some ps[g] := List.getElem?_eq_getElem (by omega)
        generalize ps[g] = pg at hpgg
        have hoLg : oL ps (g : Int) = (pg.out.length : Int) := by rw [oL, Int.toNat_natCast, hpgg]; rfl
        rw [hoLg] at gA gB
        have hcq := G.c0 q hq
        have hcn := G.cnt q hq
        rw [hgg, hoLg] at hcn
        have hpgl := (hO pg (List.mem_of_getElem? hpgg)).2
        by_cases hc : getI C q + 1 < (pg.out.length : Int)
        · refine ⟨_, _, ?_, fun h => absurd h h8, by omega, by simp, .inr ⟨_, _, gA hc⟩⟩
          rcases rest_nil (w := w) (T := T) with hr | ⟨x, r, hr⟩
          · rw [hr]
            exact mv5aE id ps n hPl hn hn0 hO T (by omega) fl a p hp C hC (by omega) w pys hpn hpyl ht hr h5 q g (getI C q) hql hqc (by omega) hfn hg pg hpgg hc k (by omega)
          · rw [hr]
            exact mv5aD id ps n hPl hn hn0 hO T (by omega) fl a p hp C hC (by omega) w x r pys hpn hpyl ht hr h5 q g (getI C q) hql hqc (by omega) hfn hg pg hpgg hc k (by omega)
        · refine ⟨_, _, ?_, fun h => absurd h h8, by rw [List.length_append, List.length_singleton]; omega, by simp, .inr ⟨_, _, gB hc o hof⟩⟩
          rcases rest_nil (w := w) (T := T) with hr | ⟨x, r, hr⟩
          · rw [hr]
            exact mv5bE id ps n hPl hn hn0 hO T (by omega) fl a p hp C hC (by omega) w pys hpn hpyl ht hr o hl0 hfo hf0 h5 q g (getI C q) hql hqc (by omega) hfn hg pg hpgg hc k (by omega)
          · rw [hr]
            exact mv5bD id ps n hPl hn hn0 hO T (by omega) fl a p hp C hC (by omega) w x r pys hpn hpyl ht hr o hl0 hfo hf0 h5 q g (getI C q) hql hqc (by omega) hfn hg pg hpgg hc k (by omega)
      · have G' := g_other G K ht hp ho h8 h4 h5 hof
        have hfl : (restS w 0 T ++ [(o.to, pys)]).length ≤ T.length + 16 := by rw [List.length_append, List.length_singleton]; omega
        refine ⟨_, _, ?_, fun h => absurd h h8, hfl, Nat.le_succ _, .inr ⟨_, _, G'⟩⟩
        by_cases hC : C = []
        · obtain ⟨q1, q2, q3⟩ := g_one G hC ht
          subst hC; subst q2; subst q1
          rw [show restS 0 0 T = [] by rw [q3]; rfl]
          exact mvoA id ps n hPl hn hn0 hO T (by omega) fl a p hp q3 h8 h4 h5 o hl0 hfo hf0 k (by omega)
        · rcases rest_nil (w := w) (T := T) with hr | ⟨x, r, hr⟩
          · rw [hr]
            by_cases hpy : pys = []
            · subst hpy; exact mvoC id ps n hPl hn hn0 hO T (by omega) fl a p hp C hC (by omega) w ht hr h8 h4 h5 o hl0 hfo hf0 k (by omega)
            · exact mvoE id ps n hPl hn hn0 hO T (by omega) fl a p hp C hC (by omega) w pys hpy hpyl ht hr h8 h4 h5 o hl0 hfo hf0 k (by omega)
          · rw [hr]
            by_cases hpy : pys = []
            · subst hpy; exact mvoB id ps n hPl hn hn0 hO T (by omega) fl a p hp C hC (by omega) w x r ht hr h8 h4 h5 o hl0 hfo hf0 k (by omega)
            · exact mvoD id ps n hPl hn hn0 hO T (by omega) fl a p hp C hC (by omega) w x r pys hpy hpyl ht hr h8 h4 h5 o hl0 hfo hf0 k (by omega)
end Go.Rx12
