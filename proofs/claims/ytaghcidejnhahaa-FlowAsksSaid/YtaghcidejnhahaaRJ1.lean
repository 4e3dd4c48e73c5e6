/- A part of the proof of the law: what functions of the program come to, walked by Rx, or plain facts on it. -/
import Derived.Test.YtaghcidejnhahaaRJ0
import Derived.Test.YtaghcidejnhahaaRJ2
section
open Go Go.Rx
namespace Go.RxTree
set_option linter.unusedVariables false
theorem forkOf_app (l : List Int) (g : Int) : forkOf (l ++ [g]) = g := by
  rw [forkOf, if_pos (by simp), getI]
  simp
/-- What lies within forks, the last of which is a place that is met. -/
def Chn (n : Nat) (w : Wk) (r : Rw) (fs : List Int) : Prop :=
  fs = [] ∨ ∃ g : Nat, fs = (getR r.rows g).2 ++ [(g : Int)] ∧ g ≠ 0 ∧ g < n ∧ (getR r.rows g).1 = true ∧ getI w.up g = forkOf (getR r.rows g).2
theorem Chn.fork0 {n : Nat} {w : Wk} {r : Rw} {fs : List Int} (h : Chn n w r fs) : forkOf fs = 0 ↔ fs = [] := by
  rcases h with h | ⟨g, h1, h2, h3, h4, h5⟩
  · rw [h]; exact ⟨fun _ => rfl, fun _ => rfl⟩
  · rw [h1, forkOf_app]
    exact ⟨fun h => by omega, fun h => by simp at h⟩
theorem Chn.inj {n : Nat} {w : Wk} {r : Rw} {a b : List Int} (h : Chn n w r a) (g : Chn n w r b) : forkOf a = forkOf b ↔ a = b := by
  refine ⟨fun e => ?_, fun e => by rw [e]⟩
  by_cases h0 : a = []
  · rw [h0, forkOf_nil] at e
    rw [h0]; exact (g.fork0.1 e.symm).symm
  · have hb : b ≠ [] := fun hb => h0 (h.fork0.1 (by rw [e, hb]; rfl))
    rcases h with h | ⟨x, h1, h2, h3, h4, h5⟩
    · exact absurd h h0
    · rcases g with g | ⟨y, g1, g2, g3, g4, g5⟩
      · exact absurd g hb
      · rw [h1, g1, forkOf_app, forkOf_app] at e
        have : x = y := by omega
        subst this
        rw [h1, g1]
structure Sim (n i : Nat) (w : Wk) (r : Rw) : Prop where
  len : w.Len n
  ok : RwOk n r
  err : w.err = 0
  at' : i ≤ r.order.length
  next : w.next = r.order.drop i
  join : w.join = r.joins
  met : ∀ t, getB w.met t = (getR r.rows t).1
  fork : ∀ t, (getR r.rows t).1 = true → getI w.fork t = forkOf (getR r.rows t).2 ∧ getI w.deep t = ((getR r.rows t).2.length : Int)
  chain : ∀ t, (getR r.rows t).1 = true → Chn n w r (getR r.rows t).2
  ord : ∀ a ∈ r.order, (getR r.rows a.toNat).1 = true
theorem getR_set {l : List RowT} {i j : Nat} (h : i < l.length) (b : RowT) : getR (l.set i b) j = if i = j then b else getR l j := by
  unfold getR
  rw [List.getElem?_set]
  split <;> rename_i h1
  · subst h1; first | rfl | (rw [if_pos h]; rfl)
  · rfl
theorem enter_fail8 {w : Wk} {t : Nat} {f dp : Int} (h : getB w.met t = true) (hf : getI w.fork t ≠ f) : enterS w t f dp = w.fail 8 := by rw [enterS, if_pos h, if_neg hf]
theorem outs_errE : ∀ {l : List FlowT} {w : Wk} {f dp : Int}, w.err ≠ 0 → (outsS w l f dp).err = w.err
  | [], w, f, dp, h => rfl
  | o :: r, w, f, dp, h => by
    have he : (enterS w o.to.toNat f dp).err = w.err := by
      unfold enterS Wk.fail
      split
      · split
        · rfl
        · exact fl_e h _
      · split
        · exact fl_e h _
        · rfl
    rw [outsS, outs_errE (by rw [he]; exact h), he]
theorem sim_outs {n i : Nat} {nx : List Int} (hnx : ∀ f ∈ nx, 0 ≤ f ∧ f < (n : Int)) : ∀ {l : List FlowT} {w : Wk} {r : Rw}, outsOk l n → Sim n i w r → Chn n w r nx →
    (outsS w l (forkOf nx) (nx.length : Int)).err = (rowO l nx r).2 ∧ ((rowO l nx r).2 = 0 → Sim n i (outsS w l (forkOf nx) (nx.length : Int)) (rowO l nx r).1)
  | [], w, r, ho, S, C => by rw [rowO_nil, outsS]; exact ⟨S.err, fun _ => S⟩
  | o :: l, w, r, ho, S, C => by
    have hto := ho o (by simp)
    obtain ⟨t, hot⟩ : ∃ t : Nat, o.to = (t : Int) := ⟨o.to.toNat, by omega⟩
    have htn : t < n := by omega
    have hol : outsOk l n := fun x hx => ho x (by simp [hx])
    have hrt := getR_some (l := r.rows) (i := t) (by rw [S.ok.len.1]; exact htn)
    have hm := S.met t
    have hf := S.fork t
    have hc := S.chain t
    generalize hbf : getR r.rows t = bf at hrt hm hf hc
    obtain ⟨b, fs⟩ := bf
    dsimp only at hm hf hc
    rw [outsS, hot, Int.toNat_natCast]
    cases b with
    | true =>
      obtain ⟨hf1, hf2⟩ := hf rfl
      by_cases hs : fs = nx
      · rw [rowO_met hot _ nx hrt (by rw [sameS_eq, hs]; simp)]
        rw [show enterS w t (forkOf nx) (nx.length : Int) = w by rw [enterS, if_pos hm, if_pos (by rw [hf1, hs])]]
        exact sim_outs hnx hol S C
      · rw [rowO_dif hot _ nx hrt (by rw [sameS_eq]; simp [hs])]
        rw [enter_fail8 hm (by rw [hf1]; exact fun h => hs (((hc rfl).inj C).1 h))]
        have he : (w.fail 8).err = 8 := by show fl w.err 8 = 8; rw [S.err]; rfl
        refine ⟨by rw [outs_errE (by rw [he]; decide), he], fun h => absurd h (by show ¬ ((8 : Int) = 0); decide)⟩
    | false =>
      have hm' : ¬ getB w.met t = true := by rw [hm]; exact Bool.false_ne_true
      by_cases hs : 16 < nx.length
      · rw [rowO_lim hot _ nx hrt hs]
        rw [show enterS w t (forkOf nx) (nx.length : Int) = w.fail 6 by rw [enterS, if_neg hm', if_pos (by omega)]]
        have he : (w.fail 6).err = 6 := by show fl w.err 6 = 6; rw [S.err]; rfl
        refine ⟨by rw [outs_errE (by rw [he]; decide), he], fun h => absurd h (by show ¬ ((6 : Int) = 0); decide)⟩
      · rw [rowO_new hot _ nx hrt hs]
        rw [show enterS w t (forkOf nx) (nx.length : Int) = { w with met := w.met.set t true, fork := w.fork.set t (forkOf nx), deep := w.deep.set t (nx.length : Int), next := w.next ++ [(t : Int)] } by rw [enterS, if_neg hm', if_neg (by omega)]]
        obtain ⟨l1, l2, l3, l4, l5⟩ := S.len
        have hrl := S.ok.len.1
        have hget : ∀ j, getR (rowN r t nx).rows j = if t = j then (true, nx) else getR r.rows j := fun j => by
          show getR (r.rows.set t (true, nx)) j = _
          exact getR_set (by omega) _
        have cup : ∀ fs', Chn n w r fs' → Chn n { w with met := w.met.set t true, fork := w.fork.set t (forkOf nx), deep := w.deep.set t (nx.length : Int), next := w.next ++ [(t : Int)] } (rowN r t nx) fs' := fun fs' h => by
          rcases h with h | ⟨g, h1, h2, h3, h4, h5⟩
          · exact .inl h
          · have hne : ¬ t = g := fun h => by rw [← h, hbf] at h4; cases h4
            refine .inr ⟨g, ?_, h2, h3, ?_, ?_⟩
            · rw [hget, if_neg hne]; exact h1
            · rw [hget, if_neg hne]; exact h4
            · rw [hget, if_neg hne]; exact h5
        refine sim_outs hnx hol ?_ (cup nx C)
        refine ⟨⟨by simpa using l1, by simpa using l2, by simpa using l3, l4, l5⟩, rowN_ok S.ok htn ⟨by omega, hnx⟩ hrt, S.err, ?_, ?_, S.join, fun j => ?_, fun j hj => ?_, fun j hj => ?_, fun a ha => ?_⟩
        · show i ≤ (r.order ++ [(t : Int)]).length
          have := S.at'; simp; omega
        · show w.next ++ [(t : Int)] = (r.order ++ [(t : Int)]).drop i
          rw [List.drop_append_of_le_length S.at', S.next]
        · show getB (w.met.set t true) j = _
          rw [getB_set (by omega), hget]
          split
          · rfl
          · exact S.met j
        · show getI (w.fork.set t (forkOf nx)) j = _ ∧ getI (w.deep.set t (nx.length : Int)) j = _
          rw [hget] at hj ⊢
          rw [getI_set (by omega), getI_set (by omega)]
          by_cases h : t = j
          · rw [if_pos h, if_pos h, if_pos h]; exact ⟨rfl, rfl⟩
          · rw [if_neg h] at hj ⊢
            rw [if_neg h, if_neg h]; exact S.fork j hj
        · rw [hget] at hj ⊢
          by_cases h : t = j
          · rw [if_pos h]; exact cup nx C
          · rw [if_neg h] at hj ⊢; exact cup _ (S.chain j hj)
        · rw [hget]
          split
          · rfl
          · rename_i hne
            rcases List.mem_append.1 ha with h | h
            · exact S.ord a h
            · rw [List.mem_singleton] at h; exact absurd (by omega) hne
end Go.RxTree
end
section
open Go Go.Rx
namespace Go.RxTree
set_option linter.unusedVariables false
theorem getI_last (l : List Int) (g : Int) : getI (l ++ [g]) ((l ++ [g]).length - 1) = g := by rw [getI]; simp
theorem Sim.pop {n i : Nat} {w : Wk} {r : Rw} {a : Nat} (S : Sim n i w r) (h : r.order[i]? = some (a : Int)) : w.next = (a : Int) :: r.order.drop (i + 1) ∧ Sim n (i + 1) { w with next := r.order.drop (i + 1) } r := by
  obtain ⟨h1, h2⟩ := List.getElem?_eq_some_iff.1 h
  refine ⟨by rw [S.next, List.drop_eq_getElem_cons h1, h2], ?_⟩
  exact ⟨S.len, S.ok, S.err, h1, rfl, S.join, S.met, S.fork, S.chain, S.ord⟩
theorem sim_leave {n i : Nat} {w : Wk} {r : Rw} {a : Nat} {p : PlaceT} (hp : PlOk p n) (h0 : p.kind = 4 → a ≠ 0) (ha : a < n) (S : Sim n i w r) (hm : (getR r.rows a).1 = true) :
    (leaveS p w a).err = (rowS p a r).2 ∧ ((rowS p a r).2 = 0 → Sim n i (leaveS p w a) (rowS p a r).1) := by
  have hrt := getR_some (l := r.rows) (i := a) (by rw [S.ok.len.1]; exact ha)
  obtain ⟨hf1, hf2⟩ := S.fork a hm
  have hc := S.chain a hm
  have hfk := S.ok.fks _ (List.mem_of_getElem? hrt)
  have hnx := after_mem (k := p.kind) (a := a) (n := n) (by omega) hfk.2
  obtain ⟨l1, l2, l3, l4, l5⟩ := S.len
  generalize hbf : getR r.rows a = bf at hrt hm hf1 hf2 hc hfk hnx
  obtain ⟨b, fs⟩ := bf
  dsimp only at hm hf1 hf2 hc hfk hnx
  subst hm
  have fail8 : (w.fail 8).err = 8 := by show fl w.err 8 = 8; rw [S.err]; rfl
  unfold leaveS
  by_cases g8 : p.kind = 8
  · rw [if_pos g8]
    have hout : p.out = [] := by
      have := hp.len.2
      rw [g8] at this
      have h8 : mostK 8 = 0 := by decide
      exact List.eq_nil_of_length_eq_zero (by omega)
    by_cases hz : fs = []
    · have ha2 : afterS p.kind a fs = ([], true) := by rw [g8, hz]; rfl
      rw [rowT_o hrt (by rw [ha2]) (by omega), hout, rowO_nil, if_pos (by rw [hf1, hz]; rfl)]
      exact ⟨S.err, fun _ => S⟩
    · have ha2 : (afterS p.kind a fs).2 = false := by
        rw [g8, afterS, if_neg (by decide), if_neg (by decide), if_pos rfl]
        exact decide_eq_false (fun h => hz (List.eq_nil_of_length_eq_zero h))
      rw [rowT_no hrt ha2, if_neg (by rw [hf1]; exact fun h => hz (hc.fork0.1 h))]
      exact ⟨fail8, fun h => absurd h (by show ¬ ((8 : Int) = 0); decide)⟩
  · rw [if_neg g8]
    by_cases g4 : p.kind = 4
    · rw [if_pos g4]
      have ha2 : afterS p.kind a fs = (fs ++ [(a : Int)], true) := by rw [g4]; rfl
      rw [ha2] at hnx
      rw [rowT_o hrt (by rw [ha2]) (by omega), ha2]
      have up : ∀ fs', Chn n w r fs' → Chn n { w with up := w.up.set a (getI w.fork a) } r fs' := fun fs' h => by
        rcases h with h | ⟨g, q1, q2, q3, q4, q5⟩
        · exact .inl h
        · refine .inr ⟨g, q1, q2, q3, q4, ?_⟩
          show getI (w.up.set a (getI w.fork a)) g = _
          rw [getI_set (by omega)]
          split
          · rename_i hag; rw [← hag, hbf, hf1]
          · exact q5
      have S1 : Sim n i { w with up := w.up.set a (getI w.fork a) } r := ⟨⟨l1, l2, l3, l4, by simpa using l5⟩, S.ok, S.err, S.at', S.next, S.join, S.met, S.fork, fun t ht => up _ (S.chain t ht), S.ord⟩
      have C1 : Chn n { w with up := w.up.set a (getI w.fork a) } r (fs ++ [(a : Int)]) := by
        refine .inr ⟨a, by rw [hbf], h0 g4, ha, by rw [hbf], ?_⟩
        show getI (w.up.set a (getI w.fork a)) a = _
        rw [getI_set (by omega), if_pos rfl, hbf, hf1]
      have := sim_outs hnx hp.out S1 C1
      rw [forkOf_app, show (((fs ++ [(a : Int)]).length : Nat) : Int) = getI w.deep a + 1 by rw [hf2]; simp] at this
      exact this
    · rw [if_neg g4]
      by_cases g5 : p.kind = 5
      · rw [if_pos g5]
        by_cases hz : fs = []
        · have ha2 : (afterS p.kind a fs).2 = false := by rw [g5, hz]; rfl
          rw [rowT_no hrt ha2, if_pos (.inl (by rw [hf1, hz]; rfl))]
          exact ⟨fail8, fun h => absurd h (by show ¬ ((8 : Int) = 0); decide)⟩
        · rcases hc with hc | ⟨g, q1, q2, q3, q4, q5⟩
          · exact absurd hc hz
          · have hlen : fs.length ≠ 0 := fun h => hz (List.eq_nil_of_length_eq_zero h)
            have ha2 : afterS p.kind a fs = (fs.dropLast, true) := by rw [g5, afterS, if_neg (by decide), if_pos rfl, if_neg hlen]
            have hdl : fs.dropLast = (getR r.rows g).2 := by rw [q1]; simp
            have hlast : getI fs (fs.length - 1) = (g : Int) := by rw [q1]; exact getI_last _ _
            have hfg : getI w.fork a = (g : Int) := by rw [hf1, q1, forkOf_app]
            rw [ha2] at hnx
            rw [hfg, Int.toNat_natCast, S.join]
            by_cases hj : getI r.joins g = 0 ∨ getI r.joins g = (a : Int)
            · rw [if_neg (by omega), rowT_j hrt (by rw [ha2]) g5 hlast hj, ha2]
              have S1 : Sim n i { w with join := r.joins.set g (a : Int) } (rowK r g a) := ⟨⟨l1, l2, l3, by rw [S.join] at l4; simpa using l4, l5⟩, rowK_ok S.ok g a, S.err, S.at', S.next, rfl, S.met, S.fork, S.chain, S.ord⟩
              have C1 : Chn n { w with join := r.joins.set g (a : Int) } (rowK r g a) fs.dropLast := by rw [hdl]; exact S.chain g q4
              have := sim_outs hnx hp.out S1 C1
              rw [show ((fs.dropLast.length : Nat) : Int) = getI w.deep a - 1 by rw [hf2, List.length_dropLast]; omega, show forkOf fs.dropLast = getI w.up g by rw [hdl, q5]] at this
              exact this
            · rw [if_pos (.inr ⟨by omega, by omega⟩), rowT_8 hrt (by rw [ha2]) g5 hlast (by omega) (by omega)]
              exact ⟨fail8, fun h => absurd h (by show ¬ ((8 : Int) = 0); decide)⟩
      · rw [if_neg g5]
        have ha2 : afterS p.kind a fs = (fs, true) := by rw [afterS, if_neg g4, if_neg g5, if_neg g8]
        rw [ha2] at hnx
        rw [rowT_o hrt (by rw [ha2]) g5, ha2, hf1, hf2]
        exact sim_outs hnx hp.out S hc
theorem sim_walk {ps : List PlaceT} {n : Nat} (hps : PsOk ps n) : ∀ {m i : Nat} {w : Wk} {r : Rw}, Sim n i w r →
    (walkS ps m w).err = (rowsS ps m i r).2 ∧ ((rowsS ps m i r).2 = 0 → ∃ i', Sim n i' (walkS ps m w) (rowsS ps m i r).1)
  | 0, i, w, r, S => ⟨S.err, fun _ => ⟨i, S⟩⟩
  | m + 1, i, w, r, S => by
    by_cases hi : r.order.length ≤ i
    · rw [rowsS_end hi, walkS_nil (by rw [S.next, List.drop_eq_nil_of_le hi])]
      exact ⟨S.err, fun _ => ⟨i, S⟩⟩
    · have hoi := getI_some (l := r.order) (i := i) (by omega)
      have hb := S.ok.ord _ (List.mem_of_getElem? hoi)
      obtain ⟨a, ha⟩ : ∃ a : Nat, getI r.order i = (a : Int) := ⟨(getI r.order i).toNat, by omega⟩
      rw [ha] at hoi hb
      have hlt : a < ps.length := by have := hps.len; omega
      have hp : ps[a]? = some ps[a] := List.getElem?_eq_getElem hlt
      generalize ps[a] = p at hp
      obtain ⟨hnx, S1⟩ := S.pop hoi
      have hst : stepS ps w = leaveS p { w with next := r.order.drop (i + 1) } a := by
        rw [stepS, hnx]; simp only [Int.toNat_natCast, hp]
      have hmet : (getR r.rows a).1 = true := by
        have := S.ord _ (List.mem_of_getElem? hoi)
        rwa [Int.toNat_natCast] at this
      obtain ⟨h1, h2⟩ := sim_leave (hps.pl p (List.mem_of_getElem? hp)) (hps.fork0 a p hp) (by omega) S1 hmet
      rw [walkS, if_neg (by rw [hnx, S.err]; simp), hst]
      by_cases he : (rowS p a r).2 = 0
      · rw [rowsS_go hoi hp he]
        exact sim_walk hps (h2 he)
      · rw [rowsS_err hoi hp he, walkS_err (by rw [h1]; exact he)]
        exact ⟨h1, fun h => absurd h he⟩
theorem getR_rep (n i : Nat) : getR (List.replicate n (false, [])) i = (false, []) := by
  unfold getR; rw [List.getElem?_replicate]; split <;> rfl
theorem getB_rep (n i : Nat) : getB (List.replicate n false) i = false := by
  unfold getB; rw [List.getElem?_replicate]; split <;> rfl
theorem sim_start {n : Nat} (h : 0 < n) : Sim n 0 (startW n) (rowsW n) := by
  have hg : ∀ t, getR (rowsW n).rows t = if 0 = t then (true, []) else (false, []) := fun t => by
    show getR ((List.replicate n (false, [])).set 0 (true, [])) t = _
    rw [getR_set (by simpa using h), getR_rep]
  have hf : ∀ t, getI ((List.replicate n 0).set 0 0) t = 0 := fun t => by
    rw [getI_set (by simpa using h)]; split
    · rfl
    · exact getI_rep
  refine ⟨start_len n, rowsW_ok h, rfl, Nat.zero_le _, rfl, rfl, fun t => ?_, fun t ht => ?_, fun t ht => ?_, fun a ha => ?_⟩
  · show getB ((List.replicate n false).set 0 true) t = _
    rw [getB_set (by simpa using h), hg, getB_rep]
    split <;> rfl
  · rw [hg] at ht ⊢
    split at ht
    · rename_i h0
      rw [if_pos h0]
      exact ⟨hf t, hf t⟩
    · cases ht
  · rw [hg]
    split <;> exact .inl rfl
  · simp only [rowsW, List.mem_singleton] at ha
    subst ha
    rw [hg]; rfl
theorem endE_e {w : Wk} : ∀ {l : List PlaceT} {i : Nat} {e : Int}, e ≠ 0 → endE w l i e = e
  | [], i, e, h => rfl
  | q :: r, i, e, h => by
    rw [endE, fl_e h, ite_self]; exact endE_e h
theorem endE_R {n i' : Nat} {w : Wk} {r : Rw} (S : Sim n i' w r) : ∀ {l : List PlaceT} {i : Nat}, i + l.length = n → endE w l i 0 = if endR l (r.rows.drop i) (r.joins.drop i) = true then 0 else 8
  | [], i, h => by rw [endE, endR]; rfl; intros; simp_all
  | p :: l, i, h => by
    simp only [List.length_cons] at h
    have h1 := S.ok.len.1
    have h2 := S.ok.len.2
    have hr := getR_some (l := r.rows) (i := i) (by omega)
    have hj := getI_some (l := r.joins) (i := i) (by omega)
    have hm := S.met i
    obtain ⟨e1, e2⟩ := List.getElem?_eq_some_iff.1 hr
    obtain ⟨e3, e4⟩ := List.getElem?_eq_some_iff.1 hj
    rw [List.drop_eq_getElem_cons e1, List.drop_eq_getElem_cons e3, endE, endR, e2, e4]
    have hb : badP w p i = decide ((getR r.rows i).1 = false ∨ (p.kind = 4 ∧ getI r.joins i = 0)) := by
      rw [badP, hm, S.join]
      cases (getR r.rows i).1 <;> by_cases h4 : p.kind = 4 <;> by_cases h5 : getI r.joins i = 0 <;> simp [h4, h5]
    by_cases hc : (getR r.rows i).1 = false ∨ (p.kind = 4 ∧ getI r.joins i = 0)
    · rw [hb, if_pos (decide_eq_true hc), if_pos hc, show fl 0 8 = 8 from rfl, endE_e (by decide)]; rfl
    · rw [hb, if_neg (by rw [decide_eq_false hc]; exact Bool.false_ne_true), if_neg hc]
      exact endE_R S (by omega)
theorem endR_all : ∀ {ps : List PlaceT} {rs : List RowT} {js : List Int}, rs.length = ps.length → js.length = ps.length → endR ps rs js = true → ∀ r ∈ rs, r.1 = true
  | [], rs, js, h1, h2, h, r, hr => by
    rw [List.eq_nil_of_length_eq_zero h1] at hr; cases hr
  | p :: ps, [], js, h1, h2, h, r, hr => by cases hr
  | p :: ps, q :: rs, [], h1, h2, h, r, hr => by simp at h2
  | p :: ps, q :: rs, j :: js, h1, h2, h, r, hr => by
    rw [endR] at h
    split at h
    · cases h
    · rename_i hc
      rcases List.mem_cons.1 hr with h3 | h3
      · subst h3
        cases hq : r.1 with
        | true => rfl
        | false => exact absurd (.inl hq) hc
      · exact endR_all (by simpa using h1) (by simpa using h2) h r h3
/-- Both come to the same. -/
theorem ref_of {d : DefT} (hc : checkD d = 0) : walkE d.places = refE d.places ∧ (refE d.places = 0 → (walkW d.places).fork = rowF (rowsR d.places).1.rows ∧ (walkW d.places).deep = rowD (rowsR d.places).1.rows ∧ (walkW d.places).join = (rowsR d.places).1.joins) := by
  have hps := check_ps hc
  obtain ⟨c1, c2, _⟩ := check_ok hc
  generalize d.places = ps at *
  obtain ⟨h1, h2⟩ := sim_walk hps (m := ps.length) (sim_start c2)
  unfold walkE refE walkW rowsR
  generalize walkS ps ps.length (startW ps.length) = w at *
  generalize rowsS ps ps.length 0 (rowsW ps.length) = q at *
  obtain ⟨r, e⟩ := q
  dsimp only at *
  by_cases he : e = 0
  · subst he
    obtain ⟨i', S⟩ := h2 rfl
    have hE := endE_R S (l := ps) (i := 0) (by omega)
    rw [List.drop_zero, List.drop_zero] at hE
    rw [h1, hE, if_pos rfl]
    refine ⟨rfl, fun h => ?_⟩
    have hall : endR ps r.rows r.joins = true := by
      cases hh : endR ps r.rows r.joins with
      | true => rfl
      | false => rw [hh] at h; exact absurd h (by decide)
    have hm := endR_all (by rw [S.ok.len.1]) (by rw [S.ok.len.2]) hall
    refine ⟨?_, ?_, S.join⟩
    · refine List.ext_getElem? fun t => ?_
      rw [rowF, List.getElem?_map]
      by_cases ht : t < ps.length
      · have hr := getR_some (l := r.rows) (i := t) (by rw [S.ok.len.1]; exact ht)
        rw [getI_some (by rw [S.len.2.1]; exact ht), hr, (S.fork t (hm _ (List.mem_of_getElem? hr))).1]; rfl
      · rw [List.getElem?_eq_none (by rw [S.len.2.1]; omega), List.getElem?_eq_none (by rw [S.ok.len.1]; omega)]; rfl
    · refine List.ext_getElem? fun t => ?_
      rw [rowD, List.getElem?_map]
      by_cases ht : t < ps.length
      · have hr := getR_some (l := r.rows) (i := t) (by rw [S.ok.len.1]; exact ht)
        rw [getI_some (by rw [S.len.2.2.1]; exact ht), hr, (S.fork t (hm _ (List.mem_of_getElem? hr))).2]; rfl
      · rw [List.getElem?_eq_none (by rw [S.len.2.2.1]; omega), List.getElem?_eq_none (by rw [S.ok.len.1]; omega)]; rfl
  · rw [h1, endE_e he, if_neg he]
    exact ⟨rfl, fun h => absurd h he⟩
theorem ref_err (d : DefT) : ofErr d = refErr d := by
  unfold ofErr refErr
  by_cases hc : checkD d = 0
  · rw [if_pos hc, if_pos hc]; exact (ref_of hc).1
  · rw [if_neg hc, if_neg hc]
theorem ref_same (d : DefT) : ofFork d = refFork d ∧ ofDeep d = refDeep d ∧ ofJoin d = refJoin d := by
  unfold ofFork refFork ofDeep refDeep ofJoin refJoin
  rw [ref_err]
  by_cases he : refErr d = 0
  · rw [if_pos he, if_pos he, if_pos he, if_pos he, if_pos he, if_pos he]
    have hc : checkD d = 0 := by
      by_cases hc : checkD d = 0
      · exact hc
      · unfold refErr at he; rw [if_neg hc] at he; exact absurd he hc
    unfold refErr at he
    rw [if_pos hc] at he
    exact (ref_of hc).2 he
  · rw [if_neg he, if_neg he, if_neg he, if_neg he, if_neg he, if_neg he]
    exact ⟨rfl, rfl, rfl⟩
end Go.RxTree
end
