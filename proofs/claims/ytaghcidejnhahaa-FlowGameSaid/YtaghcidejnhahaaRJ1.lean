/- A part of the proof of the law: what functions of the program come to, walked by Rx, or plain facts on it. -/
import Derived.Test.YtaghcidejnhahaaRJ0
import Derived.Test.YtaghcidejnhahaaRJ2
section
open Go Go.Rx
namespace Go.RxTree
set_option linter.unusedVariables false
theorem forkOf_app (l : List Int) (g : Int) : forkOf (l ++ [g]) = g := by
  rw [forkOf, if_pos (by simp), getI]
  simp
/-- What lies within forks, the last of which is a place that is met. -/
def Chn (n : Nat) (w : Wk) (r : Rw) (fs : List Int) : Prop :=
  fs = [] ∨ ∃ g : Nat, fs = (getR r.rows g).2 ++ [(g : Int)] ∧ g ≠ 0 ∧ g < n ∧ (getR r.rows g).1 = true ∧ getI w.up g = forkOf (getR r.rows g).2
theorem Chn.fork0 {n : Nat} {w : Wk} {r : Rw} {fs : List Int} (h : Chn n w r fs) : forkOf fs = 0 ↔ fs = [] := by
  rcases h with h | ⟨g, h1, h2, h3, h4, h5⟩
  · rw [h]; exact ⟨fun _ => rfl, fun _ => rfl⟩
  · rw [h1, forkOf_app]
    exact ⟨fun h => by omega, fun h => by simp at h⟩
theorem Chn.inj {n : Nat} {w : Wk} {r : Rw} {a b : List Int} (h : Chn n w r a) (g : Chn n w r b) : forkOf a = forkOf b ↔ a = b := by
  refine ⟨fun e => ?_, fun e => by rw [e]⟩
  by_cases h0 : a = []
  · rw [h0, forkOf_nil] at e
    rw [h0]; exact (g.fork0.1 e.symm).symm
  · have hb : b ≠ [] := fun hb => h0 (h.fork0.1 (by rw [e, hb]; rfl))
    rcases h with h | ⟨x, h1, h2, h3, h4, h5⟩
    · exact absurd h h0
    · rcases g with g | ⟨y, g1, g2, g3, g4, g5⟩
      · exact absurd g hb
      · rw [h1, g1, forkOf_app, forkOf_app] at e
        have : x = y := by omega
        subst this
        rw [h1, g1]
structure Sim (n i : Nat) (w : Wk) (r : Rw) : Prop where
  len : w.Len n
  ok : RwOk n r
  err : w.err = 0
  at' : i ≤ r.order.length
  next : w.next = r.order.drop i
  join : w.join = r.joins
  met : ∀ t, getB w.met t = (getR r.rows t).1
  fork : ∀ t, (getR r.rows t).1 = true → getI w.fork t = forkOf (getR r.rows t).2 ∧ getI w.deep t = ((getR r.rows t).2.length : Int)
  chain : ∀ t, (getR r.rows t).1 = true → Chn n w r (getR r.rows t).2
  ord : ∀ a ∈ r.order, (getR r.rows a.toNat).1 = true
theorem getR_set {l : List RowT} {i j : Nat} (h : i < l.length) (b : RowT) : getR (l.set i b) j = if i = j then b else getR l j := by
  unfold getR
  rw [List.getElem?_set]
  split <;> rename_i h1
  · subst h1; first | rfl | (rw [if_pos h]; rfl)
  · rfl
theorem enter_fail8 {w : Wk} {t : Nat} {f dp : Int} (h : getB w.met t = true) (hf : getI w.fork t ≠ f) : enterS w t f dp = w.fail 8 := by rw [enterS, if_pos h, if_neg hf]
theorem outs_errE : ∀ {l : List FlowT} {w : Wk} {f dp : Int}, w.err ≠ 0 → (outsS w l f dp).err = w.err
  | [], w, f, dp, h => rfl
  | o :: r, w, f, dp, h => by
    have he : (enterS w o.to.toNat f dp).err = w.err := by
      unfold enterS Wk.fail
      split
      · split
        · rfl
        · exact fl_e h _
      · split
        · exact fl_e h _
        · rfl
    rw [outsS, outs_errE (by rw [he]; exact h), he]
theorem sim_outs {n i : Nat} {nx : List Int} (hnx : ∀ f ∈ nx, 0 ≤ f ∧ f < (n : Int)) : ∀ {l : List FlowT} {w : Wk} {r : Rw}, outsOk l n → Sim n i w r → Chn n w r nx →
    (outsS w l (forkOf nx) (nx.length : Int)).err = (rowO l nx r).2 ∧ ((rowO l nx r).2 = 0 → Sim n i (outsS w l (forkOf nx) (nx.length : Int)) (rowO l nx r).1)
  | [], w, r, ho, S, C => by rw [rowO_nil, outsS]; exact ⟨S.err, fun _ => S⟩
  | o :: l, w, r, ho, S, C => by
    have hto := ho o (by simp)
    obtain ⟨t, hot⟩ : ∃ t : Nat, o.to = (t : Int) := ⟨o.to.toNat, by omega⟩
    have htn : t < n := by omega
    have hol : outsOk l n := fun x hx => ho x (by simp [hx])
    have hrt := getR_some (l := r.rows) (i := t) (by rw [S.ok.len.1]; exact htn)
    have hm := S.met t
    have hf := S.fork t
    have hc := S.chain t
    generalize hbf : getR r.rows t = bf at hrt hm hf hc
    obtain ⟨b, fs⟩ := bf
    dsimp only at hm hf hc
    rw [outsS, hot, Int.toNat_natCast]
    cases b with
    | true =>
      obtain ⟨hf1, hf2⟩ := hf rfl
      by_cases hs : fs = nx
      · rw [rowO_met hot _ nx hrt (by rw [sameS_eq, hs]; simp)]
        rw [show enterS w t (forkOf nx) (nx.length : Int) = w by rw [enterS, if_pos hm, if_pos (by rw [hf1, hs])]]
        exact sim_outs hnx hol S C
      · rw [rowO_dif hot _ nx hrt (by rw [sameS_eq]; simp [hs])]
        rw [enter_fail8 hm (by rw [hf1]; exact fun h => hs (((hc rfl).inj C).1 h))]
        have he : (w.fail 8).err = 8 := by show fl w.err 8 = 8; rw [S.err]; rfl
        refine ⟨by rw [outs_errE (by rw [he]; decide), he], fun h => absurd h (by show ¬ ((8 : Int) = 0); decide)⟩
    | false =>
      have hm' : ¬ getB w.met t = true := by rw [hm]; exact Bool.false_ne_true
      by_cases hs : 16 < nx.length
      · rw [rowO_lim hot _ nx hrt hs]
        rw [show enterS w t (forkOf nx) (nx.length : Int) = w.fail 6 by rw [enterS, if_neg hm', if_pos (by omega)]]
        have he : (w.fail 6).err = 6 := by show fl w.err 6 = 6; rw [S.err]; rfl
        refine ⟨by rw [outs_errE (by rw [he]; decide), he], fun h => absurd h (by show ¬ ((6 : Int) = 0); decide)⟩
      · rw [rowO_new hot _ nx hrt hs]
        rw [show enterS w t (forkOf nx) (nx.length : Int) = { w with met := w.met.set t true, fork := w.fork.set t (forkOf nx), deep := w.deep.set t (nx.length : Int), next := w.next ++ [(t : Int)] } by rw [enterS, if_neg hm', if_neg (by omega)]]
        obtain ⟨l1, l2, l3, l4, l5⟩ := S.len
        have hrl := S.ok.len.1
        have hget : ∀ j, getR (rowN r t nx).rows j = if t = j then (true, nx) else getR r.rows j := fun j => by
          show getR (r.rows.set t (true, nx)) j = _
          exact getR_set (by omega) _
        have cup : ∀ fs', Chn n w r fs' → Chn n { w with met := w.met.set t true, fork := w.fork.set t (forkOf nx), deep := w.deep.set t (nx.length : Int), next := w.next ++ [(t : Int)] } (rowN r t nx) fs' := fun fs' h => by
          rcases h with h | ⟨g, h1, h2, h3, h4, h5⟩
          · exact .inl h
          · have hne : ¬ t = g := fun h => by rw [← h, hbf] at h4; cases h4
            refine .inr ⟨g, ?_, h2, h3, ?_, ?_⟩
            · rw [hget, if_neg hne]; exact h1
            · rw [hget, if_neg hne]; exact h4
            · rw [hget, if_neg hne]; exact h5
        refine sim_outs hnx hol ?_ (cup nx C)
        refine ⟨⟨by simpa using l1, by simpa using l2, by simpa using l3, l4, l5⟩, rowN_ok S.ok htn ⟨by omega, hnx⟩ hrt, S.err, ?_, ?_, S.join, fun j => ?_, fun j hj => ?_, fun j hj => ?_, fun a ha => ?_⟩
        · show i ≤ (r.order ++ [(t : Int)]).length
          have := S.at'; simp; omega
        · show w.next ++ [(t : Int)] = (r.order ++ [(t : Int)]).drop i
          rw [List.drop_append_of_le_length S.at', S.next]
        · show getB (w.met.set t true) j = _
          rw [getB_set (by omega), hget]
          split
          · rfl
          · exact S.met j
        · show getI (w.fork.set t (forkOf nx)) j = _ ∧ getI (w.deep.set t (nx.length : Int)) j = _
          rw [hget] at hj ⊢
          rw [getI_set (by omega), getI_set (by omega)]
          by_cases h : t = j
          · rw [if_pos h, if_pos h, if_pos h]; exact ⟨rfl, rfl⟩
          · rw [if_neg h] at hj ⊢
            rw [if_neg h, if_neg h]; exact S.fork j hj
        · rw [hget] at hj ⊢
          by_cases h : t = j
          · rw [if_pos h]; exact cup nx C
          · rw [if_neg h] at hj ⊢; exact cup _ (S.chain j hj)
        · rw [hget]
          split
          · rfl
          · rename_i hne
            rcases List.mem_append.1 ha with h | h
            · exact S.ord a h
            · rw [List.mem_singleton] at h; exact absurd (by omega) hne
end Go.RxTree
end
section
open Go Go.Rx
namespace Go.RxTree
set_option linter.unusedVariables false
theorem getI_last (l : List Int) (g : Int) : getI (l ++ [g]) ((l ++ [g]).length - 1) = g := by rw [getI]; simp
theorem Sim.pop {n i : Nat} {w : Wk} {r : Rw} {a : Nat} (S : Sim n i w r) (h : r.order[i]? = some (a : Int)) : w.next = (a : Int) :: r.order.drop (i + 1) ∧ Sim n (i + 1) { w with next := r.order.drop (i + 1) } r := by
  obtain ⟨h1, h2⟩ := List.getElem?_eq_some_iff.1 h
  refine ⟨by rw [S.next, List.drop_eq_getElem_cons h1, h2], ?_⟩
  exact ⟨S.len, S.ok, S.err, h1, rfl, S.join, S.met, S.fork, S.chain, S.ord⟩
theorem sim_leave {n i : Nat} {w : Wk} {r : Rw} {a : Nat} {p : PlaceT} (hp : PlOk p n) (h0 : p.kind = 4 → a ≠ 0) (ha : a < n) (S : Sim n i w r) (hm : (getR r.rows a).1 = true) :
    (leaveS p w a).err = (rowS p a r).2 ∧ ((rowS p a r).2 = 0 → Sim n i (leaveS p w a) (rowS p a r).1) := by
  have hrt := getR_some (l := r.rows) (i := a) (by rw [S.ok.len.1]; exact ha)
  obtain ⟨hf1, hf2⟩ := S.fork a hm
  have hc := S.chain a hm
  have hfk := S.ok.fks _ (List.mem_of_getElem? hrt)
  have hnx := after_mem (k := p.kind) (a := a) (n := n) (by omega) hfk.2
  obtain ⟨l1, l2, l3, l4, l5⟩ := S.len
  generalize hbf : getR r.rows a = bf at hrt hm hf1 hf2 hc hfk hnx
  obtain ⟨b, fs⟩ := bf
  dsimp only at hm hf1 hf2 hc hfk hnx
  subst hm
  have fail8 : (w.fail 8).err = 8 := by show fl w.err 8 = 8; rw [S.err]; rfl
  unfold leaveS
  by_cases g8 : p.kind = 8
  · rw [if_pos g8]
    have hout : p.out = [] := by
      have := hp.len.2
      rw [g8] at this
      have h8 : mostK 8 = 0 := by decide
      exact List.eq_nil_of_length_eq_zero (by omega)
    by_cases hz : fs = []
    · have ha2 : afterS p.kind a fs = ([], true) := by rw [g8, hz]; rfl
      rw [rowT_o hrt (by rw [ha2]) (by omega), hout, rowO_nil, if_pos (by rw [hf1, hz]; rfl)]
      exact ⟨S.err, fun _ => S⟩
    · have ha2 : (afterS p.kind a fs).2 = false := by
        rw [g8, afterS, if_neg (by decide), if_neg (by decide), if_pos rfl]
        exact decide_eq_false (fun h => hz (List.eq_nil_of_length_eq_zero h))
      rw [rowT_no hrt ha2, if_neg (by rw [hf1]; exact fun h => hz (hc.fork0.1 h))]
      exact ⟨fail8, fun h => absurd h (by show ¬ ((8 : Int) = 0); decide)⟩
  · rw [if_neg g8]
    by_cases g4 : p.kind = 4
    · rw [if_pos g4]
      have ha2 : afterS p.kind a fs = (fs ++ [(a : Int)], true) := by rw [g4]; rfl
      rw [ha2] at hnx
      rw [rowT_o hrt (by rw [ha2]) (by omega), ha2]
      have up : ∀ fs', Chn n w r fs' → Chn n { w with up := w.up.set a (getI w.fork a) } r fs' := fun fs' h => by
        rcases h with h | ⟨g, q1, q2, q3, q4, q5⟩
        · exact .inl h
        · refine .inr ⟨g, q1, q2, q3, q4, ?_⟩
          show getI (w.up.set a (getI w.fork a)) g = _
          rw [getI_set (by omega)]
          split
          · rename_i hag; rw [← hag, hbf, hf1]
          · exact q5
      have S1 : Sim n i { w with up := w.up.set a (getI w.fork a) } r := ⟨⟨l1, l2, l3, l4, by simpa using l5⟩, S.ok, S.err, S.at', S.next, S.join, S.met, S.fork, fun t ht => up _ (S.chain t ht), S.ord⟩
      have C1 : Chn n { w with up := w.up.set a (getI w.fork a) } r (fs ++ [(a : Int)]) := by
        refine .inr ⟨a, by rw [hbf], h0 g4, ha, by rw [hbf], ?_⟩
        show getI (w.up.set a (getI w.fork a)) a = _
        rw [getI_set (by omega), if_pos rfl, hbf, hf1]
      have := sim_outs hnx hp.out S1 C1
      rw [forkOf_app, show (((fs ++ [(a : Int)]).length : Nat) : Int) = getI w.deep a + 1 by rw [hf2]; simp] at this
      exact this
    · rw [if_neg g4]
      by_cases g5 : p.kind = 5
      · rw [if_pos g5]
        by_cases hz : fs = []
        · have ha2 : (afterS p.kind a fs).2 = false := by rw [g5, hz]; rfl
          rw [rowT_no hrt ha2, if_pos (.inl (by rw [hf1, hz]; rfl))]
          exact ⟨fail8, fun h => absurd h (by show ¬ ((8 : Int) = 0); decide)⟩
        · rcases hc with hc | ⟨g, q1, q2, q3, q4, q5⟩
          · exact absurd hc hz
          · have hlen : fs.length ≠ 0 := fun h => hz (List.eq_nil_of_length_eq_zero h)
            have ha2 : afterS p.kind a fs = (fs.dropLast, true) := by rw [g5, afterS, if_neg (by decide), if_pos rfl, if_neg hlen]
            have hdl : fs.dropLast = (getR r.rows g).2 := by rw [q1]; simp
            have hlast : getI fs (fs.length - 1) = (g : Int) := by rw [q1]; exact getI_last _ _
            have hfg : getI w.fork a = (g : Int) := by rw [hf1, q1, forkOf_app]
            rw [ha2] at hnx
            rw [hfg, Int.toNat_natCast, S.join]
            by_cases hj : getI r.joins g = 0 ∨ getI r.joins g = (a : Int)
            · rw [if_neg (by omega), rowT_j hrt (by rw [ha2]) g5 hlast hj, ha2]
              have S1 : Sim n i { w with join := r.joins.set g (a : Int) } (rowK r g a) := ⟨⟨l1, l2, l3, by rw [S.join] at l4; simpa using l4, l5⟩, rowK_ok S.ok g a, S.err, S.at', S.next, rfl, S.met, S.fork, S.chain, S.ord⟩
              have C1 : Chn n { w with join := r.joins.set g (a : Int) } (rowK r g a) fs.dropLast := by rw [hdl]; exact S.chain g q4
              have := sim_outs hnx hp.out S1 C1
              rw [show ((fs.dropLast.length : Nat) : Int) = getI w.deep a - 1 by rw [hf2, List.length_dropLast]; omega, show forkOf fs.dropLast = getI w.up g by rw [hdl, q5]] at this
              exact this
            · rw [if_pos (.inr ⟨by omega, by omega⟩), rowT_8 hrt (by rw [ha2]) g5 hlast (by omega) (by omega)]
              exact ⟨fail8, fun h => absurd h (by show ¬ ((8 : Int) = 0); decide)⟩
      · rw [if_neg g5]
        have ha2 : afterS p.kind a fs = (fs, true) := by rw [afterS, if_neg g4, if_neg g5, if_neg g8]
        rw [ha2] at hnx
        rw [rowT_o hrt (by rw [ha2]) g5, ha2, hf1, hf2]
        exact sim_outs hnx hp.out S hc
theorem sim_walk {ps : List PlaceT} {n : Nat} (hps : PsOk ps n) : ∀ {m i : Nat} {w : Wk} {r : Rw}, Sim n i w r →
    (walkS ps m w).err = (rowsS ps m i r).2 ∧ ((rowsS ps m i r).2 = 0 → ∃ i', Sim n i' (walkS ps m w) (rowsS ps m i r).1)
  | 0, i, w, r, S => ⟨S.err, fun _ => ⟨i, S⟩⟩
  | m + 1, i, w, r, S => by
    by_cases hi : r.order.length ≤ i
    · rw [rowsS_end hi, walkS_nil (by rw [S.next, List.drop_eq_nil_of_le hi])]
      exact ⟨S.err, fun _ => ⟨i, S⟩⟩
    · have hoi := getI_some (l := r.order) (i := i) (by omega)
      have hb := S.ok.ord _ (List.mem_of_getElem? hoi)
      obtain ⟨a, ha⟩ : ∃ a : Nat, getI r.order i = (a : Int) := ⟨(getI r.order i).toNat, by omega⟩
      rw [ha] at hoi hb
      have hlt : a < ps.length := by have := hps.len; omega
      have hp : ps[a]? = some ps[a] := List.getElem?_eq_getElem hlt
      generalize ps[a] = p at hp
      obtain ⟨hnx, S1⟩ := S.pop hoi
      have hst : stepS ps w = leaveS p { w with next := r.order.drop (i + 1) } a := by
        rw [stepS, hnx]; simp only [Int.toNat_natCast, hp]
      have hmet : (getR r.rows a).1 = true := by
        have := S.ord _ (List.mem_of_getElem? hoi)
        rwa [Int.toNat_natCast] at this
      obtain ⟨h1, h2⟩ := sim_leave (hps.pl p (List.mem_of_getElem? hp)) (hps.fork0 a p hp) (by omega) S1 hmet
      rw [walkS, if_neg (by rw [hnx, S.err]; simp), hst]
      by_cases he : (rowS p a r).2 = 0
      · rw [rowsS_go hoi hp he]
        exact sim_walk hps (h2 he)
      · rw [rowsS_err hoi hp he, walkS_err (by rw [h1]; exact he)]
        exact ⟨h1, fun h => absurd h he⟩
theorem getR_rep (n i : Nat) : getR (List.replicate n (false, [])) i = (false, []) := by
  unfold getR; rw [List.getElem?_replicate]; split <;> rfl
theorem getB_rep (n i : Nat) : getB (List.replicate n false) i = false := by
  unfold getB; rw [List.getElem?_replicate]; split <;> rfl
theorem sim_start {n : Nat} (h : 0 < n) : Sim n 0 (startW n) (rowsW n) := by
  have hg : ∀ t, getR (rowsW n).rows t = if 0 = t then (true, []) else (false, []) := fun t => by
    show getR ((List.replicate n (false, [])).set 0 (true, [])) t = _
    rw [getR_set (by simpa using h), getR_rep]
  have hf : ∀ t, getI ((List.replicate n 0).set 0 0) t = 0 := fun t => by
    rw [getI_set (by simpa using h)]; split
    · rfl
    · exact getI_rep
  refine ⟨start_len n, rowsW_ok h, rfl, Nat.zero_le _, rfl, rfl, fun t => ?_, fun t ht => ?_, fun t ht => ?_, fun a ha => ?_⟩
  · show getB ((List.replicate n false).set 0 true) t = _
    rw [getB_set (by simpa using h), hg, getB_rep]
    split <;> rfl
  · rw [hg] at ht ⊢
    split at ht
    · rename_i h0
      rw [if_pos h0]
      exact ⟨hf t, hf t⟩
    · cases ht
  · rw [hg]
    split <;> exact .inl rfl
  · simp only [rowsW, List.mem_singleton] at ha
    subst ha
    rw [hg]; rfl
theorem endE_e {w : Wk} : ∀ {l : List PlaceT} {i : Nat} {e : Int}, e ≠ 0 → endE w l i e = e
  | [], i, e, h => rfl
  | q :: r, i, e, h => by
    rw [endE, fl_e h, ite_self]; exact endE_e h
theorem endE_R {n i' : Nat} {w : Wk} {r : Rw} (S : Sim n i' w r) : ∀ {l : List PlaceT} {i : Nat}, i + l.length = n → endE w l i 0 = if endR l (r.rows.drop i) (r.joins.drop i) = true then 0 else 8
  | [], i, h => by rw [endE, endR]; rfl; intros; simp_all
  | p :: l, i, h => by
    simp only [List.length_cons] at h
    have h1 := S.ok.len.1
    have h2 := S.ok.len.2
    have hr := getR_some (l := r.rows) (i := i) (by omega)
    have hj := getI_some (l := r.joins) (i := i) (by omega)
    have hm := S.met i
    obtain ⟨e1, e2⟩ := List.getElem?_eq_some_iff.1 hr
    obtain ⟨e3, e4⟩ := List.getElem?_eq_some_iff.1 hj
    rw [List.drop_eq_getElem_cons e1, List.drop_eq_getElem_cons e3, endE, endR, e2, e4]
    have hb : badP w p i = decide ((getR r.rows i).1 = false ∨ (p.kind = 4 ∧ getI r.joins i = 0)) := by
      rw [badP, hm, S.join]
      cases (getR r.rows i).1 <;> by_cases h4 : p.kind = 4 <;> by_cases h5 : getI r.joins i = 0 <;> simp [h4, h5]
    by_cases hc : (getR r.rows i).1 = false ∨ (p.kind = 4 ∧ getI r.joins i = 0)
    · rw [hb, if_pos (decide_eq_true hc), if_pos hc, show fl 0 8 = 8 from rfl, endE_e (by decide)]; rfl
    · rw [hb, if_neg (by rw [decide_eq_false hc]; exact Bool.false_ne_true), if_neg hc]
      exact endE_R S (by omega)
theorem endR_all : ∀ {ps : List PlaceT} {rs : List RowT} {js : List Int}, rs.length = ps.length → js.length = ps.length → endR ps rs js = true → ∀ r ∈ rs, r.1 = true
  | [], rs, js, h1, h2, h, r, hr => by
    rw [List.eq_nil_of_length_eq_zero h1] at hr; cases hr
  | p :: ps, [], js, h1, h2, h, r, hr => by cases hr
  | p :: ps, q :: rs, [], h1, h2, h, r, hr => by simp at h2
  | p :: ps, q :: rs, j :: js, h1, h2, h, r, hr => by
    rw [endR] at h
    split at h
    · cases h
    · rename_i hc
      rcases List.mem_cons.1 hr with h3 | h3
      · subst h3
        cases hq : r.1 with
        | true => rfl
        | false => exact absurd (.inl hq) hc
      · exact endR_all (by simpa using h1) (by simpa using h2) h r h3
/-- Both come to the same. -/
theorem ref_of {d : DefT} (hc : checkD d = 0) : walkE d.places = refE d.places ∧ (refE d.places = 0 → (walkW d.places).fork = rowF (rowsR d.places).1.rows ∧ (walkW d.places).deep = rowD (rowsR d.places).1.rows ∧ (walkW d.places).join = (rowsR d.places).1.joins) := by
  have hps := check_ps hc
  obtain ⟨c1, c2, _⟩ := check_ok hc
  generalize d.places = ps at *
  obtain ⟨h1, h2⟩ := sim_walk hps (m := ps.length) (sim_start c2)
  unfold walkE refE walkW rowsR
  generalize walkS ps ps.length (startW ps.length) = w at *
  generalize rowsS ps ps.length 0 (rowsW ps.length) = q at *
  obtain ⟨r, e⟩ := q
  dsimp only at *
  by_cases he : e = 0
  · subst he
    obtain ⟨i', S⟩ := h2 rfl
    have hE := endE_R S (l := ps) (i := 0) (by omega)
    rw [List.drop_zero, List.drop_zero] at hE
    rw [h1, hE, if_pos rfl]
    refine ⟨rfl, fun h => ?_⟩
    have hall : endR ps r.rows r.joins = true := by
      cases hh : endR ps r.rows r.joins with
      | true => rfl
      | false => rw [hh] at h; exact absurd h (by decide)
    have hm := endR_all (by rw [S.ok.len.1]) (by rw [S.ok.len.2]) hall
    refine ⟨?_, ?_, S.join⟩
    · refine List.ext_getElem? fun t => ?_
      rw [rowF, List.getElem?_map]
      by_cases ht : t < ps.length
      · have hr := getR_some (l := r.rows) (i := t) (by rw [S.ok.len.1]; exact ht)
        rw [getI_some (by rw [S.len.2.1]; exact ht), hr, (S.fork t (hm _ (List.mem_of_getElem? hr))).1]; rfl
      · rw [List.getElem?_eq_none (by rw [S.len.2.1]; omega), List.getElem?_eq_none (by rw [S.ok.len.1]; omega)]; rfl
    · refine List.ext_getElem? fun t => ?_
      rw [rowD, List.getElem?_map]
      by_cases ht : t < ps.length
      · have hr := getR_some (l := r.rows) (i := t) (by rw [S.ok.len.1]; exact ht)
        rw [getI_some (by rw [S.len.2.2.1]; exact ht), hr, (S.fork t (hm _ (List.mem_of_getElem? hr))).2]; rfl
      · rw [List.getElem?_eq_none (by rw [S.len.2.2.1]; omega), List.getElem?_eq_none (by rw [S.ok.len.1]; omega)]; rfl
  · rw [h1, endE_e he, if_neg he]
    exact ⟨rfl, fun h => absurd h he⟩
theorem ref_err (d : DefT) : ofErr d = refErr d := by
  unfold ofErr refErr
  by_cases hc : checkD d = 0
  · rw [if_pos hc, if_pos hc]; exact (ref_of hc).1
  · rw [if_neg hc, if_neg hc]
theorem ref_same (d : DefT) : ofFork d = refFork d ∧ ofDeep d = refDeep d ∧ ofJoin d = refJoin d := by
  unfold ofFork refFork ofDeep refDeep ofJoin refJoin
  rw [ref_err]
  by_cases he : refErr d = 0
  · rw [if_pos he, if_pos he, if_pos he, if_pos he, if_pos he, if_pos he]
    have hc : checkD d = 0 := by
      by_cases hc : checkD d = 0
      · exact hc
      · unfold refErr at he; rw [if_neg hc] at he; exact absurd he hc
    unfold refErr at he
    rw [if_pos hc] at he
    exact (ref_of hc).2 he
  · rw [if_neg he, if_neg he, if_neg he, if_neg he, if_neg he, if_neg he]
    exact ⟨rfl, rfl, rfl⟩
end Go.RxTree
end
section
open Go Go.Rx
namespace Go.RxTree
set_option linter.unusedVariables false
/-- A token: where it stands; its plays. -/
abbrev TokT := Int × List Int
def tC (l : List TokT) : List (List D) := l.map fun t => [.int .i64 t.1, .list (iC t.2)]
theorem tC_len (l : List TokT) : (tC l).length = l.length := List.length_map ..
theorem tC_get {l : List TokT} {i : Nat} {a : Int} {f : List Int} (h : l[i]? = some (a, f)) : (tC l)[i]? = some [.int .i64 a, .list (iC f)] := by rw [tC, List.getElem?_map, h]; rfl
theorem tC_app (l : List TokT) (a : Int) (f : List Int) : (tC l).take l.length ++ [[.int .i64 a, .list (iC f)]] = tC (l ++ [(a, f)]) := by
  rw [List.take_of_length_le (by rw [tC_len]; exact Nat.le_refl _), tC, tC, List.map_append]; rfl
theorem tC_full (l : List TokT) : (tC l).take l.length = tC l := List.take_of_length_le (by rw [tC_len]; exact Nat.le_refl _)
/-- All tokens but one. -/
def restS (w : Nat) : Nat → List TokT → List TokT
  | i, [] => []
  | i, t :: r => if i = w then restS w (i + 1) r else t :: restS w (i + 1) r

/-- What a fork's tokens are. -/
def forkT (l : List FlowT) (f : List Int) : List TokT := l.map fun o => (o.to, f)
theorem forkT_drop {l : List FlowT} {i : Nat} {o : FlowT} (h : l[i]? = some o) (f : List Int) : forkT (l.drop i) f = (o.to, f) :: forkT (l.drop (i + 1)) f := by
  obtain ⟨h1, h2⟩ := List.getElem?_eq_some_iff.1 h
  rw [List.drop_eq_getElem_cons h1, h2]; rfl
end Go.RxTree
end
section
open Go Go.Rx
namespace Go.RxTree
set_option linter.unusedVariables false
def metR (r : Rw) (t : Nat) : Prop := (getR r.rows t).1 = true
def MO (r : Rw) : Prop := (∀ t, metR r t → (t : Int) ∈ r.order) ∧ (∀ a ∈ r.order, metR r a.toNat)
structure RExt (r v : Rw) : Prop where
  same : ∀ t, metR r t → getR v.rows t = getR r.rows t
  order : ∃ l, v.order = r.order ++ l
  mo : MO r → MO v
theorem RExt.refl (r : Rw) : RExt r r := ⟨fun t h => rfl, ⟨[], (List.append_nil _).symm⟩, fun h => h⟩
theorem RExt.met {r v : Rw} (h : RExt r v) {t : Nat} (ht : metR r t) : metR v t := by unfold metR; rw [h.same t ht]; exact ht
theorem RExt.trans {r v u : Rw} (h : RExt r v) (g : RExt v u) : RExt r u := by
  refine ⟨fun t ht => by rw [g.same t (h.met ht), h.same t ht], ?_, fun m => g.mo (h.mo m)⟩
  obtain ⟨l, hl⟩ := h.order
  obtain ⟨k, hk⟩ := g.order
  exact ⟨l ++ k, by rw [hk, hl, List.append_assoc]⟩
theorem rowN_ext {r : Rw} {t : Nat} {nx f : List Int} (h : r.rows[t]? = some (false, f)) : RExt r (rowN r t nx) := by
  have hlt := (List.getElem?_eq_some_iff.1 h).1
  have hg : ∀ j, getR (rowN r t nx).rows j = if t = j then (true, nx) else getR r.rows j := fun j => getR_set hlt _
  have hnm : ¬ metR r t := by unfold metR getR; rw [h]; exact Bool.false_ne_true
  refine ⟨fun j hj => ?_, ⟨[(t : Int)], rfl⟩, fun m => ⟨fun j hj => ?_, fun a ha => ?_⟩⟩
  · rw [hg, if_neg (fun e : t = j => hnm (by rw [e]; exact hj))]
  · unfold metR at hj
    rw [hg] at hj
    show (j : Int) ∈ r.order ++ [(t : Int)]
    by_cases e : t = j
    · rw [e]; simp
    · rw [if_neg e] at hj
      exact List.mem_append_left _ (m.1 j hj)
  · unfold metR
    rw [hg]
    split
    · rfl
    · rename_i e
      rcases List.mem_append.1 ha with h1 | h1
      · exact m.2 a h1
      · rw [List.mem_singleton] at h1; exact absurd (by omega) e
theorem rowO_inv {n : Nat} {nx : List Int} : ∀ {l : List FlowT} {r : Rw}, outsOk l n → r.rows.length = n → (rowO l nx r).2 = 0 →
    RExt r (rowO l nx r).1 ∧ (∀ o ∈ l, getR (rowO l nx r).1.rows o.to.toNat = (true, nx))
  | [], r, ho, hl, he => by rw [rowO_nil]; exact ⟨RExt.refl r, fun o h => absurd h List.not_mem_nil⟩
  | o :: l, r, ho, hl, he => by
    have hto := ho o (by simp)
    obtain ⟨t, hot⟩ : ∃ t : Nat, o.to = (t : Int) := ⟨o.to.toNat, by omega⟩
    have hol : outsOk l n := fun x hx => ho x (by simp [hx])
    have hrt := getR_some (l := r.rows) (i := t) (by omega)
    generalize hbf : getR r.rows t = bf at hrt
    obtain ⟨b, fs⟩ := bf
    cases b with
    | true =>
      cases hs : sameS fs nx with
      | true =>
        rw [rowO_met hot _ nx hrt hs] at he ⊢
        obtain ⟨e1, e2⟩ := rowO_inv hol hl he
        refine ⟨e1, fun q hq => ?_⟩
        rcases List.mem_cons.1 hq with h | h
        · rw [h, hot, Int.toNat_natCast, e1.same t (by unfold metR; rw [hbf]), hbf]
          rw [sameS_eq] at hs
          rw [of_decide_eq_true hs]
        · exact e2 q h
      | false =>
        rw [rowO_dif hot _ nx hrt hs] at he
        exact absurd he (by show ¬ ((8 : Int) = 0); decide)
    | false =>
      by_cases hs : 16 < nx.length
      · rw [rowO_lim hot _ nx hrt hs] at he
        exact absurd he (by show ¬ ((6 : Int) = 0); decide)
      · rw [rowO_new hot _ nx hrt hs] at he ⊢
        have hg : getR (rowN r t nx).rows t = (true, nx) := by
          show getR (r.rows.set t (true, nx)) t = _
          rw [getR_set (by omega), if_pos rfl]
        obtain ⟨e1, e2⟩ := rowO_inv (r := rowN r t nx) hol (by simpa [rowN] using hl) he
        refine ⟨(rowN_ext hrt).trans e1, fun q hq => ?_⟩
        rcases List.mem_cons.1 hq with h | h
        · rw [h, hot, Int.toNat_natCast, e1.same t (by unfold metR; rw [hg]), hg]
        · exact e2 q h
theorem rowK_ext (r : Rw) (f a : Nat) : RExt r (rowK r f a) := ⟨fun t h => rfl, ⟨[], (List.append_nil _).symm⟩, fun h => h⟩
/-- What holds of a place that was left. -/
def Left (ps : List PlaceT) (r : Rw) (a : Nat) : Prop :=
  ∀ p, ps[a]? = some p → (afterS p.kind a (getR r.rows a).2).2 = true ∧ ∀ o ∈ p.out, getR r.rows o.to.toNat = (true, (afterS p.kind a (getR r.rows a).2).1)
theorem Left.ext {ps : List PlaceT} {r v : Rw} {a : Nat} (h : Left ps r a) (hm : metR r a) (e : RExt r v) : Left ps v a := fun p hp => by
  obtain ⟨h1, h2⟩ := h p hp
  rw [e.same a hm]
  refine ⟨h1, fun o ho => ?_⟩
  have := h2 o ho
  rw [e.same _ (by unfold metR; rw [this]), this]
theorem rowS_inv {ps : List PlaceT} {n : Nat} {r : Rw} {a : Nat} {p : PlaceT} (hp : ps[a]? = some p) (ho : outsOk p.out n) (hk : RwOk n r) (ha : a < n) (hm : metR r a) (he : (rowS p a r).2 = 0) : RExt r (rowS p a r).1 ∧ Left ps (rowS p a r).1 a := by
  have hrt := getR_some (l := r.rows) (i := a) (by rw [hk.len.1]; exact ha)
  have hfk := hk.fks _ (List.mem_of_getElem? hrt)
  generalize hbf : getR r.rows a = bf at hrt hfk
  obtain ⟨b, fs⟩ := bf
  dsimp only at hfk
  have go : ∀ v : Rw, RExt r v → v.rows.length = n → (afterS p.kind a fs).2 = true → rowS p a r = rowO p.out (afterS p.kind a fs).1 v → RExt r (rowS p a r).1 ∧ Left ps (rowS p a r).1 a := fun v hv hl h2 hr => by
    rw [hr] at he ⊢
    obtain ⟨e1, e2⟩ := rowO_inv ho hl he
    have e3 := hv.trans e1
    refine ⟨e3, fun q hq => ?_⟩
    obtain rfl : p = q := by rw [hp] at hq; exact Option.some.inj hq
    rw [e3.same a hm, hbf]
    exact ⟨h2, e2⟩
  cases ha2 : (afterS p.kind a fs).2 with
  | false =>
    rw [rowT_no hrt ha2] at he
    exact absurd he (by show ¬ ((8 : Int) = 0); decide)
  | true =>
    by_cases h5 : p.kind = 5
    · have hl : fs.length ≠ 0 := after_5 (a := a) (by rw [← h5]; exact ha2)
      have hlast := getI_some (l := fs) (i := fs.length - 1) (by omega)
      have hb := hfk.2 _ (List.mem_of_getElem? hlast)
      obtain ⟨f, hf⟩ : ∃ f : Nat, getI fs (fs.length - 1) = (f : Int) := ⟨(getI fs (fs.length - 1)).toNat, by omega⟩
      by_cases h1 : getI r.joins f = 0 ∨ getI r.joins f = (a : Int)
      · exact go (rowK r f a) (rowK_ext r f a) hk.len.1 ha2 (rowT_j hrt ha2 h5 hf h1)
      · rw [rowT_8 hrt ha2 h5 hf (by omega) (by omega)] at he
        exact absurd he (by show ¬ ((8 : Int) = 0); decide)
    · exact go r (RExt.refl r) hk.len.1 ha2 (rowT_o hrt ha2 h5)
theorem rows_inv {ps : List PlaceT} {n : Nat} (hps : ps.length = n) (hO : ∀ p ∈ ps, outsOk p.out n) : ∀ {m i : Nat} {r : Rw}, n - i = m → i ≤ n → RwOk n r → MO r → (∀ k, k < i → ∀ a : Nat, r.order[k]? = some (a : Int) → Left ps r a) → (rowsS ps m i r).2 = 0 →
    RExt r (rowsS ps m i r).1 ∧ MO (rowsS ps m i r).1 ∧ ∀ a : Nat, (a : Int) ∈ (rowsS ps m i r).1.order → Left ps (rowsS ps m i r).1 a := by
  intro m
  induction m with
  | zero =>
    intro i r hi hle hk hm hL he
    refine ⟨RExt.refl r, hm, fun a ha => ?_⟩
    change (a : Int) ∈ r.order at ha
    obtain ⟨k, hk1, hk2⟩ := List.getElem_of_mem ha
    have := hk.mu
    unfold Rw.mu at this
    exact hL k (by omega) a (by rw [List.getElem?_eq_getElem hk1, hk2])
  | succ m ih =>
    intro i r hi hle hk hm hL he
    by_cases ho : r.order.length ≤ i
    · rw [rowsS_end ho]
      refine ⟨RExt.refl r, hm, fun a ha => ?_⟩
      change (a : Int) ∈ r.order at ha
      obtain ⟨k, hk1, hk2⟩ := List.getElem_of_mem ha
      exact hL k (by omega) a (by rw [List.getElem?_eq_getElem hk1, hk2])
    · have hoi := getI_some (l := r.order) (i := i) (by omega)
      have hb := hk.ord _ (List.mem_of_getElem? hoi)
      obtain ⟨a, ha⟩ : ∃ a : Nat, getI r.order i = (a : Int) := ⟨(getI r.order i).toNat, by omega⟩
      rw [ha] at hoi hb
      have hp : ps[a]? = some ps[a] := List.getElem?_eq_getElem (by omega)
      generalize ps[a] = p at hp
      have hpo := hO p (List.mem_of_getElem? hp)
      have ham : metR r a := by
        have := hm.2 _ (List.mem_of_getElem? hoi)
        rwa [Int.toNat_natCast] at this
      have hok := rowS_ok hk (a := a) (by omega) hpo
      by_cases h0 : (rowS p a r).2 = 0
      · rw [rowsS_go hoi hp h0] at he ⊢
        obtain ⟨e1, e2⟩ := rowS_inv hp hpo hk (by omega) ham h0
        obtain ⟨l, hl⟩ := e1.order
        obtain ⟨g1, g2, g3⟩ := ih (i := i + 1) (by omega) (by omega) hok (e1.mo hm) (fun k hk' b hb' => by
          rw [hl, List.getElem?_append_left (by omega)] at hb'
          by_cases hki : k = i
          · rw [hki, hoi] at hb'
            have : a = b := by have := Option.some.inj hb'; omega
            rw [← this]; exact e2
          · have hmb := hm.2 _ (List.mem_of_getElem? hb')
            rw [Int.toNat_natCast] at hmb
            exact (hL k (by omega) b hb').ext hmb e1) he
        exact ⟨e1.trans g1, g2, g3⟩
      · rw [rowsS_err hoi hp h0] at he
        exact absurd he h0
structure Closed (ps : List PlaceT) (fk : Nat → List Int) : Prop where
  c0 : fk 0 = []
  cl : ∀ (a : Nat) (p : PlaceT), ps[a]? = some p → (afterS p.kind a (fk a)).2 = true ∧ ∀ o ∈ p.out, fk o.to.toNat = (afterS p.kind a (fk a)).1
/-- The forks about a place. -/
def fkR (ps : List PlaceT) (i : Nat) : List Int := (getR (rowsR ps).1.rows i).2
theorem closed_of {d : DefT} (he : ofErr d = 0) : Closed d.places (fkR d.places) := by
  rw [ref_err] at he
  have hc : checkD d = 0 := by
    by_cases hc : checkD d = 0
    · exact hc
    · unfold refErr at he; rw [if_neg hc] at he; exact absurd he hc
  obtain ⟨c1, c2, _⟩ := check_ok hc
  have hO := fun p hp => (check_out hc p hp).1
  have hok := rowsR_ok (ps := d.places) c2 hO
  unfold refErr at he
  rw [if_pos hc] at he
  unfold refE at he
  have h0 : (rowsR d.places).2 = 0 := by
    by_cases h : (rowsR d.places).2 = 0
    · exact h
    · rw [if_neg h] at he; exact absurd he h
  rw [if_pos h0] at he
  have hall : endR d.places (rowsR d.places).1.rows (rowsR d.places).1.joins = true := by
    cases hh : endR d.places (rowsR d.places).1.rows (rowsR d.places).1.joins with
    | true => rfl
    | false => rw [hh] at he; exact absurd he (by decide)
  have hm := endR_all (by rw [hok.len.1]) (by rw [hok.len.2]) hall
  generalize d.places = ps at *
  have hg : ∀ t, getR (rowsW ps.length).rows t = if 0 = t then (true, []) else (false, []) := fun t => by
    show getR ((List.replicate ps.length (false, [])).set 0 (true, [])) t = _
    rw [getR_set (by simpa using c2), getR_rep]
  have hm0 : MO (rowsW ps.length) := by
    refine ⟨fun t ht => ?_, fun a ha => ?_⟩
    · unfold metR at ht
      rw [hg] at ht
      split at ht
      · rename_i e; rw [← e]; simp [rowsW]
      · cases ht
    · simp only [rowsW, List.mem_singleton] at ha
      subst ha
      unfold metR; rw [hg]; rfl
  obtain ⟨e1, e2, e3⟩ := rows_inv (ps := ps) (n := ps.length) rfl hO (m := ps.length) (i := 0) (r := rowsW ps.length) (by omega) (by omega) (rowsW_ok c2) hm0 (fun k hk => by omega) h0
  refine ⟨?_, fun a p hp => ?_⟩
  · unfold fkR rowsR
    rw [e1.same 0 (by unfold metR; rw [hg]; rfl), hg]; rfl
  · have hlt := (List.getElem?_eq_some_iff.1 hp).1
    have hmet : metR (rowsR ps).1 a := hm _ (List.mem_of_getElem? (getR_some (by rw [hok.len.1]; exact hlt)))
    obtain ⟨f1, f2⟩ := e3 a (e2.1 a hmet) p hp
    refine ⟨f1, fun o ho => ?_⟩
    unfold fkR
    show (getR (rowsS ps ps.length 0 (rowsW ps.length)).1.rows o.to.toNat).2 = _
    rw [f2 o ho]; rfl
end Go.RxTree
end
section
open Go Go.Rx
namespace Go.RxTree
set_option linter.unusedVariables false
def getP (P : List (List Int)) (q : Nat) : List Int := P[q]?.getD []
/-- How many flows a fork has. -/
def oL (ps : List PlaceT) (f : Int) : Int := (ps[f.toNat]?.map fun p => (p.out.length : Int)).getD 0
def b2 (b : Bool) : Nat := if b = true then 1 else 0
theorem restS_big : ∀ (w i : Nat) (l : List TokT), w < i → restS w i l = l
  | w, i, [], h => rfl
  | w, i, t :: r, h => by rw [restS, if_neg (by omega), restS_big w (i + 1) r (by omega)]
theorem rest_cnt (f : TokT → Bool) : ∀ (w i : Nat) (l : List TokT) (t : TokT), i ≤ w → l[w - i]? = some t → l.countP f = (restS w i l).countP f + b2 (f t)
  | w, i, [], t, hi, h => by simp at h
  | w, i, x :: r, t, hi, h => by
    rw [restS]
    by_cases e : i = w
    · rw [if_pos e, restS_big w (i + 1) r (by omega)]
      rw [e, Nat.sub_self, List.getElem?_cons_zero] at h
      have : x = t := Option.some.inj h
      rw [List.countP_cons, this, b2]
    · rw [if_neg e, List.countP_cons, List.countP_cons]
      have h' : r[w - (i + 1)]? = some t := by
        rw [show w - i = (w - (i + 1)) + 1 by omega, List.getElem?_cons_succ] at h; exact h
      have := rest_cnt f w (i + 1) r t (by omega) h'
      omega
theorem rest_mem : ∀ (w i : Nat) (l : List TokT), ∀ t ∈ restS w i l, t ∈ l
  | w, i, [], t, h => h
  | w, i, x :: r, t, h => by
    rw [restS] at h
    split at h
    · exact List.mem_cons_of_mem _ (rest_mem w (i + 1) r t h)
    · rcases List.mem_cons.1 h with h1 | h1
      · rw [h1]; simp
      · exact List.mem_cons_of_mem _ (rest_mem w (i + 1) r t h1)
theorem rest_len {w : Nat} {l : List TokT} {t : TokT} (h : l[w]? = some t) : l.length = (restS w 0 l).length + 1 := by
  have := rest_cnt (fun _ => true) w 0 l t (Nat.zero_le _) (by rw [Nat.sub_zero]; exact h)
  simpa [b2] using this
theorem range_set : ∀ (n : Nat) (f g : Nat → Bool) (q : Nat), q < n → (∀ i, i < n → i ≠ q → f i = g i) → (List.range n).countP f + b2 (g q) = (List.range n).countP g + b2 (f q)
  | 0, f, g, q, h, e => by omega
  | n + 1, f, g, q, h, e => by
    rw [List.range_succ, List.countP_append, List.countP_append, List.countP_singleton, List.countP_singleton]
    by_cases hq : q = n
    · have : (List.range n).countP f = (List.range n).countP g := List.countP_congr (fun x hx => by rw [e x (by rw [List.mem_range] at hx; omega) (by rw [List.mem_range] at hx; omega)])
      rw [this, hq, b2, b2]; omega
    · have := range_set n f g q (by omega) (fun i hi hne => e i (by omega) hne)
      rw [e n (by omega) (fun h => hq h.symm)]; omega
theorem range_eq {n : Nat} {f g : Nat → Bool} (e : ∀ i, i < n → f i = g i) : (List.range n).countP f = (List.range n).countP g :=
  List.countP_congr (fun x hx => by rw [e x (by rwa [List.mem_range] at hx)])
theorem getI_app1 {l : List Int} {x : Int} {q : Nat} (h : q < l.length) : getI (l ++ [x]) q = getI l q := by rw [getI, getI, List.getElem?_append_left h]
theorem getI_app2 {l : List Int} {x : Int} : getI (l ++ [x]) l.length = x := by rw [getI]; simp
theorem getP_app1 {l : List (List Int)} {x : List Int} {q : Nat} (h : q < l.length) : getP (l ++ [x]) q = getP l q := by rw [getP, getP, List.getElem?_append_left h]
theorem getP_app2 {l : List (List Int)} {x : List Int} : getP (l ++ [x]) l.length = x := by rw [getP]; simp
/-- Plays, one within another. -/
def Con (m : Nat) (P : List (List Int)) (l : List Int) : Prop :=
  (∀ e ∈ l, 0 ≤ e ∧ e < (m : Int)) ∧ (l = [] ∨ ∃ q : Nat, q < m ∧ l = getP P q ++ [(q : Int)])
theorem Con.up {m m' : Nat} {P P' : List (List Int)} {l : List Int} (h : Con m P l) (hm : m ≤ m') (hP : ∀ q, q < m → getP P' q = getP P q) : Con m' P' l := by
  refine ⟨fun e he => by have := h.1 e he; omega, ?_⟩
  rcases h.2 with h1 | ⟨q, h1, h2⟩
  · exact .inl h1
  · exact .inr ⟨q, by omega, by rw [hP q h1]; exact h2⟩
theorem Con.notl {m : Nat} {P : List (List Int)} {l : List Int} (h : Con m P l) {k : Nat} (hk : m ≤ k) : l.getLast? ≠ some (k : Int) := fun e => by
  have := h.1 _ (List.mem_of_getLast? e); omega
def cntT (T : List TokT) (h : Option Int) : Nat := T.countP fun t => decide (t.2.getLast? = h)
/-- Is a play not yet ended? -/
def opn (ps : List PlaceT) (C F : List Int) (q : Nat) : Bool := decide (getI C q < oL ps (getI F q))
def cntP (ps : List PlaceT) (C F : List Int) (P : List (List Int)) (h : Option Int) : Nat := (List.range C.length).countP fun q => opn ps C F q && decide ((getP P q).getLast? = h)
structure GInv (ps : List PlaceT) (n : Nat) (fk : Nat → List Int) (T : List TokT) (C F : List Int) (P : List (List Int)) : Prop where
  lf : F.length = C.length
  lp : P.length = C.length
  tok : ∀ t ∈ T, (0 ≤ t.1 ∧ t.1 < (n : Int)) ∧ Con C.length P t.2 ∧ fk t.1.toNat = t.2.map fun q => getI F q.toNat
  pth : ∀ q, q < C.length → Con q P (getP P q)
  c0 : ∀ q, q < C.length → 0 ≤ getI C q
  root : cntT T none + cntP ps C F P none = 1
  cnt : ∀ q : Nat, q < C.length → ((cntT T (some (q : Int)) + cntP ps C F P (some (q : Int)) : Nat) : Int) + getI C q = oL ps (getI F q)
theorem cntT_app (a b : List TokT) (h : Option Int) : cntT (a ++ b) h = cntT a h + cntT b h := List.countP_append ..
theorem cntT_one (x : Int) (f : List Int) (h : Option Int) : cntT [(x, f)] h = b2 (decide (f.getLast? = h)) := by
  rw [cntT, List.countP_singleton]; rfl
theorem cntT_rest {T : List TokT} {w : Nat} {t : TokT} (h : T[w]? = some t) (k : Option Int) : cntT T k = cntT (restS w 0 T) k + b2 (decide (t.2.getLast? = k)) :=
  rest_cnt _ w 0 T t (Nat.zero_le _) (by rw [Nat.sub_zero]; exact h)
theorem cntT_pos {T : List TokT} {t : TokT} (h : t ∈ T) : 0 < cntT T t.2.getLast? := List.countP_pos_iff.2 ⟨t, h, by simp⟩
section
variable {ps : List PlaceT} {n : Nat} {fk : Nat → List Int} {T : List TokT} {C F : List Int} {P : List (List Int)}
/-- A play that is not ended lies within one at the root that is not ended. -/
theorem open_root (G : GInv ps n fk T C F P) : ∀ (m q : Nat), q ≤ m → q < C.length → opn ps C F q = true → 0 < cntP ps C F P none := by
  intro m
  induction m with
  | zero =>
    intro q hq hlt ho
    have hq0 : q = 0 := by omega
    have hc := G.pth q hlt
    rcases hc.2 with h | ⟨q', h1, h2⟩
    · exact List.countP_pos_iff.2 ⟨q, List.mem_range.2 hlt, by rw [ho, h]; rfl⟩
    · omega
  | succ m ih =>
    intro q hq hlt ho
    have hc := G.pth q hlt
    rcases hc.2 with h | ⟨q', h1, h2⟩
    · exact List.countP_pos_iff.2 ⟨q, List.mem_range.2 hlt, by rw [ho, h]; rfl⟩
    · have hp : 0 < cntP ps C F P (some (q' : Int)) := List.countP_pos_iff.2 ⟨q, List.mem_range.2 hlt, by rw [ho, h2]; simp⟩
      have := G.cnt q' (by omega)
      exact ih q' (by omega) (by omega) (by rw [opn]; exact decide_eq_true (by omega))
theorem tok_open (G : GInv ps n fk T C F P) {t : TokT} (ht : t ∈ T) {q : Nat} (hq : q < C.length) (h : t.2 = getP P q ++ [(q : Int)]) : opn ps C F q = true := by
  have := cntT_pos ht
  rw [h, List.getLast?_concat] at this
  have := G.cnt q hq
  rw [opn]; exact decide_eq_true (by omega)
theorem g_end (G : GInv ps n fk T C F P) (K : Closed ps fk) {w a : Nat} {pys : List Int} {p : PlaceT} (ht : T[w]? = some ((a : Int), pys)) (hp : ps[a]? = some p) (h8 : p.kind = 8) : restS w 0 T = [] := by
  obtain ⟨k1, k2⟩ := K.cl a p hp
  obtain ⟨t1, t2, t3⟩ := G.tok _ (List.mem_of_getElem? ht)
  rw [Int.toNat_natCast] at t3
  dsimp only at t3
  rw [h8, afterS, if_neg (by decide), if_neg (by decide), if_pos rfl] at k1
  have hfl := of_decide_eq_true k1
  have hpy : pys = [] := by
    rw [t3, List.length_map] at hfl
    exact List.eq_nil_of_length_eq_zero hfl
  have hr := cntT_rest ht none
  rw [hpy] at hr
  have e1 : b2 (decide (([] : List Int).getLast? = none)) = 1 := rfl
  dsimp only at hr
  rw [e1] at hr
  have hroot := G.root
  cases hrs : restS w 0 T with
  | nil => rfl
  | cons t r =>
    exfalso
    rw [hrs] at hr
    have hmem : t ∈ T := rest_mem w 0 T t (by rw [hrs]; simp)
    obtain ⟨u1, u2, u3⟩ := G.tok t hmem
    rcases u2.2 with h | ⟨q, h1, h2⟩
    · have := cntT_pos (T := t :: r) (t := t) (by simp)
      rw [h] at this
      have e2 : ([] : List Int).getLast? = none := rfl
      rw [e2] at this
      omega
    · have := open_root G q q (Nat.le_refl _) h1 (tok_open G hmem h1 h2)
      omega
theorem g_one (G : GInv ps n fk T C F P) (hC : C = []) {w a : Nat} {pys : List Int} (ht : T[w]? = some ((a : Int), pys)) : pys = [] ∧ w = 0 ∧ T = [((a : Int), [])] := by
  have hnil : ∀ t ∈ T, t.2 = [] := fun t h => by
    obtain ⟨u1, u2, u3⟩ := G.tok t h
    rcases u2.2 with h1 | ⟨q, h1, h2⟩
    · exact h1
    · rw [hC] at h1; exact absurd h1 (Nat.not_lt_zero _)
  have hroot := G.root
  have hp0 : cntP ps C F P none = 0 := by rw [hC]; rfl
  have hl : cntT T none = T.length := List.countP_eq_length.2 (fun t h => by rw [hnil t h]; rfl)
  have h1 : T.length = 1 := by omega
  have hpy : pys = [] := hnil _ (List.mem_of_getElem? ht)
  have hw := (List.getElem?_eq_some_iff.1 ht).1
  have hw0 : w = 0 := by omega
  refine ⟨hpy, hw0, ?_⟩
  obtain ⟨x, hx⟩ := List.length_eq_one_iff.1 h1
  rw [hx, hw0, List.getElem?_cons_zero] at ht
  rw [hx, Option.some.inj ht, hpy]
theorem g_other (G : GInv ps n fk T C F P) (K : Closed ps fk) {w a : Nat} {pys : List Int} {p : PlaceT} (ht : T[w]? = some ((a : Int), pys)) (hp : ps[a]? = some p) (ho : outsOk p.out n) (h8 : p.kind ≠ 8) (h4 : p.kind ≠ 4) (h5 : p.kind ≠ 5) {o : FlowT} (hof : o ∈ p.out) :
    GInv ps n fk (restS w 0 T ++ [(o.to, pys)]) C F P := by
  obtain ⟨k1, k2⟩ := K.cl a p hp
  obtain ⟨t1, t2, t3⟩ := G.tok _ (List.mem_of_getElem? ht)
  have hto := ho o hof
  have hc : ∀ h, cntT (restS w 0 T ++ [(o.to, pys)]) h = cntT T h := fun h => by rw [cntT_app, cntT_one, cntT_rest ht h]
  refine ⟨G.lf, G.lp, fun t hm => ?_, G.pth, G.c0, by rw [hc]; exact G.root, fun q hq => by rw [hc]; exact G.cnt q hq⟩
  rcases List.mem_append.1 hm with h | h
  · exact G.tok t (rest_mem w 0 T t h)
  · rw [List.mem_singleton] at h
    rw [h]
    refine ⟨⟨by show 0 ≤ o.to; omega, hto.2⟩, t2, ?_⟩
    show fk o.to.toNat = _
    rw [k2 o hof, afterS, if_neg h4, if_neg h5, if_neg h8]
    rw [Int.toNat_natCast] at t3
    exact t3
theorem cnt_fork (l : List FlowT) (f : List Int) (h : Option Int) : cntT (forkT l f) h = if f.getLast? = h then l.length else 0 := by
  induction l with
  | nil => simp [forkT, cntT]
  | cons o r ih =>
    rw [show forkT (o :: r) f = [(o.to, f)] ++ forkT r f from rfl, cntT_app, cntT_one, ih]
    by_cases e : f.getLast? = h
    · rw [if_pos e, if_pos e, decide_eq_true e]; simp [b2]; omega
    · rw [if_neg e, if_neg e, decide_eq_false e]; rfl
theorem g_fork (G : GInv ps n fk T C F P) (K : Closed ps fk) {w a : Nat} {pys : List Int} {p : PlaceT} (ht : T[w]? = some ((a : Int), pys)) (hp : ps[a]? = some p) (ho : outsOk p.out n) (h4 : p.kind = 4) (h0 : 0 < p.out.length) :
    GInv ps n fk (restS w 0 T ++ forkT p.out (pys ++ [(C.length : Int)])) (C ++ [0]) (F ++ [(a : Int)]) (P ++ [pys]) := by
  obtain ⟨k1, k2⟩ := K.cl a p hp
  obtain ⟨t1, t2, t3⟩ := G.tok _ (List.mem_of_getElem? ht)
  dsimp only at t2 t3
  rw [Int.toNat_natCast] at t3
  have hlC : (C ++ [(0 : Int)]).length = C.length + 1 := by simp
  have eC : ∀ q, q < C.length → getI (C ++ [0]) q = getI C q := fun q h => getI_app1 h
  have eF : ∀ q, q < C.length → getI (F ++ [(a : Int)]) q = getI F q := fun q h => getI_app1 (by rw [G.lf]; exact h)
  have eP : ∀ q, q < C.length → getP (P ++ [pys]) q = getP P q := fun q h => getP_app1 (by rw [G.lp]; exact h)
  have lC : getI (C ++ [0]) C.length = 0 := getI_app2
  have lF : getI (F ++ [(a : Int)]) C.length = (a : Int) := by rw [← G.lf]; exact getI_app2
  have lP : getP (P ++ [pys]) C.length = pys := by rw [← G.lp]; exact getP_app2
  have hoL : oL ps (a : Int) = (p.out.length : Int) := by rw [oL, Int.toNat_natCast, hp]; rfl
  have hmap : ∀ l : List Int, (∀ e ∈ l, 0 ≤ e ∧ e < (C.length : Int)) → (l.map fun q => getI (F ++ [(a : Int)]) q.toNat) = l.map fun q => getI F q.toNat := fun l hl => by
    refine List.map_congr_left (fun e he => ?_)
    have := hl e he
    exact eF _ (by omega)
  have cP : ∀ h, cntP ps (C ++ [0]) (F ++ [(a : Int)]) (P ++ [pys]) h = cntP ps C F P h + b2 (decide (pys.getLast? = h)) := fun h => by
    unfold cntP
    rw [hlC, List.range_succ, List.countP_append, List.countP_singleton]
    congr 1
    · exact range_eq (fun i hi => by rw [opn, opn, eC i hi, eF i hi, eP i hi])
    · rw [lP, opn, lC, lF, hoL, decide_eq_true (show (0 : Int) < (p.out.length : Int) by omega), Bool.true_and]; rfl
  have cT : ∀ h, cntT (restS w 0 T ++ forkT p.out (pys ++ [(C.length : Int)])) h = cntT (restS w 0 T) h + if some (C.length : Int) = h then p.out.length else 0 := fun h => by
    rw [cntT_app, cnt_fork, List.getLast?_concat]
  refine ⟨by simp [G.lf], by simp [G.lp], fun t hm => ?_, fun q hq => ?_, fun q hq => ?_, ?_, fun q hq => ?_⟩
  · rcases List.mem_append.1 hm with h | h
    · obtain ⟨u1, u2, u3⟩ := G.tok t (rest_mem w 0 T t h)
      exact ⟨u1, u2.up (by rw [hlC]; omega) eP, by rw [hmap _ u2.1]; exact u3⟩
    · obtain ⟨o, hof, rfl⟩ := List.mem_map.1 h
      have hto := ho o hof
      refine ⟨⟨by show 0 ≤ o.to; omega, hto.2⟩, ⟨fun e he => ?_, .inr ⟨C.length, by rw [hlC]; omega, by rw [lP]⟩⟩, ?_⟩
      · rw [hlC]
        rcases List.mem_append.1 he with h1 | h1
        · have := t2.1 e h1; omega
        · rw [List.mem_singleton] at h1; omega
      · show fk o.to.toNat = _
        rw [k2 o hof, h4, afterS, if_pos rfl, List.map_append, hmap _ t2.1, ← t3]
        show fk a ++ [(a : Int)] = fk a ++ [getI (F ++ [(a : Int)]) (C.length : Int).toNat]
        rw [Int.toNat_natCast, lF]
  · rw [hlC] at hq
    by_cases e : q = C.length
    · rw [e, lP]; exact t2.up (Nat.le_refl _) eP
    · rw [eP q (by omega)]
      exact (G.pth q (by omega)).up (Nat.le_refl _) (fun x hx => eP x (by omega))
  · rw [hlC] at hq
    by_cases e : q = C.length
    · rw [e, lC]; exact Int.le_refl _
    · rw [eC q (by omega)]; exact G.c0 q (by omega)
  · have := G.root
    have h2 := cntT_rest ht none
    dsimp only at h2
    rw [cT, cP, if_neg (by exact fun h => by cases h)]
    omega
  · rw [hlC] at hq
    have h2 := cntT_rest ht (some (q : Int))
    dsimp only at h2
    rw [cT, cP]
    by_cases e : q = C.length
    · have z1 : cntT T (some (q : Int)) = 0 := List.countP_eq_zero.2 (fun t h => by
        have := (G.tok t h).2.1.notl (k := q) (by omega)
        simpa using this)
      have z2 : cntP ps C F P (some (q : Int)) = 0 := List.countP_eq_zero.2 (fun i h => by
        rw [List.mem_range] at h
        have := (G.pth i h).notl (k := q) (by omega)
        simp [this])
      rw [z1] at h2
      rw [if_pos (by rw [e]), z2, e, lC, lF, hoL]
      have z3 : b2 (decide (pys.getLast? = some (C.length : Int))) = 0 := by rw [← e]; omega
      rw [← e] at z3 ⊢
      rw [z3]
      have : cntT (restS w 0 T) (some (q : Int)) = 0 := by omega
      rw [this]; simp
    · have := G.cnt q (by omega)
      rw [if_neg (fun h => e (by have := Option.some.inj h; omega)), eC q (by omega), eF q (by omega)]
      omega
theorem g_join (G : GInv ps n fk T C F P) (K : Closed ps fk) {w a : Nat} {pys : List Int} {p : PlaceT} (ht : T[w]? = some ((a : Int), pys)) (hp : ps[a]? = some p) (ho : outsOk p.out n) (h5 : p.kind = 5) :
    ∃ q : Nat, q < C.length ∧ pys = getP P q ++ [(q : Int)] ∧ fk a ≠ [] ∧ getI (fk a) ((fk a).length - 1) = getI F q ∧
      (getI C q + 1 < oL ps (getI F q) → GInv ps n fk (restS w 0 T) (C.set q (getI C q + 1)) F P) ∧
      (¬ getI C q + 1 < oL ps (getI F q) → ∀ o ∈ p.out, GInv ps n fk (restS w 0 T ++ [(o.to, pys.dropLast)]) (C.set q (getI C q + 1)) F P) := by
  obtain ⟨k1, k2⟩ := K.cl a p hp
  obtain ⟨t1, t2, t3⟩ := G.tok _ (List.mem_of_getElem? ht)
  dsimp only at t2 t3
  rw [Int.toNat_natCast] at t3
  rw [h5] at k1 k2
  have hfl := after_5 k1
  have hfn : fk a ≠ [] := fun h => hfl (by rw [h]; rfl)
  have hpn : pys ≠ [] := fun h => hfn (by rw [t3, h]; rfl)
  rcases t2.2 with h | ⟨q, hq, hpy⟩
  · exact absurd h hpn
  have hfk : fk a = (getP P q).map (fun q => getI F q.toNat) ++ [getI F q] := by rw [t3, hpy, List.map_append]; simp
  have hop := tok_open G (List.mem_of_getElem? ht) hq hpy
  have hlC : ∀ x : Int, (C.set q x).length = C.length := fun x => List.length_set
  have eC : ∀ i x, i ≠ q → getI (C.set q x) i = getI C i := fun i x h => by rw [getI_set hq, if_neg (fun e => h e.symm)]
  have lC : ∀ x, getI (C.set q x) q = x := fun x => by rw [getI_set hq, if_pos rfl]
  have hcq := G.c0 q hq
  have hrest := fun k => cntT_rest ht k
  have hlast : pys.getLast? = some (q : Int) := by rw [hpy, List.getLast?_concat]
  dsimp only at hrest
  rw [hlast] at hrest
  refine ⟨q, hq, hpy, hfn, by rw [hfk]; exact getI_last _ _, fun hlt => ?_, fun hge o hof => ?_⟩
  · have cP : ∀ h, cntP ps (C.set q (getI C q + 1)) F P h = cntP ps C F P h := fun h => by
      unfold cntP
      rw [hlC]
      refine range_eq (fun i hi => ?_)
      by_cases e : i = q
      · rw [e, hop, opn, lC, decide_eq_true hlt]
      · rw [opn, opn, eC i _ e]
    refine ⟨by rw [hlC]; exact G.lf, by rw [hlC]; exact G.lp, fun t hm => by rw [hlC]; exact G.tok t (rest_mem w 0 T t hm), fun i hi => by rw [hlC] at hi; exact G.pth i hi, fun i hi => ?_, ?_, fun i hi => ?_⟩
    · rw [hlC] at hi
      by_cases e : i = q
      · rw [e, lC]; omega
      · rw [eC i _ e]; exact G.c0 i hi
    · have h1 := G.root
      have h2 := hrest none
      rw [show b2 (decide ((some (q : Int)) = (none : Option Int))) = 0 from rfl] at h2
      rw [cP]; omega
    · rw [hlC] at hi
      have h1 := G.cnt i hi
      have h2 := hrest (some (i : Int))
      rw [cP]
      by_cases e : i = q
      · rw [e] at h1 h2 ⊢
        rw [decide_eq_true rfl, show b2 true = 1 from rfl] at h2
        rw [lC]; omega
      · rw [decide_eq_false (fun h => e (by have := Option.some.inj h; omega)), show b2 false = 0 from rfl] at h2
        rw [eC i _ e]; omega
  · have hto := ho o hof
    have hdl : pys.dropLast = getP P q := by rw [hpy]; simp
    rw [hdl]
    have cP : ∀ h, cntP ps C F P h = cntP ps (C.set q (getI C q + 1)) F P h + b2 (decide ((getP P q).getLast? = h)) := fun h => by
      unfold cntP
      rw [hlC]
      have := range_set C.length (fun i => opn ps C F i && decide ((getP P i).getLast? = h)) (fun i => opn ps (C.set q (getI C q + 1)) F i && decide ((getP P i).getLast? = h)) q hq (fun i hi e => by
        rw [opn, opn, eC i _ e])
      rw [hop, Bool.true_and, show opn ps (C.set q (getI C q + 1)) F q = false by rw [opn, lC]; exact decide_eq_false hge, Bool.false_and, show b2 false = 0 from rfl, Nat.add_zero] at this
      exact this
    have cT : ∀ h, cntT (restS w 0 T ++ [(o.to, getP P q)]) h = cntT (restS w 0 T) h + b2 (decide ((getP P q).getLast? = h)) := fun h => by rw [cntT_app, cntT_one]
    refine ⟨by rw [hlC]; exact G.lf, by rw [hlC]; exact G.lp, fun t hm => ?_, fun i hi => by rw [hlC] at hi; exact G.pth i hi, fun i hi => ?_, ?_, fun i hi => ?_⟩
    · rw [hlC]
      rcases List.mem_append.1 hm with h | h
      · exact G.tok t (rest_mem w 0 T t h)
      · rw [List.mem_singleton] at h
        rw [h]
        refine ⟨⟨by show 0 ≤ o.to; omega, hto.2⟩, (G.pth q hq).up (by omega) (fun x _ => rfl), ?_⟩
        show fk o.to.toNat = _
        rw [k2 o hof, afterS, if_neg (by decide), if_pos rfl, if_neg hfl, hfk]
        simp
    · rw [hlC] at hi
      by_cases e : i = q
      · rw [e, lC]; omega
      · rw [eC i _ e]; exact G.c0 i hi
    · have h1 := G.root
      have h2 := hrest none
      have h3 := cP none
      rw [show b2 (decide ((some (q : Int)) = (none : Option Int))) = 0 from rfl] at h2
      rw [cT]; omega
    · rw [hlC] at hi
      have h1 := G.cnt i hi
      have h2 := hrest (some (i : Int))
      have h3 := cP (some (i : Int))
      rw [cT]
      by_cases e : i = q
      · rw [e] at h1 h2 h3 ⊢
        rw [decide_eq_true rfl, show b2 true = 1 from rfl] at h2
        rw [lC]; omega
      · rw [decide_eq_false (fun h => e (by have := Option.some.inj h; omega)), show b2 false = 0 from rfl] at h2
        rw [eC i _ e]; omega
theorem g_start (K : Closed ps fk) (hn : 0 < n) : GInv ps n fk [(0, [])] [] [] [] := by
  refine ⟨rfl, rfl, fun t ht => ?_, fun q hq => absurd hq (Nat.not_lt_zero _), fun q hq => absurd hq (Nat.not_lt_zero _), rfl, fun q hq => absurd hq (Nat.not_lt_zero _)⟩
  rw [List.mem_singleton] at ht
  rw [ht]
  refine ⟨⟨by decide, by show (0 : Int) < (n : Int); omega⟩, ⟨fun e he => absurd he List.not_mem_nil, .inl rfl⟩, ?_⟩
  show fk (0 : Int).toNat = []
  exact K.c0
end
end Go.RxTree
end
section
open Go Go.Rx
namespace Go.RxTree
set_option linter.unusedVariables false
theorem u64_nn (x : Int) : 0 ≤ IntKind.u64.wrap x := by
  simp only [IntKind.wrap, IntKind.bits, IntKind.signed, Bool.false_and, Bool.false_eq_true, if_false, Int.reducePow]
  omega
theorem idx_ok (mv : Int) {len : Nat} (h0 : 0 < len) (h : len ≤ 1000) : ∃ w : Nat, w < len ∧ IntKind.i64.wrap ((IntKind.u64.wrap mv).tmod (IntKind.u64.wrap (len : Int))) = (w : Int) := by
  have hn := u64_nn mv
  generalize IntKind.u64.wrap mv = m at hn
  rw [wrap_u64 (n := (len : Int)) (by omega) (by omega), Int.tmod_eq_emod_of_nonneg hn]
  have h1 := Int.emod_nonneg m (show (len : Int) ≠ 0 by omega)
  have h2 := Int.emod_lt_of_pos m (show (0 : Int) < len by omega)
  refine ⟨(m % (len : Int)).toNat, by omega, ?_⟩
  rw [wrap_i64 (by omega) (by omega)]; omega
theorem by_nn (fv : Int) : 0 ≤ IntKind.i64.wrap ((IntKind.u64.wrap fv).tmod 16) := by
  have hn := u64_nn fv
  generalize IntKind.u64.wrap fv = m at hn
  rw [Int.tmod_eq_emod_of_nonneg hn]
  have h1 := Int.emod_nonneg m (show (16 : Int) ≠ 0 by decide)
  have h2 := Int.emod_lt_of_pos m (show (0 : Int) < 16 by decide)
  rw [wrap_i64 (by omega) (by omega)]; omega
theorem fk_len (ps : List PlaceT) {a : Nat} (h : a < (rowsR ps).1.rows.length) : (rowD (rowsR ps).1.rows)[a]? = some ((fkR ps a).length : Int) := by
  rw [rowD, List.getElem?_map, getR_some h]; rfl
end Go.RxTree
end
