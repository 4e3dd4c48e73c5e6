/- Both walks over a definition come to the same. -/
import Derived.Test.YtaghcidejnhahaaRSpecR3
import Derived.Test.YtaghcidejnhahaaRSpecK
open Go Go.Rx
namespace Go.RxTree
set_option linter.unusedVariables false
theorem forkOf_app (l : List Int) (g : Int) : forkOf (l ++ [g]) = g := by
  rw [forkOf, if_pos (by simp), getI]
  simp
/-- What lies within forks, the last of which is a place that is met. -/
def Chn (n : Nat) (w : Wk) (r : Rw) (fs : List Int) : Prop :=
  fs = [] ∨ ∃ g : Nat, fs = (getR r.rows g).2 ++ [(g : Int)] ∧ g ≠ 0 ∧ g < n ∧ (getR r.rows g).1 = true ∧ getI w.up g = forkOf (getR r.rows g).2
theorem Chn.fork0 {n : Nat} {w : Wk} {r : Rw} {fs : List Int} (h : Chn n w r fs) : forkOf fs = 0 ↔ fs = [] := by
  rcases h with h | ⟨g, h1, h2, h3, h4, h5⟩
  · rw [h]; exact ⟨fun _ => rfl, fun _ => rfl⟩
  · rw [h1, forkOf_app]
    exact ⟨fun h => by omega, fun h => by simp at h⟩
theorem Chn.inj {n : Nat} {w : Wk} {r : Rw} {a b : List Int} (h : Chn n w r a) (g : Chn n w r b) : forkOf a = forkOf b ↔ a = b := by
  refine ⟨fun e => ?_, fun e => by rw [e]⟩
  by_cases h0 : a = []
  · rw [h0, forkOf_nil] at e
    rw [h0]; exact (g.fork0.1 e.symm).symm
  · have hb : b ≠ [] := fun hb => h0 (h.fork0.1 (by rw [e, hb]; rfl))
    rcases h with h | ⟨x, h1, h2, h3, h4, h5⟩
    · exact absurd h h0
    · rcases g with g | ⟨y, g1, g2, g3, g4, g5⟩
      · exact absurd g hb
      · rw [h1, g1, forkOf_app, forkOf_app] at e
        have : x = y := by omega
        subst this
        rw [h1, g1]
structure Sim (n i : Nat) (w : Wk) (r : Rw) : Prop where
  len : w.Len n
  ok : RwOk n r
  err : w.err = 0
  at' : i ≤ r.order.length
  next : w.next = r.order.drop i
  join : w.join = r.joins
  met : ∀ t, getB w.met t = (getR r.rows t).1
  fork : ∀ t, (getR r.rows t).1 = true → getI w.fork t = forkOf (getR r.rows t).2 ∧ getI w.deep t = ((getR r.rows t).2.length : Int)
  chain : ∀ t, (getR r.rows t).1 = true → Chn n w r (getR r.rows t).2
  ord : ∀ a ∈ r.order, (getR r.rows a.toNat).1 = true
theorem getR_set {l : List RowT} {i j : Nat} (h : i < l.length) (b : RowT) : getR (l.set i b) j = if i = j then b else getR l j := by
  unfold getR
  rw [List.getElem?_set]
  split <;> rename_i h1
  · subst h1; first | rfl | (rw [if_pos h]; rfl)
  · rfl
theorem enter_fail8 {w : Wk} {t : Nat} {f dp : Int} (h : getB w.met t = true) (hf : getI w.fork t ≠ f) : enterS w t f dp = w.fail 8 := by rw [enterS, if_pos h, if_neg hf]
theorem outs_errE : ∀ {l : List FlowT} {w : Wk} {f dp : Int}, w.err ≠ 0 → (outsS w l f dp).err = w.err
  | [], w, f, dp, h => rfl
  | o :: r, w, f, dp, h => by
    have he : (enterS w o.to.toNat f dp).err = w.err := by
      unfold enterS Wk.fail
      split
      · split
        · rfl
        · exact fl_e h _
      · split
        · exact fl_e h _
        · rfl
    rw [outsS, outs_errE (by rw [he]; exact h), he]
theorem sim_outs {n i : Nat} {nx : List Int} (hnx : ∀ f ∈ nx, 0 ≤ f ∧ f < (n : Int)) : ∀ {l : List FlowT} {w : Wk} {r : Rw}, outsOk l n → Sim n i w r → Chn n w r nx →
    (outsS w l (forkOf nx) (nx.length : Int)).err = (rowO l nx r).2 ∧ ((rowO l nx r).2 = 0 → Sim n i (outsS w l (forkOf nx) (nx.length : Int)) (rowO l nx r).1)
  | [], w, r, ho, S, C => by rw [rowO_nil, outsS]; exact ⟨S.err, fun _ => S⟩
  | o :: l, w, r, ho, S, C => by
    have hto := ho o (by simp)
    obtain ⟨t, hot⟩ : ∃ t : Nat, o.to = (t : Int) := ⟨o.to.toNat, by omega⟩
    have htn : t < n := by omega
    have hol : outsOk l n := fun x hx => ho x (by simp [hx])
    have hrt := getR_some (l := r.rows) (i := t) (by rw [S.ok.len.1]; exact htn)
    have hm := S.met t
    have hf := S.fork t
    have hc := S.chain t
    generalize hbf : getR r.rows t = bf at hrt hm hf hc
    obtain ⟨b, fs⟩ := bf
    dsimp only at hm hf hc
    rw [outsS, hot, Int.toNat_natCast]
    cases b with
    | true =>
      obtain ⟨hf1, hf2⟩ := hf rfl
      by_cases hs : fs = nx
      · rw [rowO_met hot _ nx hrt (by rw [sameS_eq, hs]; simp)]
        rw [show enterS w t (forkOf nx) (nx.length : Int) = w by rw [enterS, if_pos hm, if_pos (by rw [hf1, hs])]]
        exact sim_outs hnx hol S C
      · rw [rowO_dif hot _ nx hrt (by rw [sameS_eq]; simp [hs])]
        rw [enter_fail8 hm (by rw [hf1]; exact fun h => hs (((hc rfl).inj C).1 h))]
        have he : (w.fail 8).err = 8 := by show fl w.err 8 = 8; rw [S.err]; rfl
        refine ⟨by rw [outs_errE (by rw [he]; decide), he], fun h => absurd h (by show ¬ ((8 : Int) = 0); decide)⟩
    | false =>
      have hm' : ¬ getB w.met t = true := by rw [hm]; exact Bool.false_ne_true
      by_cases hs : 16 < nx.length
      · rw [rowO_lim hot _ nx hrt hs]
        rw [show enterS w t (forkOf nx) (nx.length : Int) = w.fail 6 by rw [enterS, if_neg hm', if_pos (by omega)]]
        have he : (w.fail 6).err = 6 := by show fl w.err 6 = 6; rw [S.err]; rfl
        refine ⟨by rw [outs_errE (by rw [he]; decide), he], fun h => absurd h (by show ¬ ((6 : Int) = 0); decide)⟩
      · rw [rowO_new hot _ nx hrt hs]
        rw [show enterS w t (forkOf nx) (nx.length : Int) = { w with met := w.met.set t true, fork := w.fork.set t (forkOf nx), deep := w.deep.set t (nx.length : Int), next := w.next ++ [(t : Int)] } by rw [enterS, if_neg hm', if_neg (by omega)]]
        obtain ⟨l1, l2, l3, l4, l5⟩ := S.len
        have hrl := S.ok.len.1
        have hget : ∀ j, getR (rowN r t nx).rows j = if t = j then (true, nx) else getR r.rows j := fun j => by
          show getR (r.rows.set t (true, nx)) j = _
          exact getR_set (by omega) _
        have cup : ∀ fs', Chn n w r fs' → Chn n { w with met := w.met.set t true, fork := w.fork.set t (forkOf nx), deep := w.deep.set t (nx.length : Int), next := w.next ++ [(t : Int)] } (rowN r t nx) fs' := fun fs' h => by
          rcases h with h | ⟨g, h1, h2, h3, h4, h5⟩
          · exact .inl h
          · have hne : ¬ t = g := fun h => by rw [← h, hbf] at h4; cases h4
            refine .inr ⟨g, ?_, h2, h3, ?_, ?_⟩
            · rw [hget, if_neg hne]; exact h1
            · rw [hget, if_neg hne]; exact h4
            · rw [hget, if_neg hne]; exact h5
        refine sim_outs hnx hol ?_ (cup nx C)
        refine ⟨⟨by simpa using l1, by simpa using l2, by simpa using l3, l4, l5⟩, rowN_ok S.ok htn ⟨by omega, hnx⟩ hrt, S.err, ?_, ?_, S.join, fun j => ?_, fun j hj => ?_, fun j hj => ?_, fun a ha => ?_⟩
        · show i ≤ (r.order ++ [(t : Int)]).length
          have := S.at'; simp; omega
        · show w.next ++ [(t : Int)] = (r.order ++ [(t : Int)]).drop i
          rw [List.drop_append_of_le_length S.at', S.next]
        · show getB (w.met.set t true) j = _
          rw [getB_set (by omega), hget]
          split
          · rfl
          · exact S.met j
        · show getI (w.fork.set t (forkOf nx)) j = _ ∧ getI (w.deep.set t (nx.length : Int)) j = _
          rw [hget] at hj ⊢
          rw [getI_set (by omega), getI_set (by omega)]
          by_cases h : t = j
          · rw [if_pos h, if_pos h, if_pos h]; exact ⟨rfl, rfl⟩
          · rw [if_neg h] at hj ⊢
            rw [if_neg h, if_neg h]; exact S.fork j hj
        · rw [hget] at hj ⊢
          by_cases h : t = j
          · rw [if_pos h]; exact cup nx C
          · rw [if_neg h] at hj ⊢; exact cup _ (S.chain j hj)
        · rw [hget]
          split
          · rfl
          · rename_i hne
            rcases List.mem_append.1 ha with h | h
            · exact S.ord a h
            · rw [List.mem_singleton] at h; exact absurd (by omega) hne
end Go.RxTree
