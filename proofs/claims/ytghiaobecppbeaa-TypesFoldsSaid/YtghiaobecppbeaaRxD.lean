/- Rx, part 4: sealing, stores, rows that grow. -/
import Derived.Test.YtghiaobecppbeaaRxC
namespace Go.Rx
open Go Go.RowKit
set_option linter.unusedVariables false
set_option linter.unusedSimpArgs false

def splice {α : Type} (vs : List α) (off : Nat) (cs : List α) : List α := vs.take off ++ cs ++ vs.drop (off + cs.length)
theorem splice_length {α : Type} (vs : List α) (off : Nat) (cs : List α) (h : off + cs.length ≤ vs.length) : (splice vs off cs).length = vs.length := by
  simp [splice]; omega
theorem splice_get {α : Type} (vs : List α) (off : Nat) (cs : List α) (h : off + cs.length ≤ vs.length) (k : Nat) :
    (splice vs off cs)[k]? = if off ≤ k ∧ k < off + cs.length then cs[k - off]? else vs[k]? := by
  unfold splice
  by_cases h1 : k < off
  · rw [if_neg (by omega), List.append_assoc, List.getElem?_append_left (by simp; omega), List.getElem?_take, if_pos h1]
  · by_cases h2 : k < off + cs.length
    · rw [if_pos ⟨by omega, h2⟩, List.append_assoc, List.getElem?_append_right (by simp; omega)]
      rw [List.getElem?_append_left (by simp; omega)]
      congr 1
      simp; omega
    · rw [if_neg (by omega), List.getElem?_append_right (by simp; omega), List.getElem?_drop]
      congr 1
      simp; omega

/-- The cells of a row of elements, each of s cells, as they are read. -/
theorem row_cells {E : En} {b off s m : Nat} {ds : List (List D)} (hm : ds.length = m) (hs : ∀ e ∈ ds, e.length = s)
    (hc : ∀ i e j d, ds[i]? = some e → e[j]? = some d → ∃ u, E.w.cell? ⟨b, off + (i * s + j), none⟩ = some u ∧ Rep E.w E.S u d) :
    ∃ news : List Value, news.length = m * s ∧ (∀ u ∈ news, u.oneCell' = true) ∧ (∀ j u, news[j]? = some u → E.w.cell? ((⟨b, off, none⟩ : Addr).add j) = some u) ∧
      ∀ i e j d, ds[i]? = some e → e[j]? = some d → ∃ u, news[i * s + j]? = some u ∧ Rep E.w E.S u d := by
  let f : Nat → Value := fun k => (E.w.cell? ⟨b, off + k, none⟩).getD undef
  have each : ∀ k, k < m * s → ∃ u d, E.w.cell? ⟨b, off + k, none⟩ = some u ∧ Rep E.w E.S u d := fun k hk => by
    have hs0 : 0 < s := by rcases Nat.eq_zero_or_pos s with h | h; · subst h; omega
                           · exact h
    have hi : k / s < ds.length := by rw [hm]; exact (Nat.div_lt_iff_lt_mul hs0).2 hk
    have hj : k % s < s := Nat.mod_lt _ hs0
    have he := List.getElem?_eq_getElem hi
    have hl := hs _ (List.getElem_mem hi)
    have hd := List.getElem?_eq_getElem (l := ds[k / s]) (i := k % s) (by omega)
    obtain ⟨u, h1, h2⟩ := hc _ _ _ _ he hd
    rw [Nat.mul_comm, Nat.div_add_mod] at h1
    exact ⟨u, _, h1, h2⟩
  have hf : ∀ k, k < m * s → E.w.cell? ⟨b, off + k, none⟩ = some (f k) := fun k hk => by obtain ⟨u, d, h, _⟩ := each k hk; simp [f, h]
  refine ⟨(List.range (m * s)).map f, by simp, fun u hu => ?_, fun j u hu => ?_, fun i e j d he hd => ?_⟩
  · simp only [List.mem_map, List.mem_range] at hu
    obtain ⟨k, hk, rfl⟩ := hu
    obtain ⟨u, d, h, hr⟩ := each k hk
    have : f k = u := by simp [f, h]
    rw [this]; exact hr.one
  · rw [List.getElem?_map] at hu
    rcases Nat.lt_or_ge j (m * s) with h | h
    · rw [List.getElem?_range h] at hu
      simp at hu
      rw [Addr.add_lit, hf j h, hu]
    · rw [List.getElem?_eq_none (by simpa using h)] at hu; cases hu
  · have hi := (List.getElem?_eq_some_iff.1 he).1
    have hj := (List.getElem?_eq_some_iff.1 hd).1
    have hle := hs e (List.mem_of_getElem? he)
    have hk : i * s + j < m * s := by
      have : (i + 1) * s ≤ m * s := Nat.mul_le_mul_right _ (by omega)
      rw [Nat.add_mul] at this; omega
    obtain ⟨u, h1, h2⟩ := hc i e j d he hd
    refine ⟨u, ?_, h2⟩
    rw [List.getElem?_map, List.getElem?_range hk]
    simp [f, h1]

/-- Elements are read out of a row. -/
def srcOf (H : Hp) : AV → Option (List (List D))
  | .nilsl => some []
  | .d (.list ds) => some ds
  | .own o ver n => match H.get o with
    | some (.arr _ _ v es) => if v = ver then some (es.take n) else none
    | some (.frz _ _ v es) => if v = ver then some (es.take n) else none
    | _ => none
  | _ => none

theorem arr_cells {E : En} (I : Inv E) {o : Nm} {x : AObj} {s ver : Nat} {es : List (List D)} (hg : E.H.get o = some x) (hx : (∃ e, x = .arr e s ver es) ∨ (∃ e, x = .frz e s ver es)) :
    es.length ≤ (E.φ o).2 ∧ (E.φ o).2 ≤ maxLen ∧ (∀ y ∈ es, y.length = s) ∧
    (∀ i y j d, es[i]? = some y → y[j]? = some d → ∃ u, E.w.cell? ⟨(E.φ o).1, 0 + (i * s + j), none⟩ = some u ∧ Rep E.w E.S u d) := by
  rcases hx with ⟨e, rfl⟩ | ⟨e, rfl⟩
  · obtain ⟨c, b1, b2, b3, b4, b5, b6⟩ := I.obj o _ hg
    refine ⟨b3, b4, b5, fun i y j d hy hd => ?_⟩
    obtain ⟨u, hu, hu2⟩ := b6 i y j d hy hd
    exact ⟨u, by simp only [World.cell?, b1, Nat.zero_add]; simpa using hu, hu2⟩
  · obtain ⟨b0, c, fz, b1, b3, b4, b5, b6⟩ := I.obj o _ hg
    refine ⟨b3, b4, b5, fun i y j d hy hd => ?_⟩
    obtain ⟨u, hu, hu2⟩ := b6 i y j d hy hd
    exact ⟨u, by simp only [World.cell?, b1, Nat.zero_add]; simpa using hu, hu2⟩

/-- What a slice is, and where its elements lie. -/
theorem src_ok {E : En} (I : Inv E) {v : Value} {x : AV} {ds : List (List D)} (h : RV E v x) (hs : srcOf E.H x = some ds) :
    ∃ a cap, v = .slice a ds.length cap ∧ ds.length ≤ cap ∧ cap ≤ maxLen ∧ (ds = [] ∨ ∃ b off s, a = some ⟨b, off, none⟩ ∧ (∀ e ∈ ds, e.length = s) ∧
      ∀ i e j d, ds[i]? = some e → e[j]? = some d → ∃ u, E.w.cell? ⟨b, off + (i * s + j), none⟩ = some u ∧ Rep E.w E.S u d) := by
  cases h with
  | undef => cases hs
  | agg => cases hs
  | tuple => cases hs
  | ptr => cases hs
  | eptr => cases hs
  | rptr => cases hs
  | fn => cases hs
  | iface => cases hs
  | nilsl => injection hs with hs; subst hs; exact ⟨none, 0, rfl, Nat.le_refl _, by unfold maxLen; omega, .inl rfl⟩
  | d v x hx =>
    cases hx with
    | bool => cases hs
    | int => cases hs
    | str => cases hs
    | nilp => cases hs
    | empty a cap hc => injection hs with hs; subst hs; exact ⟨a, cap, rfl, Nat.zero_le _, hc, .inl rfl⟩
    | list b off cap s es c hb h1 hm h2 h3 h4 =>
      injection hs with hs
      subst hs
      exact ⟨some ⟨b, off, none⟩, cap, rfl, h1, hm, .inr ⟨b, off, s, rfl, h2, fun i e j d he hd => ⟨c i j, h3 i e j d he hd, h4 i e j d he hd⟩⟩⟩
  | own v o ver n h1 ho =>
    obtain ⟨x, hg, hx⟩ := ho
    have key : ∀ s w es, ((∃ e, x = .arr e s w es) ∨ (∃ e, x = .frz e s w es)) → (ver = w → v = E.sl o n ∧ n ≤ es.length) → (if w = ver then some (es.take n) else none) = some ds →
        ∃ a cap, v = .slice a ds.length cap ∧ ds.length ≤ cap ∧ cap ≤ maxLen ∧ (ds = [] ∨ ∃ b off s, a = some ⟨b, off, none⟩ ∧ (∀ e ∈ ds, e.length = s) ∧
          ∀ i e j d, ds[i]? = some e → e[j]? = some d → ∃ u, E.w.cell? ⟨b, off + (i * s + j), none⟩ = some u ∧ Rep E.w E.S u d) := by
      intro s w es hx hv hds
      split at hds
      · rename_i hw
        injection hds with hds
        subst hds
        obtain ⟨e1, e2⟩ := hv hw.symm
        obtain ⟨c1, c2, c3, c4⟩ := arr_cells I hg hx
        have hl : (es.take n).length = n := by simp; omega
        refine ⟨_, _, by rw [hl]; exact e1, by rw [hl]; omega, c2, .inr ⟨_, 0, s, rfl, fun e he => c3 e (List.mem_of_mem_take he), fun i e j d he hd => ?_⟩⟩
        refine c4 i e j d ?_ hd
        rw [List.getElem?_take] at he
        split at he
        · exact he
        · cases he
      · cases hds
    simp only [srcOf, hg] at hs
    cases x with
    | cells cs => exact hx.elim
    | arr e s w es => exact key s w es (.inl ⟨e, rfl⟩) hx.2 hs
    | frz e s w es => exact key s w es (.inr ⟨e, rfl⟩) hx.2 hs

/-- Elements of s cells, as append reads them. -/
theorem src_cells {E : En} (P : Program) {v : Value} {ds : List (List D)} {s : Nat} (hs : ∀ e ∈ ds, e.length = s) {a : Option Addr} {cap : Nat} (hv : v = .slice a ds.length cap)
    (h : ds = [] ∨ ∃ b off s, a = some ⟨b, off, none⟩ ∧ (∀ e ∈ ds, e.length = s) ∧ ∀ i e j d, ds[i]? = some e → e[j]? = some d → ∃ u, E.w.cell? ⟨b, off + (i * s + j), none⟩ = some u ∧ Rep E.w E.S u d) :
    ∃ news : List Value, news.length = ds.length * s ∧ (∀ u ∈ news, u.oneCell' = true) ∧ (∀ w2 : World, w2.heap = E.w.heap → (Builtin.firstCells s ds.length v).run P w2 = .ok news.toArray w2) ∧
      ∀ i e j d, ds[i]? = some e → e[j]? = some d → ∃ u, news[i * s + j]? = some u ∧ Rep E.w E.S u d := by
  subst hv
  rcases h with rfl | ⟨b, off, s', rfl, h2, h3⟩
  · refine ⟨[], by simp, by simp, fun w2 _ => ?_, fun i e j d he => by simp at he⟩
    cases a with
    | none => simp [Builtin.firstCells]
    | some a => simp [Builtin.firstCells, loadCells, loadCellsFrom]
  · cases ds with
    | nil => exact ⟨[], by simp, by simp, fun w2 _ => by simp [Builtin.firstCells, loadCells, loadCellsFrom], fun i e j d he => by simp at he⟩
    | cons d0 r =>
      have e1 := hs d0 (by simp)
      have e2 := h2 d0 (by simp)
      obtain rfl : s = s' := e1.symm.trans e2
      obtain ⟨news, n1, n2, n3, n4⟩ := row_cells (E := E) rfl hs h3
      refine ⟨news, n1, n2, fun w2 hw => run_firstCells_some (P := P) w2 s _ _ _ _ news n1 (fun j u hu => ?_), n4⟩
      have := n3 j u hu
      simp only [World.cell?] at this ⊢
      rw [hw]; exact this

/-- The general growth of append. -/
theorem run_append_any {P : Program} (w : World) (t u ty e : TypeId) (i : TypeInfo) (z : Value) (ht : P.underlying t = some (.slice e)) (e' : TypeId) (hu : P.underlying u = some (.slice e')) (hi : P.info? e = some i) (hz : i.zero = some z)
    (b xb : Option Addr) (sLen sCap n xcap : Nat) (olds news : List Value) (hn : sCap < sLen + n)
    (ho : (Builtin.firstCells i.size sLen (.slice b sLen sCap)).run P w.drew = .ok olds.toArray w.drew) (hx : (Builtin.firstCells i.size n (.slice xb n xcap)).run P w.drew = .ok news.toArray w.drew)
    (h63 : sLen + n ≤ 9223372036854775807) (hb : (sLen + n) * i.bytes ≤ 140737488355328) :
    (Builtin.append_ #[t, u] ty #[.slice b sLen sCap, .slice xb n xcap]).run P w =
      .ok (.slice (some ⟨w.heap.size, 0, none⟩) (sLen + n) (grownCap w (sLen + n) sCap e))
        (w.drew.alloc (.cells ((olds ++ news).toArray ++ Builtin.zeroCells z.cells (grownCap w (sLen + n) sCap e - (sLen + n))) e)) := by
  have hn' : ¬ (sLen + n ≤ sCap) := by omega
  have h63' : ¬ (9223372036854775807 < ((sLen : Int) + (n : Int))) := by omega
  have hfit := growslice_fits hn hb
  have h48' : ¬ (281474976710656 < Builtin.nextslicecap (sLen + n) sCap * i.bytes) := by omega
  simp [Builtin.append_, run_underlying ht, run_underlying hu, sizeOf, typeInfo, zeroValue, hi, hz, Builtin.lenOf, hn', h63', h48', Question.forced]
  simp only [show ({ heap := w.heap, tape := w.tape, drawn := w.drawn + 1, os := w.os, output := w.output } : World) = w.drew from rfl, ho, hx, Result.andThen_ok, Sem.run_bind]
  simp [newRow, grownCap]
  refine congrArg (fun c => w.drew.alloc (.cells c e)) ?_
  apply Array.ext'
  simp [List.append_assoc]
end Go.Rx
