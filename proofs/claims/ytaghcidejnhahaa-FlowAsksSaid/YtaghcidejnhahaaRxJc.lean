/- A part of the proof of the law: what functions of the program come to, walked by Rx, or plain facts on it. -/
import Derived.Test.YtaghcidejnhahaaRxJb
import Derived.ChangeArms
import Derived.ChangeShapes
import Derived.ChangeOld
import Derived.Carry
import Derived.KernelRfl
import Derived.Recover
import Derived.Sort.OwnSorted
import Derived.Lib.SlicesCompact
section
namespace Go.Rx
open Go Go.RowKit
set_option linter.unusedVariables false
set_option linter.unusedSimpArgs false

def fieldsR (R : TypeId → List D → Prop) : List TypeId → List D → Prop
  | [], cs => cs = []
  | t :: ts, cs => ∃ a b, cs = a ++ b ∧ R t a ∧ fieldsR R ts b
/-- Cells of a type, so deep. -/
def TD (P : Program) : Nat → TypeId → List D → Prop
  | 0 => fun _ _ => False
  | n + 1 => fun t cs => match P.underlying t with
    | some .bool => ∃ b, cs = [.bool b]
    | some (.int k) => ∃ z, cs = [.int k z] ∧ (Lit.int k z).wf = true
    | some .string => ∃ s, cs = [.str s] ∧ s.length ≤ maxLen ∧ s.length ≤ reachBytes
    | some (.slice e) => ∃ es, cs = [.list es] ∧ (es.length ≤ maxLen ∧ es.length * P.bytesOf e ≤ reachBytes) ∧ ∀ y ∈ es, TD P n e y
    | some (.struct fs) => fieldsR (TD P n) (fs.toList.map (·.type)) cs
    | _ => False

def tilesT (P : Program) : Nat → List Field → Nat → Bool
  | o, [], m => o == m
  | o, f :: fs, m => f.offset == o && tilesT P (o + P.cellsOf f.type) fs m
def closedT (P : Program) (T : List TypeId) : Bool := T.all fun t => match P.underlying t with
  | some .bool => P.cellsOf t == 1
  | some (.int _) => P.cellsOf t == 1
  | some .string => P.cellsOf t == 1
  | some (.slice e) => P.cellsOf t == 1 && (T.contains e && P.cellsOf e != 0)
  | some (.struct fs) => tilesT P 0 fs.toList (P.cellsOf t) && fs.toList.all fun f => T.contains f.type
  | _ => false

theorem add_add (a : Addr) (i j : Nat) : (a.add i).add j = a.add (i + j) := by
  obtain ⟨b, o, s⟩ := a
  unfold Addr.add
  by_cases hi : i = 0
  · subst hi; simp
  · by_cases hj : j = 0
    · subst hj; simp [hi]
    · simp [hi, hj]; omega
theorem cells_read {w : World} {a : Addr} : ∀ {n : Nat} {cs : List Value}, w.cells? 0 a n = some cs → cs.length = n ∧ ∀ i u, cs[i]? = some u → w.cell? (a.add i) = some u := by
  intro n cs h
  unfold World.cells? at h
  split at h
  · have hl := mapM_some_length h
    rw [List.length_range] at hl
    refine ⟨hl, fun i u hu => ?_⟩
    have hi : i < n := by have := (List.getElem?_eq_some_iff.1 hu).1; omega
    have := mapM_some_get h i i (by rw [List.getElem?_range hi])
    rw [hu] at this
    exact this
  · cases h

theorem choose_list {α : Type} (Q : Nat → α → Prop) : ∀ n, (∀ i, i < n → ∃ y, Q i y) → ∃ ys : List α, ys.length = n ∧ ∀ i y, ys[i]? = some y → Q i y
  | 0, _ => ⟨[], rfl, fun i y h => by simp at h⟩
  | n + 1, h => by
    obtain ⟨ys, hl, hq⟩ := choose_list Q n (fun i hi => h i (by omega))
    obtain ⟨y, hy⟩ := h n (by omega)
    refine ⟨ys ++ [y], by rw [List.length_append, hl]; rfl, fun i z hz => ?_⟩
    by_cases hi : i < n
    · rw [List.getElem?_append_left (by omega)] at hz
      exact hq i z hz
    · rw [List.getElem?_append_right (by omega), hl] at hz
      have hin : i = n := by
        apply Decidable.byContradiction
        intro h2
        rw [List.getElem?_eq_none (by simp; omega)] at hz
        cases hz
      subst hin
      rw [Nat.sub_self] at hz
      injection hz with hz
      exact hz ▸ hy

/-- The cells read as these data. -/
def Reads (w : World) (cs : List Value) (ds : List D) : Prop := ds.length = cs.length ∧ ∀ (i : Nat) (v : Value) (d : D), cs[i]? = some v → ds[i]? = some d → v.oneCell' = true ∧ Rep w (· < w.heap.size) v d

theorem reads_one {w : World} {v : Value} {d : D} (h1 : v.oneCell' = true) (h : Rep w (· < w.heap.size) v d) : Reads w [v] [d] := ⟨rfl, fun i u x hu hx => by
  cases i with
  | zero => simp at hu hx; subst hu hx; exact ⟨h1, h⟩
  | succ i => simp at hu⟩

section
variable {H : Type} {enc : TypeId × Value → H} {P : Program} {w : World} {n : Nat} {t : TypeId} {cs : List Value} {x : DataW H × List MemPlace}
theorem trod_bool (hu : P.underlying t = some .bool) (h : DataW.trod enc P w 0 (fun _ => true) true (n + 1) t cs = some x) : ∃ b, cs = [.bool b] := by
  unfold DataW.trod at h
  rw [hu] at h
  split at h <;> simp_all
theorem trod_int {k : IntKind} (hu : P.underlying t = some (.int k)) (h : DataW.trod enc P w 0 (fun _ => true) true (n + 1) t cs = some x) : ∃ z, cs = [.int k z] ∧ (Lit.int k z).wf = true := by
  unfold DataW.trod at h
  rw [hu] at h
  split at h <;> simp_all
theorem trod_string (hu : P.underlying t = some .string) (h : DataW.trod enc P w 0 (fun _ => true) true (n + 1) t cs = some x) : ∃ s, cs = [.string s] ∧ s.size ≤ maxLen ∧ x.1 = .lit (.string s.data.toList) := by
  unfold DataW.trod at h
  rw [hu] at h
  split at h <;> simp_all
  rw [← h.2]
end
theorem trod_rep {H : Type} {enc : TypeId × Value → H} {P : Program} {w : World} {T : List TypeId} (hT : closedT P T = true) : ∀ (n : Nat) (t : TypeId) (cs : List Value) (x : DataW H × List MemPlace), t ∈ T →
    DataW.trod enc P w 0 (fun _ => true) true n t cs = some x → (∀ z ∈ x.1.weights P t, z ≤ reachBytes) → cs.length = P.cellsOf t ∧ ∃ ds, Reads w cs ds ∧ TD P n t ds
  | 0, t, cs, x, ht, h, hwt => by simp [DataW.trod] at h
  | n + 1, t, cs, x, ht, h, hwt => by
    have hc := hT
    simp only [closedT, List.all_eq_true] at hc
    have hc := hc t ht
    cases hu : P.underlying t with
    | none => rw [hu] at hc; cases hc
    | some u =>
      rw [hu] at hc
      cases u <;> simp only [] at hc <;> try cases hc
      case bool =>
        obtain ⟨b, rfl⟩ := trod_bool hu h
        exact ⟨(by have h1 : P.cellsOf t = 1 := by simpa using hc
                   simp [h1]), _, reads_one rfl (.bool b), by simp only [TD, hu]; exact ⟨b, rfl⟩⟩
      case int k =>
        obtain ⟨z, rfl, hz⟩ := trod_int hu h
        exact ⟨(by have h1 : P.cellsOf t = 1 := by simpa using hc
                   simp [h1]), _, reads_one rfl (.int k z), by simp only [TD, hu]; exact ⟨z, rfl, hz⟩⟩
      case string =>
        obtain ⟨s, rfl, hs, hx⟩ := trod_string hu h
        rw [hx] at hwt
        exact ⟨(by have h1 : P.cellsOf t = 1 := by simpa using hc
                   simp [h1]), _, reads_one rfl (.str s), by simp only [TD, hu]; exact ⟨_, rfl, hs, hwt _ (by simp [DataW.weights])⟩⟩
      case slice e =>
        simp only [Bool.and_eq_true, beq_iff_eq] at hc
        have hce : e ∈ T := by simpa using hc.2.1
        have hpos : P.cellsOf e ≠ 0 := by simpa using hc.2.2
        rcases DataW.trod_slice hu h with ⟨rfl, _⟩ | ⟨a, len, cap, elems, rest, m, hm, rfl, rfl, hb, hl, hmax, hlen, hel, hsp, hns⟩
        · refine ⟨by simpa using hc.1.symm, _, reads_one rfl (.empty none 0 (by unfold maxLen; omega)), ?_⟩
          simp only [TD, hu]
          exact ⟨[], rfl, by simp, fun y hy => by cases hy⟩
        · obtain rfl : m = n := by omega
          simp only [DataW.weights, hu] at hwt
          refine ⟨by simpa using hc.1.symm, ?_⟩
          have each : ∀ i, i < len → ∃ y : List D, y.length = P.cellsOf e ∧ TD P m e y ∧ ∀ j d, y[j]? = some d → ∃ u, w.cell? (a.add (i * P.cellsOf e + j)) = some u ∧ Rep w (· < w.heap.size) u d := by
            intro i hi
            have h1 := hel i hi
            have h2 : elems[i]? = some elems[i] := List.getElem?_eq_getElem (by omega)
            rw [h2, Option.bind_eq_some_iff] at h1
            obtain ⟨c, hcells, htr⟩ := h1
            obtain ⟨hcl, hcc⟩ := cells_read hcells
            have hall : ∀ (l : List (DataW H)) (d : DataW H), d ∈ l → ∀ z ∈ d.weights P e, z ∈ DataW.weightsAll P e l := fun l => by
              induction l with
              | nil => intro d hd; cases hd
              | cons a l ih =>
                intro d hd z hz
                simp only [DataW.weightsAll, List.mem_append]
                rcases List.mem_cons.1 hd with rfl | hd
                · exact .inl hz
                · exact .inr (ih d hd z hz)
            obtain ⟨k1, y, ⟨r1, r2⟩, hTD⟩ := trod_rep hT m e c _ hce htr (fun z hz => hwt z (by
              simp only [List.mem_cons, List.mem_append]
              exact .inr (.inl (hall _ elems[i].1 (List.mem_map_of_mem (List.getElem_mem _)) z hz))))
            refine ⟨y, by rw [r1, hcl], hTD, fun j d hd => ?_⟩
            have hj : j < c.length := by have := (List.getElem?_eq_some_iff.1 hd).1; omega
            have hcj := List.getElem?_eq_getElem hj
            have := hcc j _ hcj
            rw [add_add] at this
            exact ⟨_, this, (r2 j _ d hcj hd).2⟩
          obtain ⟨ys, hyl, hys⟩ := choose_list _ len each
          refine ⟨[.list ys], reads_one rfl ?_, by simp only [TD, hu]; exact ⟨ys, rfl, ⟨by omega, by
              have hz := hwt _ (List.mem_cons_self ..)
              rw [List.length_map, hlen, Nat.add_mul] at hz
              rw [hyl]; exact Nat.le_trans (Nat.le_add_right _ _) hz⟩, fun y hy => by
            obtain ⟨j, hj, rfl⟩ := List.getElem_of_mem hy
            exact (hys j _ (List.getElem?_eq_getElem hj)).2.1⟩⟩
          have plain : (len = 0 ∨ P.cellsOf e = 0) ∨ (a.spot = none ∧ a.block < w.heap.size) := by
            rcases Nat.eq_zero_or_pos len with h0 | h0
            · exact .inl (.inl h0)
            · rcases Nat.eq_zero_or_pos (P.cellsOf e) with h1 | h1
              · exact .inl (.inr h1)
              · refine .inr ?_
                have hy0 : ys[0]? = some ys[0] := List.getElem?_eq_getElem (by omega)
                obtain ⟨q1, q2, q3⟩ := hys 0 _ hy0
                obtain ⟨u, hu1, _⟩ := q3 0 _ (List.getElem?_eq_getElem (by omega))
                simp only [Nat.zero_mul, Nat.add_zero, Addr.add_zero'] at hu1
                unfold World.cell? at hu1
                split at hu1
                · rename_i c el fz hheap
                  refine ⟨?_, (Array.getElem?_eq_some_iff.1 hheap).1⟩
                  cases hs : a.spot with
                  | none => rfl
                  | some z => rw [hs] at hu1; simp at hu1
                · cases hu1
          have hlt : ∀ i y (j : Nat) d, ys[i]? = some y → y[j]? = some d → 0 < len ∧ 0 < P.cellsOf e := fun i y j d hy hd => by
            have h1 := (List.getElem?_eq_some_iff.1 hy).1
            have h2 := (List.getElem?_eq_some_iff.1 hd).1
            have h3 := (hys i y hy).1
            omega
          rcases Nat.eq_zero_or_pos len with h0 | h0
          · have : ys = [] := List.eq_nil_of_length_eq_zero (by omega)
            subst this
            rw [h0]
            exact .empty _ _ hmax
          · by_cases hz : P.cellsOf e = 0
            · -- cells of no width: nothing is read
              exact absurd hz hpos
            · obtain ⟨hsp, hblk⟩ : a.spot = none ∧ a.block < w.heap.size := by
                rcases plain with (h | h) | h
                · omega
                · exact absurd h hz
                · exact h
              obtain ⟨b, off, spot⟩ := a
              simp only [] at hsp hblk
              subst hsp
              have key := Rep.list (w := w) (S := (· < w.heap.size)) b off cap (P.cellsOf e) ys (fun i j => (w.cell? ⟨b, off + (i * P.cellsOf e + j), none⟩).getD undef) hblk (by omega) hmax (fun y hy => by
                obtain ⟨j, hj, rfl⟩ := List.getElem_of_mem hy
                exact (hys j _ (List.getElem?_eq_getElem hj)).1)
                (fun i y j d hy hd => by
                  obtain ⟨u, hu1, hu2⟩ := (hys i y hy).2.2 j d hd
                  rw [Addr.add_lit] at hu1
                  rw [hu1]; rfl)
                (fun i y j d hy hd => by
                  obtain ⟨u, hu1, hu2⟩ := (hys i y hy).2.2 j d hd
                  rw [Addr.add_lit] at hu1
                  rw [hu1]; exact hu2)
              rw [hyl] at key
              exact key
      case struct fs =>
        simp only [Bool.and_eq_true, List.all_eq_true] at hc
        obtain ⟨htl, hmem⟩ := hc
        unfold DataW.trod at h
        rw [hu] at h
        simp only [] at h
        split at h
        · rename_i hlen
          refine ⟨hlen, ?_⟩
          rw [Option.map_eq_some_iff] at h
          obtain ⟨xs, hxs, hxe⟩ := h
          rw [← hxe] at hwt
          simp only [DataW.weights, hu] at hwt
          have key : ∀ (l : List Field) (o : Nat) (ys : List (DataW H × List MemPlace)), (∀ f ∈ l, f.type ∈ T) → tilesT P o l (P.cellsOf t) = true → o ≤ cs.length →
              (∀ z ∈ DataW.weightsEach P (l.map (·.type)) (ys.map (·.1)), z ≤ reachBytes) → l.mapM (fun f => DataW.trod enc P w 0 (fun _ => true) true n f.type ((cs.drop f.offset).take (P.cellsOf f.type))) = some ys → ∃ ds, Reads w (cs.drop o) ds ∧ fieldsR (TD P n) (l.map (·.type)) ds := fun l => by
            induction l with
            | nil =>
              intro o ys _ htl _ _ _
              simp only [tilesT, beq_iff_eq] at htl
              refine ⟨[], ⟨by simp; omega, fun i v d hv hd => by simp at hd⟩, rfl⟩
            | cons f l ih =>
              intro o ys hm htl ho hwy hys
              simp only [tilesT, Bool.and_eq_true, beq_iff_eq] at htl
              obtain ⟨hoff, htl⟩ := htl
              simp only [List.mapM_cons, Option.bind_eq_bind, Option.bind_eq_some_iff] at hys
              obtain ⟨y, hy, zs, hzs, hye⟩ := hys
              obtain rfl : y :: zs = ys := by simpa using hye
              simp only [List.map_cons, DataW.weightsEach, List.mem_append] at hwy
              obtain ⟨l1, d1, ⟨r1, r2⟩, hTD⟩ := trod_rep hT n f.type _ y (hm f (by simp)) hy (fun z hz => hwy z (.inl hz))
              rw [hoff] at l1 r1 r2
              have hle : o + P.cellsOf f.type ≤ cs.length := by simp at l1; omega
              obtain ⟨d2, ⟨q1, q2⟩, hR⟩ := ih (o + P.cellsOf f.type) zs (fun g hg => hm g (by simp [hg])) htl hle (fun z hz => hwy z (.inr hz)) hzs
              refine ⟨d1 ++ d2, ⟨by simp [r1, q1]; omega, fun i v d hv hd => ?_⟩, ⟨d1, d2, rfl, hTD, hR⟩⟩
              have hd1 : d1.length = P.cellsOf f.type := by rw [r1]; simp; omega
              by_cases hi : i < d1.length
              · rw [List.getElem?_append_left hi] at hd
                exact r2 i v d (by rw [List.getElem?_take, if_pos (by omega)]; exact hv) hd
              · rw [List.getElem?_append_right (by omega)] at hd
                refine q2 (i - d1.length) v d ?_ hd
                rw [List.getElem?_drop] at hv ⊢
                rw [hd1, show o + P.cellsOf f.type + (i - P.cellsOf f.type) = o + i by omega]
                exact hv
          obtain ⟨ds, hr, hf⟩ := key fs.toList 0 xs (fun f hf => by have := hmem f hf; simpa using this) htl (by omega) hwt hxs
          exact ⟨ds, by simpa using hr, by simp only [TD, hu]; exact hf⟩
        · cases h

/-- An argument of a type. -/
def argAV (P : Program) (t : TypeId) (ds : List D) : AV :=
  match aggT P t with
  | some true => .agg (ds.map .d)
  | _ => match ds with
    | [d] => .d d
    | _ => .undef

/-- The world as it stands when a law is called: nothing is the call's own. -/
def En0 (w : World) : En := ⟨w, (· < w.heap.size), fun _ => ⟨0, 0, 0⟩, []⟩
theorem inv0 (w : World) : Inv (En0 w) := ⟨fun o x h => (by cases h), fun o o' x x' h => (by cases h), fun o x h => (by cases h), fun b h => h⟩

theorem cell_one {P : Program} {w : World} {base : Nat} {t : TypeId} {v : Value} {c : Value} (hg : aggT P t = some false) (hv : Value.okWide P w .any base t v) (hc : v.cells.toList = [c]) (h1 : c.oneCell' = true) : v = c := by
  cases v with
  | agg cs =>
    exfalso
    unfold Value.okWide at hv
    unfold aggT at hg
    split at hg
    · cases hg
    · injection hg with hg; cases hg
    · injection hg with hg; cases hg
    · rename_i d h2 h3 hu
      rw [hu] at hv
      cases d <;> first
        | (exact h2 _ rfl)
        | (exact h3 _ _ rfl)
        | (simp [Cell.okWide, Cell.ok, hu] at hv; done)
  | _ => simpa [Value.cells] using hc

theorem args_ok {H : Type} {enc : TypeId × Value → H} {P : Program} {W : World} {T : List TypeId} (hT : closedT P T = true) {base : Nat} : ∀ (ts : List TypeId) (vs : List Value) (ds : List (DataW H)) (ps : List MemPlace),
    (∀ t ∈ ts, t ∈ T) → (∀ (j : Nat) (t : TypeId) (v : Value), ts[j]? = some t → vs[j]? = some v → Value.okWide P W .any base t v) → DataW.TrodAll enc P W 0 (fun _ => true) true ts vs ds ps → (∀ z ∈ DataW.weightsEach P ts ds, z ≤ reachBytes) →
    ∃ dss : List (List D), dss.length = ts.length ∧ (∀ (j : Nat) (t : TypeId) (d : List D), ts[j]? = some t → dss[j]? = some d → ∃ n, TD P n t d) ∧ ArgsOk (En0 W) vs (List.zipWith (argAV P) ts dss)
  | [], vs, ds, ps, _, _, h, _ => by
    obtain ⟨rfl, _, _⟩ := Go.ChangeShapes.trodAll_nil h
    exact ⟨[], rfl, fun j t d h => by simp at h, rfl, fun i v a hv => by simp at hv⟩
  | t :: ts, vs, ds, ps, hm, hval, h, hwt => by
    obtain ⟨v, vs', d, ds', p, q, rfl, rfl, rfl, ⟨fuel, hf⟩, h2⟩ := Go.ChangeShapes.trodAll_cons h
    simp only [DataW.weightsEach, List.mem_append] at hwt
    obtain ⟨dss, e1, e2, e3, e4⟩ := args_ok hT ts vs' ds' q (fun t ht => hm t (by simp [ht])) (fun j t v ht hv => hval (j + 1) t v (by simpa using ht) (by simpa using hv)) h2 (fun z hz => hwt z (.inr hz))
    obtain ⟨l1, dd, ⟨r1, r2⟩, hTD⟩ := trod_rep hT fuel t v.cells.toList _ (hm t (by simp)) hf (fun z hz => hwt z (.inl hz))
    have hv := hval 0 t v rfl rfl
    refine ⟨dd :: dss, by simp [e1], fun j t' d' ht' hd' => ?_, by simp [e3], fun i u b hu hb => ?_⟩
    · cases j with
      | zero => simp at ht' hd'; subst ht' hd'; exact ⟨_, hTD⟩
      | succ j => exact e2 j t' d' (by simpa using ht') (by simpa using hd')
    · cases i with
      | succ i => exact e4 i u b (by simpa using hu) (by simpa using hb)
      | zero =>
        simp only [List.getElem?_cons_zero, List.zipWith_cons_cons] at hu hb
        injection hu with hu
        injection hb with hb
        subst hu hb
        unfold argAV
        split
        · rename_i hg
          have hagg : ∃ cs, v = .agg cs := by
            unfold Value.okWide at hv
            unfold aggT at hg
            split at hg
            · cases hg
            · rename_i hu; rw [hu] at hv; obtain ⟨cs, h, _⟩ := hv; exact ⟨cs, h⟩
            · rename_i hu; rw [hu] at hv; obtain ⟨cs, h, _⟩ := hv; exact ⟨cs, h⟩
            · injection hg with hg; cases hg
          obtain ⟨cs, rfl⟩ := hagg
          have e : cs = cs.toList.toArray := by simp
          rw [e]
          refine .agg _ _ (by simp; simp [Value.cells] at r1; omega) (fun c hc => ?_) (fun i c a hc ha => ?_)
          · obtain ⟨i, hi⟩ := List.mem_iff_getElem?.1 hc
            have hlt := (List.getElem?_eq_some_iff.1 hi).1
            have hd := List.getElem?_eq_getElem (l := dd) (i := i) (by simp [Value.cells] at r1 hlt ⊢; omega)
            exact (r2 i c _ hi hd).1
          · rw [List.getElem?_map, Option.map_eq_some_iff] at ha
            obtain ⟨d', hd', rfl⟩ := ha
            exact .d _ _ (r2 i c d' hc hd').2
        · rename_i hg
          split
          · rename_i d'
            have hl : v.cells.toList.length = 1 := by rw [← r1]; rfl
            obtain ⟨c, hc⟩ : ∃ c, v.cells.toList = [c] := by
              match hq : v.cells.toList, hl with
              | [c], _ => exact ⟨c, rfl⟩
            have hr := r2 0 c d' (by rw [hc]; rfl) rfl
            have hgf : aggT P t = some false := by
              have hcl := hT
              simp only [closedT, List.all_eq_true] at hcl
              have hcl := hcl t (hm t (by simp))
              cases hu : P.underlying t with
              | none => rw [hu] at hcl; cases hcl
              | some u =>
                cases hgg : aggT P t with
                | none => unfold aggT at hgg; rw [hu] at hgg; cases u <;> cases hgg
                | some b =>
                  cases b with
                  | false => rfl
                  | true => exact absurd hgg hg
            have := cell_one hgf hv hc hr.1
            subst this
            exact .d _ _ hr.2
          · exact .undef _

theorem law_calls {H : Type} {enc : TypeId × Value → H} {P : Program} {cfg : Cfg} (hext : ExtOk P cfg) {f : FuncId} {ts : List TypeId} {T : List TypeId} (hT : closedT P T = true) (hts : ∀ t ∈ ts, t ∈ T) {W : World} {base : Nat} {args : Array Value} {ds : List (DataW H)} {ps : List MemPlace}
    (hA : DataW.TrodAll enc P W 0 (fun _ => true) true ts args.toList ds ps) (hval : ∀ (j : Nat) (t : TypeId) (v : Value), ts[j]? = some t → args.toList[j]? = some v → Value.okWide P W .any base t v)
    (hwt : (DataW.weightsEach P ts ds).all (· ≤ reachBytes) = true)
    (hrun : ∀ dss : List (List D), dss.length = ts.length → (∀ (j : Nat) (t : TypeId) (d : List D), ts[j]? = some t → dss[j]? = some d → ∃ n, TD P n t d) → ∃ k H', icall P cfg k f (List.zipWith (argAV P) ts dss) [] = some (.ret (.d (.bool true)), H')) :
    Calls P f args W fun e W' => e = .returned (.bool true) ∧ Below W.heap.size W W' := by
  obtain ⟨dss, e1, e2, e3⟩ := args_ok hT ts args.toList ds ps hts hval hA (fun z hz => by simpa using List.all_eq_true.1 hwt z hz)
  obtain ⟨k, H', hk⟩ := hrun dss e1 e2
  have := icall_ok hext k f _ _ _ _ hk (En0 W) args.toList (inv0 W) rfl e3
  rw [show args.toList.toArray = args by simp] at this
  refine Calls.mono this ?_
  rintro e W' ⟨E', rfl, I', _, S', hres, _⟩
  cases e with
  | returned v => exact ⟨by rw [rep_bool (rv_d hres)], ⟨S'.os, S'.tape, S'.output, S'.size, fun k hk => S'.keep k hk (fun ⟨o, x, hx, _⟩ => by cases hx)⟩⟩
  | panicked c => exact hres.elim
  | outgrown => exact hres.elim
end Go.Rx
end
section
namespace Go.Rx
open Go Go.RowKit
set_option linter.unusedVariables false
set_option linter.unusedSimpArgs false

/-- A region's operations, one by one. -/
def runL (P : Program) (cfg : Cfg) (ic : Ic) (nt : Nat) (ops : Array Oper) : List Oper → St → Option (Option AV × St)
  | [], st => some (none, st)
  | o :: l, st => (match wantedA ops st.fr o with
    | none => none
    | some true => runOp P cfg ic nt o st
    | some false => (putF nt o.dst (.tuple []) st.fr st.H).map fun s => (none, s)).bind fun r => match r.1 with
    | some v => some (some v, r.2)
    | none => runL P cfg ic nt ops l r.2
theorem runOps_L {P : Program} {cfg : Cfg} {ic : Ic} {nt : Nat} {ops : Array Oper} : ∀ (n i : Nat) (st : St), i + n = ops.size → runOps P cfg ic nt ops (List.range' i n) st = runL P cfg ic nt ops (ops.toList.drop i) st
  | 0, i, st, h => by
    rw [List.drop_eq_nil_of_le (by simp; omega)]; rfl
  | n + 1, i, st, h => by
    have hi : i < ops.toList.length := by simp; omega
    have ho : ops[i]? = some ops.toList[i] := by simp [show i < ops.size by omega]
    rw [List.range'_succ, List.drop_eq_getElem_cons hi]
    simp only [runOps, runL, stepOp, ho]
    congr 1
    funext r
    cases r.1 with
    | some v => rfl
    | none => exact runOps_L n (i + 1) r.2 (by omega)
theorem runOps_all {P : Program} {cfg : Cfg} {ic : Ic} {nt : Nat} {ops : Array Oper} {st : St} : runOps P cfg ic nt ops (List.range ops.size) st = runL P cfg ic nt ops ops.toList st := by
  rw [List.range_eq_range', runOps_L ops.size 0 st (by omega)]; simp

section
variable {R : Type}
/-- A value is laid open. -/
def force (a : AV) (K : AV → R) : R :=
  match a with
  | .undef => K .undef
  | .d x => match x with
    | .bool b => K (.d (.bool b))
    | .int k n => K (.d (.int k n))
    | .str s => K (.d (.str s))
    | .list es => K (.d (.list es))
    | .nilp => K (.d .nilp)
  | .nilsl => K .nilsl
  | .agg vs => K (.agg vs)
  | .tuple vs => K (.tuple vs)
  | .own o v n => K (.own o v n)
  | .ptr o n => K (.ptr o n)
  | .eptr o v i n => K (.eptr o v i n)
  | .rptr e n => K (.rptr e n)
  | .fn f c => K (.fn f c)
  | .iface t a => K (.iface t a)
theorem force_eq (a : AV) (K : AV → R) : force a K = K a := by
  cases a <;> try rfl
  rename_i x
  cases x <;> rfl
noncomputable def forceL (l : List AV) : (List AV → R) → R :=
  List.rec (motive := fun _ => (List AV → R) → R) (fun K => K []) (fun a _ ih K => force a fun a => ih fun r => K (a :: r)) l
theorem forceL_eq : ∀ (l : List AV) (K : List AV → R), forceL l K = K l
  | [], K => rfl
  | a :: r, K => by
    show force a (fun a => forceL r fun r => K (a :: r)) = _
    simp only [force_eq, forceL_eq r]
/-- A heap's first object is laid open. -/
noncomputable def forceH (H : Hp) (K : Hp → R) : R :=
  match H with
  | [] => K []
  | (o, .cells cs) :: r => forceL cs fun cs => K ((o, .cells cs) :: r)
  | (o, .arr e s v es) :: r => K ((o, .arr e s v es) :: r)
  | (o, .frz e s v es) :: r => K ((o, .frz e s v es) :: r)
theorem forceH_eq (H : Hp) (K : Hp → R) : forceH H K = K H := by
  cases H with
  | nil => rfl
  | cons x r =>
    obtain ⟨o, x⟩ := x
    cases x with
    | cells cs => simp only [forceH, forceL_eq]
    | arr => rfl
    | frz => rfl
noncomputable def forceV (a : AV) (K : AV → R) : R := force a fun a => match a with
  | .agg vs => forceL vs fun vs => K (.agg vs)
  | .tuple vs => forceL vs fun vs => K (.tuple vs)
  | a => K a
theorem forceV_eq (a : AV) (K : AV → R) : forceV a K = K a := by
  unfold forceV
  rw [force_eq]
  cases a <;> simp only [forceL_eq]

noncomputable def forceSp {α : Type} (l : List α) : (List α → R) → R :=
  List.rec (motive := fun _ => (List α → R) → R) (fun K => K []) (fun a _ ih K => ih fun r => K (a :: r)) l
theorem forceSp_eq {α : Type} : ∀ (l : List α) (K : List α → R), forceSp l K = K l
  | [], K => rfl
  | a :: r, K => by
    show forceSp r (fun r => K (a :: r)) = _
    simp only [forceSp_eq r]
def forceHd {α : Type} (l : List α) (K : List α → R) : R :=
  match l with
  | [] => K []
  | x :: r => K (x :: r)
theorem forceHd_eq {α : Type} (l : List α) (K : List α → R) : forceHd l K = K l := by cases l <;> rfl
noncomputable def forceO (x : AObj) (K : AObj → R) : R :=
  match x with
  | .cells cs => forceL cs fun cs => K (.cells cs)
  | .arr e s v es => K (.arr e s v es)
  | .frz e s v es => K (.frz e s v es)
theorem forceO_eq (x : AObj) (K : AObj → R) : forceO x K = K x := by cases x <;> simp only [forceO, forceL_eq]
noncomputable def forceHp (H : Hp) : (Hp → R) → R :=
  List.rec (motive := fun _ => (Hp → R) → R) (fun K => K []) (fun p _ ih K => forceO p.2 fun x => ih fun r => K ((p.1, x) :: r)) H
theorem forceHp_eq : ∀ (H : Hp) (K : Hp → R), forceHp H K = K H
  | [], K => rfl
  | (o, x) :: r, K => by
    show forceO x (fun x => forceHp r fun r => K ((o, x) :: r)) = _
    simp only [forceO_eq, forceHp_eq r]
noncomputable def forceQ (q : Bool) (H : Hp) (K : Hp → R) : R :=
  match q with
  | true => forceHd H K
  | false => forceHp H K
theorem forceQ_eq (q : Bool) (H : Hp) (K : Hp → R) : forceQ q H K = K H := by cases q <;> simp only [forceQ, forceHd_eq, forceHp_eq]
def dstK (x : Option Tmp) (K : Nat → R) : R :=
  match x with
  | some d => K d
  | none => K 0
theorem dstK_eq (x : Option Tmp) (K : Nat → R) : dstK x K = K (x.getD 0) := by cases x <;> rfl

/-- An open result, and what comes next. -/
noncomputable def nextK {α : Type} (x : Option α) (K : α → Option R) : Option R := Option.rec (motive := fun _ => Option R) none (fun a => K a) x
theorem nextK_eq {α : Type} (x : Option α) (K : α → Option R) : nextK x K = x.bind K := by cases x <;> rfl

noncomputable def putK (nt : Nat) (dst : Option Tmp) (v : AV) (fr : Fr) (H : Hp) (K : St → Option R) : Option R :=
  match dst with
  | some d => if d < nt then forceV v fun v => forceHd fr fun fr => forceHd H fun H => K ⟨(d, v) :: fr, H⟩ else none
  | none => forceHd fr fun fr => forceHd H fun H => K ⟨fr, H⟩
theorem putK_eq (nt : Nat) (dst : Option Tmp) (v : AV) (fr : Fr) (H : Hp) (K : St → Option R) : putK nt dst v fr H K = (putF nt dst v fr H).bind K := by
  cases dst with
  | none => simp [putK, putF, forceHd_eq]
  | some d =>
    simp only [putK, putF, forceV_eq, forceHd_eq]
    split <;> rfl

/-- What is open stays open: a test that is not known parts the way. -/
noncomputable def iteK (c : Bool) (A B : Option R) : Option R := Bool.rec (motive := fun _ => Option R) B A c
noncomputable def iteC (c : Bool) (A B : Option R) : Option R := Bool.rec (motive := fun _ => Option R) B A c
/-- It is not looked at till it is asked for. -/
noncomputable def hold (c : Bool) : Bool := @decide (c = true) (Classical.propDecidable _)
theorem hold_eq (c : Bool) : hold c = c := by cases c <;> simp [hold]
noncomputable def iteO (c : Bool) (A B : Option R) : Option R := Bool.rec (motive := fun _ => Option R) B A (hold c)
theorem iteO_t {c : Bool} {A B r : Option R} (h : c = true) (h1 : A = r) : iteO c A B = r := by subst h; unfold iteO; rw [hold_eq]; exact h1
theorem iteO_eq (c : Bool) (A B : Option R) : iteO c A B = if c then A else B := by unfold iteO; rw [hold_eq]; cases c <;> rfl
theorem iteK_t {c : Bool} {A B r : Option R} (h : c = true) (h1 : A = r) : iteK c A B = r := by subst h; unfold iteK; exact h1
theorem iteK_f {c : Bool} {A B r : Option R} (h : c = false) (h1 : B = r) : iteK c A B = r := by subst h; unfold iteK; exact h1
theorem iteK_of {c : Bool} {A B r : Option R} (h1 : c = true → A = r) (h2 : c = false → B = r) : iteK c A B = r := by
  cases hc : c
  · exact iteK_f rfl (h2 hc)
  · exact iteK_t rfl (h1 hc)
theorem iteK_true (A B : Option R) : iteK true A B = A := by unfold iteK; rfl
theorem iteK_false (A B : Option R) : iteK false A B = B := by unfold iteK; rfl

noncomputable def forceA (l : List AV) : (List AV → R) → R :=
  List.rec (motive := fun _ => (List AV → R) → R) (fun K => K []) (fun a _ ih K => forceV a fun a => ih fun r => K (a :: r)) l
theorem forceA_eq : ∀ (l : List AV) (K : List AV → R), forceA l K = K l
  | [], K => rfl
  | a :: r, K => by
    show forceV a (fun a => forceA r fun r => K (a :: r)) = _
    simp only [forceV_eq, forceA_eq r]

theorem iteK_eq (c : Bool) (A B : Option R) : iteK c A B = if c then A else B := by cases c <;> rfl
theorem iteC_eq (c : Bool) (A B : Option R) : iteC c A B = if c then A else B := by cases c <;> rfl
end
/-- A call of plain data, and of none of the caller's objects. -/
def plainV : AV → Bool
  | .d _ => true
  | .agg vs => vs.all fun a => match a with | .d _ => true | _ => false
  | .fn _ [] => true
  | _ => false
def plainR : AV → Bool
  | .tuple vs => vs.all plainV
  | .iface _ a => plainV a
  | a => plainV a
theorem sealCs_plain (H : Hp) : ∀ (l : List AV), (l.all fun a => match a with | .d _ => true | _ => false) = true → sealCs H l = (l, H)
  | [], _ => rfl
  | a :: r, h => by
    simp only [List.all_cons, Bool.and_eq_true] at h
    cases a <;> simp only [] at h <;> try (cases h.1)
    simp only [sealCs, sealC, sealCs_plain H r h.2]
theorem sealArgs_plain (own : List Nat) (H : Hp) : ∀ (l : List AV) (i : Nat), l.all plainV = true → sealArgs own i H l = (l, H)
  | [], i, _ => rfl
  | a :: r, i, h => by
    simp only [List.all_cons, Bool.and_eq_true] at h
    have ih := sealArgs_plain own H r (i + 1) h.2
    have hs : sealV H a = (a, H) := by
      have h1 := h.1
      cases a <;> simp only [plainV] at h1 <;> try (cases h1)
      · rfl
      · rename_i vs; simp only [sealV, sealCs_plain H vs h1]
      · rfl
    simp only [sealArgs, ih, hs]
    split <;> rfl
theorem hdL_plain (p : Nm) : ∀ (l : List AV) (k : Nat), (l.all fun a => match a with | .d _ => true | _ => false) = true → hdL p k l = []
  | [], k, _ => rfl
  | a :: r, k, h => by
    simp only [List.all_cons, Bool.and_eq_true] at h
    cases a <;> simp only [] at h <;> try (cases h.1)
    simp only [hdL, hd1, hdL_plain p r (k + 1) h.2, List.append_nil]
theorem hdArgs_plain (mk : Nat → Nm) : ∀ (l : List AV) (i : Nat), l.all plainV = true → hdArgs mk i l = []
  | [], i, _ => rfl
  | a :: r, i, h => by
    simp only [List.all_cons, Bool.and_eq_true] at h
    have hs : hds (mk i) a = [] := by
      have h1 := h.1
      cases a <;> simp only [plainV] at h1 <;> try (cases h1)
      · rfl
      · rename_i vs; simp only [hds, hdL_plain _ vs 0 h1]
      · rename_i f c; cases c <;> first | rfl | (simp only [plainV] at h1; cases h1)
    simp only [hdArgs, hs, hdArgs_plain mk r (i + 1) h.2, List.append_nil]
theorem ren_plain (g : Gm) (H : Hp) : ∀ (a : AV), plainV a = true → ren g H a = a := fun a h => by
  have inner : ∀ (l : List AV), (l.all fun a => match a with | .d _ => true | _ => false) = true → renL g H l = l := fun l => by
    induction l with
    | nil => intro _; rfl
    | cons b r ih =>
      intro h
      simp only [List.all_cons, Bool.and_eq_true] at h
      cases b <;> simp only [] at h <;> try (cases h.1)
      simp only [renL, ren, ih h.2]
  cases a <;> simp only [plainV] at h <;> try (cases h)
  · rfl
  · rename_i vs; simp only [ren, inner vs h]
  · rename_i f c; cases c <;> first | rfl | (simp only [plainV] at h; cases h)
theorem renL_plain (g : Gm) (H : Hp) : ∀ (l : List AV), l.all plainV = true → renL g H l = l
  | [], _ => rfl
  | a :: r, h => by
    simp only [List.all_cons, Bool.and_eq_true] at h
    simp only [renL, ren_plain g H a h.1, renL_plain g H r h.2]
theorem renR_plain (g : Gm) (H : Hp) (a : AV) (h : plainR a = true) : ren g H a = a := by
  cases a <;> simp only [plainR] at h <;> first
    | exact ren_plain g H _ h
    | (simp only [ren, renL_plain g H _ h]; done)
    | (simp only [ren, ren_plain g H _ h]; done)
def plainRes : Res → Bool
  | .ret a => plainR a
  | .pan a => plainR a
theorem callA_plain {cfg : Cfg} {ic : Ic} {dst : Nat} {f : FuncId} {args : List AV} {H : Hp} {r : Res} (h : ic f args [] = some (r, [])) (ha : args.all plainV = true) (hr : plainRes r = true) : callA cfg ic dst f args H = some (r, H) := by
  have e1 : gArgs H args = [] := by
    simp only [gArgs, hdArgs_plain _ args 0 ha, gather]
    rfl
  unfold callA
  simp only [sealArgs_plain _ H args 0 ha, e1, renL_plain _ _ args ha, renHp, h]
  have e2 : dropP [] H = H := by
    unfold dropP
    rw [List.filter_eq_self.2]
    intro x _; rfl
  have e3 : mapRes (ren (gBack [] dst H []) []) r = r := by
    cases r with
    | ret a => simp only [mapRes]; rw [renR_plain _ _ a hr]
    | pan a => simp only [mapRes]; rw [renR_plain _ _ a hr]
  have ok : Gm.ok [] = true := by decide
  have bok : backOk [] (gBack [] dst H []) H [] = true := by
    simp [backOk, gBack, ok]
  simp only [ok, if_true, Option.bind_some, bok, e3, e2]
  rfl
section
variable {R : Type}

noncomputable def forceNm (n : Nm) : (Nm → R) → R :=
  Nm.rec (motive := fun _ => (Nm → R) → R) (fun t K => K (.slot t)) (fun i K => K (.arg i)) (fun t K => K (.res t)) (fun _ k ih K => ih fun n => K (.cell n k)) n
theorem forceNm_eq : ∀ (n : Nm) (K : Nm → R), forceNm n K = K n
  | .slot _, K => rfl
  | .arg _, K => rfl
  | .res _, K => rfl
  | .cell n k, K => by
    show forceNm n (fun n => K (.cell n k)) = _
    simp only [forceNm_eq n]
noncomputable def forceG (g : Gm) : (Gm → R) → R :=
  List.rec (motive := fun _ => (Gm → R) → R) (fun K => K []) (fun x _ ih K => forceNm x.1 fun o => forceNm x.2.1 fun p => ih fun r => K ((o, (p, x.2.2)) :: r)) g
theorem forceG_eq : ∀ (g : Gm) (K : Gm → R), forceG g K = K g
  | [], K => rfl
  | x :: r, K => by
    show forceNm x.1 (fun o => forceNm x.2.1 fun p => forceG r fun r => K ((o, (p, x.2.2)) :: r)) = _
    simp only [forceNm_eq, forceG_eq r]
/-- A call, laid open. -/
noncomputable def callS (cfg : Cfg) (ic : Ic) (dst : Nat) (f : FuncId) (args1 : List AV) (H1 : Hp) (K : Res × Hp → Option R) : Option R :=
  forceG (gArgs H1 args1) fun g => iteC g.ok (forceA (renL g H1 args1) fun a2 => forceHp (renHp g H1 g) fun H2 => nextK (ic f a2 H2) fun r =>
    forceG (gBack g dst H1 r.2) fun b => iteC (backOk g b H1 r.2) (K (mapRes (ren b r.2) r.1, renHp b r.2 b ++ dropP g H1)) none) none
/-- A call of plain data has ended. -/
noncomputable def callP (dst : Nat) (H : Hp) (r : Res × Hp) (p : Bool) : (Res × Hp → Option R) → Option R := match r.2, p with
  | [], true => fun K => K (r.1, H)
  | _, _ => fun K => forceG (gBack [] dst H r.2) fun b => iteC (backOk [] b H r.2) (K (mapRes (ren b r.2) r.1, renHp b r.2 b ++ dropP [] H)) none
noncomputable def callK (cfg : Cfg) (ic : Ic) (dst : Nat) (f : FuncId) (args : List AV) (H : Hp) (K : Res × Hp → Option R) : Option R :=
  match args.all plainV with
  | true => nextK (ic f args []) fun r => callP dst H r (plainRes r.1) K
  | false => forceA (sealArgs (cfg.ownA f) 0 H args).1 fun args1 => forceHp (sealArgs (cfg.ownA f) 0 H args).2 fun H1 => callS cfg ic dst f args1 H1 K
theorem callA_none {cfg : Cfg} {ic : Ic} {dst : Nat} {f : FuncId} {args : List AV} {H : Hp} (h : ic f args [] = none) (ha : args.all plainV = true) : callA cfg ic dst f args H = none := by
  have e1 : gArgs H args = [] := by
    simp only [gArgs, hdArgs_plain _ args 0 ha, gather]
    rfl
  unfold callA
  simp only [sealArgs_plain _ H args 0 ha, e1, renL_plain _ _ args ha, renHp, h]
  simp
theorem callK_eq (cfg : Cfg) (ic : Ic) (dst : Nat) (f : FuncId) (args : List AV) (H : Hp) (K : Res × Hp → Option R) : callK cfg ic dst f args H K = (callA cfg ic dst f args H).bind K := by
  unfold callK
  split
  · rename_i ha
    rw [nextK_eq]
    cases h : ic f args [] with
    | none => rw [callA_none h ha]; rfl
    | some r =>
      obtain ⟨r, Hr⟩ := r
      simp only [Option.bind_some]
      have gen : (callA cfg ic dst f args H).bind K = forceG (gBack [] dst H Hr) fun b => iteC (backOk [] b H Hr) (K (mapRes (ren b Hr) r, renHp b Hr b ++ dropP [] H)) none := by
        have e1 : gArgs H args = [] := by
          simp only [gArgs, hdArgs_plain _ args 0 ha, gather]
          rfl
        have ok : Gm.ok [] = true := by decide
        unfold callA
        simp only [sealArgs_plain _ H args 0 ha, e1, renL_plain _ _ args ha, renHp, h, ok, if_true, Option.bind_some, forceG_eq, iteC_eq]
        split <;> rfl
      show callP dst H (r, Hr) (plainRes r) K = _
      cases Hr with
      | nil =>
        cases hp : plainRes r with
        | true => rw [callA_plain h ha hp]; rfl
        | false => exact gen.symm
      | cons x y => cases plainRes r <;> exact gen.symm
  · simp only [forceA_eq, forceHp_eq, callS, forceG_eq, iteC_eq, nextK_eq]
    unfold callA
    generalize sealArgs (cfg.ownA f) 0 H args = s
    show _ = ((if (gArgs s.2 s.1).ok = true then _ else none).bind K)
    split
    · rename_i hg
      rw [Option.bind_assoc]
      congr 1; funext r
      simp only []
      split <;> rfl
    · rfl

noncomputable def opK (P : Program) (cfg : Cfg) (ic : Ic) (nt : Nat) (o : Oper) (st : St) (K : Option AV × St → Option R) : Option R :=
  match o.op with
  | .call c => match c.callee with
    | .value fv => match evA st.fr fv with
      | .fn f caps => if plainF P f then forceA (c.args.toList.map (evA st.fr) ++ caps) fun args => dstK o.dst fun d => callK cfg ic d f args st.H fun r => (match r.1 with
          | .ret a => fun (K : Option AV × St → Option R) => forceHp r.2 fun H => putK nt o.dst a st.fr H fun s => K (none, s)
          | .pan a => fun (K : Option AV × St → Option R) => K (some a, ⟨st.fr, r.2⟩)) K
        else none
      | _ => none
    | _ => dstK o.dst fun d => nextK (aop P d (evA st.fr) st.H o.op) fun r => forceQ (quietK o.op) r.2 fun H => putK nt o.dst r.1 st.fr H fun s => K (none, s)
  | .panic x => match evA st.fr x with
    | .iface t a => K (some (.iface t a), st)
    | _ => none
  | .pick c a b => match evA st.fr c with
    | .d (.bool t) => iteK t (putK nt o.dst (evA st.fr a) st.fr st.H fun s => K (none, s)) (putK nt o.dst (evA st.fr b) st.fr st.H fun s => K (none, s))
    | _ => none
  | _ => dstK o.dst fun d => nextK (aop P d (evA st.fr) st.H o.op) fun r => forceQ (quietK o.op) r.2 fun H => putK nt o.dst r.1 st.fr H fun s => K (none, s)
theorem opK_eq (P : Program) (cfg : Cfg) (ic : Ic) (nt : Nat) (o : Oper) (st : St) (K : Option AV × St → Option R) : opK P cfg ic nt o st K = (runOp P cfg ic nt o st).bind K := by
  have gen : dstK o.dst (fun d => nextK (aop P d (evA st.fr) st.H o.op) (fun r => forceQ (quietK o.op) r.2 fun H => putK nt o.dst r.1 st.fr H fun s => K (none, s))) =
      ((aop P (o.dst.getD 0) (evA st.fr) st.H o.op).bind fun r => (putF nt o.dst r.1 st.fr r.2).map fun s => (none, s)).bind K := by
    rw [dstK_eq, nextK_eq, Option.bind_assoc]
    congr 1; funext r
    rw [forceQ_eq, putK_eq, Option.bind_map]; rfl
  unfold opK runOp
  cases ho : o.op with
  | call c =>
    simp only []
    cases hc : c.callee with
    | value fv =>
      simp only []
      cases evA st.fr fv with
      | fn f caps =>
        simp only []
        split
        · rw [forceA_eq, dstK_eq, callK_eq, Option.bind_assoc]
          congr 1; funext r
          cases r.1 with
          | ret a => simp only [forceHp_eq, putK_eq, Option.bind_map]; rfl
          | pan a => rfl
        · rfl
      | _ => rfl
    | _ => simp only []; rw [← ho]; exact gen
  | panic x =>
    simp only []
    cases evA st.fr x <;> rfl
  | pick c a b =>
    simp only [aop]
    cases evA st.fr c with
    | d x =>
      cases x with
      | bool t => cases t <;> simp only [iteK_true, iteK_false, putK_eq, Option.bind_some, Option.bind_map, if_true, Bool.false_eq_true, if_false] <;> rfl
      | _ => rfl
    | _ => rfl
  | _ => simp only []; rw [← ho]; exact gen

noncomputable def guardK (ops : Array Oper) (fr : Fr) (o : Oper) (Y N : Option R) : Option R :=
  match o.guard with
  | none => Y
  | some (j, want) => match (ops[j]?).bind (·.dst) with
    | none => N
    | some t => match fr.get t with
      | .d (.bool b) => match want with
        | true => iteK b Y N
        | false => iteK b N Y
      | .tuple [] => N
      | _ => none
theorem guardK_eq (ops : Array Oper) (fr : Fr) (o : Oper) (Y N : Option R) : guardK ops fr o Y N = match wantedA ops fr o with | none => none | some true => Y | some false => N := by
  unfold guardK wantedA
  cases o.guard with
  | none => rfl
  | some g =>
    obtain ⟨j, want⟩ := g
    simp only []
    cases (ops[j]?).bind (·.dst) with
    | none => rfl
    | some t =>
      simp only []
      cases fr.get t with
      | d x =>
        cases x with
        | bool b => cases b <;> cases want <;> rfl
        | _ => rfl
      | tuple vs => cases vs <;> rfl
      | _ => rfl

noncomputable def opsK (P : Program) (cfg : Cfg) (ic : Ic) (nt : Nat) (ops : Array Oper) (l : List Oper) : St → (Option AV × St → Option R) → Option R :=
  List.rec (motive := fun _ => St → (Option AV × St → Option R) → Option R) (fun st K => K (none, st))
    (fun o _ ih st K => guardK ops st.fr o (opK P cfg ic nt o st fun r => (match r.1 with
      | some v => fun (K : Option AV × St → Option R) => K (some v, r.2)
      | none => ih r.2) K)
    (putK nt o.dst (.tuple []) st.fr st.H fun s => ih s K)) l
theorem opsK_cons (P : Program) (cfg : Cfg) (ic : Ic) (nt : Nat) (ops : Array Oper) (o : Oper) (l : List Oper) (st : St) (K : Option AV × St → Option R) : opsK P cfg ic nt ops (o :: l) st K =
    guardK ops st.fr o (opK P cfg ic nt o st fun r => (match r.1 with
      | some v => fun (K : Option AV × St → Option R) => K (some v, r.2)
      | none => opsK P cfg ic nt ops l r.2) K)
    (putK nt o.dst (.tuple []) st.fr st.H fun s => opsK P cfg ic nt ops l s K) := rfl
theorem opsK_eq (P : Program) (cfg : Cfg) (ic : Ic) (nt : Nat) (ops : Array Oper) (K : Option AV × St → Option R) : ∀ (l : List Oper) (st : St), opsK P cfg ic nt ops l st K = (runL P cfg ic nt ops l st).bind K
  | [], st => rfl
  | o :: l, st => by
    simp only [opsK_cons, runL, guardK_eq]
    cases wantedA ops st.fr o with
    | none => rfl
    | some w =>
      cases w with
      | true =>
        simp only [opK_eq, Option.bind_assoc]
        congr 1; funext r
        cases r.1 with
        | some v => rfl
        | none => exact opsK_eq P cfg ic nt ops K l r.2
      | false =>
        simp only [putK_eq, Option.bind_assoc, Option.bind_map]
        congr 1; funext s
        exact opsK_eq P cfg ic nt ops K l s

noncomputable def opRK (P : Program) (cfg : Cfg) (ic : Ic) (o : Oper) (fr : Fr) (H : Hp) (K : AV × Hp → Option R) : Option R :=
  match o.op with
  | .call c => match c.callee with
    | .value fv => match evA fr fv with
      | .fn f caps => if plainF P f then forceA (c.args.toList.map (evA fr) ++ caps) fun args => dstK o.dst fun d => callK cfg ic d f args H fun r => match r.1 with
          | .ret a => forceHp r.2 fun H => K (a, H)
          | .pan _ => none
        else none
      | _ => none
    | _ => dstK o.dst fun d => nextK (aop P d (evA fr) H o.op) fun r => forceQ (quietK o.op) r.2 fun H => K (r.1, H)
  | .pick c a b => match evA fr c with
    | .d (.bool t) => iteK t (K (evA fr a, H)) (K (evA fr b, H))
    | _ => none
  | _ => dstK o.dst fun d => nextK (aop P d (evA fr) H o.op) fun r => forceQ (quietK o.op) r.2 fun H => K (r.1, H)
theorem opRK_eq (P : Program) (cfg : Cfg) (ic : Ic) (o : Oper) (fr : Fr) (H : Hp) (K : AV × Hp → Option R) : opRK P cfg ic o fr H K = (opR P cfg ic o fr H).bind K := by
  unfold opRK opR
  cases ho : o.op with
  | call c =>
    simp only []
    cases hc : c.callee with
    | value fv =>
      simp only []
      cases evA fr fv with
      | fn f caps =>
        simp only []
        split
        · rw [forceA_eq, dstK_eq, callK_eq, Option.bind_assoc]
          congr 1; funext r
          cases r.1 <;> simp only [forceHp_eq] <;> rfl
        · rfl
      | _ => rfl
    | _ => simp only [nextK_eq, dstK_eq, forceQ_eq]
  | pick c a b =>
    simp only [aop]
    cases evA fr c with
    | d x =>
      cases x with
      | bool t => cases t <;> rfl
      | _ => rfl
    | _ => rfl
  | _ => simp only [nextK_eq, dstK_eq, forceQ_eq]

noncomputable def dStepK (P : Program) (cfg : Cfg) (ic : Ic) (nt : Nat) (ops : Array Oper) (o : Oper) (fr : Fr) (H : Hp) (K : Rec × Fr × Hp → Option R) : Option R :=
  guardK ops fr o
      (forceSp (tmpsOf o.op.operands) fun sl => forceA (sl.map fun t => fr.get t) fun vs =>
       match mvOf o.op with
       | some x => forceV (evA (sl.zip vs) x) fun v => putK nt o.dst v fr H fun st => K (⟨o.dst, v, sl ++ gSlot ops o, [], [], []⟩, st.fr, st.H)
       | none =>
       forceSp (vs.flatMap hdlV) fun hs =>
       forceSp (reach H 200 hs []) fun nm =>
       forceHp (restr H nm) fun K0 =>
       iteC (closedK K0 && hs.all (fun p => (K0.get p).isSome))
        (opRK P cfg ic o (sl.zip vs) K0 fun x =>
          forceSp (twOf o x.2) fun tw =>
          iteC (tw.all (fun p => (K0.get p).isSome || (H.get p).isNone))
            (forceV x.1 fun v => putK nt o.dst v fr (hpOf o H x.2) fun st => K (⟨o.dst, v, sl ++ gSlot ops o, nm, tw, x.2⟩, st.fr, st.H))
            none)
        none)
      (putK nt o.dst (.tuple []) fr H fun st => K (⟨o.dst, .tuple [], gSlot ops o, [], [], []⟩, st.fr, st.H))
theorem zip_map_self {α β : Type} (g : α → β) : ∀ l : List α, l.zip (l.map g) = l.map fun t => (t, g t)
  | [] => rfl
  | a :: r => by simp [zip_map_self g r]
theorem putF_H {nt : Nat} {dst : Option Tmp} {v : AV} {fr : Fr} {H : Hp} {st : St} (h : putF nt dst v fr H = some st) : st.H = H := (putF_get h).1
theorem putF_bind {α : Type} {nt : Nat} {dst : Option Tmp} {v : AV} {fr : Fr} {H : Hp} {g g' : St → Option α} (h : ∀ s, s.H = H → g s = g' s) : (putF nt dst v fr H).bind g = (putF nt dst v fr H).bind g' := by
  cases hp : putF nt dst v fr H with
  | none => rfl
  | some s => exact h s (putF_H hp)
theorem dStepK_eq (P : Program) (cfg : Cfg) (ic : Ic) (nt : Nat) (ops : Array Oper) (j : Nat) (o : Oper) (ho : ops[j]? = some o) (fr : Fr) (H : Hp) (K : Rec × Fr × Hp → Option R) : dStepK P cfg ic nt ops o fr H K = (dStep P cfg ic nt ops j fr H).bind K := by
  unfold dStepK dStep
  simp only [ho, Option.bind_some, guardK_eq, iteC_eq, opRK_eq, forceV_eq, putK_eq, forceSp_eq, forceA_eq, forceHp_eq, zip_map_self, List.flatMap_map]
  cases wantedA ops fr o with
  | none => rfl
  | some w =>
    cases w with
    | true =>
      simp only []
      cases mvOf o.op with
      | some x => simp only []; rw [Option.bind_map]; exact putF_bind fun s hs => by simp only [Function.comp, hs]
      | none =>
      simp only []
      split
      · rw [Option.bind_assoc]
        congr 1; funext x
        split
        · rw [Option.bind_map]; rfl
        · rfl
      · rfl
    | false =>
      simp only []
      rw [Option.bind_map]; exact putF_bind fun s hs => by simp only [Function.comp, hs]
noncomputable def dGoK (P : Program) (cfg : Cfg) (ic : Ic) (nt : Nat) (ops : Array Oper) (l : List Oper) : Fr → Hp → List Rec → (List Rec × Fr × Hp → Option R) → Option R :=
  List.rec (motive := fun _ => Fr → Hp → List Rec → (List Rec × Fr × Hp → Option R) → Option R) (fun fr H acc K => K (acc, fr, H))
    (fun o _ ih fr H acc K => dStepK P cfg ic nt ops o fr H fun x => ih x.2.1 x.2.2 (acc ++ [x.1]) K) l
theorem dGoK_cons (P : Program) (cfg : Cfg) (ic : Ic) (nt : Nat) (ops : Array Oper) (o : Oper) (l : List Oper) (fr : Fr) (H : Hp) (acc : List Rec) (K : List Rec × Fr × Hp → Option R) :
    dGoK P cfg ic nt ops (o :: l) fr H acc K = dStepK P cfg ic nt ops o fr H fun x => dGoK P cfg ic nt ops l x.2.1 x.2.2 (acc ++ [x.1]) K := rfl
theorem dGoK_eq (P : Program) (cfg : Cfg) (ic : Ic) (nt : Nat) (ops : Array Oper) (K : List Rec × Fr × Hp → Option R) : ∀ (n j : Nat) (fr : Fr) (H : Hp) (acc : List Rec), j + n = ops.size → dGoK P cfg ic nt ops (ops.toList.drop j) fr H acc K = (dGo P cfg ic nt ops n j fr H acc).bind K
  | 0, j, _, _, _, h => by rw [List.drop_eq_nil_of_le (by simp; omega)]; rfl
  | n + 1, j, fr, H, acc, h => by
    have hj : j < ops.toList.length := by simp; omega
    have ho : ops[j]? = some ops.toList[j] := by simp [show j < ops.size by omega]
    rw [List.drop_eq_getElem_cons hj]
    simp only [dGoK_cons, dGo, dStepK_eq P cfg ic nt ops j _ ho, Option.bind_assoc]
    congr 1; funext x
    exact dGoK_eq P cfg ic nt ops K n (j + 1) x.2.1 x.2.2 (acc ++ [x.1]) (by omega)
noncomputable def drK (P : Program) (cfg : Cfg) (ic : Ic) (nt : Nat) (ops : Array Oper) (st : St) (K : Option AV × St → Option R) : Option R :=
  iteO (edgesOk ops && P.follows .mixedOrders) (dGoK P cfg ic nt ops ops.toList st.fr st.H [] fun x => iteO (orderOk x.1 (preL ops)) (K (none, ⟨x.2.1, x.2.2⟩)) none) none
theorem drK_eq (P : Program) (cfg : Cfg) (ic : Ic) (nt : Nat) (ops : Array Oper) (st : St) (K : Option AV × St → Option R) : drK P cfg ic nt ops st K = (drRun P cfg ic nt ops st).bind K := by
  unfold drK drRun
  have e := fun K => dGoK_eq (R := R) P cfg ic nt ops K ops.size 0 st.fr st.H [] (by omega)
  simp only [List.drop_zero] at e
  simp only [iteO_eq, e]
  split
  · rw [Option.bind_assoc]
    congr 1; funext x
    split <;> rfl
  · rfl

theorem dGoK_take (P : Program) (cfg : Cfg) (ic : Ic) (nt : Nat) (ops : Array Oper) (K : List Rec × Fr × Hp → Option R) : ∀ (n j : Nat) (fr : Fr) (H : Hp) (acc : List Rec), j + n ≤ ops.size → dGoK P cfg ic nt ops ((ops.toList.drop j).take n) fr H acc K = (dGo P cfg ic nt ops n j fr H acc).bind K
  | 0, j, _, _, _, h => by rw [List.take_zero]; rfl
  | n + 1, j, fr, H, acc, h => by
    have hj : j < ops.toList.length := by simp; omega
    have ho : ops[j]? = some ops.toList[j] := by simp [show j < ops.size by omega]
    rw [List.drop_eq_getElem_cons hj, List.take_succ_cons]
    simp only [dGoK_cons, dGo, dStepK_eq P cfg ic nt ops j _ ho, Option.bind_assoc]
    congr 1; funext x
    exact dGoK_take P cfg ic nt ops K n (j + 1) x.2.1 x.2.2 (acc ++ [x.1]) (by omega)
noncomputable def drPK (P : Program) (cfg : Cfg) (ic : Ic) (nt : Nat) (ops : Array Oper) (st : St) (K : Option AV × St → Option R) : Option R :=
  match callAt ops.toList with
  | none => drK P cfg ic nt ops st K
  | some p => dGoK P cfg ic nt ops (ops.toList.take p) st.fr st.H [] fun x => match ops[p]? with
    | none => none
    | some o => match o.op with
      | .call c => match c.callee with
        | .value fv => forceSp (tmpsOf o.op.operands) fun sl => forceA (sl.map fun t => x.2.1.get t) fun vs => match evA (sl.zip vs) fv with
          | .fn f caps => if plainF P f then forceA (c.args.toList.map (evA (sl.zip vs)) ++ caps) fun args => dstK o.dst fun d => callK cfg ic d f args st.H fun r => match r.1 with
              | .pan v => iteO (edgesOk ops && P.follows .mixedOrders && orderOk x.1 (preL ops) && x.1.all (fun ρ => ρ.tw.isEmpty) && o.guard.isNone && behindOk (preL ops) ops.size p && readsOk x.1 (((preL ops)[p]?).getD []) (tmpsOf o.op.operands)) (forceHp r.2 fun H => K (some v, ⟨dstsU ops st.fr, H⟩)) none
              | .ret _ => drK P cfg ic nt ops st K
            else none
          | _ => none
        | _ => none
      | _ => none
theorem callAt_lt : ∀ (l : List Oper) (p : Nat), callAt l = some p → p < l.length
  | [], p, h => by cases h
  | o :: l, p, h => by
    have ih := callAt_lt l
    have key : (callAt l).map (· + 1) = some p → p < (o :: l).length := fun h => by
      rw [Option.map_eq_some_iff] at h
      obtain ⟨q, hq, rfl⟩ := h
      have := ih q hq
      simp only [List.length_cons]; omega
    simp only [callAt] at h
    split at h
    · split at h
      · injection h with h; subst h; simp
      · exact key h
    · exact key h
theorem drPK_eq (P : Program) (cfg : Cfg) (ic : Ic) (nt : Nat) (ops : Array Oper) (st : St) (K : Option AV × St → Option R) : drPK P cfg ic nt ops st K = (drRunP P cfg ic nt ops st).bind K := by
  unfold drPK drRunP
  cases hc : callAt ops.toList with
  | none => simp only [drK_eq]
  | some p =>
    have hp : p < ops.size := by simpa using callAt_lt _ _ hc
    simp only []
    have e := fun K => dGoK_take (R := R) P cfg ic nt ops K p 0 st.fr st.H [] (by omega)
    simp only [List.drop_zero] at e
    rw [e]
    unfold drPan
    simp only [Option.bind_assoc]
    congr 1; funext x
    cases ho : ops[p]? with
    | none => rfl
    | some o =>
      simp only [Option.bind_some]
      cases hoc : o.op with
      | call c =>
        simp only []
        cases hcl : c.callee with
        | value fv =>
          simp only [forceSp_eq, forceA_eq, zip_map_self]
          generalize evA (List.map (fun t => (t, x.2.1.get t)) (tmpsOf (Op.call c).operands)) fv = q
          cases q with
          | fn f caps =>
            simp only []
            by_cases hpl : plainF P f = true
            · simp only [hpl, if_true, dstK_eq, callK_eq, Option.bind_assoc]
              congr 1; funext r
              cases r.1 with
              | pan v =>
                simp only [iteO_eq, forceHp_eq]
                split <;> rfl
              | ret b => simp only [drK_eq, Option.bind_some]
            · simp only [hpl, if_false, Bool.false_eq_true]; rfl
          | _ => rfl
        | _ => rfl
      | _ => rfl

/-- Loops: where they stand, and the state ahead of them. -/
abbrev LP := Code → St → Option (Fx × St)

def selS (x : Fx) (A : St → (Fx × St → Option R) → Option R) : St → (Fx × St → Option R) → Option R := match x with
  | .norm => A
  | x => fun st K => K (x, st)
def blkF (id : Nat) (x : Fx) : Fx := match x with
  | .exit i => if i = id then .norm else .exit i
  | x => x
/-- A code's parts, laid open by the recursor itself (so that the elaborator and the kernel come to the same text). -/
noncomputable def codeK (P : Program) (cfg : Cfg) (ic : Ic) (lp : LP) (nt : Nat) (c : Code) : St → (Fx × St → Option R) → Option R :=
  Code.rec (motive := fun _ => St → (Fx × St → Option R) → Option R)
    (skip := fun st K => K (.norm, st))
    (region := fun _ ops d st K => match d with
      | true => match cfg.panR with
        | true => drPK P cfg ic nt ops st fun r => K (opFx r.1, r.2)
        | false => drK P cfg ic nt ops st fun r => K (opFx r.1, r.2)
      | false => opsK P cfg ic nt ops ops.toList st fun r => K (opFx r.1, r.2))
    (seq := fun _ _ iha ihb st K => iha st fun r => selS r.1 ihb r.2 K)
    (cond := fun c _ _ iha ihb st K => match evA st.fr c with
      | .d (.bool t) => iteK t (iha st K) (ihb st K)
      | _ => none)
    (block := fun id _ ih st K => ih st fun r => K (blkF id r.1, r.2))
    (loop := fun b _ st K => nextK (lp b st) K)
    (scope := fun _ ih st K => ih st K)
    (label := fun _ st K => K (.norm, st))
    (exit := fun id st K => K (.exit id, st))
    (ret := fun st K => K (.ret, st))
    (goto := fun _ _ _ => none) (refuse := fun _ _ _ => none) (rangeFunc := fun _ _ _ _ _ _ _ _ => none) c

/-- Loops as they are. -/
def lpOf (P : Program) (cfg : Cfg) (ic : Ic) (nt f lf : Nat) (pins : List Nm) : LP := fun b st => (loopN (fun st => (prune pins (cfg.keep f ((keyOf b).getD 0)) st).bind (runCode P cfg ic nt f lf pins b)) lf st).bind (exitP pins (cfg.keepX f ((keyOf b).getD 0)))

theorem codeK_eq (P : Program) (cfg : Cfg) (ic : Ic) (nt f lf : Nat) (pins : List Nm) : ∀ (c : Code) (st : St) (K : Fx × St → Option R), codeK P cfg ic (lpOf P cfg ic nt f lf pins) nt c st K = (runCode P cfg ic nt f lf pins c st).bind K
  | .skip, st, K => rfl
  | .label _, st, K => rfl
  | .exit _, st, K => rfl
  | .ret, st, K => rfl
  | .goto _, st, K => rfl
  | .refuse _, st, K => rfl
  | .rangeFunc _ _ _ _, st, K => rfl
  | .region _ ops d, st, K => by
    cases d with
    | true =>
      show (match cfg.panR with | true => drPK P cfg ic nt _ st (fun r => K (opFx r.1, r.2)) | false => drK P cfg ic nt _ st (fun r => K (opFx r.1, r.2))) = _
      cases hpr : cfg.panR
      · simp only [runCode, hpr, drK_eq, if_true, Bool.false_eq_true, if_false, Option.bind_map]; rfl
      · simp only [runCode, hpr, drPK_eq, if_true, Option.bind_map]; rfl
    | false =>
      show opsK P cfg ic nt _ _ st (fun r => K (opFx r.1, r.2)) = _
      simp only [runCode, opsK_eq, Bool.false_eq_true, if_false, runOps_all, Option.bind_map]; rfl
  | .seq a b, st, K => by
    show codeK P cfg ic _ nt a st (fun r => selS r.1 (codeK P cfg ic _ nt b) r.2 K) = _
    simp only [runCode]
    rw [codeK_eq P cfg ic nt f lf pins a, Option.bind_assoc]
    congr 1; funext r
    obtain ⟨x, s⟩ := r
    cases x with
    | norm => exact codeK_eq P cfg ic nt f lf pins b s K
    | _ => rfl
  | .cond c a b, st, K => by
    show (match evA st.fr c with | .d (.bool t) => iteK t (codeK P cfg ic _ nt a st K) (codeK P cfg ic _ nt b st K) | _ => none) = _
    simp only [runCode]
    cases evA st.fr c with
    | d x =>
      cases x with
      | bool t =>
        cases t with
        | true => simp only [iteK_true, if_true]; exact codeK_eq P cfg ic nt f lf pins a st K
        | false => simp only [iteK_false, Bool.false_eq_true, if_false]; exact codeK_eq P cfg ic nt f lf pins b st K
      | _ => rfl
    | _ => rfl
  | .block id b, st, K => by
    show codeK P cfg ic _ nt b st (fun r => K (blkF id r.1, r.2)) = _
    simp only [runCode]
    rw [codeK_eq P cfg ic nt f lf pins b, Option.bind_map]
    congr 1; funext r
    obtain ⟨fx, s⟩ := r
    cases fx with
    | exit i =>
      simp only [Function.comp, blkF]
      split <;> rfl
    | _ => rfl
  | .loop b, st, K => by
    show nextK (lpOf P cfg ic nt f lf pins b st) K = _
    simp only [runCode, nextK_eq, lpOf]
  | .scope b, st, K => by
    show codeK P cfg ic _ nt b st K = _
    simp only [runCode]
    exact codeK_eq P cfg ic nt f lf pins b st K
end

/-- A function's call, laid open. -/
noncomputable def bodyK (P : Program) (cfg : Cfg) (ic : Ic) (lp : LP) (f : FuncId) (fn : Func) (args : List AV) (H : Hp) : Option (Res × Hp) :=
  match fn.body with
  | none => none
  | some c => if args.length ≤ fn.ntmps then codeK P cfg ic lp fn.ntmps c ⟨frOf 0 args, H⟩ (finish P (cfg.ownR f) fn (H.map (·.1))) else none
theorem ixL_at' {es : List (List D)} {y : List D} {n s : Nat} {z : Int} (hz : z = (n : Int)) (h : es[n]? = some y) (hs : y.length = s) : ixL es z s = some (.rptr y 0) := by subst hz; exact ixL_at h hs
theorem icall_body {P : Program} {cfg : Cfg} {k : Nat} {f : FuncId} {fn : Func} {args : List AV} {H : Hp} (hx : cfg.ext f = none) (hf : P.funcs[f]? = some fn) :
    icall P cfg (k + 1) f args H = bodyK P cfg (icall P cfg k) (lpOf P cfg (icall P cfg k) fn.ntmps f k (H.map (·.1))) f fn args H := by
  simp only [icall, hx, hf, Option.bind_some, bodyK]
  cases fn.body with
  | none => rfl
  | some c =>
    simp only [Option.bind_some]
    split
    · rw [codeK_eq]
    · rfl
theorem aop_ix {P : Program} {dst : Nat} {ρ : Operand → AV} {H : Hp} {t e : TypeId} {x i : Operand} {es : List (List D)} {k : IntKind} {z : Int} {s : Nat} {r : AV} (hx : ρ x = .d (.list es)) (hi : ρ i = .d (.int k z)) (ht : P.underlying t = some (.slice e)) (hs : sizeT P e = some s) (h : ixL es z s = some r) :
    aop P dst ρ H (.indexAddr t x i) = some (r, H) := by
  simp only [aop, aIndexAddr, hx, hi, ht, hs, Option.bind_some, h, Option.map_some]
theorem aop_ixS {P : Program} {dst : Nat} {ρ : Operand → AV} {H : Hp} {t : TypeId} {x i : Operand} {s : List UInt8} {k : IntKind} {z : Int} {r : AV} (hx : ρ x = .d (.str s)) (hi : ρ i = .d (.int k z)) (ht : P.underlying t = some .string) (h : ixS s z = some r) :
    aop P dst ρ H (.index t x i) = some (r, H) := by
  simp only [aop, aIndex, hx, hi, ht, h, Option.map_some]

theorem fin_d (own : Bool) (H : Hp) (x : D) : finR [] own H (.d x) = some (.d x, []) := by cases own <;> rfl

/-- A call, step by step. -/
theorem callA_of {cfg : Cfg} {ic : Ic} {dst : Nat} {f : FuncId} {args args1 args2 : List AV} {H H1 H2 Hr Hout : Hp} {g b : Gm} {r res : Res} (h : ic f args2 H2 = some (r, Hr)) (h0 : sealArgs (cfg.ownA f) 0 H args = (args1, H1)) (h1 : gArgs H1 args1 = g) (h2 : g.ok = true)
    (h3 : renL g H1 args1 = args2) (h4 : renHp g H1 g = H2) (h5 : gBack g dst H1 Hr = b) (h6 : backOk g b H1 Hr = true) (h7 : mapRes (ren b Hr) r = res) (h8 : renHp b Hr b ++ dropP g H1 = Hout) : callA cfg ic dst f args H = some (res, Hout) := by
  unfold callA
  simp only [h0, h1, h2, h3, h4, h, h5, h6, h7, h8, if_true, Option.bind_some]

/-- A function's loop, by its key. -/
def findLoop (k : Nat) : Code → Option Code
  | .loop b => if keyOf b = some k then some b else findLoop k b
  | .seq a b => match findLoop k a with
    | some c => some c
    | none => findLoop k b
  | .cond _ a b => match findLoop k a with
    | some c => some c
    | none => findLoop k b
  | .block _ b => findLoop k b
  | .scope b => findLoop k b
  | _ => none
def bodyAt (fn : Func) (k : Nat) : Code := (fn.body.bind (findLoop k)).getD .skip

/-- A loop, and what comes behind it. -/
noncomputable def loopK {R : Type} (P : Program) (cfg : Cfg) (ic : Ic) (lp : LP) (nt f : Nat) (pins : List Nm) (b : Code) : Nat → St → (Fx × St → Option R) → Option R
  | 0, _, _ => none
  | n + 1, st, K => nextK (prune pins (cfg.keep f ((keyOf b).getD 0)) st) fun s => codeK P cfg ic lp nt b s fun r => match r.1 with
    | .norm => loopK P cfg ic lp nt f pins b n r.2 K
    | _ => K r
theorem loopK_eq {R : Type} {P : Program} {cfg : Cfg} {ic : Ic} {nt f lf : Nat} {pins : List Nm} {b : Code} (K : Fx × St → Option R) : ∀ (n : Nat) (st : St),
    loopK P cfg ic (lpOf P cfg ic nt f lf pins) nt f pins b n st K = (loopN (fun st => (prune pins (cfg.keep f ((keyOf b).getD 0)) st).bind (runCode P cfg ic nt f lf pins b)) n st).bind K
  | 0, st => rfl
  | n + 1, st => by
    simp only [loopK, loopN, nextK_eq, codeK_eq, Option.bind_assoc]
    congr 1; funext s
    congr 1; funext r
    obtain ⟨fx, s'⟩ := r
    cases fx <;> first | exact loopK_eq K n s' | rfl
theorem loop_go {R : Type} {P : Program} {cfg : Cfg} {ic : Ic} {nt f lf : Nat} {pins : List Nm} {b : Code} {st : St} {K : Fx × St → Option R} {r : Option R} {lp : LP} (hl : lp = lpOf P cfg ic nt f lf pins)
    (h : loopK P cfg ic lp nt f pins b lf st (fun r => nextK (exitP pins (cfg.keepX f ((keyOf b).getD 0)) r) K) = r) : nextK (lp b st) K = r := by
  subst hl
  rw [← h, loopK_eq, nextK_eq]
  simp only [lpOf, nextK_eq, Option.bind_assoc]
/-- A loop's end, as it is seen behind it. -/
theorem loop_at {P : Program} {cfg : Cfg} {ic : Ic} {nt f lf : Nat} {pins : List Nm} {b : Code} {st : St} {r : Option (Fx × St)} {lp : LP} (hl : lp = lpOf P cfg ic nt f lf pins)
    (h : loopK P cfg ic lp nt f pins b lf st (exitP pins (cfg.keepX f ((keyOf b).getD 0))) = r) : lp b st = r := by
  subst hl
  rw [← h, loopK_eq]; rfl
theorem loop_step {R : Type} {P : Program} {cfg : Cfg} {ic : Ic} {nt f n : Nat} {pins : List Nm} {b : Code} {st s : St} {K : Fx × St → Option R} {r : Option R} {lp : LP} (hp : prune pins (cfg.keep f ((keyOf b).getD 0)) st = some s)
    (h : codeK P cfg ic lp nt b s (fun r => match r.1 with | .norm => loopK P cfg ic lp nt f pins b n r.2 K | _ => K r) = r) : loopK P cfg ic lp nt f pins b (n + 1) st K = r := by
  simp only [loopK, hp, nextK]; exact h
theorem nextK_of {R α : Type} {x : Option α} {a : α} {K : α → Option R} {r : Option R} (h : x = some a) (h1 : K a = r) : nextK x K = r := by subst h; exact h1

end Go.Rx
end
section
namespace Go.Rx
open Go Go.RowKit
set_option linter.unusedVariables false
set_option linter.unusedSimpArgs false

/-- A step that comes to a truth: both ways. -/
theorem nextK_b {R : Type} {x : Option (Res × Hp)} {b : Bool} {H : Hp} {K : Res × Hp → Option R} {r : Option R} (h : x = some (.ret (.d (.bool b)), H)) (h1 : b = true → K (.ret (.d (.bool true)), H) = r) (h2 : b = false → K (.ret (.d (.bool false)), H) = r) : nextK x K = r := by
  subst h; cases b
  · exact h2 rfl
  · exact h1 rfl
/-- A step whose end depends on a test. -/
theorem nextK_ite {R α : Type} {x A B : Option α} {c : Bool} {K : α → Option R} {r : Option R} (h : x = iteK c A B) (h1 : iteK c (nextK A K) (nextK B K) = r) : nextK x K = r := by
  subst h; cases c <;> exact h1
section
variable {R : Type} {A B r : Option R}
theorem iteK_dec {p : Prop} {inst : Decidable p} (h1 : p → A = r) (h2 : ¬p → B = r) : iteK (@decide p inst) A B = r := by
  by_cases h : p
  · rw [decide_eq_true h]; exact h1 h
  · rw [decide_eq_false h]; exact h2 h
theorem iteK_beq {α : Type} [BEq α] [LawfulBEq α] {x y : α} (h1 : x = y → A = r) (h2 : x ≠ y → B = r) : iteK (x == y) A B = r := by
  cases h : (x == y)
  · exact h2 (fun e => by rw [beq_iff_eq.2 e] at h; cases h)
  · exact h1 (beq_iff_eq.1 h)
theorem iteK_bne {α : Type} [BEq α] [LawfulBEq α] {x y : α} (h1 : x ≠ y → A = r) (h2 : x = y → B = r) : iteK (x != y) A B = r := by
  unfold bne
  cases h : (x == y)
  · exact h1 (fun e => by rw [beq_iff_eq.2 e] at h; cases h)
  · exact h2 (beq_iff_eq.1 h)
theorem iteK_not {c : Bool} (h : iteK c B A = r) : iteK (!c) A B = r := by cases c <;> exact h
theorem dec_t {p : Prop} {inst : Decidable p} (h : p) : @decide p inst = true := decide_eq_true h
theorem dec_f {p : Prop} {inst : Decidable p} (h : ¬p) : @decide p inst = false := decide_eq_false h
theorem beq_t {α : Type} [BEq α] [LawfulBEq α] {x y : α} (h : x = y) : (x == y) = true := beq_iff_eq.2 h
theorem beq_f {α : Type} [BEq α] [LawfulBEq α] {x y : α} (h : x ≠ y) : (x == y) = false := by
  cases e : (x == y)
  · rfl
  · exact absurd (beq_iff_eq.1 e) h
theorem bne_t {α : Type} [BEq α] [LawfulBEq α] {x y : α} (h : x ≠ y) : (x != y) = true := by rw [bne, beq_f h]; rfl
theorem bne_f {α : Type} [BEq α] [LawfulBEq α] {x y : α} (h : x = y) : (x != y) = false := by rw [bne, beq_t h]; rfl
theorem iteK_dec_t {p : Prop} {inst : Decidable p} (h : p) (h1 : A = r) : iteK (@decide p inst) A B = r := iteK_t (dec_t h) h1
theorem iteK_dec_f {p : Prop} {inst : Decidable p} (h : ¬p) (h1 : B = r) : iteK (@decide p inst) A B = r := iteK_f (dec_f h) h1
theorem iteK_beq_t {α : Type} [BEq α] [LawfulBEq α] {x y : α} (h : x = y) (h1 : A = r) : iteK (x == y) A B = r := iteK_t (beq_t h) h1
theorem iteK_beq_f {α : Type} [BEq α] [LawfulBEq α] {x y : α} (h : x ≠ y) (h1 : B = r) : iteK (x == y) A B = r := iteK_f (beq_f h) h1
theorem iteK_bne_t {α : Type} [BEq α] [LawfulBEq α] {x y : α} (h : x ≠ y) (h1 : A = r) : iteK (x != y) A B = r := iteK_t (bne_t h) h1
theorem iteK_bne_f {α : Type} [BEq α] [LawfulBEq α] {x y : α} (h : x = y) (h1 : B = r) : iteK (x != y) A B = r := iteK_f (bne_f h) h1
end
theorem ret_b {a b : Bool} {H : Hp} (h : a = b) : some (Res.ret (.d (.bool a)), H) = some (Res.ret (.d (.bool b)), H) := by rw [h]
theorem ret_i {k : IntKind} {a b : Int} {H : Hp} (h : a = b) : some (Res.ret (.d (.int k a)), H) = some (Res.ret (.d (.int k b)), H) := by rw [h]
/-- Bytes as cells. -/
def bL (s : List UInt8) : List (List D) := s.map fun b => [.int .u8 b.toNat]
theorem bL_len (s : List UInt8) : (bL s).length = s.length := by simp [bL]
theorem bL_get {s : List UInt8} {i : Nat} {b : UInt8} (h : s[i]? = some b) : (bL s)[i]? = some [.int .u8 b.toNat] := by simp [bL, h]
theorem bL_take (s : List UInt8) (n : Nat) : (bL s).take n = bL (s.take n) := by simp [bL]
theorem bL_drop (s : List UInt8) (n : Nat) : (bL s).drop n = bL (s.drop n) := by simp [bL]
theorem bL_app (s t : List UInt8) : bL s ++ bL t = bL (s ++ t) := by simp [bL]
theorem bL_all (s : List UInt8) : (bL s).all (fun y => y.length == 1) = true := by simp [bL]
theorem bL_nil : bL [] = [] := rfl
theorem bytesOf_bL : ∀ s : List UInt8, bytesOf (bL s) = some s
  | [] => rfl
  | b :: s => by
    have := bytesOf_bL s
    simp only [bL, List.map_cons] at this ⊢
    simp only [bytesOf, this, Option.map_some]
    simp

theorem aop_bytes {P : Program} {dst : Nat} {ρ : Operand → AV} {H : Hp} {a b e : TypeId} {x : Operand} {s : List UInt8} (hx : ρ x = .d (.str s)) (ha : P.underlying a = some .string) (hb : P.underlying b = some (.slice e)) (he : P.underlying e = some (.int .u8)) (hl : s.length ≤ lim) :
    aop P dst ρ H (.convert a b x) = some (.d (.list (bL s)), H) := by
  simp only [aop, aConvert, hx, ha, hb, he, if_pos hl, Option.map_some, bL]
theorem aop_text {P : Program} {dst : Nat} {ρ : Operand → AV} {H : Hp} {a b e : TypeId} {x : Operand} {s : List UInt8} (hx : ρ x = .d (.list (bL s))) (ha : P.underlying a = some (.slice e)) (hb : P.underlying b = some .string) (he : P.underlying e = some (.int .u8)) :
    aop P dst ρ H (.convert a b x) = some (.d (.str s), H) := by
  simp only [aop, aConvert, hx, ha, hb, he, srcOf, Option.bind_some, bytesOf_bL, Option.map_some]
/-- A part of a row. -/
theorem aop_slice {P : Program} {dst : Nat} {ρ : Operand → AV} {H : Hp} {t e : TypeId} {x : Operand} {lo hi mx : Option Operand} {es : List (List D)} {s a b : Nat} {l h m : Option Int} (hx : ρ x = .d (.list es)) (ht : P.underlying t = some (.slice e)) (hs : sizeT P e = some s)
    (hl : intV (lo.map ρ) = some l) (hh : intV (hi.map ρ) = some h) (hm : intV (mx.map ρ) = some m) (hall : es.all (fun y => y.length == s) = true) (hb : bnds es.length l h m = some (a, b)) :
    aop P dst ρ H (.slice t x lo hi mx) = some (.d (.list ((es.take b).drop a)), H) := by
  simp only [aop, aSlice, hl, hh, hm, ht, hx, Option.bind_some, sliceL, hs, partL, hall, if_true, hb, Option.map_some]
theorem aop_sliceB {P : Program} {dst : Nat} {ρ : Operand → AV} {H : Hp} {t e : TypeId} {x : Operand} {lo hi mx : Option Operand} {z : List UInt8} {a b : Nat} {l h m : Option Int} (hx : ρ x = .d (.list (bL z))) (ht : P.underlying t = some (.slice e)) (hs : sizeT P e = some 1)
    (hl : intV (lo.map ρ) = some l) (hh : intV (hi.map ρ) = some h) (hm : intV (mx.map ρ) = some m) (hb : bnds z.length l h m = some (a, b)) :
    aop P dst ρ H (.slice t x lo hi mx) = some (.d (.list (bL ((z.take b).drop a))), H) := by
  rw [aop_slice (a := a) (b := b) hx ht hs hl hh hm (bL_all z) (by rw [bL_len]; exact hb), bL_take, bL_drop]
theorem bnds_from {n a : Nat} {z : Int} (hz : z = (a : Int)) (h : a ≤ n) : bnds n (some z) none none = some (a, n) := by
  subst hz; unfold bnds; rw [if_pos (by simp; omega)]; simp
theorem bnds_to {n b : Nat} {z : Int} (hz : z = (b : Int)) (h : b ≤ n) : bnds n none (some z) none = some (0, b) := by
  subst hz; unfold bnds; rw [if_pos (by simp; omega)]; simp
theorem bnds_cap {n b : Nat} {z w : Int} (hz : z = (b : Int)) (hw : w = (b : Int)) (h : b ≤ n) : bnds n none (some z) (some w) = some (0, b) := by
  subst hz hw; unfold bnds; rw [if_pos (by simp; omega)]; simp
theorem bnds_in {n a b : Nat} {z w : Int} (hz : z = (a : Int)) (hw : w = (b : Int)) (h1 : a ≤ b) (h : b ≤ n) : bnds n (some z) (some w) none = some (a, b) := by
  subst hz hw; unfold bnds; rw [if_pos (by simp; omega)]; simp
/-- A part of a text. -/
theorem aop_part {P : Program} {dst : Nat} {ρ : Operand → AV} {H : Hp} {t : TypeId} {x : Operand} {lo hi : Option Operand} {s : List UInt8} {a b : Nat} {l h : Option Int} (hx : ρ x = .d (.str s)) (ht : P.underlying t = some .string)
    (hl : intV (lo.map ρ) = some l) (hh : intV (hi.map ρ) = some h) (hb : bnds s.length l h none = some (a, b)) :
    aop P dst ρ H (.slice t x lo hi none) = some (.d (.str ((s.take b).drop a)), H) := by
  have hm : intV (Option.map ρ none) = some none := rfl
  simp only [aop, aSlice, hl, hh, hm, ht, hx, Option.bind_some, hb, Option.map_some, Option.isSome_none, Bool.false_eq_true, if_false]
theorem ixS_at' {s : List UInt8} {b : UInt8} {n : Nat} {z : Int} (hz : z = (n : Int)) (h : s[n]? = some b) : ixS s z = some (.d (.int .u8 b.toNat)) := by subst hz; exact ixS_at h
theorem wrap_i64 {n : Int} (h : -9223372036854775808 ≤ n) (h2 : n ≤ 9223372036854775807) : IntKind.i64.wrap n = n := by
  simp only [IntKind.wrap, IntKind.bits, IntKind.signed, Bool.true_and, decide_eq_true_eq, Nat.reduceSub, Int.reducePow, ge_iff_le]
  split <;> omega
theorem wrap_u64 {n : Int} (h : 0 ≤ n) (h2 : n ≤ 18446744073709551615) : IntKind.u64.wrap n = n := by
  simp only [IntKind.wrap, IntKind.bits, IntKind.signed, Bool.false_and, Bool.false_eq_true, if_false, Int.reducePow]
  omega
theorem wrap_u8 {n : Int} (h : 0 ≤ n) (h2 : n ≤ 255) : IntKind.u8.wrap n = n := by
  simp only [IntKind.wrap, IntKind.bits, IntKind.signed, Bool.false_and, Bool.false_eq_true, if_false, Int.reducePow]
  omega
theorem wf_i64 {n : Int} : (Lit.int .i64 n).wf = true ↔ -9223372036854775808 ≤ n ∧ n ≤ 9223372036854775807 := by
  simp [Lit.wf, IntKind.min, IntKind.max, IntKind.bits, IntKind.signed]
theorem wf_u64 {n : Int} : (Lit.int .u64 n).wf = true ↔ 0 ≤ n ∧ n ≤ 18446744073709551615 := by
  simp [Lit.wf, IntKind.min, IntKind.max, IntKind.bits, IntKind.signed]
theorem wf_u8 {n : Int} : (Lit.int .u8 n).wf = true ↔ 0 ≤ n ∧ n ≤ 255 := by
  simp [Lit.wf, IntKind.min, IntKind.max, IntKind.bits, IntKind.signed]
/-- Two texts, one behind the other. -/
theorem aop_add {P : Program} {dst : Nat} {ρ : Operand → AV} {H : Hp} {t u : TypeId} {x y : Operand} {a b : List UInt8} (hx : ρ x = .d (.str a)) (hy : ρ y = .d (.str b)) (h : a.length + b.length ≤ lim) :
    aop P dst ρ H (.binOp .add t x y u) = some (.d (.str (a ++ b)), H) := by
  simp only [aop, aBin, hx, hy, bStr, addS_at h, Option.map_some]
end Go.Rx
end
section
set_option linter.unusedVariables false
set_option linter.unusedSimpArgs false
namespace Go.Rx
open Go Go.RowKit
/-- Something is put behind a row that grows. -/
theorem aop_app {P : Program} {dst : Nat} {ρ : Operand → AV} {H : Hp} {c : Call} {s x : Operand} {t u e e' : TypeId} {i : TypeInfo} {z : Value} {o : Nm} {ver n : Nat} {es ds : List (List D)} (hcal : c.callee = .builtin .append) (hargs : c.args.toList = [s, x]) (hty : c.argTypes.toList = [t, u])
    (ht : P.underlying t = some (.slice e)) (hu : P.underlying u = some (.slice e')) (hi : P.info? e = some i) (hz : i.zero = some z) (hsz : z.cells.size = i.size) (hx : srcOf H (ρ x) = some ds) (hall : ds.all (fun y => y.length == i.size) = true)
    (hs : ρ s = .own o ver n) (ho : H.get o = some (.arr e i.size ver es)) (hl : (n + ds.length) * (i.bytes + 1) ≤ lim) :
    aop P dst ρ H (.call c) = some (.own o (ver + 1) (n + ds.length), (o, .arr e i.size (ver + 1) (es.take n ++ ds)) :: H) := by
  simp only [aop, hcal, hargs, hty, aAppend, ht, hu, hi, hz, hsz, hx, hall, hs, ho, Option.bind_some, if_true, true_and, and_self, if_pos hl]
end Go.Rx
namespace Go.Rx
open Go Go.RowKit
/-- A number, divided. -/
theorem aop_quo {P : Program} {dst : Nat} {ρ : Operand → AV} {H : Hp} {t u : TypeId} {x y : Operand} {k : IntKind} {a b : Int} (hx : ρ x = .d (.int k a)) (hy : ρ y = .d (.int k b)) (hb : b ≠ 0) :
    aop P dst ρ H (.binOp .quo t x y u) = some (.d (.int k (k.wrap (a.tdiv b))), H) := by
  simp only [aop, aBin, hx, hy, bInt, if_neg hb, if_true, Option.map_some]
  rfl
end Go.Rx
namespace Go.Rx
open Go Go.RowKit
section
variable {R : Type}
def forceNat (n : Nat) (K : Nat → R) : R :=
  match n with
  | 0 => K 0
  | n + 1 => K (n + 1)
theorem forceNat_eq (n : Nat) (K : Nat → R) : forceNat n K = K n := by cases n <;> rfl
/-- A value's names are laid open, too. -/
noncomputable def force1 (a : AV) (K : AV → R) : R := force a fun a => match a with
  | .ptr o n => forceNm o fun o => K (.ptr o n)
  | .own o v n => forceNm o fun o => forceNat v fun v => forceNat n fun n => K (.own o v n)
  | .eptr o v i n => forceNm o fun o => forceNat v fun v => K (.eptr o v i n)
  | a => K a
theorem force1_eq (a : AV) (K : AV → R) : force1 a K = K a := by
  unfold force1
  rw [force_eq]
  cases a <;> simp only [forceNm_eq, forceNat_eq]
noncomputable def force1L (l : List AV) : (List AV → R) → R :=
  List.rec (motive := fun _ => (List AV → R) → R) (fun K => K []) (fun a _ ih K => force1 a fun a => ih fun r => K (a :: r)) l
theorem force1L_eq : ∀ (l : List AV) (K : List AV → R), force1L l K = K l
  | [], K => rfl
  | a :: r, K => by
    show force1 a (fun a => force1L r fun r => K (a :: r)) = _
    simp only [force1_eq, force1L_eq r]
noncomputable def force2 (a : AV) (K : AV → R) : R := force1 a fun a => match a with
  | .agg vs => force1L vs fun vs => K (.agg vs)
  | .tuple vs => force1L vs fun vs => K (.tuple vs)
  | a => K a
theorem force2_eq (a : AV) (K : AV → R) : force2 a K = K a := by
  unfold force2
  rw [force1_eq]
  cases a <;> simp only [force1L_eq]
/-- A frame's values are laid open. -/
noncomputable def forceFr (l : Fr) : (Fr → R) → R :=
  List.rec (motive := fun _ => (Fr → R) → R) (fun K => K []) (fun p _ ih K => force2 p.2 fun v => ih fun r => K ((p.1, v) :: r)) l
theorem forceFr_eq : ∀ (l : Fr) (K : Fr → R), forceFr l K = K l
  | [], K => rfl
  | (t, v) :: r, K => by
    show force2 v (fun v => forceFr r fun r => K ((t, v) :: r)) = _
    simp only [force2_eq, forceFr_eq r]
noncomputable def forceO1 (x : AObj) (K : AObj → R) : R :=
  match x with
  | .cells cs => force1L cs fun cs => K (.cells cs)
  | .arr e s v es => forceNat v fun v => K (.arr e s v es)
  | .frz e s v es => forceNat v fun v => K (.frz e s v es)
theorem forceO1_eq (x : AObj) (K : AObj → R) : forceO1 x K = K x := by cases x <;> simp only [forceO1, forceNat_eq, force1L_eq]
noncomputable def forceHq (H : Hp) : (Hp → R) → R :=
  List.rec (motive := fun _ => (Hp → R) → R) (fun K => K []) (fun p _ ih K => forceNm p.1 fun o => forceO1 p.2 fun x => ih fun r => K ((o, x) :: r)) H
theorem forceHq_eq : ∀ (H : Hp) (K : Hp → R), forceHq H K = K H
  | [], K => rfl
  | (o, x) :: r, K => by
    show forceNm o (fun o => forceO1 x fun x => forceHq r fun r => K ((o, x) :: r)) = _
    simp only [forceNm_eq, forceO1_eq, forceHq_eq r]
noncomputable def exitF (pins : List Nm) (kx : Option (List Nat)) (r : Fx × St) (K : Fx × St → Option R) : Option R :=
  nextK (exitP pins kx r) fun r => forceFr r.2.fr fun fr => forceHq r.2.H fun H => K (r.1, ⟨fr, H⟩)
/-- A loop, round by round, for rows of known length. -/
noncomputable def loopF (P : Program) (cfg : Cfg) (ic : Ic) (lp : LP) (nt f : Nat) (pins : List Nm) (b : Code) : Nat → St → (Fx × St → Option R) → Option R
  | 0, _, _ => none
  | n + 1, st, K => nextK (prune pins (cfg.keep f ((keyOf b).getD 0)) st) fun s => forceFr s.fr fun fr => forceHq s.H fun H => codeK P cfg ic lp nt b ⟨fr, H⟩ fun r => match r.1 with
    | .norm => loopF P cfg ic lp nt f pins b n r.2 K
    | _ => exitF pins (cfg.keepX f ((keyOf b).getD 0)) r K
theorem loopF_eq {P : Program} {cfg : Cfg} {ic : Ic} {lp : LP} {nt f : Nat} {pins : List Nm} {b : Code} (K : Fx × St → Option R) : ∀ (n : Nat) (st : St),
    loopF P cfg ic lp nt f pins b n st K = loopK P cfg ic lp nt f pins b n st (fun r => nextK (exitP pins (cfg.keepX f ((keyOf b).getD 0)) r) K)
  | 0, st => rfl
  | n + 1, st => by
    simp only [loopF, loopK, forceFr_eq, forceHq_eq, exitF]
    congr 1; funext s
    congr 1; funext r
    obtain ⟨fx, s'⟩ := r
    cases fx <;> first | exact loopF_eq K n s' | rfl
theorem loop_goF {P : Program} {cfg : Cfg} {ic : Ic} {nt f lf : Nat} {pins : List Nm} {b : Code} {st : St} {K : Fx × St → Option R} {r : Option R} {lp : LP} (hl : lp = lpOf P cfg ic nt f lf pins)
    (h : loopF P cfg ic lp nt f pins b lf st K = r) : nextK (lp b st) K = r := loop_go hl (by rw [← h, loopF_eq])
end
end Go.Rx
namespace Go.Rx
open Go Go.RowKit
/-- An open end that is not looked at till it is asked for. -/
noncomputable def holdO {α : Type} (x : Option α) : Option α := Classical.choose (⟨x, rfl⟩ : ∃ y, y = x)
theorem holdO_eq {α : Type} (x : Option α) : holdO x = x := Classical.choose_spec (⟨x, rfl⟩ : ∃ y, y = x)
theorem holdO_of {α : Type} {x : Option α} {a : α} (h : x = some a) : holdO x = some a := by rw [holdO_eq, h]
def selE {R : Type} (E : Fx × St → (Fx × St → Option R) → Option R) (x : Fx) (A : St → (Fx × St → Option R) → Option R) : St → (Fx × St → Option R) → Option R := match x with
  | .norm => A
  | x => fun st K => E (x, st) K
/-- A loop, laid open round by round; each round's state is said. -/
noncomputable def loopE {R : Type} (P : Program) (cfg : Cfg) (ic : Ic) (lp : LP) (nt f : Nat) (pins : List Nm) (b : Code) : Nat → St → (Fx × St → Option R) → Option R
  | 0, _, _ => none
  | n + 1, st, K => nextK (holdO (prune pins (cfg.keep f ((keyOf b).getD 0)) st)) fun s => codeK P cfg ic lp nt b s fun r => selE (fun r => nextK (holdO (exitP pins (cfg.keepX f ((keyOf b).getD 0)) r))) r.1 (loopE P cfg ic lp nt f pins b n) r.2 K
theorem loopE_eq {R : Type} {P : Program} {cfg : Cfg} {ic : Ic} {lp : LP} {nt f : Nat} {pins : List Nm} {b : Code} (K : Fx × St → Option R) : ∀ (n : Nat) (st : St),
    loopE P cfg ic lp nt f pins b n st K = loopK P cfg ic lp nt f pins b n st (fun r => nextK (exitP pins (cfg.keepX f ((keyOf b).getD 0)) r) K)
  | 0, st => rfl
  | n + 1, st => by
    simp only [loopE, loopK, holdO_eq]
    congr 1; funext s
    congr 1; funext r
    obtain ⟨fx, s'⟩ := r
    cases fx <;> first | exact loopE_eq K n s' | rfl
theorem loop_goE {R : Type} {P : Program} {cfg : Cfg} {ic : Ic} {nt f lf : Nat} {pins : List Nm} {b : Code} {st : St} {K : Fx × St → Option R} {r : Option R} {lp : LP} (hl : lp = lpOf P cfg ic nt f lf pins)
    (h : loopE P cfg ic lp nt f pins b lf st K = r) : nextK (lp b st) K = r := loop_go hl (by rw [← h, loopE_eq])
end Go.Rx
end
section
namespace Go.Rx
open Go Go.RowKit
set_option linter.unusedVariables false
set_option linter.unusedSimpArgs false
/-- A call, whatever judges it. -/
theorem callJ_ok {J : List Value → World → (Ending → World → Prop) → Prop} (mono : ∀ vs w (R R' : Ending → World → Prop), (∀ e w, R e w → R' e w) → J vs w R → J vs w R') {cfg : Cfg} {ic : Ic} {f : FuncId}
    (hic : ∀ args H res H', ic f args H = some (res, H') → ∀ (E : En) (vs : List Value), Inv E → E.H = H → ArgsOk E vs args → J vs E.w (fun e w' => ∃ E', E'.w = w' ∧ Inv E' ∧ E'.H = H' ∧ Step E E' ∧ ROk E' e res ∧ Pin (fun _ => True) E E'))
    {E : En} (I : Inv E) {dst : Nat} {vs : List Value} {args : List AV} {res : Res} {H' : Hp} (ha : ArgsOk E vs args) (h : callA cfg ic dst f args E.H = some (res, H')) :
    J vs E.w (fun e w' => ∃ E', E'.w = w' ∧ Inv E' ∧ E'.H = H' ∧ Step E E' ∧ Fit E E' ∧ ROk E' e res) := by
  unfold callA at h
  simp only [] at h
  obtain ⟨E1, w1, e1, I1, S1, F1, A1⟩ := sealArgs_ok (own := cfg.ownA f) I 0 ha
  rw [← e1] at h
  split at h
  · rename_i hg
    simp only [Option.bind_eq_some_iff] at h
    obtain ⟨⟨r, H3⟩, hr, h⟩ := h
    split at h
    · rename_i hb
      injection h with h
      injection h with h1 h2
      subst h1 h2
      obtain ⟨I2, S2⟩ := rehome_ok hg I1
      have homg := rehome_hom hg E1
      have hcall := hic _ _ r H3 hr (rehome (gArgs E1.H (sealArgs (cfg.ownA f) 0 E.H args).1) E1) vs I2 rfl ⟨by rw [renL_eq]; simpa using A1.1, fun i v a hv ha' => by
        rw [renL_eq, List.getElem?_map, Option.map_eq_some_iff] at ha'
        obtain ⟨c, hc, rfl⟩ := ha'
        exact (A1.2 i v c hv hc).hom homg⟩
      rw [show (rehome (gArgs E1.H (sealArgs (cfg.ownA f) 0 E.H args).1) E1).w = E.w from w1] at hcall
      refine mono _ _ _ _ ?_ hcall
      rintro e w' ⟨E3, rfl, I3, e3, S3, hres, hpin⟩
      subst e3
      obtain ⟨E4, a1, a2, a3, a4, a5, a6⟩ := merge_ok hg I1 I3 S3 hpin hb
      refine ⟨E4, a1, a3, a2, S1.trans I1 a4, F1.trans a5, ?_⟩
      cases e with
      | returned v =>
        cases r with
        | ret a => exact RV.hom a6 hres
        | pan a => exact hres.elim
      | panicked chain =>
        cases r with
        | ret a => exact hres.elim
        | pan a => obtain ⟨v, h1, h2⟩ := hres; exact ⟨v, h1, RV.hom a6 h2⟩
      | outgrown => cases r <;> exact hres.elim
    · cases h
  · cases h

/-- Code without loops and drawn orders. -/
def flat : Code → Bool
  | .skip => true
  | .ret => true
  | .region _ _ d => !d
  | .seq a b => flat a && flat b
  | .cond _ a b => flat a && flat b
  | _ => false
/-- What such code leaves: all that stood stands. -/
def PostF (nt : Nat) (ds : List Deferred) (E : En) (fx : Fx) (st' : St) : Exit → Act → World → Prop :=
  fun e a' w' => ∃ E', E'.w = w' ∧ SR nt ds E' a' st' ∧ Step E E' ∧ Fit E E' ∧ Mt E' e fx
theorem runOpsF_ok {P : Program} {cfg : Cfg} {ic : Ic} (hic : IcOk P ic) {nt : Nat} {ds : List Deferred} {ops : Array Oper} : ∀ (l : List Nat) (E : En) (a : Act) (st st' : St) (p : Option AV), SR nt ds E a st → runOps P cfg ic nt ops l st = some (p, st') →
    ∀ (Q : Exit → Act → World → Prop), (∀ e a' w', PostF nt ds E (opFx p) st' e a' w' → Q e a' w') → wpOps P ops Q l a E.w
  | [], E, a, st, st', p, R, h, Q, hQ => by
    injection h with h
    injection h with h1 h2
    subst h1 h2
    exact hQ _ _ _ ⟨E, rfl, R, .refl E, .refl E, trivial⟩
  | i :: l, E, a, st, st', p, R, h, Q, hQ => by
    simp only [runOps, Option.bind_eq_some_iff] at h
    obtain ⟨⟨q, s⟩, hs, h⟩ := h
    unfold stepOp at hs
    unfold wpOps
    split at hs
    · rename_i ho
      injection hs with hs
      injection hs with h1 h2
      subst h1 h2
      simp only [ho]
      exact runOpsF_ok hic l E a st st' p R h Q hQ
    · rename_i o ho
      simp only [ho]
      split at hs
      · cases hs
      · rename_i hw
        rw [wantedA_ok R.fr hw, if_pos rfl]
        refine .inl (runOp_ok (cfg := cfg) hic R hs (fun hq a' E' R' S' F' => ?_) (fun av hq E' v R' S' F' hv => ?_))
        · subst hq
          refine runOpsF_ok hic l E' a' s st' p R' h Q (fun e a'' w'' ⟨E'', h1, h2, h3, h4, h5⟩ => hQ _ _ _ ⟨E'', h1, h2, S'.trans R'.I h3, F'.trans h4, h5⟩)
        · subst hq
          injection h with h
          injection h with h1 h2
          subst h1 h2
          exact hQ _ _ _ ⟨E', rfl, R', S', F', v, rfl, hv⟩
      · rename_i hw
        rw [wantedA_ok R.fr hw, if_neg (by simp)]
        rw [Option.map_eq_some_iff] at hs
        obtain ⟨s', hs', h2⟩ := hs
        injection h2 with h2 h3
        subst h2 h3
        have R' : SR nt ds E (a.put o.dst undef) s' := put_ok' hs' R.fr R.sz R.df R.H R.I (.tuple [] [] rfl (fun i v a hv => by simp at hv))
        exact runOpsF_ok hic l E _ s' st' p R' h Q hQ
theorem runCodeF_ok {P : Program} {cfg : Cfg} {ic : Ic} (hic : IcOk P ic) {nt f lf : Nat} {ds : List Deferred} {pins : List Nm} : ∀ (c : Code) (E : En) (a : Act) (st : St) (fx : Fx) (st' : St), flat c = true → SR nt ds E a st →
    runCode P cfg ic nt f lf pins c st = some (fx, st') → c.wp P (PostF nt ds E fx st') a E.w
  | .skip, E, a, st, fx, st', hf, R, h => by
    injection h with h; injection h with h1 h2; subst h1 h2
    exact wp_skip ⟨E, rfl, R, .refl E, .refl E, trivial⟩
  | .ret, E, a, st, fx, st', hf, R, h => by
    injection h with h; injection h with h1 h2; subst h1 h2
    exact wp_ret ⟨E, rfl, R, .refl E, .refl E, trivial⟩
  | .region id ops d, E, a, st, fx, st', hf, R, h => by
    simp only [runCode, Option.map_eq_some_iff] at h
    obtain ⟨⟨p, s⟩, hp, h⟩ := h
    injection h with h1 h2
    subst h1 h2
    cases d with
    | false => exact wp_region (runOpsF_ok hic _ E a st s p R (by simpa using hp) _ (fun e a' w' h => h))
    | true => cases hf
  | .seq x y, E, a, st, fx, st', hf, R, h => by
    simp only [flat, Bool.and_eq_true] at hf
    simp only [runCode, Option.bind_eq_some_iff] at h
    obtain ⟨⟨fx1, s1⟩, h1, h⟩ := h
    refine wp_seq (wp_mono (runCodeF_ok hic x E a st fx1 s1 hf.1 R h1) (fun e a' w' hp => ?_))
    obtain ⟨E', rfl, R', S', F', M'⟩ := hp
    cases fx1 with
    | norm =>
      cases e <;> try exact M'.elim
      simp only [Exit.then]
      exact wp_mono (runCodeF_ok hic y E' a' s1 fx st' hf.2 R' h) (fun e a'' w'' ⟨E'', b1, b2, b3, b4, b5⟩ => ⟨E'', b1, b2, S'.trans R'.I b3, F'.trans b4, b5⟩)
    | ret =>
      injection h with h; injection h with h2 h3; subst h2 h3
      cases e <;> try exact M'.elim
      exact ⟨E', rfl, R', S', F', M'⟩
    | exit i =>
      injection h with h; injection h with h2 h3; subst h2 h3
      cases e <;> try exact M'.elim
      exact ⟨E', rfl, R', S', F', M'⟩
    | pan b =>
      injection h with h; injection h with h2 h3; subst h2 h3
      cases e <;> try exact M'.elim
      exact ⟨E', rfl, R', S', F', M'⟩
  | .cond c x y, E, a, st, fx, st', hf, R, h => by
    simp only [flat, Bool.and_eq_true] at hf
    simp only [runCode] at h
    split at h
    · rename_i t hc
      have hv := R.fr.eval c
      rw [hc] at hv
      refine wp_cond (t := t) (rep_bool (rv_d hv)) ?_
      cases t with
      | true => exact runCodeF_ok hic x E a st fx st' hf.1 R (by simpa using h)
      | false => exact runCodeF_ok hic y E a st fx st' hf.2 R (by simpa using h)
    · cases h
  | .label _, _, _, _, _, _, hf, _, _ => by cases hf
  | .exit _, _, _, _, _, _, hf, _, _ => by cases hf
  | .block _ _, _, _, _, _, _, hf, _, _ => by cases hf
  | .loop _, _, _, _, _, _, hf, _, _ => by cases hf
  | .scope _, _, _, _, _, _, hf, _, _ => by cases hf
  | .goto _, _, _, _, _, _, hf, _, _ => by cases hf
  | .refuse _, _, _, _, _, _, hf, _, _ => by cases hf
  | .rangeFunc _ _ _ _, _, _, _, _, _, hf, _, _ => by cases hf
/-- Pieces, one behind the other, and what is behind them. -/
def seqs : List Code → Code → Code
  | [], z => z
  | x :: r, z => .seq x (seqs r z)
theorem spine_ok {P : Program} {cfg : Cfg} {ic : Ic} (hic : IcOk P ic) {nt f lf : Nat} {ds : List Deferred} {pins : List Nm} {z : Code} {Q : Exit → Act → World → Prop} : ∀ (xs : List Code) (E : En) (a : Act) (st : St) (fx : Fx) (st' : St), SR nt ds E a st →
    runCode P cfg ic nt f lf pins (seqs xs .skip) st = some (fx, st') →
    (fx = .norm → ∀ E' a', SR nt ds E' a' st' → Step E E' → z.wp P Q a' E'.w) →
    (∀ e a' w', fx ≠ .norm → Post nt ds (PinL pins) E fx st' e a' w' → Q e a' w') → (seqs xs z).wp P Q a E.w
  | [], E, a, st, fx, st', R, h, h1, h2 => by
    injection h with h; injection h with e1 e2; subst e1 e2
    exact h1 rfl E a R (.refl E)
  | x :: r, E, a, st, fx, st', R, h, h1, h2 => by
    simp only [seqs, runCode, Option.bind_eq_some_iff] at h
    obtain ⟨⟨fx1, s1⟩, hx, h⟩ := h
    refine wp_seq (wp_mono (runCode_ok hic x E a st fx1 s1 R hx) (fun e a' w' hp => ?_))
    obtain ⟨E', rfl, R', S', P', M'⟩ := hp
    cases fx1 with
    | norm =>
      cases e <;> try exact M'.elim
      simp only [Exit.then]
      exact spine_ok hic r E' a' s1 fx st' R' h (fun hn E'' a'' R'' S'' => h1 hn E'' a'' R'' (S'.trans R'.I S'')) (fun e a'' w'' hn hp => h2 e a'' w'' hn (hp.mono R'.I S' P'))
    | ret =>
      injection h with h; injection h with e2 e3; subst e2 e3
      cases e <;> try exact M'.elim
      exact h2 _ _ _ (by simp) ⟨E', rfl, R', S', P', M'⟩
    | exit i =>
      injection h with h; injection h with e2 e3; subst e2 e3
      cases e <;> try exact M'.elim
      exact h2 _ _ _ (by simp) ⟨E', rfl, R', S', P', M'⟩
    | pan b =>
      injection h with h; injection h with e2 e3; subst e2 e3
      cases e <;> try exact M'.elim
      exact h2 _ _ _ (by simp) ⟨E', rfl, R', S', P', M'⟩
/-- How a deferred closure of two captured values is judged that recovers a panic: the panic's value is its third. -/
def JRec (P : Program) (g : FuncId) (vs : List Value) (w : World) (R : Ending → World → Prop) : Prop :=
  ∀ (c0 c1 v : Value), vs = [c0, c1, v] → CallsD P g #[c0, c1] (.panicking [{ v, recovered := false }]) w (fun e u' w' => u' = .panicking [{ v, recovered := true }] ∧ R e w')
theorem callsD_mono {P : Program} {f : FuncId} {args : Array Value} {u : FrameMode} {w : World} {R R' : Ending → FrameMode → World → Prop} (h : CallsD P f args u w R) (hr : ∀ e u' w', R e u' w' → R' e u' w') : CallsD P f args u w R' :=
  fun c cs hu => let ⟨e, u', w', fr, h1, h2⟩ := h c cs hu; ⟨e, u', w', fr, hr _ _ _ h1, h2⟩
theorem jrec_mono {P : Program} {g : FuncId} (vs : List Value) (w : World) (R R' : Ending → World → Prop) (hr : ∀ e w, R e w → R' e w) (h : JRec P g vs w R) : JRec P g vs w R' :=
  fun c0 c1 v hv => callsD_mono (h c0 c1 v hv) (fun e u' w' ⟨a, b⟩ => ⟨a, hr _ _ b⟩)
/-- A function that defers one closure, behind its first pieces; what the closure does when it recovers is said by icg. -/
def icDef (P : Program) (cfg : Cfg) (ic icg : Ic) (fn : Func) (f g lf : Nat) (xs : List Code) (rest : Code) (o1 : Oper) (t : Nat) : List AV → Hp → Option (Res × Hp)
  | args, [] => if args.length ≤ fn.ntmps then (runCode P cfg ic fn.ntmps f lf [] (seqs xs .skip) ⟨frOf 0 args, []⟩).bind fun r1 => match r1.1 with
      | .ret => finish P false fn [] (.ret, r1.2)
      | .norm => (runOp P cfg ic fn.ntmps o1 r1.2).bind fun r2 => match r2.1 with
        | none => match r2.2.fr.get t with
          | .fn g' [p0, p1] => if g' = g then (runCode P cfg ic fn.ntmps f lf [] rest r2.2).bind fun r3 => match r3.1 with
              | .norm => finish P false fn [] (.ret, r3.2)
              | .ret => finish P false fn [] (.ret, r3.2)
              | .pan v => (callA cfg icg 0 g [p0, p1, v] r3.2.H).bind fun r4 => match r4.1 with
                | .ret _ => finish P false fn [] (.ret, ⟨r3.2.fr, r4.2⟩)
                | .pan _ => none
              | .exit _ => none
            else none
          | _ => none
        | some _ => none
      | _ => none
    else none
  | _, _ => none
theorem finRet {P : Program} {fn : Func} {ds : List Deferred} {nt : Nat} {E E' : En} (hE : E.H = []) (I0 : Inv E) {a' : Act} {st' : St} {res : Res} {H' : Hp} (R' : SR nt ds E' a' st') (S' : Step E E') (h : finish P false fn [] (.ret, st') = some (res, H')) :
    ∃ v, (results fn a'.tmps).run P E'.w = .ok v E'.w ∧ ∃ E2, E2.w = E'.w ∧ Inv E2 ∧ E2.H = H' ∧ Step E E2 ∧ ROk E2 (.returned v) res ∧ Pin (fun _ => True) E E2 := by
  simp only [finish, Option.bind_eq_some_iff, Option.map_eq_some_iff] at h
  obtain ⟨r, hr, x, hx, he⟩ := h
  injection he with h1 h2
  subst h1 h2
  obtain ⟨v, hv, hvr⟩ := resA_ok R' hr
  rw [← R'.H] at hx
  obtain ⟨E2, b1, b2, b3, b4, b5, b6⟩ := finR_ok R'.I hvr hx
  exact ⟨v, hv, E2, b1, b3, b2, S'.trans R'.I b4, b6, fun o _ => ⟨fun cs hg => (by rw [hE] at hg; cases hg), fun x r hg => (by rw [hE] at hg; cases hg)⟩⟩
theorem def_ok {P : Program} {cfg : Cfg} {ic icg : Ic} (hic : IcOk P ic) {fn fg : Func} {f g lf : Nat} {xs : List Code} {rest : Code} {o1 o2 : Oper} {c2 : Call} {t id : Nat} {ops : Array Oper} {G : Code}
    (hf : P.funcs[f]? = some fn) (hb : fn.body = some (seqs xs (.seq (.region id ops false) rest))) (hops : ops.toList = [o1, o2])
    (w1 : ∀ fr, wantedA ops fr o1 = some true) (w2 : ∀ fr, wantedA ops fr o2 = some true) (hd : o2.dst = none) (ho : o2.op = .defer c2) (hc : c2.callee = .value (.tmp t)) (hargs2 : c2.args = #[]) (hfl : flat rest = true)
    (hg : P.funcs[g]? = some fg) (hgb : fg.body = some G) (hname : (fg.name == "runtime.NumGoroutine") = false)
    (hrec : ∀ args H res H', icg g args H = some (res, H') → ∀ (E : En) (vs : List Value), Inv E → E.H = H → ArgsOk E vs args → JRec P g vs E.w (fun e w' => ∃ E', E'.w = w' ∧ Inv E' ∧ E'.H = H' ∧ Step E E' ∧ ROk E' e res ∧ Pin (fun _ => True) E E'))
    (hret : ∀ c0 c1 w, CallsD P g #[c0, c1] .returning w (fun e u' w' => (∃ v, e = .returned v) ∧ u' = .returning ∧ w' = w)) :
    FnOk P f (icDef P cfg ic icg fn f g lf xs rest o1 t) := by
  intro args H res H' h E vs I hH hargs
  cases H with
  | cons _ _ => cases h
  | nil =>
    simp only [icDef] at h
    split at h
    · rename_i hle
      simp only [Option.bind_eq_some_iff] at h
      obtain ⟨⟨fx1, st1⟩, hrun, h⟩ := h
      have hl := hargs.1
      have R : SR fn.ntmps [] E { tmps := vs.toArray ++ Array.replicate (fn.ntmps - vs.toArray.size) undef, defers := [] } ⟨frOf 0 args, []⟩ := by
        refine ⟨⟨fun t => ?_⟩, by simp; omega, rfl, hH, I⟩
        simp only [frOf_get, Nat.zero_le, if_true, Nat.sub_zero]
        by_cases ht : t < args.length
        · have hv : vs[t]? = some vs[t] := List.getElem?_eq_getElem (by omega)
          have ha : args[t]? = some args[t] := List.getElem?_eq_getElem ht
          rw [ha]
          simp only [Option.getD_some]
          rw [Array.getD_eq_getD_getElem?, Array.getElem?_append_left (by simp; omega)]
          simp only [List.getElem?_toArray, hv, Option.getD_some]
          exact hargs.2 t _ _ hv ha
        · rw [List.getElem?_eq_none (by omega)]
          exact .undef _
      have ops0 : ops[0]? = some o1 := by rw [← Array.getElem?_toList, hops]; rfl
      have ops1 : ops[1]? = some o2 := by rw [← Array.getElem?_toList, hops]; rfl
      have opsn : List.range ops.size = [0, 1] := by rw [← Array.length_toList, hops]; rfl
      refine calls_of_wp_defers hf hb (spine_ok hic xs E _ _ fx1 st1 R hrun (fun hn E1 a1 R1 S1 => ?_) (fun e a' w' hn hp => ?_))
      · subst hn
        simp only [Option.bind_eq_some_iff] at h
        obtain ⟨⟨p2, st2⟩, hop, h⟩ := h
        split at h
        · rename_i hp2
          dsimp only at hp2
          subst hp2
          split at h
          · rename_i g' p0 p1 hfn
            split at h
            · rename_i hgg
              subst hgg
              simp only [Option.bind_eq_some_iff] at h
              obtain ⟨⟨fx3, st3⟩, hrun3, h⟩ := h
              refine wp_seq (wp_region ?_)
              rw [opsn]
              simp only [wpOps, ops0, ops1]
              rw [wantedA_ok R1.fr (w1 _), if_pos rfl]
              refine .inl (runOp_ok (cfg := cfg) hic R1 hop (fun _ a2 E2 R2 S2 F2 => ?_) (fun av hav => by cases hav))
              rw [wantedA_ok R2.fr (w2 _), if_pos rfl]
              refine .inl ?_
              have hcl := R2.fr.eval (.tmp t)
              have hcl' : evA st2.fr (.tmp t) = .fn g' [p0, p1] := hfn
              rw [hcl'] at hcl
              generalize hfe : a2.eval (.tmp t) = fval at hcl
              cases hcl with
              | fn _ cs _ hlen hcr =>
              obtain ⟨c0, c1, rfl⟩ : ∃ c0 c1, cs = [c0, c1] := by
                match cs, hlen with
                | [x, y], _ => exact ⟨x, y, rfl⟩
              have hrund : (execOp a2.eval o2).run P E2.w = .ok (.defer { target := .fn (.func g') #[c0, c1], args := #[] }) E2.w := by
                unfold execOp
                simp only [ho, resolve, hc, hfe, hargs2, Deferred.ofValue, Sem.run_bind, Sem.run_pure, Result.andThen_ok]
                simp
              unfold Oper.wp
              rw [hrund]
              simp only [Oper.upon_defer, hd]
              show rest.wp P _ _ E2.w
              have R2' : SR fn.ntmps [{ target := .fn (.func g') #[c0, c1], args := #[] }] E2 ({ a2 with defers := { target := .fn (.func g') #[c0, c1], args := #[] } :: a2.defers }.put none undef) st2 := ⟨⟨R2.fr.rv⟩, R2.sz, by show _ :: a2.defers = _; rw [R2.df], R2.H, R2.I⟩
              refine wp_mono (runCodeF_ok hic rest E2 _ st2 fx3 st3 hfl R2' hrun3) (fun e a3 w3 hp => ?_)
              obtain ⟨E3, rfl, R3, S3, F3, M3⟩ := hp
              have S03 : Step E E3 := (S1.trans R1.I (S2.trans R2.I S3))
              have hinv : (invoke (.fn (.func g') #[c0, c1]) #[]).run P E3.w = .ok (.enter g' #[c0, c1]) E3.w := by
                have hbn : fg.body.isNone = false := by rw [hgb]; rfl
                have hnm : ¬ ((fg.name == "runtime.NumGoroutine") = true) := by rw [hname]; simp
                simp only [invoke, callFunc, Sem.run_bind, run_program, Result.andThen_ok, hg, hbn, if_neg hnm]
                simp
              have good : ∀ a3 st, finish P false fn [] (.ret, st) = some (res, H') → SR fn.ntmps [{ target := .fn (.func g') #[c0, c1], args := #[] }] E3 a3 st → Leaves P fn a3.tmps (fun e w' => ∃ E', E'.w = w' ∧ Inv E' ∧ E'.H = H' ∧ Step E E' ∧ ROk E' e res ∧ Pin (fun _ => True) E E') a3.defers .returning E3.w := fun a3 st hfin R3 => by
                rw [R3.df]
                obtain ⟨v, hv, E4, b1, b2, b3, b4, b5, b6⟩ := finRet hH I R3 S03 hfin
                refine ⟨by simp, _, _, _, _, rfl, hinv, callsD_mono (hret c0 c1 E3.w) ?_⟩
                rintro e u' w' ⟨⟨v', rfl⟩, rfl, rfl⟩
                exact ⟨v, hv, E4, b1, b2, b3, b4, b5, b6⟩
              cases fx3 with
              | norm =>
                cases e <;> try exact M3.elim
                exact good a3 st3 h R3
              | ret =>
                cases e <;> try exact M3.elim
                exact good a3 st3 h R3
              | exit i => cases h
              | pan b =>
                cases e <;> try exact M3.elim
                obtain ⟨v, rfl, hv⟩ := M3
                simp only [Option.bind_eq_some_iff] at h
                obtain ⟨⟨r4, H4⟩, hcall, h⟩ := h
                rw [← R3.H] at hcall
                have hargs3 : ArgsOk E3 [c0, c1, v] [p0, p1, b] := by
                  refine ⟨rfl, fun i x y hx hy => ?_⟩
                  match i with
                  | 0 => simp at hx hy; subst hx hy; exact (hcr 0 _ _ rfl rfl).mono F3
                  | 1 => simp at hx hy; subst hx hy; exact (hcr 1 _ _ rfl rfl).mono F3
                  | 2 => simp at hx hy; subst hx hy; exact hv
                  | i + 3 => simp at hx
                have hj := callJ_ok (J := JRec P g') jrec_mono hrec R3.I hargs3 hcall c0 c1 v rfl
                show Leaves P fn a3.tmps _ a3.defers (.panicking [{ v, recovered := false }]) E3.w
                rw [R3.df]
                refine ⟨by simp, _, _, _, _, rfl, hinv, callsD_mono hj ?_⟩
                rintro e u' w' ⟨rfl, E4, rfl, I4, e4, S4, F4, hres⟩
                cases r4 with
                | pan _ => cases h
                | ret b4 =>
                  cases e with
                  | panicked chain => exact hres.elim
                  | outgrown => exact hres.elim
                  | returned v4 =>
                    have R4 : SR fn.ntmps [{ target := .fn (.func g') #[c0, c1], args := #[] }] E4 a3 ⟨st3.fr, H4⟩ := ⟨R3.fr.mono F4, R3.sz, R3.df, e4, I4⟩
                    obtain ⟨v5, hv5, E5, b1, b2, b3, b4, b5, b6⟩ := finRet hH I R4 (S03.trans R3.I S4) h
                    exact ⟨v5, hv5, E5, b1, b2, b3, b4, b5, b6⟩
            · cases h
          · cases h
        · cases h
      · cases fx1 with
        | norm => exact absurd rfl hn
        | ret =>
          obtain ⟨E', rfl, R', S', P', M'⟩ := hp
          cases e <;> try exact M'.elim
          show Leaves P fn a'.tmps _ a'.defers .returning E'.w
          rw [R'.df]
          obtain ⟨v, hv, E4, b1, b2, b3, b4, b5, b6⟩ := finRet hH I R' S' h
          exact ⟨v, hv, E4, b1, b2, b3, b4, b5, b6⟩
        | exit i => cases h
        | pan b => cases h
    · cases h
/-- A closure that recovers into temporary 2, tells it from nil in 7, and goes on with X if it is none. -/
structure RecFn (P : Program) (g : FuncId) (fg : Func) (X : Code) (oR oS oM oN : Oper) (A Bo : Array Oper) (i0 i1 n : Nat) : Prop where
  hf : P.funcs[g]? = some fg
  hb : fg.body = some (.seq (.region i0 A false) (.seq (.region i1 Bo false) (.cond (.tmp 7) X .skip)))
  hA : A.toList = [oR, oS]
  hB : Bo.toList = [oM, oN]
  wR : ∀ y, Region.wanted oR y = true
  wS : ∀ y, Region.wanted oS y = true
  wM : ∀ y, Region.wanted oM y = true
  wN : ∀ y, Region.wanted oN y = true
  xR : ∀ (a : Act) W, (execOp a.eval oR).run P W = .ok .recover W
  xS : ∀ (a : Act) W, (execOp a.eval oS).run P W = .ok (.value (a.eval (.tmp 5))) W
  xM : ∀ (a : Act) W, (execOp a.eval oM).run P W = .ok (.value (a.eval (.tmp 2))) W
  xN : ∀ (a : Act) W u v, a.eval (.tmp 6) = .iface u v → (execOp a.eval oN).run P W = .ok (.value (.bool true)) W
  xN0 : ∀ (a : Act) W, a.eval (.tmp 6) = .nilIface → (execOp a.eval oN).run P W = .ok (.value (.bool false)) W
  dR : oR.dst = some 5
  dS : oS.dst = some 2
  dM : oM.dst = some 6
  dN : oN.dst = some 7
  nt : fg.ntmps = n
  n8 : 8 ≤ n
  res : fg.results = #[]
section
variable {P : Program} {g : FuncId} {fg : Func} {X : Code} {oR oS oM oN : Oper} {A Bo : Array Oper} {i0 i1 n : Nat}
theorem act_put_get (a : Act) (d : Nat) (v : Value) (t : Nat) (hd : d < a.tmps.size) : (a.put (some d) v).eval (.tmp t) = if d = t then v else a.eval (.tmp t) := by
  simp only [Act.put, Act.eval]
  by_cases h : d = t
  · subst h; simp [Array.getD_eq_getD_getElem?, Array.getElem?_setIfInBounds, hd]
  · simp [Array.getD_eq_getD_getElem?, Array.getElem?_setIfInBounds, h]
theorem act_put_size (a : Act) (d : Option Tmp) (v : Value) : (a.put d v).tmps.size = a.tmps.size := by cases d <;> simp [Act.put]
theorem act_put_defers (a : Act) (d : Option Tmp) (v : Value) : (a.put d v).defers = a.defers := by cases d <;> simp [Act.put]
theorem rec_run (F : RecFn P g fg X oR oS oM oN A Bo i0 i1 n) (c0 c1 v : Value) (u : TypeId) (v' : Value) (hv : v = .iface u v') (w : World) (R : Ending → FrameMode → World → Prop)
    (h : ∀ (cf : Frame) (cs : List Frame) (a : Act), a.tmps.size = n → a.defers = [] → (∀ t : Nat, a.eval (.tmp t) = if t = 0 then c0 else if t = 1 then c1 else if t = 2 then v else a.eval (.tmp t)) →
      X.wp P (fun e a' w' => bodyPostS P fg cf cs R e a' ({ cf with mode := .panicking [{ v, recovered := true }] } :: cs) w') a w) :
    CallsD P g #[c0, c1] (.panicking [{ v, recovered := false }]) w R := by
  have oA0 : A[0]? = some oR := by rw [← Array.getElem?_toList, F.hA]; rfl
  have oA1 : A[1]? = some oS := by rw [← Array.getElem?_toList, F.hA]; rfl
  have oB0 : Bo[0]? = some oM := by rw [← Array.getElem?_toList, F.hB]; rfl
  have oB1 : Bo[1]? = some oN := by rw [← Array.getElem?_toList, F.hB]; rfl
  have nA : List.range A.size = [0, 1] := by rw [← Array.length_toList, F.hA]; rfl
  have nB : List.range Bo.size = [0, 1] := by rw [← Array.length_toList, F.hB]; rfl
  have n8 := F.n8
  refine callsD_of_wpS F.hf F.hb (fun cf cs hu => ?_)
  obtain ⟨a0, ha0⟩ : ∃ a0 : Act, a0 = { tmps := #[c0, c1] ++ Array.replicate (fg.ntmps - #[c0, c1].size) undef, defers := [] } := ⟨_, rfl⟩
  have s0 : a0.tmps.size = n := by rw [ha0]; simp [F.nt]; omega
  have d0 : a0.defers = [] := by rw [ha0]
  have e0 : a0.eval (.tmp 0) = c0 := by rw [ha0]; simp only [Act.eval]; rw [Array.getD_eq_getD_getElem?, Array.getElem?_append_left (by simp)]; rfl
  have e1 : a0.eval (.tmp 1) = c1 := by rw [ha0]; simp only [Act.eval]; rw [Array.getD_eq_getD_getElem?, Array.getElem?_append_left (by simp)]; rfl
  rw [← ha0]
  refine wpS_seq (wpS_region ?_)
  rw [nA]
  unfold wpOpsS
  simp only [oA0, F.wR, if_true, F.xR]
  have hr : recoverD (cf :: cs) = some (v, { cf with mode := .panicking [{ v, recovered := true }] } :: cs) := by unfold recoverD; simp only [hu]
  rw [hr]
  simp only []
  unfold wpOpsS
  simp only [oA1, F.wS, if_true, F.xS, Oper.upon_value, F.dR, F.dS]
  unfold wpOpsS
  simp only [Exit.thenS]
  obtain ⟨a2, ha2⟩ : ∃ a2 : Act, a2 = (a0.put (some 5) v).put (some 2) ((a0.put (some 5) v).eval (.tmp 5)) := ⟨_, rfl⟩
  rw [← ha2]
  have s2 : a2.tmps.size = n := by rw [ha2]; simp only [act_put_size, s0]
  have d2 : a2.defers = [] := by rw [ha2]; simp only [act_put_defers, d0]
  have g5 : (a0.put (some 5) v).eval (.tmp 5) = v := by rw [act_put_get _ _ _ _ (by omega), if_pos rfl]
  have g2 : ∀ t : Nat, a2.eval (.tmp t) = if t = 2 then v else if t = 5 then v else a0.eval (.tmp t) := fun t => by
    rw [ha2, act_put_get _ _ _ _ (by rw [act_put_size]; omega), g5, act_put_get _ _ _ _ (by omega)]
    by_cases h2 : t = 2
    · subst h2; simp
    · by_cases h5 : t = 5
      · subst h5; simp
      · rw [if_neg (by omega), if_neg (by omega), if_neg h2, if_neg h5]
  refine wpS_of_wp (wp_seq (wp_region ?_))
  rw [nB]
  unfold wpOps
  simp only [oB0, F.wM, if_true]
  refine .inl ?_
  unfold Oper.wp
  rw [F.xM]
  simp only [Oper.upon_value, F.dM]
  obtain ⟨a3, ha3⟩ : ∃ a3 : Act, a3 = a2.put (some 6) (a2.eval (.tmp 2)) := ⟨_, rfl⟩
  rw [← ha3]
  have s3 : a3.tmps.size = n := by rw [ha3, act_put_size, s2]
  have d3 : a3.defers = [] := by rw [ha3, act_put_defers, d2]
  have g3 : ∀ t : Nat, a3.eval (.tmp t) = if t = 6 then v else a2.eval (.tmp t) := fun t => by
    rw [ha3, act_put_get _ _ _ _ (by omega), g2 2, if_pos rfl]
    by_cases h6 : t = 6
    · subst h6; simp
    · rw [if_neg (by omega), if_neg h6]
  unfold wpOps
  simp only [oB1, F.wN, if_true]
  refine .inl ?_
  unfold Oper.wp
  rw [F.xN a3 w u v' (by rw [g3 6, if_pos rfl, hv])]
  simp only [Oper.upon_value, F.dN]
  unfold wpOps
  simp only [Exit.then]
  obtain ⟨a4, ha4⟩ : ∃ a4 : Act, a4 = a3.put (some 7) (.bool true) := ⟨_, rfl⟩
  rw [← ha4]
  have g4 : ∀ t : Nat, a4.eval (.tmp t) = if t = 7 then .bool true else a3.eval (.tmp t) := fun t => by
    rw [ha4, act_put_get _ _ _ _ (by omega)]
    by_cases h7 : t = 7
    · subst h7; simp
    · rw [if_neg (by omega), if_neg h7]
  refine wp_cond_true (by rw [g4 7, if_pos rfl]) (h cf cs a4 (by rw [ha4, act_put_size, s3]) (by rw [ha4, act_put_defers, d3]) (fun (t : Nat) => ?_))
  rw [g4, g3, g2]
  by_cases h0 : t = 0
  · subst h0; simp [e0]
  · by_cases h1 : t = 1
    · subst h1; simp [e1]
    · by_cases h2 : t = 2
      · subst h2; simp
      · simp [h0, h1, h2]
theorem rec_none (F : RecFn P g fg X oR oS oM oN A Bo i0 i1 n) (c0 c1 : Value) (w : World) : CallsD P g #[c0, c1] .returning w (fun e u' w' => (∃ v, e = .returned v) ∧ u' = .returning ∧ w' = w) := by
  have oA0 : A[0]? = some oR := by rw [← Array.getElem?_toList, F.hA]; rfl
  have oA1 : A[1]? = some oS := by rw [← Array.getElem?_toList, F.hA]; rfl
  have oB0 : Bo[0]? = some oM := by rw [← Array.getElem?_toList, F.hB]; rfl
  have oB1 : Bo[1]? = some oN := by rw [← Array.getElem?_toList, F.hB]; rfl
  have nA : List.range A.size = [0, 1] := by rw [← Array.length_toList, F.hA]; rfl
  have nB : List.range Bo.size = [0, 1] := by rw [← Array.length_toList, F.hB]; rfl
  have n8 := F.n8
  refine callsD_of_wpS F.hf F.hb (fun cf cs hu => ?_)
  obtain ⟨a0, ha0⟩ : ∃ a0 : Act, a0 = { tmps := #[c0, c1] ++ Array.replicate (fg.ntmps - #[c0, c1].size) undef, defers := [] } := ⟨_, rfl⟩
  have s0 : a0.tmps.size = n := by rw [ha0]; simp [F.nt]; omega
  have d0 : a0.defers = [] := by rw [ha0]
  rw [← ha0]
  refine wpS_seq (wpS_region ?_)
  rw [nA]
  unfold wpOpsS
  simp only [oA0, F.wR, if_true, F.xR]
  have hr : recoverD (cf :: cs) = none := by unfold recoverD; simp only [hu]
  rw [hr]
  simp only []
  unfold wpOpsS
  simp only [oA1, F.wS, if_true, F.xS, Oper.upon_value, F.dR, F.dS]
  unfold wpOpsS
  simp only [Exit.thenS]
  obtain ⟨a2, ha2⟩ : ∃ a2 : Act, a2 = (a0.put (some 5) .nilIface).put (some 2) ((a0.put (some 5) .nilIface).eval (.tmp 5)) := ⟨_, rfl⟩
  rw [← ha2]
  have s2 : a2.tmps.size = n := by rw [ha2]; simp only [act_put_size, s0]
  have d2 : a2.defers = [] := by rw [ha2]; simp only [act_put_defers, d0]
  have g5 : (a0.put (some 5) .nilIface).eval (.tmp 5) = .nilIface := by rw [act_put_get _ _ _ _ (by omega), if_pos rfl]
  have g2 : a2.eval (.tmp 2) = .nilIface := by
    rw [ha2, act_put_get _ _ _ _ (by rw [act_put_size]; omega), g5, if_pos rfl]
  refine wpS_of_wp (wp_seq (wp_region ?_))
  rw [nB]
  unfold wpOps
  simp only [oB0, F.wM, if_true]
  refine .inl ?_
  unfold Oper.wp
  rw [F.xM]
  simp only [Oper.upon_value, F.dM]
  obtain ⟨a3, ha3⟩ : ∃ a3 : Act, a3 = a2.put (some 6) (a2.eval (.tmp 2)) := ⟨_, rfl⟩
  rw [← ha3]
  have s3 : a3.tmps.size = n := by rw [ha3, act_put_size, s2]
  have d3 : a3.defers = [] := by rw [ha3, act_put_defers, d2]
  have g3 : a3.eval (.tmp 6) = .nilIface := by rw [ha3, act_put_get _ _ _ _ (by omega), if_pos rfl, g2]
  unfold wpOps
  simp only [oB1, F.wN, if_true]
  refine .inl ?_
  unfold Oper.wp
  rw [F.xN0 a3 w g3]
  simp only [Oper.upon_value, F.dN]
  unfold wpOps
  simp only [Exit.then]
  refine wp_cond_false (by rw [act_put_get _ _ _ _ (by omega), if_pos rfl]) (wp_skip ?_)
  refine ⟨by rw [act_put_defers, d3], .returning, ?_, ?_⟩
  · rw [← hu]
  · refine ⟨.tuple #[], ?_, ⟨_, rfl⟩, rfl, rfl⟩
    unfold results
    simp [F.res]
end
end Go.Rx
end
section
namespace Go.Rx
open Go Go.RowKit
set_option linter.unusedVariables false
set_option linter.unusedSimpArgs false
/-- An element's place in an own row. -/
theorem aop_ixO {P : Program} {dst : Nat} {ρ : Operand → AV} {H : Hp} {t e e' : TypeId} {x ix : Operand} {o : Nm} {ver n s i : Nat} {k : IntKind} {z : Int} {es : List (List D)} (hx : ρ x = .own o ver n) (hi : ρ ix = .d (.int k z)) (ht : P.underlying t = some (.slice e)) (hs : sizeT P e = some s)
    (hg : H.get o = some (.arr e' s ver es)) (hz : z = (i : Int)) (hin : i < n) : aop P dst ρ H (.indexAddr t x ix) = some (.eptr o ver i 0, H) := by
  subst hz
  have h2 : (0 : Int) ≤ (i : Int) ∧ (i : Int) < (n : Int) := by omega
  simp only [aop, aIndexAddr, hx, hi, ht, hs, hg, Option.bind_some, true_and, if_pos h2, Option.map_some, Int.toNat_natCast]
/-- An element is read whole. -/
theorem aop_ldE {P : Program} {dst : Nat} {ρ : Operand → AV} {H : Hp} {t e' : TypeId} {a : Operand} {o : Nm} {ver i s : Nat} {es : List (List D)} {y : List D} (ha : ρ a = .eptr o ver i 0) (hg : H.get o = some (.arr e' s ver es)) (hy : es[i]? = some y) (hag : aggT P t = some true) (hn : sizeT P t = some y.length) :
    aop P dst ρ H (.load t a) = some (.agg (y.map .d), H) := by
  have e1 : ((y.map AV.d).drop 0).take y.length = y.map AV.d := by rw [List.drop_zero, List.take_of_length_le (by simp)]
  simp only [aop, aLoad, hag, hn, rdAt, ha, hg, hy, Option.bind_some, Option.map_some, if_true, takeT]
  rw [if_pos (by simp), e1]; rfl
/-- A part of an element is read: one cell. -/
theorem aop_ldE1 {P : Program} {dst : Nat} {ρ : Operand → AV} {H : Hp} {t e' : TypeId} {a : Operand} {o : Nm} {ver i s off n : Nat} {es : List (List D)} {y : List D} {d : D} (ha : ρ a = .eptr o ver i off) (hg : H.get o = some (.arr e' s ver es)) (hy : es[i]? = some y) (hd : y[off]? = some d) (hag : aggT P t = some false) (hn : sizeT P t = some n) :
    aop P dst ρ H (.load t a) = some (.d d, H) := by
  simp only [aop, aLoad, hag, hn, rdAt, ha, hg, hy, Option.bind_some, Option.map_some, if_true, takeT, Bool.false_eq_true, if_false, List.getElem?_map, hd]
/-- An element is written whole. -/
theorem aop_stE {P : Program} {dst : Nat} {ρ : Operand → AV} {H H1 : Hp} {t e' : TypeId} {a x : Operand} {o : Nm} {ver i s : Nat} {es : List (List D)} {cs : List AV} {ds y : List D} (ha : ρ a = .eptr o ver i 0) (hc : cellsOf (ρ x) = some cs) (hn : sizeT P t = some cs.length) (hsl : sealL H cs = some (ds, H1))
    (hg : H1.get o = some (.arr e' s ver es)) (hy : es[i]? = some y) (hl : ds.length = y.length) : aop P dst ρ H (.store t a x) = some (.undef, (o, .arr e' s ver (es.set i ds)) :: H1) := by
  have e1 : splice y 0 ds = ds := by unfold splice; simp [hl]
  simp only [aop, aStore, ha, hc, hn, Option.bind_some, if_true, wrAt, hsl, hg, hy, Nat.zero_add, if_pos (Nat.le_of_eq hl), e1, Option.map_some]
/-- How many there are in an own row. -/
theorem aop_lenO {P : Program} {dst : Nat} {ρ : Operand → AV} {H : Hp} {c : Call} {x : Operand} {t e e' : TypeId} {o : Nm} {ver n s : Nat} {es : List (List D)} (hcal : c.callee = .builtin .len) (hargs : c.args.toList = [x]) (hty : c.argTypes.toList = [t]) (ht : P.underlying t = some (.slice e)) (hx : ρ x = .own o ver n)
    (hg : H.get o = some (.arr e' s ver es)) (hn : n ≤ es.length) : aop P dst ρ H (.call c) = some (.d (.int .i64 (n : Int)), H) := by
  have e1 : (es.take n).length = n := by simp; omega
  simp only [aop, hcal, hargs, hty, aLen, ht, srcOf, hx, hg, if_true, Option.map_some, e1]
/-- An own row, cut short. -/
theorem aop_cutO {P : Program} {dst : Nat} {ρ : Operand → AV} {H : Hp} {t e e' : TypeId} {x hi : Operand} {o : Nm} {ver n s b : Nat} {k : IntKind} {z : Int} {es : List (List D)} (hx : ρ x = .own o ver n) (hh : ρ hi = .d (.int k z)) (ht : P.underlying t = some (.slice e)) (hi' : (P.info? e).isSome = true)
    (hg : H.get o = some (.arr e' s ver es)) (hz : z = (b : Int)) (hb : b ≤ n) : aop P dst ρ H (.slice t x none (some hi) none) = some (.own o ver b, H) := by
  simp only [aop, aSlice, Option.map_none, Option.map_some, intV, hh, Option.bind_some, ht, hx, Option.isNone_none, and_self, if_true, hg, hi', true_and]
  rw [bnds_to hz hb]; rfl
/-- Two structs are compared at once. -/
theorem aop_eqA {P : Program} {dst : Nat} {ρ : Operand → AV} {H : Hp} {t u : TypeId} {x y : Operand} {xs ys : List AV} {b : Bool} (hx : ρ x = .agg xs) (hy : ρ y = .agg ys) (h : eqSt P t xs ys = some b) :
    aop P dst ρ H (.binOp .eql t x y u) = some (.d (.bool b), H) := by
  simp only [aop, aBin, hx, hy, h, Option.map_some]
/-- A row begins with open contents. -/
theorem aop_begin {P : Program} {dst : Nat} {ρ : Operand → AV} {H : Hp} {c : Call} {s x : Operand} {t u e e' : TypeId} {i : TypeInfo} {z : Value} {ds : List (List D)} (hcal : c.callee = .builtin .append) (hargs : c.args.toList = [s, x]) (hty : c.argTypes.toList = [t, u])
    (ht : P.underlying t = some (.slice e)) (hu : P.underlying u = some (.slice e')) (hi : P.info? e = some i) (hz : i.zero = some z) (hsz : z.cells.size = i.size) (hx : srcOf H (ρ x) = some ds) (hall : ds.all (fun y => y.length == i.size) = true)
    (hs : ρ s = .nilsl) (ho : (H.get (.slot dst)).isNone = true) (hne : ds.length ≠ 0) (hl : ds.length * (i.bytes + 1) ≤ lim) :
    aop P dst ρ H (.call c) = some (.own (.slot dst) 0 ds.length, (.slot dst, .arr e i.size 0 ds) :: H) := by
  simp only [aop, hcal, hargs, hty, aAppend, ht, hu, hi, hz, hsz, hx, hall, hs, ho, Option.bind_some, if_true, if_neg hne, if_pos hl, and_self, true_and, and_true]
end Go.Rx
end
section
set_option linter.unusedVariables false
set_option linter.unusedSimpArgs false
namespace Go.Rx
open Go Go.RowKit
/-- Slots that are not written. -/
def freeOp (ts : List Nat) (o : Oper) : Bool := match o.dst with
  | some d => !ts.contains d
  | none => true
def freeC (ts : List Nat) : Code → Bool
  | .skip => true
  | .ret => true
  | .region _ ops _ => ops.toList.all (freeOp ts)
  | .seq a b => freeC ts a && freeC ts b
  | .cond _ a b => freeC ts a && freeC ts b
  | _ => false
def Kp (ts : List Nat) (a a' : Act) : Prop := ∀ t ∈ ts, a'.tmps.getD t undef = a.tmps.getD t undef
theorem Kp.refl (ts : List Nat) (a : Act) : Kp ts a a := fun _ _ => rfl
theorem Kp.trans {ts : List Nat} {a b c : Act} (h : Kp ts a b) (k : Kp ts b c) : Kp ts a c := fun t ht => (k t ht).trans (h t ht)
theorem put_kp {ts : List Nat} {o : Oper} (h : freeOp ts o = true) (a : Act) (v : Value) : Kp ts a (a.put o.dst v) := by
  intro t ht
  unfold freeOp at h
  cases hd : o.dst with
  | none => rfl
  | some d =>
    rw [hd] at h
    have hne : d ≠ t := by
      rintro rfl
      simp only [Bool.not_eq_true'] at h
      rw [List.contains_iff_mem.2 ht] at h
      cases h
    simp only [Act.put, Array.getD_eq_getD_getElem?, Array.getElem?_setIfInBounds_ne hne]
theorem opwp_kp {P : Program} {ts : List Nat} {o : Oper} (hf : freeOp ts o = true) {a : Act} {w : World} {next next' : Act → World → Prop} {Q Q' : Exit → Act → World → Prop} (h : o.wp P a w next Q)
    (hn : ∀ a' w', next a' w' → Kp ts a a' → next' a' w') (hq : ∀ e a' w', Q e a' w' → e ≠ .normal → Q' e a' w') : o.wp P a w next' Q' := by
  unfold Oper.wp at *
  unfold Oper.upon at *
  split at h
  · exact hn _ _ h (put_kp hf a _)
  · exact hn _ _ h (put_kp hf a _)
  · exact hn _ _ h (fun t ht => put_kp hf { a with defers := _ } _ t ht)
  · refine Calls.mono h (fun e w'' he => ?_)
    cases e with
    | returned v => exact hn _ _ he (put_kp hf a _)
    | panicked chain => exact hq _ _ _ he (by simp)
    | outgrown => obtain ⟨a1, w1, h1⟩ := he; exact ⟨a1, w1, hq _ _ _ h1 (by simp)⟩
  · exact Rows.mono h (fun v w'' he => hn _ _ he (put_kp hf a _))
  · exact hq _ _ _ h (by simp)
  · exact h.elim
theorem ops_kp {P : Program} {ts : List Nat} {ops : Array Oper} (hf : ops.toList.all (freeOp ts) = true) {Q Q' : Exit → Act → World → Prop} {a0 : Act} (hq : ∀ e a' w', Q e a' w' → (e = .normal → Kp ts a0 a') → Q' e a' w') : ∀ (l : List Nat) (a : Act) (w : World), Kp ts a0 a → wpOps P ops Q l a w → wpOps P ops Q' l a w
  | [], a, w, hk, h => hq _ _ _ h (fun _ => hk)
  | i :: l, a, w, hk, h => by
    unfold wpOps at *
    split
    · rename_i ho
      rw [ho] at h
      exact ops_kp hf hq l a w hk h
    · rename_i o ho
      rw [ho] at h
      simp only [] at h
      have hfo : freeOp ts o = true := by
        rw [List.all_eq_true] at hf
        exact hf o (by have := Array.getElem?_eq_some_iff.1 ho; obtain ⟨h1, h2⟩ := this; rw [← h2]; simp)
      split
      · rename_i hw
        rw [if_pos hw] at h
        rcases h with h | ⟨h1, a1, w1, h2⟩
        · exact .inl (opwp_kp hfo h (fun a' w' hn hk' => ops_kp hf hq l a' w' (hk.trans hk') hn) (fun e a' w' h he => hq _ _ _ h (fun h' => absurd h' he)))
        · exact .inr ⟨h1, a1, w1, hq _ _ _ h2 (by simp)⟩
      · rename_i hw
        rw [if_neg hw] at h
        exact ops_kp hf hq l _ w (hk.trans (put_kp hfo a _)) h
/-- What flat code leaves, with slots that it does not write. -/
def PostG (ts : List Nat) (nt : Nat) (ds : List Deferred) (E : En) (fx : Fx) (st' : St) (a : Act) : Exit → Act → World → Prop :=
  fun e a' w' => PostF nt ds E fx st' e a' w' ∧ (e = .normal → Kp ts a a')
theorem runCodeG_ok {P : Program} {cfg : Cfg} {ic : Ic} (hic : IcOk P ic) {ts : List Nat} {nt f lf : Nat} {ds : List Deferred} {pins : List Nm} : ∀ (c : Code) (E : En) (a : Act) (st : St) (fx : Fx) (st' : St), flat c = true → freeC ts c = true → SR nt ds E a st →
    runCode P cfg ic nt f lf pins c st = some (fx, st') → c.wp P (PostG ts nt ds E fx st' a) a E.w
  | .skip, E, a, st, fx, st', hf, hg, R, h => by
    injection h with h; injection h with h1 h2; subst h1 h2
    exact wp_skip ⟨⟨E, rfl, R, .refl E, .refl E, trivial⟩, fun _ => .refl ts a⟩
  | .ret, E, a, st, fx, st', hf, hg, R, h => by
    injection h with h; injection h with h1 h2; subst h1 h2
    exact wp_ret ⟨⟨E, rfl, R, .refl E, .refl E, trivial⟩, fun h => by cases h⟩
  | .region id ops d, E, a, st, fx, st', hf, hg, R, h => by
    simp only [runCode, Option.map_eq_some_iff] at h
    obtain ⟨⟨p, s⟩, hp, h⟩ := h
    injection h with h1 h2
    subst h1 h2
    cases d with
    | false =>
      have := runOpsF_ok hic _ E a st s p R (by simpa using hp) (PostF nt ds E (opFx p) s) (fun e a' w' h => h)
      exact wp_region (ops_kp hg (fun e a' w' h hk => ⟨h, hk⟩) _ a E.w (.refl ts a) this)
    | true => cases hf
  | .seq x y, E, a, st, fx, st', hf, hg, R, h => by
    simp only [flat, Bool.and_eq_true] at hf
    simp only [freeC, Bool.and_eq_true] at hg
    simp only [runCode, Option.bind_eq_some_iff] at h
    obtain ⟨⟨fx1, s1⟩, h1, h⟩ := h
    refine wp_seq (wp_mono (runCodeG_ok hic x E a st fx1 s1 hf.1 hg.1 R h1) (fun e a' w' hp => ?_))
    obtain ⟨⟨E', rfl, R', S', F', M'⟩, hk⟩ := hp
    cases fx1 with
    | norm =>
      cases e <;> try exact M'.elim
      simp only [Exit.then]
      exact wp_mono (runCodeG_ok hic y E' a' s1 fx st' hf.2 hg.2 R' h) (fun e a'' w'' ⟨⟨E'', b1, b2, b3, b4, b5⟩, hk2⟩ => ⟨⟨E'', b1, b2, S'.trans R'.I b3, F'.trans b4, b5⟩, fun he => (hk rfl).trans (hk2 he)⟩)
    | ret =>
      injection h with h; injection h with h2 h3; subst h2 h3
      cases e <;> try exact M'.elim
      exact ⟨⟨E', rfl, R', S', F', M'⟩, hk⟩
    | exit i =>
      injection h with h; injection h with h2 h3; subst h2 h3
      cases e <;> try exact M'.elim
      exact ⟨⟨E', rfl, R', S', F', M'⟩, hk⟩
    | pan b =>
      injection h with h; injection h with h2 h3; subst h2 h3
      cases e <;> try exact M'.elim
      exact ⟨⟨E', rfl, R', S', F', M'⟩, hk⟩
  | .cond c x y, E, a, st, fx, st', hf, hg, R, h => by
    simp only [flat, Bool.and_eq_true] at hf
    simp only [freeC, Bool.and_eq_true] at hg
    simp only [runCode] at h
    split at h
    · rename_i t hc
      have hv := R.fr.eval c
      rw [hc] at hv
      refine wp_cond (t := t) (rep_bool (rv_d hv)) ?_
      cases t with
      | true => exact runCodeG_ok hic x E a st fx st' hf.1 hg.1 R (by simpa using h)
      | false => exact runCodeG_ok hic y E a st fx st' hf.2 hg.2 R (by simpa using h)
    · cases h
  | .label _, _, _, _, _, _, hf, _, _, _ => by cases hf
  | .exit _, _, _, _, _, _, hf, _, _, _ => by cases hf
  | .block _ _, _, _, _, _, _, hf, _, _, _ => by cases hf
  | .loop _, _, _, _, _, _, hf, _, _, _ => by cases hf
  | .scope _, _, _, _, _, _, hf, _, _, _ => by cases hf
  | .goto _, _, _, _, _, _, hf, _, _, _ => by cases hf
  | .refuse _, _, _, _, _, _, hf, _, _, _ => by cases hf
  | .rangeFunc _ _ _ _, _, _, _, _, _, hf, _, _, _ => by cases hf
theorem spineG_ok {P : Program} {cfg : Cfg} {ic : Ic} (hic : IcOk P ic) {ts : List Nat} {nt f lf : Nat} {ds : List Deferred} {pins : List Nm} {z : Code} {Q : Exit → Act → World → Prop} : ∀ (xs : List Code) (E : En) (a : Act) (st : St) (fx : Fx) (st' : St), xs.all flat = true → xs.all (freeC ts) = true → SR nt ds E a st →
    runCode P cfg ic nt f lf pins (seqs xs .skip) st = some (fx, st') →
    (fx = .norm → ∀ E' a', SR nt ds E' a' st' → Step E E' → Fit E E' → Kp ts a a' → z.wp P Q a' E'.w) →
    (∀ e a' w', fx ≠ .norm → PostF nt ds E fx st' e a' w' → Q e a' w') → (seqs xs z).wp P Q a E.w
  | [], E, a, st, fx, st', hf, hg, R, h, h1, h2 => by
    injection h with h; injection h with e1 e2; subst e1 e2
    exact h1 rfl E a R (.refl E) (.refl E) (.refl ts a)
  | x :: r, E, a, st, fx, st', hf, hg, R, h, h1, h2 => by
    simp only [List.all_cons, Bool.and_eq_true] at hf hg
    simp only [seqs, runCode, Option.bind_eq_some_iff] at h
    obtain ⟨⟨fx1, s1⟩, hx, h⟩ := h
    refine wp_seq (wp_mono (runCodeG_ok (ts := ts) hic x E a st fx1 s1 hf.1 hg.1 R hx) (fun e a' w' hp => ?_))
    obtain ⟨⟨E', rfl, R', S', F', M'⟩, hk⟩ := hp
    cases fx1 with
    | norm =>
      cases e <;> try exact M'.elim
      simp only [Exit.then]
      exact spineG_ok hic r E' a' s1 fx st' hf.2 hg.2 R' h (fun hn E'' a'' R'' S'' F'' hk2 => h1 hn E'' a'' R'' (S'.trans R'.I S'') (F'.trans F'') ((hk rfl).trans hk2)) (fun e a'' w'' hn ⟨E'', b1, b2, b3, b4, b5⟩ => h2 e a'' w'' hn ⟨E'', b1, b2, S'.trans R'.I b3, F'.trans b4, b5⟩)
    | ret =>
      injection h with h; injection h with e2 e3; subst e2 e3
      cases e <;> try exact M'.elim
      exact h2 _ _ _ (by simp) ⟨E', rfl, R', S', F', M'⟩
    | exit i =>
      injection h with h; injection h with e2 e3; subst e2 e3
      cases e <;> try exact M'.elim
      exact h2 _ _ _ (by simp) ⟨E', rfl, R', S', F', M'⟩
    | pan b =>
      injection h with h; injection h with e2 e3; subst e2 e3
      cases e <;> try exact M'.elim
      exact h2 _ _ _ (by simp) ⟨E', rfl, R', S', F', M'⟩
/-- A function whose row in slot tb is read by others in its middle, and grows in the end by what stands in slot tm. -/
def thawDef (P : Program) (cfg : Cfg) (ic : Ic) (fn : Func) (f lf : Nat) (xs1 xs2 : List Code) (rest : Code) (tb tm : Nat) : List AV → Hp → Option (Res × Hp)
  | args, [] => if args.length ≤ fn.ntmps then (runCode P cfg ic fn.ntmps f lf [] (seqs xs1 .skip) ⟨frOf 0 args, []⟩).bind fun r1 => match r1.1 with
      | .ret => finish P false fn [] (.ret, r1.2)
      | .norm => match r1.2.fr.get tb with
        | .own o ver n => match r1.2.H.get o with
          | some (.arr e s v es) => if v = ver then (match r1.2.fr.get tm with
            | .d m => (runCode P cfg ic fn.ntmps f lf [] (seqs xs2 .skip) ⟨(tb, .d (.list (es.take n))) :: r1.2.fr, (o, .frz e s v es) :: r1.2.H⟩).bind fun r2 => match r2.1 with
              | .ret => finish P false fn [] (.ret, r2.2)
              | .norm => (runCode P cfg ic fn.ntmps f lf [] rest ⟨[(tb, .own o 0 n), (tm, .d m)], [(o, .arr e s 0 es)]⟩).bind fun r3 => match r3.1 with
                | .ret => finish P false fn [] (.ret, r3.2)
                | _ => none
              | _ => none
            | _ => none) else none
          | _ => none
        | _ => none
      | _ => none
    else none
  | _, _ => none
/-- The same, laid open. -/
noncomputable def thawK (P : Program) (cfg : Cfg) (ic : Ic) (lp : LP) (fn : Func) (xs1 xs2 : List Code) (rest : Code) (tb tm : Nat) (args : List AV) : Option (Res × Hp) :=
  if args.length ≤ fn.ntmps then codeK P cfg ic lp fn.ntmps (seqs xs1 .skip) ⟨frOf 0 args, []⟩ fun r1 => match r1.1 with
      | .ret => finish P false fn [] (.ret, r1.2)
      | .norm => match r1.2.fr.get tb with
        | .own o ver n => match r1.2.H.get o with
          | some (.arr e s v es) => if v = ver then (match r1.2.fr.get tm with
            | .d m => codeK P cfg ic lp fn.ntmps (seqs xs2 .skip) ⟨(tb, .d (.list (es.take n))) :: r1.2.fr, (o, .frz e s v es) :: r1.2.H⟩ fun r2 => match r2.1 with
              | .ret => finish P false fn [] (.ret, r2.2)
              | .norm => codeK P cfg ic lp fn.ntmps rest ⟨[(tb, .own o 0 n), (tm, .d m)], [(o, .arr e s 0 es)]⟩ fun r3 => match r3.1 with
                | .ret => finish P false fn [] (.ret, r3.2)
                | _ => none
              | _ => none
            | _ => none) else none
          | _ => none
        | _ => none
      | _ => none
    else none
theorem thawK_eq {P : Program} {cfg : Cfg} {ic : Ic} {fn : Func} {f lf : Nat} {xs1 xs2 : List Code} {rest : Code} {tb tm : Nat} {args : List AV} {lp : LP} (hl : lp = lpOf P cfg ic fn.ntmps f lf []) :
    thawDef P cfg ic fn f lf xs1 xs2 rest tb tm args [] = thawK P cfg ic lp fn xs1 xs2 rest tb tm args := by
  subst hl
  simp only [thawDef, thawK, codeK_eq]
theorem thaw_ok {P : Program} {cfg : Cfg} {ic : Ic} (hic : IcOk P ic) {fn : Func} {f lf : Nat} {xs1 xs2 : List Code} {rest : Code} {tb tm : Nat} (hf : P.funcs[f]? = some fn) (hb : fn.body = some (seqs xs1 (seqs xs2 rest)))
    (hfl : xs2.all flat = true) (hfr : xs2.all (freeC [tb, tm]) = true) (hne : tb ≠ tm) : FnOk P f (thawDef P cfg ic fn f lf xs1 xs2 rest tb tm) := by
  intro args H res H' h E vs I hH hargs
  unfold thawDef at h
  split at h
  rotate_left
  · cases h
  split at h
  rotate_left
  · cases h
  rename_i hle
  simp only [Option.bind_eq_some_iff] at h
  obtain ⟨⟨fx1, s1⟩, hr1, h⟩ := h
  have hl := hargs.1
  have R : SR fn.ntmps [] E { tmps := vs.toArray ++ Array.replicate (fn.ntmps - vs.toArray.size) undef, defers := [] } ⟨frOf 0 args, []⟩ := by
    refine ⟨⟨fun t => ?_⟩, by simp; omega, rfl, hH, I⟩
    simp only [frOf_get, Nat.zero_le, if_true, Nat.sub_zero]
    by_cases ht : t < args.length
    · have hv : vs[t]? = some vs[t] := List.getElem?_eq_getElem (by omega)
      have ha : args[t]? = some args[t] := List.getElem?_eq_getElem ht
      rw [ha]
      simp only [Option.getD_some]
      rw [Array.getD_eq_getD_getElem?, Array.getElem?_append_left (by simp; omega)]
      simp only [List.getElem?_toArray, hv, Option.getD_some]
      exact hargs.2 t _ _ hv ha
    · rw [List.getElem?_eq_none (by omega)]
      exact .undef _
  have retd : ∀ (E' : En) (a' : Act) (st' : St), SR fn.ntmps [] E' a' st' → Step E E' → finish P false fn [] (.ret, st') = some (res, H') →
      a'.defers = [] ∧ ∃ v, (results fn a'.tmps).run P E'.w = .ok v E'.w ∧ ∃ E2, E2.w = E'.w ∧ Inv E2 ∧ E2.H = H' ∧ Step E E2 ∧ ROk E2 (.returned v) res ∧ Pin (fun _ => True) E E2 := fun E' a' st' R' S' hfin => ⟨R'.df, finRet hH I R' S' hfin⟩
  refine calls_of_wp hf hb (spine_ok hic xs1 E _ _ fx1 s1 R hr1 (fun hn E1 a1 R1 S1 => ?_) (fun e a' w' hn hp => ?_))
  · subst hn
    simp only [] at h
    split at h <;> try cases h
    rename_i o ver n hob
    split at h <;> try cases h
    rename_i e s v es hg
    split at h <;> try cases h
    rename_i hv
    subst hv
    split at h <;> try cases h
    rename_i m hm
    simp only [Option.bind_eq_some_iff] at h
    obtain ⟨⟨fx2, s2⟩, hr2, h⟩ := h
    have I1 := R1.I
    have hg1 : E1.H.get o = some (.arr e s v es) := by rw [R1.H]; exact hg
    have hvb := R1.fr.rv tb
    rw [hob] at hvb
    have hvm := R1.fr.rv tm
    rw [hm] at hvm
    obtain ⟨I1f, S1f, F1f⟩ := frz_ok I1 o e s v es hg1
    have hrep := own_rep I1f (hvb.mono F1f) (Hp.get_same _ _ _)
    have R1f : SR fn.ntmps [] ⟨E1.w, fun b => E1.S b ∨ b = (E1.φ o).1, E1.φ, (o, .frz e s v es) :: E1.H⟩ a1 ⟨(tb, .d (.list (es.take n))) :: s1.fr, (o, .frz e s v es) :: s1.H⟩ := by
      refine ⟨⟨fun t => ?_⟩, R1.sz, R1.df, by show _ :: E1.H = _ :: s1.H; rw [R1.H], I1f⟩
      rw [Fr.get_cons]
      split
      · rename_i ht; subst ht; exact .d _ _ hrep
      · exact (R1.fr.rv t).mono F1f
    have hblkS : ¬ E1.S (E1.φ o).1 := I1.free o _ hg1 rfl
    have hblk : (E1.φ o).1 < E1.w.heap.size := (I1.obj o _ hg1).lt
    refine spineG_ok (ts := [tb, tm]) hic xs2 ⟨E1.w, fun b => E1.S b ∨ b = (E1.φ o).1, E1.φ, (o, .frz e s v es) :: E1.H⟩ a1 _ fx2 s2 hfl hfr R1f hr2 (fun hn E2 a2 R2 S2 F2 hk => ?_) (fun e a' w' hn hp => ?_)
    · subst hn
      simp only [Option.bind_eq_some_iff] at h
      obtain ⟨⟨fx3, s3⟩, hr3, h⟩ := h
      have st2 := S2.st I1f
      have hb2 : E2.w.heap[(E1.φ o).1]? = E1.w.heap[(E1.φ o).1]? := (st2 _ (.inr rfl)).2
      have hS2 : ∀ b, E1.S b → E1.S b ∧ E2.w.heap[b]? = E1.w.heap[b]? := fun b hb => ⟨hb, (st2 b (.inl hb)).2⟩
      have SE2 : Step E E2 := (S1.trans I1 S1f).trans I1f S2
      have own3 : ∀ b, Owns ⟨E2.w, E1.S, E1.φ, [(o, .arr e s 0 es)]⟩ b → b = (E1.φ o).1 := fun b ⟨p, x, hp, hx, hbp⟩ => by
        have hp' : Hp.get [(o, AObj.arr e s 0 es)] p = some x := hp
        simp only [Hp.get] at hp'
        split at hp'
        · rename_i he; subst he; exact hbp.symm
        · cases hp'
      have get3 : ∀ p x, Hp.get [(o, AObj.arr e s 0 es)] p = some x → p = o ∧ x = .arr e s 0 es := fun p x hp => by
        simp only [Hp.get] at hp
        split at hp
        · rename_i he; injection hp with hp; exact ⟨he.symm, hp.symm⟩
        · cases hp
      have I3 : Inv ⟨E2.w, E1.S, E1.φ, [(o, .arr e s 0 es)]⟩ := by
        refine ⟨fun p x hp => ?_, fun p q x y hp hq _ _ _ => ?_, fun p x hp _ => ?_, fun b hb => ?_⟩
        · obtain ⟨rfl, rfl⟩ := get3 p x hp
          obtain ⟨c, b1, b2, b3, b4, b5, b6⟩ := I1.obj p _ hg1
          refine ⟨c, by show E2.w.heap[(E1.φ p).1]? = _; rw [hb2]; exact b1, b2, b3, b4, b5, fun i x j d hx hd => ?_⟩
          obtain ⟨u, hu, hu2⟩ := b6 i x j d hx hd
          exact ⟨u, hu, hu2.mono hS2⟩
        · rw [(get3 p x hp).1, (get3 q y hq).1]
        · rw [(get3 p x hp).1]; exact hblkS
        · exact Nat.lt_of_lt_of_le (I1.sin b hb) (Nat.le_trans S1f.size S2.size)
      have S3 : Step E ⟨E2.w, E1.S, E1.φ, [(o, .arr e s 0 es)]⟩ := by
        refine ⟨SE2.os, SE2.tape, SE2.output, SE2.size, SE2.keep, S1.sub, fun b hb hlt => ?_⟩
        rcases hb with hb | hb
        · exact S1.new b (.inl hb) hlt
        · have := own3 b hb
          subst this
          exact S1.new _ (.inr ⟨o, _, hg1, rfl, rfl⟩) hlt
      have R3 : SR fn.ntmps [] ⟨E2.w, E1.S, E1.φ, [(o, .arr e s 0 es)]⟩ a2 ⟨[(tb, .own o 0 n), (tm, .d m)], [(o, .arr e s 0 es)]⟩ := by
        refine ⟨⟨fun t => ?_⟩, R2.sz, R2.df, rfl, I3⟩
        rw [Fr.get_cons, Fr.get_cons]
        split
        · rename_i ht
          subst ht
          rw [hk tb (by simp)]
          generalize a1.tmps.getD tb undef = vb at *
          cases hvb with
          | own _ _ _ _ h1 ho =>
            obtain ⟨x, hgx, hx⟩ := ho
            rw [hg1] at hgx
            injection hgx with hgx
            subst hgx
            obtain ⟨e1, e2⟩ := hx.2 rfl
            exact .own _ _ _ _ h1 ⟨_, Hp.get_same _ _ _, Nat.le_refl _, fun _ => ⟨e1, e2⟩⟩
        · split
          · rename_i ht
            subst ht
            rw [hk tm (by simp)]
            exact .d _ _ ((rv_d hvm).mono hS2)
          · exact .undef _
      refine wp_mono (runCode_ok hic rest ⟨E2.w, E1.S, E1.φ, [(o, .arr e s 0 es)]⟩ a2 _ fx3 s3 R3 hr3) (fun e a' w' hp => ?_)
      obtain ⟨E4, rfl, R4, S4, P4, M4⟩ := hp
      cases fx3 with
      | ret =>
        cases e <;> try exact M4.elim
        exact retd E4 a' s3 R4 (S3.trans I3 S4) h
      | norm => cases h
      | exit i => cases h
      | pan b => cases h
    · obtain ⟨E', rfl, R', S', F', M'⟩ := hp
      cases fx2 with
      | ret =>
        cases e <;> try exact M'.elim
        exact retd E' a' s2 R' ((S1.trans I1 S1f).trans I1f S') h
      | norm => exact absurd rfl hn
      | exit i => cases h
      | pan b => cases h
  · obtain ⟨E', rfl, R', S', P', M'⟩ := hp
    cases fx1 with
    | ret =>
      cases e <;> try exact M'.elim
      exact retd E' a' s1 R' S' h
    | norm => exact absurd rfl hn
    | exit i => cases h
    | pan b => cases h
end Go.Rx
end
section
set_option linter.unusedVariables false
set_option linter.unusedSimpArgs false
namespace Go.Rx
open Go Go.RowKit Go.Sort Go.Proofs
def sL (l : List (List UInt8)) : List (List D) := l.map fun s => [.str s]
def textsOf : List (List D) → Option (List (List UInt8))
  | [] => some []
  | [.str s] :: r => (textsOf r).map (s :: ·)
  | _ => none
theorem textsOf_sL : ∀ l : List (List UInt8), textsOf (sL l) = some l
  | [] => rfl
  | s :: l => by
    have := textsOf_sL l
    simp only [sL, List.map_cons] at this ⊢
    simp only [textsOf, this, Option.map_some]
theorem textsOf_eq : ∀ {es : List (List D)} {l : List (List UInt8)}, textsOf es = some l → es = sL l
  | [], l, h => by injection h with h; subst h; rfl
  | x :: r, l, h => by
    unfold textsOf at h
    split at h
    · cases ‹x :: r = []›
    · rename_i s r' he
      injection he with h1 h2
      subst h1 h2
      simp only [Option.map_eq_some_iff] at h
      obtain ⟨l', h1, rfl⟩ := h
      rw [textsOf_eq h1]; rfl
    · cases h
def sorted (l : List (List UInt8)) : List (List UInt8) := l.mergeSort fun x y => decide (x ≤ y)
def sortX (args : List AV) (H : Hp) : Option (Res × Hp) := match args, H with
  | [.nilsl], [] => some (.ret (.tuple []), [])
  | [.own (.arg 0) ver n], [(.arg 0, .arr e s v es)] =>
    if ver = v ∧ n = es.length ∧ s = 1 ∧ n < 4611686018427387904 then (textsOf es).map fun l => (.ret (.tuple []), [(.arg 0, .arr e 1 v (sL (sorted l))), (.arg 0, .arr e s v es)]) else none
  | _, _ => none
def compactX (args : List AV) (H : Hp) : Option (Res × Hp) := match args, H with
  | [.nilsl], [] => some (.ret .nilsl, [])
  | [.own (.arg 0) ver n], [(.arg 0, .arr e s v es)] =>
    if ver = v ∧ n = es.length ∧ s = 1 ∧ n < 4611686018427387904 then (textsOf es).map fun l => (.ret (.own (.arg 0) (v + 1) (Go.Lib.compact l).length), [(.arg 0, .arr e 1 (v + 1) (sL (Go.Lib.compact l))), (.arg 0, .arr e s v es)]) else none
  | _, _ => none
/-- What an own row of texts holds, cell by cell. -/
theorem row_holds {E : En} {g off : Nat} {cur : Array Value} {e : TypeId} {l : List (List UInt8)} (hb : E.w.heap[g]? = some (.cells cur e (0, 0)))
    (h : ∀ i x j d, (sL l)[i]? = some x → x[j]? = some d → ∃ v, cur[off + (i * 1 + j)]? = some v ∧ Rep E.w E.S v d) : Holds encStr E.w g off l.toArray := by
  intro j hj
  have hj' : j < l.length := by simpa using hj
  refine ⟨?_, by simp [World.frozen?, hb]⟩
  obtain ⟨v, h1, h2⟩ := h j [.str l[j]] 0 (.str l[j]) (by simp [sL, hj']) rfl
  rw [Nat.mul_one, Nat.add_zero] at h1
  simp only [World.cell?, hb]
  simp only [Option.isSome_none, Bool.false_eq_true, if_false]
  have h3 : l.toArray[j]! = l[j] := by simp [hj']
  rw [h1, h3]
  generalize l[j] = t at h2
  cases h2 with
  | str s =>
    congr 1
theorem heap_sortedO {w : World} {g off n : Nat} {os : Array Obj} {cur : Array Value} {e : TypeId} {fr : Nat × Nat} (d : Array (List UInt8)) (hb : w.heap[g]? = some (.cells cur e fr)) :
    (grow (putRow encStr (Sort.ahead w n) g off d) os).heap[g]? = some (.cells (putCells encStr off d cur) e fr) := by
  have hg : g < w.heap.size := (Array.getElem?_eq_some_iff.1 hb).1
  rw [heap_grow_old _ _ (by simpa using hg)]
  simp [putRow, mapBlock, Sort.ahead, Array.getElem?_modify, hb, onCells]
theorem grownBy_sortedO {w : World} {g off n : Nat} {os : Array Obj} (d : Array (List UInt8)) : w.grownBy (grow (putRow encStr (Sort.ahead w n) g off d) os) (some g) := by
  refine ⟨rfl, rfl, rfl, by simp, fun k hk hne => ?_⟩
  rw [heap_grow_old _ _ (by simpa using hk)]
  have : g ≠ k := fun e => hne (by rw [e])
  simp [putRow, mapBlock, Sort.ahead, Array.getElem?_modify, this]
theorem rep_enc {w : World} {S : Nat → Prop} (s : List UInt8) : Rep w S (encStr s) (.str s) := by
  have := Rep.str (w := w) (S := S) ⟨s.toArray⟩
  simpa [encStr] using this
/-- The row holds other texts now. -/
theorem row_put {E : En} (I : Inv E) {o : Nm} {e : TypeId} {s v v' n : Nat} {es : List (List D)} {l l' d : List (List UInt8)} {os : Array Obj} (hes : es = sL l) (hs : s = 1)
    (hg : E.H.get o = some (.arr e s v es)) (hd : d.length = l.length) (hl : ∃ m, l' = d.take m) (hv : v < v' ∨ v = v' ∧ l'.length = l.length) :
    ∃ E', E'.w = grow (putRow encStr (Sort.ahead E.w n) (E.φ o).1 (E.φ o).3 d.toArray) os ∧ E'.φ o = E.φ o ∧ Inv E' ∧ E'.H = (o, .arr e 1 v' (sL l')) :: E.H ∧ Step E E' ∧ Pin (fun _ => True) E E' := by
  subst hes hs
  obtain ⟨cur, hb, h2, h3, h4, h5, h6⟩ := I.obj o _ hg
  have hlen : (sL l).length = l.length := by simp [sL]
  have hlt : (E.φ o).1 < E.w.heap.size := (Array.getElem?_eq_some_iff.1 hb).1
  have hgb := grownBy_sortedO (w := E.w) (g := (E.φ o).1) (off := (E.φ o).3) (n := n) (os := os) d.toArray
  have hh := heap_sortedO (w := E.w) (g := (E.φ o).1) (off := (E.φ o).3) (n := n) (os := os) d.toArray hb
  obtain ⟨g1, g2, g3, g4, g5⟩ := hgb
  generalize grow (putRow encStr (Sort.ahead E.w n) (E.φ o).1 (E.φ o).3 d.toArray) os = w' at g1 g2 g3 g4 g5 hh ⊢
  have hll : l'.length ≤ l.length := by obtain ⟨m, rfl⟩ := hl; rw [List.length_take]; omega
  have hcomp : ∀ x, E.H.get o = some x → Compat E ⟨w', E.S, setφ E.φ o (E.φ o), (o, .arr e 1 v' (sL l')) :: E.H⟩ o x (.arr e 1 v' (sL l')) := fun x hx => by
    rw [hg] at hx
    injection hx with hx
    subst hx
    refine ⟨by omega, fun h => ⟨rfl, setφ_same _ _ _, ?_⟩⟩
    rcases hv with hv | hv
    · omega
    · simp only [sL, List.length_map]; omega
  have hp := put_ok I o (.arr e 1 v' (sL l')) (E.φ o) w' g1 g2 g3 g4 rfl (.inr ⟨_, hg, rfl, rfl⟩)
    (fun b hb1 hb2 => g5 b hb1 (fun h => hb2 (by injection h with h))) hcomp (fun _ => by
      refine ⟨putCells encStr (E.φ o).3 d.toArray cur, ?_, ?_, ?_, ?_, ?_, ?_⟩
      · show w'.heap[(setφ E.φ o (E.φ o) o).1]? = _
        rw [setφ_same]; exact hh
      · show (setφ E.φ o (E.φ o) o).3 + (setφ E.φ o (E.φ o) o).2 * 1 ≤ _
        rw [setφ_same, putCells, Array.size_mapIdx]; exact h2
      · show _ ≤ (setφ E.φ o (E.φ o) o).2
        rw [setφ_same]; simp only [sL, List.length_map] at h3 ⊢; omega
      · show (setφ E.φ o (E.φ o) o).2 ≤ _
        rw [setφ_same]; exact h4
      · intro x hx
        simp only [sL, List.mem_map] at hx
        obtain ⟨t, _, rfl⟩ := hx; rfl
      · intro i x j y hx hy
        simp only [sL, List.getElem?_map, Option.map_eq_some_iff] at hx
        obtain ⟨t, ht, rfl⟩ := hx
        match j, hy with
        | 0, hy =>
          simp at hy
          subst hy
          obtain ⟨m, rfl⟩ := hl
          have hi : i < d.length := by
            rcases Nat.lt_or_ge i d.length with h | h
            · exact h
            · rw [List.getElem?_eq_none (by rw [List.length_take]; omega)] at ht; cases ht
          have hdi : d[i]? = some t := by
            rw [List.getElem?_take] at ht
            split at ht
            · exact ht
            · cases ht
          refine ⟨encStr t, ?_, rep_enc t⟩
          have hcs : (E.φ o).3 + i < cur.size := by simp only [sL, List.length_map] at h3; omega
          have e2 := (List.getElem?_eq_some_iff.1 hdi).2
          show (putCells encStr (E.φ o).3 d.toArray cur)[(setφ E.φ o (E.φ o) o).3 + (i * 1 + 0)]? = _
          rw [setφ_same]
          simp only [putCells, Nat.mul_one, Nat.add_zero]
          simp [hcs, hi, e2])
  refine ⟨_, rfl, setφ_same _ _ _, hp.1, rfl, hp.2.1, fun p _ => ?_⟩
  have hφ : setφ E.φ o (E.φ o) p = E.φ p := by
    by_cases h : p = o
    · rw [h, setφ_same]
    · exact setφ_other _ _ h
  refine ⟨fun cs h => ?_, fun x r hx hr => ?_⟩
  · by_cases h1 : p = o
    · subst h1; rw [hg] at h; cases h
    · exact ⟨cs, by show Hp.get ((o, _) :: E.H) p = _; rw [Hp.get_other _ _ (Ne.symm h1)]; exact h, hφ⟩
  · by_cases h1 : p = o
    · subst h1
      rw [hg] at hx
      injection hx with hx
      subst hx
      injection hr with hr
      subst hr
      refine ⟨_, _, Hp.get_same _ _ _, rfl, fun h0 => ?_⟩
      have h0 : v' = 0 := h0
      refine ⟨by show v = 0; omega, rfl, hφ, ?_⟩
      rcases hv with hv | hv
      · omega
      · simp only [sL, List.length_map]; omega
    · exact ⟨x, r, by show Hp.get ((o, _) :: E.H) p = _; rw [Hp.get_other _ _ (Ne.symm h1)]; exact hx, hr, fun h => ⟨h, rfl, hφ, Nat.le_refl _⟩⟩
theorem arg1 {E : En} {vs : List Value} {a : AV} (h : ArgsOk E vs [a]) : ∃ v, vs = [v] ∧ RV E v a := by
  obtain ⟨h1, h2⟩ := h
  match vs, h1 with
  | [v], _ => exact ⟨v, rfl, h2 0 v a rfl rfl⟩
theorem own_row {E : En} {v : Value} {o : Nm} {ver n s v0 : Nat} {e : TypeId} {es : List (List D)} (h : RV E v (.own o ver n)) (hg : E.H.get o = some (.arr e s v0 es)) (hv : ver = v0) : v = E.sl o n ∧ n ≤ es.length := by
  cases h with
  | own v o ver n h1 h2 =>
    obtain ⟨x, hx, h3⟩ := h2
    rw [hg] at hx
    injection hx with hx
    subst hx
    exact h3.2 hv
theorem sort_ok {P : Program} {f : FuncId}
    (h0 : ∀ (p : Option Addr) (cap : Nat) (w : World), Calls P f #[.slice p 0 cap] w fun e w' => e = .returned (.tuple #[]) ∧ w' = w)
    (h1 : ∀ (blk off cap : Nat) (ss : List (List UInt8)) (w : World), Holds encStr w blk off ss.toArray → blk < w.heap.size → ss.length < 4611686018427387904 →
      Calls P f #[.slice (some ⟨blk, off, none⟩) ss.length cap] w fun e w' => e = .returned (.tuple #[]) ∧ ∃ n os, w' = grow (putRow encStr (Sort.ahead w n) blk off (ss.mergeSort fun x y => decide (x ≤ y)).toArray) os) : FnOk P f sortX := by
  intro args H res H' hx E vs I hH hargs
  unfold sortX at hx
  split at hx
  · injection hx with hx
    injection hx with e1 e2
    subst e1 e2
    obtain ⟨v, rfl, hr⟩ := arg1 hargs
    cases hr with
    | nilsl =>
    refine (h0 none 0 E.w).mono ?_
    rintro e w' ⟨rfl, rfl⟩
    exact ⟨E, rfl, I, hH, Step.refl E, .tuple [] [] rfl (fun i v a h _ => by cases h), Pin.refl _ E⟩
  · rename_i ver n e s v0 es
    split at hx
    · rename_i hc
      obtain ⟨c1, c2, c3, c4⟩ := hc
      simp only [Option.map_eq_some_iff] at hx
      obtain ⟨l, hl, hx⟩ := hx
      injection hx with e1 e2
      subst e1 e2
      have hes := textsOf_eq hl
      have hg : E.H.get (.arg 0) = some (.arr e s v0 es) := by rw [hH]; exact Hp.get_same _ _ _
      obtain ⟨v, rfl, hr⟩ := arg1 hargs
      obtain ⟨hv, hn⟩ := own_row hr hg c1
      obtain ⟨cur, hb, h2, h3, h4, h5, h6⟩ := I.obj _ _ hg
      have hlen : n = l.length := by rw [c2, hes]; simp [sL]
      subst c3
      have hc := h1 (E.φ (.arg 0)).1 (E.φ (.arg 0)).3 (E.φ (.arg 0)).2 l E.w (row_holds hb (by rw [← hes]; exact h6)) (Array.getElem?_eq_some_iff.1 hb).1 (by omega)
      rw [← hlen] at hc
      rw [hv]
      refine hc.mono ?_
      rintro e' w' ⟨rfl, m, os, rfl⟩
      obtain ⟨E', k1, k2, k3, k4, k5, k6⟩ := row_put (n := m) (os := os) (l' := sorted l) (d := sorted l) I hes rfl hg (List.length_mergeSort _) ⟨(sorted l).length, (List.take_length).symm⟩ (v' := v0) (.inr ⟨rfl, List.length_mergeSort _⟩)
      exact ⟨E', k1, k3, by rw [k4, hH], k5, .tuple [] [] rfl (fun i v a h _ => by cases h), k6⟩
    · cases hx
  · cases hx
theorem compact_short (zs : List (List UInt8)) : (Go.Lib.compact zs).length ≤ zs.length := by
  unfold Go.Lib.compact Go.Lib.compactUpTo
  rw [List.length_map]
  exact Nat.le_trans (List.length_filter_le _ _) (by simp)
theorem compact_ok {P : Program} {f : FuncId}
    (h0 : ∀ (p : Option Addr) (cap : Nat) (w : World), Calls P f #[.slice p 0 cap] w fun e w' => e = .returned (.slice p 0 cap) ∧ w' = w)
    (h1 : ∀ (blk off cap : Nat) (zs : List (List UInt8)) (w : World), Holds encStr w blk off zs.toArray → zs.length ≤ 9223372036854775807 → zs.length ≤ cap →
      Calls P f #[.slice (some ⟨blk, off, none⟩) zs.length cap] w fun e w' => e = .returned (.slice (some ⟨blk, off, none⟩) (Go.Lib.compact zs).length cap) ∧ ∃ q, w' = putRow encStr (Sort.ahead w q) blk off (Go.Lib.compact zs ++ List.replicate (zs.length - (Go.Lib.compact zs).length) []).toArray) : FnOk P f compactX := by
  intro args H res H' hx E vs I hH hargs
  unfold compactX at hx
  split at hx
  · injection hx with hx
    injection hx with e1 e2
    subst e1 e2
    obtain ⟨v, rfl, hr⟩ := arg1 hargs
    cases hr with
    | nilsl =>
    refine (h0 none 0 E.w).mono ?_
    rintro e w' ⟨rfl, rfl⟩
    exact ⟨E, rfl, I, hH, Step.refl E, .nilsl, Pin.refl _ E⟩
  · rename_i ver n e s v0 es
    split at hx
    · rename_i hc
      obtain ⟨c1, c2, c3, c4⟩ := hc
      simp only [Option.map_eq_some_iff] at hx
      obtain ⟨l, hl, hx⟩ := hx
      injection hx with e1 e2
      subst e1 e2
      have hes := textsOf_eq hl
      have hg : E.H.get (.arg 0) = some (.arr e s v0 es) := by rw [hH]; exact Hp.get_same _ _ _
      obtain ⟨v, rfl, hr⟩ := arg1 hargs
      obtain ⟨hv, hn⟩ := own_row hr hg c1
      obtain ⟨cur, hb, h2, h3, h4, h5, h6⟩ := I.obj _ _ hg
      have hlen : n = l.length := by rw [c2, hes]; simp [sL]
      subst c3
      have hs := compact_short l
      have hc := h1 (E.φ (.arg 0)).1 (E.φ (.arg 0)).3 (E.φ (.arg 0)).2 l E.w (row_holds hb (by rw [← hes]; exact h6)) (by omega) (by omega)
      rw [← hlen] at hc
      rw [hv]
      refine hc.mono ?_
      rintro e' w' ⟨rfl, m, rfl⟩
      have hd : (Go.Lib.compact l ++ List.replicate (n - (Go.Lib.compact l).length) []).length = l.length := by rw [List.length_append, List.length_replicate]; omega
      obtain ⟨E', k1, k2, k3, k4, k5, k6⟩ := row_put (n := m) (os := #[]) (l' := Go.Lib.compact l) (d := Go.Lib.compact l ++ List.replicate (n - (Go.Lib.compact l).length) []) I hes rfl hg hd ⟨(Go.Lib.compact l).length, by rw [List.take_left' rfl]⟩ (v' := v0 + 1) (.inl (by omega))
      rw [Go.Sort.grow_empty] at k1
      refine ⟨E', k1, k3, by rw [k4, hH], k5, ?_, k6⟩
      refine .own _ _ _ _ rfl ⟨.arr e 1 (v0 + 1) (sL (Go.Lib.compact l)), by rw [k4]; exact Hp.get_same _ _ _, Nat.le_refl _, fun _ => ⟨?_, by simp [sL]⟩⟩
      show _ = Value.slice (some ⟨(E'.φ (.arg 0)).1, (E'.φ (.arg 0)).3, none⟩) _ (E'.φ (.arg 0)).2
      rw [k2]
    · cases hx
  · cases hx
/-- A contract's result, with names as a call's end has them. -/
def fixX (g : List AV → Hp → Option (Res × Hp)) (args : List AV) (H : Hp) : Option (Res × Hp) := (g args H).bind fun r => match r.1 with
  | .ret a => (finR (H.map (·.1)) true r.2 a).map fun x => (.ret x.1, x.2)
  | .pan _ => none
theorem fix_ok {P : Program} {f : FuncId} {g : List AV → Hp → Option (Res × Hp)} (h : FnOk P f g) : FnOk P f (fixX g) := by
  intro args H res H' hx E vs I hH hargs
  unfold fixX at hx
  simp only [Option.bind_eq_some_iff] at hx
  obtain ⟨⟨r, H1⟩, hg, hx⟩ := hx
  cases r with
  | pan a => cases hx
  | ret a =>
    simp only [Option.map_eq_some_iff] at hx
    obtain ⟨x, hf, hx⟩ := hx
    injection hx with e1 e2
    subst e1 e2
    refine (h args H (.ret a) H1 hg E vs I hH hargs).mono ?_
    rintro e w' ⟨E1, k1, k2, k3, k4, k5, k6⟩
    cases e with
    | returned v =>
      rw [← k3] at hf
      obtain ⟨E2, b1, b2, b3, b4, b5, b6⟩ := finR_ok k2 k5 hf
      have P2 : Pin (PinL (H.map (·.1))) E E2 := Pin.trans (fun o _ => k6 o trivial) b5
      subst hH
      exact ⟨E2, b1.trans k1, b3, b2, k4.trans k2 b4, b6, fun o _ => ⟨fun cs hg => (P2 o (Hp.get_name hg)).1 cs hg, fun x r hg => (P2 o (Hp.get_name hg)).2 x r hg⟩⟩
    | _ => exact k5.elim
theorem fix_sort (e : TypeId) (l : List (List UInt8)) (h : l.length < 4611686018427387904) : fixX sortX [.own (.arg 0) 0 l.length] [(.arg 0, .arr e 1 0 (sL l))] = some (.ret (.tuple []), [(.arg 0, .arr e 1 0 (sL (sorted l)))]) := by
  have : sortX [.own (.arg 0) 0 l.length] [(.arg 0, .arr e 1 0 (sL l))] = some (.ret (.tuple []), [(.arg 0, .arr e 1 0 (sL (sorted l))), (.arg 0, .arr e 1 0 (sL l))]) := by
    show (if (0 : Nat) = 0 ∧ l.length = (sL l).length ∧ (1 : Nat) = 1 ∧ l.length < 4611686018427387904 then (textsOf (sL l)).map _ else none) = _
    rw [if_pos ⟨rfl, by simp [sL], rfl, h⟩, textsOf_sL]; rfl
  unfold fixX
  rw [this]; rfl
theorem fix_compact (e : TypeId) (l : List (List UInt8)) (h : l.length < 4611686018427387904) : fixX compactX [.own (.arg 0) 0 l.length] [(.arg 0, .arr e 1 0 (sL l))] = some (.ret (.own (.arg 0) 1 (Go.Lib.compact l).length), [(.arg 0, .arr e 1 1 (sL (Go.Lib.compact l)))]) := by
  have : compactX [.own (.arg 0) 0 l.length] [(.arg 0, .arr e 1 0 (sL l))] = some (.ret (.own (.arg 0) 1 (Go.Lib.compact l).length), [(.arg 0, .arr e 1 1 (sL (Go.Lib.compact l))), (.arg 0, .arr e 1 0 (sL l))]) := by
    show (if (0 : Nat) = 0 ∧ l.length = (sL l).length ∧ (1 : Nat) = 1 ∧ l.length < 4611686018427387904 then (textsOf (sL l)).map _ else none) = _
    rw [if_pos ⟨rfl, by simp [sL], rfl, h⟩, textsOf_sL]; rfl
  unfold fixX
  rw [this]; rfl
theorem icall_ext {P : Program} {cfg : Cfg} {f : FuncId} {g : List AV → Hp → Option (Res × Hp)} (hg : cfg.ext f = some g) (k : Nat) (hk : 0 < k) (args : List AV) (H : Hp) : icall P cfg k f args H = g args H := by
  obtain ⟨k, rfl⟩ : ∃ j, k = j + 1 := ⟨k - 1, by omega⟩
  simp only [icall, hg]
end Go.Rx
end
