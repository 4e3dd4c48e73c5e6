/- Rx, part 19: data that came in, and a law's call. -/
import Derived.Test.YtghiaobecppbeaaRxP
import Derived.ChangeArms
import Derived.ChangeShapes
import Derived.ChangeOld
import Derived.Carry
import Derived.KernelRfl
namespace Go.Rx
open Go Go.RowKit
set_option linter.unusedVariables false
set_option linter.unusedSimpArgs false

def fieldsR (R : TypeId → List D → Prop) : List TypeId → List D → Prop
  | [], cs => cs = []
  | t :: ts, cs => ∃ a b, cs = a ++ b ∧ R t a ∧ fieldsR R ts b
/-- Cells of a type, so deep. -/
def TD (P : Program) : Nat → TypeId → List D → Prop
  | 0 => fun _ _ => False
  | n + 1 => fun t cs => match P.underlying t with
    | some .bool => ∃ b, cs = [.bool b]
    | some (.int k) => ∃ z, cs = [.int k z] ∧ (Lit.int k z).wf = true
    | some .string => ∃ s, cs = [.str s] ∧ s.length ≤ maxLen ∧ s.length ≤ reachBytes
    | some (.slice e) => ∃ es, cs = [.list es] ∧ (es.length ≤ maxLen ∧ es.length * P.bytesOf e ≤ reachBytes) ∧ ∀ y ∈ es, TD P n e y
    | some (.struct fs) => fieldsR (TD P n) (fs.toList.map (·.type)) cs
    | _ => False

def tilesT (P : Program) : Nat → List Field → Nat → Bool
  | o, [], m => o == m
  | o, f :: fs, m => f.offset == o && tilesT P (o + P.cellsOf f.type) fs m
def closedT (P : Program) (T : List TypeId) : Bool := T.all fun t => match P.underlying t with
  | some .bool => P.cellsOf t == 1
  | some (.int _) => P.cellsOf t == 1
  | some .string => P.cellsOf t == 1
  | some (.slice e) => P.cellsOf t == 1 && (T.contains e && P.cellsOf e != 0)
  | some (.struct fs) => tilesT P 0 fs.toList (P.cellsOf t) && fs.toList.all fun f => T.contains f.type
  | _ => false

theorem add_add (a : Addr) (i j : Nat) : (a.add i).add j = a.add (i + j) := by
  obtain ⟨b, o, s⟩ := a
  unfold Addr.add
  by_cases hi : i = 0
  · subst hi; simp
  · by_cases hj : j = 0
    · subst hj; simp [hi]
    · simp [hi, hj]; omega
theorem cells_read {w : World} {a : Addr} : ∀ {n : Nat} {cs : List Value}, w.cells? 0 a n = some cs → cs.length = n ∧ ∀ i u, cs[i]? = some u → w.cell? (a.add i) = some u := by
  intro n cs h
  unfold World.cells? at h
  split at h
  · have hl := mapM_some_length h
    rw [List.length_range] at hl
    refine ⟨hl, fun i u hu => ?_⟩
    have hi : i < n := by have := (List.getElem?_eq_some_iff.1 hu).1; omega
    have := mapM_some_get h i i (by rw [List.getElem?_range hi])
    rw [hu] at this
    exact this
  · cases h

theorem choose_list {α : Type} (Q : Nat → α → Prop) : ∀ n, (∀ i, i < n → ∃ y, Q i y) → ∃ ys : List α, ys.length = n ∧ ∀ i y, ys[i]? = some y → Q i y
  | 0, _ => ⟨[], rfl, fun i y h => by simp at h⟩
  | n + 1, h => by
    obtain ⟨ys, hl, hq⟩ := choose_list Q n (fun i hi => h i (by omega))
    obtain ⟨y, hy⟩ := h n (by omega)
    refine ⟨ys ++ [y], by rw [List.length_append, hl]; rfl, fun i z hz => ?_⟩
    by_cases hi : i < n
    · rw [List.getElem?_append_left (by omega)] at hz
      exact hq i z hz
    · rw [List.getElem?_append_right (by omega), hl] at hz
      have hin : i = n := by
        apply Decidable.byContradiction
        intro h2
        rw [List.getElem?_eq_none (by simp; omega)] at hz
        cases hz
      subst hin
      rw [Nat.sub_self] at hz
      injection hz with hz
      exact hz ▸ hy

/-- The cells read as these data. -/
def Reads (w : World) (cs : List Value) (ds : List D) : Prop := ds.length = cs.length ∧ ∀ (i : Nat) (v : Value) (d : D), cs[i]? = some v → ds[i]? = some d → v.oneCell' = true ∧ Rep w (· < w.heap.size) v d

theorem reads_one {w : World} {v : Value} {d : D} (h1 : v.oneCell' = true) (h : Rep w (· < w.heap.size) v d) : Reads w [v] [d] := ⟨rfl, fun i u x hu hx => by
  cases i with
  | zero => simp at hu hx; subst hu hx; exact ⟨h1, h⟩
  | succ i => simp at hu⟩

section
variable {H : Type} {enc : TypeId × Value → H} {P : Program} {w : World} {n : Nat} {t : TypeId} {cs : List Value} {x : DataW H × List MemPlace}
theorem trod_bool (hu : P.underlying t = some .bool) (h : DataW.trod enc P w 0 (fun _ => true) true (n + 1) t cs = some x) : ∃ b, cs = [.bool b] := by
  unfold DataW.trod at h
  rw [hu] at h
  split at h <;> simp_all
theorem trod_int {k : IntKind} (hu : P.underlying t = some (.int k)) (h : DataW.trod enc P w 0 (fun _ => true) true (n + 1) t cs = some x) : ∃ z, cs = [.int k z] ∧ (Lit.int k z).wf = true := by
  unfold DataW.trod at h
  rw [hu] at h
  split at h <;> simp_all
theorem trod_string (hu : P.underlying t = some .string) (h : DataW.trod enc P w 0 (fun _ => true) true (n + 1) t cs = some x) : ∃ s, cs = [.string s] ∧ s.size ≤ maxLen ∧ x.1 = .lit (.string s.data.toList) := by
  unfold DataW.trod at h
  rw [hu] at h
  split at h <;> simp_all
  rw [← h.2]
end
theorem trod_rep {H : Type} {enc : TypeId × Value → H} {P : Program} {w : World} {T : List TypeId} (hT : closedT P T = true) : ∀ (n : Nat) (t : TypeId) (cs : List Value) (x : DataW H × List MemPlace), t ∈ T →
    DataW.trod enc P w 0 (fun _ => true) true n t cs = some x → (∀ z ∈ x.1.weights P t, z ≤ reachBytes) → cs.length = P.cellsOf t ∧ ∃ ds, Reads w cs ds ∧ TD P n t ds
  | 0, t, cs, x, ht, h, hwt => by simp [DataW.trod] at h
  | n + 1, t, cs, x, ht, h, hwt => by
    have hc := hT
    simp only [closedT, List.all_eq_true] at hc
    have hc := hc t ht
    cases hu : P.underlying t with
    | none => rw [hu] at hc; cases hc
    | some u =>
      rw [hu] at hc
      cases u <;> simp only [] at hc <;> try cases hc
      case bool =>
        obtain ⟨b, rfl⟩ := trod_bool hu h
        exact ⟨(by have h1 : P.cellsOf t = 1 := by simpa using hc
                   simp [h1]), _, reads_one rfl (.bool b), by simp only [TD, hu]; exact ⟨b, rfl⟩⟩
      case int k =>
        obtain ⟨z, rfl, hz⟩ := trod_int hu h
        exact ⟨(by have h1 : P.cellsOf t = 1 := by simpa using hc
                   simp [h1]), _, reads_one rfl (.int k z), by simp only [TD, hu]; exact ⟨z, rfl, hz⟩⟩
      case string =>
        obtain ⟨s, rfl, hs, hx⟩ := trod_string hu h
        rw [hx] at hwt
        exact ⟨(by have h1 : P.cellsOf t = 1 := by simpa using hc
                   simp [h1]), _, reads_one rfl (.str s), by simp only [TD, hu]; exact ⟨_, rfl, hs, hwt _ (by simp [DataW.weights])⟩⟩
      case slice e =>
        simp only [Bool.and_eq_true, beq_iff_eq] at hc
        have hce : e ∈ T := by simpa using hc.2.1
        have hpos : P.cellsOf e ≠ 0 := by simpa using hc.2.2
        rcases DataW.trod_slice hu h with ⟨rfl, _⟩ | ⟨a, len, cap, elems, rest, m, hm, rfl, rfl, hb, hl, hmax, hlen, hel, hsp, hns⟩
        · refine ⟨by simpa using hc.1.symm, _, reads_one rfl (.empty none 0 (by unfold maxLen; omega)), ?_⟩
          simp only [TD, hu]
          exact ⟨[], rfl, by simp, fun y hy => by cases hy⟩
        · obtain rfl : m = n := by omega
          simp only [DataW.weights, hu] at hwt
          refine ⟨by simpa using hc.1.symm, ?_⟩
          have each : ∀ i, i < len → ∃ y : List D, y.length = P.cellsOf e ∧ TD P m e y ∧ ∀ j d, y[j]? = some d → ∃ u, w.cell? (a.add (i * P.cellsOf e + j)) = some u ∧ Rep w (· < w.heap.size) u d := by
            intro i hi
            have h1 := hel i hi
            have h2 : elems[i]? = some elems[i] := List.getElem?_eq_getElem (by omega)
            rw [h2, Option.bind_eq_some_iff] at h1
            obtain ⟨c, hcells, htr⟩ := h1
            obtain ⟨hcl, hcc⟩ := cells_read hcells
            have hall : ∀ (l : List (DataW H)) (d : DataW H), d ∈ l → ∀ z ∈ d.weights P e, z ∈ DataW.weightsAll P e l := fun l => by
              induction l with
              | nil => intro d hd; cases hd
              | cons a l ih =>
                intro d hd z hz
                simp only [DataW.weightsAll, List.mem_append]
                rcases List.mem_cons.1 hd with rfl | hd
                · exact .inl hz
                · exact .inr (ih d hd z hz)
            obtain ⟨k1, y, ⟨r1, r2⟩, hTD⟩ := trod_rep hT m e c _ hce htr (fun z hz => hwt z (by
              simp only [List.mem_cons, List.mem_append]
              exact .inr (.inl (hall _ elems[i].1 (List.mem_map_of_mem (List.getElem_mem _)) z hz))))
            refine ⟨y, by rw [r1, hcl], hTD, fun j d hd => ?_⟩
            have hj : j < c.length := by have := (List.getElem?_eq_some_iff.1 hd).1; omega
            have hcj := List.getElem?_eq_getElem hj
            have := hcc j _ hcj
            rw [add_add] at this
            exact ⟨_, this, (r2 j _ d hcj hd).2⟩
          obtain ⟨ys, hyl, hys⟩ := choose_list _ len each
          refine ⟨[.list ys], reads_one rfl ?_, by simp only [TD, hu]; exact ⟨ys, rfl, ⟨by omega, by
              have hz := hwt _ (List.mem_cons_self ..)
              rw [List.length_map, hlen, Nat.add_mul] at hz
              rw [hyl]; exact Nat.le_trans (Nat.le_add_right _ _) hz⟩, fun y hy => by
            obtain ⟨j, hj, rfl⟩ := List.getElem_of_mem hy
            exact (hys j _ (List.getElem?_eq_getElem hj)).2.1⟩⟩
          have plain : (len = 0 ∨ P.cellsOf e = 0) ∨ (a.spot = none ∧ a.block < w.heap.size) := by
            rcases Nat.eq_zero_or_pos len with h0 | h0
            · exact .inl (.inl h0)
            · rcases Nat.eq_zero_or_pos (P.cellsOf e) with h1 | h1
              · exact .inl (.inr h1)
              · refine .inr ?_
                have hy0 : ys[0]? = some ys[0] := List.getElem?_eq_getElem (by omega)
                obtain ⟨q1, q2, q3⟩ := hys 0 _ hy0
                obtain ⟨u, hu1, _⟩ := q3 0 _ (List.getElem?_eq_getElem (by omega))
                simp only [Nat.zero_mul, Nat.add_zero, Addr.add_zero'] at hu1
                unfold World.cell? at hu1
                split at hu1
                · rename_i c el fz hheap
                  refine ⟨?_, (Array.getElem?_eq_some_iff.1 hheap).1⟩
                  cases hs : a.spot with
                  | none => rfl
                  | some z => rw [hs] at hu1; simp at hu1
                · cases hu1
          have hlt : ∀ i y (j : Nat) d, ys[i]? = some y → y[j]? = some d → 0 < len ∧ 0 < P.cellsOf e := fun i y j d hy hd => by
            have h1 := (List.getElem?_eq_some_iff.1 hy).1
            have h2 := (List.getElem?_eq_some_iff.1 hd).1
            have h3 := (hys i y hy).1
            omega
          rcases Nat.eq_zero_or_pos len with h0 | h0
          · have : ys = [] := List.eq_nil_of_length_eq_zero (by omega)
            subst this
            rw [h0]
            exact .empty _ _ hmax
          · by_cases hz : P.cellsOf e = 0
            · -- cells of no width: nothing is read
              exact absurd hz hpos
            · obtain ⟨hsp, hblk⟩ : a.spot = none ∧ a.block < w.heap.size := by
                rcases plain with (h | h) | h
                · omega
                · exact absurd h hz
                · exact h
              obtain ⟨b, off, spot⟩ := a
              simp only [] at hsp hblk
              subst hsp
              have key := Rep.list (w := w) (S := (· < w.heap.size)) b off cap (P.cellsOf e) ys (fun i j => (w.cell? ⟨b, off + (i * P.cellsOf e + j), none⟩).getD undef) hblk (by omega) hmax (fun y hy => by
                obtain ⟨j, hj, rfl⟩ := List.getElem_of_mem hy
                exact (hys j _ (List.getElem?_eq_getElem hj)).1)
                (fun i y j d hy hd => by
                  obtain ⟨u, hu1, hu2⟩ := (hys i y hy).2.2 j d hd
                  rw [Addr.add_lit] at hu1
                  rw [hu1]; rfl)
                (fun i y j d hy hd => by
                  obtain ⟨u, hu1, hu2⟩ := (hys i y hy).2.2 j d hd
                  rw [Addr.add_lit] at hu1
                  rw [hu1]; exact hu2)
              rw [hyl] at key
              exact key
      case struct fs =>
        simp only [Bool.and_eq_true, List.all_eq_true] at hc
        obtain ⟨htl, hmem⟩ := hc
        unfold DataW.trod at h
        rw [hu] at h
        simp only [] at h
        split at h
        · rename_i hlen
          refine ⟨hlen, ?_⟩
          rw [Option.map_eq_some_iff] at h
          obtain ⟨xs, hxs, hxe⟩ := h
          rw [← hxe] at hwt
          simp only [DataW.weights, hu] at hwt
          have key : ∀ (l : List Field) (o : Nat) (ys : List (DataW H × List MemPlace)), (∀ f ∈ l, f.type ∈ T) → tilesT P o l (P.cellsOf t) = true → o ≤ cs.length →
              (∀ z ∈ DataW.weightsEach P (l.map (·.type)) (ys.map (·.1)), z ≤ reachBytes) → l.mapM (fun f => DataW.trod enc P w 0 (fun _ => true) true n f.type ((cs.drop f.offset).take (P.cellsOf f.type))) = some ys → ∃ ds, Reads w (cs.drop o) ds ∧ fieldsR (TD P n) (l.map (·.type)) ds := fun l => by
            induction l with
            | nil =>
              intro o ys _ htl _ _ _
              simp only [tilesT, beq_iff_eq] at htl
              refine ⟨[], ⟨by simp; omega, fun i v d hv hd => by simp at hd⟩, rfl⟩
            | cons f l ih =>
              intro o ys hm htl ho hwy hys
              simp only [tilesT, Bool.and_eq_true, beq_iff_eq] at htl
              obtain ⟨hoff, htl⟩ := htl
              simp only [List.mapM_cons, Option.bind_eq_bind, Option.bind_eq_some_iff] at hys
              obtain ⟨y, hy, zs, hzs, hye⟩ := hys
              obtain rfl : y :: zs = ys := by simpa using hye
              simp only [List.map_cons, DataW.weightsEach, List.mem_append] at hwy
              obtain ⟨l1, d1, ⟨r1, r2⟩, hTD⟩ := trod_rep hT n f.type _ y (hm f (by simp)) hy (fun z hz => hwy z (.inl hz))
              rw [hoff] at l1 r1 r2
              have hle : o + P.cellsOf f.type ≤ cs.length := by simp at l1; omega
              obtain ⟨d2, ⟨q1, q2⟩, hR⟩ := ih (o + P.cellsOf f.type) zs (fun g hg => hm g (by simp [hg])) htl hle (fun z hz => hwy z (.inr hz)) hzs
              refine ⟨d1 ++ d2, ⟨by simp [r1, q1]; omega, fun i v d hv hd => ?_⟩, ⟨d1, d2, rfl, hTD, hR⟩⟩
              have hd1 : d1.length = P.cellsOf f.type := by rw [r1]; simp; omega
              by_cases hi : i < d1.length
              · rw [List.getElem?_append_left hi] at hd
                exact r2 i v d (by rw [List.getElem?_take, if_pos (by omega)]; exact hv) hd
              · rw [List.getElem?_append_right (by omega)] at hd
                refine q2 (i - d1.length) v d ?_ hd
                rw [List.getElem?_drop] at hv ⊢
                rw [hd1, show o + P.cellsOf f.type + (i - P.cellsOf f.type) = o + i by omega]
                exact hv
          obtain ⟨ds, hr, hf⟩ := key fs.toList 0 xs (fun f hf => by have := hmem f hf; simpa using this) htl (by omega) hwt hxs
          exact ⟨ds, by simpa using hr, by simp only [TD, hu]; exact hf⟩
        · cases h

/-- An argument of a type. -/
def argAV (P : Program) (t : TypeId) (ds : List D) : AV :=
  match aggT P t with
  | some true => .agg (ds.map .d)
  | _ => match ds with
    | [d] => .d d
    | _ => .undef

/-- The world as it stands when a law is called: nothing is the call's own. -/
def En0 (w : World) : En := ⟨w, (· < w.heap.size), fun _ => (0, 0), []⟩
theorem inv0 (w : World) : Inv (En0 w) := ⟨fun o x h => (by cases h), fun o o' x x' h => (by cases h), fun o x h => (by cases h), fun b h => h⟩

theorem cell_one {P : Program} {w : World} {base : Nat} {t : TypeId} {v : Value} {c : Value} (hg : aggT P t = some false) (hv : Value.okWide P w .any base t v) (hc : v.cells.toList = [c]) (h1 : c.oneCell' = true) : v = c := by
  cases v with
  | agg cs =>
    exfalso
    unfold Value.okWide at hv
    unfold aggT at hg
    split at hg
    · cases hg
    · injection hg with hg; cases hg
    · injection hg with hg; cases hg
    · rename_i d h2 h3 hu
      rw [hu] at hv
      cases d <;> first
        | (exact h2 _ rfl)
        | (exact h3 _ _ rfl)
        | (simp [Cell.okWide, Cell.ok, hu] at hv; done)
  | _ => simpa [Value.cells] using hc

theorem args_ok {H : Type} {enc : TypeId × Value → H} {P : Program} {W : World} {T : List TypeId} (hT : closedT P T = true) {base : Nat} : ∀ (ts : List TypeId) (vs : List Value) (ds : List (DataW H)) (ps : List MemPlace),
    (∀ t ∈ ts, t ∈ T) → (∀ (j : Nat) (t : TypeId) (v : Value), ts[j]? = some t → vs[j]? = some v → Value.okWide P W .any base t v) → DataW.TrodAll enc P W 0 (fun _ => true) true ts vs ds ps → (∀ z ∈ DataW.weightsEach P ts ds, z ≤ reachBytes) →
    ∃ dss : List (List D), dss.length = ts.length ∧ (∀ (j : Nat) (t : TypeId) (d : List D), ts[j]? = some t → dss[j]? = some d → ∃ n, TD P n t d) ∧ ArgsOk (En0 W) vs (List.zipWith (argAV P) ts dss)
  | [], vs, ds, ps, _, _, h, _ => by
    obtain ⟨rfl, _, _⟩ := Go.ChangeShapes.trodAll_nil h
    exact ⟨[], rfl, fun j t d h => by simp at h, rfl, fun i v a hv => by simp at hv⟩
  | t :: ts, vs, ds, ps, hm, hval, h, hwt => by
    obtain ⟨v, vs', d, ds', p, q, rfl, rfl, rfl, ⟨fuel, hf⟩, h2⟩ := Go.ChangeShapes.trodAll_cons h
    simp only [DataW.weightsEach, List.mem_append] at hwt
    obtain ⟨dss, e1, e2, e3, e4⟩ := args_ok hT ts vs' ds' q (fun t ht => hm t (by simp [ht])) (fun j t v ht hv => hval (j + 1) t v (by simpa using ht) (by simpa using hv)) h2 (fun z hz => hwt z (.inr hz))
    obtain ⟨l1, dd, ⟨r1, r2⟩, hTD⟩ := trod_rep hT fuel t v.cells.toList _ (hm t (by simp)) hf (fun z hz => hwt z (.inl hz))
    have hv := hval 0 t v rfl rfl
    refine ⟨dd :: dss, by simp [e1], fun j t' d' ht' hd' => ?_, by simp [e3], fun i u b hu hb => ?_⟩
    · cases j with
      | zero => simp at ht' hd'; subst ht' hd'; exact ⟨_, hTD⟩
      | succ j => exact e2 j t' d' (by simpa using ht') (by simpa using hd')
    · cases i with
      | succ i => exact e4 i u b (by simpa using hu) (by simpa using hb)
      | zero =>
        simp only [List.getElem?_cons_zero, List.zipWith_cons_cons] at hu hb
        injection hu with hu
        injection hb with hb
        subst hu hb
        unfold argAV
        split
        · rename_i hg
          have hagg : ∃ cs, v = .agg cs := by
            unfold Value.okWide at hv
            unfold aggT at hg
            split at hg
            · cases hg
            · rename_i hu; rw [hu] at hv; obtain ⟨cs, h, _⟩ := hv; exact ⟨cs, h⟩
            · rename_i hu; rw [hu] at hv; obtain ⟨cs, h, _⟩ := hv; exact ⟨cs, h⟩
            · injection hg with hg; cases hg
          obtain ⟨cs, rfl⟩ := hagg
          have e : cs = cs.toList.toArray := by simp
          rw [e]
          refine .agg _ _ (by simp; simp [Value.cells] at r1; omega) (fun c hc => ?_) (fun i c a hc ha => ?_)
          · obtain ⟨i, hi⟩ := List.mem_iff_getElem?.1 hc
            have hlt := (List.getElem?_eq_some_iff.1 hi).1
            have hd := List.getElem?_eq_getElem (l := dd) (i := i) (by simp [Value.cells] at r1 hlt ⊢; omega)
            exact (r2 i c _ hi hd).1
          · rw [List.getElem?_map, Option.map_eq_some_iff] at ha
            obtain ⟨d', hd', rfl⟩ := ha
            exact .d _ _ (r2 i c d' hc hd').2
        · rename_i hg
          split
          · rename_i d'
            have hl : v.cells.toList.length = 1 := by rw [← r1]; rfl
            obtain ⟨c, hc⟩ : ∃ c, v.cells.toList = [c] := by
              match hq : v.cells.toList, hl with
              | [c], _ => exact ⟨c, rfl⟩
            have hr := r2 0 c d' (by rw [hc]; rfl) rfl
            have hgf : aggT P t = some false := by
              have hcl := hT
              simp only [closedT, List.all_eq_true] at hcl
              have hcl := hcl t (hm t (by simp))
              cases hu : P.underlying t with
              | none => rw [hu] at hcl; cases hcl
              | some u =>
                cases hgg : aggT P t with
                | none => unfold aggT at hgg; rw [hu] at hgg; cases u <;> cases hgg
                | some b =>
                  cases b with
                  | false => rfl
                  | true => exact absurd hgg hg
            have := cell_one hgf hv hc hr.1
            subst this
            exact .d _ _ hr.2
          · exact .undef _

theorem law_calls {H : Type} {enc : TypeId × Value → H} {P : Program} {cfg : Cfg} (hext : ExtOk P cfg) {f : FuncId} {ts : List TypeId} {T : List TypeId} (hT : closedT P T = true) (hts : ∀ t ∈ ts, t ∈ T) {W : World} {base : Nat} {args : Array Value} {ds : List (DataW H)} {ps : List MemPlace}
    (hA : DataW.TrodAll enc P W 0 (fun _ => true) true ts args.toList ds ps) (hval : ∀ (j : Nat) (t : TypeId) (v : Value), ts[j]? = some t → args.toList[j]? = some v → Value.okWide P W .any base t v)
    (hwt : (DataW.weightsEach P ts ds).all (· ≤ reachBytes) = true)
    (hrun : ∀ dss : List (List D), dss.length = ts.length → (∀ (j : Nat) (t : TypeId) (d : List D), ts[j]? = some t → dss[j]? = some d → ∃ n, TD P n t d) → ∃ k H', icall P cfg k f (List.zipWith (argAV P) ts dss) [] = some (.ret (.d (.bool true)), H')) :
    Calls P f args W fun e W' => e = .returned (.bool true) ∧ Below W.heap.size W W' := by
  obtain ⟨dss, e1, e2, e3⟩ := args_ok hT ts args.toList ds ps hts hval hA (fun z hz => by simpa using List.all_eq_true.1 hwt z hz)
  obtain ⟨k, H', hk⟩ := hrun dss e1 e2
  have := icall_ok hext k f _ _ _ _ hk (En0 W) args.toList (inv0 W) rfl e3
  rw [show args.toList.toArray = args by simp] at this
  refine Calls.mono this ?_
  rintro e W' ⟨E', rfl, I', _, S', hres, _⟩
  cases e with
  | returned v => exact ⟨by rw [rep_bool (rv_d hres)], ⟨S'.os, S'.tape, S'.output, S'.size, fun k hk => S'.keep k hk (fun ⟨o, x, hx, _⟩ => by cases hx)⟩⟩
  | panicked c => exact hres.elim
  | outgrown => exact hres.elim
end Go.Rx
