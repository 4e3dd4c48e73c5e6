/- Rx, part 9: literals, makes, slices, conversions. -/
import Derived.Test.YtghiaobecppbeaaRxH
namespace Go.Rx
open Go Go.RowKit
set_option linter.unusedVariables false
set_option linter.unusedSimpArgs false

def afill (place : Nat → Option (Nat × Nat)) (cells : List AV) : List (Nat × AV) → Option (List AV)
  | [] => some cells
  | (i, v) :: rest => (place i).bind fun p => (cellsOf v).bind fun cs => if cs.length = p.2 ∧ p.1 + cs.length ≤ cells.length then afill place (splice cells p.1 cs) rest else none

theorem foldl_splice (c : List Value) : ∀ (j off : Nat) (arr : Array Value), off + j + c.length ≤ arr.size →
    ((c.zipIdx j).foldl (fun cs (x : Value × Nat) => cs.setIfInBounds (off + x.2) x.1) arr).toList = splice arr.toList (off + j) c := by
  induction c with
  | nil => intro j off arr h; simp [splice]
  | cons v c ih =>
    intro j off arr h
    simp only [List.zipIdx_cons, List.foldl_cons]
    rw [ih (j + 1) off _ (by simp at h ⊢; omega)]
    apply List.ext_getElem?
    intro k
    rw [splice_get _ _ _ (by simp at h ⊢; omega), splice_get _ _ _ (by simp at h ⊢; omega)]
    by_cases h1 : off + (j + 1) ≤ k ∧ k < off + (j + 1) + c.length
    · rw [if_pos h1, if_pos ⟨by omega, by simp; omega⟩, show k - (off + j) = (k - (off + (j + 1))) + 1 by omega, List.getElem?_cons_succ]
    · rw [if_neg h1]
      by_cases h2 : off + j = k
      · subst h2
        rw [if_pos ⟨by omega, by simp⟩, Nat.sub_self, Array.toList_setIfInBounds, List.getElem?_set_self (by simp at h ⊢; omega)]
        rfl
      · rw [if_neg (by simp; omega)]
        simp [h2]

theorem fill_ok {E : En} {place : Nat → Option (Nat × Nat)} : ∀ (parts : List (Nat × AV)) (vparts : List (Nat × Value)) (cells : List AV) (cs : Array Value) (out : List AV),
    vparts.length = parts.length → (∀ (k : Nat) (i j : Nat) (v : Value) (a : AV), vparts[k]? = some (i, v) → parts[k]? = some (j, a) → i = j ∧ RV E v a) →
    cs.size = cells.length → (∀ (k : Nat) (v : Value), cs[k]? = some v → v.oneCell' = true) → (∀ (k : Nat) (v : Value) (a : AV), cs[k]? = some v → cells[k]? = some a → RV E v a) →
    afill place cells parts = some out → ∃ r : Array Value, Instr.fill place cs vparts = some r ∧ r.size = out.length ∧ (∀ (k : Nat) (v : Value), r[k]? = some v → v.oneCell' = true) ∧ (∀ (k : Nat) (v : Value) (a : AV), r[k]? = some v → out[k]? = some a → RV E v a)
  | [], vparts, cells, cs, out, hl, hp, hs, h1, hr, h => by
    injection h with h; subst h
    obtain rfl : vparts = [] := List.eq_nil_of_length_eq_zero hl
    exact ⟨cs, rfl, hs, h1, hr⟩
  | (i, a) :: parts, vparts, cells, cs, out, hl, hp, hs, h1, hr, h => by
    cases vparts with
    | nil => simp at hl
    | cons iv vparts =>
      obtain ⟨i', v⟩ := iv
      obtain ⟨rfl, hva⟩ := hp 0 i' i v a rfl rfl
      simp only [afill, Option.bind_eq_some_iff] at h
      obtain ⟨⟨off, sz⟩, hpl, c, hc, h⟩ := h
      split at h
      · rename_i hh
        obtain ⟨hh1, hh2⟩ := hh
        simp only [] at hh1 hh2
        obtain ⟨cv, e1, e2, e3, e4⟩ := cells_rv hva hc
        have hle : off + 0 + cv.length ≤ cs.size := by omega
        have hfold := foldl_splice cv 0 off cs hle
        have harr : (v.cells.zipIdx.foldl (fun cs (x : Value × Nat) => cs.setIfInBounds (off + x.2) x.1) cs) = (splice cs.toList off cv).toArray := by
          apply Array.ext'
          rw [e1]
          rw [← Array.foldl_toList, Array.toList_zipIdx]
          simp only [Nat.add_zero] at hfold
          exact hfold
        have hle' : off + cv.length ≤ cs.toList.length := by simp; omega
        obtain ⟨r, r1, r2, r3, r4⟩ := fill_ok parts vparts (splice cells off c) (splice cs.toList off cv).toArray out (by simpa using hl) (fun k i j v a h3 h4 => hp (k + 1) i j v a h3 h4)
          (by simp [splice_length _ _ _ hle', splice_length _ _ _ hh2, hs])
          (fun k u hu => by
            rw [List.getElem?_toArray, splice_get _ _ _ hle'] at hu
            split at hu
            · exact e3 u (List.mem_of_getElem? hu)
            · exact h1 k u (by simpa using hu))
          (fun k u b hu hb => by
            rw [List.getElem?_toArray, splice_get _ _ _ hle'] at hu
            rw [splice_get _ _ _ hh2, ← e2] at hb
            split at hu
            · rename_i hin; rw [if_pos hin] at hb; exact e4 _ u b hu hb
            · rename_i hin; rw [if_neg hin] at hb; exact hr k u b (by simpa using hu) hb) h
        refine ⟨r, ?_, r2, r3, r4⟩
        have hcs : v.cells.size = sz := by rw [e1]; simp; omega
        rw [Instr.fill, hpl]
        simp only [hcs]
        rw [if_neg (by simp [e1] at hcs ⊢; omega)]
        rw [harr]; exact r1
      · cases h

def placesT (P : Program) (fs : Array Field) : Option (List (Nat × Nat)) := fs.toList.mapM fun f => (sizeT P f.type).map fun n => (f.offset, n)
theorem places_run {P : Program} {w : World} : ∀ (fs : List Field) (ps : List (Nat × Nat)), fs.mapM (fun f => (sizeT P f.type).map fun n => (f.offset, n)) = some ps →
    (fs.mapM (fun f => (do pure (f.offset, ← sizeOf f.type) : Sem (Nat × Nat)))).run P w = .ok ps w
  | [], ps, h => by simp at h; subst h; simp
  | f :: fs, ps, h => by
    simp only [List.mapM_cons, Option.bind_eq_bind, Option.bind_eq_some_iff, Option.map_eq_some_iff] at h
    obtain ⟨p, ⟨n, hn, rfl⟩, qs, hqs, h⟩ := h
    have ih := places_run (w := w) fs qs hqs
    injection h with h; subst h
    simp only [List.mapM_cons, Sem.run_bind, sizeT_ok hn, Result.andThen_ok, Sem.run_pure, ih]

def zeroOf (P : Program) (t : TypeId) : Option (List AV) := ((P.info? t).bind (·.zero)).bind fun z => cellsOf (ofVal z)
theorem zeroOf_ok {P : Program} {E : En} {t : TypeId} {cs : List AV} (h : zeroOf P t = some cs) :
    ∃ z, (∀ w, (zeroValue t).run P w = .ok z w) ∧ z.cells.size = cs.length ∧ (∀ (k : Nat) (v : Value), z.cells[k]? = some v → v.oneCell' = true) ∧ (∀ (k : Nat) (v : Value) (a : AV), z.cells[k]? = some v → cs[k]? = some a → RV E v a) := by
  unfold zeroOf at h
  simp only [Option.bind_eq_some_iff] at h
  obtain ⟨z, ⟨i, hi, hz⟩, hcs⟩ := h
  obtain ⟨c, e1, e2, e3, e4⟩ := cells_rv (ofVal_rv E z) hcs
  refine ⟨z, fun w => by simp [zeroValue, typeInfo, hi, hz], by rw [e1]; simpa using e2, fun k v hv => ?_, fun k v a hv ha => ?_⟩
  · rw [e1] at hv; exact e3 v (List.mem_of_getElem? (by simpa using hv))
  · rw [e1] at hv; exact e4 k v a (by simpa using hv) ha

def aBuild (P : Program) (t : TypeId) (parts : List (Nat × AV)) : Option AV :=
  match P.underlying t with
  | some (.struct fs) => (zeroOf P t).bind fun z => (placesT P fs).bind fun ps => (afill (ps[·]?) z parts).map .agg
  | some (.array _ e) => (zeroOf P t).bind fun z => (sizeT P e).bind fun n => (afill (fun i => some (i * n, n)) z parts).map .agg
  | _ => none

theorem mapM_array {P : Program} {w : World} (fs : Array Field) (ps : List (Nat × Nat)) (h : placesT P fs = some ps) :
    (fs.mapM (fun f => (do pure (f.offset, ← sizeOf f.type) : Sem (Nat × Nat)))).run P w = .ok ps.toArray w := by
  have := places_run (P := P) (w := w) fs.toList ps h
  rw [Array.mapM_eq_mapM_toList]
  simp only [Sem.run_map, this, Result.andThen_ok]

theorem build_ok {P : Program} {E : En} {t : TypeId} {parts : List (Nat × AV)} {vparts : List (Nat × Value)} {r : AV} (hl : vparts.length = parts.length)
    (hp : ∀ (k : Nat) (i j : Nat) (v : Value) (a : AV), vparts[k]? = some (i, v) → parts[k]? = some (j, a) → i = j ∧ RV E v a) (h : aBuild P t parts = some r) : OpQ P E (Instr.build t vparts.toArray) r := by
  have fin : ∀ (c : Array Value) (out : List AV), c.size = out.length → (∀ (k : Nat) (v : Value), c[k]? = some v → v.oneCell' = true) → (∀ (k : Nat) (v : Value) (a : AV), c[k]? = some v → out[k]? = some a → RV E v a) → RV E (.agg c) (.agg out) := fun c out h1 h2 h3 => by
    have e : c = c.toList.toArray := by simp
    rw [e]
    exact .agg _ _ (by simpa using h1) (fun v hv => by obtain ⟨k, hk⟩ := List.mem_iff_getElem?.1 hv; exact h2 k v (by simpa using hk)) (fun k v a hv ha => h3 k v a (by simpa using hv) ha)
  unfold aBuild at h
  split at h
  · rename_i fs hu
    simp only [Option.bind_eq_some_iff, Option.map_eq_some_iff] at h
    obtain ⟨z, hz, ps, hps, out, hout, rfl⟩ := h
    obtain ⟨zv, z1, z2, z3, z4⟩ := zeroOf_ok (E := E) hz
    obtain ⟨c, c1, c2, c3, c4⟩ := fill_ok (E := E) parts vparts z zv.cells out hl hp z2 z3 z4 hout
    refine ⟨.agg c, ?_, fin c out c2 c3 c4⟩
    simp only [Instr.build, Sem.run_bind, z1, Result.andThen_ok, run_underlying hu, mapM_array fs ps hps, Sem.run_pure]
    have e : (fun x : Nat => ps.toArray[x]?) = (fun x : Nat => ps[x]?) := by funext x; simp
    simp only [e, c1]
    rfl
  · rename_i n e hu
    simp only [Option.bind_eq_some_iff, Option.map_eq_some_iff] at h
    obtain ⟨z, hz, m, hm, out, hout, rfl⟩ := h
    obtain ⟨zv, z1, z2, z3, z4⟩ := zeroOf_ok (E := E) hz
    obtain ⟨c, c1, c2, c3, c4⟩ := fill_ok (E := E) parts vparts z zv.cells out hl hp z2 z3 z4 hout
    refine ⟨.agg c, ?_, fin c out c2 c3 c4⟩
    simp only [Instr.build, Sem.run_bind, z1, Result.andThen_ok, run_underlying hu, sizeT_ok hm, Sem.run_pure, c1]
  · cases h

/-- Cells in rows of s. -/
def chunk (s : Nat) : Nat → List D → List (List D)
  | 0, _ => []
  | n + 1, l => l.take s :: chunk s n (l.drop s)
theorem chunk_length (s : Nat) : ∀ (n : Nat) (l : List D), (chunk s n l).length = n
  | 0, _ => rfl
  | n + 1, l => by simp [chunk, chunk_length s n]
theorem chunk_get (s : Nat) : ∀ (n : Nat) (l : List D) (i : Nat), i < n → (chunk s n l)[i]? = some ((l.drop (i * s)).take s)
  | 0, _, _, h => by omega
  | n + 1, l, 0, _ => by simp [chunk]
  | n + 1, l, i + 1, h => by
    simp only [chunk, List.getElem?_cons_succ]
    rw [chunk_get s n _ i (by omega), List.drop_drop]
    congr 3
    rw [Nat.add_mul]; omega

/-- A row of plain elements, new. -/
theorem newRow_ok {P : Program} {E E1 : En} (hw : E1.w = E.w) (I1 : Inv E1) (S1 : Step E E1) (F1 : Fit E E1) {dst n s : Nat} {e : TypeId} {xs : List D} (hnone : E1.H.get (.slot dst) = none) (c : Array Value) (w' : World) (hw' : w' = E.w.alloc (.cells c e)) (hc : c.size = n * s) (hx : xs.length = n * s) (hn : n ≤ maxLen)
    (hr : ∀ (k : Nat) (u : Value) (x : D), c[k]? = some u → xs[k]? = some x → Rep E1.w E1.S u x) :
    ∃ E', E'.w = w' ∧ RV E' (.slice (some ⟨E.w.heap.size, 0, none⟩) n n) (.own (.slot dst) 0 n) ∧ Inv E' ∧ E'.H = (.slot dst, .arr e s 0 (chunk s n xs)) :: E1.H ∧ Step E E' ∧ Fit E E' := by
  subst hw'
  obtain ⟨I', S', F'⟩ := new_ok I1 (.slot dst) hnone (.arr e s 0 (chunk s n xs)) c e n (E.w.alloc (.cells c e)) (by rw [hw]; rfl) (by rw [hw]; rfl) (by rw [hw]; rfl) (by rw [hw]; rfl) rfl
    (fun f hb => by
      refine ⟨c, by simp only [setφ_same]; exact hb, by simp only [setφ_same]; exact hc, by simp only [setφ_same, chunk_length]; exact Nat.le_refl _, by simp only [setφ_same]; exact hn, fun y hy => ?_, fun i y j d hy hd => ?_⟩
      · obtain ⟨i, hi⟩ := List.mem_iff_getElem?.1 hy
        have hlt := (List.getElem?_eq_some_iff.1 hi).1
        rw [chunk_length] at hlt
        rw [chunk_get s n xs i hlt] at hi
        injection hi with hi; subst hi
        have : (i + 1) * s ≤ n * s := Nat.mul_le_mul_right _ hlt
        rw [Nat.add_mul] at this
        simp; omega
      · have hlt := (List.getElem?_eq_some_iff.1 hy).1
        rw [chunk_length] at hlt
        rw [chunk_get s n xs i hlt] at hy
        injection hy with hy; subst hy
        rw [List.getElem?_take] at hd
        split at hd
        · rename_i hj
          rw [List.getElem?_drop] at hd
          have hlt2 := (List.getElem?_eq_some_iff.1 hd).1
          have hcu : c[i * s + j]? = some c[i * s + j]! := by
            rw [Array.getElem!_eq_getD, Array.getElem?_eq_getElem (by omega), Array.getD_eq_getD_getElem?, Array.getElem?_eq_getElem (by omega)]; rfl
          exact ⟨_, hcu, f.rep (hr _ _ d hcu hd)⟩
        · cases hd)
  refine ⟨_, rfl, ?_, I', rfl, S1.trans I1 S', F1.trans F'⟩
  exact .own _ _ _ _ rfl ⟨_, Hp.get_same _ _ _, Nat.le_refl _, fun _ => ⟨by simp only [En.sl, setφ_same, hw], by rw [chunk_length]; exact Nat.le_refl _⟩⟩

def repl (n : Nat) (z : List AV) : List AV := (List.range (n * z.length)).map fun i => z.getD (i % z.length) .undef

def aBuildSlice (P : Program) (H : Hp) (dst : Nat) (t : TypeId) (n : Nat) (parts : List (Nat × AV)) : Option (AV × Hp) :=
  match P.underlying t with
  | some (.slice e) => (sizeT P e).bind fun s => (zeroOf P e).bind fun z => if z.length = s ∧ n * s ≤ 2 ^ 24 ∧ 0 < s then
      (afill (fun i => some (i * s, s)) (repl n z) parts).bind fun cs => (sealL H cs).bind fun x =>
        if (x.2.get (.slot dst)).isNone then some (.own (.slot dst) 0 n, (.slot dst, .arr e s 0 (chunk s n x.1)) :: x.2) else none
    else none
  | _ => none

theorem afill_length {place : Nat → Option (Nat × Nat)} : ∀ (parts : List (Nat × AV)) (cells out : List AV), afill place cells parts = some out → out.length = cells.length
  | [], cells, out, h => by injection h with h; subst h; rfl
  | (i, v) :: rest, cells, out, h => by
    simp only [afill, Option.bind_eq_some_iff] at h
    obtain ⟨p, hp, cs, hcs, h⟩ := h
    split at h
    · rename_i hh
      rw [afill_length rest _ out h, splice_length _ _ _ hh.2]
    · cases h

theorem repl_rv {E : En} {z : Array Value} {cs : List AV} {n s : Nat} (hs : cs.length = s) (hs0 : 0 < s) (hz : z.size = s) (h1 : ∀ (k : Nat) (v : Value), z[k]? = some v → v.oneCell' = true) (hr : ∀ (k : Nat) (v : Value) (a : AV), z[k]? = some v → cs[k]? = some a → RV E v a) :
    ((Array.range (n * s)).map (fun i => z[i % z.size]!)).size = (repl n cs).length ∧ (∀ (k : Nat) (v : Value), ((Array.range (n * s)).map (fun i => z[i % z.size]!))[k]? = some v → v.oneCell' = true) ∧
    (∀ (k : Nat) (v : Value) (a : AV), ((Array.range (n * s)).map (fun i => z[i % z.size]!))[k]? = some v → (repl n cs)[k]? = some a → RV E v a) := by
  have get : ∀ (k : Nat) (v : Value), ((Array.range (n * s)).map (fun i => z[i % z.size]!))[k]? = some v → k < n * s ∧ z[k % s]? = some v := fun k v hv => by
    rw [Array.getElem?_map] at hv
    rcases Nat.lt_or_ge k (n * s) with h | h
    · rw [Array.getElem?_range, if_pos h] at hv
      simp only [Option.map_some] at hv
      injection hv with hv
      refine ⟨h, ?_⟩
      rw [hz] at hv
      have hlt : k % s < z.size := by rw [hz]; exact Nat.mod_lt _ hs0
      rw [Array.getElem?_eq_getElem hlt, ← hv, Array.getElem!_eq_getD, Array.getD_eq_getD_getElem?, Array.getElem?_eq_getElem hlt]; rfl
    · rw [Array.getElem?_range, if_neg (by omega)] at hv; cases hv
  refine ⟨by simp [repl, hs], fun k v hv => h1 _ v (get k v hv).2, fun k v a hv ha => ?_⟩
  obtain ⟨hk, hzk⟩ := get k v hv
  refine hr _ v a hzk ?_
  simp only [repl, List.getElem?_map, hs] at ha
  rw [List.getElem?_range hk] at ha
  simp only [Option.map_some] at ha
  injection ha with ha
  have hlt : k % s < cs.length := by rw [hs]; exact Nat.mod_lt _ hs0
  rw [List.getElem?_eq_getElem hlt, ← ha, List.getD_eq_getElem?_getD, List.getElem?_eq_getElem hlt]; rfl

theorem buildSlice_ok {P : Program} {E : En} (I : Inv E) {dst : Nat} {t : TypeId} {n : Nat} {parts : List (Nat × AV)} {vparts : List (Nat × Value)} {r : AV} {H' : Hp} (hl : vparts.length = parts.length)
    (hp : ∀ (k : Nat) (i j : Nat) (v : Value) (a : AV), vparts[k]? = some (i, v) → parts[k]? = some (j, a) → i = j ∧ RV E v a) (h : aBuildSlice P E.H dst t n parts = some (r, H')) :
    OpS P E (do pure (.value (← Instr.buildSlice t n vparts.toArray))) r H' := by
  unfold aBuildSlice at h
  split at h
  · rename_i e hu
    simp only [Option.bind_eq_some_iff] at h
    obtain ⟨s, hs, z, hz, h⟩ := h
    split at h
    · rename_i hh
      obtain ⟨hzs, h24, hs0⟩ := hh
      simp only [Option.bind_eq_some_iff] at h
      obtain ⟨cs, hcs, ⟨xs, H1⟩, hx, h⟩ := h
      split at h
      · rename_i hnone
        injection h with h
        injection h with h1 h2
        subst h1 h2
        obtain ⟨zv, z1, z2, z3, z4⟩ := zeroOf_ok (E := E) hz
        obtain ⟨p1, p2, p3⟩ := repl_rv (E := E) (z := zv.cells) (n := n) hzs hs0 (by omega) z3 z4
        obtain ⟨c, c1, c2, c3, c4⟩ := fill_ok (E := E) parts vparts _ _ cs hl hp p1 p2 p3 hcs
        have hcl : cs.length = n * s := by rw [afill_length _ _ _ hcs]; simp [repl, hzs]
        obtain ⟨E1, w1, e1, I1, S1, F1, l1, r1⟩ := sealL_ok (c := c.toList) I (by simpa using c2) (fun i v a hv ha => c4 i v a (by simpa using hv) ha) hx
        subst e1
        simp only [] at l1 r1 hnone
        have hnm : n ≤ maxLen := by
          have : n ≤ n * s := Nat.le_mul_of_pos_right _ hs0
          unfold maxLen; omega
        obtain ⟨E', a1, a2, a3, a4, a5, a6⟩ := newRow_ok (P := P) w1 I1 S1 F1 (dst := dst) (n := n) (s := s) (e := e) (xs := xs) (by simpa using hnone) c _ rfl (by omega) (by omega) hnm (fun k u x hu hx => r1 k u x (by simpa using hu) hx)
        refine ⟨_, E', .value _, ?_, .inl rfl, a2, a3, a4, a5, a6⟩
        rw [a1]
        by_cases h0 : n * s = 0
        · simp only [h0, Array.range_zero', Array.map_empty] at c1
          simp only [Instr.buildSlice, Sem.run_bind, run_underlying hu, Result.andThen_ok, sizeT_ok hs, h0, if_neg (show ¬ ((0 : Nat) > 2 ^ 24) by decide), if_pos (show True from trivial), if_true, Sem.run_pure, Array.range_zero', Array.map_empty]
          rw [c1]
          rfl
        · simp only [Instr.buildSlice, Sem.run_bind, run_underlying hu, Result.andThen_ok, sizeT_ok hs, if_neg (show ¬ (n * s > 2 ^ 24) by omega), if_neg h0, z1, Sem.run_pure, c1, newRow, run_newObj]
          rfl
      · cases h
    · cases h
  · cases h
end Go.Rx
