/- Rx, part 6: append, and rows that are made. -/
import Derived.Test.YtghiaobecppbeaaRxE
namespace Go.Rx
open Go Go.RowKit
set_option linter.unusedVariables false
set_option linter.unusedSimpArgs false

def lim : Nat := 140737488355328

def aAppend (P : Program) (H : Hp) (dst : Nat) (t u : TypeId) (s x : AV) : Option (AV × Hp) :=
  match P.underlying t, P.underlying u with
  | some (.slice e), some (.slice _) => (P.info? e).bind fun i => i.zero.bind fun z => if z.cells.size = i.size then (srcOf H x).bind fun ds => if ds.all (fun y => y.length == i.size) then
      match s with
      | .nilsl => if ds.length = 0 then some (.nilsl, H) else
          if ds.length * (i.bytes + 1) ≤ lim ∧ (H.get (.slot dst)).isNone then some (.own (.slot dst) 0 ds.length, (.slot dst, .arr e i.size 0 ds) :: H) else none
      | .own o ver n => match H.get o with
        | some (.arr e' s' v es) => if v = ver ∧ e' = e ∧ s' = i.size ∧ (n + ds.length) * (i.bytes + 1) ≤ lim then some (.own o (ver + 1) (n + ds.length), (o, .arr e s' (ver + 1) (es.take n ++ ds)) :: H) else none
        | _ => none
      | _ => none
    else none else none
  | _, _ => none

theorem fits_split {n b : Nat} (h : n * (b + 1) ≤ lim) : n ≤ 140737488355328 ∧ n * b ≤ 140737488355328 := by
  unfold lim at h; rw [Nat.mul_add] at h; omega

theorem zeroCells_size (z : Array Value) (n : Nat) : (Builtin.zeroCells z n).size = n * z.size := by simp [Builtin.zeroCells]

/-- A new row, of old elements and new ones and free room. -/
theorem grown_ro {E E' : En} {o : Nm} {e : TypeId} {s ver : Nat} {es ds : List (List D)} {olds news : List Value} (f : Fit E E') (hes : ∀ y ∈ es, y.length = s) (hds : ∀ y ∈ ds, y.length = s)
    (ho : olds.length = es.length * s) (hn : news.length = ds.length * s)
    (h1 : ∀ i y j d, es[i]? = some y → y[j]? = some d → ∃ u, olds[i * s + j]? = some u ∧ Rep E.w E.S u d)
    (h2 : ∀ i y j d, ds[i]? = some y → y[j]? = some d → ∃ u, news[i * s + j]? = some u ∧ Rep E.w E.S u d)
    (zs : Array Value) (cap : Nat) (hz : zs.size = (cap - (es.length + ds.length)) * s) (hcap : es.length + ds.length ≤ cap) (hm : cap ≤ maxLen) (hφ : (E'.φ o).2 = cap)
    (hb : E'.w.heap[(E'.φ o).1]? = some (.cells ((olds ++ news).toArray ++ zs) e (0, 0))) : RO E' o (.arr e s ver (es ++ ds)) := by
  refine ⟨_, hb, ?_, by rw [hφ]; simpa using hcap, by rw [hφ]; exact hm, fun y hy => ?_, fun i y j d hy hd => ?_⟩
  · rw [hφ]
    simp only [Array.size_append, List.size_toArray, List.length_append, hz, ho, hn, ← Nat.add_mul]
    congr 1; omega
  · rcases List.mem_append.1 hy with h | h
    · exact hes y h
    · exact hds y h
  · have hyl : y.length = s := by
      rcases List.mem_append.1 (List.mem_of_getElem? hy) with h | h
      · exact hes y h
      · exact hds y h
    have hj : j < s := by have := (List.getElem?_eq_some_iff.1 hd).1; omega
    have get : ∀ k, k < (olds ++ news).length → ((olds ++ news).toArray ++ zs)[k]? = (olds ++ news)[k]? := fun k hk => by
      rw [Array.getElem?_append_left (by simpa using hk), List.getElem?_toArray]
    by_cases hi : i < es.length
    · rw [List.getElem?_append_left hi] at hy
      obtain ⟨u, hu, hu2⟩ := h1 i y j d hy hd
      have hlt := (List.getElem?_eq_some_iff.1 hu).1
      exact ⟨u, by rw [get _ (by simp; omega), List.getElem?_append_left hlt]; exact hu, f.rep hu2⟩
    · rw [List.getElem?_append_right (by omega)] at hy
      obtain ⟨u, hu, hu2⟩ := h2 _ y j d hy hd
      have hlt := (List.getElem?_eq_some_iff.1 hu).1
      have e1 : i * s + j = olds.length + ((i - es.length) * s + j) := by
        rw [ho, ← Nat.add_assoc, ← Nat.add_mul]; congr 2; omega
      refine ⟨u, ?_, f.rep hu2⟩
      rw [get _ (by rw [e1]; simp; omega), e1, List.getElem?_append_right (by omega)]
      rw [show olds.length + ((i - es.length) * s + j) - olds.length = (i - es.length) * s + j by omega]
      exact hu

theorem append_ok {P : Program} {E : En} (I : Inv E) {dst : Nat} {t u ty : TypeId} {vs vx : Value} {s x r : AV} {H' : Hp} (hs : RV E vs s) (hx : RV E vx x) (h : aAppend P E.H dst t u s x = some (r, H')) :
    OpS P E (do pure (.value (← Builtin.append_ #[t, u] ty #[vs, vx]))) r H' := by
  unfold aAppend at h
  split at h
  · rename_i e e' ht hu
    simp only [Option.bind_eq_some_iff] at h
    obtain ⟨i, hi, z, hz, h⟩ := h
    split at h
    · rename_i hzs
      simp only [Option.bind_eq_some_iff] at h
      obtain ⟨ds, hds, h⟩ := h
      split at h
      · rename_i hall
        have hall' : ∀ y ∈ ds, y.length = i.size := fun y hy => by
          rw [List.all_eq_true] at hall
          simpa using hall y hy
        obtain ⟨a, cap, hvx, hxc, hxm, hxr⟩ := src_ok I hx hds
        obtain ⟨news, n1, n2, n3, n4⟩ := src_cells P hall' hvx hxr
        subst hvx
        cases s with
        | undef => cases h
        | d => cases h
        | agg => cases h
        | tuple => cases h
        | ptr => cases h
        | eptr => cases h
        | rptr => cases h
        | fn => cases h
        | iface => cases h
        | nilsl =>
          simp only [] at h
          cases hs with
          | nilsl =>
          split at h
          · rename_i h0
            injection h with h
            injection h with h1 h2
            subst h1 h2
            refine ⟨.slice none 0 0, E, .value _, ?_, .inl rfl, .nilsl, I, rfl, .refl E, .refl E⟩
            have hn0 : news = [] := List.eq_nil_of_length_eq_zero (by rw [n1, h0]; simp)
            have hf := n3 E.w rfl
            rw [h0, hn0] at hf
            rw [h0]
            simp [Builtin.append_, run_underlying ht, run_underlying hu, sizeOf, typeInfo, hi, Builtin.lenOf, hf]
          · rename_i h0
            split at h
            · rename_i hfit
              obtain ⟨hfit, hnone⟩ := hfit
              obtain ⟨f1, f2⟩ := fits_split hfit
              have hnone' : E.H.get (.slot dst) = none := by simpa using hnone
              injection h with h
              injection h with h1 h2
              subst h1 h2
              have hrun := run_append_any (P := P) E.w t u ty e i z ht e' hu hi hz none a 0 0 ds.length cap [] news (by omega) (by simp [Builtin.firstCells]) (n3 E.w.drew rfl) (by omega) (by simpa using f2)
              simp only [Nat.zero_add, List.nil_append] at hrun
              have hge := grownCap_ge E.w ds.length 0 e
              have hcm : grownCap E.w ds.length 0 e ≤ maxLen := grownCap_le_maxLen E.w ds.length 0 e (by unfold maxLen; omega)
              obtain ⟨I', S', F'⟩ := new_ok I (.slot dst) hnone' (.arr e i.size 0 ds) (news.toArray ++ Builtin.zeroCells z.cells (grownCap E.w ds.length 0 e - ds.length)) e (grownCap E.w ds.length 0 e)
                (E.w.drew.alloc (.cells (news.toArray ++ Builtin.zeroCells z.cells (grownCap E.w ds.length 0 e - ds.length)) e)) rfl rfl rfl rfl rfl
                (fun f hb => by
                  have := grown_ro (o := .slot dst) (ver := 0) (e := e) (s := i.size) (es := []) (ds := ds) (olds := []) f (by simp) hall' (by simp) n1 (fun i y j d hy => by simp at hy) n4
                    (Builtin.zeroCells z.cells (grownCap E.w ds.length 0 e - ds.length)) (grownCap E.w ds.length 0 e) (by rw [zeroCells_size, hzs]; simp) (by simpa using hge) hcm (by simp only [setφ_same]) (by simp only [setφ_same]; simpa using hb)
                  simpa using this)
              refine ⟨.slice (some ⟨E.w.heap.size, 0, none⟩) ds.length (grownCap E.w ds.length 0 e), _, .value _, by simp only [Sem.run_bind, hrun, Result.andThen_ok, Sem.run_pure], .inl rfl, ?_, I', rfl, S', F'⟩
              exact .own _ _ _ _ rfl ⟨_, Hp.get_same _ _ _, Nat.le_refl _, fun _ => ⟨by simp only [En.sl, setφ_same], Nat.le_refl _⟩⟩
            · cases h
        | own o ver n =>
          simp only [] at h
          cases hs with
          | own _ _ _ _ h1 ho =>
          obtain ⟨x', hg, hx'⟩ := ho
          rw [hg] at h
          cases x' with
          | cells => exact hx'.elim
          | frz => cases h
          | arr e1 s1 w es =>
          simp only [] at h
          split at h
          · rename_i hh
            obtain ⟨rfl, rfl, rfl, hfit⟩ := hh
            obtain ⟨f1, f2⟩ := fits_split hfit
            injection h with h
            injection h with h1 h2
            subst h1 h2
            obtain ⟨rfl, hn⟩ := hx'.2 rfl
            obtain ⟨cur, b1, b2, b3, b4, b5, b6⟩ := I.obj o _ hg
            have htake : (es.take n).length = n := by simp; omega
            have htl : ∀ y ∈ es.take n, y.length = i.size := fun y hy => b5 y (List.mem_of_mem_take hy)
            have htk : ∀ i' y, (es.take n)[i']? = some y → es[i']? = some y := fun i' y hy => by
              rw [List.getElem?_take] at hy
              split at hy
              · exact hy
              · cases hy
            by_cases hroom : n + ds.length ≤ (E.φ o).2
            · have hfitc : n * i.size + news.length ≤ cur.size := by rw [n1, b2, ← Nat.add_mul]; exact Nat.mul_le_mul_right _ hroom
              have hst := run_storeCells_at P (E.φ o).1 (n * i.size) e1 news 0 cur E.w b1 (by simpa using hfitc) n2
              simp only [Nat.add_zero] at hst
              have hf := n3 E.w rfl
              have hrun : (Builtin.append_ #[t, u] ty #[E.sl o n, .slice a ds.length cap]).run P E.w = .ok (.slice (some ⟨(E.φ o).1, 0, none⟩) (n + ds.length) (E.φ o).2) (E.w.setRow (E.φ o).1 (splice cur.toList (n * i.size) news).toArray) := by
                simp [Builtin.append_, En.sl, run_underlying ht, run_underlying hu, sizeOf, typeInfo, hi, Builtin.lenOf, hroom, hf, Addr.add_lit, hst, splice]
              have hle' : n * i.size + news.length ≤ cur.toList.length := by simpa using hfitc
              obtain ⟨I', S', F'⟩ := write_ok I o (.arr e1 i.size w es) (.arr e1 i.size (w + 1) (es.take n ++ ds)) hg rfl rfl (splice cur.toList (n * i.size) news).toArray
                ⟨by omega, fun hw => by omega⟩ (fun f => by
                refine ⟨_, by simp only [setφ_self]; exact setRow_heap _ _ cur _ e1 _ b1, by simp only [setφ_self]; simp [splice_length _ _ _ hle', b2], by simp only [setφ_self, List.length_append, htake]; exact hroom, by simp only [setφ_self]; exact b4, fun y hy => ?_, fun i' y j d hy hd => ?_⟩
                · rcases List.mem_append.1 hy with h | h
                  · exact htl y h
                  · exact hall' y h
                · rw [List.getElem?_toArray, splice_get _ _ _ hle']
                  by_cases hi' : i' < n
                  · rw [List.getElem?_append_left (by omega)] at hy
                    have hj : j < i.size := by have := (List.getElem?_eq_some_iff.1 hd).1; have := htl y (List.mem_of_getElem? hy); omega
                    have : (i' + 1) * i.size ≤ n * i.size := Nat.mul_le_mul_right _ hi'
                    rw [Nat.add_mul] at this
                    rw [if_neg (by omega)]
                    obtain ⟨u, hu, hu2⟩ := b6 i' y j d (htk i' y hy) hd
                    exact ⟨u, by simpa using hu, f.rep hu2⟩
                  · rw [List.getElem?_append_right (by omega), htake] at hy
                    have hj : j < i.size := by have := (List.getElem?_eq_some_iff.1 hd).1; have := hall' y (List.mem_of_getElem? hy); omega
                    obtain ⟨u, hu, hu2⟩ := n4 _ y j d hy hd
                    have hlt := (List.getElem?_eq_some_iff.1 hu).1
                    have e2 : i' * i.size + j = n * i.size + ((i' - n) * i.size + j) := by
                      rw [← Nat.add_assoc, ← Nat.add_mul]; congr 2; omega
                    rw [if_pos (by omega), e2, show n * i.size + ((i' - n) * i.size + j) - n * i.size = (i' - n) * i.size + j by omega]
                    exact ⟨u, hu, f.rep hu2⟩)
              refine ⟨.slice (some ⟨(E.φ o).1, 0, none⟩) (n + ds.length) (E.φ o).2, _, .value _, by simp only [Sem.run_bind, hrun, Result.andThen_ok, Sem.run_pure], .inl rfl, ?_, I', rfl, S', F'⟩
              exact .own _ _ _ _ rfl ⟨_, Hp.get_same _ _ _, Nat.le_refl _, fun _ => ⟨by simp only [En.sl, setφ_self], by simp [htake]⟩⟩
            · obtain ⟨c1, c2, c3, c4⟩ := arr_cells I hg (.inl ⟨e1, rfl⟩)
              obtain ⟨olds, o1, o2, o3, o4⟩ := row_cells (E := E) htake htl (fun i' y j d hy hd => c4 i' y j d (htk i' y hy) hd)
              have hof := run_firstCells_some (P := P) E.w.drew i.size n ⟨(E.φ o).1, 0, none⟩ n (E.φ o).2 olds o1 (fun j u hu => by simpa using o3 j u hu)
              have hrun := run_append_any (P := P) E.w t u ty e1 i z ht e' hu hi hz (some ⟨(E.φ o).1, 0, none⟩) a n (E.φ o).2 ds.length cap olds news (by omega) hof (n3 E.w.drew rfl) (by omega) f2
              have hge := grownCap_ge E.w (n + ds.length) (E.φ o).2 e1
              have hcm : grownCap E.w (n + ds.length) (E.φ o).2 e1 ≤ maxLen := grownCap_le_maxLen E.w (n + ds.length) (E.φ o).2 e1 (by unfold maxLen; omega)
              obtain ⟨I', S', F'⟩ := put_ok I o (.arr e1 i.size (w + 1) (es.take n ++ ds)) (E.w.heap.size, grownCap E.w (n + ds.length) (E.φ o).2 e1)
                (E.w.drew.alloc (.cells ((olds ++ news).toArray ++ Builtin.zeroCells z.cells (grownCap E.w (n + ds.length) (E.φ o).2 e1 - (n + ds.length))) e1)) rfl rfl rfl (by simp) rfl (.inl (Nat.le_refl _))
                (fun b hb _ => by show (E.w.heap.push _)[b]? = _; rw [Array.getElem?_push, if_neg (by omega)])
                (fun y hy => by rw [hg] at hy; injection hy with hy; subst hy; exact ⟨by omega, fun hw => by omega⟩)
                (fun f => by
                  refine grown_ro (es := es.take n) (ds := ds) (olds := olds) (news := news) f htl hall' (by rw [o1, htake]) n1 o4 n4 (Builtin.zeroCells z.cells (grownCap E.w (n + ds.length) (E.φ o).2 e1 - (n + ds.length))) (grownCap E.w (n + ds.length) (E.φ o).2 e1)
                    (by rw [zeroCells_size, hzs, htake]) (by rw [htake]; exact hge) hcm (by simp only [setφ_same]) ?_
                  simp only [setφ_same]
                  show (E.w.heap.push _)[E.w.heap.size]? = _
                  rw [Array.getElem?_push, if_pos rfl])
              refine ⟨.slice (some ⟨E.w.heap.size, 0, none⟩) (n + ds.length) (grownCap E.w (n + ds.length) (E.φ o).2 e1), _, .value _, by simp only [Sem.run_bind, En.sl, hrun, Result.andThen_ok, Sem.run_pure], .inl rfl, ?_, I', rfl, S', F'⟩
              exact .own _ _ _ _ rfl ⟨_, Hp.get_same _ _ _, Nat.le_refl _, fun _ => ⟨by simp only [En.sl, setφ_same], by simp [htake]⟩⟩
          · cases h
      · cases h
    · cases h
  · cases h
end Go.Rx
