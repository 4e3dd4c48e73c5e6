/- Rx, part 11: makes and conversions. -/
import Derived.Test.YtghiaobecppbeaaRxJ
import Derived.Laws.Runes
namespace Go.Rx
open Go Go.RowKit
set_option linter.unusedVariables false
set_option linter.unusedSimpArgs false

def pureL : List AV → Option (List D)
  | [] => some []
  | .d x :: r => (pureL r).map (x :: ·)
  | .nilsl :: r => (pureL r).map (D.list [] :: ·)
  | _ => none
theorem pureL_ok {E : En} : ∀ {cs : List AV} {xs : List D}, pureL cs = some xs → xs.length = cs.length ∧ ∀ (i : Nat) (v : Value) (a : AV) (x : D), cs[i]? = some a → xs[i]? = some x → RV E v a → Rep E.w E.S v x
  | [], xs, h => by injection h with h; subst h; exact ⟨rfl, fun i v a x ha => by simp at ha⟩
  | c :: r, xs, h => by
    cases c <;> simp only [pureL] at h <;> try cases h
    · rename_i y
      rw [Option.map_eq_some_iff] at h
      obtain ⟨ys, hy, rfl⟩ := h
      obtain ⟨h1, h2⟩ := pureL_ok (E := E) hy
      refine ⟨by simp [h1], fun i v a x ha hx hv => ?_⟩
      cases i with
      | zero => simp at ha hx; subst ha hx; exact rv_d hv
      | succ i => exact h2 i v a x (by simpa using ha) (by simpa using hx) hv
    · rw [Option.map_eq_some_iff] at h
      obtain ⟨ys, hy, rfl⟩ := h
      obtain ⟨h1, h2⟩ := pureL_ok (E := E) hy
      refine ⟨by simp [h1], fun i v a x ha hx hv => ?_⟩
      cases i with
      | zero => simp at ha hx; subst ha hx; cases hv; exact .empty _ _ (by unfold maxLen; omega)
      | succ i => exact h2 i v a x (by simpa using ha) (by simpa using hx) hv

def aMakeSlice (P : Program) (H : Hp) (dst : Nat) (t : TypeId) (l c : AV) : Option (AV × Hp) :=
  match l, c with
  | .d (.int _ n), .d (.int _ m) => match P.underlying t with
    | some (.slice e) => (P.info? e).bind fun i => (zeroOf P e).bind fun z => (pureL z).bind fun zd =>
        if n = m ∧ 0 ≤ n ∧ n.toNat * (i.bytes + 1) ≤ lim ∧ z.length = i.size ∧ 0 < i.size ∧ (H.get (.slot dst)).isNone then
          some (.own (.slot dst) 0 n.toNat, (.slot dst, .arr e i.size 0 (List.replicate n.toNat zd)) :: H) else none
    | _ => none
  | _, _ => none
theorem wrap_lim {n : Int} (h0 : 0 ≤ n) (h : n ≤ 140737488355328) : IntKind.i64.wrap n = n := by
  exact wrap_small n h0 (by omega)

theorem makeSlice_ok {P : Program} {E : En} (I : Inv E) {dst : Nat} {t : TypeId} {u v : Value} {l c r : AV} {H' : Hp} (hl : RV E u l) (hc : RV E v c) (h : aMakeSlice P E.H dst t l c = some (r, H')) :
    OpS P E (do pure (.value (← Instr.makeSlice t u v))) r H' := by
  unfold aMakeSlice at h
  split at h
  · rename_i k n k' m
    obtain rfl := rep_int (rv_d hl)
    obtain rfl := rep_int (rv_d hc)
    split at h
    · rename_i e hu
      simp only [Option.bind_eq_some_iff] at h
      obtain ⟨i, hi, z, hz, zd, hzd, h⟩ := h
      split at h
      · rename_i hh
        obtain ⟨rfl, h0, hfit, hzl, hs0, hnone⟩ := hh
        obtain ⟨f1, f2⟩ := fits_split hfit
        injection h with h
        injection h with h1 h2
        subst h1 h2
        obtain ⟨zv, z1, z2, z3, z4⟩ := zeroOf_ok (E := E) hz
        obtain ⟨d1, d2⟩ := pureL_ok (E := E) hzd
        have hnn : (n.toNat : Int) = n := Int.toNat_of_nonneg h0
        have hw : IntKind.i64.wrap n = n := wrap_lim h0 (by omega)
        have hbig : ¬ (281474976710656 < (i.bytes : Int) * n) := by
          have h := Int.ofNat_le.2 f2
          rw [Int.natCast_mul, hnn, Int.mul_comm] at h
          have h2 : ((140737488355328 : Nat) : Int) = 140737488355328 := rfl
          rw [h2] at h
          omega
        generalize hN : n.toNat = N at *
        have hrow : ∀ k : Nat, k < N * i.size → ((Array.range (N * i.size)).map (fun i' => zv.cells[i' % zv.cells.size]!))[k]? = some (zv.cells[k % i.size]'(by rw [z2, hzl]; exact Nat.mod_lt _ hs0)) := fun k hk => by
          have hlt : k % i.size < zv.cells.size := by rw [z2, hzl]; exact Nat.mod_lt _ hs0
          rw [Array.getElem?_map, Array.getElem?_range, if_pos hk]
          simp only [Option.map_some]
          have e2 : zv.cells.size = i.size := z2.trans hzl
          rw [show k % zv.cells.size = k % i.size by rw [e2], Array.getElem!_eq_getD, Array.getD_eq_getD_getElem?, Array.getElem?_eq_getElem hlt]; rfl
        obtain ⟨I', S', F'⟩ := new_ok I (.slot dst) (by simpa using hnone) (.arr e i.size 0 (List.replicate N zd)) ((Array.range (N * i.size)).map (fun i' => zv.cells[i' % zv.cells.size]!)) e N
          (E.w.alloc (.cells ((Array.range (N * i.size)).map (fun i' => zv.cells[i' % zv.cells.size]!)) e)) rfl rfl rfl rfl rfl
          (fun f hb => by
            refine ⟨_, by simp only [setφ_same]; exact hb, by simp only [setφ_same]; simp, by simp only [setφ_same]; simp, by simp only [setφ_same]; unfold maxLen; omega, fun y hy => ?_, fun i' y j d hy hd => ?_⟩
            · rw [List.eq_of_mem_replicate hy, d1, hzl]
            · have hin := (List.getElem?_eq_some_iff.1 hy).1
              simp at hin
              have hyz := List.eq_of_mem_replicate (List.mem_of_getElem? hy)
              subst hyz
              have hj := (List.getElem?_eq_some_iff.1 hd).1
              rw [d1, hzl] at hj
              have hk : i' * i.size + j < N * i.size := by
                have : (i' + 1) * i.size ≤ N * i.size := Nat.mul_le_mul_right _ hin
                rw [Nat.add_mul] at this; omega
              refine ⟨_, hrow _ hk, f.rep ?_⟩
              have hmod : (i' * i.size + j) % i.size = j := by rw [Nat.mul_comm, Nat.mul_add_mod]; exact Nat.mod_eq_of_lt hj
              have hjz : j < z.length := by omega
              have hjc : j < zv.cells.size := by omega
              refine d2 j _ z[j] d (List.getElem?_eq_getElem hjz) hd (z4 j _ _ ?_ (List.getElem?_eq_getElem hjz))
              simp only [hmod]
              exact Array.getElem?_eq_getElem hjc)
        refine ⟨.slice (some ⟨E.w.heap.size, 0, none⟩) N N, ⟨E.w.alloc (.cells ((Array.range (N * i.size)).map (fun i' => zv.cells[i' % zv.cells.size]!)) e), E.S, setφ E.φ (.slot dst) (E.w.heap.size, N), (.slot dst, .arr e i.size 0 (List.replicate N zd)) :: E.H⟩, .value _, ?_, .inl rfl, .own _ _ _ _ rfl ⟨_, Hp.get_same _ _ _, Nat.le_refl _, fun _ => ⟨by simp only [En.sl, setφ_same], by simp⟩⟩, I', rfl, S', F'⟩
        by_cases hn0 : N = 0
        · subst hn0
          have hn : n = 0 := by omega
          subst hn
          simp [Instr.makeSlice, run_underlying hu, asInt, asIntOf, typeInfo, hi, sizeOf, newRow, show IntKind.i64.wrap 0 = 0 from by decide, Array.range_zero']
        · have hne : ¬ (N * i.size = 0) := by
            intro h; rcases Nat.mul_eq_zero.1 h with h | h <;> omega
          have hNi : N ≠ 0 ∧ i.size ≠ 0 := ⟨hn0, by omega⟩
          simp [Instr.makeSlice, run_underlying hu, asInt, asIntOf, typeInfo, hi, sizeOf, newRow, hw, hN, hbig, h0, z1, hne, hn0, hNi.2, show ¬ (n < 0) by omega]
      · cases h
    · cases h
  · cases h

/-- A new block that is only read. -/
theorem stab_ok {E : En} (I : Inv E) (ob : Obj) (w' : World) (hos : w'.os = E.w.os) (ht : w'.tape = E.w.tape) (hout : w'.output = E.w.output) (hheap : w'.heap = E.w.heap.push ob) :
    Inv ⟨w', fun b => E.S b ∨ b = E.w.heap.size, E.φ, E.H⟩ ∧ Step E ⟨w', fun b => E.S b ∨ b = E.w.heap.size, E.φ, E.H⟩ ∧ Fit E ⟨w', fun b => E.S b ∨ b = E.w.heap.size, E.φ, E.H⟩ := by
  have old : ∀ b, b < E.w.heap.size → w'.heap[b]? = E.w.heap[b]? := fun b hb => by rw [hheap, Array.getElem?_push, if_neg (by omega)]
  have fit : Fit E ⟨w', fun b => E.S b ∨ b = E.w.heap.size, E.φ, E.H⟩ := ⟨fun b hb => ⟨.inl hb, old b (I.sin b hb)⟩, fun o x hg => ⟨x, hg, Compat.self rfl x⟩⟩
  refine ⟨⟨fun o x hg => (I.obj o x hg).mono fit rfl (old _ (I.obj o x hg).lt), I.dist, fun o x hg hl => ?_, fun b hb => ?_⟩, ⟨hos, ht, hout, by rw [hheap]; simp, fun b hb _ => old b hb, fun b hb => .inl hb, fun b hb hlt => ?_⟩, fit⟩
  · rintro (h | h)
    · exact I.free o x hg hl h
    · have hlt := (I.obj o x hg).lt
      exact Nat.lt_irrefl _ (h ▸ hlt)
  · show b < w'.heap.size
    rw [hheap, Array.size_push]
    rcases hb with h | h
    · have := I.sin b h; omega
    · omega
  · rcases hb with (h | h) | h
    · exact .inl h
    · omega
    · exact .inr h

def bytesOf : List (List D) → Option (List UInt8)
  | [] => some []
  | [.int .u8 n] :: r => (bytesOf r).map (UInt8.ofNat n.toNat :: ·)
  | _ => none
theorem bytesOf_ok : ∀ {ds : List (List D)} {s : List UInt8}, bytesOf ds = some s → ∃ ns : List Int, ds = ns.map (fun n => [.int .u8 n]) ∧ s = ns.map (fun n => UInt8.ofNat n.toNat)
  | [], s, h => by injection h with h; subst h; exact ⟨[], rfl, rfl⟩
  | y :: r, s, h => by
    unfold bytesOf at h
    split at h
    · rename_i hh; cases hh
    · rename_i n r' hh
      injection hh with h1 h2
      subst h1 h2
      rw [Option.map_eq_some_iff] at h
      obtain ⟨s', hs', rfl⟩ := h
      obtain ⟨ns, rfl, rfl⟩ := bytesOf_ok hs'
      exact ⟨n :: ns, rfl, rfl⟩
    · cases h

def aConvert (P : Program) (H : Hp) (src dst : TypeId) (x : AV) : Option AV :=
  match P.underlying src, P.underlying dst, x with
  | some _, some (.int k), .d (.int _ n) => some (.d (.int k (k.wrap n)))
  | some _, some .string, .d (.str s) => some (.d (.str s))
  | some _, some .string, .d (.int _ n) => some (.d (.str (Utf8.encode n).data.toList))
  | some .string, some (.slice e), .d (.str s) => match P.underlying e with
    | some (.int .u8) => if s.length ≤ lim then some (.d (.list (s.map fun b => [.int .u8 b.toNat]))) else none
    | _ => none
  | some (.slice e), some .string, x => match P.underlying e with
    | some (.int .u8) => (srcOf H x).bind fun ds => (bytesOf ds).map fun s => .d (.str s)
    | _ => none
  | _, _, _ => none

theorem convert_ok {P : Program} {E : En} (I : Inv E) {src dst : TypeId} {v : Value} {x r : AV} (hx : RV E v x) (h : aConvert P E.H src dst x = some r) : OpS P E (do pure (.value (← convert src dst v))) r E.H := by
  unfold aConvert at h
  split at h
  · rename_i d1 k k' n hs hd
    injection h with h; subst h
    obtain rfl := rep_int (rv_d hx)
    exact OpQ.ops I ⟨.int k (k.wrap n), by simp [convert, run_underlying hs, run_underlying hd, Conv.intToInt], .d _ _ (.int _ _)⟩
  · rename_i d1 s hs hd
    injection h with h; subst h
    obtain ⟨b, rfl, rfl⟩ := rep_str (rv_d hx)
    exact OpQ.ops I ⟨.string b, by simp [convert, run_underlying hs, run_underlying hd], .d _ _ (.str _)⟩
  · rename_i d1 k n hs hd
    injection h with h; subst h
    obtain rfl := rep_int (rv_d hx)
    exact OpQ.ops I ⟨.string (Utf8.encode n), by simp [convert, run_underlying hs, run_underlying hd, Conv.intToString], .d _ _ (.str _)⟩
  · rename_i e s hs hd
    split at h
    · rename_i he
      split at h
      · rename_i hl
        injection h with h; subst h
        obtain ⟨b, rfl, rfl⟩ := rep_str (rv_d hx)
        have hsz : b.data.toList.length = b.size := rfl
        rw [hsz] at hl
        have hrun := run_bytes_of_string (P := P) E.w src dst e b hs hd he
        have hcm : grownCap E.w b.size 0 e ≤ maxLen := grownCap_le_maxLen E.w b.size 0 e (by unfold maxLen; unfold lim at hl; omega)
        have hge := grownCap_ge E.w b.size 0 e
        obtain ⟨I', S', F'⟩ := stab_ok I (.cells (bytesRow b (grownCap E.w b.size 0 e)) e ((bytesRow b (grownCap E.w b.size 0 e)).size, (bytesRow b (grownCap E.w b.size 0 e)).size + 1))
          (E.w.drew.alloc (.cells (bytesRow b (grownCap E.w b.size 0 e)) e ((bytesRow b (grownCap E.w b.size 0 e)).size, (bytesRow b (grownCap E.w b.size 0 e)).size + 1))) rfl rfl rfl rfl
        refine ⟨.slice (some ⟨E.w.heap.size, 0, none⟩) b.size (grownCap E.w b.size 0 e), ⟨E.w.drew.alloc (.cells (bytesRow b (grownCap E.w b.size 0 e)) e ((bytesRow b (grownCap E.w b.size 0 e)).size, (bytesRow b (grownCap E.w b.size 0 e)).size + 1)), fun b' => E.S b' ∨ b' = E.w.heap.size, E.φ, E.H⟩, .value _, by simp only [Sem.run_bind, hrun, Result.andThen_ok, Sem.run_pure], .inl rfl, .d _ _ ?_, I', rfl, S', F'⟩
        have hlen : (b.data.toList.map (fun c : UInt8 => [D.int .u8 c.toNat])).length = b.size := by rw [List.length_map]; rfl
        have get : ∀ (i : Nat) (y : List D) (j : Nat) (d : D), (b.data.toList.map (fun c : UInt8 => [D.int .u8 c.toNat]))[i]? = some y → y[j]? = some d → ∃ c : UInt8, b.data[i]? = some c ∧ j = 0 ∧ d = .int .u8 c.toNat := fun i y j d hy hd => by
          rw [List.getElem?_map, Option.map_eq_some_iff] at hy
          obtain ⟨c, hc, rfl⟩ := hy
          cases j with
          | zero => simp at hd; exact ⟨c, by simpa using hc, rfl, hd.symm⟩
          | succ j => simp at hd
        have key := Rep.list (w := E.w.drew.alloc (.cells (bytesRow b (grownCap E.w b.size 0 e)) e ((bytesRow b (grownCap E.w b.size 0 e)).size, (bytesRow b (grownCap E.w b.size 0 e)).size + 1))) (S := fun b' => E.S b' ∨ b' = E.w.heap.size) E.w.heap.size 0 (grownCap E.w b.size 0 e) 1
          (b.data.toList.map (fun c : UInt8 => [D.int .u8 c.toNat])) (fun i j => .int .u8 ((b.data.getD i 0).toNat)) (.inr rfl) (by rw [hlen]; exact hge) hcm (fun y hy => by simp at hy; obtain ⟨c, _, rfl⟩ := hy; rfl)
          (fun i y j d hy hd => by
            obtain ⟨c, hc, rfl, rfl⟩ := get i y j d hy hd
            have hblk : (E.w.drew.alloc (.cells (bytesRow b (grownCap E.w b.size 0 e)) e ((bytesRow b (grownCap E.w b.size 0 e)).size, (bytesRow b (grownCap E.w b.size 0 e)).size + 1))).heap[E.w.heap.size]? = some (.cells (bytesRow b (grownCap E.w b.size 0 e)) e ((bytesRow b (grownCap E.w b.size 0 e)).size, (bytesRow b (grownCap E.w b.size 0 e)).size + 1)) := by
              show (E.w.heap.push _)[E.w.heap.size]? = _
              rw [Array.getElem?_push, if_pos rfl]
            have hi := (Array.getElem?_eq_some_iff.1 hc).1
            simp only [World.cell?, hblk, Nat.mul_one, Nat.add_zero, Nat.zero_add]
            simp only [bytesRow]
            rw [Array.getElem?_append_left (by simpa using hi), Array.getElem?_map, hc]
            simp [Array.getD_eq_getD_getElem?, hc])
          (fun i y j d hy hd => by
            obtain ⟨c, hc, rfl, rfl⟩ := get i y j d hy hd
            simp only [Array.getD_eq_getD_getElem?, hc, Option.getD_some]
            exact .int _ _)
        rw [hlen] at key
        exact key
      · cases h
    · cases h
  · rename_i e hs hd q1 q2
    split at h
    · rename_i he
      simp only [Option.bind_eq_some_iff, Option.map_eq_some_iff] at h
      obtain ⟨ds, hds, s, hsb, rfl⟩ := h
      obtain ⟨ns, rfl, rfl⟩ := bytesOf_ok hsb
      obtain ⟨a, cap, rfl, hxc, hxm, hxr⟩ := src_ok I hx hds
      have hlen : (ns.map (fun n => [D.int .u8 n])).length = ns.length := by simp
      rcases hxr with hnil | ⟨b, off, s', rfl, h2, h3⟩
      · have hn : ns = [] := by simpa using hnil
        subst hn
        cases a with
        | none =>
          have := run_convert_bytes_nil (P := P) E.w src e hs he 0 cap dst hd
          exact OpQ.ops I ⟨.string ByteArray.empty, by simpa using this, .d _ _ (by have := Rep.str (w := E.w) (S := E.S) ByteArray.empty; simpa using this)⟩
        | some a =>
          have h1 := run_convert_bytes_string (P := P) E.w src dst e (some a) 0 cap hs he hd
          have h2 := run_bytesToString (P := P) E.w a 0 cap [] (by simp [loadCells, loadCellsFrom])
          exact OpQ.ops I ⟨.string ByteArray.empty, by simpa [h1] using h2, .d _ _ (by have := Rep.str (w := E.w) (S := E.S) ByteArray.empty; simpa using this)⟩
      · have hcell : ∀ i, i < ns.length → E.w.cell? ⟨b, off + i, none⟩ = some (.int .u8 (ns.getD i 0)) := fun i hi => by
          have hy : (ns.map (fun n => [D.int .u8 n]))[i]? = some [.int .u8 ns[i]] := by simp [hi]
          have hs1 : s' = 1 := (h2 _ (List.mem_of_getElem? hy)).symm
          subst hs1
          obtain ⟨u, hu, hu2⟩ := h3 i _ 0 _ hy rfl
          have := rep_int hu2
          subst this
          rw [Nat.mul_one, Nat.add_zero] at hu
          simpa [List.getD, hi] using hu
        have := run_convert_bytes_arg (P := P) E.w src e hs he b off ns.length cap ns rfl hcell dst hd
        refine OpQ.ops I ⟨.string (strOfNums ns), by simpa using this, .d _ _ ?_⟩
        have := Rep.str (w := E.w) (S := E.S) (strOfNums ns)
        rwa [strOfNums_data] at this
    · cases h
  · cases h
end Go.Rx
