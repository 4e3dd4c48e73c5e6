/- Rx, part 10: slices, makes, conversions. -/
import Derived.Test.YtghiaobecppbeaaRxI
namespace Go.Rx
open Go Go.RowKit
set_option linter.unusedVariables false
set_option linter.unusedSimpArgs false

def intV : Option AV → Option (Option Int)
  | none => some none
  | some (.d (.int _ n)) => some (some n)
  | _ => none
/-- Bounds l ≤ h ≤ m within a length. -/
def bnds (len : Nat) (lo hi mx : Option Int) : Option (Nat × Nat) :=
  if 0 ≤ lo.getD 0 ∧ lo.getD 0 ≤ hi.getD (len : Int) ∧ hi.getD (len : Int) ≤ mx.getD (len : Int) ∧ mx.getD (len : Int) ≤ (len : Int) ∧ (mx.isSome → hi.isSome) then some ((lo.getD 0).toNat, (hi.getD (len : Int)).toNat) else none

inductive IntR : Option Value → Option Int → Prop
  | none : IntR .none .none
  | some (k : IntKind) (n : Int) : IntR (.some (.int k n)) (.some n)
theorem intV_ok {E : En} {v : Option Value} {a : Option AV} {n : Option Int} (hv : v.isSome = a.isSome) (h : ∀ x y, v = some x → a = some y → RV E x y) (hn : intV a = some n) : IntR v n := by
  cases a with
  | none =>
    cases v with
    | none => injection hn with hn; subst hn; exact .none
    | some x => simp at hv
  | some y =>
    cases v with
    | none => simp at hv
    | some x =>
      have hr := h x y rfl rfl
      cases y <;> simp only [intV] at hn <;> try cases hn
      rename_i d
      cases d <;> simp only [] at hn <;> try cases hn
      obtain rfl := rep_int (rv_d hr)
      exact .some _ _


theorem bounds_run {P : Program} {w : World} (b : Bool) {len cap : Nat} {lo hi mx : Option Value} {lo' hi' mx' : Option Int} {l h : Nat} (hle : len ≤ cap) (h1 : IntR lo lo') (h2 : IntR hi hi') (h3 : IntR mx mx') (hb : bnds len lo' hi' mx' = some (l, h)) :
    ∃ m, (Instr.sliceBounds b len cap lo hi mx).run P w = .ok (l, h, m) w ∧ l ≤ h ∧ h ≤ len ∧ h ≤ m ∧ m ≤ cap ∧ (mx = none → m = cap) := by
  unfold bnds at hb
  split at hb
  · rename_i hh
    obtain ⟨g1, g2, g3, g4, g5⟩ := hh
    injection hb with hb
    injection hb with hl hhh
    subst hl hhh
    cases h3 with
    | none =>
      simp only [Option.getD_none] at g3 g4
      cases h2 with
      | none =>
        simp only [Option.getD_none] at g2 g3 ⊢
        cases h1 with
        | none => exact ⟨cap, by simp [Instr.sliceBounds], by simp, by simp, by simp; omega, Nat.le_refl _, fun _ => rfl⟩
        | some k n =>
          simp only [Option.getD_some] at g1 g2 ⊢
          refine ⟨cap, ?_, by omega, by omega, by omega, Nat.le_refl _, fun _ => rfl⟩
          simp [Instr.sliceBounds, run_sliceBound (P := P) w k n _ _ g1 g2]
      | some k n =>
        simp only [Option.getD_some] at g2 g3 ⊢
        cases h1 with
        | none =>
          simp only [Option.getD_none] at g1 g2 ⊢
          refine ⟨cap, ?_, by omega, by omega, by omega, Nat.le_refl _, fun _ => rfl⟩
          simp [Instr.sliceBounds, run_sliceBound (P := P) w k n cap _ g2 (by omega)]
        | some k' n' =>
          simp only [Option.getD_some] at g1 g2 ⊢
          refine ⟨cap, ?_, by omega, by omega, by omega, Nat.le_refl _, fun _ => rfl⟩
          simp [Instr.sliceBounds, run_sliceBound (P := P) w k n cap _ (by omega) (by omega), run_sliceBound (P := P) w k' n' n.toNat _ g1 (by omega)]
    | some km m =>
      simp only [Option.getD_some] at g3 g4
      cases h2 with
      | none => simp at g5
      | some k n =>
        simp only [Option.getD_some] at g2 g3 ⊢
        cases h1 with
        | none =>
          simp only [Option.getD_none] at g1 g2 ⊢
          refine ⟨m.toNat, ?_, by omega, by omega, by omega, by omega, fun e => by cases e⟩
          simp [Instr.sliceBounds, run_sliceBound (P := P) w km m cap _ (by omega) (by omega), run_sliceBound (P := P) w k n m.toNat _ g2 (by omega)]
        | some k' n' =>
          simp only [Option.getD_some] at g1 g2 ⊢
          refine ⟨m.toNat, ?_, by omega, by omega, by omega, by omega, fun e => by cases e⟩
          simp [Instr.sliceBounds, run_sliceBound (P := P) w km m cap _ (by omega) (by omega), run_sliceBound (P := P) w k n m.toNat _ (by omega) (by omega), run_sliceBound (P := P) w k' n' n.toNat _ g1 (by omega)]
  · cases hb

/-- A part of a list. -/
def partL (es : List (List D)) (s : Nat) (lo hi mx : Option Int) : Option D :=
  if es.all (fun y => y.length == s) then (bnds es.length lo hi mx).map fun b => .list ((es.take b.2).drop b.1) else none
def sliceL (P : Program) (H : Hp) (e : TypeId) (x : AV) (lo hi mx : Option Int) : Option (AV × Hp) :=
  match x with
  | .d (.list es) => (sizeT P e).bind fun s => (partL es s lo hi mx).map fun d => (.d d, H)
  | _ => none
def aSlice (P : Program) (H : Hp) (t : TypeId) (x : AV) (lo hi mx : Option AV) : Option (AV × Hp) :=
  (intV lo).bind fun l => (intV hi).bind fun h => (intV mx).bind fun m => match P.underlying t with
    | some .string => match x with
      | .d (.str s) => if m.isSome then none else (bnds s.length l h none).map fun b => (.d (.str ((s.take b.2).drop b.1)), H)
      | _ => none
    | some (.slice e) => match x with
      | .nilsl => (sizeT P e).bind fun _ => (bnds 0 l h m).map fun _ => (.nilsl, H)
      | .own o ver n => if l.isNone ∧ m.isNone then (match H.get o with
          | some (.arr _ _ v _) => if v = ver ∧ (P.info? e).isSome then (bnds n l h m).map fun b => (.own o ver b.2, H) else none
          | _ => none)
        else (seal1 H x).bind fun y => sliceL P y.2 e (.d y.1) l h m
      | x => sliceL P H e x l h m
    | _ => none

theorem sliceL_ok {P : Program} {E : En} {t e : TypeId} {u : Value} {x r : AV} {lo hi mx : Option Value} {l h m : Option Int} {H' : Hp} (ht : P.underlying t = some (.slice e)) (hx : RV E u x) (h1 : IntR lo l) (h2 : IntR hi h) (h3 : IntR mx m) (hs : sliceL P E.H e x l h m = some (r, H')) :
    H' = E.H ∧ OpQ P E (Instr.sliceAt t u lo hi mx) r := by
  unfold sliceL at hs
  split at hs
  · rename_i es
    simp only [Option.bind_eq_some_iff] at hs
    obtain ⟨s, hsz, hs⟩ := hs
    rw [Option.map_eq_some_iff] at hs
    obtain ⟨d, hd, hs⟩ := hs
    injection hs with hs hH
    subst hs hH
    unfold partL at hd
    split at hd
    · rename_i hall
      rw [Option.map_eq_some_iff] at hd
      obtain ⟨⟨bl, bh⟩, hb, hs⟩ := hd
      subst hs
      refine ⟨rfl, ?_⟩
      have hall' : ∀ y ∈ es, y.length = s := fun y hy => by rw [List.all_eq_true] at hall; simpa using hall y hy
      have run : ∀ (a : Option Addr) (cap : Nat), es.length ≤ cap → ∃ mm, (Instr.sliceAt t (.slice a es.length cap) lo hi mx).run P E.w = .ok (.slice (if mm = bl then a else a.map (·.add (bl * s))) (bh - bl) (mm - bl)) E.w ∧ bl ≤ bh ∧ bh ≤ es.length ∧ bh ≤ mm ∧ mm ≤ cap := fun a cap hc => by
        obtain ⟨mm, r1, r2, r3, r4, r5, _⟩ := bounds_run (P := P) (w := E.w) true hc h1 h2 h3 hb
        exact ⟨mm, by simp [Instr.sliceAt, run_underlying ht, Instr.slice, r1, sizeT_ok hsz], r2, r3, r4, r5⟩
      have hrep := rv_d hx
      by_cases hemp : bl = bh
      · have e1 : (es.take bh).drop bl = [] := by apply List.eq_nil_of_length_eq_zero; simp; omega
        simp only [e1]
        have fin : ∀ (a : Option Addr) (cap : Nat), es.length ≤ cap → cap ≤ maxLen → u = .slice a es.length cap → OpQ P E (Instr.sliceAt t u lo hi mx) (.d (.list [])) := fun a cap hc hm he => by
          subst he
          obtain ⟨mm, r1, r2, r3, r4, r5⟩ := run a cap hc
          refine ⟨_, r1, .d _ _ ?_⟩
          rw [show bh - bl = 0 by omega]
          exact .empty _ _ (by omega)
        cases hrep with
        | empty a cap hc => exact fin a cap (by simp) hc rfl
        | list b off cap s' es c hb' g1 gm g2 g3 g4 => exact fin _ cap g1 gm rfl
      · cases hrep with
        | empty a cap hc =>
          obtain ⟨mm, r1, r2, r3, r4, r5⟩ := run a cap (by simp)
          simp at r3; omega
        | list b off cap s' es c hb' g1 gm g2 g3 g4 =>
          obtain ⟨mm, r1, r2, r3, r4, r5⟩ := run (some ⟨b, off, none⟩) cap g1
          have hes : es ≠ [] := fun e => by subst e; simp at r3; omega
          obtain ⟨y0, hy0⟩ := List.exists_mem_of_ne_nil es hes
          obtain rfl : s = s' := (hall' y0 hy0).symm.trans (g2 y0 hy0)
          refine ⟨_, r1, .d _ _ ?_⟩
          rw [if_neg (by omega)]
          simp only [Option.map_some, Addr.add_lit]
          have hlen : ((es.take bh).drop bl).length = bh - bl := by simp; omega
          have hget : ∀ (i : Nat) (y : List D), ((es.take bh).drop bl)[i]? = some y → es[bl + i]? = some y := fun i y hy => by
            rw [List.getElem?_drop, List.getElem?_take] at hy
            split at hy
            · exact hy
            · cases hy
          have key := Rep.list (w := E.w) (S := E.S) b (off + bl * s) (mm - bl) s ((es.take bh).drop bl) (fun i j => c (bl + i) j) hb' (by omega) (by omega) (fun y hy => g2 y (List.mem_of_mem_take (List.mem_of_mem_drop hy)))
            (fun i y j d hy hd => by
              have := g3 (bl + i) y j d (hget i y hy) hd
              rw [show off + bl * s + (i * s + j) = off + ((bl + i) * s + j) by rw [Nat.add_mul]; omega]
              exact this)
            (fun i y j d hy hd => g4 (bl + i) y j d (hget i y hy) hd)
          rw [hlen] at key
          exact key
    · cases hd
  · cases hs

theorem slice_ok {P : Program} {E : En} (I : Inv E) {t : TypeId} {u : Value} {x r : AV} {lo hi mx : Option Value} {alo ahi amx : Option AV} {H' : Hp} (hx : RV E u x)
    (q1 : lo.isSome = alo.isSome) (p1 : ∀ a b, lo = some a → alo = some b → RV E a b) (q2 : hi.isSome = ahi.isSome) (p2 : ∀ a b, hi = some a → ahi = some b → RV E a b) (q3 : mx.isSome = amx.isSome) (p3 : ∀ a b, mx = some a → amx = some b → RV E a b)
    (h : aSlice P E.H t x alo ahi amx = some (r, H')) : OpS P E (do pure (.value (← Instr.sliceAt t u lo hi mx))) r H' := by
  unfold aSlice at h
  simp only [Option.bind_eq_some_iff] at h
  obtain ⟨l, hl, hh, hhh, m, hm, h⟩ := h
  have h1 := intV_ok q1 p1 hl
  have h2 := intV_ok q2 p2 hhh
  have h3 := intV_ok q3 p3 hm
  split at h
  · rename_i ht
    split at h
    · rename_i s
      split at h
      · cases h
      · rename_i hms
        rw [Option.map_eq_some_iff] at h
        obtain ⟨⟨bl, bh⟩, hb, h⟩ := h
        injection h with h hH
        subst h hH
        obtain ⟨b, rfl, rfl⟩ := rep_str (rv_d hx)
        have hmn : m = none := by cases m with | none => rfl | some a => simp at hms
        subst hmn
        cases h3
        have hsz : b.data.toList.length = b.size := rfl
        rw [hsz] at hb
        obtain ⟨mm, r1, r2, r3, r4, r5, _⟩ := bounds_run (P := P) (w := E.w) false (Nat.le_refl _) h1 h2 .none hb
        refine OpQ.ops I ⟨.string (b.extract bl bh), by simp [Instr.sliceAt, run_underlying ht, Instr.slice, r1], .d _ _ ?_⟩
        have e1 : (b.extract bl bh).data.toList = (b.data.toList.take bh).drop bl := by
          rw [ByteArray.data_extract, Array.toList_extract, List.extract_eq_take_drop, List.drop_take]
        rw [← e1]; exact .str _
    · cases h
  · rename_i e ht
    split at h
    · simp only [Option.bind_eq_some_iff, Option.map_eq_some_iff] at h
      obtain ⟨s, hsz, ⟨bl, bh⟩, hb, h⟩ := h
      injection h with h hH
      subst h hH
      cases hx with
      | nilsl =>
      obtain ⟨mm, r1, r2, r3, r4, r5, _⟩ := bounds_run (P := P) (w := E.w) true (Nat.le_refl 0) h1 h2 h3 hb
      have e1 : bl = 0 := by omega
      have e2 : bh = 0 := by omega
      have e3 : mm = 0 := by omega
      subst e1 e2 e3
      exact OpQ.ops I ⟨.slice none 0 0, by simp [Instr.sliceAt, run_underlying ht, Instr.slice, r1, sizeT_ok hsz], .nilsl⟩
    · rename_i o ver n
      split at h
      · rename_i hlm
        obtain ⟨hl0, hm0⟩ := hlm
        have hln : l = none := by cases l with | none => rfl | some a => simp at hl0
        have hmn : m = none := by cases m with | none => rfl | some a => simp at hm0
        subst hln hmn
        cases h1
        cases h3
        split at h
        · rename_i e' s w es hg
          split at h
          · rename_i hw
            obtain ⟨hw, hin⟩ := hw
            subst hw
            rw [Option.map_eq_some_iff] at h
            obtain ⟨⟨bl, bh⟩, hb, h⟩ := h
            injection h with h hH
            subst h hH
            cases hx with
            | own _ _ _ _ g1 ho =>
            obtain ⟨z, hgz, hz⟩ := ho
            rw [hg] at hgz
            injection hgz with hgz
            subst hgz
            obtain ⟨rfl, hn⟩ := hz.2 rfl
            obtain ⟨c1, c2, c3, c4⟩ := arr_cells I hg (.inl ⟨e', rfl⟩)
            obtain ⟨mm, r1, r2, r3, r4, r5, r6⟩ := bounds_run (P := P) (w := E.w) true (show n ≤ (E.φ o).2 by omega) .none h2 .none hb
            obtain rfl := r6 rfl
            have e1 : bl = 0 := by
              unfold bnds at hb
              split at hb
              · injection hb with hb; injection hb with hb1 hb2; rw [← hb1]; rfl
              · cases hb
            subst e1
            cases hi2 : P.info? e with
            | none => rw [hi2] at hin; cases hin
            | some i =>
              refine OpQ.ops I ⟨E.sl o bh, ?_, .own _ _ _ _ rfl ⟨_, hg, Nat.le_refl _, fun _ => ⟨rfl, by omega⟩⟩⟩
              simp [Instr.sliceAt, run_underlying ht, Instr.slice, En.sl, r1, sizeOf, typeInfo, hi2, Addr.add_lit]
          · cases h
        · cases h
      · simp only [Option.bind_eq_some_iff] at h
        obtain ⟨⟨d, H1⟩, hs, h⟩ := h
        obtain ⟨E1, w1, e1, I1, S1, F1, r1⟩ := seal1_ok I hx hs
        subst e1
        obtain ⟨hH, v, q, qr⟩ := sliceL_ok (P := P) (x := .d d) ht (.d _ _ r1) h1 h2 h3 h
        subst hH
        rw [w1] at q
        exact ⟨v, E1, .value v, by rw [w1]; simp [q], .inl rfl, qr, I1, rfl, S1, F1⟩
    · obtain ⟨hH, q⟩ := sliceL_ok (P := P) ht hx h1 h2 h3 h
      subst hH
      exact OpQ.ops I q
  · cases h
end Go.Rx
