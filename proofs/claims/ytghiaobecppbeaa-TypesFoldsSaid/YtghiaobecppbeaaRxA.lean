/- Rx, part 1: plain data, the values of a frame, the call's own objects, and how they are read in a world. -/
import Derived.Below
import Derived.LoopN
import Derived.Orders
namespace Go.Rx
open Go Go.RowKit
set_option linter.unusedVariables false
set_option linter.unusedSimpArgs false

/-- Plain data: one cell. A list is a slice: its elements, each the list of its cells. -/
inductive D where
  | bool (b : Bool)
  | int (k : IntKind) (n : Int)
  | str (s : List UInt8)
  | list (es : List (List D))
  | nilp

/-- Names of the call's own objects: by the place at which they were made or came in. -/
inductive Nm where
  | slot (t : Nat)
  | arg (i : Nat)
  | res (t : Nat)
  | cell (n : Nm) (k : Nat) deriving DecidableEq

/-- What a slot of a frame, or a cell of an own object, holds. -/
inductive AV where
  | undef
  | d (x : D)
  | nilsl
  | agg (vs : List AV)
  | tuple (vs : List AV)
  | own (o : Nm) (ver n : Nat)
  | ptr (o : Nm) (off : Nat)
  | eptr (o : Nm) (ver i off : Nat)
  | rptr (e : List D) (off : Nat)
  | fn (f : FuncId) (caps : List AV)
  | iface (t : TypeId) (a : AV)

/-- An own object: a row of variables; a row that grows, of plain elements; such a row that is no longer written. -/
inductive AObj where
  | cells (cs : List AV)
  | arr (e : TypeId) (s ver : Nat) (es : List (List D))
  | frz (e : TypeId) (s ver : Nat) (es : List (List D))

def AObj.live : AObj → Bool
  | .frz .. => false
  | _ => true

abbrev Hp := List (Nm × AObj)
def Hp.get : Hp → Nm → Option AObj
  | [], _ => none
  | (p, x) :: r, o => if p = o then some x else Hp.get r o

abbrev Fr := List (Nat × AV)
def Fr.get : Fr → Nat → AV
  | [], _ => .undef
  | (p, x) :: r, t => if p = t then x else Fr.get r t

theorem Hp.get_cons (p : Nm) (x : AObj) (H : Hp) (o : Nm) : Hp.get ((p, x) :: H) o = if p = o then some x else H.get o := rfl
theorem Hp.get_same (p : Nm) (x : AObj) (H : Hp) : Hp.get ((p, x) :: H) p = some x := by simp [Hp.get]
theorem Hp.get_other {p o : Nm} (x : AObj) (H : Hp) (h : p ≠ o) : Hp.get ((p, x) :: H) o = H.get o := by simp [Hp.get, h]

/-- A value reads, in the world w, as this datum, and what it reads lies in blocks of S. -/
inductive Rep (w : World) (S : Nat → Prop) : Value → D → Prop
  | bool (b) : Rep w S (.bool b) (.bool b)
  | int (k n) : Rep w S (.int k n) (.int k n)
  | str (s : ByteArray) : Rep w S (.string s) (.str s.data.toList)
  | nilp : Rep w S (.pointer none) .nilp
  | empty (a cap) : cap ≤ maxLen → Rep w S (.slice a 0 cap) (.list [])
  | list (b off cap s : Nat) (es : List (List D)) (c : Nat → Nat → Value) : S b → es.length ≤ cap → cap ≤ maxLen → (∀ e ∈ es, e.length = s) →
      (∀ i e j d, es[i]? = some e → e[j]? = some d → w.cell? ⟨b, off + (i * s + j), none⟩ = some (c i j)) →
      (∀ i e j d, es[i]? = some e → e[j]? = some d → Rep w S (c i j) d) → Rep w S (.slice (some ⟨b, off, none⟩) es.length cap) (.list es)

theorem cell?_of_heap {w w' : World} {a : Addr} (h : w'.heap[a.block]? = w.heap[a.block]?) : w'.cell? a = w.cell? a := by simp [World.cell?, h]

theorem Rep.mono {w w' : World} {S S' : Nat → Prop} (hw : ∀ b, S b → S' b ∧ w'.heap[b]? = w.heap[b]?) {v : Value} {x : D} (h : Rep w S v x) : Rep w' S' v x := by
  induction h with
  | bool b => exact .bool b
  | int k n => exact .int k n
  | str s => exact .str s
  | nilp => exact .nilp
  | empty a cap hc => exact .empty a cap hc
  | list b off cap s es c hb h1 hm h2 h3 h4 ih =>
    exact .list b off cap s es c (hw b hb).1 h1 hm h2 (fun i e j d he hd => by rw [cell?_of_heap (hw b hb).2]; exact h3 i e j d he hd) (fun i e j d he hd => ih i e j d he hd)

theorem Rep.one {w : World} {S : Nat → Prop} {v : Value} {x : D} (h : Rep w S v x) : v.oneCell' = true := by cases h <;> rfl

/-- A world, with the blocks that are not written any more, and the own objects and where they lie. -/
structure En where
  w : World
  S : Nat → Prop
  φ : Nm → Nat × Nat
  H : Hp

/-- The slice that a handle stands for. -/
def En.sl (E : En) (o : Nm) (n : Nat) : Value := .slice (some ⟨(E.φ o).1, 0, none⟩) n (E.φ o).2
/-- What a handle on a row that grows says. -/
def OwnOk (E : En) (o : Nm) (ver : Nat) (R : Nat → List (List D) → Prop) : Prop :=
  ∃ x, E.H.get o = some x ∧ match x with
    | .arr _ s v es | .frz _ s v es => ver ≤ v ∧ (ver = v → R s es)
    | .cells _ => False

inductive RV (E : En) : Value → AV → Prop
  | undef (v : Value) : RV E v .undef
  | d (v : Value) (x : D) : Rep E.w E.S v x → RV E v (.d x)
  | nilsl : RV E (.slice none 0 0) .nilsl
  | agg (cs : List Value) (vs : List AV) : cs.length = vs.length → (∀ v ∈ cs, v.oneCell' = true) → (∀ (i : Nat) (v : Value) (a : AV), cs[i]? = some v → vs[i]? = some a → RV E v a) → RV E (.agg cs.toArray) (.agg vs)
  | tuple (cs : List Value) (vs : List AV) : cs.length = vs.length → (∀ (i : Nat) (v : Value) (a : AV), cs[i]? = some v → vs[i]? = some a → RV E v a) → RV E (.tuple cs.toArray) (.tuple vs)
  | own (v : Value) (o : Nm) (ver n : Nat) : v.oneCell' = true → OwnOk E o ver (fun _ es => v = E.sl o n ∧ n ≤ es.length) → RV E v (.own o ver n)
  | ptr (o : Nm) (off : Nat) (cs : List AV) : E.H.get o = some (.cells cs) → RV E (.pointer (some ⟨(E.φ o).1, off, none⟩)) (.ptr o off)
  | eptr (v : Value) (o : Nm) (ver i off : Nat) : v.oneCell' = true → OwnOk E o ver (fun s es => v = .pointer (some ⟨(E.φ o).1, i * s + off, none⟩) ∧ i < es.length) → RV E v (.eptr o ver i off)
  | rptr (b off : Nat) (e : List D) (k : Nat) : E.S b → (∀ j d, e[j]? = some d → ∃ c, E.w.cell? ⟨b, off + j, none⟩ = some c ∧ Rep E.w E.S c d) → RV E (.pointer (some ⟨b, off + k, none⟩)) (.rptr e k)
  | fn (f : FuncId) (cs : List Value) (caps : List AV) : cs.length = caps.length → (∀ (i : Nat) (v : Value) (a : AV), cs[i]? = some v → caps[i]? = some a → RV E v a) → RV E (.func (.func f) #[] cs.toArray) (.fn f caps)
  | iface (t : TypeId) (v : Value) (a : AV) : RV E v a → RV E (.iface t v) (.iface t a)

/-- How an own object lies in memory. -/
def RO (E : En) (o : Nm) : AObj → Prop
  | .cells cs => ∃ c ty, E.w.heap[(E.φ o).1]? = some (.cells c ty (0, 0)) ∧ c.size = cs.length ∧ (∀ (k : Nat) (v : Value), c[k]? = some v → v.oneCell' = true) ∧ ∀ (k : Nat) (v : Value) (a : AV), c[k]? = some v → cs[k]? = some a → RV E v a
  | .arr e s _ es => ∃ c, E.w.heap[(E.φ o).1]? = some (.cells c e (0, 0)) ∧ c.size = (E.φ o).2 * s ∧ es.length ≤ (E.φ o).2 ∧ (E.φ o).2 ≤ maxLen ∧ (∀ x ∈ es, x.length = s) ∧
      ∀ i x j d, es[i]? = some x → x[j]? = some d → ∃ v, c[i * s + j]? = some v ∧ Rep E.w E.S v d
  | .frz e s _ es => E.S (E.φ o).1 ∧ ∃ c fz, E.w.heap[(E.φ o).1]? = some (.cells c e fz) ∧ es.length ≤ (E.φ o).2 ∧ (E.φ o).2 ≤ maxLen ∧ (∀ x ∈ es, x.length = s) ∧
      ∀ i x j d, es[i]? = some x → x[j]? = some d → ∃ v, c[i * s + j]? = some v ∧ Rep E.w E.S v d

def Owns (E : En) (b : Nat) : Prop := ∃ o x, E.H.get o = some x ∧ x.live = true ∧ (E.φ o).1 = b

structure Inv (E : En) : Prop where
  obj : ∀ o x, E.H.get o = some x → RO E o x
  dist : ∀ o o' x x', E.H.get o = some x → E.H.get o' = some x' → x.live = true → x'.live = true → (E.φ o).1 = (E.φ o').1 → o = o'
  free : ∀ o x, E.H.get o = some x → x.live = true → ¬ E.S (E.φ o).1
  sin : ∀ b, E.S b → b < E.w.heap.size

/-- What a run may do: new blocks, and writes to own ones. -/
structure Step (E E' : En) : Prop where
  os : E'.w.os = E.w.os
  tape : E'.w.tape = E.w.tape
  output : E'.w.output = E.w.output
  size : E.w.heap.size ≤ E'.w.heap.size
  keep : ∀ b, b < E.w.heap.size → ¬ Owns E b → E'.w.heap[b]? = E.w.heap[b]?
  sub : ∀ b, E.S b → E'.S b
  new : ∀ b, E'.S b ∨ Owns E' b → b < E.w.heap.size → E.S b ∨ Owns E b

/-- Handles hold on. -/
def Compat (E E' : En) (o : Nm) (x x' : AObj) : Prop :=
  match x, x' with
  | .cells _, .cells _ => E'.φ o = E.φ o
  | .arr _ s v es, .arr _ s' v' es' | .arr _ s v es, .frz _ s' v' es' | .frz _ s v es, .frz _ s' v' es' => v ≤ v' ∧ (v = v' → s' = s ∧ E'.φ o = E.φ o ∧ es.length ≤ es'.length)
  | _, _ => False

structure Fit (E E' : En) : Prop where
  st : ∀ b, E.S b → E'.S b ∧ E'.w.heap[b]? = E.w.heap[b]?
  hm : ∀ o x, E.H.get o = some x → ∃ x', E'.H.get o = some x' ∧ Compat E E' o x x'

theorem Step.refl (E : En) : Step E E := ⟨rfl, rfl, rfl, Nat.le_refl _, fun _ _ _ => rfl, fun _ h => h, fun _ h _ => h⟩

theorem Inv.not_owns {E : En} (I : Inv E) {b : Nat} (h : E.S b) : ¬ Owns E b := fun ⟨o, x, hg, hl, hb⟩ => I.free o x hg hl (hb ▸ h)

theorem Step.trans {E E' E'' : En} (I' : Inv E') (h : Step E E') (k : Step E' E'') : Step E E'' where
  os := k.os.trans h.os
  tape := k.tape.trans h.tape
  output := k.output.trans h.output
  size := Nat.le_trans h.size k.size
  keep b hb ho := by
    have h1 := h.keep b hb ho
    rw [← h1]
    refine k.keep b (Nat.lt_of_lt_of_le hb h.size) (fun h2 => ?_)
    rcases h.new b (.inr h2) hb with h3 | h3
    · exact I'.not_owns (h.sub b h3) h2
    · exact ho h3
  sub b hb := k.sub b (h.sub b hb)
  new b hb hlt := h.new b (k.new b hb (Nat.lt_of_lt_of_le hlt h.size)) hlt

theorem Compat.refl (E : En) (o : Nm) (x : AObj) : Compat E E o x x := by
  cases x with
  | cells cs => exact rfl
  | arr e s v es => exact ⟨Nat.le_refl _, fun _ => ⟨rfl, rfl, Nat.le_refl _⟩⟩
  | frz e s v es => exact ⟨Nat.le_refl _, fun _ => ⟨rfl, rfl, Nat.le_refl _⟩⟩

theorem Fit.refl (E : En) : Fit E E := ⟨fun _ h => ⟨h, rfl⟩, fun o x h => ⟨x, h, Compat.refl E o x⟩⟩

theorem Compat.trans {E E' E'' : En} {o : Nm} {x x' x'' : AObj} (h : Compat E E' o x x') (k : Compat E' E'' o x' x'') : Compat E E'' o x x'' := by
  cases x <;> cases x' <;> simp only [Compat] at h <;> cases x'' <;> simp only [Compat] at k ⊢ <;> try exact k.trans h
  all_goals
    obtain ⟨h1, h2⟩ := h
    obtain ⟨k1, k2⟩ := k
    refine ⟨Nat.le_trans h1 k1, fun e => ?_⟩
    obtain ⟨a1, a2, a3⟩ := h2 (by omega)
    obtain ⟨b1, b2, b3⟩ := k2 (by omega)
    exact ⟨b1.trans a1, b2.trans a2, Nat.le_trans a3 b3⟩

theorem Fit.trans {E E' E'' : En} (h : Fit E E') (k : Fit E' E'') : Fit E E'' where
  st b hb := ⟨(k.st b (h.st b hb).1).1, ((k.st b (h.st b hb).1).2).trans (h.st b hb).2⟩
  hm o x hg := by
    obtain ⟨x', h1, c1⟩ := h.hm o x hg
    obtain ⟨x'', h2, c2⟩ := k.hm o x' h1
    exact ⟨x'', h2, c1.trans c2⟩

theorem Fit.rep {E E' : En} (h : Fit E E') {v : Value} {x : D} (hr : Rep E.w E.S v x) : Rep E'.w E'.S v x := hr.mono h.st

theorem OwnOk.mono {E E' : En} (h : Fit E E') {o : Nm} {ver : Nat} {R R' : Nat → List (List D) → Prop} (hr : OwnOk E o ver R)
    (hR : ∀ s es es', E'.φ o = E.φ o → es.length ≤ es'.length → R s es → R' s es') : OwnOk E' o ver R' := by
  obtain ⟨x, hg, hx⟩ := hr
  obtain ⟨x', hg', hc⟩ := h.hm o x hg
  refine ⟨x', hg', ?_⟩
  cases x <;> cases x' <;> simp only [Compat] at hc hx ⊢
  all_goals
    obtain ⟨c1, c2⟩ := hc
    obtain ⟨x1, x2⟩ := hx
    refine ⟨Nat.le_trans x1 c1, fun e => ?_⟩
    obtain ⟨e1, e2, e3⟩ := c2 (by omega)
    subst e1
    exact hR _ _ _ e2 e3 (x2 (by omega))

theorem RV.mono {E E' : En} (h : Fit E E') {v : Value} {a : AV} (hr : RV E v a) : RV E' v a := by
  induction hr with
  | undef v => exact .undef v
  | d v x hx => exact .d v x (h.rep hx)
  | nilsl => exact .nilsl
  | agg cs vs hl h1 _ ih => exact .agg cs vs hl h1 ih
  | tuple cs vs hl _ ih => exact .tuple cs vs hl ih
  | own v o ver n h1 ho =>
    refine .own v o ver n h1 (ho.mono h fun s es es' hφ hle hR => ⟨?_, Nat.le_trans hR.2 hle⟩)
    rw [hR.1, En.sl, En.sl, hφ]
  | ptr o off cs hg =>
    obtain ⟨x', hg', hc⟩ := h.hm o _ hg
    cases x' with
    | cells cs' =>
      have hc' : E'.φ o = E.φ o := hc
      rw [← hc']
      exact .ptr o off cs' hg'
    | arr e s v es => exact hc.elim
    | frz e s v es => exact hc.elim
  | eptr v o ver i off h1 ho =>
    refine .eptr v o ver i off h1 (ho.mono h fun s es es' hφ hle hR => ⟨?_, Nat.lt_of_lt_of_le hR.2 hle⟩)
    rw [hR.1, hφ]
  | rptr b off e k hb hc =>
    refine .rptr b off e k (h.st b hb).1 (fun j d hd => ?_)
    obtain ⟨c, h1, h2⟩ := hc j d hd
    exact ⟨c, by rw [cell?_of_heap (h.st b hb).2]; exact h1, h.rep h2⟩
  | fn f cs caps hl _ ih => exact .fn f cs caps hl ih
  | iface t v a _ ih => exact .iface t v a ih

/-- From a step to a fit: what is not owned is kept. -/
theorem Step.st {E E' : En} (I : Inv E) (h : Step E E') : ∀ b, E.S b → E'.S b ∧ E'.w.heap[b]? = E.w.heap[b]? :=
  fun b hb => ⟨h.sub b hb, h.keep b (I.sin b hb) (I.not_owns hb)⟩
end Go.Rx
