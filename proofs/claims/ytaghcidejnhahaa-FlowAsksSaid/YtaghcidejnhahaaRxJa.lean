/- A part of the proof of the law: what functions of the program come to, walked by Rx, or plain facts on it. -/
import Derived.Below
import Derived.LoopN
import Derived.Orders
import Derived.Laws.StructEq
import Derived.Laws.BytesArg
import Derived.Laws.Slices
import Derived.Laws.Concat
import Derived.Laws.IdiomStrings
import Derived.Laws.Runes
section
namespace Go.Rx
open Go Go.RowKit
set_option linter.unusedVariables false
set_option linter.unusedSimpArgs false

/-- Plain data: one cell. A list is a slice: its elements, each the list of its cells. -/
inductive D where
  | bool (b : Bool)
  | int (k : IntKind) (n : Int)
  | str (s : List UInt8)
  | list (es : List (List D))
  | nilp

/-- Names of the call's own objects: by the place at which they were made or came in. -/
inductive Nm where
  | slot (t : Nat)
  | arg (i : Nat)
  | res (t : Nat)
  | cell (n : Nm) (k : Nat) deriving DecidableEq

/-- What a slot of a frame, or a cell of an own object, holds. -/
inductive AV where
  | undef
  | d (x : D)
  | nilsl
  | agg (vs : List AV)
  | tuple (vs : List AV)
  | own (o : Nm) (ver n : Nat)
  | ptr (o : Nm) (off : Nat)
  | eptr (o : Nm) (ver i off : Nat)
  | rptr (e : List D) (off : Nat)
  | fn (f : FuncId) (caps : List AV)
  | iface (t : TypeId) (a : AV)

/-- An own object: a row of variables; a row that grows, of plain elements; such a row that is no longer written. -/
inductive AObj where
  | cells (cs : List AV)
  | arr (e : TypeId) (s ver : Nat) (es : List (List D))
  | frz (e : TypeId) (s ver : Nat) (es : List (List D))

def AObj.live : AObj → Bool
  | .frz .. => false
  | _ => true

abbrev Hp := List (Nm × AObj)
def Hp.get : Hp → Nm → Option AObj
  | [], _ => none
  | (p, x) :: r, o => if p = o then some x else Hp.get r o

abbrev Fr := List (Nat × AV)
def Fr.get : Fr → Nat → AV
  | [], _ => .undef
  | (p, x) :: r, t => if p = t then x else Fr.get r t

theorem Hp.get_cons (p : Nm) (x : AObj) (H : Hp) (o : Nm) : Hp.get ((p, x) :: H) o = if p = o then some x else H.get o := rfl
theorem Hp.get_same (p : Nm) (x : AObj) (H : Hp) : Hp.get ((p, x) :: H) p = some x := by simp [Hp.get]
theorem Hp.get_other {p o : Nm} (x : AObj) (H : Hp) (h : p ≠ o) : Hp.get ((p, x) :: H) o = H.get o := by simp [Hp.get, h]

/-- A value reads, in the world w, as this datum, and what it reads lies in blocks of S. -/
inductive Rep (w : World) (S : Nat → Prop) : Value → D → Prop
  | bool (b) : Rep w S (.bool b) (.bool b)
  | int (k n) : Rep w S (.int k n) (.int k n)
  | str (s : ByteArray) : Rep w S (.string s) (.str s.data.toList)
  | nilp : Rep w S (.pointer none) .nilp
  | empty (a cap) : cap ≤ maxLen → Rep w S (.slice a 0 cap) (.list [])
  | list (b off cap s : Nat) (es : List (List D)) (c : Nat → Nat → Value) : S b → es.length ≤ cap → cap ≤ maxLen → (∀ e ∈ es, e.length = s) →
      (∀ i e j d, es[i]? = some e → e[j]? = some d → w.cell? ⟨b, off + (i * s + j), none⟩ = some (c i j)) →
      (∀ i e j d, es[i]? = some e → e[j]? = some d → Rep w S (c i j) d) → Rep w S (.slice (some ⟨b, off, none⟩) es.length cap) (.list es)

theorem cell?_of_heap {w w' : World} {a : Addr} (h : w'.heap[a.block]? = w.heap[a.block]?) : w'.cell? a = w.cell? a := by simp [World.cell?, h]

theorem Rep.mono {w w' : World} {S S' : Nat → Prop} (hw : ∀ b, S b → S' b ∧ w'.heap[b]? = w.heap[b]?) {v : Value} {x : D} (h : Rep w S v x) : Rep w' S' v x := by
  induction h with
  | bool b => exact .bool b
  | int k n => exact .int k n
  | str s => exact .str s
  | nilp => exact .nilp
  | empty a cap hc => exact .empty a cap hc
  | list b off cap s es c hb h1 hm h2 h3 h4 ih =>
    exact .list b off cap s es c (hw b hb).1 h1 hm h2 (fun i e j d he hd => by rw [cell?_of_heap (hw b hb).2]; exact h3 i e j d he hd) (fun i e j d he hd => ih i e j d he hd)

theorem Rep.one {w : World} {S : Nat → Prop} {v : Value} {x : D} (h : Rep w S v x) : v.oneCell' = true := by cases h <;> rfl

/-- Where an own object lies: its block, its room, and how far in it begins. -/
structure Pl where
  b : Nat
  cap : Nat
  off : Nat
/-- A world, with the blocks that are not written any more, and the own objects and where they lie. -/
structure En where
  w : World
  S : Nat → Prop
  φ : Nm → Pl
  H : Hp

/-- The slice that a handle stands for. -/
def En.sl (E : En) (o : Nm) (n : Nat) : Value := .slice (some ⟨(E.φ o).1, (E.φ o).3, none⟩) n (E.φ o).2
/-- What a handle on a row that grows says. -/
def OwnOk (E : En) (o : Nm) (ver : Nat) (R : Nat → List (List D) → Prop) : Prop :=
  ∃ x, E.H.get o = some x ∧ match x with
    | .arr _ s v es | .frz _ s v es => ver ≤ v ∧ (ver = v → R s es)
    | .cells _ => False

inductive RV (E : En) : Value → AV → Prop
  | undef (v : Value) : RV E v .undef
  | d (v : Value) (x : D) : Rep E.w E.S v x → RV E v (.d x)
  | nilsl : RV E (.slice none 0 0) .nilsl
  | agg (cs : List Value) (vs : List AV) : cs.length = vs.length → (∀ v ∈ cs, v.oneCell' = true) → (∀ (i : Nat) (v : Value) (a : AV), cs[i]? = some v → vs[i]? = some a → RV E v a) → RV E (.agg cs.toArray) (.agg vs)
  | tuple (cs : List Value) (vs : List AV) : cs.length = vs.length → (∀ (i : Nat) (v : Value) (a : AV), cs[i]? = some v → vs[i]? = some a → RV E v a) → RV E (.tuple cs.toArray) (.tuple vs)
  | own (v : Value) (o : Nm) (ver n : Nat) : v.oneCell' = true → OwnOk E o ver (fun _ es => v = E.sl o n ∧ n ≤ es.length) → RV E v (.own o ver n)
  | ptr (o : Nm) (off : Nat) (cs : List AV) : E.H.get o = some (.cells cs) → RV E (.pointer (some ⟨(E.φ o).1, off, none⟩)) (.ptr o off)
  | eptr (v : Value) (o : Nm) (ver i off : Nat) : v.oneCell' = true → OwnOk E o ver (fun s es => v = .pointer (some ⟨(E.φ o).1, (E.φ o).3 + (i * s + off), none⟩) ∧ i < es.length) → RV E v (.eptr o ver i off)
  | rptr (b off : Nat) (e : List D) (k : Nat) : E.S b → (∀ j d, e[j]? = some d → ∃ c, E.w.cell? ⟨b, off + j, none⟩ = some c ∧ Rep E.w E.S c d) → RV E (.pointer (some ⟨b, off + k, none⟩)) (.rptr e k)
  | fn (f : FuncId) (cs : List Value) (caps : List AV) : cs.length = caps.length → (∀ (i : Nat) (v : Value) (a : AV), cs[i]? = some v → caps[i]? = some a → RV E v a) → RV E (.func (.func f) #[] cs.toArray) (.fn f caps)
  | iface (t : TypeId) (v : Value) (a : AV) : RV E v a → RV E (.iface t v) (.iface t a)

/-- How an own object lies in memory. -/
def RO (E : En) (o : Nm) : AObj → Prop
  | .cells cs => ∃ c ty, E.w.heap[(E.φ o).1]? = some (.cells c ty (0, 0)) ∧ c.size = cs.length ∧ (∀ (k : Nat) (v : Value), c[k]? = some v → v.oneCell' = true) ∧ ∀ (k : Nat) (v : Value) (a : AV), c[k]? = some v → cs[k]? = some a → RV E v a
  | .arr e s _ es => ∃ c, E.w.heap[(E.φ o).1]? = some (.cells c e (0, 0)) ∧ (E.φ o).3 + (E.φ o).2 * s ≤ c.size ∧ es.length ≤ (E.φ o).2 ∧ (E.φ o).2 ≤ maxLen ∧ (∀ x ∈ es, x.length = s) ∧
      ∀ i x j d, es[i]? = some x → x[j]? = some d → ∃ v, c[(E.φ o).3 + (i * s + j)]? = some v ∧ Rep E.w E.S v d
  | .frz e s _ es => E.S (E.φ o).1 ∧ ∃ c fz, E.w.heap[(E.φ o).1]? = some (.cells c e fz) ∧ es.length ≤ (E.φ o).2 ∧ (E.φ o).2 ≤ maxLen ∧ (∀ x ∈ es, x.length = s) ∧
      ∀ i x j d, es[i]? = some x → x[j]? = some d → ∃ v, c[(E.φ o).3 + (i * s + j)]? = some v ∧ Rep E.w E.S v d

def Owns (E : En) (b : Nat) : Prop := ∃ o x, E.H.get o = some x ∧ x.live = true ∧ (E.φ o).1 = b

structure Inv (E : En) : Prop where
  obj : ∀ o x, E.H.get o = some x → RO E o x
  dist : ∀ o o' x x', E.H.get o = some x → E.H.get o' = some x' → x.live = true → x'.live = true → (E.φ o).1 = (E.φ o').1 → o = o'
  free : ∀ o x, E.H.get o = some x → x.live = true → ¬ E.S (E.φ o).1
  sin : ∀ b, E.S b → b < E.w.heap.size

/-- What a run may do: new blocks, and writes to own ones. -/
structure Step (E E' : En) : Prop where
  os : E'.w.os = E.w.os
  tape : E'.w.tape = E.w.tape
  output : E'.w.output = E.w.output
  size : E.w.heap.size ≤ E'.w.heap.size
  keep : ∀ b, b < E.w.heap.size → ¬ Owns E b → E'.w.heap[b]? = E.w.heap[b]?
  sub : ∀ b, E.S b → E'.S b
  new : ∀ b, E'.S b ∨ Owns E' b → b < E.w.heap.size → E.S b ∨ Owns E b

/-- Handles hold on. -/
def Compat (E E' : En) (o : Nm) (x x' : AObj) : Prop :=
  match x, x' with
  | .cells _, .cells _ => E'.φ o = E.φ o
  | .arr _ s v es, .arr _ s' v' es' | .arr _ s v es, .frz _ s' v' es' | .frz _ s v es, .frz _ s' v' es' => v ≤ v' ∧ (v = v' → s' = s ∧ E'.φ o = E.φ o ∧ es.length ≤ es'.length)
  | _, _ => False

structure Fit (E E' : En) : Prop where
  st : ∀ b, E.S b → E'.S b ∧ E'.w.heap[b]? = E.w.heap[b]?
  hm : ∀ o x, E.H.get o = some x → ∃ x', E'.H.get o = some x' ∧ Compat E E' o x x'

theorem Step.refl (E : En) : Step E E := ⟨rfl, rfl, rfl, Nat.le_refl _, fun _ _ _ => rfl, fun _ h => h, fun _ h _ => h⟩

theorem Inv.not_owns {E : En} (I : Inv E) {b : Nat} (h : E.S b) : ¬ Owns E b := fun ⟨o, x, hg, hl, hb⟩ => I.free o x hg hl (hb ▸ h)

theorem Step.trans {E E' E'' : En} (I' : Inv E') (h : Step E E') (k : Step E' E'') : Step E E'' where
  os := k.os.trans h.os
  tape := k.tape.trans h.tape
  output := k.output.trans h.output
  size := Nat.le_trans h.size k.size
  keep b hb ho := by
    have h1 := h.keep b hb ho
    rw [← h1]
    refine k.keep b (Nat.lt_of_lt_of_le hb h.size) (fun h2 => ?_)
    rcases h.new b (.inr h2) hb with h3 | h3
    · exact I'.not_owns (h.sub b h3) h2
    · exact ho h3
  sub b hb := k.sub b (h.sub b hb)
  new b hb hlt := h.new b (k.new b hb (Nat.lt_of_lt_of_le hlt h.size)) hlt

theorem Compat.refl (E : En) (o : Nm) (x : AObj) : Compat E E o x x := by
  cases x with
  | cells cs => exact rfl
  | arr e s v es => exact ⟨Nat.le_refl _, fun _ => ⟨rfl, rfl, Nat.le_refl _⟩⟩
  | frz e s v es => exact ⟨Nat.le_refl _, fun _ => ⟨rfl, rfl, Nat.le_refl _⟩⟩

theorem Fit.refl (E : En) : Fit E E := ⟨fun _ h => ⟨h, rfl⟩, fun o x h => ⟨x, h, Compat.refl E o x⟩⟩

theorem Compat.trans {E E' E'' : En} {o : Nm} {x x' x'' : AObj} (h : Compat E E' o x x') (k : Compat E' E'' o x' x'') : Compat E E'' o x x'' := by
  cases x <;> cases x' <;> simp only [Compat] at h <;> cases x'' <;> simp only [Compat] at k ⊢ <;> try exact k.trans h
  all_goals
    obtain ⟨h1, h2⟩ := h
    obtain ⟨k1, k2⟩ := k
    refine ⟨Nat.le_trans h1 k1, fun e => ?_⟩
    obtain ⟨a1, a2, a3⟩ := h2 (by omega)
    obtain ⟨b1, b2, b3⟩ := k2 (by omega)
    exact ⟨b1.trans a1, b2.trans a2, Nat.le_trans a3 b3⟩

theorem Fit.trans {E E' E'' : En} (h : Fit E E') (k : Fit E' E'') : Fit E E'' where
  st b hb := ⟨(k.st b (h.st b hb).1).1, ((k.st b (h.st b hb).1).2).trans (h.st b hb).2⟩
  hm o x hg := by
    obtain ⟨x', h1, c1⟩ := h.hm o x hg
    obtain ⟨x'', h2, c2⟩ := k.hm o x' h1
    exact ⟨x'', h2, c1.trans c2⟩

theorem Fit.rep {E E' : En} (h : Fit E E') {v : Value} {x : D} (hr : Rep E.w E.S v x) : Rep E'.w E'.S v x := hr.mono h.st

theorem OwnOk.mono {E E' : En} (h : Fit E E') {o : Nm} {ver : Nat} {R R' : Nat → List (List D) → Prop} (hr : OwnOk E o ver R)
    (hR : ∀ s es es', E'.φ o = E.φ o → es.length ≤ es'.length → R s es → R' s es') : OwnOk E' o ver R' := by
  obtain ⟨x, hg, hx⟩ := hr
  obtain ⟨x', hg', hc⟩ := h.hm o x hg
  refine ⟨x', hg', ?_⟩
  cases x <;> cases x' <;> simp only [Compat] at hc hx ⊢
  all_goals
    obtain ⟨c1, c2⟩ := hc
    obtain ⟨x1, x2⟩ := hx
    refine ⟨Nat.le_trans x1 c1, fun e => ?_⟩
    obtain ⟨e1, e2, e3⟩ := c2 (by omega)
    subst e1
    exact hR _ _ _ e2 e3 (x2 (by omega))

theorem RV.mono {E E' : En} (h : Fit E E') {v : Value} {a : AV} (hr : RV E v a) : RV E' v a := by
  induction hr with
  | undef v => exact .undef v
  | d v x hx => exact .d v x (h.rep hx)
  | nilsl => exact .nilsl
  | agg cs vs hl h1 _ ih => exact .agg cs vs hl h1 ih
  | tuple cs vs hl _ ih => exact .tuple cs vs hl ih
  | own v o ver n h1 ho =>
    refine .own v o ver n h1 (ho.mono h fun s es es' hφ hle hR => ⟨?_, Nat.le_trans hR.2 hle⟩)
    rw [hR.1, En.sl, En.sl, hφ]
  | ptr o off cs hg =>
    obtain ⟨x', hg', hc⟩ := h.hm o _ hg
    cases x' with
    | cells cs' =>
      have hc' : E'.φ o = E.φ o := hc
      rw [← hc']
      exact .ptr o off cs' hg'
    | arr e s v es => exact hc.elim
    | frz e s v es => exact hc.elim
  | eptr v o ver i off h1 ho =>
    refine .eptr v o ver i off h1 (ho.mono h fun s es es' hφ hle hR => ⟨?_, Nat.lt_of_lt_of_le hR.2 hle⟩)
    rw [hR.1, hφ]
  | rptr b off e k hb hc =>
    refine .rptr b off e k (h.st b hb).1 (fun j d hd => ?_)
    obtain ⟨c, h1, h2⟩ := hc j d hd
    exact ⟨c, by rw [cell?_of_heap (h.st b hb).2]; exact h1, h.rep h2⟩
  | fn f cs caps hl _ ih => exact .fn f cs caps hl ih
  | iface t v a _ ih => exact .iface t v a ih

/-- From a step to a fit: what is not owned is kept. -/
theorem Step.st {E E' : En} (I : Inv E) (h : Step E E') : ∀ b, E.S b → E'.S b ∧ E'.w.heap[b]? = E.w.heap[b]? :=
  fun b hb => ⟨h.sub b hb, h.keep b (I.sin b hb) (I.not_owns hb)⟩
end Go.Rx
end
section
namespace Go.Rx
open Go Go.RowKit
set_option linter.unusedVariables false
set_option linter.unusedSimpArgs false

def setφ (φ : Nm → Pl) (o : Nm) (pl : Pl) : Nm → Pl := fun p => if p = o then pl else φ p
theorem setφ_same (φ : Nm → Pl) (o : Nm) (pl : Pl) : setφ φ o pl o = pl := by simp [setφ]
theorem setφ_other (φ : Nm → Pl) {o p : Nm} (pl : Pl) (h : p ≠ o) : setφ φ o pl p = φ p := by simp [setφ, h]

theorem RO.lt {E : En} {o : Nm} {x : AObj} (h : RO E o x) : (E.φ o).1 < E.w.heap.size := by
  have key : ∀ y, E.w.heap[(E.φ o).1]? = some y → (E.φ o).1 < E.w.heap.size := fun y hy => by
    apply Decidable.byContradiction
    intro hn
    rw [Array.getElem?_eq_none (by omega)] at hy
    cases hy
  cases x with
  | cells cs => obtain ⟨c, ty, hh, _⟩ := h; exact key _ hh
  | arr e s v es => obtain ⟨c, hh, _⟩ := h; exact key _ hh
  | frz e s v es => obtain ⟨_, c, fz, hh, _⟩ := h; exact key _ hh

theorem RO.mono {E E' : En} (h : Fit E E') {o : Nm} {x : AObj} (hφ : E'.φ o = E.φ o) (hb : E'.w.heap[(E.φ o).1]? = E.w.heap[(E.φ o).1]?) (hr : RO E o x) : RO E' o x := by
  cases x with
  | cells cs =>
    obtain ⟨c, ty, h1, h2, h3, h4⟩ := hr
    exact ⟨c, ty, by rw [hφ, hb]; exact h1, h2, h3, fun k v a hv ha => (h4 k v a hv ha).mono h⟩
  | arr e s v es =>
    obtain ⟨c, h1, h2, h3, h4, h5, h6⟩ := hr
    refine ⟨c, by rw [hφ, hb]; exact h1, by rw [hφ]; exact h2, by rw [hφ]; exact h3, by rw [hφ]; exact h4, h5, fun i x j d hx hd => ?_⟩
    obtain ⟨v, hv, hv2⟩ := h6 i x j d hx hd
    exact ⟨v, by rw [hφ]; exact hv, h.rep hv2⟩
  | frz e s v es =>
    obtain ⟨h0, c, fz, h1, h3, h4, h5, h6⟩ := hr
    refine ⟨by rw [hφ]; exact (h.st _ h0).1, c, fz, by rw [hφ, hb]; exact h1, by rw [hφ]; exact h3, by rw [hφ]; exact h4, h5, fun i x j d hx hd => ?_⟩
    obtain ⟨v, hv, hv2⟩ := h6 i x j d hx hd
    exact ⟨v, by rw [hφ]; exact hv, h.rep hv2⟩

/-- An own object is made, or written. -/
theorem put_ok {E : En} (I : Inv E) (o : Nm) (x' : AObj) (pl : Pl) (w' : World) (hos : w'.os = E.w.os) (ht : w'.tape = E.w.tape) (hout : w'.output = E.w.output) (hsz : E.w.heap.size ≤ w'.heap.size)
    (hlive : x'.live = true)
    (hpl : E.w.heap.size ≤ pl.1 ∨ ∃ x, E.H.get o = some x ∧ x.live = true ∧ pl.1 = (E.φ o).1)
    (hkeep : ∀ b, b < E.w.heap.size → b ≠ pl.1 → w'.heap[b]? = E.w.heap[b]?)
    (hcomp : ∀ x, E.H.get o = some x → Compat E ⟨w', E.S, setφ E.φ o pl, (o, x') :: E.H⟩ o x x')
    (hro : Fit E ⟨w', E.S, setφ E.φ o pl, (o, x') :: E.H⟩ → RO ⟨w', E.S, setφ E.φ o pl, (o, x') :: E.H⟩ o x') :
    Inv ⟨w', E.S, setφ E.φ o pl, (o, x') :: E.H⟩ ∧ Step E ⟨w', E.S, setφ E.φ o pl, (o, x') :: E.H⟩ ∧ Fit E ⟨w', E.S, setφ E.φ o pl, (o, x') :: E.H⟩ := by
  have hnS : ¬ E.S pl.1 := fun hS => by
    rcases hpl with h | ⟨x, hg, hl, hb⟩
    · have := I.sin _ hS; omega
    · exact I.free o x hg hl (hb ▸ hS)
  have hblk : ∀ p x, p ≠ o → E.H.get p = some x → (E.φ p).1 ≠ pl.1 := fun p x hne hg hb => by
    have hlt := (I.obj p x hg).lt
    rcases hpl with h | ⟨y, hgo, hl, hbo⟩
    · omega
    · cases hx : x.live with
      | true => exact hne (I.dist p o x y hg hgo hx hl (hb.trans hbo))
      | false =>
        cases x with
        | frz e s v es =>
          obtain ⟨h0, _⟩ := I.obj p _ hg
          exact hnS (hb ▸ h0)
        | cells cs => cases hx
        | arr e s v es => cases hx
  have fit : Fit E ⟨w', E.S, setφ E.φ o pl, (o, x') :: E.H⟩ := by
    refine ⟨fun b hb => ⟨hb, hkeep b (I.sin b hb) (fun e => hnS (e ▸ hb))⟩, fun p x hg => ?_⟩
    by_cases hp : p = o
    · subst hp
      exact ⟨x', Hp.get_same _ _ _, hcomp x hg⟩
    · refine ⟨x, by show Hp.get ((o, x') :: E.H) p = _; rw [Hp.get_other _ _ (Ne.symm hp)]; exact hg, ?_⟩
      have hφ : setφ E.φ o pl p = E.φ p := setφ_other _ _ hp
      cases x with
      | cells cs => exact hφ
      | arr e s v es => exact ⟨Nat.le_refl _, fun _ => ⟨rfl, hφ, Nat.le_refl _⟩⟩
      | frz e s v es => exact ⟨Nat.le_refl _, fun _ => ⟨rfl, hφ, Nat.le_refl _⟩⟩
  have get' : ∀ p x, p ≠ o → Hp.get ((o, x') :: E.H) p = some x → E.H.get p = some x := fun p x hp hg => by rwa [Hp.get_other _ _ (Ne.symm hp)] at hg
  refine ⟨⟨fun p x hg => ?_, fun p q x y hg hq hx hy hb => ?_, fun p x hg hx => ?_, fun b hb => Nat.lt_of_lt_of_le (I.sin b hb) hsz⟩,
    ⟨hos, ht, hout, hsz, fun b hb hno => ?_, fun b hb => hb, fun b hb hlt => ?_⟩, fit⟩
  · by_cases hp : p = o
    · subst hp
      obtain rfl : x' = x := by have : Hp.get ((p, x') :: E.H) p = some x := hg; rw [Hp.get_same] at this; injection this
      exact hro fit
    · have hg' := get' p x hp hg
      have hr := I.obj p x hg'
      exact hr.mono fit (setφ_other _ _ hp) (hkeep _ hr.lt (hblk p x hp hg'))
  · by_cases hp : p = o
    · by_cases hq' : q = o
      · rw [hp, hq']
      · exfalso
        have hb' : pl.1 = (E.φ q).1 := by have : (setφ E.φ o pl p).1 = (setφ E.φ o pl q).1 := hb; rwa [hp, setφ_same, setφ_other _ _ hq'] at this
        exact hblk q y hq' (get' q y hq' hq) hb'.symm
    · by_cases hq' : q = o
      · exfalso
        have hb' : (E.φ p).1 = pl.1 := by have : (setφ E.φ o pl p).1 = (setφ E.φ o pl q).1 := hb; rwa [hq', setφ_same, setφ_other _ _ hp] at this
        exact hblk p x hp (get' p x hp hg) hb'
      · have hb' : (E.φ p).1 = (E.φ q).1 := by have : (setφ E.φ o pl p).1 = (setφ E.φ o pl q).1 := hb; rwa [setφ_other _ _ hq', setφ_other _ _ hp] at this
        exact I.dist p q x y (get' p x hp hg) (get' q y hq' hq) hx hy hb'
  · by_cases hp : p = o
    · show ¬ E.S (setφ E.φ o pl p).1
      rw [hp, setφ_same]; exact hnS
    · show ¬ E.S (setφ E.φ o pl p).1
      rw [setφ_other _ _ hp]
      exact I.free p x (get' p x hp hg) hx
  · refine hkeep b hb (fun e => ?_)
    rcases hpl with h | ⟨x, hg, hl, hbo⟩
    · omega
    · exact hno ⟨o, x, hg, hl, by omega⟩
  · rcases hb with hb | ⟨p, x, hg, hx, hb⟩
    · exact .inl hb
    · refine .inr ?_
      by_cases hp : p = o
      · have hb' : pl.1 = b := by have : (setφ E.φ o pl p).1 = b := hb; rwa [hp, setφ_same] at this
        rcases hpl with h | ⟨y, hgo, hl, hbo⟩
        · omega
        · exact ⟨o, y, hgo, hl, by omega⟩
      · have hb' : (E.φ p).1 = b := by have : (setφ E.φ o pl p).1 = b := hb; rwa [setφ_other _ _ hp] at this
        exact ⟨p, x, get' p x hp hg, hx, hb'⟩

/-- A row that grew is given up: from now on it is read alone. -/
theorem frz_ok {E : En} (I : Inv E) (o : Nm) (e : TypeId) (s v : Nat) (es : List (List D)) (hg : E.H.get o = some (.arr e s v es)) :
    Inv ⟨E.w, fun b => E.S b ∨ b = (E.φ o).1, E.φ, (o, .frz e s v es) :: E.H⟩ ∧ Step E ⟨E.w, fun b => E.S b ∨ b = (E.φ o).1, E.φ, (o, .frz e s v es) :: E.H⟩ ∧ Fit E ⟨E.w, fun b => E.S b ∨ b = (E.φ o).1, E.φ, (o, .frz e s v es) :: E.H⟩ := by
  have fit : Fit E ⟨E.w, fun b => E.S b ∨ b = (E.φ o).1, E.φ, (o, .frz e s v es) :: E.H⟩ := by
    refine ⟨fun b hb => ⟨.inl hb, rfl⟩, fun p x hp => ?_⟩
    by_cases h : p = o
    · subst h
      rw [hg] at hp
      injection hp with hp
      subst hp
      exact ⟨_, Hp.get_same _ _ _, Nat.le_refl _, fun _ => ⟨rfl, rfl, Nat.le_refl _⟩⟩
    · refine ⟨x, by show Hp.get ((o, _) :: E.H) p = _; rw [Hp.get_other _ _ (Ne.symm h)]; exact hp, ?_⟩
      cases x with
      | cells cs => exact rfl
      | arr e s v es => exact ⟨Nat.le_refl _, fun _ => ⟨rfl, rfl, Nat.le_refl _⟩⟩
      | frz e s v es => exact ⟨Nat.le_refl _, fun _ => ⟨rfl, rfl, Nat.le_refl _⟩⟩
  have get' : ∀ p x, p ≠ o → Hp.get ((o, AObj.frz e s v es) :: E.H) p = some x → E.H.get p = some x := fun p x hp hg => by rwa [Hp.get_other _ _ (Ne.symm hp)] at hg
  have live' : ∀ p x, Hp.get ((o, AObj.frz e s v es) :: E.H) p = some x → x.live = true → p ≠ o := fun p x hp hx h => by
    subst h
    rw [Hp.get_same] at hp
    injection hp with hp
    subst hp
    cases hx
  refine ⟨⟨fun p x hp => ?_, fun p q x y hp hq hx hy hb => I.dist p q x y (get' p x (live' p x hp hx) hp) (get' q y (live' q y hq hy) hq) hx hy hb, fun p x hp hx => ?_, fun b hb => ?_⟩,
    ⟨rfl, rfl, rfl, Nat.le_refl _, fun _ _ _ => rfl, fun b hb => .inl hb, fun b hb hlt => ?_⟩, fit⟩
  · by_cases h : p = o
    · subst h
      rw [Hp.get_same] at hp
      injection hp with hp
      subst hp
      obtain ⟨c, h1, h2, h3, h4, h5, h6⟩ := (I.obj p _ hg).mono fit rfl rfl
      exact ⟨.inr rfl, c, (0, 0), h1, h3, h4, h5, h6⟩
    · exact (I.obj p x (get' p x h hp)).mono fit rfl rfl
  · rintro (h | h)
    · exact I.free p x (get' p x (live' p x hp hx) hp) hx h
    · exact live' p x hp hx (I.dist p o x _ (get' p x (live' p x hp hx) hp) hg hx rfl h)
  · rcases hb with h | h
    · exact I.sin b h
    · subst h; exact (I.obj o _ hg).lt
  · rcases hb with (h | h) | ⟨p, x, hp, hx, hb⟩
    · exact .inl h
    · exact .inr ⟨o, _, hg, rfl, h.symm⟩
    · exact .inr ⟨p, x, get' p x (live' p x hp hx) hp, hx, hb⟩
end Go.Rx
end
section
namespace Go.Rx
open Go Go.RowKit
set_option linter.unusedVariables false
set_option linter.unusedSimpArgs false

def ofCell : Value → AV
  | .bool b => .d (.bool b)
  | .int k n => .d (.int k n)
  | .string s => .d (.str s.data.toList)
  | .slice none n c => if n = 0 ∧ c = 0 then .nilsl else .undef
  | .pointer none => .d .nilp
  | _ => .undef
def ofVal : Value → AV
  | .agg cs => if cs.toList.all (·.oneCell') then .agg (cs.toList.map ofCell) else .undef
  | v => ofCell v

theorem ofCell_rv (E : En) (v : Value) : RV E v (ofCell v) := by
  unfold ofCell
  split
  · exact .d _ _ (.bool _)
  · exact .d _ _ (.int _ _)
  · exact .d _ _ (.str _)
  · split
    · rename_i h; obtain ⟨rfl, rfl⟩ := h; exact .nilsl
    · exact .undef _
  · exact .d _ _ .nilp
  · exact .undef _
theorem ofVal_rv (E : En) (v : Value) : RV E v (ofVal v) := by
  unfold ofVal
  split
  · rename_i cs
    split
    · rename_i h
      have e : cs = cs.toList.toArray := by simp
      rw [e]
      refine .agg _ _ (by simp) (fun v hv => by rw [List.all_eq_true] at h; simpa using h v (by simpa using hv)) (fun i v a hv ha => ?_)
      simp only [List.getElem?_map] at ha hv
      rw [show cs.toList[i]? = some v by simpa using hv] at ha
      simp at ha
      subst ha
      exact ofCell_rv E v
    · exact .undef _
  · exact ofCell_rv E v

def evA (fr : Fr) : Operand → AV
  | .tmp t => fr.get t
  | .const v => ofVal v
  | .func f => .fn f []
  | .global _ => .undef

structure FrOk (E : En) (a : Act) (fr : Fr) : Prop where
  rv : ∀ t, RV E (a.tmps.getD t undef) (fr.get t)

theorem FrOk.eval {E : En} {a : Act} {fr : Fr} (h : FrOk E a fr) (x : Operand) : RV E (a.eval x) (evA fr x) := by
  cases x with
  | tmp t => exact h.rv t
  | const v => exact ofVal_rv E v
  | global g => exact .undef _
  | func f => exact .fn f [] [] rfl (fun i v a hv ha => by simp at hv)

theorem FrOk.mono {E E' : En} (f : Fit E E') {a : Act} {fr : Fr} (h : FrOk E a fr) : FrOk E' a fr := ⟨fun t => (h.rv t).mono f⟩

/-- What an operation comes to. -/
def OpS (P : Program) (E : En) (s : Sem Next) (r : AV) (H' : Hp) : Prop :=
  ∃ v E' nx, s.run P E.w = .ok nx E'.w ∧ (nx = .value v ∨ (nx = .skip ∧ v = undef)) ∧ RV E' v r ∧ Inv E' ∧ E'.H = H' ∧ Step E E' ∧ Fit E E'
/-- What comes to a value, and leaves all as it was. -/
def OpQ (P : Program) (E : En) (s : Sem Value) (r : AV) : Prop := ∃ v, s.run P E.w = .ok v E.w ∧ RV E v r

theorem OpQ.ops {P : Program} {E : En} (I : Inv E) {s : Sem Value} {r : AV} (h : OpQ P E s r) : OpS P E (do pure (.value (← s))) r E.H := by
  obtain ⟨v, h1, h2⟩ := h
  exact ⟨v, E, .value v, by simp [h1], .inl rfl, h2, I, rfl, Step.refl E, Fit.refl E⟩

def cellsOf : AV → Option (List AV)
  | .undef => none
  | .tuple _ => none
  | .agg vs => some vs
  | v => some [v]

theorem cells_rv {E : En} {v : Value} {a : AV} {cs : List AV} (h : RV E v a) (hc : cellsOf a = some cs) :
    ∃ c : List Value, v.cells = c.toArray ∧ c.length = cs.length ∧ (∀ x ∈ c, x.oneCell' = true) ∧ ∀ (i : Nat) (x : Value) (b : AV), c[i]? = some x → cs[i]? = some b → RV E x b := by
  have single : v.oneCell' = true → some [a] = some cs → ∃ c : List Value, v.cells = c.toArray ∧ c.length = cs.length ∧ (∀ x ∈ c, x.oneCell' = true) ∧ ∀ (i : Nat) (x : Value) (b : AV), c[i]? = some x → cs[i]? = some b → RV E x b := by
    intro h1 he
    injection he with he
    subst he
    refine ⟨[v], by cases v <;> first | rfl | (simp [Value.oneCell'] at h1), rfl, fun x hx => by simp at hx; subst hx; exact h1, fun i x b hx hb => ?_⟩
    cases i with
    | zero => simp at hx hb; subst hx hb; exact h
    | succ i => simp at hx
  cases h with
  | undef v => cases hc
  | tuple cs vs h1 h2 => cases hc
  | agg c vs h1 h2 h3 => injection hc with hc; subst hc; exact ⟨c, rfl, h1, h2, h3⟩
  | d v x hx => exact single hx.one hc
  | nilsl => exact single rfl hc
  | own v o ver n h1 h2 => exact single h1 hc
  | ptr o off cs h1 => exact single rfl hc
  | eptr v o ver i off h1 h2 => exact single h1 hc
  | rptr b off e k h1 h2 => exact single rfl hc
  | fn f cs caps h1 h2 => exact single rfl hc
  | iface t v a h1 => exact single rfl hc

/-- A new block of the call's own. -/
theorem new_ok {E : En} (I : Inv E) (o : Nm) (ho : E.H.get o = none) (x : AObj) (c : Array Value) (ty : TypeId) (cap : Nat) (w' : World) (hos : w'.os = E.w.os) (ht : w'.tape = E.w.tape) (hout : w'.output = E.w.output)
    (hheap : w'.heap = E.w.heap.push (.cells c ty)) (hlive : x.live = true)
    (hro : Fit E ⟨w', E.S, setφ E.φ o ⟨E.w.heap.size, cap, 0⟩, (o, x) :: E.H⟩ → w'.heap[E.w.heap.size]? = some (.cells c ty (0, 0)) → RO ⟨w', E.S, setφ E.φ o ⟨E.w.heap.size, cap, 0⟩, (o, x) :: E.H⟩ o x) :
    Inv ⟨w', E.S, setφ E.φ o ⟨E.w.heap.size, cap, 0⟩, (o, x) :: E.H⟩ ∧ Step E ⟨w', E.S, setφ E.φ o ⟨E.w.heap.size, cap, 0⟩, (o, x) :: E.H⟩ ∧ Fit E ⟨w', E.S, setφ E.φ o ⟨E.w.heap.size, cap, 0⟩, (o, x) :: E.H⟩ :=
  put_ok I o x ⟨E.w.heap.size, cap, 0⟩ w' hos ht hout (by rw [hheap]; simp) hlive (.inl (Nat.le_refl _)) (fun b hb _ => by rw [hheap, Array.getElem?_push, if_neg (by omega)]) (fun y hy => by rw [ho] at hy; cases hy)
    (fun f => hro f (by rw [hheap, Array.getElem?_push, if_pos rfl]))

def aNewCells (H : Hp) (dst : Nat) (cs : List AV) : Option (AV × Hp) :=
  if (H.get (.slot dst)).isNone then some (.ptr (.slot dst) 0, (.slot dst, .cells cs) :: H) else none

theorem newCells_ok {P : Program} {E : En} (I : Inv E) {dst : Nat} {cs : List AV} {r : AV} {H' : Hp} (h : aNewCells E.H dst cs = some (r, H')) (c : List Value) (hl : c.length = cs.length) (h1 : ∀ x ∈ c, x.oneCell' = true)
    (hr : ∀ (i : Nat) (x : Value) (b : AV), c[i]? = some x → cs[i]? = some b → RV E x b) (e : TypeId) :
    OpS P E (do pure (.value (.pointer (some (← newRow e c.toArray))))) r H' := by
  unfold aNewCells at h
  split at h
  · rename_i hn
    injection h with h
    injection h with hr' hH
    subst hr' hH
    have hn' : E.H.get (.slot dst) = none := by simpa using hn
    obtain ⟨I', S', F'⟩ := new_ok I (.slot dst) hn' (.cells cs) c.toArray e 0 (E.w.alloc (.cells c.toArray e)) rfl rfl rfl rfl rfl
      (fun f hb => ⟨c.toArray, e, by simp only [setφ_same]; exact hb, by simpa using hl, fun k v hv => h1 v (by simp at hv; exact List.mem_of_getElem? hv), fun k v a hv ha => (hr k v a (by simpa using hv) ha).mono f⟩)
    refine ⟨.pointer (some ⟨E.w.heap.size, 0, none⟩), _, .value _, by simp only [newRow, Sem.run_bind, run_newObj, Result.andThen_ok, Sem.run_pure]; rfl, .inl rfl, ?_, I', rfl, S', F'⟩
    have := RV.ptr (E := ⟨E.w.alloc (.cells c.toArray e), E.S, setφ E.φ (.slot dst) ⟨E.w.heap.size, 0, 0⟩, (.slot dst, .cells cs) :: E.H⟩) (.slot dst) 0 cs (Hp.get_same _ _ _)
    simp only [setφ_same] at this
    exact this
  · cases h

def isFn : Value → Bool
  | .nilFunc => true
  | .nilIface => true
  | .map none => true
  | _ => false
/-- A zero's cells. -/
def zeroCs (z : Value) : Option (List AV) :=
  match ofVal z with
  | .undef => if isFn z then some [.undef] else none
  | a => cellsOf a
theorem zero_rv {E : En} {z : Value} {cs : List AV} (h : zeroCs z = some cs) :
    ∃ c : List Value, z.cells = c.toArray ∧ c.length = cs.length ∧ (∀ x ∈ c, x.oneCell' = true) ∧ ∀ (i : Nat) (x : Value) (b : AV), c[i]? = some x → cs[i]? = some b → RV E x b := by
  unfold zeroCs at h
  split at h
  · split at h
    · rename_i hz
      injection h with h; subst h
      have hz1 : z.oneCell' = true ∧ z.cells = [z].toArray := by
        unfold isFn at hz
        split at hz <;> first | exact ⟨rfl, rfl⟩ | cases hz
      refine ⟨[z], hz1.2, rfl, fun x hx => by simp at hx; subst hx; exact hz1.1, fun i x b hx hb => ?_⟩
      cases i with
      | zero => simp at hx hb; subst hx hb; exact .undef _
      | succ i => simp at hx
    · cases h
  · exact cells_rv (ofVal_rv E z) h
def aAlloc (P : Program) (H : Hp) (dst : Nat) (e : TypeId) : Option (AV × Hp) :=
  ((P.info? e).bind (·.zero)).bind fun z => (zeroCs z).bind fun cs => aNewCells H dst cs

theorem alloc_ok {P : Program} {E : En} (I : Inv E) {dst : Nat} {e : TypeId} {r : AV} {H' : Hp} (h : aAlloc P E.H dst e = some (r, H')) :
    OpS P E (do pure (.value (← Instr.alloc e true (.tuple #[])))) r H' := by
  unfold aAlloc at h
  simp only [Option.bind_eq_some_iff] at h
  obtain ⟨z, ⟨i, hi, hz⟩, cs, hcs, h⟩ := h
  obtain ⟨c, hc1, hc2, hc3, hc4⟩ := zero_rv hcs
  obtain ⟨v, E', nx, a1, a2⟩ := newCells_ok (P := P) I h c hc2 hc3 hc4 e
  refine ⟨v, E', nx, ?_, a2⟩
  rw [← a1]
  simp [Instr.alloc, zeroValue, typeInfo, hi, hz, newVar, hc1]

def aBox (H : Hp) (dst : Nat) (x : AV) : Option (AV × Hp) := (cellsOf x).bind fun cs => aNewCells H dst cs

theorem box_ok {P : Program} {E : En} (I : Inv E) {dst : Nat} {e : TypeId} {x r : AV} {v : Value} {H' : Hp} (hx : RV E v x) (h : aBox E.H dst x = some (r, H')) :
    OpS P E (do pure (.value (← Instr.box e v))) r H' := by
  unfold aBox at h
  simp only [Option.bind_eq_some_iff] at h
  obtain ⟨cs, hcs, h⟩ := h
  obtain ⟨c, hc1, hc2, hc3, hc4⟩ := cells_rv hx hcs
  obtain ⟨u, E', nx, a1, a2⟩ := newCells_ok (P := P) I h c hc2 hc3 hc4 e
  refine ⟨u, E', nx, ?_, a2⟩
  rw [← a1]
  simp [Instr.box, newVar, hc1]

/-- The cells that a pointer's variable lies in, and how far in. -/
def rdAt (H : Hp) : AV → Option (List AV × Nat)
  | .ptr o off => match H.get o with
    | some (.cells cs) => some (cs, off)
    | _ => none
  | .eptr o ver i off => match H.get o with
    | some (.arr _ _ v es) => if v = ver then (es[i]?).map fun e => (e.map .d, off) else none
    | some (.frz _ _ v es) => if v = ver then (es[i]?).map fun e => (e.map .d, off) else none
    | _ => none
  | .rptr e off => some (e.map .d, off)
  | _ => none

theorem rdAt_ok {E : En} (I : Inv E) {v : Value} {p : AV} {cs : List AV} {off : Nat} (h : RV E v p) (hr : rdAt E.H p = some (cs, off)) :
    ∃ b o, v = .pointer (some ⟨b, o + off, none⟩) ∧ ∀ j a, cs[j]? = some a → ∃ c, E.w.cell? ⟨b, o + j, none⟩ = some c ∧ c.oneCell' = true ∧ RV E c a := by
  cases h with
  | undef => cases hr
  | d => cases hr
  | nilsl => cases hr
  | agg => cases hr
  | tuple => cases hr
  | own => cases hr
  | fn => cases hr
  | iface => cases hr
  | ptr o off' cs' hg =>
    simp only [rdAt, hg] at hr
    injection hr with hr
    injection hr with h1 h2
    subst h1 h2
    refine ⟨(E.φ o).1, 0, by simp, fun j a ha => ?_⟩
    obtain ⟨c, ty, b1, b2, b3, b4⟩ := I.obj o _ hg
    have hj : j < c.size := by rw [b2]; exact (List.getElem?_eq_some_iff.1 ha).1
    have hcj : c[j]? = some c[j] := Array.getElem?_eq_getElem hj
    exact ⟨c[j], by simp only [World.cell?, b1]; simp [hcj], b3 j _ hcj, b4 j _ a hcj ha⟩
  | eptr v o ver i off' h1 ho =>
    obtain ⟨x, hg, hx⟩ := ho
    have key : ∀ (s w : Nat) (es : List (List D)), ver ≤ w → (ver = w → v = .pointer (some ⟨(E.φ o).1, (E.φ o).3 + (i * s + off'), none⟩) ∧ i < es.length) →
        (if w = ver then (es[i]?).map fun (e : List D) => (e.map AV.d, off') else none) = some (cs, off) →
        (∀ i x j d, es[i]? = some x → x[j]? = some d → ∃ u, E.w.cell? ⟨(E.φ o).1, (E.φ o).3 + (i * s + j), none⟩ = some u ∧ Rep E.w E.S u d) →
        ∃ b o, v = .pointer (some ⟨b, o + off, none⟩) ∧ ∀ j a, cs[j]? = some a → ∃ c, E.w.cell? ⟨b, o + j, none⟩ = some c ∧ c.oneCell' = true ∧ RV E c a := by
      intro s w es h2 h3 h4 h5
      split at h4
      · rename_i hw
        obtain ⟨e1, e2⟩ := h3 hw.symm
        cases he : es[i]? with
        | none => rw [he] at h4; cases h4
        | some e =>
          rw [he] at h4
          simp at h4
          obtain ⟨rfl, rfl⟩ := h4
          refine ⟨(E.φ o).1, (E.φ o).3 + i * s, by rw [Nat.add_assoc]; exact e1, fun j a ha => ?_⟩
          rw [Nat.add_assoc]
          rw [List.getElem?_map] at ha
          cases hd : e[j]? with
          | none => rw [hd] at ha; cases ha
          | some d =>
            rw [hd] at ha
            simp at ha
            subst ha
            obtain ⟨u, hu, hu2⟩ := h5 i e j d he hd
            exact ⟨u, hu, hu2.one, .d _ _ hu2⟩
      · cases h4
    cases x with
    | cells cs => exact hx.elim
    | arr e s w es =>
      obtain ⟨c, b1, b2, b3, b4, b5, b6⟩ := I.obj o _ hg
      simp only [rdAt, hg] at hr
      refine key s w es hx.1 hx.2 hr (fun i x j d hxi hd => ?_)
      obtain ⟨u, hu, hu2⟩ := b6 i x j d hxi hd
      exact ⟨u, by simp only [World.cell?, b1]; simpa using hu, hu2⟩
    | frz e s w es =>
      obtain ⟨b0, c, fz, b1, b3, b4, b5, b6⟩ := I.obj o _ hg
      simp only [rdAt, hg] at hr
      refine key s w es hx.1 hx.2 hr (fun i x j d hxi hd => ?_)
      obtain ⟨u, hu, hu2⟩ := b6 i x j d hxi hd
      exact ⟨u, by simp only [World.cell?, b1]; simpa using hu, hu2⟩
  | rptr b off' e k hb hc =>
    simp only [rdAt] at hr
    injection hr with hr
    injection hr with h1 h2
    subst h1 h2
    refine ⟨b, off', rfl, fun j a ha => ?_⟩
    rw [List.getElem?_map] at ha
    cases hd : e[j]? with
    | none => rw [hd] at ha; cases ha
    | some d =>
      rw [hd] at ha
      simp at ha
      subst ha
      obtain ⟨u, hu, hu2⟩ := hc j d hd
      exact ⟨u, hu, hu2.one, .d _ _ hu2⟩

def aggT (P : Program) (t : TypeId) : Option Bool :=
  match P.underlying t with
  | none => none
  | some (.struct _) => some true
  | some (.array _ _) => some true
  | some _ => some false
theorem aggT_ok {P : Program} {t : TypeId} {b : Bool} (h : aggT P t = some b) (w : World) : (isAgg t).run P w = .ok b w := by
  unfold aggT at h
  split at h
  · cases h
  · injection h with h; subst h; rename_i hu; simp [isAgg, run_underlying hu]
  · injection h with h; subst h; rename_i hu; simp [isAgg, run_underlying hu]
  · rename_i d h1 h2 hu
    injection h with h
    subst h
    simp only [isAgg, Sem.run_bind, run_underlying hu, Result.andThen_ok]
    cases d <;> first | rfl | (exact absurd rfl (h1 _)) | (exact absurd rfl (h2 _ _))
def sizeT (P : Program) (t : TypeId) : Option Nat := (P.info? t).map (·.size)
theorem sizeT_ok {P : Program} {t : TypeId} {n : Nat} (h : sizeT P t = some n) (w : World) : (sizeOf t).run P w = .ok n w := by
  unfold sizeT at h
  cases hi : P.info? t with
  | none => rw [hi] at h; cases h
  | some i => rw [hi] at h; simp at h; subst h; simp [sizeOf, typeInfo, hi]

def takeT (agg : Bool) (n : Nat) (cs : List AV) (off : Nat) : Option AV :=
  if agg then (if off + n ≤ cs.length then some (.agg ((cs.drop off).take n)) else none) else cs[off]?

def aLoad (P : Program) (H : Hp) (t : TypeId) (p : AV) : Option AV :=
  (aggT P t).bind fun g => (sizeT P t).bind fun n => (rdAt H p).bind fun x => takeT g n x.1 x.2

theorem load_ok {P : Program} {E : En} (I : Inv E) {t : TypeId} {v : Value} {p r : AV} (hp : RV E v p) (h : aLoad P E.H t p = some r) : OpQ P E (Instr.loadAt t v) r := by
  unfold aLoad at h
  simp only [Option.bind_eq_some_iff] at h
  obtain ⟨g, hg, n, hn, ⟨cs, off⟩, hr, h⟩ := h
  obtain ⟨b, o, rfl, hc⟩ := rdAt_ok I hp hr
  cases g with
  | false =>
    simp only [takeT] at h
    obtain ⟨c, h1, h2, h3⟩ := hc off r (by simpa using h)
    refine ⟨c, ?_, h3⟩
    simp [Instr.loadAt, Instr.sureAddr, loadVar, aggT_ok hg, h1]
  | true =>
    simp only [takeT, if_true] at h
    split at h
    · rename_i hle
      injection h with h
      subst h
      have each : ∀ j, j < n → ∃ c, E.w.cell? ⟨b, o + off + j, none⟩ = some c ∧ c.oneCell' = true ∧ ∀ a, ((cs.drop off).take n)[j]? = some a → RV E c a := fun j hj => by
        have hj' : off + j < cs.length := by omega
        obtain ⟨c, h1, h2, h3⟩ := hc (off + j) cs[off + j] (List.getElem?_eq_getElem hj')
        refine ⟨c, by rw [Nat.add_assoc]; exact h1, h2, fun a ha => ?_⟩
        rw [List.getElem?_take, if_pos hj, List.getElem?_drop, List.getElem?_eq_getElem hj'] at ha
        injection ha with ha
        exact ha ▸ h3
      let f : Nat → Value := fun j => (E.w.cell? ⟨b, o + off + j, none⟩).getD undef
      have hf : ∀ j, j < n → E.w.cell? ⟨b, o + off + j, none⟩ = some (f j) := fun j hj => by obtain ⟨c, h1, _⟩ := each j hj; simp [f, h1]
      have hrun := run_loadCells (P := P) E.w ⟨b, o + off, none⟩ n f (fun j hj => by rw [Addr.add_lit]; exact hf j hj)
      refine ⟨.agg ((List.range n).map f).toArray, ?_, .agg _ _ (by simp; omega) (fun x hx => ?_) (fun i x a hx ha => ?_)⟩
      · simp [Instr.loadAt, Instr.sureAddr, loadVar, aggT_ok hg, sizeT_ok hn, hrun]
      · simp only [List.mem_map, List.mem_range] at hx
        obtain ⟨j, hj, rfl⟩ := hx
        obtain ⟨c, h1, h2, h3⟩ := each j hj
        have : f j = c := by simp [f, h1]
        rw [this]; exact h2
      · rw [List.getElem?_map] at hx
        have hi : i < n := by
          have := (List.getElem?_eq_some_iff.1 ha).1
          simp at this; omega
        rw [List.getElem?_range hi] at hx
        simp at hx
        obtain ⟨c, h1, h2, h3⟩ := each i hi
        have : f i = c := by simp [f, h1]
        rw [← hx, this]; exact h3 a ha
    · cases h
end Go.Rx
end
section
namespace Go.Rx
open Go Go.RowKit
set_option linter.unusedVariables false
set_option linter.unusedSimpArgs false

def splice {α : Type} (vs : List α) (off : Nat) (cs : List α) : List α := vs.take off ++ cs ++ vs.drop (off + cs.length)
theorem splice_length {α : Type} (vs : List α) (off : Nat) (cs : List α) (h : off + cs.length ≤ vs.length) : (splice vs off cs).length = vs.length := by
  simp [splice]; omega
theorem splice_get {α : Type} (vs : List α) (off : Nat) (cs : List α) (h : off + cs.length ≤ vs.length) (k : Nat) :
    (splice vs off cs)[k]? = if off ≤ k ∧ k < off + cs.length then cs[k - off]? else vs[k]? := by
  unfold splice
  by_cases h1 : k < off
  · rw [if_neg (by omega), List.append_assoc, List.getElem?_append_left (by simp; omega), List.getElem?_take, if_pos h1]
  · by_cases h2 : k < off + cs.length
    · rw [if_pos ⟨by omega, h2⟩, List.append_assoc, List.getElem?_append_right (by simp; omega)]
      rw [List.getElem?_append_left (by simp; omega)]
      congr 1
      simp; omega
    · rw [if_neg (by omega), List.getElem?_append_right (by simp; omega), List.getElem?_drop]
      congr 1
      simp; omega

/-- The cells of a row of elements, each of s cells, as they are read. -/
theorem row_cells {E : En} {b off s m : Nat} {ds : List (List D)} (hm : ds.length = m) (hs : ∀ e ∈ ds, e.length = s)
    (hc : ∀ i e j d, ds[i]? = some e → e[j]? = some d → ∃ u, E.w.cell? ⟨b, off + (i * s + j), none⟩ = some u ∧ Rep E.w E.S u d) :
    ∃ news : List Value, news.length = m * s ∧ (∀ u ∈ news, u.oneCell' = true) ∧ (∀ j u, news[j]? = some u → E.w.cell? ((⟨b, off, none⟩ : Addr).add j) = some u) ∧
      ∀ i e j d, ds[i]? = some e → e[j]? = some d → ∃ u, news[i * s + j]? = some u ∧ Rep E.w E.S u d := by
  let f : Nat → Value := fun k => (E.w.cell? ⟨b, off + k, none⟩).getD undef
  have each : ∀ k, k < m * s → ∃ u d, E.w.cell? ⟨b, off + k, none⟩ = some u ∧ Rep E.w E.S u d := fun k hk => by
    have hs0 : 0 < s := by rcases Nat.eq_zero_or_pos s with h | h; · subst h; omega
                           · exact h
    have hi : k / s < ds.length := by rw [hm]; exact (Nat.div_lt_iff_lt_mul hs0).2 hk
    have hj : k % s < s := Nat.mod_lt _ hs0
    have he := List.getElem?_eq_getElem hi
    have hl := hs _ (List.getElem_mem hi)
    have hd := List.getElem?_eq_getElem (l := ds[k / s]) (i := k % s) (by omega)
    obtain ⟨u, h1, h2⟩ := hc _ _ _ _ he hd
    rw [Nat.mul_comm, Nat.div_add_mod] at h1
    exact ⟨u, _, h1, h2⟩
  have hf : ∀ k, k < m * s → E.w.cell? ⟨b, off + k, none⟩ = some (f k) := fun k hk => by obtain ⟨u, d, h, _⟩ := each k hk; simp [f, h]
  refine ⟨(List.range (m * s)).map f, by simp, fun u hu => ?_, fun j u hu => ?_, fun i e j d he hd => ?_⟩
  · simp only [List.mem_map, List.mem_range] at hu
    obtain ⟨k, hk, rfl⟩ := hu
    obtain ⟨u, d, h, hr⟩ := each k hk
    have : f k = u := by simp [f, h]
    rw [this]; exact hr.one
  · rw [List.getElem?_map] at hu
    rcases Nat.lt_or_ge j (m * s) with h | h
    · rw [List.getElem?_range h] at hu
      simp at hu
      rw [Addr.add_lit, hf j h, hu]
    · rw [List.getElem?_eq_none (by simpa using h)] at hu; cases hu
  · have hi := (List.getElem?_eq_some_iff.1 he).1
    have hj := (List.getElem?_eq_some_iff.1 hd).1
    have hle := hs e (List.mem_of_getElem? he)
    have hk : i * s + j < m * s := by
      have : (i + 1) * s ≤ m * s := Nat.mul_le_mul_right _ (by omega)
      rw [Nat.add_mul] at this; omega
    obtain ⟨u, h1, h2⟩ := hc i e j d he hd
    refine ⟨u, ?_, h2⟩
    rw [List.getElem?_map, List.getElem?_range hk]
    simp [f, h1]

/-- Elements are read out of a row. -/
def srcOf (H : Hp) : AV → Option (List (List D))
  | .nilsl => some []
  | .d (.list ds) => some ds
  | .own o ver n => match H.get o with
    | some (.arr _ _ v es) => if v = ver then some (es.take n) else none
    | some (.frz _ _ v es) => if v = ver then some (es.take n) else none
    | _ => none
  | _ => none

theorem arr_cells {E : En} (I : Inv E) {o : Nm} {x : AObj} {s ver : Nat} {es : List (List D)} (hg : E.H.get o = some x) (hx : (∃ e, x = .arr e s ver es) ∨ (∃ e, x = .frz e s ver es)) :
    es.length ≤ (E.φ o).2 ∧ (E.φ o).2 ≤ maxLen ∧ (∀ y ∈ es, y.length = s) ∧
    (∀ i y j d, es[i]? = some y → y[j]? = some d → ∃ u, E.w.cell? ⟨(E.φ o).1, (E.φ o).3 + (i * s + j), none⟩ = some u ∧ Rep E.w E.S u d) := by
  rcases hx with ⟨e, rfl⟩ | ⟨e, rfl⟩
  · obtain ⟨c, b1, b2, b3, b4, b5, b6⟩ := I.obj o _ hg
    refine ⟨b3, b4, b5, fun i y j d hy hd => ?_⟩
    obtain ⟨u, hu, hu2⟩ := b6 i y j d hy hd
    exact ⟨u, by simp only [World.cell?, b1]; simpa using hu, hu2⟩
  · obtain ⟨b0, c, fz, b1, b3, b4, b5, b6⟩ := I.obj o _ hg
    refine ⟨b3, b4, b5, fun i y j d hy hd => ?_⟩
    obtain ⟨u, hu, hu2⟩ := b6 i y j d hy hd
    exact ⟨u, by simp only [World.cell?, b1]; simpa using hu, hu2⟩

/-- What a slice is, and where its elements lie. -/
theorem src_ok {E : En} (I : Inv E) {v : Value} {x : AV} {ds : List (List D)} (h : RV E v x) (hs : srcOf E.H x = some ds) :
    ∃ a cap, v = .slice a ds.length cap ∧ ds.length ≤ cap ∧ cap ≤ maxLen ∧ (ds = [] ∨ ∃ b off s, a = some ⟨b, off, none⟩ ∧ (∀ e ∈ ds, e.length = s) ∧
      ∀ i e j d, ds[i]? = some e → e[j]? = some d → ∃ u, E.w.cell? ⟨b, off + (i * s + j), none⟩ = some u ∧ Rep E.w E.S u d) := by
  cases h with
  | undef => cases hs
  | agg => cases hs
  | tuple => cases hs
  | ptr => cases hs
  | eptr => cases hs
  | rptr => cases hs
  | fn => cases hs
  | iface => cases hs
  | nilsl => injection hs with hs; subst hs; exact ⟨none, 0, rfl, Nat.le_refl _, by unfold maxLen; omega, .inl rfl⟩
  | d v x hx =>
    cases hx with
    | bool => cases hs
    | int => cases hs
    | str => cases hs
    | nilp => cases hs
    | empty a cap hc => injection hs with hs; subst hs; exact ⟨a, cap, rfl, Nat.zero_le _, hc, .inl rfl⟩
    | list b off cap s es c hb h1 hm h2 h3 h4 =>
      injection hs with hs
      subst hs
      exact ⟨some ⟨b, off, none⟩, cap, rfl, h1, hm, .inr ⟨b, off, s, rfl, h2, fun i e j d he hd => ⟨c i j, h3 i e j d he hd, h4 i e j d he hd⟩⟩⟩
  | own v o ver n h1 ho =>
    obtain ⟨x, hg, hx⟩ := ho
    have key : ∀ s w es, ((∃ e, x = .arr e s w es) ∨ (∃ e, x = .frz e s w es)) → (ver = w → v = E.sl o n ∧ n ≤ es.length) → (if w = ver then some (es.take n) else none) = some ds →
        ∃ a cap, v = .slice a ds.length cap ∧ ds.length ≤ cap ∧ cap ≤ maxLen ∧ (ds = [] ∨ ∃ b off s, a = some ⟨b, off, none⟩ ∧ (∀ e ∈ ds, e.length = s) ∧
          ∀ i e j d, ds[i]? = some e → e[j]? = some d → ∃ u, E.w.cell? ⟨b, off + (i * s + j), none⟩ = some u ∧ Rep E.w E.S u d) := by
      intro s w es hx hv hds
      split at hds
      · rename_i hw
        injection hds with hds
        subst hds
        obtain ⟨e1, e2⟩ := hv hw.symm
        obtain ⟨c1, c2, c3, c4⟩ := arr_cells I hg hx
        have hl : (es.take n).length = n := by simp; omega
        refine ⟨_, _, by rw [hl]; exact e1, by rw [hl]; omega, c2, .inr ⟨_, (E.φ o).3, s, rfl, fun e he => c3 e (List.mem_of_mem_take he), fun i e j d he hd => ?_⟩⟩
        refine c4 i e j d ?_ hd
        rw [List.getElem?_take] at he
        split at he
        · exact he
        · cases he
      · cases hds
    simp only [srcOf, hg] at hs
    cases x with
    | cells cs => exact hx.elim
    | arr e s w es => exact key s w es (.inl ⟨e, rfl⟩) hx.2 hs
    | frz e s w es => exact key s w es (.inr ⟨e, rfl⟩) hx.2 hs

/-- Elements of s cells, as append reads them. -/
theorem src_cells {E : En} (P : Program) {v : Value} {ds : List (List D)} {s : Nat} (hs : ∀ e ∈ ds, e.length = s) {a : Option Addr} {cap : Nat} (hv : v = .slice a ds.length cap)
    (h : ds = [] ∨ ∃ b off s, a = some ⟨b, off, none⟩ ∧ (∀ e ∈ ds, e.length = s) ∧ ∀ i e j d, ds[i]? = some e → e[j]? = some d → ∃ u, E.w.cell? ⟨b, off + (i * s + j), none⟩ = some u ∧ Rep E.w E.S u d) :
    ∃ news : List Value, news.length = ds.length * s ∧ (∀ u ∈ news, u.oneCell' = true) ∧ (∀ w2 : World, w2.heap = E.w.heap → (Builtin.firstCells s ds.length v).run P w2 = .ok news.toArray w2) ∧
      ∀ i e j d, ds[i]? = some e → e[j]? = some d → ∃ u, news[i * s + j]? = some u ∧ Rep E.w E.S u d := by
  subst hv
  rcases h with rfl | ⟨b, off, s', rfl, h2, h3⟩
  · refine ⟨[], by simp, by simp, fun w2 _ => ?_, fun i e j d he => by simp at he⟩
    cases a with
    | none => simp [Builtin.firstCells]
    | some a => simp [Builtin.firstCells, loadCells, loadCellsFrom]
  · cases ds with
    | nil => exact ⟨[], by simp, by simp, fun w2 _ => by simp [Builtin.firstCells, loadCells, loadCellsFrom], fun i e j d he => by simp at he⟩
    | cons d0 r =>
      have e1 := hs d0 (by simp)
      have e2 := h2 d0 (by simp)
      obtain rfl : s = s' := e1.symm.trans e2
      obtain ⟨news, n1, n2, n3, n4⟩ := row_cells (E := E) rfl hs h3
      refine ⟨news, n1, n2, fun w2 hw => run_firstCells_some (P := P) w2 s _ _ _ _ news n1 (fun j u hu => ?_), n4⟩
      have := n3 j u hu
      simp only [World.cell?] at this ⊢
      rw [hw]; exact this

/-- The general growth of append. -/
theorem run_append_any {P : Program} (w : World) (t u ty e : TypeId) (i : TypeInfo) (z : Value) (ht : P.underlying t = some (.slice e)) (e' : TypeId) (hu : P.underlying u = some (.slice e')) (hi : P.info? e = some i) (hz : i.zero = some z)
    (b xb : Option Addr) (sLen sCap n xcap : Nat) (olds news : List Value) (hn : sCap < sLen + n)
    (ho : (Builtin.firstCells i.size sLen (.slice b sLen sCap)).run P w.drew = .ok olds.toArray w.drew) (hx : (Builtin.firstCells i.size n (.slice xb n xcap)).run P w.drew = .ok news.toArray w.drew)
    (h63 : sLen + n ≤ 9223372036854775807) (hb : (sLen + n) * i.bytes ≤ 140737488355328) :
    (Builtin.append_ #[t, u] ty #[.slice b sLen sCap, .slice xb n xcap]).run P w =
      .ok (.slice (some ⟨w.heap.size, 0, none⟩) (sLen + n) (grownCap w (sLen + n) sCap e))
        (w.drew.alloc (.cells ((olds ++ news).toArray ++ Builtin.zeroCells z.cells (grownCap w (sLen + n) sCap e - (sLen + n))) e)) := by
  have hn' : ¬ (sLen + n ≤ sCap) := by omega
  have h63' : ¬ (9223372036854775807 < ((sLen : Int) + (n : Int))) := by omega
  have hfit := growslice_fits hn hb
  have h48' : ¬ (281474976710656 < Builtin.nextslicecap (sLen + n) sCap * i.bytes) := by omega
  simp [Builtin.append_, run_underlying ht, run_underlying hu, sizeOf, typeInfo, zeroValue, hi, hz, Builtin.lenOf, hn', h63', h48', Question.forced]
  simp only [show ({ heap := w.heap, tape := w.tape, drawn := w.drawn + 1, os := w.os, output := w.output } : World) = w.drew from rfl, ho, hx, Result.andThen_ok, Sem.run_bind]
  simp [newRow, grownCap]
  refine congrArg (fun c => w.drew.alloc (.cells c e)) ?_
  apply Array.ext'
  simp [List.append_assoc]
end Go.Rx
end
section
namespace Go.Rx
open Go Go.RowKit
set_option linter.unusedVariables false
set_option linter.unusedSimpArgs false

def seal1 (H : Hp) : AV → Option (D × Hp)
  | .d x => some (x, H)
  | .nilsl => some (.list [], H)
  | .own o ver n => match H.get o with
    | some (.arr e s v es) => if v = ver then some (.list (es.take n), (o, .frz e s v es) :: H) else none
    | some (.frz _ _ v es) => if v = ver then some (.list (es.take n), H) else none
    | _ => none
  | _ => none
def sealL : Hp → List AV → Option (List D × Hp)
  | H, [] => some ([], H)
  | H, a :: r => (seal1 H a).bind fun x => (sealL x.2 r).map fun y => (x.1 :: y.1, y.2)

theorem own_rep {E : En} (I : Inv E) {v : Value} {o : Nm} {ver n : Nat} (h : RV E v (.own o ver n)) {e : TypeId} {s : Nat} {es : List (List D)} (hg : E.H.get o = some (.frz e s ver es)) :
    Rep E.w E.S v (.list (es.take n)) := by
  cases h with
  | own v o ver n h1 ho =>
    obtain ⟨x, hg', hx⟩ := ho
    rw [hg] at hg'
    injection hg' with hg'
    subst hg'
    obtain ⟨rfl, hn⟩ := hx.2 rfl
    obtain ⟨b0, c, fz, b1, b3, b4, b5, b6⟩ := I.obj o _ hg
    have hl : (es.take n).length = n := by simp; omega
    have key := Rep.list (w := E.w) (S := E.S) (E.φ o).1 (E.φ o).3 (E.φ o).2 s (es.take n) (fun i j => c.getD ((E.φ o).3 + (i * s + j)) undef) b0 (by omega) b4 (fun e he => b5 e (List.mem_of_mem_take he))
      (fun i e j d he hd => by
        have he' : es[i]? = some e := by
          rw [List.getElem?_take] at he
          split at he
          · exact he
          · cases he
        obtain ⟨u, hu, hu2⟩ := b6 i e j d he' hd
        simp only [World.cell?, b1]
        simp [hu])
      (fun i e j d he hd => by
        have he' : es[i]? = some e := by
          rw [List.getElem?_take] at he
          split at he
          · exact he
          · cases he
        obtain ⟨u, hu, hu2⟩ := b6 i e j d he' hd
        simp only [Array.getD_eq_getD_getElem?, hu, Option.getD_some]
        exact hu2)
    rw [hl] at key
    exact key

theorem seal1_ok {E : En} (I : Inv E) {v : Value} {a : AV} {x : D} {H' : Hp} (h : RV E v a) (hs : seal1 E.H a = some (x, H')) :
    ∃ E', E'.w = E.w ∧ E'.H = H' ∧ Inv E' ∧ Step E E' ∧ Fit E E' ∧ Rep E'.w E'.S v x := by
  cases a with
  | undef => cases hs
  | agg => cases hs
  | tuple => cases hs
  | ptr => cases hs
  | eptr => cases hs
  | rptr => cases hs
  | fn => cases hs
  | iface => cases hs
  | d y =>
    injection hs with hs
    injection hs with h1 h2
    subst h1 h2
    cases h with
    | d _ _ hx => exact ⟨E, rfl, rfl, I, .refl E, .refl E, hx⟩
  | nilsl =>
    injection hs with hs
    injection hs with h1 h2
    subst h1 h2
    cases h with
    | nilsl => exact ⟨E, rfl, rfl, I, .refl E, .refl E, .empty _ _ (by unfold maxLen; omega)⟩
  | own o ver n =>
    simp only [seal1] at hs
    split at hs
    · rename_i e s w es hg
      split at hs
      · rename_i hw
        subst hw
        injection hs with hs
        injection hs with h1 h2
        subst h1 h2
        obtain ⟨I', S', F'⟩ := frz_ok I o e s w es hg
        exact ⟨⟨E.w, fun b => E.S b ∨ b = (E.φ o).1, E.φ, (o, .frz e s w es) :: E.H⟩, rfl, rfl, I', S', F', own_rep I' (h.mono F') (Hp.get_same _ _ _)⟩
      · cases hs
    · rename_i e s w es hg
      split at hs
      · rename_i hw
        subst hw
        injection hs with hs
        injection hs with h1 h2
        subst h1 h2
        exact ⟨E, rfl, rfl, I, .refl E, .refl E, own_rep I h hg⟩
      · cases hs
    · cases hs

theorem sealL_ok {E : En} (I : Inv E) {c : List Value} {cs : List AV} {xs : List D} {H' : Hp} (hl : c.length = cs.length) (h : ∀ (i : Nat) (x : Value) (b : AV), c[i]? = some x → cs[i]? = some b → RV E x b)
    (hs : sealL E.H cs = some (xs, H')) : ∃ E', E'.w = E.w ∧ E'.H = H' ∧ Inv E' ∧ Step E E' ∧ Fit E E' ∧ xs.length = cs.length ∧ ∀ (i : Nat) (u : Value) (x : D), c[i]? = some u → xs[i]? = some x → Rep E'.w E'.S u x := by
  induction cs generalizing E c xs with
  | nil =>
    injection hs with hs
    injection hs with h1 h2
    subst h1 h2
    exact ⟨E, rfl, rfl, I, .refl E, .refl E, rfl, fun i u x _ hx => by simp at hx⟩
  | cons a r ih =>
    cases c with
    | nil => simp at hl
    | cons u c =>
      simp only [sealL, Option.bind_eq_some_iff, Option.map_eq_some_iff] at hs
      obtain ⟨⟨x, H1⟩, h1, ⟨ys, H2⟩, h2, h3⟩ := hs
      injection h3 with h3 h4
      subst h3 h4
      obtain ⟨E1, w1, e1, I1, S1, F1, r1⟩ := seal1_ok I (h 0 u a rfl rfl) h1
      subst e1
      obtain ⟨E2, w2, e2, I2, S2, F2, l2, r2⟩ := ih I1 (c := c) (by simpa using hl) (fun i x b hx hb => (h (i + 1) x b hx hb).mono F1) h2
      refine ⟨E2, w2.trans w1, e2, I2, S1.trans I1 S2, F1.trans F2, by simp [l2], fun i u' x' hu hx => ?_⟩
      cases i with
      | zero => simp at hu hx; subst hu hx; exact F2.rep r1
      | succ i => exact r2 i u' x' (by simpa using hu) (by simpa using hx)

def wrAt (H : Hp) (p : AV) (cs : List AV) : Option Hp :=
  match p with
  | .ptr o off => match H.get o with
    | some (.cells vs) => if off + cs.length ≤ vs.length then some ((o, .cells (splice vs off cs)) :: H) else none
    | _ => none
  | .eptr o ver i off => (sealL H cs).bind fun x => match x.2.get o with
    | some (.arr e s v es) => if v = ver then (es[i]?).bind fun y => if off + x.1.length ≤ y.length then some ((o, .arr e s v (es.set i (splice y off x.1))) :: x.2) else none else none
    | _ => none
  | _ => none

def aStore (P : Program) (H : Hp) (t : TypeId) (p x : AV) : Option Hp :=
  (cellsOf x).bind fun cs => (sizeT P t).bind fun n => if cs.length = n then wrAt H p cs else none

theorem storeRun {P : Program} (w : World) (t : TypeId) (g off : Nat) (v : Value) (c : List Value) (hc : v.cells = c.toArray) (hn : sizeT P t = some c.length) (h1 : ∀ x ∈ c, x.oneCell' = true) (cur : Array Value) (ty : TypeId)
    (hg : w.heap[g]? = some (.cells cur ty (0, 0))) (hle : off + c.length ≤ cur.size) :
    (Instr.storeAt t (.pointer (some ⟨g, off, none⟩)) v).run P w = .ok () (w.setRow g (splice cur.toList off c).toArray) := by
  have hst := run_storeCells_at P g off ty c 0 cur w hg (by omega) h1
  simp only [Nat.add_zero] at hst
  simp only [Instr.storeAt, Instr.sureAddr, storeVar, Sem.run_bind, Sem.run_pure, Result.andThen_ok, sizeT_ok hn, hc, List.size_toArray]
  simp [hst, splice]

theorem Compat.self {E E' : En} {o : Nm} (h : E'.φ o = E.φ o) (x : AObj) : Compat E E' o x x := by
  cases x with
  | cells cs => exact h
  | arr e s v es => exact ⟨Nat.le_refl _, fun _ => ⟨rfl, h, Nat.le_refl _⟩⟩
  | frz e s v es => exact ⟨Nat.le_refl _, fun _ => ⟨rfl, h, Nat.le_refl _⟩⟩

theorem setφ_self (φ : Nm → Pl) (o p : Nm) : setφ φ o (φ o) p = φ p := by
  unfold setφ; split
  · rename_i h; rw [h]
  · rfl

/-- An own block is written in place. -/
theorem write_ok {E : En} (I : Inv E) (o : Nm) (x x' : AObj) (hg : E.H.get o = some x) (hlive : x.live = true) (hlive' : x'.live = true) (cs : Array Value)
    (hcomp : Compat E ⟨E.w.setRow (E.φ o).1 cs, E.S, setφ E.φ o (E.φ o), (o, x') :: E.H⟩ o x x')
    (hro : Fit E ⟨E.w.setRow (E.φ o).1 cs, E.S, setφ E.φ o (E.φ o), (o, x') :: E.H⟩ → RO ⟨E.w.setRow (E.φ o).1 cs, E.S, setφ E.φ o (E.φ o), (o, x') :: E.H⟩ o x') :
    Inv ⟨E.w.setRow (E.φ o).1 cs, E.S, setφ E.φ o (E.φ o), (o, x') :: E.H⟩ ∧ Step E ⟨E.w.setRow (E.φ o).1 cs, E.S, setφ E.φ o (E.φ o), (o, x') :: E.H⟩ ∧ Fit E ⟨E.w.setRow (E.φ o).1 cs, E.S, setφ E.φ o (E.φ o), (o, x') :: E.H⟩ :=
  put_ok I o x' (E.φ o) _ rfl rfl rfl (by simp) hlive' (.inr ⟨x, hg, hlive, rfl⟩) (fun b _ hne => setRow_other _ _ _ _ hne) (fun y hy => by rw [hg] at hy; injection hy with hy; subst hy; exact hcomp) hro

theorem idx_apart {i i' s j off len : Nat} (hj : j < s) (hle : off + len ≤ s) (hne : i' ≠ i) : ¬ (i * s + off ≤ i' * s + j ∧ i' * s + j < i * s + off + len) := by
  rcases Nat.lt_or_ge i' i with h | h
  · have : (i' + 1) * s ≤ i * s := Nat.mul_le_mul_right _ h
    rw [Nat.add_mul] at this
    omega
  · have : (i + 1) * s ≤ i' * s := Nat.mul_le_mul_right _ (by omega)
    rw [Nat.add_mul] at this
    omega

theorem store_ok {P : Program} {E : En} (I : Inv E) {t : TypeId} {u v : Value} {p x : AV} {H' : Hp} (hp : RV E u p) (hx : RV E v x) (h : aStore P E.H t p x = some H') :
    OpS P E (do Instr.storeAt t u v; pure .skip) .undef H' := by
  unfold aStore at h
  simp only [Option.bind_eq_some_iff] at h
  obtain ⟨cs, hcs, n, hn, h⟩ := h
  split at h
  · rename_i hl
    subst hl
    obtain ⟨c, hc1, hc2, hc3, hc4⟩ := cells_rv hx hcs
    rw [← hc2] at hn
    cases p with
    | undef => cases h
    | d => cases h
    | nilsl => cases h
    | agg => cases h
    | tuple => cases h
    | own => cases h
    | rptr => cases h
    | fn => cases h
    | iface => cases h
    | ptr o off =>
      cases hp with
      | ptr _ _ vs hg =>
      simp only [wrAt, hg] at h
      split at h
      · rename_i hle
        injection h with h
        subst h
        obtain ⟨cur, ty, b1, b2, b3, b4⟩ := I.obj o _ hg
        have hrun := storeRun (P := P) E.w t (E.φ o).1 off v c hc1 hn hc3 cur ty b1 (by omega)
        have hle' : off + c.length ≤ cur.toList.length := by simp; omega
        obtain ⟨I', S', F'⟩ := write_ok I o (.cells vs) (.cells (splice vs off cs)) hg rfl rfl (splice cur.toList off c).toArray (setφ_self _ _ _) (fun f => by
          refine ⟨(splice cur.toList off c).toArray, ty, ?_, ?_, fun k w hk => ?_, fun k w a hk ha => ?_⟩
          · simp only [setφ_self]; exact setRow_heap _ _ cur _ ty _ b1
          · simp [splice_length _ _ _ hle', splice_length _ _ _ hle, b2]
          · rw [List.getElem?_toArray, splice_get _ _ _ hle'] at hk
            split at hk
            · exact hc3 w (List.mem_of_getElem? hk)
            · exact b3 k w (by simpa using hk)
          · rw [List.getElem?_toArray, splice_get _ _ _ hle'] at hk
            rw [splice_get _ _ _ hle, ← hc2] at ha
            split at hk
            · rename_i hin
              rw [if_pos hin] at ha
              exact (hc4 _ w a hk ha).mono f
            · rename_i hin
              rw [if_neg hin] at ha
              exact (b4 k w a (by simpa using hk) ha).mono f)
        exact ⟨undef, _, .skip, by simp only [Sem.run_bind, hrun, Result.andThen_ok, Sem.run_pure], .inr ⟨rfl, rfl⟩, .undef _, I', rfl, S', F'⟩
      · cases h
    | eptr o ver i off =>
      simp only [wrAt, Option.bind_eq_some_iff] at h
      obtain ⟨⟨xs, H1⟩, hs, h⟩ := h
      obtain ⟨E1, w1, e1, I1, S1, F1, l1, r1⟩ := sealL_ok I hc2 hc4 hs
      subst e1
      have hp1 := hp.mono F1
      cases hp1 with
      | eptr _ _ _ _ _ h1 ho =>
      obtain ⟨y, hg, hy⟩ := ho
      simp only [hg] at h
      cases y with
      | cells => exact hy.elim
      | frz => cases h
      | arr e s w es =>
      simp only [] at h
      split at h
      · rename_i hw
        subst hw
        simp only [Option.bind_eq_some_iff] at h
        obtain ⟨y, hyi, h⟩ := h
        split at h
        · rename_i hle
          injection h with h
          subst h
          obtain ⟨rfl, hin⟩ := hy.2 rfl
          obtain ⟨cur, b1, b2, b3, b4, b5, b6⟩ := I1.obj o _ hg
          have hys : y.length = s := b5 y (List.mem_of_getElem? hyi)
          have hi : i < es.length := hin
          have hfit : (E1.φ o).3 + (i * s + off) + c.length ≤ cur.size := by
            have : (i + 1) * s ≤ (E1.φ o).2 * s := Nat.mul_le_mul_right _ (by omega)
            rw [Nat.add_mul] at this
            omega
          have hle' : (E1.φ o).3 + (i * s + off) + c.length ≤ cur.toList.length := by simp; omega
          have hrun := storeRun (P := P) E1.w t (E1.φ o).1 ((E1.φ o).3 + (i * s + off)) v c hc1 hn hc3 cur e b1 hfit
          obtain ⟨I', S', F'⟩ := write_ok I1 o (.arr e s w es) (.arr e s w (es.set i (splice y off xs))) hg rfl rfl (splice cur.toList ((E1.φ o).3 + (i * s + off)) c).toArray
            ⟨Nat.le_refl _, fun _ => ⟨rfl, setφ_self _ _ _, by simp⟩⟩ (fun f => by
            refine ⟨(splice cur.toList ((E1.φ o).3 + (i * s + off)) c).toArray, ?_, ?_, ?_, ?_, fun z hz => ?_, fun i' z j d hz hd => ?_⟩
            · simp only [setφ_self]; exact setRow_heap _ _ cur _ e _ b1
            · simp only [setφ_self]; simpa [splice_length _ _ _ hle'] using b2
            · simp only [setφ_self]; simpa using b3
            · simp only [setφ_self]; exact b4
            · rcases List.mem_or_eq_of_mem_set hz with h | h
              · exact b5 z h
              · subst h; rw [splice_length _ _ _ hle]; exact hys
            · simp only [setφ_self]
              rw [List.getElem?_toArray, splice_get _ _ _ hle']
              by_cases hii : i' = i
              · subst hii
                rw [List.getElem?_set_self hi] at hz
                injection hz with hz
                subst hz
                rw [splice_get _ _ _ hle] at hd
                by_cases hj : off ≤ j ∧ j < off + xs.length
                · rw [if_pos hj] at hd
                  rw [if_pos (by omega)]
                  have hjl : (E1.φ o).3 + (i' * s + j) - ((E1.φ o).3 + (i' * s + off)) < c.length := by omega
                  refine ⟨_, List.getElem?_eq_getElem hjl, ?_⟩
                  have := r1 ((E1.φ o).3 + (i' * s + j) - ((E1.φ o).3 + (i' * s + off))) _ d (List.getElem?_eq_getElem hjl) (by rw [show (E1.φ o).3 + (i' * s + j) - ((E1.φ o).3 + (i' * s + off)) = j - off by omega]; exact hd)
                  exact f.rep this
                · rw [if_neg hj] at hd
                  rw [if_neg (by omega)]
                  obtain ⟨u, hu, hu2⟩ := b6 i' y j d hyi hd
                  exact ⟨u, by simpa using hu, f.rep hu2⟩
              · rw [List.getElem?_set_ne (Ne.symm hii)] at hz
                have hj : j < s := by have := (List.getElem?_eq_some_iff.1 hd).1; have := b5 z (List.mem_of_getElem? hz); omega
                rw [if_neg (by have := idx_apart (i := i) (i' := i') (off := off) (len := c.length) hj (by omega) hii; omega)]
                obtain ⟨u, hu, hu2⟩ := b6 i' z j d hz hd
                exact ⟨u, by simpa using hu, f.rep hu2⟩)
          refine ⟨undef, _, .skip, ?_, .inr ⟨rfl, rfl⟩, .undef _, I', rfl, S1.trans I1 S', F1.trans F'⟩
          rw [← w1]
          simp only [Sem.run_bind, hrun, Result.andThen_ok, Sem.run_pure]
        · cases h
      · cases h
  · cases h
end Go.Rx
end
section
namespace Go.Rx
open Go Go.RowKit
set_option linter.unusedVariables false
set_option linter.unusedSimpArgs false

def lim : Nat := 140737488355328

def aAppend (P : Program) (H : Hp) (dst : Nat) (t u : TypeId) (s x : AV) : Option (AV × Hp) :=
  match P.underlying t, P.underlying u with
  | some (.slice e), some (.slice _) => (P.info? e).bind fun i => i.zero.bind fun z => if z.cells.size = i.size then (srcOf H x).bind fun ds => if ds.all (fun y => y.length == i.size) then
      match s with
      | .nilsl => if ds.length = 0 then some (.nilsl, H) else
          if ds.length * (i.bytes + 1) ≤ lim ∧ (H.get (.slot dst)).isNone then some (.own (.slot dst) 0 ds.length, (.slot dst, .arr e i.size 0 ds) :: H) else none
      | .own o ver n => match H.get o with
        | some (.arr e' s' v es) => if v = ver ∧ e' = e ∧ s' = i.size ∧ (n + ds.length) * (i.bytes + 1) ≤ lim then some (.own o (ver + 1) (n + ds.length), (o, .arr e s' (ver + 1) (es.take n ++ ds)) :: H) else none
        | _ => none
      | _ => none
    else none else none
  | _, _ => none

theorem fits_split {n b : Nat} (h : n * (b + 1) ≤ lim) : n ≤ 140737488355328 ∧ n * b ≤ 140737488355328 := by
  unfold lim at h; rw [Nat.mul_add] at h; omega

theorem zeroCells_size (z : Array Value) (n : Nat) : (Builtin.zeroCells z n).size = n * z.size := by simp [Builtin.zeroCells]

/-- A new row, of old elements and new ones and free room. -/
theorem grown_ro {E E' : En} {o : Nm} {e : TypeId} {s ver : Nat} {es ds : List (List D)} {olds news : List Value} (f : Fit E E') (hes : ∀ y ∈ es, y.length = s) (hds : ∀ y ∈ ds, y.length = s)
    (ho : olds.length = es.length * s) (hn : news.length = ds.length * s)
    (h1 : ∀ i y j d, es[i]? = some y → y[j]? = some d → ∃ u, olds[i * s + j]? = some u ∧ Rep E.w E.S u d)
    (h2 : ∀ i y j d, ds[i]? = some y → y[j]? = some d → ∃ u, news[i * s + j]? = some u ∧ Rep E.w E.S u d)
    (zs : Array Value) (cap : Nat) (hz : zs.size = (cap - (es.length + ds.length)) * s) (hcap : es.length + ds.length ≤ cap) (hm : cap ≤ maxLen) (hφ : (E'.φ o).2 = cap) (hoff : (E'.φ o).3 = 0)
    (hb : E'.w.heap[(E'.φ o).1]? = some (.cells ((olds ++ news).toArray ++ zs) e (0, 0))) : RO E' o (.arr e s ver (es ++ ds)) := by
  refine ⟨_, hb, ?_, by rw [hφ]; simpa using hcap, by rw [hφ]; exact hm, fun y hy => ?_, fun i y j d hy hd => ?_⟩
  · rw [hφ, hoff]
    simp only [Array.size_append, List.size_toArray, List.length_append, hz, ho, hn, ← Nat.add_mul]
    rw [Nat.zero_add]
    exact Nat.mul_le_mul_right _ (by omega)
  · rcases List.mem_append.1 hy with h | h
    · exact hes y h
    · exact hds y h
  · have hyl : y.length = s := by
      rcases List.mem_append.1 (List.mem_of_getElem? hy) with h | h
      · exact hes y h
      · exact hds y h
    have hj : j < s := by have := (List.getElem?_eq_some_iff.1 hd).1; omega
    have get : ∀ k, k < (olds ++ news).length → ((olds ++ news).toArray ++ zs)[k]? = (olds ++ news)[k]? := fun k hk => by
      rw [Array.getElem?_append_left (by simpa using hk), List.getElem?_toArray]
    by_cases hi : i < es.length
    · rw [List.getElem?_append_left hi] at hy
      obtain ⟨u, hu, hu2⟩ := h1 i y j d hy hd
      have hlt := (List.getElem?_eq_some_iff.1 hu).1
      exact ⟨u, by rw [hoff, Nat.zero_add, get _ (by simp; omega), List.getElem?_append_left hlt]; exact hu, f.rep hu2⟩
    · rw [List.getElem?_append_right (by omega)] at hy
      obtain ⟨u, hu, hu2⟩ := h2 _ y j d hy hd
      have hlt := (List.getElem?_eq_some_iff.1 hu).1
      have e1 : i * s + j = olds.length + ((i - es.length) * s + j) := by
        rw [ho, ← Nat.add_assoc, ← Nat.add_mul]; congr 2; omega
      refine ⟨u, ?_, f.rep hu2⟩
      rw [hoff, Nat.zero_add, get _ (by rw [e1]; simp; omega), e1, List.getElem?_append_right (by omega)]
      rw [show olds.length + ((i - es.length) * s + j) - olds.length = (i - es.length) * s + j by omega]
      exact hu

theorem append_ok {P : Program} {E : En} (I : Inv E) {dst : Nat} {t u ty : TypeId} {vs vx : Value} {s x r : AV} {H' : Hp} (hs : RV E vs s) (hx : RV E vx x) (h : aAppend P E.H dst t u s x = some (r, H')) :
    OpS P E (do pure (.value (← Builtin.append_ #[t, u] ty #[vs, vx]))) r H' := by
  unfold aAppend at h
  split at h
  · rename_i e e' ht hu
    simp only [Option.bind_eq_some_iff] at h
    obtain ⟨i, hi, z, hz, h⟩ := h
    split at h
    · rename_i hzs
      simp only [Option.bind_eq_some_iff] at h
      obtain ⟨ds, hds, h⟩ := h
      split at h
      · rename_i hall
        have hall' : ∀ y ∈ ds, y.length = i.size := fun y hy => by
          rw [List.all_eq_true] at hall
          simpa using hall y hy
        obtain ⟨a, cap, hvx, hxc, hxm, hxr⟩ := src_ok I hx hds
        obtain ⟨news, n1, n2, n3, n4⟩ := src_cells P hall' hvx hxr
        subst hvx
        cases s with
        | undef => cases h
        | d => cases h
        | agg => cases h
        | tuple => cases h
        | ptr => cases h
        | eptr => cases h
        | rptr => cases h
        | fn => cases h
        | iface => cases h
        | nilsl =>
          simp only [] at h
          cases hs with
          | nilsl =>
          split at h
          · rename_i h0
            injection h with h
            injection h with h1 h2
            subst h1 h2
            refine ⟨.slice none 0 0, E, .value _, ?_, .inl rfl, .nilsl, I, rfl, .refl E, .refl E⟩
            have hn0 : news = [] := List.eq_nil_of_length_eq_zero (by rw [n1, h0]; simp)
            have hf := n3 E.w rfl
            rw [h0, hn0] at hf
            rw [h0]
            simp [Builtin.append_, run_underlying ht, run_underlying hu, sizeOf, typeInfo, hi, Builtin.lenOf, hf]
          · rename_i h0
            split at h
            · rename_i hfit
              obtain ⟨hfit, hnone⟩ := hfit
              obtain ⟨f1, f2⟩ := fits_split hfit
              have hnone' : E.H.get (.slot dst) = none := by simpa using hnone
              injection h with h
              injection h with h1 h2
              subst h1 h2
              have hrun := run_append_any (P := P) E.w t u ty e i z ht e' hu hi hz none a 0 0 ds.length cap [] news (by omega) (by simp [Builtin.firstCells]) (n3 E.w.drew rfl) (by omega) (by simpa using f2)
              simp only [Nat.zero_add, List.nil_append] at hrun
              have hge := grownCap_ge E.w ds.length 0 e
              have hcm : grownCap E.w ds.length 0 e ≤ maxLen := grownCap_le_maxLen E.w ds.length 0 e (by unfold maxLen; omega)
              obtain ⟨I', S', F'⟩ := new_ok I (.slot dst) hnone' (.arr e i.size 0 ds) (news.toArray ++ Builtin.zeroCells z.cells (grownCap E.w ds.length 0 e - ds.length)) e (grownCap E.w ds.length 0 e)
                (E.w.drew.alloc (.cells (news.toArray ++ Builtin.zeroCells z.cells (grownCap E.w ds.length 0 e - ds.length)) e)) rfl rfl rfl rfl rfl
                (fun f hb => by
                  have := grown_ro (o := .slot dst) (ver := 0) (e := e) (s := i.size) (es := []) (ds := ds) (olds := []) f (by simp) hall' (by simp) n1 (fun i y j d hy => by simp at hy) n4
                    (Builtin.zeroCells z.cells (grownCap E.w ds.length 0 e - ds.length)) (grownCap E.w ds.length 0 e) (by rw [zeroCells_size, hzs]; simp) (by simpa using hge) hcm (by simp only [setφ_same]) (by simp only [setφ_same]) (by simp only [setφ_same]; simpa using hb)
                  simpa using this)
              refine ⟨.slice (some ⟨E.w.heap.size, 0, none⟩) ds.length (grownCap E.w ds.length 0 e), _, .value _, by simp only [Sem.run_bind, hrun, Result.andThen_ok, Sem.run_pure], .inl rfl, ?_, I', rfl, S', F'⟩
              exact .own _ _ _ _ rfl ⟨_, Hp.get_same _ _ _, Nat.le_refl _, fun _ => ⟨by simp only [En.sl, setφ_same], Nat.le_refl _⟩⟩
            · cases h
        | own o ver n =>
          simp only [] at h
          cases hs with
          | own _ _ _ _ h1 ho =>
          obtain ⟨x', hg, hx'⟩ := ho
          rw [hg] at h
          cases x' with
          | cells => exact hx'.elim
          | frz => cases h
          | arr e1 s1 w es =>
          simp only [] at h
          split at h
          · rename_i hh
            obtain ⟨rfl, rfl, rfl, hfit⟩ := hh
            obtain ⟨f1, f2⟩ := fits_split hfit
            injection h with h
            injection h with h1 h2
            subst h1 h2
            obtain ⟨rfl, hn⟩ := hx'.2 rfl
            obtain ⟨cur, b1, b2, b3, b4, b5, b6⟩ := I.obj o _ hg
            have htake : (es.take n).length = n := by simp; omega
            have htl : ∀ y ∈ es.take n, y.length = i.size := fun y hy => b5 y (List.mem_of_mem_take hy)
            have htk : ∀ i' y, (es.take n)[i']? = some y → es[i']? = some y := fun i' y hy => by
              rw [List.getElem?_take] at hy
              split at hy
              · exact hy
              · cases hy
            by_cases hroom : n + ds.length ≤ (E.φ o).2
            · have hfitc : (E.φ o).3 + n * i.size + news.length ≤ cur.size := by
                have := Nat.mul_le_mul_right i.size hroom
                rw [Nat.add_mul] at this
                rw [n1]; omega
              have hst := run_storeCells_at P (E.φ o).1 ((E.φ o).3 + n * i.size) e1 news 0 cur E.w b1 (by simpa using hfitc) n2
              simp only [Nat.add_zero] at hst
              have hf := n3 E.w rfl
              have hrun : (Builtin.append_ #[t, u] ty #[E.sl o n, .slice a ds.length cap]).run P E.w = .ok (.slice (some ⟨(E.φ o).1, (E.φ o).3, none⟩) (n + ds.length) (E.φ o).2) (E.w.setRow (E.φ o).1 (splice cur.toList ((E.φ o).3 + n * i.size) news).toArray) := by
                simp [Builtin.append_, En.sl, run_underlying ht, run_underlying hu, sizeOf, typeInfo, hi, Builtin.lenOf, hroom, hf, Addr.add_lit, hst, splice]
              have hle' : (E.φ o).3 + n * i.size + news.length ≤ cur.toList.length := by simpa using hfitc
              obtain ⟨I', S', F'⟩ := write_ok I o (.arr e1 i.size w es) (.arr e1 i.size (w + 1) (es.take n ++ ds)) hg rfl rfl (splice cur.toList ((E.φ o).3 + n * i.size) news).toArray
                ⟨by omega, fun hw => by omega⟩ (fun f => by
                refine ⟨_, by simp only [setφ_self]; exact setRow_heap _ _ cur _ e1 _ b1, by simp only [setφ_self]; simpa [splice_length _ _ _ hle'] using b2, by simp only [setφ_self, List.length_append, htake]; exact hroom, by simp only [setφ_self]; exact b4, fun y hy => ?_, fun i' y j d hy hd => ?_⟩
                · rcases List.mem_append.1 hy with h | h
                  · exact htl y h
                  · exact hall' y h
                · simp only [setφ_self]
                  rw [List.getElem?_toArray, splice_get _ _ _ hle']
                  by_cases hi' : i' < n
                  · rw [List.getElem?_append_left (by omega)] at hy
                    have hj : j < i.size := by have := (List.getElem?_eq_some_iff.1 hd).1; have := htl y (List.mem_of_getElem? hy); omega
                    have : (i' + 1) * i.size ≤ n * i.size := Nat.mul_le_mul_right _ hi'
                    rw [Nat.add_mul] at this
                    rw [if_neg (by omega)]
                    obtain ⟨u, hu, hu2⟩ := b6 i' y j d (htk i' y hy) hd
                    exact ⟨u, by simpa using hu, f.rep hu2⟩
                  · rw [List.getElem?_append_right (by omega), htake] at hy
                    have hj : j < i.size := by have := (List.getElem?_eq_some_iff.1 hd).1; have := hall' y (List.mem_of_getElem? hy); omega
                    obtain ⟨u, hu, hu2⟩ := n4 _ y j d hy hd
                    have hlt := (List.getElem?_eq_some_iff.1 hu).1
                    have e2 : i' * i.size + j = n * i.size + ((i' - n) * i.size + j) := by
                      rw [← Nat.add_assoc, ← Nat.add_mul]; congr 2; omega
                    rw [if_pos (by omega), e2, show (E.φ o).3 + (n * i.size + ((i' - n) * i.size + j)) - ((E.φ o).3 + n * i.size) = (i' - n) * i.size + j by omega]
                    exact ⟨u, hu, f.rep hu2⟩)
              refine ⟨.slice (some ⟨(E.φ o).1, (E.φ o).3, none⟩) (n + ds.length) (E.φ o).2, _, .value _, by simp only [Sem.run_bind, hrun, Result.andThen_ok, Sem.run_pure], .inl rfl, ?_, I', rfl, S', F'⟩
              exact .own _ _ _ _ rfl ⟨_, Hp.get_same _ _ _, Nat.le_refl _, fun _ => ⟨by simp only [En.sl, setφ_self], by simp [htake]⟩⟩
            · obtain ⟨c1, c2, c3, c4⟩ := arr_cells I hg (.inl ⟨e1, rfl⟩)
              obtain ⟨olds, o1, o2, o3, o4⟩ := row_cells (E := E) htake htl (fun i' y j d hy hd => c4 i' y j d (htk i' y hy) hd)
              have hof := run_firstCells_some (P := P) E.w.drew i.size n ⟨(E.φ o).1, (E.φ o).3, none⟩ n (E.φ o).2 olds o1 (fun j u hu => by simpa using o3 j u hu)
              have hrun := run_append_any (P := P) E.w t u ty e1 i z ht e' hu hi hz (some ⟨(E.φ o).1, (E.φ o).3, none⟩) a n (E.φ o).2 ds.length cap olds news (by omega) hof (n3 E.w.drew rfl) (by omega) f2
              have hge := grownCap_ge E.w (n + ds.length) (E.φ o).2 e1
              have hcm : grownCap E.w (n + ds.length) (E.φ o).2 e1 ≤ maxLen := grownCap_le_maxLen E.w (n + ds.length) (E.φ o).2 e1 (by unfold maxLen; omega)
              obtain ⟨I', S', F'⟩ := put_ok I o (.arr e1 i.size (w + 1) (es.take n ++ ds)) ⟨E.w.heap.size, grownCap E.w (n + ds.length) (E.φ o).2 e1, 0⟩
                (E.w.drew.alloc (.cells ((olds ++ news).toArray ++ Builtin.zeroCells z.cells (grownCap E.w (n + ds.length) (E.φ o).2 e1 - (n + ds.length))) e1)) rfl rfl rfl (by simp) rfl (.inl (Nat.le_refl _))
                (fun b hb _ => by show (E.w.heap.push _)[b]? = _; rw [Array.getElem?_push, if_neg (by omega)])
                (fun y hy => by rw [hg] at hy; injection hy with hy; subst hy; exact ⟨by omega, fun hw => by omega⟩)
                (fun f => by
                  refine grown_ro (es := es.take n) (ds := ds) (olds := olds) (news := news) f htl hall' (by rw [o1, htake]) n1 o4 n4 (Builtin.zeroCells z.cells (grownCap E.w (n + ds.length) (E.φ o).2 e1 - (n + ds.length))) (grownCap E.w (n + ds.length) (E.φ o).2 e1)
                    (by rw [zeroCells_size, hzs, htake]) (by rw [htake]; exact hge) hcm (by simp only [setφ_same]) (by simp only [setφ_same]) ?_
                  simp only [setφ_same]
                  show (E.w.heap.push _)[E.w.heap.size]? = _
                  rw [Array.getElem?_push, if_pos rfl])
              refine ⟨.slice (some ⟨E.w.heap.size, 0, none⟩) (n + ds.length) (grownCap E.w (n + ds.length) (E.φ o).2 e1), _, .value _, by simp only [Sem.run_bind, En.sl, hrun, Result.andThen_ok, Sem.run_pure], .inl rfl, ?_, I', rfl, S', F'⟩
              exact .own _ _ _ _ rfl ⟨_, Hp.get_same _ _ _, Nat.le_refl _, fun _ => ⟨by simp only [En.sl, setφ_same], by simp [htake]⟩⟩
          · cases h
      · cases h
    · cases h
  · cases h
end Go.Rx
end
section
namespace Go.Rx
open Go Go.RowKit
set_option linter.unusedVariables false
set_option linter.unusedSimpArgs false

def bInt (op : BinOp) (k : IntKind) (a b : Int) : Option D :=
  match op with
  | .add => some (.int k (k.wrap (a + b)))
  | .sub => some (.int k (k.wrap (a - b)))
  | .mul => some (.int k (k.wrap (a * b)))
  | .quo => if b = 0 then none else some (.int k (k.wrap (a.tdiv b)))
  | .rem => if b = 0 then none else some (.int k (a.tmod b))
  | .and => some (.int k (Go.bits .and k a b))
  | .or => some (.int k (Go.bits .or k a b))
  | .xor => some (.int k (Go.bits .xor k a b))
  | .andNot => some (.int k (Go.bits .andNot k a b))
  | .eql => some (.bool (a == b))
  | .neq => some (.bool (a != b))
  | .lss => some (.bool (decide (a < b)))
  | .leq => some (.bool (decide (a ≤ b)))
  | .gtr => some (.bool (decide (a > b)))
  | .geq => some (.bool (decide (a ≥ b)))
  | _ => none
def bShift (op : BinOp) (k : IntKind) (a b : Int) : Option D :=
  if b < 0 then none else match op with
  | .shl => some (.int k (k.wrap (a * 2 ^ (min b.toNat k.bits))))
  | .shr => some (.int k (a.fdiv (2 ^ (min b.toNat k.bits))))
  | _ => none
/-- Two texts, one behind the other. -/
def addS (a b : List UInt8) : Option D := if a.length + b.length ≤ lim then some (.str (a ++ b)) else none
theorem addS_at {a b : List UInt8} (h : a.length + b.length ≤ lim) : addS a b = some (.str (a ++ b)) := by unfold addS; rw [if_pos h]
def bStr (op : BinOp) (a b : List UInt8) : Option D :=
  match op with
  | .add => addS a b
  | .eql => some (.bool (a == b))
  | .neq => some (.bool (!(a == b)))
  | .lss => some (.bool (Op.bytesLess a b))
  | .leq => some (.bool (Op.bytesLess a b || a == b))
  | .gtr => some (.bool (!(Op.bytesLess a b || a == b)))
  | .geq => some (.bool (!(Op.bytesLess a b)))
  | _ => none
def bBool (op : BinOp) (a b : Bool) : Option D :=
  match op with
  | .eql => some (.bool (a == b))
  | .neq => some (.bool (!(a == b)))
  | _ => none
/-- Two parts of a type that is compared at once. -/
def eq1 (P : Program) (t : TypeId) (x y : D) : Option Bool :=
  match P.underlying t, x, y with
  | some .bool, .bool a, .bool b => some (a == b)
  | some (.int _), .int k a, .int k' b => if k = k' then some (a == b) else none
  | some .string, .str a, .str b => some (a == b)
  | _, _, _ => none
def eqFs (P : Program) (xs ys : List AV) : List Field → Option Bool
  | [] => some true
  | f :: fs => if f.name = "_" then none else match aggT P f.type, xs[f.offset]?, ys[f.offset]? with
    | some false, some (.d x), some (.d y) => (eq1 P f.type x y).bind fun b => (eqFs P xs ys fs).map fun c => b && c
    | _, _, _ => none
def eqSt (P : Program) (t : TypeId) (xs ys : List AV) : Option Bool :=
  match P.underlying t with
  | some (.struct fs) => if P.stoodInHeld t = false ∧ P.eqGuardType P.depth t = false then eqFs P xs ys fs.toList else none
  | _ => none
def isNil (P : Program) (op : BinOp) (t : TypeId) (x y : AV) : Option D :=
  match P.underlying t, op, x, y with
  | some (.pointer _), .eql, .ptr _ _, .d .nilp => some (.bool false)
  | some (.pointer _), .neq, .ptr _ _, .d .nilp => some (.bool true)
  | _, _, _, _ => none

def aBin (P : Program) (op : BinOp) (t : TypeId) (x y : AV) : Option AV :=
  match x, y with
  | .d (.int k a), .d (.int k' b) => if op = .shl ∨ op = .shr then (bShift op k a b).map .d else if k = k' then (bInt op k a b).map .d else none
  | .d (.str a), .d (.str b) => (bStr op a b).map .d
  | .d (.bool a), .d (.bool b) => match P.underlying t with
    | some .bool => (bBool op a b).map .d
    | _ => none
  | .agg xs, .agg ys => match op with
    | .eql => (eqSt P t xs ys).map fun b => .d (.bool b)
    | .neq => (eqSt P t xs ys).map fun b => .d (.bool (!b))
    | _ => none
  | x, y => (isNil P op t x y).map .d

theorem rep_bool {w : World} {S : Nat → Prop} {v : Value} {b : Bool} (h : Rep w S v (.bool b)) : v = .bool b := by cases h; rfl
theorem rep_int {w : World} {S : Nat → Prop} {v : Value} {k : IntKind} {n : Int} (h : Rep w S v (.int k n)) : v = .int k n := by cases h; rfl
theorem rep_str {w : World} {S : Nat → Prop} {v : Value} {s : List UInt8} (h : Rep w S v (.str s)) : ∃ b : ByteArray, v = .string b ∧ b.data.toList = s := by cases h; exact ⟨_, rfl, rfl⟩
theorem rv_d {E : En} {v : Value} {x : D} (h : RV E v (.d x)) : Rep E.w E.S v x := by cases h; assumption

theorem bInt_ok {P : Program} {E : En} {op : BinOp} {t : TypeId} {x y : Operand} {k : IntKind} {a b : Int} {r : D} (hne : ¬ (op = .shl ∨ op = .shr)) (h : bInt op k a b = some r) :
    OpQ P E (do eqGuard op t x y (.int k a) (.int k b); binOp op t (.int k a) (.int k b)) (.d r) := by
  unfold bInt at h
  split at h <;> first
    | (injection h with h; subst h; refine ⟨_, ?_, .d _ _ (by first | exact .int _ _ | exact .bool _)⟩; simp [eqGuard_at_int, binOp, Op.intArith, Op.intCmp, intBits_and, intBits_or, intBits_xor, intBits_andNot]; done)
    | (split at h
       · cases h
       · rename_i hb; injection h with h; subst h; refine ⟨_, ?_, .d _ _ (.int _ _)⟩; simp [eqGuard_at_int, binOp, Op.intDiv, hb])
    | cases h
theorem bShift_ok {P : Program} {E : En} {op : BinOp} {t : TypeId} {x y : Operand} {k k' : IntKind} {a b : Int} {r : D} (h : bShift op k a b = some r) :
    OpQ P E (do eqGuard op t x y (.int k a) (.int k' b); binOp op t (.int k a) (.int k' b)) (.d r) := by
  unfold bShift at h
  split at h
  · cases h
  · rename_i hb
    split at h
    · injection h with h; subst h; refine ⟨_, ?_, .d _ _ (.int _ _)⟩; simp [eqGuard_at_int, binOp, Op.shift, hb]
    · injection h with h; subst h; refine ⟨_, ?_, .d _ _ (.int _ _)⟩; simp [eqGuard_at_int, binOp, Op.shift, hb]
    · cases h
theorem bStr_ok {P : Program} {E : En} {op : BinOp} {t : TypeId} {x y : Operand} {a b : ByteArray} {r : D} (h : bStr op a.data.toList b.data.toList = some r) :
    OpQ P E (do eqGuard op t x y (.string a) (.string b); binOp op t (.string a) (.string b)) (.d r) := by
  unfold bStr at h
  split at h
  · unfold addS at h
    split at h
    · rename_i hl
      injection h with h; subst h
      refine ⟨.string (a ++ b), ?_, .d _ _ ?_⟩
      · have := run_string_add_sum (P := P) (w := E.w) a b (by unfold lim at hl; have e1 : a.data.toList.length = a.size := rfl; have e2 : b.data.toList.length = b.size := rfl; omega)
        simp [eqGuard_at_string, binOp, this]
      · have e : (a ++ b).data.toList = a.data.toList ++ b.data.toList := by simp
        rw [← e]; exact .str _
    · cases h
  all_goals first
    | (injection h with h; subst h; refine ⟨_, ?_, .d _ _ (.bool _)⟩; simp [eqGuard_at_string, binOp, Op.stringOp, ByteArray.toList_eq]; done)
    | cases h
theorem bBool_ok {P : Program} {E : En} {op : BinOp} {t : TypeId} {x y : Operand} {a b : Bool} {r : D} (ht : P.underlying t = some .bool) (h : bBool op a b = some r) :
    OpQ P E (do eqGuard op t x y (.bool a) (.bool b); binOp op t (.bool a) (.bool b)) (.d r) := by
  have key : (Op.equal t (.bool a) (.bool b)).run P E.w = .ok (a == b) E.w := run_equalIn_bool' E.w 9999 t a b ht
  unfold bBool at h
  split at h
  · injection h with h; subst h; refine ⟨.bool (a == b), ?_, .d _ _ (.bool _)⟩
    rw [eqGuard_at_bool, Sem.run_bind, Sem.run_pure, Result.andThen_ok]
    show (Op.equal t (.bool a) (.bool b) >>= fun r => (pure (Value.bool r) : Sem Value)).run P E.w = _
    rw [Sem.run_bind, key]; rfl
  · injection h with h; subst h; refine ⟨.bool (!(a == b)), ?_, .d _ _ (.bool _)⟩
    rw [eqGuard_at_bool, Sem.run_bind, Sem.run_pure, Result.andThen_ok]
    show (Op.equal t (.bool a) (.bool b) >>= fun r => (pure (Value.bool (!r)) : Sem Value)).run P E.w = _
    rw [Sem.run_bind, key]; rfl
  · cases h
theorem eqp_ok {P : Program} {t e : TypeId} (d : Nat) (a : Addr) (w : World) (ht : P.underlying t = some (.pointer e)) : (Op.equalIn (d + 1) t (.pointer (some a)) (.pointer none)).run P w = .ok false w := by
  simp [Op.equalIn, run_underlying ht]
theorem eq1_ok {P : Program} {E : En} {t : TypeId} {u v : Value} {x y : D} {r : Bool} (d : Nat) (hx : Rep E.w E.S u x) (hy : Rep E.w E.S v y) (h : eq1 P t x y = some r) : (Op.equalIn (d + 1) t u v).run P E.w = .ok r E.w := by
  unfold eq1 at h
  split at h
  · rename_i ht
    injection h with h; subst h
    rw [rep_bool hx, rep_bool hy]
    simp [Op.equalIn, run_underlying ht]
  · rename_i k' k a k2 b ht
    split at h
    · rename_i hk
      subst hk
      injection h with h; subst h
      rw [rep_int hx, rep_int hy]
      simp [Op.equalIn, run_underlying ht]
    · cases h
  · rename_i ht
    injection h with h; subst h
    obtain ⟨a, rfl, rfl⟩ := rep_str hx
    obtain ⟨b, rfl, rfl⟩ := rep_str hy
    have e : (a == b) = (a.data.toList == b.data.toList) := by rw [beq_toListBytes, ByteArray.toList_eq, ByteArray.toList_eq]
    simp [Op.equalIn, run_underlying ht, e]
  · cases h
theorem part_single {P : Program} {t : TypeId} {cs : Array Value} {off : Nat} {v : Value} {w : World} (ha : aggT P t = some false) (h : cs[off]? = some v) : (part t cs off).run P w = .ok v w := by
  simp [part, aggT_ok ha, h]
theorem eqFs_ok {P : Program} {E : En} {us vs : List Value} {xs ys : List AV} (hu : us.length = xs.length) (hv : vs.length = ys.length) (hx : ∀ (i : Nat) (v : Value) (a : AV), us[i]? = some v → xs[i]? = some a → RV E v a)
    (hy : ∀ (i : Nat) (v : Value) (a : AV), vs[i]? = some v → ys[i]? = some a → RV E v a) (d : Nat) : ∀ (fs : List Field) (r : Bool), eqFs P xs ys fs = some r → (Op.eqFields (d + 1) us.toArray vs.toArray fs).run P E.w = .ok r E.w
  | [], r, h => by injection h with h; subst h; simp [Op.eqFields]
  | f :: fs, r, h => by
    unfold eqFs at h
    split at h
    · cases h
    · rename_i hn
      split at h
      · rename_i x y ha hfx hfy
        simp only [Option.bind_eq_some_iff, Option.map_eq_some_iff] at h
        obtain ⟨b, hb, c, hc, rfl⟩ := h
        have hux : us[f.offset]? = some us[f.offset]! := by
          have := (List.getElem?_eq_some_iff.1 hfx).1
          rw [List.getElem!_eq_getElem?_getD, List.getElem?_eq_getElem (by omega)]; rfl
        have hvy : vs[f.offset]? = some vs[f.offset]! := by
          have := (List.getElem?_eq_some_iff.1 hfy).1
          rw [List.getElem!_eq_getElem?_getD, List.getElem?_eq_getElem (by omega)]; rfl
        have e := eq1_ok (P := P) (E := E) d (rv_d (hx _ _ _ hux hfx)) (rv_d (hy _ _ _ hvy hfy)) hb
        have ih := eqFs_ok (P := P) hu hv hx hy d fs c hc
        rw [Op.eqFields]
        simp only [ne_eq, hn, not_false_eq_true, if_true, Sem.run_bind, part_single (P := P) (w := E.w) ha (show us.toArray[f.offset]? = some us[f.offset]! by simpa using hux), part_single (P := P) (w := E.w) ha (show vs.toArray[f.offset]? = some vs[f.offset]! by simpa using hvy), e, Result.andThen_ok]
        cases b
        · simp
        · simpa using ih
      · cases h

theorem bin_ok {P : Program} {E : En} {op : BinOp} {t : TypeId} {ox oy : Operand} {u v : Value} {x y r : AV} (hx : RV E u x) (hy : RV E v y) (h : aBin P op t x y = some r) : OpQ P E (do eqGuard op t ox oy u v; binOp op t u v) r := by
  unfold aBin at h
  split at h
  · obtain rfl := rep_int (rv_d hx)
    obtain rfl := rep_int (rv_d hy)
    split at h
    · rw [Option.map_eq_some_iff] at h
      obtain ⟨d, hd, rfl⟩ := h
      exact bShift_ok hd
    · rename_i hne
      split at h
      · rename_i hk
        subst hk
        rw [Option.map_eq_some_iff] at h
        obtain ⟨d, hd, rfl⟩ := h
        exact bInt_ok hne hd
      · cases h
  · obtain ⟨a, rfl, rfl⟩ := rep_str (rv_d hx)
    obtain ⟨b, rfl, rfl⟩ := rep_str (rv_d hy)
    rw [Option.map_eq_some_iff] at h
    obtain ⟨d, hd, rfl⟩ := h
    exact bStr_ok hd
  · obtain rfl := rep_bool (rv_d hx)
    obtain rfl := rep_bool (rv_d hy)
    split at h
    · rename_i ht
      rw [Option.map_eq_some_iff] at h
      obtain ⟨d, hd, rfl⟩ := h
      exact bBool_ok ht hd
    · cases h
  · rename_i xs ys
    cases hx with
    | agg us _ hul hu1 hur =>
    cases hy with
    | agg vs _ hvl hv1 hvr =>
    have key : ∀ b, eqSt P t xs ys = some b → (eqGuard op t ox oy (.agg us.toArray) (.agg vs.toArray)).run P E.w = .ok () E.w ∧ (Op.equalIn 10000 t (.agg us.toArray) (.agg vs.toArray)).run P E.w = .ok b E.w := by
      intro b hb
      unfold eqSt at hb
      split at hb
      · rename_i fs hf
        split at hb
        · rename_i hg
          have hff : P.fieldsOf t = fs := by simp [Program.fieldsOf, hf]
          refine ⟨run_eqGuard_agg (P := P) E.w op t ox oy us.toArray vs.toArray hg.2, ?_⟩
          have := eqFs_ok (P := P) hul hvl hur hvr 9998 fs.toList b hb
          rw [run_equalIn_struct (P := P) E.w 9999 t us.toArray vs.toArray (by rw [hff]; exact hf) hg.1, hff]
          exact this
        · cases hb
      · cases hb
    split at h
    · rw [Option.map_eq_some_iff] at h
      obtain ⟨b, hb, rfl⟩ := h
      obtain ⟨k1, k2⟩ := key b hb
      refine ⟨.bool b, ?_, .d _ _ (.bool _)⟩
      rw [Sem.run_bind, k1, Result.andThen_ok, run_eql_struct (P := P) E.w, k2]; rfl
    · rw [Option.map_eq_some_iff] at h
      obtain ⟨b, hb, rfl⟩ := h
      obtain ⟨k1, k2⟩ := key b hb
      refine ⟨.bool (!b), ?_, .d _ _ (.bool _)⟩
      rw [Sem.run_bind, k1, Result.andThen_ok, run_neq_struct (P := P) E.w, k2]; rfl
    · cases h
  · rw [Option.map_eq_some_iff] at h
    obtain ⟨d, hd, rfl⟩ := h
    unfold isNil at hd
    split at hd
    · rename_i e off o ht
      injection hd with hd; subst hd
      cases hx with
      | ptr o off cs hg =>
      have hv : v = .pointer none := by have := rv_d hy; cases this; rfl
      subst hv
      refine ⟨.bool false, ?_, .d _ _ (.bool _)⟩
      rw [eqGuard_at_pointer, Sem.run_bind, Sem.run_pure, Result.andThen_ok]
      show (Op.equal t (.pointer (some _)) (.pointer none) >>= fun r => (pure (Value.bool r) : Sem Value)).run P E.w = _
      rw [Sem.run_bind, show (Op.equal t (.pointer (some ⟨(E.φ _).1, _, none⟩)) (.pointer none)).run P E.w = .ok false E.w from eqp_ok 9999 _ _ (by assumption)]; rfl
    · injection hd with hd; subst hd
      cases hx with
      | ptr o off cs hg =>
      have hv : v = .pointer none := by have := rv_d hy; cases this; rfl
      subst hv
      refine ⟨.bool true, ?_, .d _ _ (.bool _)⟩
      rw [eqGuard_at_pointer, Sem.run_bind, Sem.run_pure, Result.andThen_ok]
      show (Op.equal t (.pointer (some _)) (.pointer none) >>= fun r => (pure (Value.bool (!r)) : Sem Value)).run P E.w = _
      rw [Sem.run_bind, show (Op.equal t (.pointer (some ⟨(E.φ _).1, _, none⟩)) (.pointer none)).run P E.w = .ok false E.w from eqp_ok 9999 _ _ (by assumption)]; rfl
    · cases hd
end Go.Rx
end
section
namespace Go.Rx
open Go Go.RowKit
set_option linter.unusedVariables false
set_option linter.unusedSimpArgs false

def aUn (op : UnOp) (x : AV) : Option AV :=
  match op, x with
  | .not, .d (.bool b) => some (.d (.bool (!b)))
  | .neg, .d (.int k n) => some (.d (.int k (k.wrap (0 - n))))
  | .xor, .d (.int k n) => some (.d (.int k (Go.bits .xor k (if k.signed then -1 else k.max) n)))
  | _, _ => none
theorem un_ok {P : Program} {E : En} {op : UnOp} {u : Value} {x r : AV} (hx : RV E u x) (h : aUn op x = some r) : OpQ P E (Op.unary op u) r := by
  unfold aUn at h
  split at h
  · obtain rfl := rep_bool (rv_d hx); injection h with h; subst h; exact ⟨_, rfl, .d _ _ (.bool _)⟩
  · obtain rfl := rep_int (rv_d hx); injection h with h; subst h; exact ⟨_, rfl, .d _ _ (.int _ _)⟩
  · obtain rfl := rep_int (rv_d hx); injection h with h; subst h; exact ⟨_, rfl, .d _ _ (.int _ _)⟩
  · cases h

def offT (P : Program) (t : TypeId) (f : Nat) : Option Field :=
  match P.underlying t with
  | some (.struct fs) => fs[f]?
  | _ => none
def moveP (p : AV) (k : Nat) : Option AV :=
  match p with
  | .ptr o off => some (.ptr o (off + k))
  | .eptr o v i off => some (.eptr o v i (off + k))
  | .rptr e off => some (.rptr e (off + k))
  | _ => none
theorem moveP_ok {E : En} {v : Value} {p q : AV} {k : Nat} (h : RV E v p) (hm : moveP p k = some q) (hcur : ∀ o ver i off, p = .eptr o ver i off → ∃ e s es, E.H.get o = some (.arr e s ver es) ∨ E.H.get o = some (.frz e s ver es)) :
    ∃ b o, v = .pointer (some ⟨b, o, none⟩) ∧ RV E (.pointer (some ⟨b, o + k, none⟩)) q := by
  cases h with
  | undef => cases hm
  | d => cases hm
  | nilsl => cases hm
  | agg => cases hm
  | tuple => cases hm
  | own => cases hm
  | fn => cases hm
  | iface => cases hm
  | ptr o off cs hg => injection hm with hm; subst hm; exact ⟨_, _, rfl, .ptr o (off + k) cs hg⟩
  | rptr b off e k' hb hc => injection hm with hm; subst hm; exact ⟨_, _, rfl, by rw [Nat.add_assoc]; exact .rptr b off e (k' + k) hb hc⟩
  | eptr v o ver i off h1 ho =>
    injection hm with hm; subst hm
    obtain ⟨e, s, es, hg⟩ := hcur _ _ _ _ rfl
    obtain ⟨x, hgx, hx⟩ := ho
    rcases hg with hg | hg <;>
    · rw [hg] at hgx
      injection hgx with hgx
      subst hgx
      obtain ⟨e1, e2⟩ := hx.2 rfl
      subst e1
      exact ⟨_, _, rfl, .eptr _ _ _ _ _ rfl ⟨_, hg, Nat.le_refl _, fun _ => ⟨by rw [Nat.add_assoc, Nat.add_assoc], e2⟩⟩⟩

def curP (H : Hp) : AV → Bool
  | .eptr o ver _ _ => match H.get o with
    | some (.arr _ _ v _) => v == ver
    | some (.frz _ _ v _) => v == ver
    | _ => false
  | _ => true
theorem curP_ok {H : Hp} {p : AV} (h : curP H p = true) : ∀ o ver i off, p = .eptr o ver i off → ∃ e s es, H.get o = some (.arr e s ver es) ∨ H.get o = some (.frz e s ver es) := by
  rintro o ver i off rfl
  simp only [curP] at h
  split at h
  · rename_i e s v es hg; have hv : v = ver := by simpa using h
    subst hv; exact ⟨e, s, es, .inl hg⟩
  · rename_i e s v es hg; have hv : v = ver := by simpa using h
    subst hv; exact ⟨e, s, es, .inr hg⟩
  · cases h

def aFieldAddr (P : Program) (H : Hp) (t : TypeId) (p : AV) (f : Nat) : Option AV :=
  (offT P t f).bind fun fd => (sizeT P fd.type).bind fun n => if n = 0 then none else if curP H p then moveP p fd.offset else none
theorem fieldAddr_ok {P : Program} {E : En} {t : TypeId} {v : Value} {p r : AV} {f : Nat} (hp : RV E v p) (h : aFieldAddr P E.H t p f = some r) : OpQ P E (Instr.fieldAt t v f) r := by
  unfold aFieldAddr at h
  simp only [Option.bind_eq_some_iff] at h
  obtain ⟨fd, hfd, n, hn, h⟩ := h
  split at h
  · cases h
  · rename_i hn0
    split at h
    · rename_i hc
      obtain ⟨b, o, rfl, hr⟩ := moveP_ok hp h (curP_ok hc)
      refine ⟨_, ?_, hr⟩
      unfold offT at hfd
      split at hfd
      · rename_i fs hu
        simp [Instr.fieldAt, run_underlying hu, hfd, Instr.sureAddr, fieldPlace, sizeT_ok hn, hn0, Addr.add_lit]
      · cases hfd
    · cases h

def aField (P : Program) (t : TypeId) (x : AV) (f : Nat) : Option AV :=
  match x with
  | .agg vs => (offT P t f).bind fun fd => (aggT P fd.type).bind fun g => (sizeT P fd.type).bind fun n => takeT g n vs fd.offset
  | _ => none
theorem take_part {P : Program} {E : En} {cs : List Value} {vs : List AV} (hl : cs.length = vs.length) (h1 : ∀ v ∈ cs, v.oneCell' = true) (hr : ∀ (i : Nat) (v : Value) (a : AV), cs[i]? = some v → vs[i]? = some a → RV E v a)
    {t : TypeId} {g : Bool} {n off : Nat} {r : AV} (hg : aggT P t = some g) (hn : sizeT P t = some n) (h : takeT g n vs off = some r) : OpQ P E (part t cs.toArray off) r := by
  cases g with
  | false =>
    simp only [takeT] at h
    have h' : vs[off]? = some r := by simpa using h
    have hlt := (List.getElem?_eq_some_iff.1 h').1
    have hc := List.getElem?_eq_getElem (l := cs) (i := off) (by omega)
    exact ⟨_, part_single hg (by simp [hc]), hr off _ r hc h'⟩
  | true =>
    simp only [takeT, if_true] at h
    split at h
    · rename_i hle
      injection h with h; subst h
      refine ⟨.agg ((cs.drop off).take n).toArray, ?_, .agg _ _ (by simp; omega) (fun v hv => h1 v (List.mem_of_mem_drop (List.mem_of_mem_take hv))) (fun i v a hv ha => ?_)⟩
      · simp [part, aggT_ok hg, sizeT_ok hn]
      · rw [List.getElem?_take] at hv ha
        split at hv
        · rename_i hi
          rw [if_pos hi] at ha
          rw [List.getElem?_drop] at hv ha
          exact hr _ v a hv ha
        · cases hv
    · cases h
theorem field_ok {P : Program} {E : En} {t : TypeId} {v : Value} {x r : AV} {f : Nat} (hx : RV E v x) (h : aField P t x f = some r) : OpQ P E (Instr.field t v f) r := by
  unfold aField at h
  split at h
  · rename_i vs
    simp only [Option.bind_eq_some_iff] at h
    obtain ⟨fd, hfd, g, hg, n, hn, h⟩ := h
    cases hx with
    | agg cs _ hl h1 hr =>
    obtain ⟨u, e1, e2⟩ := take_part (P := P) hl h1 hr hg hn h
    refine ⟨u, ?_, e2⟩
    unfold offT at hfd
    split at hfd
    · rename_i fs hu
      simp [Instr.field, run_underlying hu, hfd, asAgg, e1]
    · cases hfd
  · cases h

def aExtract (x : AV) (i : Nat) : Option AV :=
  match x with
  | .tuple vs => vs[i]?
  | _ => none
theorem extract_ok {P : Program} {E : En} {v : Value} {x r : AV} {i : Nat} (hx : RV E v x) (h : aExtract x i = some r) : OpQ P E (Instr.extract v i) r := by
  unfold aExtract at h
  split at h
  · cases hx with
    | tuple cs vs hl hr =>
    have hlt := (List.getElem?_eq_some_iff.1 h).1
    have hc := List.getElem?_eq_getElem (l := cs) (i := i) (by omega)
    refine ⟨cs[i], ?_, hr i _ r hc h⟩
    simp [Instr.extract, hc]
  · cases h

/-- An element of a list: its place. What it depends on stays shut till it is asked for. -/
def ixL (es : List (List D)) (i : Int) (s : Nat) : Option AV :=
  if 0 ≤ i ∧ i < (es.length : Int) then (es[i.toNat]?).bind fun y => if y.length = s then some (.rptr y 0) else none else none
theorem ixL_at {es : List (List D)} {y : List D} {n s : Nat} (h : es[n]? = some y) (hs : y.length = s) : ixL es (n : Int) s = some (.rptr y 0) := by
  have hl := (List.getElem?_eq_some_iff.1 h).1
  unfold ixL
  rw [if_pos ⟨by omega, by omega⟩]
  simp [h, hs]
def ixS (s : List UInt8) (i : Int) : Option AV := if 0 ≤ i then (s[i.toNat]?).map fun b => .d (.int .u8 b.toNat) else none
theorem ixS_at {s : List UInt8} {b : UInt8} {n : Nat} (h : s[n]? = some b) : ixS s (n : Int) = some (.d (.int .u8 b.toNat)) := by
  unfold ixS
  rw [if_pos (by omega)]
  simp [h]
def aIndexAddr (P : Program) (H : Hp) (t : TypeId) (x ix : AV) : Option AV :=
  match ix with
  | .d (.int _ i) => match P.underlying t with
    | some (.slice e) => (sizeT P e).bind fun s => match x with
      | .d (.list es) => ixL es i s
      | .own o ver n => match H.get o with
        | some (.arr _ s' v es) => if v = ver ∧ s' = s ∧ 0 ≤ i ∧ i < (n : Int) then some (.eptr o ver i.toNat 0) else none
        | some (.frz _ s' v es) => if v = ver ∧ s' = s ∧ 0 ≤ i ∧ i < (n : Int) then some (.eptr o ver i.toNat 0) else none
        | _ => none
      | _ => none
    | some (.array n e) => (sizeT P e).bind fun s => if 0 ≤ i ∧ i < (n : Int) then (if curP H x then moveP x (i.toNat * s) else none) else none
    | _ => none
  | _ => none
theorem indexAddr_ok {P : Program} {E : En} (I : Inv E) {t : TypeId} {u v : Value} {x ix r : AV} (hx : RV E u x) (hi : RV E v ix) (h : aIndexAddr P E.H t x ix = some r) : OpQ P E (Instr.indexAt t u v) r := by
  unfold aIndexAddr at h
  split at h
  · rename_i k i
    obtain rfl := rep_int (rv_d hi)
    split at h
    · rename_i e ht
      simp only [Option.bind_eq_some_iff] at h
      obtain ⟨s, hs, h⟩ := h
      split at h
      · rename_i es
        unfold ixL at h
        split at h
        · rename_i hin
          simp only [Option.bind_eq_some_iff] at h
          obtain ⟨y, hy, h⟩ := h
          split at h
          · rename_i hys
            injection h with h; subst h
            have hrep := rv_d hx
            cases hrep with
            | empty a cap hc => simp at hin; omega
            | list b off cap s' es c hb h1 hm h2 h3 h4 =>
              obtain rfl : s = s' := by rw [← hys]; exact h2 y (List.mem_of_getElem? hy)
              refine ⟨.pointer (some ⟨b, off + i.toNat * s + 0, none⟩), ?_, .rptr b (off + i.toNat * s) y 0 hb (fun j d hd => ⟨c i.toNat j, by rw [Nat.add_assoc]; exact h3 _ y j d hy hd, h4 _ y j d hy hd⟩)⟩
              simp [Instr.indexAt, asIntOf, run_underlying ht, hin, sizeT_ok hs, Addr.add_lit]
          · cases h
        · cases h
      · rename_i o ver n
        cases hx with
        | own _ _ _ _ h1 ho =>
        obtain ⟨z, hg, hz⟩ := ho
        have key : ∀ s' w (es : List (List D)), (∃ e', z = .arr e' s' w es) ∨ (∃ e', z = .frz e' s' w es) → (ver ≤ w ∧ (ver = w → u = E.sl o n ∧ n ≤ es.length)) →
            (if w = ver ∧ s' = s ∧ 0 ≤ i ∧ i < (n : Int) then some (AV.eptr o ver i.toNat 0) else none) = some r → OpQ P E (Instr.indexAt t u (.int k i)) r := by
          intro s' w es hzz hv hr
          split at hr
          · rename_i hh
            obtain ⟨rfl, rfl, h0, hlt⟩ := hh
            injection hr with hr; subst hr
            obtain ⟨rfl, hn⟩ := hv.2 rfl
            refine ⟨.pointer (some ⟨(E.φ o).1, (E.φ o).3 + i.toNat * s', none⟩), ?_, ?_⟩
            · simp [Instr.indexAt, En.sl, asIntOf, run_underlying ht, h0, hlt, sizeT_ok hs, Addr.add_lit]
            · rcases hzz with ⟨e', rfl⟩ | ⟨e', rfl⟩
              · exact .eptr _ _ _ _ _ rfl ⟨_, hg, Nat.le_refl _, fun _ => ⟨by simp, by omega⟩⟩
              · exact .eptr _ _ _ _ _ rfl ⟨_, hg, Nat.le_refl _, fun _ => ⟨by simp, by omega⟩⟩
          · cases hr
        simp only [hg] at h
        cases z with
        | cells => exact hz.elim
        | arr e' s' w es => exact key s' w es (.inl ⟨e', rfl⟩) hz h
        | frz e' s' w es => exact key s' w es (.inr ⟨e', rfl⟩) hz h
      · cases h
    · rename_i n e ht
      simp only [Option.bind_eq_some_iff] at h
      obtain ⟨s, hs, h⟩ := h
      split at h
      · rename_i hin
        split at h
        · rename_i hc
          obtain ⟨b, o, rfl, hr⟩ := moveP_ok hx h (curP_ok hc)
          refine ⟨_, ?_, hr⟩
          simp [Instr.indexAt, asIntOf, run_underlying ht, hin, sizeT_ok hs, Addr.add_lit, Instr.sureAddr]
        · cases h
      · cases h
    · cases h
  · cases h

def aIndex (P : Program) (t : TypeId) (x ix : AV) : Option AV :=
  match ix, x with
  | .d (.int _ i), .d (.str s) => match P.underlying t with
    | some .string => ixS s i
    | _ => none
  | _, _ => none
theorem index_ok {P : Program} {E : En} {t : TypeId} {u v : Value} {x ix r : AV} (hx : RV E u x) (hi : RV E v ix) (h : aIndex P t x ix = some r) : OpQ P E (Instr.index t u v) r := by
  unfold aIndex at h
  split at h
  · rename_i k i s
    obtain rfl := rep_int (rv_d hi)
    obtain ⟨b, rfl, rfl⟩ := rep_str (rv_d hx)
    split at h
    · rename_i ht
      unfold ixS at h
      split at h
      · rename_i h0
        rw [Option.map_eq_some_iff] at h
        obtain ⟨c, hc, rfl⟩ := h
        refine ⟨.int .u8 c.toNat, ?_, .d _ _ (.int _ _)⟩
        have hlt := (List.getElem?_eq_some_iff.1 hc).1
        have hlt' : i.toNat < b.size := by have : b.data.toList.length = b.size := rfl; omega
        have hb : b[i.toNat]? = some c := by
          rw [ByteArray.getElem?_lt' _ _ hlt']
          have e : b.data.toList[i.toNat]? = some b[i.toNat] := by
            rw [List.getElem?_eq_getElem (by simpa using hlt)]; rfl
          rw [← e]; exact hc
        simp [Instr.index, asIntOf, run_underlying ht, h0, hb]
      · cases h
    · cases h
  · cases h

def aNilCheck (x : AV) : Option AV :=
  match x with
  | .ptr .. => some x
  | .eptr .. => none
  | .rptr .. => some x
  | .fn .. => some x
  | _ => none
theorem nilCheck_ok {P : Program} {E : En} (I : Inv E) {o : Oper} {ρ : Operand → Value} {y : Operand} {x r : AV} (ho : o.op = .nilCheck y) (hx : RV E (ρ y) x) (h : aNilCheck x = some r) : OpS P E (execOp ρ o) r E.H := by
  have key : ∀ v, ρ y = v → RV E v r → (execOp ρ o).run P E.w = .ok (.value v) E.w → OpS P E (execOp ρ o) r E.H := fun v _ hr hrun => ⟨v, E, .value v, hrun, .inl rfl, hr, I, rfl, .refl E, .refl E⟩
  unfold aNilCheck at h
  split at h <;> first | cases h | skip
  all_goals
    generalize hv : ρ y = v at hx
    refine key v hv hx ?_
    cases hx
    unfold execOp
    simp only [ho, hv]
    rfl

def aLen (P : Program) (H : Hp) (t : TypeId) (x : AV) : Option AV :=
  match P.underlying t, x with
  | some .string, .d (.str s) => some (.d (.int .i64 s.length))
  | some (.slice _), x => (srcOf H x).map fun ds => .d (.int .i64 ds.length)
  | _, _ => none
theorem len_ok {P : Program} {E : En} (I : Inv E) {t ty : TypeId} {v : Value} {x r : AV} (hx : RV E v x) (h : aLen P E.H t x = some r) : OpQ P E (Builtin.len_ #[t] ty #[v]) r := by
  unfold aLen at h
  split at h
  · rename_i ht
    injection h with h; subst h
    obtain ⟨b, rfl, rfl⟩ := rep_str (rv_d hx)
    exact ⟨.int .i64 b.size, by simp [Builtin.len_, run_underlying ht, goInt], .d _ _ (.int _ _)⟩
  · rename_i ht
    rw [Option.map_eq_some_iff] at h
    obtain ⟨ds, hds, rfl⟩ := h
    obtain ⟨a, cap, rfl, _⟩ := src_ok I hx hds
    exact ⟨.int .i64 ds.length, by simp [Builtin.len_, run_underlying ht, goInt], .d _ _ (.int _ _)⟩
  · cases h
end Go.Rx
end
section
namespace Go.Rx
open Go Go.RowKit
set_option linter.unusedVariables false
set_option linter.unusedSimpArgs false

def afill (place : Nat → Option (Nat × Nat)) (cells : List AV) : List (Nat × AV) → Option (List AV)
  | [] => some cells
  | (i, v) :: rest => (place i).bind fun p => (cellsOf v).bind fun cs => if cs.length = p.2 ∧ p.1 + cs.length ≤ cells.length then afill place (splice cells p.1 cs) rest else none

theorem foldl_splice (c : List Value) : ∀ (j off : Nat) (arr : Array Value), off + j + c.length ≤ arr.size →
    ((c.zipIdx j).foldl (fun cs (x : Value × Nat) => cs.setIfInBounds (off + x.2) x.1) arr).toList = splice arr.toList (off + j) c := by
  induction c with
  | nil => intro j off arr h; simp [splice]
  | cons v c ih =>
    intro j off arr h
    simp only [List.zipIdx_cons, List.foldl_cons]
    rw [ih (j + 1) off _ (by simp at h ⊢; omega)]
    apply List.ext_getElem?
    intro k
    rw [splice_get _ _ _ (by simp at h ⊢; omega), splice_get _ _ _ (by simp at h ⊢; omega)]
    by_cases h1 : off + (j + 1) ≤ k ∧ k < off + (j + 1) + c.length
    · rw [if_pos h1, if_pos ⟨by omega, by simp; omega⟩, show k - (off + j) = (k - (off + (j + 1))) + 1 by omega, List.getElem?_cons_succ]
    · rw [if_neg h1]
      by_cases h2 : off + j = k
      · subst h2
        rw [if_pos ⟨by omega, by simp⟩, Nat.sub_self, Array.toList_setIfInBounds, List.getElem?_set_self (by simp at h ⊢; omega)]
        rfl
      · rw [if_neg (by simp; omega)]
        simp [h2]

theorem fill_ok {E : En} {place : Nat → Option (Nat × Nat)} : ∀ (parts : List (Nat × AV)) (vparts : List (Nat × Value)) (cells : List AV) (cs : Array Value) (out : List AV),
    vparts.length = parts.length → (∀ (k : Nat) (i j : Nat) (v : Value) (a : AV), vparts[k]? = some (i, v) → parts[k]? = some (j, a) → i = j ∧ RV E v a) →
    cs.size = cells.length → (∀ (k : Nat) (v : Value), cs[k]? = some v → v.oneCell' = true) → (∀ (k : Nat) (v : Value) (a : AV), cs[k]? = some v → cells[k]? = some a → RV E v a) →
    afill place cells parts = some out → ∃ r : Array Value, Instr.fill place cs vparts = some r ∧ r.size = out.length ∧ (∀ (k : Nat) (v : Value), r[k]? = some v → v.oneCell' = true) ∧ (∀ (k : Nat) (v : Value) (a : AV), r[k]? = some v → out[k]? = some a → RV E v a)
  | [], vparts, cells, cs, out, hl, hp, hs, h1, hr, h => by
    injection h with h; subst h
    obtain rfl : vparts = [] := List.eq_nil_of_length_eq_zero hl
    exact ⟨cs, rfl, hs, h1, hr⟩
  | (i, a) :: parts, vparts, cells, cs, out, hl, hp, hs, h1, hr, h => by
    cases vparts with
    | nil => simp at hl
    | cons iv vparts =>
      obtain ⟨i', v⟩ := iv
      obtain ⟨rfl, hva⟩ := hp 0 i' i v a rfl rfl
      simp only [afill, Option.bind_eq_some_iff] at h
      obtain ⟨⟨off, sz⟩, hpl, c, hc, h⟩ := h
      split at h
      · rename_i hh
        obtain ⟨hh1, hh2⟩ := hh
        simp only [] at hh1 hh2
        obtain ⟨cv, e1, e2, e3, e4⟩ := cells_rv hva hc
        have hle : off + 0 + cv.length ≤ cs.size := by omega
        have hfold := foldl_splice cv 0 off cs hle
        have harr : (v.cells.zipIdx.foldl (fun cs (x : Value × Nat) => cs.setIfInBounds (off + x.2) x.1) cs) = (splice cs.toList off cv).toArray := by
          apply Array.ext'
          rw [e1]
          rw [← Array.foldl_toList, Array.toList_zipIdx]
          simp only [Nat.add_zero] at hfold
          exact hfold
        have hle' : off + cv.length ≤ cs.toList.length := by simp; omega
        obtain ⟨r, r1, r2, r3, r4⟩ := fill_ok parts vparts (splice cells off c) (splice cs.toList off cv).toArray out (by simpa using hl) (fun k i j v a h3 h4 => hp (k + 1) i j v a h3 h4)
          (by simp [splice_length _ _ _ hle', splice_length _ _ _ hh2, hs])
          (fun k u hu => by
            rw [List.getElem?_toArray, splice_get _ _ _ hle'] at hu
            split at hu
            · exact e3 u (List.mem_of_getElem? hu)
            · exact h1 k u (by simpa using hu))
          (fun k u b hu hb => by
            rw [List.getElem?_toArray, splice_get _ _ _ hle'] at hu
            rw [splice_get _ _ _ hh2, ← e2] at hb
            split at hu
            · rename_i hin; rw [if_pos hin] at hb; exact e4 _ u b hu hb
            · rename_i hin; rw [if_neg hin] at hb; exact hr k u b (by simpa using hu) hb) h
        refine ⟨r, ?_, r2, r3, r4⟩
        have hcs : v.cells.size = sz := by rw [e1]; simp; omega
        rw [Instr.fill, hpl]
        simp only [hcs]
        rw [if_neg (by simp [e1] at hcs ⊢; omega)]
        rw [harr]; exact r1
      · cases h

def placesT (P : Program) (fs : Array Field) : Option (List (Nat × Nat)) := fs.toList.mapM fun f => (sizeT P f.type).map fun n => (f.offset, n)
theorem places_run {P : Program} {w : World} : ∀ (fs : List Field) (ps : List (Nat × Nat)), fs.mapM (fun f => (sizeT P f.type).map fun n => (f.offset, n)) = some ps →
    (fs.mapM (fun f => (do pure (f.offset, ← sizeOf f.type) : Sem (Nat × Nat)))).run P w = .ok ps w
  | [], ps, h => by simp at h; subst h; simp
  | f :: fs, ps, h => by
    simp only [List.mapM_cons, Option.bind_eq_bind, Option.bind_eq_some_iff, Option.map_eq_some_iff] at h
    obtain ⟨p, ⟨n, hn, rfl⟩, qs, hqs, h⟩ := h
    have ih := places_run (w := w) fs qs hqs
    injection h with h; subst h
    simp only [List.mapM_cons, Sem.run_bind, sizeT_ok hn, Result.andThen_ok, Sem.run_pure, ih]

def zeroOf (P : Program) (t : TypeId) : Option (List AV) := ((P.info? t).bind (·.zero)).bind fun z => cellsOf (ofVal z)
theorem zeroOf_ok {P : Program} {E : En} {t : TypeId} {cs : List AV} (h : zeroOf P t = some cs) :
    ∃ z, (∀ w, (zeroValue t).run P w = .ok z w) ∧ z.cells.size = cs.length ∧ (∀ (k : Nat) (v : Value), z.cells[k]? = some v → v.oneCell' = true) ∧ (∀ (k : Nat) (v : Value) (a : AV), z.cells[k]? = some v → cs[k]? = some a → RV E v a) := by
  unfold zeroOf at h
  simp only [Option.bind_eq_some_iff] at h
  obtain ⟨z, ⟨i, hi, hz⟩, hcs⟩ := h
  obtain ⟨c, e1, e2, e3, e4⟩ := cells_rv (ofVal_rv E z) hcs
  refine ⟨z, fun w => by simp [zeroValue, typeInfo, hi, hz], by rw [e1]; simpa using e2, fun k v hv => ?_, fun k v a hv ha => ?_⟩
  · rw [e1] at hv; exact e3 v (List.mem_of_getElem? (by simpa using hv))
  · rw [e1] at hv; exact e4 k v a (by simpa using hv) ha

def aBuild (P : Program) (t : TypeId) (parts : List (Nat × AV)) : Option AV :=
  match P.underlying t with
  | some (.struct fs) => (zeroOf P t).bind fun z => (placesT P fs).bind fun ps => (afill (ps[·]?) z parts).map .agg
  | some (.array _ e) => (zeroOf P t).bind fun z => (sizeT P e).bind fun n => (afill (fun i => some (i * n, n)) z parts).map .agg
  | _ => none

theorem mapM_array {P : Program} {w : World} (fs : Array Field) (ps : List (Nat × Nat)) (h : placesT P fs = some ps) :
    (fs.mapM (fun f => (do pure (f.offset, ← sizeOf f.type) : Sem (Nat × Nat)))).run P w = .ok ps.toArray w := by
  have := places_run (P := P) (w := w) fs.toList ps h
  rw [Array.mapM_eq_mapM_toList]
  simp only [Sem.run_map, this, Result.andThen_ok]

theorem build_ok {P : Program} {E : En} {t : TypeId} {parts : List (Nat × AV)} {vparts : List (Nat × Value)} {r : AV} (hl : vparts.length = parts.length)
    (hp : ∀ (k : Nat) (i j : Nat) (v : Value) (a : AV), vparts[k]? = some (i, v) → parts[k]? = some (j, a) → i = j ∧ RV E v a) (h : aBuild P t parts = some r) : OpQ P E (Instr.build t vparts.toArray) r := by
  have fin : ∀ (c : Array Value) (out : List AV), c.size = out.length → (∀ (k : Nat) (v : Value), c[k]? = some v → v.oneCell' = true) → (∀ (k : Nat) (v : Value) (a : AV), c[k]? = some v → out[k]? = some a → RV E v a) → RV E (.agg c) (.agg out) := fun c out h1 h2 h3 => by
    have e : c = c.toList.toArray := by simp
    rw [e]
    exact .agg _ _ (by simpa using h1) (fun v hv => by obtain ⟨k, hk⟩ := List.mem_iff_getElem?.1 hv; exact h2 k v (by simpa using hk)) (fun k v a hv ha => h3 k v a (by simpa using hv) ha)
  unfold aBuild at h
  split at h
  · rename_i fs hu
    simp only [Option.bind_eq_some_iff, Option.map_eq_some_iff] at h
    obtain ⟨z, hz, ps, hps, out, hout, rfl⟩ := h
    obtain ⟨zv, z1, z2, z3, z4⟩ := zeroOf_ok (E := E) hz
    obtain ⟨c, c1, c2, c3, c4⟩ := fill_ok (E := E) parts vparts z zv.cells out hl hp z2 z3 z4 hout
    refine ⟨.agg c, ?_, fin c out c2 c3 c4⟩
    simp only [Instr.build, Sem.run_bind, z1, Result.andThen_ok, run_underlying hu, mapM_array fs ps hps, Sem.run_pure]
    have e : (fun x : Nat => ps.toArray[x]?) = (fun x : Nat => ps[x]?) := by funext x; simp
    simp only [e, c1]
    rfl
  · rename_i n e hu
    simp only [Option.bind_eq_some_iff, Option.map_eq_some_iff] at h
    obtain ⟨z, hz, m, hm, out, hout, rfl⟩ := h
    obtain ⟨zv, z1, z2, z3, z4⟩ := zeroOf_ok (E := E) hz
    obtain ⟨c, c1, c2, c3, c4⟩ := fill_ok (E := E) parts vparts z zv.cells out hl hp z2 z3 z4 hout
    refine ⟨.agg c, ?_, fin c out c2 c3 c4⟩
    simp only [Instr.build, Sem.run_bind, z1, Result.andThen_ok, run_underlying hu, sizeT_ok hm, Sem.run_pure, c1]
  · cases h

/-- Cells in rows of s. -/
def chunk (s : Nat) : Nat → List D → List (List D)
  | 0, _ => []
  | n + 1, l => l.take s :: chunk s n (l.drop s)
theorem chunk_length (s : Nat) : ∀ (n : Nat) (l : List D), (chunk s n l).length = n
  | 0, _ => rfl
  | n + 1, l => by simp [chunk, chunk_length s n]
theorem chunk_get (s : Nat) : ∀ (n : Nat) (l : List D) (i : Nat), i < n → (chunk s n l)[i]? = some ((l.drop (i * s)).take s)
  | 0, _, _, h => by omega
  | n + 1, l, 0, _ => by simp [chunk]
  | n + 1, l, i + 1, h => by
    simp only [chunk, List.getElem?_cons_succ]
    rw [chunk_get s n _ i (by omega), List.drop_drop]
    congr 3
    rw [Nat.add_mul]; omega

/-- A row of plain elements, new. -/
theorem newRow_ok {P : Program} {E E1 : En} (hw : E1.w = E.w) (I1 : Inv E1) (S1 : Step E E1) (F1 : Fit E E1) {o : Nm} {n s : Nat} {e : TypeId} {xs : List D} (hnone : E1.H.get o = none) (c : Array Value) (w' : World) (hw' : w' = E.w.alloc (.cells c e)) (hc : c.size = n * s) (hx : xs.length = n * s) (hn : n ≤ maxLen)
    (hr : ∀ (k : Nat) (u : Value) (x : D), c[k]? = some u → xs[k]? = some x → Rep E1.w E1.S u x) :
    ∃ E', E'.w = w' ∧ RV E' (.slice (some ⟨E.w.heap.size, 0, none⟩) n n) (.own o 0 n) ∧ Inv E' ∧ E'.H = (o, .arr e s 0 (chunk s n xs)) :: E1.H ∧ Step E E' ∧ Fit E E' := by
  subst hw'
  obtain ⟨I', S', F'⟩ := new_ok I1 o hnone (.arr e s 0 (chunk s n xs)) c e n (E.w.alloc (.cells c e)) (by rw [hw]; rfl) (by rw [hw]; rfl) (by rw [hw]; rfl) (by rw [hw]; rfl) rfl
    (fun f hb => by
      refine ⟨c, by simp only [setφ_same]; exact hb, by simp only [setφ_same]; omega, by simp only [setφ_same, chunk_length]; exact Nat.le_refl _, by simp only [setφ_same]; exact hn, fun y hy => ?_, fun i y j d hy hd => ?_⟩
      · obtain ⟨i, hi⟩ := List.mem_iff_getElem?.1 hy
        have hlt := (List.getElem?_eq_some_iff.1 hi).1
        rw [chunk_length] at hlt
        rw [chunk_get s n xs i hlt] at hi
        injection hi with hi; subst hi
        have : (i + 1) * s ≤ n * s := Nat.mul_le_mul_right _ hlt
        rw [Nat.add_mul] at this
        simp; omega
      · have hlt := (List.getElem?_eq_some_iff.1 hy).1
        rw [chunk_length] at hlt
        rw [chunk_get s n xs i hlt] at hy
        injection hy with hy; subst hy
        rw [List.getElem?_take] at hd
        split at hd
        · rename_i hj
          rw [List.getElem?_drop] at hd
          have hlt2 := (List.getElem?_eq_some_iff.1 hd).1
          have hcu : c[i * s + j]? = some c[i * s + j]! := by
            rw [Array.getElem!_eq_getD, Array.getElem?_eq_getElem (by omega), Array.getD_eq_getD_getElem?, Array.getElem?_eq_getElem (by omega)]; rfl
          exact ⟨_, by simp only [setφ_same, Nat.zero_add]; exact hcu, f.rep (hr _ _ d hcu hd)⟩
        · cases hd)
  refine ⟨_, rfl, ?_, I', rfl, S1.trans I1 S', F1.trans F'⟩
  exact .own _ _ _ _ rfl ⟨_, Hp.get_same _ _ _, Nat.le_refl _, fun _ => ⟨by simp only [En.sl, setφ_same, hw], by rw [chunk_length]; exact Nat.le_refl _⟩⟩

def repl (n : Nat) (z : List AV) : List AV := (List.range (n * z.length)).map fun i => z.getD (i % z.length) .undef

def aBuildSlice (P : Program) (H : Hp) (dst : Nat) (t : TypeId) (n : Nat) (parts : List (Nat × AV)) : Option (AV × Hp) :=
  match P.underlying t with
  | some (.slice e) => (sizeT P e).bind fun s => (zeroOf P e).bind fun z => if z.length = s ∧ n * s ≤ 2 ^ 24 ∧ 0 < s then
      (afill (fun i => some (i * s, s)) (repl n z) parts).bind fun cs => (sealL H cs).bind fun x =>
        if (x.2.get (.slot dst)).isNone then some (.own (.slot dst) 0 n, (.slot dst, .arr e s 0 (chunk s n x.1)) :: x.2)
        else if (x.2.get (.cell (.slot dst) 0)).isNone then some (.own (.cell (.slot dst) 0) 0 n, (.cell (.slot dst) 0, .arr e s 0 (chunk s n x.1)) :: x.2) else none
    else none
  | _ => none

theorem afill_length {place : Nat → Option (Nat × Nat)} : ∀ (parts : List (Nat × AV)) (cells out : List AV), afill place cells parts = some out → out.length = cells.length
  | [], cells, out, h => by injection h with h; subst h; rfl
  | (i, v) :: rest, cells, out, h => by
    simp only [afill, Option.bind_eq_some_iff] at h
    obtain ⟨p, hp, cs, hcs, h⟩ := h
    split at h
    · rename_i hh
      rw [afill_length rest _ out h, splice_length _ _ _ hh.2]
    · cases h

theorem repl_rv {E : En} {z : Array Value} {cs : List AV} {n s : Nat} (hs : cs.length = s) (hs0 : 0 < s) (hz : z.size = s) (h1 : ∀ (k : Nat) (v : Value), z[k]? = some v → v.oneCell' = true) (hr : ∀ (k : Nat) (v : Value) (a : AV), z[k]? = some v → cs[k]? = some a → RV E v a) :
    ((Array.range (n * s)).map (fun i => z[i % z.size]!)).size = (repl n cs).length ∧ (∀ (k : Nat) (v : Value), ((Array.range (n * s)).map (fun i => z[i % z.size]!))[k]? = some v → v.oneCell' = true) ∧
    (∀ (k : Nat) (v : Value) (a : AV), ((Array.range (n * s)).map (fun i => z[i % z.size]!))[k]? = some v → (repl n cs)[k]? = some a → RV E v a) := by
  have get : ∀ (k : Nat) (v : Value), ((Array.range (n * s)).map (fun i => z[i % z.size]!))[k]? = some v → k < n * s ∧ z[k % s]? = some v := fun k v hv => by
    rw [Array.getElem?_map] at hv
    rcases Nat.lt_or_ge k (n * s) with h | h
    · rw [Array.getElem?_range, if_pos h] at hv
      simp only [Option.map_some] at hv
      injection hv with hv
      refine ⟨h, ?_⟩
      rw [hz] at hv
      have hlt : k % s < z.size := by rw [hz]; exact Nat.mod_lt _ hs0
      rw [Array.getElem?_eq_getElem hlt, ← hv, Array.getElem!_eq_getD, Array.getD_eq_getD_getElem?, Array.getElem?_eq_getElem hlt]; rfl
    · rw [Array.getElem?_range, if_neg (by omega)] at hv; cases hv
  refine ⟨by simp [repl, hs], fun k v hv => h1 _ v (get k v hv).2, fun k v a hv ha => ?_⟩
  obtain ⟨hk, hzk⟩ := get k v hv
  refine hr _ v a hzk ?_
  simp only [repl, List.getElem?_map, hs] at ha
  rw [List.getElem?_range hk] at ha
  simp only [Option.map_some] at ha
  injection ha with ha
  have hlt : k % s < cs.length := by rw [hs]; exact Nat.mod_lt _ hs0
  rw [List.getElem?_eq_getElem hlt, ← ha, List.getD_eq_getElem?_getD, List.getElem?_eq_getElem hlt]; rfl

theorem buildSlice_ok {P : Program} {E : En} (I : Inv E) {dst : Nat} {t : TypeId} {n : Nat} {parts : List (Nat × AV)} {vparts : List (Nat × Value)} {r : AV} {H' : Hp} (hl : vparts.length = parts.length)
    (hp : ∀ (k : Nat) (i j : Nat) (v : Value) (a : AV), vparts[k]? = some (i, v) → parts[k]? = some (j, a) → i = j ∧ RV E v a) (h : aBuildSlice P E.H dst t n parts = some (r, H')) :
    OpS P E (do pure (.value (← Instr.buildSlice t n vparts.toArray))) r H' := by
  unfold aBuildSlice at h
  split at h
  · rename_i e hu
    simp only [Option.bind_eq_some_iff] at h
    obtain ⟨s, hs, z, hz, h⟩ := h
    split at h
    · rename_i hh
      obtain ⟨hzs, h24, hs0⟩ := hh
      simp only [Option.bind_eq_some_iff] at h
      obtain ⟨cs, hcs, ⟨xs, H1⟩, hx, h⟩ := h
      simp only [] at h
      have key : ∀ o : Nm, (H1.get o).isNone = true → (some (AV.own o 0 n, (o, AObj.arr e s 0 (chunk s n xs)) :: H1) : Option (AV × Hp)) = some (r, H') → OpS P E (do pure (.value (← Instr.buildSlice t n vparts.toArray))) r H' := fun o hnone h => by
        injection h with h
        injection h with h1 h2
        subst h1 h2
        obtain ⟨zv, z1, z2, z3, z4⟩ := zeroOf_ok (E := E) hz
        obtain ⟨p1, p2, p3⟩ := repl_rv (E := E) (z := zv.cells) (n := n) hzs hs0 (by omega) z3 z4
        obtain ⟨c, c1, c2, c3, c4⟩ := fill_ok (E := E) parts vparts _ _ cs hl hp p1 p2 p3 hcs
        have hcl : cs.length = n * s := by rw [afill_length _ _ _ hcs]; simp [repl, hzs]
        obtain ⟨E1, w1, e1, I1, S1, F1, l1, r1⟩ := sealL_ok (c := c.toList) I (by simpa using c2) (fun i v a hv ha => c4 i v a (by simpa using hv) ha) hx
        subst e1
        have hnm : n ≤ maxLen := by
          have : n ≤ n * s := Nat.le_mul_of_pos_right _ hs0
          unfold maxLen; omega
        obtain ⟨E', a1, a2, a3, a4, a5, a6⟩ := newRow_ok (P := P) w1 I1 S1 F1 (o := o) (n := n) (s := s) (e := e) (xs := xs) (by simpa using hnone) c _ rfl (by omega) (by omega) hnm (fun k u x hu hx => r1 k u x (by simpa using hu) hx)
        refine ⟨_, E', .value _, ?_, .inl rfl, a2, a3, a4, a5, a6⟩
        rw [a1]
        by_cases h0 : n * s = 0
        · simp only [h0, Array.range_zero', Array.map_empty] at c1
          simp only [Instr.buildSlice, Sem.run_bind, run_underlying hu, Result.andThen_ok, sizeT_ok hs, h0, if_neg (show ¬ ((0 : Nat) > 2 ^ 24) by decide), if_pos (show True from trivial), if_true, Sem.run_pure, Array.range_zero', Array.map_empty]
          rw [c1]
          rfl
        · simp only [Instr.buildSlice, Sem.run_bind, run_underlying hu, Result.andThen_ok, sizeT_ok hs, if_neg (show ¬ (n * s > 2 ^ 24) by omega), if_neg h0, z1, Sem.run_pure, c1, newRow, run_newObj]
          rfl
      split at h
      · rename_i hnone; exact key _ hnone h
      · split at h
        · rename_i hnone; exact key _ hnone h
        · cases h
    · cases h
  · cases h
end Go.Rx
end
section
namespace Go.Rx
open Go Go.RowKit
set_option linter.unusedVariables false
set_option linter.unusedSimpArgs false

def intV : Option AV → Option (Option Int)
  | none => some none
  | some (.d (.int _ n)) => some (some n)
  | _ => none
/-- Bounds l ≤ h ≤ m within a length. -/
def bnds (len : Nat) (lo hi mx : Option Int) : Option (Nat × Nat) :=
  if 0 ≤ lo.getD 0 ∧ lo.getD 0 ≤ hi.getD (len : Int) ∧ hi.getD (len : Int) ≤ mx.getD (len : Int) ∧ mx.getD (len : Int) ≤ (len : Int) ∧ (mx.isSome → hi.isSome) then some ((lo.getD 0).toNat, (hi.getD (len : Int)).toNat) else none

inductive IntR : Option Value → Option Int → Prop
  | none : IntR .none .none
  | some (k : IntKind) (n : Int) : IntR (.some (.int k n)) (.some n)
theorem intV_ok {E : En} {v : Option Value} {a : Option AV} {n : Option Int} (hv : v.isSome = a.isSome) (h : ∀ x y, v = some x → a = some y → RV E x y) (hn : intV a = some n) : IntR v n := by
  cases a with
  | none =>
    cases v with
    | none => injection hn with hn; subst hn; exact .none
    | some x => simp at hv
  | some y =>
    cases v with
    | none => simp at hv
    | some x =>
      have hr := h x y rfl rfl
      cases y <;> simp only [intV] at hn <;> try cases hn
      rename_i d
      cases d <;> simp only [] at hn <;> try cases hn
      obtain rfl := rep_int (rv_d hr)
      exact .some _ _


theorem bounds_run {P : Program} {w : World} (b : Bool) {len cap : Nat} {lo hi mx : Option Value} {lo' hi' mx' : Option Int} {l h : Nat} (hle : len ≤ cap) (h1 : IntR lo lo') (h2 : IntR hi hi') (h3 : IntR mx mx') (hb : bnds len lo' hi' mx' = some (l, h)) :
    ∃ m, (Instr.sliceBounds b len cap lo hi mx).run P w = .ok (l, h, m) w ∧ l ≤ h ∧ h ≤ len ∧ h ≤ m ∧ m ≤ cap ∧ (mx = none → m = cap) := by
  unfold bnds at hb
  split at hb
  · rename_i hh
    obtain ⟨g1, g2, g3, g4, g5⟩ := hh
    injection hb with hb
    injection hb with hl hhh
    subst hl hhh
    cases h3 with
    | none =>
      simp only [Option.getD_none] at g3 g4
      cases h2 with
      | none =>
        simp only [Option.getD_none] at g2 g3 ⊢
        cases h1 with
        | none => exact ⟨cap, by simp [Instr.sliceBounds], by simp, by simp, by simp; omega, Nat.le_refl _, fun _ => rfl⟩
        | some k n =>
          simp only [Option.getD_some] at g1 g2 ⊢
          refine ⟨cap, ?_, by omega, by omega, by omega, Nat.le_refl _, fun _ => rfl⟩
          simp [Instr.sliceBounds, run_sliceBound (P := P) w k n _ _ g1 g2]
      | some k n =>
        simp only [Option.getD_some] at g2 g3 ⊢
        cases h1 with
        | none =>
          simp only [Option.getD_none] at g1 g2 ⊢
          refine ⟨cap, ?_, by omega, by omega, by omega, Nat.le_refl _, fun _ => rfl⟩
          simp [Instr.sliceBounds, run_sliceBound (P := P) w k n cap _ g2 (by omega)]
        | some k' n' =>
          simp only [Option.getD_some] at g1 g2 ⊢
          refine ⟨cap, ?_, by omega, by omega, by omega, Nat.le_refl _, fun _ => rfl⟩
          simp [Instr.sliceBounds, run_sliceBound (P := P) w k n cap _ (by omega) (by omega), run_sliceBound (P := P) w k' n' n.toNat _ g1 (by omega)]
    | some km m =>
      simp only [Option.getD_some] at g3 g4
      cases h2 with
      | none => simp at g5
      | some k n =>
        simp only [Option.getD_some] at g2 g3 ⊢
        cases h1 with
        | none =>
          simp only [Option.getD_none] at g1 g2 ⊢
          refine ⟨m.toNat, ?_, by omega, by omega, by omega, by omega, fun e => by cases e⟩
          simp [Instr.sliceBounds, run_sliceBound (P := P) w km m cap _ (by omega) (by omega), run_sliceBound (P := P) w k n m.toNat _ g2 (by omega)]
        | some k' n' =>
          simp only [Option.getD_some] at g1 g2 ⊢
          refine ⟨m.toNat, ?_, by omega, by omega, by omega, by omega, fun e => by cases e⟩
          simp [Instr.sliceBounds, run_sliceBound (P := P) w km m cap _ (by omega) (by omega), run_sliceBound (P := P) w k n m.toNat _ (by omega) (by omega), run_sliceBound (P := P) w k' n' n.toNat _ g1 (by omega)]
  · cases hb

/-- A part of a list. -/
def partL (es : List (List D)) (s : Nat) (lo hi mx : Option Int) : Option D :=
  if es.all (fun y => y.length == s) then (bnds es.length lo hi mx).map fun b => .list ((es.take b.2).drop b.1) else none
def sliceL (P : Program) (H : Hp) (e : TypeId) (x : AV) (lo hi mx : Option Int) : Option (AV × Hp) :=
  match x with
  | .d (.list es) => (sizeT P e).bind fun s => (partL es s lo hi mx).map fun d => (.d d, H)
  | _ => none
def aSlice (P : Program) (H : Hp) (t : TypeId) (x : AV) (lo hi mx : Option AV) : Option (AV × Hp) :=
  (intV lo).bind fun l => (intV hi).bind fun h => (intV mx).bind fun m => match P.underlying t with
    | some .string => match x with
      | .d (.str s) => if m.isSome then none else (bnds s.length l h none).map fun b => (.d (.str ((s.take b.2).drop b.1)), H)
      | _ => none
    | some (.slice e) => match x with
      | .nilsl => (sizeT P e).bind fun _ => (bnds 0 l h m).map fun _ => (.nilsl, H)
      | .own o ver n => if l.isNone ∧ m.isNone then (match H.get o with
          | some (.arr _ _ v _) => if v = ver ∧ (P.info? e).isSome then (bnds n l h m).map fun b => (.own o ver b.2, H) else none
          | _ => none)
        else if l.isSome ∧ h.isNone ∧ m.isNone then (match H.get o with
          | some (.arr e' s v es) => if v = ver ∧ sizeT P e = some s then (bnds n l none none).map fun b => (.own o (ver + 1) (n - b.1), (o, .arr e' s (ver + 1) (es.drop b.1)) :: H) else none
          | _ => none)
        else (seal1 H x).bind fun y => sliceL P y.2 e (.d y.1) l h m
      | x => sliceL P H e x l h m
    | _ => none

theorem sliceL_ok {P : Program} {E : En} {t e : TypeId} {u : Value} {x r : AV} {lo hi mx : Option Value} {l h m : Option Int} {H' : Hp} (ht : P.underlying t = some (.slice e)) (hx : RV E u x) (h1 : IntR lo l) (h2 : IntR hi h) (h3 : IntR mx m) (hs : sliceL P E.H e x l h m = some (r, H')) :
    H' = E.H ∧ OpQ P E (Instr.sliceAt t u lo hi mx) r := by
  unfold sliceL at hs
  split at hs
  · rename_i es
    simp only [Option.bind_eq_some_iff] at hs
    obtain ⟨s, hsz, hs⟩ := hs
    rw [Option.map_eq_some_iff] at hs
    obtain ⟨d, hd, hs⟩ := hs
    injection hs with hs hH
    subst hs hH
    unfold partL at hd
    split at hd
    · rename_i hall
      rw [Option.map_eq_some_iff] at hd
      obtain ⟨⟨bl, bh⟩, hb, hs⟩ := hd
      subst hs
      refine ⟨rfl, ?_⟩
      have hall' : ∀ y ∈ es, y.length = s := fun y hy => by rw [List.all_eq_true] at hall; simpa using hall y hy
      have run : ∀ (a : Option Addr) (cap : Nat), es.length ≤ cap → ∃ mm, (Instr.sliceAt t (.slice a es.length cap) lo hi mx).run P E.w = .ok (.slice (if mm = bl then a else a.map (·.add (bl * s))) (bh - bl) (mm - bl)) E.w ∧ bl ≤ bh ∧ bh ≤ es.length ∧ bh ≤ mm ∧ mm ≤ cap := fun a cap hc => by
        obtain ⟨mm, r1, r2, r3, r4, r5, _⟩ := bounds_run (P := P) (w := E.w) true hc h1 h2 h3 hb
        exact ⟨mm, by simp [Instr.sliceAt, run_underlying ht, Instr.slice, r1, sizeT_ok hsz], r2, r3, r4, r5⟩
      have hrep := rv_d hx
      by_cases hemp : bl = bh
      · have e1 : (es.take bh).drop bl = [] := by apply List.eq_nil_of_length_eq_zero; simp; omega
        simp only [e1]
        have fin : ∀ (a : Option Addr) (cap : Nat), es.length ≤ cap → cap ≤ maxLen → u = .slice a es.length cap → OpQ P E (Instr.sliceAt t u lo hi mx) (.d (.list [])) := fun a cap hc hm he => by
          subst he
          obtain ⟨mm, r1, r2, r3, r4, r5⟩ := run a cap hc
          refine ⟨_, r1, .d _ _ ?_⟩
          rw [show bh - bl = 0 by omega]
          exact .empty _ _ (by omega)
        cases hrep with
        | empty a cap hc => exact fin a cap (by simp) hc rfl
        | list b off cap s' es c hb' g1 gm g2 g3 g4 => exact fin _ cap g1 gm rfl
      · cases hrep with
        | empty a cap hc =>
          obtain ⟨mm, r1, r2, r3, r4, r5⟩ := run a cap (by simp)
          simp at r3; omega
        | list b off cap s' es c hb' g1 gm g2 g3 g4 =>
          obtain ⟨mm, r1, r2, r3, r4, r5⟩ := run (some ⟨b, off, none⟩) cap g1
          have hes : es ≠ [] := fun e => by subst e; simp at r3; omega
          obtain ⟨y0, hy0⟩ := List.exists_mem_of_ne_nil es hes
          obtain rfl : s = s' := (hall' y0 hy0).symm.trans (g2 y0 hy0)
          refine ⟨_, r1, .d _ _ ?_⟩
          rw [if_neg (by omega)]
          simp only [Option.map_some, Addr.add_lit]
          have hlen : ((es.take bh).drop bl).length = bh - bl := by simp; omega
          have hget : ∀ (i : Nat) (y : List D), ((es.take bh).drop bl)[i]? = some y → es[bl + i]? = some y := fun i y hy => by
            rw [List.getElem?_drop, List.getElem?_take] at hy
            split at hy
            · exact hy
            · cases hy
          have key := Rep.list (w := E.w) (S := E.S) b (off + bl * s) (mm - bl) s ((es.take bh).drop bl) (fun i j => c (bl + i) j) hb' (by omega) (by omega) (fun y hy => g2 y (List.mem_of_mem_take (List.mem_of_mem_drop hy)))
            (fun i y j d hy hd => by
              have := g3 (bl + i) y j d (hget i y hy) hd
              rw [show off + bl * s + (i * s + j) = off + ((bl + i) * s + j) by rw [Nat.add_mul]; omega]
              exact this)
            (fun i y j d hy hd => g4 (bl + i) y j d (hget i y hy) hd)
          rw [hlen] at key
          exact key
    · cases hd
  · cases hs

theorem slice_ok {P : Program} {E : En} (I : Inv E) {t : TypeId} {u : Value} {x r : AV} {lo hi mx : Option Value} {alo ahi amx : Option AV} {H' : Hp} (hx : RV E u x)
    (q1 : lo.isSome = alo.isSome) (p1 : ∀ a b, lo = some a → alo = some b → RV E a b) (q2 : hi.isSome = ahi.isSome) (p2 : ∀ a b, hi = some a → ahi = some b → RV E a b) (q3 : mx.isSome = amx.isSome) (p3 : ∀ a b, mx = some a → amx = some b → RV E a b)
    (h : aSlice P E.H t x alo ahi amx = some (r, H')) : OpS P E (do pure (.value (← Instr.sliceAt t u lo hi mx))) r H' := by
  unfold aSlice at h
  simp only [Option.bind_eq_some_iff] at h
  obtain ⟨l, hl, hh, hhh, m, hm, h⟩ := h
  have h1 := intV_ok q1 p1 hl
  have h2 := intV_ok q2 p2 hhh
  have h3 := intV_ok q3 p3 hm
  split at h
  · rename_i ht
    split at h
    · rename_i s
      split at h
      · cases h
      · rename_i hms
        rw [Option.map_eq_some_iff] at h
        obtain ⟨⟨bl, bh⟩, hb, h⟩ := h
        injection h with h hH
        subst h hH
        obtain ⟨b, rfl, rfl⟩ := rep_str (rv_d hx)
        have hmn : m = none := by cases m with | none => rfl | some a => simp at hms
        subst hmn
        cases h3
        have hsz : b.data.toList.length = b.size := rfl
        rw [hsz] at hb
        obtain ⟨mm, r1, r2, r3, r4, r5, _⟩ := bounds_run (P := P) (w := E.w) false (Nat.le_refl _) h1 h2 .none hb
        refine OpQ.ops I ⟨.string (b.extract bl bh), by simp [Instr.sliceAt, run_underlying ht, Instr.slice, r1], .d _ _ ?_⟩
        have e1 : (b.extract bl bh).data.toList = (b.data.toList.take bh).drop bl := by
          rw [ByteArray.data_extract, Array.toList_extract, List.extract_eq_take_drop, List.drop_take]
        rw [← e1]; exact .str _
    · cases h
  · rename_i e ht
    split at h
    · simp only [Option.bind_eq_some_iff, Option.map_eq_some_iff] at h
      obtain ⟨s, hsz, ⟨bl, bh⟩, hb, h⟩ := h
      injection h with h hH
      subst h hH
      cases hx with
      | nilsl =>
      obtain ⟨mm, r1, r2, r3, r4, r5, _⟩ := bounds_run (P := P) (w := E.w) true (Nat.le_refl 0) h1 h2 h3 hb
      have e1 : bl = 0 := by omega
      have e2 : bh = 0 := by omega
      have e3 : mm = 0 := by omega
      subst e1 e2 e3
      exact OpQ.ops I ⟨.slice none 0 0, by simp [Instr.sliceAt, run_underlying ht, Instr.slice, r1, sizeT_ok hsz], .nilsl⟩
    · rename_i o ver n
      split at h
      · rename_i hlm
        obtain ⟨hl0, hm0⟩ := hlm
        have hln : l = none := by cases l with | none => rfl | some a => simp at hl0
        have hmn : m = none := by cases m with | none => rfl | some a => simp at hm0
        subst hln hmn
        cases h1
        cases h3
        split at h
        · rename_i e' s w es hg
          split at h
          · rename_i hw
            obtain ⟨hw, hin⟩ := hw
            subst hw
            rw [Option.map_eq_some_iff] at h
            obtain ⟨⟨bl, bh⟩, hb, h⟩ := h
            injection h with h hH
            subst h hH
            cases hx with
            | own _ _ _ _ g1 ho =>
            obtain ⟨z, hgz, hz⟩ := ho
            rw [hg] at hgz
            injection hgz with hgz
            subst hgz
            obtain ⟨rfl, hn⟩ := hz.2 rfl
            obtain ⟨c1, c2, c3, c4⟩ := arr_cells I hg (.inl ⟨e', rfl⟩)
            obtain ⟨mm, r1, r2, r3, r4, r5, r6⟩ := bounds_run (P := P) (w := E.w) true (show n ≤ (E.φ o).2 by omega) .none h2 .none hb
            obtain rfl := r6 rfl
            have e1 : bl = 0 := by
              unfold bnds at hb
              split at hb
              · injection hb with hb; injection hb with hb1 hb2; rw [← hb1]; rfl
              · cases hb
            subst e1
            cases hi2 : P.info? e with
            | none => rw [hi2] at hin; cases hin
            | some i =>
              refine OpQ.ops I ⟨E.sl o bh, ?_, .own _ _ _ _ rfl ⟨_, hg, Nat.le_refl _, fun _ => ⟨rfl, by omega⟩⟩⟩
              simp [Instr.sliceAt, run_underlying ht, Instr.slice, En.sl, r1, sizeOf, typeInfo, hi2, Addr.add_lit]
          · cases h
        · cases h
      · split at h
        · rename_i hcond
          obtain ⟨c1, c2, c3⟩ := hcond
          have hhn : hh = none := by cases hh with | none => rfl | some a => simp at c2
          have hmn : m = none := by cases m with | none => rfl | some a => simp at c3
          subst hhn hmn
          cases h2
          cases h3
          split at h
          · rename_i e' s w es hg
            split at h
            · rename_i hw
              obtain ⟨hw, hsz⟩ := hw
              subst hw
              rw [Option.map_eq_some_iff] at h
              obtain ⟨⟨bl, bh⟩, hb, h⟩ := h
              injection h with h hH
              subst h hH
              cases hx with
              | own _ _ _ _ g1 ho =>
              obtain ⟨z, hgz, hz⟩ := ho
              rw [hg] at hgz
              injection hgz with hgz
              subst hgz
              obtain ⟨rfl, hn⟩ := hz.2 rfl
              obtain ⟨cur, b1, b2, b3, b4, b5, b6⟩ := I.obj o _ hg
              obtain ⟨mm, r1, r2, r3, r4, r5, r6⟩ := bounds_run (P := P) (w := E.w) true (show n ≤ (E.φ o).2 by omega) h1 .none .none hb
              obtain rfl := r6 rfl
              have ebh : bh = n := by
                unfold bnds at hb
                split at hb
                · injection hb with hb; injection hb with hb1 hb2; rw [← hb2]; simp
                · cases hb
              subst ebh
              have get : ∀ (i : Nat) (x : List D), (es.drop bl)[i]? = some x → es[bl + i]? = some x := fun i x hx => by rw [List.getElem?_drop] at hx; exact hx
              by_cases hcap : (E.φ o).2 = bl
              · have hnil : es.drop bl = [] := List.drop_eq_nil_of_le (by omega)
                obtain ⟨I', S', F'⟩ := put_ok I o (.arr e' s (w + 1) (es.drop bl)) ⟨(E.φ o).1, 0, (E.φ o).3⟩ E.w rfl rfl rfl (Nat.le_refl _) rfl (.inr ⟨_, hg, rfl, rfl⟩) (fun b _ _ => rfl)
                  (fun y hy => by rw [hg] at hy; injection hy with hy; subst hy; exact ⟨by omega, fun hw => by omega⟩)
                  (fun f => by
                    refine ⟨cur, by simp only [setφ_same]; exact b1, by simp only [setφ_same]; omega, by rw [hnil]; simp, by simp only [setφ_same]; omega, fun x hx => b5 x (List.mem_of_mem_drop hx), fun i x j d hx hd => ?_⟩
                    rw [hnil] at hx; simp at hx)
                refine ⟨.slice (some ⟨(E.φ o).1, (E.φ o).3, none⟩) (bh - bl) ((E.φ o).2 - bl), ⟨E.w, E.S, setφ E.φ o ⟨(E.φ o).1, 0, (E.φ o).3⟩, (o, .arr e' s (w + 1) (es.drop bl)) :: E.H⟩, .value _, ?_, .inl rfl, ?_, I', rfl, S', F'⟩
                · rw [hcap] at r1
                  simp [Instr.sliceAt, run_underlying ht, Instr.slice, En.sl, r1, sizeT_ok hsz, hcap]
                · refine .own _ _ _ _ rfl ⟨_, Hp.get_same _ _ _, Nat.le_refl _, fun _ => ⟨?_, by rw [List.length_drop]; omega⟩⟩
                  simp only [En.sl, setφ_same]
                  rw [show (E.φ o).2 - bl = 0 by omega]
              · obtain ⟨I', S', F'⟩ := put_ok I o (.arr e' s (w + 1) (es.drop bl)) ⟨(E.φ o).1, (E.φ o).2 - bl, (E.φ o).3 + bl * s⟩ E.w rfl rfl rfl (Nat.le_refl _) rfl (.inr ⟨_, hg, rfl, rfl⟩) (fun b _ _ => rfl)
                  (fun y hy => by rw [hg] at hy; injection hy with hy; subst hy; exact ⟨by omega, fun hw => by omega⟩)
                  (fun f => by
                    refine ⟨cur, by simp only [setφ_same]; exact b1, ?_, by simp only [setφ_same, List.length_drop]; omega, by simp only [setφ_same]; omega, fun x hx => b5 x (List.mem_of_mem_drop hx), fun i x j d hx hd => ?_⟩
                    · simp only [setφ_same]
                      rw [Nat.add_assoc, ← Nat.add_mul, show bl + ((E.φ o).2 - bl) = (E.φ o).2 by omega]
                      exact b2
                    · obtain ⟨u, hu, hu2⟩ := b6 (bl + i) x j d (get i x hx) hd
                      refine ⟨u, ?_, f.rep hu2⟩
                      simp only [setφ_same]
                      rw [← hu]; congr 1
                      rw [Nat.add_mul]; omega)
                refine ⟨.slice (some ⟨(E.φ o).1, (E.φ o).3 + bl * s, none⟩) (bh - bl) ((E.φ o).2 - bl), ⟨E.w, E.S, setφ E.φ o ⟨(E.φ o).1, (E.φ o).2 - bl, (E.φ o).3 + bl * s⟩, (o, .arr e' s (w + 1) (es.drop bl)) :: E.H⟩, .value _, ?_, .inl rfl, ?_, I', rfl, S', F'⟩
                · simp [Instr.sliceAt, run_underlying ht, Instr.slice, En.sl, r1, sizeT_ok hsz, hcap, Addr.add_lit]
                · exact .own _ _ _ _ rfl ⟨_, Hp.get_same _ _ _, Nat.le_refl _, fun _ => ⟨by simp only [En.sl, setφ_same], by rw [List.length_drop]; omega⟩⟩
            · cases h
          · cases h
        simp only [Option.bind_eq_some_iff] at h
        obtain ⟨⟨d, H1⟩, hs, h⟩ := h
        obtain ⟨E1, w1, e1, I1, S1, F1, r1⟩ := seal1_ok I hx hs
        subst e1
        obtain ⟨hH, v, q, qr⟩ := sliceL_ok (P := P) (x := .d d) ht (.d _ _ r1) h1 h2 h3 h
        subst hH
        rw [w1] at q
        exact ⟨v, E1, .value v, by rw [w1]; simp [q], .inl rfl, qr, I1, rfl, S1, F1⟩
    · obtain ⟨hH, q⟩ := sliceL_ok (P := P) ht hx h1 h2 h3 h
      subst hH
      exact OpQ.ops I q
  · cases h
end Go.Rx
end
section
namespace Go.Rx
open Go Go.RowKit
set_option linter.unusedVariables false
set_option linter.unusedSimpArgs false

def pureL : List AV → Option (List D)
  | [] => some []
  | .d x :: r => (pureL r).map (x :: ·)
  | .nilsl :: r => (pureL r).map (D.list [] :: ·)
  | _ => none
theorem pureL_ok {E : En} : ∀ {cs : List AV} {xs : List D}, pureL cs = some xs → xs.length = cs.length ∧ ∀ (i : Nat) (v : Value) (a : AV) (x : D), cs[i]? = some a → xs[i]? = some x → RV E v a → Rep E.w E.S v x
  | [], xs, h => by injection h with h; subst h; exact ⟨rfl, fun i v a x ha => by simp at ha⟩
  | c :: r, xs, h => by
    cases c <;> simp only [pureL] at h <;> try cases h
    · rename_i y
      rw [Option.map_eq_some_iff] at h
      obtain ⟨ys, hy, rfl⟩ := h
      obtain ⟨h1, h2⟩ := pureL_ok (E := E) hy
      refine ⟨by simp [h1], fun i v a x ha hx hv => ?_⟩
      cases i with
      | zero => simp at ha hx; subst ha hx; exact rv_d hv
      | succ i => exact h2 i v a x (by simpa using ha) (by simpa using hx) hv
    · rw [Option.map_eq_some_iff] at h
      obtain ⟨ys, hy, rfl⟩ := h
      obtain ⟨h1, h2⟩ := pureL_ok (E := E) hy
      refine ⟨by simp [h1], fun i v a x ha hx hv => ?_⟩
      cases i with
      | zero => simp at ha hx; subst ha hx; cases hv; exact .empty _ _ (by unfold maxLen; omega)
      | succ i => exact h2 i v a x (by simpa using ha) (by simpa using hx) hv

def aMakeSlice (P : Program) (H : Hp) (dst : Nat) (t : TypeId) (l c : AV) : Option (AV × Hp) :=
  match l, c with
  | .d (.int _ n), .d (.int _ m) => match P.underlying t with
    | some (.slice e) => (P.info? e).bind fun i => (zeroOf P e).bind fun z => (pureL z).bind fun zd =>
        if n = m ∧ 0 ≤ n ∧ n.toNat * (i.bytes + 1) ≤ lim ∧ z.length = i.size ∧ 0 < i.size ∧ (H.get (.slot dst)).isNone then
          some (.own (.slot dst) 0 n.toNat, (.slot dst, .arr e i.size 0 (List.replicate n.toNat zd)) :: H) else none
    | _ => none
  | _, _ => none
theorem wrap_lim {n : Int} (h0 : 0 ≤ n) (h : n ≤ 140737488355328) : IntKind.i64.wrap n = n := by
  exact wrap_small n h0 (by omega)

theorem makeSlice_ok {P : Program} {E : En} (I : Inv E) {dst : Nat} {t : TypeId} {u v : Value} {l c r : AV} {H' : Hp} (hl : RV E u l) (hc : RV E v c) (h : aMakeSlice P E.H dst t l c = some (r, H')) :
    OpS P E (do pure (.value (← Instr.makeSlice t u v))) r H' := by
  unfold aMakeSlice at h
  split at h
  · rename_i k n k' m
    obtain rfl := rep_int (rv_d hl)
    obtain rfl := rep_int (rv_d hc)
    split at h
    · rename_i e hu
      simp only [Option.bind_eq_some_iff] at h
      obtain ⟨i, hi, z, hz, zd, hzd, h⟩ := h
      split at h
      · rename_i hh
        obtain ⟨rfl, h0, hfit, hzl, hs0, hnone⟩ := hh
        obtain ⟨f1, f2⟩ := fits_split hfit
        injection h with h
        injection h with h1 h2
        subst h1 h2
        obtain ⟨zv, z1, z2, z3, z4⟩ := zeroOf_ok (E := E) hz
        obtain ⟨d1, d2⟩ := pureL_ok (E := E) hzd
        have hnn : (n.toNat : Int) = n := Int.toNat_of_nonneg h0
        have hw : IntKind.i64.wrap n = n := wrap_lim h0 (by omega)
        have hbig : ¬ (281474976710656 < (i.bytes : Int) * n) := by
          have h := Int.ofNat_le.2 f2
          rw [Int.natCast_mul, hnn, Int.mul_comm] at h
          have h2 : ((140737488355328 : Nat) : Int) = 140737488355328 := rfl
          rw [h2] at h
          omega
        generalize hN : n.toNat = N at *
        have hrow : ∀ k : Nat, k < N * i.size → ((Array.range (N * i.size)).map (fun i' => zv.cells[i' % zv.cells.size]!))[k]? = some (zv.cells[k % i.size]'(by rw [z2, hzl]; exact Nat.mod_lt _ hs0)) := fun k hk => by
          have hlt : k % i.size < zv.cells.size := by rw [z2, hzl]; exact Nat.mod_lt _ hs0
          rw [Array.getElem?_map, Array.getElem?_range, if_pos hk]
          simp only [Option.map_some]
          have e2 : zv.cells.size = i.size := z2.trans hzl
          rw [show k % zv.cells.size = k % i.size by rw [e2], Array.getElem!_eq_getD, Array.getD_eq_getD_getElem?, Array.getElem?_eq_getElem hlt]; rfl
        obtain ⟨I', S', F'⟩ := new_ok I (.slot dst) (by simpa using hnone) (.arr e i.size 0 (List.replicate N zd)) ((Array.range (N * i.size)).map (fun i' => zv.cells[i' % zv.cells.size]!)) e N
          (E.w.alloc (.cells ((Array.range (N * i.size)).map (fun i' => zv.cells[i' % zv.cells.size]!)) e)) rfl rfl rfl rfl rfl
          (fun f hb => by
            refine ⟨_, by simp only [setφ_same]; exact hb, by simp only [setφ_same]; simp, by simp only [setφ_same]; simp, by simp only [setφ_same]; unfold maxLen; omega, fun y hy => ?_, fun i' y j d hy hd => ?_⟩
            · rw [List.eq_of_mem_replicate hy, d1, hzl]
            · have hin := (List.getElem?_eq_some_iff.1 hy).1
              simp at hin
              have hyz := List.eq_of_mem_replicate (List.mem_of_getElem? hy)
              subst hyz
              have hj := (List.getElem?_eq_some_iff.1 hd).1
              rw [d1, hzl] at hj
              have hk : i' * i.size + j < N * i.size := by
                have : (i' + 1) * i.size ≤ N * i.size := Nat.mul_le_mul_right _ hin
                rw [Nat.add_mul] at this; omega
              refine ⟨_, by simp only [setφ_same, Nat.zero_add]; exact hrow _ hk, f.rep ?_⟩
              have hmod : (i' * i.size + j) % i.size = j := by rw [Nat.mul_comm, Nat.mul_add_mod]; exact Nat.mod_eq_of_lt hj
              have hjz : j < z.length := by omega
              have hjc : j < zv.cells.size := by omega
              refine d2 j _ z[j] d (List.getElem?_eq_getElem hjz) hd (z4 j _ _ ?_ (List.getElem?_eq_getElem hjz))
              simp only [hmod]
              exact Array.getElem?_eq_getElem hjc)
        refine ⟨.slice (some ⟨E.w.heap.size, 0, none⟩) N N, ⟨E.w.alloc (.cells ((Array.range (N * i.size)).map (fun i' => zv.cells[i' % zv.cells.size]!)) e), E.S, setφ E.φ (.slot dst) ⟨E.w.heap.size, N, 0⟩, (.slot dst, .arr e i.size 0 (List.replicate N zd)) :: E.H⟩, .value _, ?_, .inl rfl, .own _ _ _ _ rfl ⟨_, Hp.get_same _ _ _, Nat.le_refl _, fun _ => ⟨by simp only [En.sl, setφ_same], by simp⟩⟩, I', rfl, S', F'⟩
        by_cases hn0 : N = 0
        · subst hn0
          have hn : n = 0 := by omega
          subst hn
          simp [Instr.makeSlice, run_underlying hu, asInt, asIntOf, typeInfo, hi, sizeOf, newRow, show IntKind.i64.wrap 0 = 0 from by decide, Array.range_zero']
        · have hne : ¬ (N * i.size = 0) := by
            intro h; rcases Nat.mul_eq_zero.1 h with h | h <;> omega
          have hNi : N ≠ 0 ∧ i.size ≠ 0 := ⟨hn0, by omega⟩
          simp [Instr.makeSlice, run_underlying hu, asInt, asIntOf, typeInfo, hi, sizeOf, newRow, hw, hN, hbig, h0, z1, hne, hn0, hNi.2, show ¬ (n < 0) by omega]
      · cases h
    · cases h
  · cases h

/-- A new block that is only read. -/
theorem stab_ok {E : En} (I : Inv E) (ob : Obj) (w' : World) (hos : w'.os = E.w.os) (ht : w'.tape = E.w.tape) (hout : w'.output = E.w.output) (hheap : w'.heap = E.w.heap.push ob) :
    Inv ⟨w', fun b => E.S b ∨ b = E.w.heap.size, E.φ, E.H⟩ ∧ Step E ⟨w', fun b => E.S b ∨ b = E.w.heap.size, E.φ, E.H⟩ ∧ Fit E ⟨w', fun b => E.S b ∨ b = E.w.heap.size, E.φ, E.H⟩ := by
  have old : ∀ b, b < E.w.heap.size → w'.heap[b]? = E.w.heap[b]? := fun b hb => by rw [hheap, Array.getElem?_push, if_neg (by omega)]
  have fit : Fit E ⟨w', fun b => E.S b ∨ b = E.w.heap.size, E.φ, E.H⟩ := ⟨fun b hb => ⟨.inl hb, old b (I.sin b hb)⟩, fun o x hg => ⟨x, hg, Compat.self rfl x⟩⟩
  refine ⟨⟨fun o x hg => (I.obj o x hg).mono fit rfl (old _ (I.obj o x hg).lt), I.dist, fun o x hg hl => ?_, fun b hb => ?_⟩, ⟨hos, ht, hout, by rw [hheap]; simp, fun b hb _ => old b hb, fun b hb => .inl hb, fun b hb hlt => ?_⟩, fit⟩
  · rintro (h | h)
    · exact I.free o x hg hl h
    · have hlt := (I.obj o x hg).lt
      exact Nat.lt_irrefl _ (h ▸ hlt)
  · show b < w'.heap.size
    rw [hheap, Array.size_push]
    rcases hb with h | h
    · have := I.sin b h; omega
    · omega
  · rcases hb with (h | h) | h
    · exact .inl h
    · omega
    · exact .inr h

def bytesOf : List (List D) → Option (List UInt8)
  | [] => some []
  | [.int .u8 n] :: r => (bytesOf r).map (UInt8.ofNat n.toNat :: ·)
  | _ => none
theorem bytesOf_ok : ∀ {ds : List (List D)} {s : List UInt8}, bytesOf ds = some s → ∃ ns : List Int, ds = ns.map (fun n => [.int .u8 n]) ∧ s = ns.map (fun n => UInt8.ofNat n.toNat)
  | [], s, h => by injection h with h; subst h; exact ⟨[], rfl, rfl⟩
  | y :: r, s, h => by
    unfold bytesOf at h
    split at h
    · rename_i hh; cases hh
    · rename_i n r' hh
      injection hh with h1 h2
      subst h1 h2
      rw [Option.map_eq_some_iff] at h
      obtain ⟨s', hs', rfl⟩ := h
      obtain ⟨ns, rfl, rfl⟩ := bytesOf_ok hs'
      exact ⟨n :: ns, rfl, rfl⟩
    · cases h

def aConvert (P : Program) (H : Hp) (src dst : TypeId) (x : AV) : Option AV :=
  match P.underlying src, P.underlying dst, x with
  | some _, some (.int k), .d (.int _ n) => some (.d (.int k (k.wrap n)))
  | some _, some .string, .d (.str s) => some (.d (.str s))
  | some _, some .string, .d (.int _ n) => some (.d (.str (Utf8.encode n).data.toList))
  | some .string, some (.slice e), .d (.str s) => match P.underlying e with
    | some (.int .u8) => if s.length ≤ lim then some (.d (.list (s.map fun b => [.int .u8 b.toNat]))) else none
    | _ => none
  | some (.slice e), some .string, x => match P.underlying e with
    | some (.int .u8) => (srcOf H x).bind fun ds => (bytesOf ds).map fun s => .d (.str s)
    | _ => none
  | _, _, _ => none

theorem convert_ok {P : Program} {E : En} (I : Inv E) {src dst : TypeId} {v : Value} {x r : AV} (hx : RV E v x) (h : aConvert P E.H src dst x = some r) : OpS P E (do pure (.value (← convert src dst v))) r E.H := by
  unfold aConvert at h
  split at h
  · rename_i d1 k k' n hs hd
    injection h with h; subst h
    obtain rfl := rep_int (rv_d hx)
    exact OpQ.ops I ⟨.int k (k.wrap n), by simp [convert, run_underlying hs, run_underlying hd, Conv.intToInt], .d _ _ (.int _ _)⟩
  · rename_i d1 s hs hd
    injection h with h; subst h
    obtain ⟨b, rfl, rfl⟩ := rep_str (rv_d hx)
    exact OpQ.ops I ⟨.string b, by simp [convert, run_underlying hs, run_underlying hd], .d _ _ (.str _)⟩
  · rename_i d1 k n hs hd
    injection h with h; subst h
    obtain rfl := rep_int (rv_d hx)
    exact OpQ.ops I ⟨.string (Utf8.encode n), by simp [convert, run_underlying hs, run_underlying hd, Conv.intToString], .d _ _ (.str _)⟩
  · rename_i e s hs hd
    split at h
    · rename_i he
      split at h
      · rename_i hl
        injection h with h; subst h
        obtain ⟨b, rfl, rfl⟩ := rep_str (rv_d hx)
        have hsz : b.data.toList.length = b.size := rfl
        rw [hsz] at hl
        have hrun := run_bytes_of_string (P := P) E.w src dst e b hs hd he
        have hcm : grownCap E.w b.size 0 e ≤ maxLen := grownCap_le_maxLen E.w b.size 0 e (by unfold maxLen; unfold lim at hl; omega)
        have hge := grownCap_ge E.w b.size 0 e
        obtain ⟨I', S', F'⟩ := stab_ok I (.cells (bytesRow b (grownCap E.w b.size 0 e)) e ((bytesRow b (grownCap E.w b.size 0 e)).size, (bytesRow b (grownCap E.w b.size 0 e)).size + 1))
          (E.w.drew.alloc (.cells (bytesRow b (grownCap E.w b.size 0 e)) e ((bytesRow b (grownCap E.w b.size 0 e)).size, (bytesRow b (grownCap E.w b.size 0 e)).size + 1))) rfl rfl rfl rfl
        refine ⟨.slice (some ⟨E.w.heap.size, 0, none⟩) b.size (grownCap E.w b.size 0 e), ⟨E.w.drew.alloc (.cells (bytesRow b (grownCap E.w b.size 0 e)) e ((bytesRow b (grownCap E.w b.size 0 e)).size, (bytesRow b (grownCap E.w b.size 0 e)).size + 1)), fun b' => E.S b' ∨ b' = E.w.heap.size, E.φ, E.H⟩, .value _, by simp only [Sem.run_bind, hrun, Result.andThen_ok, Sem.run_pure], .inl rfl, .d _ _ ?_, I', rfl, S', F'⟩
        have hlen : (b.data.toList.map (fun c : UInt8 => [D.int .u8 c.toNat])).length = b.size := by rw [List.length_map]; rfl
        have get : ∀ (i : Nat) (y : List D) (j : Nat) (d : D), (b.data.toList.map (fun c : UInt8 => [D.int .u8 c.toNat]))[i]? = some y → y[j]? = some d → ∃ c : UInt8, b.data[i]? = some c ∧ j = 0 ∧ d = .int .u8 c.toNat := fun i y j d hy hd => by
          rw [List.getElem?_map, Option.map_eq_some_iff] at hy
          obtain ⟨c, hc, rfl⟩ := hy
          cases j with
          | zero => simp at hd; exact ⟨c, by simpa using hc, rfl, hd.symm⟩
          | succ j => simp at hd
        have key := Rep.list (w := E.w.drew.alloc (.cells (bytesRow b (grownCap E.w b.size 0 e)) e ((bytesRow b (grownCap E.w b.size 0 e)).size, (bytesRow b (grownCap E.w b.size 0 e)).size + 1))) (S := fun b' => E.S b' ∨ b' = E.w.heap.size) E.w.heap.size 0 (grownCap E.w b.size 0 e) 1
          (b.data.toList.map (fun c : UInt8 => [D.int .u8 c.toNat])) (fun i j => .int .u8 ((b.data.getD i 0).toNat)) (.inr rfl) (by rw [hlen]; exact hge) hcm (fun y hy => by simp at hy; obtain ⟨c, _, rfl⟩ := hy; rfl)
          (fun i y j d hy hd => by
            obtain ⟨c, hc, rfl, rfl⟩ := get i y j d hy hd
            have hblk : (E.w.drew.alloc (.cells (bytesRow b (grownCap E.w b.size 0 e)) e ((bytesRow b (grownCap E.w b.size 0 e)).size, (bytesRow b (grownCap E.w b.size 0 e)).size + 1))).heap[E.w.heap.size]? = some (.cells (bytesRow b (grownCap E.w b.size 0 e)) e ((bytesRow b (grownCap E.w b.size 0 e)).size, (bytesRow b (grownCap E.w b.size 0 e)).size + 1)) := by
              show (E.w.heap.push _)[E.w.heap.size]? = _
              rw [Array.getElem?_push, if_pos rfl]
            have hi := (Array.getElem?_eq_some_iff.1 hc).1
            simp only [World.cell?, hblk, Nat.mul_one, Nat.add_zero, Nat.zero_add]
            simp only [bytesRow]
            rw [Array.getElem?_append_left (by simpa using hi), Array.getElem?_map, hc]
            simp [Array.getD_eq_getD_getElem?, hc])
          (fun i y j d hy hd => by
            obtain ⟨c, hc, rfl, rfl⟩ := get i y j d hy hd
            simp only [Array.getD_eq_getD_getElem?, hc, Option.getD_some]
            exact .int _ _)
        rw [hlen] at key
        exact key
      · cases h
    · cases h
  · rename_i e hs hd q1 q2
    split at h
    · rename_i he
      simp only [Option.bind_eq_some_iff, Option.map_eq_some_iff] at h
      obtain ⟨ds, hds, s, hsb, rfl⟩ := h
      obtain ⟨ns, rfl, rfl⟩ := bytesOf_ok hsb
      obtain ⟨a, cap, rfl, hxc, hxm, hxr⟩ := src_ok I hx hds
      have hlen : (ns.map (fun n => [D.int .u8 n])).length = ns.length := by simp
      rcases hxr with hnil | ⟨b, off, s', rfl, h2, h3⟩
      · have hn : ns = [] := by simpa using hnil
        subst hn
        cases a with
        | none =>
          have := run_convert_bytes_nil (P := P) E.w src e hs he 0 cap dst hd
          exact OpQ.ops I ⟨.string ByteArray.empty, by simpa using this, .d _ _ (by have := Rep.str (w := E.w) (S := E.S) ByteArray.empty; simpa using this)⟩
        | some a =>
          have h1 := run_convert_bytes_string (P := P) E.w src dst e (some a) 0 cap hs he hd
          have h2 := run_bytesToString (P := P) E.w a 0 cap [] (by simp [loadCells, loadCellsFrom])
          exact OpQ.ops I ⟨.string ByteArray.empty, by simpa [h1] using h2, .d _ _ (by have := Rep.str (w := E.w) (S := E.S) ByteArray.empty; simpa using this)⟩
      · have hcell : ∀ i, i < ns.length → E.w.cell? ⟨b, off + i, none⟩ = some (.int .u8 (ns.getD i 0)) := fun i hi => by
          have hy : (ns.map (fun n => [D.int .u8 n]))[i]? = some [.int .u8 ns[i]] := by simp [hi]
          have hs1 : s' = 1 := (h2 _ (List.mem_of_getElem? hy)).symm
          subst hs1
          obtain ⟨u, hu, hu2⟩ := h3 i _ 0 _ hy rfl
          have := rep_int hu2
          subst this
          rw [Nat.mul_one, Nat.add_zero] at hu
          simpa [List.getD, hi] using hu
        have := run_convert_bytes_arg (P := P) E.w src e hs he b off ns.length cap ns rfl hcell dst hd
        refine OpQ.ops I ⟨.string (strOfNums ns), by simpa using this, .d _ _ ?_⟩
        have := Rep.str (w := E.w) (S := E.S) (strOfNums ns)
        rwa [strOfNums_data] at this
    · cases h
  · cases h
end Go.Rx
end
