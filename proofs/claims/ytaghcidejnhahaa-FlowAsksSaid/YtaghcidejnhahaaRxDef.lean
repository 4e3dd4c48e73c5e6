/- A part of the proof of the law: what functions of the program come to, walked by Rx, or plain facts on it. -/
import Derived.Test.YtaghcidejnhahaaRxTree
open Go Go.Rx
namespace Go.RxTree
set_option linter.unusedVariables false
def sameG {α : Type} (f : α → α → Bool) : List α → List α → Bool
  | [], [] => true
  | a :: r, b :: q => f a b && sameG f r q
  | [], _ :: _ => false
  | _ :: _, [] => false
theorem sameG_len {α : Type} {f : α → α → Bool} : ∀ {a b : List α}, a.length ≠ b.length → sameG f a b = false
  | [], [], h => (h rfl).elim
  | [], _ :: _, _ => rfl
  | _ :: _, [], _ => rfl
  | a :: r, b :: q, h => by simp only [sameG, sameG_len (a := r) (b := q) (by simpa using h), Bool.and_false]
theorem sameG_drop {α : Type} {f : α → α → Bool} {a b : List α} {i : Nat} {x y : α} (hx : a[i]? = some x) (hy : b[i]? = some y) : sameG f (a.drop i) (b.drop i) = (f x y && sameG f (a.drop (i + 1)) (b.drop (i + 1))) := by
  obtain ⟨h1, e1⟩ := List.getElem?_eq_some_iff.1 hx
  obtain ⟨h2, e2⟩ := List.getElem?_eq_some_iff.1 hy
  rw [List.drop_eq_getElem_cons h1, List.drop_eq_getElem_cons h2, sameG, e1, e2]
theorem sameG_refl {α : Type} {f : α → α → Bool} : ∀ {a : List α}, (∀ x ∈ a, f x x = true) → sameG f a a = true
  | [], _ => rfl
  | t :: r, h => by simp [sameG, h t (by simp), sameG_refl (a := r) (fun x hx => h x (by simp [hx]))]
def wtS {α : Type} (w : α → Nat) : List α → Nat
  | [] => 1
  | a :: r => 1 + w a + wtS w r
theorem wtS_len {α : Type} {w : α → Nat} : ∀ l : List α, l.length + 1 ≤ wtS w l
  | [] => by simp [wtS]
  | t :: r => by have := wtS_len (w := w) r; simp only [wtS, List.length_cons]; omega
theorem wtS_mem {α : Type} {w : α → Nat} : ∀ (l : List α) (t : α), t ∈ l → w t + 1 < wtS w l
  | a :: r, t, h => by
    have h0 := wtS_len (w := w) r
    rcases List.mem_cons.1 h with rfl | h
    · simp only [wtS]; omega
    · have := wtS_mem (w := w) r t h; simp only [wtS]; omega
structure FlowT where
  to : Int
  iff : List T
def FlowT.cells (f : FlowT) : List D := [.int .i64 f.to, .list (cellsL f.iff)]
def FlowT.av (f : FlowT) : AV := .agg [.d (.int .i64 f.to), .d (.list (cellsL f.iff))]
def FlowT.wt (f : FlowT) : Nat := wtL f.iff + 8
def FlowT.Ok (f : FlowT) : Prop := (Lit.int .i64 f.to).wf = true ∧ f.iff.length ≤ maxLen ∧ OkL f.iff
def sameF (f g : FlowT) : Bool := f.to == g.to && sameL f.iff g.iff
structure PlaceT where
  kind : Int
  name : List UInt8
  n : Int
  arg : List T
  out : List FlowT
def PlaceT.cells (p : PlaceT) : List D := [.int .i64 p.kind, .str p.name, .int .i64 p.n, .list (cellsL p.arg), .list (p.out.map FlowT.cells)]
def PlaceT.av (p : PlaceT) : AV := .agg [.d (.int .i64 p.kind), .d (.str p.name), .d (.int .i64 p.n), .d (.list (cellsL p.arg)), .d (.list (p.out.map FlowT.cells))]
def PlaceT.wt (p : PlaceT) : Nat := p.name.length + wtL p.arg + wtS FlowT.wt p.out + 12
def PlaceT.Ok (p : PlaceT) : Prop := (Lit.int .i64 p.kind).wf = true ∧ p.name.length ≤ maxLen ∧ (Lit.int .i64 p.n).wf = true ∧ p.arg.length ≤ maxLen ∧ OkL p.arg ∧ p.out.length ≤ maxLen ∧ ∀ f ∈ p.out, f.Ok
def sameP (p q : PlaceT) : Bool := p.kind == q.kind && (p.name == q.name && (p.n == q.n && (sameL p.arg q.arg && sameG sameF p.out q.out)))
structure DefT where
  id : List UInt8
  places : List PlaceT
def DefT.cells (d : DefT) : List D := [.str d.id, .list (d.places.map PlaceT.cells)]
def DefT.av (d : DefT) : AV := .agg [.d (.str d.id), .d (.list (d.places.map PlaceT.cells))]
def DefT.wt (d : DefT) : Nat := d.id.length + wtS PlaceT.wt d.places + 8
def DefT.Ok (d : DefT) : Prop := d.id.length ≤ maxLen ∧ d.places.length ≤ maxLen ∧ ∀ p ∈ d.places, p.Ok
def sameD (a b : DefT) : Bool := a.id == b.id && sameG sameP a.places b.places
theorem flow_get {l : List FlowT} {i : Nat} {f : FlowT} (h : l[i]? = some f) : (l.map FlowT.cells)[i]? = some [.int .i64 f.to, .list (cellsL f.iff)] := by rw [List.getElem?_map, h]; rfl
theorem place_get {l : List PlaceT} {i : Nat} {p : PlaceT} (h : l[i]? = some p) : (l.map PlaceT.cells)[i]? = some [.int .i64 p.kind, .str p.name, .int .i64 p.n, .list (cellsL p.arg), .list (p.out.map FlowT.cells)] := by rw [List.getElem?_map, h]; rfl
theorem sameF_refl (f : FlowT) : sameF f f = true := by simp [sameF, sameL_refl]
theorem sameP_refl (p : PlaceT) : sameP p p = true := by simp [sameP, sameL_refl, sameG_refl (a := p.out) (fun x _ => sameF_refl x)]
theorem sameD_refl (d : DefT) : sameD d d = true := by simp [sameD, sameG_refl (a := d.places) (fun x _ => sameP_refl x)]
end Go.RxTree
