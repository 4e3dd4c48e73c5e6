/- A part of the proof of the law: what functions of the program come to, walked by Rx, or plain facts on it. -/
import Derived.Test.YtaghcidejnhahaaRxJc
open Go Go.Rx
namespace Go.RxTree
set_option linter.unusedVariables false
set_option linter.unusedSimpArgs false
/-- Trees of conditions. -/
inductive T where
  | mk (kind n : Int) (name : List UInt8) (kids : List T)
def T.kind : T → Int | .mk k _ _ _ => k
def T.n : T → Int | .mk _ n _ _ => n
def T.name : T → List UInt8 | .mk _ _ s _ => s
def T.kids : T → List T | .mk _ _ _ l => l
mutual
def T.cells : T → List D
  | .mk k n s l => [.int .i64 k, .int .i64 n, .str s, .list (cellsL l)]
def cellsL : List T → List (List D)
  | [] => []
  | t :: r => t.cells :: cellsL r
end
mutual
def T.wt : T → Nat
  | .mk _ _ s l => 4 + s.length + wtL l
def wtL : List T → Nat
  | [] => 1
  | t :: r => 1 + t.wt + wtL r
end
mutual
def T.Ok : T → Prop
  | .mk k n s l => (Lit.int .i64 k).wf = true ∧ (Lit.int .i64 n).wf = true ∧ s.length ≤ maxLen ∧ l.length ≤ maxLen ∧ OkL l
def OkL : List T → Prop
  | [] => True
  | t :: r => t.Ok ∧ OkL r
end
theorem cells_eq (t : T) : t.cells = [.int .i64 t.kind, .int .i64 t.n, .str t.name, .list (cellsL t.kids)] := by cases t; rfl
theorem cellsL_len : ∀ l : List T, (cellsL l).length = l.length
  | [] => rfl
  | t :: r => by simp [cellsL, cellsL_len r]
theorem cellsL_get : ∀ (l : List T) (i : Nat) (t : T), l[i]? = some t → (cellsL l)[i]? = some [.int .i64 t.kind, .int .i64 t.n, .str t.name, .list (cellsL t.kids)]
  | [], i, t, h => by simp at h
  | a :: r, 0, t, h => by simp at h; subst h; simp [cellsL, cells_eq]
  | a :: r, i + 1, t, h => by simp [cellsL]; exact cellsL_get r i t (by simpa using h)
def T.av (t : T) : AV := .agg [.d (.int .i64 t.kind), .d (.int .i64 t.n), .d (.str t.name), .d (.list (cellsL t.kids))]
theorem T.wt_eq (t : T) : t.wt = 4 + t.name.length + wtL t.kids := by cases t; simp [T.wt, T.kids, T.name]
theorem wtL_len : ∀ l : List T, l.length + 1 ≤ wtL l
  | [] => by simp [wtL]
  | t :: r => by have := wtL_len r; simp only [wtL, List.length_cons]; omega
theorem wtL_mem : ∀ (l : List T) (t : T), t ∈ l → t.wt + 1 < wtL l
  | a :: r, t, h => by
    have h0 := wtL_len r
    rcases List.mem_cons.1 h with rfl | h
    · simp only [wtL]; omega
    · have := wtL_mem r t h; simp only [wtL]; omega
theorem T.ok_eq (t : T) : t.Ok ↔ (Lit.int .i64 t.kind).wf = true ∧ (Lit.int .i64 t.n).wf = true ∧ t.name.length ≤ maxLen ∧ t.kids.length ≤ maxLen ∧ OkL t.kids := by cases t; rfl
theorem OkL_mem : ∀ {l : List T} {t : T}, OkL l → t ∈ l → t.Ok
  | a :: r, t, h, hm => by
    rcases List.mem_cons.1 hm with rfl | hm
    · exact h.1
    · exact OkL_mem h.2 hm
mutual
def sameT : T → T → Bool
  | .mk k n s l, .mk k' n' s' l' => k == k' && (n == n' && (s == s' && sameL l l'))
def sameL : List T → List T → Bool
  | [], [] => true
  | a :: r, b :: q => sameT a b && sameL r q
  | [], _ :: _ => false
  | _ :: _, [] => false
end
theorem sameT_eq (a b : T) : sameT a b = (a.kind == b.kind && (a.n == b.n && (a.name == b.name && sameL a.kids b.kids))) := by
  cases a; cases b; simp [sameT, T.kind, T.n, T.name, T.kids]
theorem sameL_len : ∀ {a b : List T}, a.length ≠ b.length → sameL a b = false
  | [], [], h => (h rfl).elim
  | [], _ :: _, _ => rfl
  | _ :: _, [], _ => rfl
  | a :: r, b :: q, h => by simp only [sameL, sameL_len (a := r) (b := q) (by simpa using h), Bool.and_false]
theorem sameL_drop {a b : List T} {i : Nat} {x y : T} (hx : a[i]? = some x) (hy : b[i]? = some y) : sameL (a.drop i) (b.drop i) = (sameT x y && sameL (a.drop (i + 1)) (b.drop (i + 1))) := by
  obtain ⟨h1, e1⟩ := List.getElem?_eq_some_iff.1 hx
  obtain ⟨h2, e2⟩ := List.getElem?_eq_some_iff.1 hy
  rw [List.drop_eq_getElem_cons h1, List.drop_eq_getElem_cons h2, sameL, e1, e2]
mutual
theorem sameT_refl : ∀ a : T, sameT a a = true
  | .mk k n s l => by simp [sameT, sameL_refl l]
theorem sameL_refl : ∀ a : List T, sameL a a = true
  | [] => rfl
  | t :: r => by simp [sameL, sameT_refl t, sameL_refl r]
end
mutual
theorem sameT_iff : ∀ a b : T, sameT a b = true ↔ a = b
  | .mk k n s l, .mk k' n' s' l' => by simp [sameT, sameL_iff l l']
theorem sameL_iff : ∀ a b : List T, sameL a b = true ↔ a = b
  | [], [] => by simp [sameL]
  | [], _ :: _ => by simp [sameL]
  | _ :: _, [] => by simp [sameL]
  | a :: r, b :: q => by simp [sameL, sameT_iff a b, sameL_iff r q]
end
/-- One more round: the counter stays in bounds. -/
theorem wrap_up {z : Int} {n : Nat} (hz : z = (n : Int)) (h : n < maxLen) : IntKind.i64.wrap (z + 1) = ((n + 1 : Nat) : Int) := by
  subst hz
  unfold maxLen at h
  rw [show ((n : Int) + 1) = ((n + 1 : Nat) : Int) by omega]
  exact wrap_small _ (by omega) (by omega)
end Go.RxTree
