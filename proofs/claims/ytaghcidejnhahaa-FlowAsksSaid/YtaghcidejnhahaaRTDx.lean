/- A part of the proof of the law: what functions of the program come to, walked by Rx, or plain facts on it. -/
import Derived.Test.YtaghcidejnhahaaRxCfg12
import Derived.Test.YtaghcidejnhahaaRSpecW
open Go Go.Rx Go.Proofs Go.Rx12 Go.RxTree
set_option maxRecDepth 1000000
set_option maxHeartbeats 4000000
set_option linter.unusedVariables false
set_option linter.unusedSimpArgs false
namespace Go.Rx12
noncomputable def fsOf (t : TypeId) : Array Field := match Try.prog.underlying t with
  | some (.struct fs) => fs
  | _ => #[]
theorem td_struct {P : Program} {n : Nat} {t : TypeId} {fs : Array Field} {cs : List D} (hu : P.underlying t = some (.struct fs)) (h : TD P n t cs) : ∃ m, n = m + 1 ∧ fieldsR (TD P m) (fs.toList.map (·.type)) cs := by
  cases n with
  | zero => exact h.elim
  | succ n => simp only [TD, hu] at h; exact ⟨n, rfl, h⟩
theorem td_int {P : Program} {n : Nat} {t : TypeId} {k : IntKind} {cs : List D} (hu : P.underlying t = some (.int k)) (h : TD P n t cs) : ∃ z, cs = [.int k z] ∧ (Lit.int k z).wf = true := by
  cases n with
  | zero => exact h.elim
  | succ n => simp only [TD, hu] at h; exact h
theorem td_str {P : Program} {n : Nat} {t : TypeId} {cs : List D} (hu : P.underlying t = some .string) (h : TD P n t cs) : ∃ s, cs = [.str s] ∧ s.length ≤ maxLen ∧ s.length ≤ 140737488351232 := by
  cases n with
  | zero => exact h.elim
  | succ n => simp only [TD, hu] at h; exact h
theorem td_slice {P : Program} {n : Nat} {t e : TypeId} {cs : List D} (hu : P.underlying t = some (.slice e)) (hb : 1 ≤ P.bytesOf e) (h : TD P n t cs) : ∃ m es, n = m + 1 ∧ cs = [.list es] ∧ es.length ≤ maxLen ∧ es.length ≤ 140737488351232 ∧ ∀ y ∈ es, TD P m e y := by
  cases n with
  | zero => exact h.elim
  | succ n =>
    simp only [TD, hu] at h
    obtain ⟨es, h1, ⟨h2, h3⟩, h4⟩ := h
    exact ⟨n, es, rfl, h1, h2, Nat.le_trans (Nat.le_trans (Nat.le_of_eq (Nat.mul_one _).symm) (Nat.mul_le_mul_left _ hb)) h3, h4⟩
theorem gather_list {α : Type} {Q : α → Prop} {f : α → List D} : ∀ (es : List (List D)), (∀ y ∈ es, ∃ a, y = f a ∧ Q a) → ∃ l : List α, es = l.map f ∧ ∀ a ∈ l, Q a
  | [], _ => ⟨[], rfl, fun a h => by cases h⟩
  | y :: r, h => by
    obtain ⟨a, h1, h2⟩ := h y (by simp)
    obtain ⟨l, h3, h4⟩ := gather_list (Q := Q) (f := f) r (fun y hy => h y (by simp [hy]))
    exact ⟨a :: l, by simp [h1, h3], fun b hb => by rcases List.mem_cons.1 hb with rfl | hb; exact h2; exact h4 b hb⟩
theorem cellsL_map : ∀ l : List T, cellsL l = l.map T.cells
  | [] => rfl
  | t :: r => by simp [cellsL, cellsL_map r]
theorem OkL_of : ∀ {l : List T}, (∀ t ∈ l, t.Ok ∧ t.Sm) → OkL l ∧ SmL l
  | [], _ => ⟨trivial, trivial⟩
  | t :: r, h => ⟨⟨(h t (by simp)).1, (OkL_of (fun x hx => h x (by simp [hx]))).1⟩, ⟨(h t (by simp)).2, (OkL_of (fun x hx => h x (by simp [hx]))).2⟩⟩
theorem td_tree : ∀ (n : Nat) (cs : List D), TD Try.prog n 79 cs → ∃ t : T, cs = t.cells ∧ t.Ok ∧ t.Sm := by
  intro n
  induction n using Nat.strongRecOn with
  | _ n ih =>
  intro cs h
  obtain ⟨m, rfl, hs⟩ := td_struct (fs := fsOf 79) (by kernel_rfl) h
  rw [show (fsOf 79).toList.map (·.type) = [3, 2, 9, 42] by kernel_rfl] at hs
  obtain ⟨c1, r1, rfl, h1, c2, r2, rfl, h2, c3, r3, rfl, h3, c4, r4, rfl, h4, rfl⟩ := hs
  obtain ⟨z1, rfl, w1⟩ := td_int (k := .i64) (by kernel_rfl) h1
  obtain ⟨z2, rfl, w2⟩ := td_int (k := .i64) (by kernel_rfl) h2
  obtain ⟨s, rfl, w3, w3'⟩ := td_str (by kernel_rfl) h3
  obtain ⟨m', es, rfl, rfl, w4, w4', h5⟩ := td_slice (e := 79) (by kernel_rfl) (of_decide_eq_true (by kernel_rfl)) h4
  obtain ⟨l, rfl, hl⟩ := gather_list (Q := fun t => t.Ok ∧ t.Sm) (f := T.cells) es (fun y hy => ih m' (by omega) y (h5 y hy))
  refine ⟨.mk z1 z2 s l, by rw [cells_eq]; simp [T.kind, T.n, T.name, T.kids, cellsL_map], ?_, ?_⟩
  · rw [T.ok_eq]
    exact ⟨w1, w2, w3, by simpa [T.kids] using w4, (OkL_of hl).1⟩
  · rw [T.sm_eq]
    exact ⟨w3', (OkL_of hl).2⟩
theorem td_trees {n : Nat} {cs : List D} (h : TD Try.prog n 42 cs) : ∃ l : List T, cs = [.list (cellsL l)] ∧ l.length ≤ maxLen ∧ OkL l ∧ SmL l := by
  obtain ⟨m', es, rfl, rfl, w4, w4', h5⟩ := td_slice (e := 79) (by kernel_rfl) (of_decide_eq_true (by kernel_rfl)) h
  obtain ⟨l, rfl, hl⟩ := gather_list (Q := fun t => t.Ok ∧ t.Sm) (f := T.cells) es (fun y hy => td_tree m' y (h5 y hy))
  exact ⟨l, by rw [cellsL_map], by simpa [T.kids] using w4, OkL_of hl⟩
theorem arg_tree (t : T) : argAV Try.prog 79 t.cells = t.av := by cases t; kernel_rfl
theorem arg_str (s : List UInt8) : argAV Try.prog 9 [.str s] = .d (.str s) := by kernel_rfl
end Go.Rx12
