/- Levels and what is open, as rows. -/
import Derived.Test.YtbeppoonnbfdeaaRSpecT
import Derived.Test.YtbeppoonnbfdeaaRxJc
set_option linter.unusedVariables false
set_option linter.unusedSimpArgs false
namespace Go.RxTree
open Go Go.Rx
/-- Levels as a row: the last one last. -/
def lvC (q : List Int) : List (List D) := (q.map fun v => [D.int .i64 v]).reverse
theorem lvC_cons (a : Int) (q : List Int) : lvC (a :: q) = lvC q ++ [[.int .i64 a]] := by simp [lvC]
theorem lvC_len (q : List Int) : (lvC q).length = q.length := by simp [lvC]
theorem lvC_last (a : Int) (q : List Int) : (lvC (a :: q))[q.length]? = some [.int .i64 a] := by
  rw [lvC_cons, List.getElem?_append_right (by rw [lvC_len]; omega), lvC_len]; simp
theorem lvC_take (a : Int) (q : List Int) : (lvC (a :: q)).take q.length = lvC q := by
  rw [lvC_cons, List.take_append_of_le_length (by rw [lvC_len]; omega), List.take_of_length_le (by rw [lvC_len]; omega)]
theorem lvC_all (q : List Int) : (lvC q).all (fun y => y.length == 1) = true := by simp [lvC]
def opC (x : Int × List Int) : List D := [.int .i64 x.1, .list (lvC x.2)]
/-- What is open as a row: the innermost last. -/
def stC (st : List (Int × List Int)) : List (List D) := (st.map opC).reverse
theorem stC_cons (x : Int × List Int) (r : List (Int × List Int)) : stC (x :: r) = stC r ++ [opC x] := by simp [stC]
theorem stC_len (r : List (Int × List Int)) : (stC r).length = r.length := by simp [stC]
theorem stC_last {x : Int × List Int} {r : List (Int × List Int)} {n : Nat} {es : List (List D)} (h : es.take n = stC (x :: r)) : n = r.length + 1 ∨ es.length < n := by
  have := congrArg List.length h
  rw [stC_len, List.length_take] at this
  simp at this; omega
theorem stC_top {x : Int × List Int} {r : List (Int × List Int)} {es : List (List D)} (h : es.take (r.length + 1) = stC (x :: r)) : es[r.length]? = some (opC x) := by
  have h2 : (es.take (r.length + 1))[r.length]? = es[r.length]? := by rw [List.getElem?_take, if_pos (by omega)]
  rw [← h2, h, stC_cons, List.getElem?_append_right (by rw [stC_len]; omega), stC_len]; simp
theorem stC_le {x : Int × List Int} {r : List (Int × List Int)} {es : List (List D)} (h : es.take (r.length + 1) = stC (x :: r)) : r.length + 1 ≤ es.length := by
  have := congrArg List.length h
  rw [stC_len, List.length_take] at this
  simp at this; omega
theorem stC_pop {x : Int × List Int} {r : List (Int × List Int)} {es : List (List D)} (h : es.take (r.length + 1) = stC (x :: r)) : es.take r.length = stC r := by
  have h2 : es.take r.length = (es.take (r.length + 1)).take r.length := by rw [List.take_take]; congr 1; omega
  rw [h2, h, stC_cons, List.take_append_of_le_length (by rw [stC_len]; omega), List.take_of_length_le (by rw [stC_len]; omega)]
theorem stC_set {x y : Int × List Int} {r : List (Int × List Int)} {es : List (List D)} (h : es.take (r.length + 1) = stC (x :: r)) : (es.set r.length (opC y)).take (r.length + 1) = stC (y :: r) := by
  rw [List.take_set, h, stC_cons, stC_cons, List.set_append, if_neg (by rw [stC_len]; omega), stC_len]; simp
theorem stC_push {x y : Int × List Int} {r : List (Int × List Int)} {es : List (List D)} (h : es.take (r.length + 1) = stC (x :: r)) : (es.take (r.length + 1) ++ [opC y]).take (r.length + 1 + 1) = stC (y :: x :: r) := by
  rw [h, stC_cons y, List.take_of_length_le (by simp [stC_len])]
end Go.RxTree
