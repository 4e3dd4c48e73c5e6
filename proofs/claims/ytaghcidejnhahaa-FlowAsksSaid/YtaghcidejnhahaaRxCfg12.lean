/- A part of the proof of the law: what functions of the program come to, walked by Rx, or plain facts on it. -/
import Derived.Test.YtaghcidejnhahaaRxJc
import Derived.Test.YtaghcidejnhahaaProg
import Derived.KernelRfl
import Derived.Test.YtaghcidejnhahaaShelf
open Go Go.Rx Go.Proofs
namespace Go.Rx12
def keepT : List ((Nat × Nat) × List Nat) := [((5, 9), [1, 3, 5]),
  ((6, 21), [1, 2, 3, 7, 9, 10, 14]),
  ((6, 10), [1, 2, 3, 7, 9, 10]),
  ((7, 11), [1, 4, 7, 8]),
  ((7, 4), [1, 3]),
  ((10, 13), [2, 6, 64, 65, 66]),
  ((10, 7), [1, 2, 6]),
  ((11, 9), [1, 2, 5, 6, 8, 9]),
  ((13, 2), [1, 3]),
  ((14, 4), [0, 1, 5]),
  ((16, 5), [1, 2, 5, 6, 7, 8]),
  ((16, 3), [1, 2, 5, 6]),
  ((19, 2), [1, 2, 5]),
  ((21, 18), [8, 10, 11, 13, 14, 15]),
  ((21, 6), [2, 3, 4, 5, 8, 9, 10, 11, 12]),
  ((22, 8), [1, 3]),
  ((23, 19), [1, 5, 6, 7, 8, 9, 11, 14]),
  ((23, 6), [1, 5, 6, 7, 8]),
  ((24, 15), [1, 2, 5, 6, 7, 9, 10]),
  ((24, 12), [1, 2, 5, 6, 7, 9]),
  ((24, 8), [1, 2, 5, 6, 7, 8]),
  ((24, 3), [1, 2, 5, 6]),
  ((27, 8), [1, 23, 24, 25]),
  ((29, 15), [0, 5, 6, 100, 101, 102]),
  ((31, 4), [0, 1, 5]),
  ((32, 3), [1, 5, 9, 10, 11]),
  ((33, 1), [0, 2, 3]),
  ((34, 4), [0, 3]),
  ((36, 2), [1, 2, 5]),
  ((39, 3), [0, 3, 4]),
  ((40, 2), [0, 7, 8, 9]),
  ((42, 2), [1, 2, 10, 11, 12]),
  ((44, 9), [0, 3, 4, 5]),
  ((44, 4), [0, 3]),
  ((50, 3), [1, 2, 3, 7, 8]),
  ((54, 2), [0, 1, 2, 3, 8, 9]),
  ((58, 4), [0, 1, 2, 6, 7]),
  ((58, 1), [0, 1, 2, 6]),
  ((59, 8), [0, 6, 7, 10]),
  ((59, 4), [0, 6, 7, 8, 9]),
  ((60, 5), [0, 1, 6, 7, 8, 9]),
  ((62, 2), [0, 6, 7]),
  ((63, 20), [0, 1, 2, 7, 8, 10]),
  ((63, 14), [0, 1, 2, 7, 8, 9]),
  ((63, 5), [0, 1, 2, 7, 8]),
  ((63, 3), [0, 1, 2, 7, 8]),
  ((65, 5), [0, 1, 9, 10]),
  ((65, 3), [0, 1, 9, 10]),
  ((66, 15), [0, 1, 10, 11]),
  ((66, 13), [0, 1, 10, 11]),
  ((66, 5), [0, 1, 10, 11]),
  ((66, 3), [0, 1, 10, 11]),
  ((70, 2), [1, 3]),
  ((73, 3), [4, 5, 17, 18, 19]),
  ((74, 1), [0, 2, 3, 8]),
  ((80, 6), [1, 2, 5]),
  ((81, 20), [1, 82, 83, 84])]
def exitT : List ((Nat × Nat) × List Nat) := [((5, 9), [2]),
  ((6, 21), [1, 2, 3, 6, 7, 9, 10]),
  ((6, 10), [6]),
  ((7, 11), [1, 7]),
  ((7, 4), [1, 2]),
  ((10, 13), [2, 6]),
  ((10, 7), [1, 2, 6]),
  ((11, 9), [2, 3, 8]),
  ((13, 2), [2]),
  ((14, 4), [4]),
  ((16, 5), [1, 2, 5, 7]),
  ((16, 3), [5]),
  ((19, 2), [5]),
  ((21, 18), [8, 11]),
  ((21, 6), [3, 4, 8, 9, 10, 11]),
  ((22, 8), [2]),
  ((23, 19), [1, 2, 3, 4, 5, 6, 7, 8]),
  ((23, 6), [2, 3, 4, 5, 6]),
  ((24, 15), [1, 2, 5, 6, 7, 9]),
  ((24, 12), [1, 2, 5, 6]),
  ((24, 8), [1, 2, 5, 6, 7]),
  ((24, 3), [5]),
  ((27, 8), [2]),
  ((29, 15), []),
  ((31, 4), [4]),
  ((32, 3), [5]),
  ((33, 1), []),
  ((34, 4), [2]),
  ((36, 2), [4]),
  ((39, 3), [3]),
  ((40, 2), [0, 2]),
  ((42, 2), [4]),
  ((44, 9), [0, 3]),
  ((44, 4), [0, 2]),
  ((50, 3), [6, 7]),
  ((54, 2), []),
  ((58, 4), [0, 1, 2, 6]),
  ((58, 1), []),
  ((59, 8), []),
  ((59, 4), [0, 6, 7, 8]),
  ((60, 5), []),
  ((62, 2), []),
  ((63, 20), [0, 1, 2, 7, 8]),
  ((63, 14), [0, 1, 2, 7, 8]),
  ((63, 5), [0, 1, 2, 7, 8]),
  ((63, 3), [6]),
  ((65, 5), [0, 1, 9, 10]),
  ((65, 3), [9]),
  ((66, 15), [0, 1, 10, 11]),
  ((66, 13), [0, 1, 11]),
  ((66, 5), [0, 1, 10, 11]),
  ((66, 3), [0, 1, 10, 11]),
  ((70, 2), [2]),
  ((73, 3), [2, 3, 5]),
  ((74, 1), []),
  ((80, 6), [4]),
  ((81, 20), [4])]
def ownF (f : Nat) : Bool := f == 33 || f == 43 || f == 44
def ownG (f : Nat) : Bool := f == 44
def cfg0 : Cfg := ⟨fun f k => (keepT.lookup (f, k)).getD [], fun f => if ownF f then [0] else [], ownG, fun _ => none, fun _ _ => none, false⟩
set_option maxRecDepth 1000000 in
theorem works0 : icall Try.prog cfg0 60 9 [] [] = some (.ret (.d (.bool true)), []) := by kernel_rfl
/-- What is proved whole is taken as given. -/
def worksX (args : List AV) (H : Hp) : Option (Res × Hp) := match args, H with
  | [], [] => some (.ret (.d (.bool true)), [])
  | _, _ => none
def cfg : Cfg := ⟨fun f k => (keepT.lookup (f, k)).getD [], fun f => if ownF f then [0] else [], ownG, fun f => if f = 9 then some worksX else if f = 43 then some (fixX sortX) else if f = 44 then some (fixX compactX) else none, fun f k => exitT.lookup (f, k), false⟩
theorem hext : ExtOk Try.prog cfg := by
  intro f g h
  simp only [cfg] at h
  split at h
  · rename_i hf
    injection h with h; subst h hf
    intro args H res H' hg
    unfold worksX at hg
    split at hg
    · injection hg with hg
      injection hg with h1 h2
      subst h1 h2
      exact icall_ok (cfg := cfg0) (fun f g h => by cases h) 60 9 _ _ _ _ works0
    · cases hg
  · split at h
    · rename_i hf
      injection h with h; subst h hf
      exact fix_ok (sort_ok Try.slices_Sort_string_none Try.slices_Sort_string)
    · split at h
      · rename_i hf
        injection h with h; subst h hf
        exact fix_ok (compact_ok Try.slices_Compact_string_empty Try.slices_Compact_string)
      · cases h
end Go.Rx12
