/- A part of the proof of the law: what functions of the program come to, walked by Rx, or plain facts on it. -/
import Derived.Test.YtghiaobecppbeaaRxJc
import Derived.Test.YtghiaobecppbeaaProg
import Derived.KernelRfl
import Derived.Test.YtghiaobecppbeaaShelf
open Go Go.Rx Go.Proofs
namespace Go.Rx08
def keepT : List ((Nat × Nat) × List Nat) := [((6, 13), [1, 11, 12]),
  ((7, 8), [2, 3, 5, 7, 9]),
  ((15, 4), [2, 3, 5]),
  ((16, 4), [0, 1, 5]),
  ((18, 8), [3, 4, 5, 6, 7]),
  ((18, 6), [3, 4, 5]),
  ((25, 3), [4, 5, 17, 18, 19]),
  ((27, 2), [1, 3]),
  ((29, 5), [1, 2, 6, 7, 29, 30, 31]),
  ((30, 5), [1, 2, 3, 6, 7, 8]),
  ((31, 4), [0, 16, 17, 18]),
  ((33, 9), [0, 3, 4, 5]),
  ((33, 4), [0, 3]),
  ((34, 5), [1, 3, 4]),
  ((35, 5), [1, 2, 3, 4, 5, 27, 28, 29]),
  ((37, 4), [1, 2, 5]),
  ((38, 3), [1, 2, 3, 7, 8]),
  ((39, 5), [0, 3, 4, 5]),
  ((40, 30), [0, 1, 4, 5, 6, 8, 9, 11, 13, 14]),
  ((40, 5), [0, 1, 4, 5, 6, 7, 8]),
  ((42, 20), [1, 82, 83, 84]),
  ((44, 6), [1, 2, 5]),
  ((45, 2), [0, 1, 2, 3, 8, 9]),
  ((53, 15), [0, 2, 6]),
  ((53, 5), [0, 2, 6]),
  ((57, 4), [0, 3, 4, 5]),
  ((58, 2), [0, 7, 8, 9]),
  ((60, 4), [0, 1, 2, 6, 7]),
  ((60, 1), [0, 1, 2, 6]),
  ((61, 8), [0, 6, 7, 10]),
  ((61, 4), [0, 6, 7, 8, 9]),
  ((62, 5), [0, 1, 6, 7, 8, 9]),
  ((64, 2), [0, 6, 7]),
  ((65, 20), [0, 1, 2, 7, 8, 10]),
  ((65, 14), [0, 1, 2, 7, 8, 9]),
  ((65, 5), [0, 1, 2, 7, 8]),
  ((65, 3), [0, 1, 2, 7, 8]),
  ((67, 5), [0, 1, 9, 10]),
  ((67, 3), [0, 1, 9, 10]),
  ((68, 15), [0, 1, 10, 11]),
  ((68, 13), [0, 1, 10, 11]),
  ((68, 5), [0, 1, 10, 11]),
  ((68, 3), [0, 1, 10, 11]),
  ((73, 3), [0, 3, 4]),
  ((75, 3), [0, 4, 5]),
  ((77, 4), [0, 3]),
  ((78, 1), [0, 2, 3, 8])]
def exitT : List ((Nat × Nat) × List Nat) := [((6, 13), [2]),
  ((7, 8), [2, 3, 4, 5, 7]),
  ((15, 4), [4]),
  ((16, 4), [4]),
  ((18, 8), [3, 4, 6]),
  ((18, 6), [4]),
  ((25, 3), [2, 3, 5]),
  ((27, 2), [2]),
  ((29, 5), [6, 7]),
  ((30, 5), [6, 7]),
  ((31, 4), [0]),
  ((33, 9), [0, 3]),
  ((33, 4), [0, 2]),
  ((34, 5), [3]),
  ((35, 5), [1, 2, 3, 4, 5]),
  ((37, 4), [4]),
  ((38, 3), [6, 7]),
  ((39, 5), [2, 3, 4]),
  ((40, 30), [0, 1, 4, 5, 6, 8, 9, 11, 13, 14]),
  ((40, 5), [1, 4, 5, 7]),
  ((42, 20), [4]),
  ((44, 6), [4]),
  ((45, 2), []),
  ((53, 15), [0, 2, 6]),
  ((53, 5), [0, 2, 6]),
  ((57, 4), [3]),
  ((58, 2), [0, 2]),
  ((60, 4), [0, 1, 2, 6]),
  ((60, 1), []),
  ((61, 8), []),
  ((61, 4), [0, 6, 7, 8]),
  ((62, 5), []),
  ((64, 2), []),
  ((65, 20), [0, 1, 2, 7, 8]),
  ((65, 14), [0, 1, 2, 7, 8]),
  ((65, 5), [0, 1, 2, 7, 8]),
  ((65, 3), [6]),
  ((67, 5), [0, 1, 9, 10]),
  ((67, 3), [9]),
  ((68, 15), [0, 1, 10, 11]),
  ((68, 13), [0, 1, 11]),
  ((68, 5), [0, 1, 10, 11]),
  ((68, 3), [0, 1, 10, 11]),
  ((73, 3), [2]),
  ((75, 3), [2, 3, 4]),
  ((77, 4), [2]),
  ((78, 1), [])]
def ownF (f : Nat) : Bool := f == 31 || f == 32 || f == 33 || f == 45 || f == 60
def ownG (f : Nat) : Bool := f == 31 || f == 33
def cfg0 : Cfg := ⟨fun f k => (keepT.lookup (f, k)).getD [], fun f => if ownF f then [0] else [], ownG, fun _ => none, fun _ _ => none⟩
set_option maxRecDepth 1000000 in
theorem works0 : icall Try.prog cfg0 60 10 [] [] = some (.ret (.d (.bool true)), []) := by kernel_rfl
/-- What is proved whole is taken as given. -/
def worksX (args : List AV) (H : Hp) : Option (Res × Hp) := match args, H with
  | [], [] => some (.ret (.d (.bool true)), [])
  | _, _ => none
def cfg : Cfg := ⟨fun f k => (keepT.lookup (f, k)).getD [], fun f => if ownF f then [0] else [], ownG, fun f => if f = 10 then some worksX else if f = 32 then some (fixX sortX) else if f = 33 then some (fixX compactX) else none, fun f k => exitT.lookup (f, k)⟩
theorem hext : ExtOk Try.prog cfg := by
  intro f g h
  simp only [cfg] at h
  split at h
  · rename_i hf
    injection h with h; subst h hf
    intro args H res H' hg
    unfold worksX at hg
    split at hg
    · injection hg with hg
      injection hg with h1 h2
      subst h1 h2
      exact icall_ok (cfg := cfg0) (fun f g h => by cases h) 60 10 _ _ _ _ works0
    · cases hg
  · split at h
    · rename_i hf
      injection h with h; subst h hf
      exact fix_ok (sort_ok Try.slices_Sort_string_none Try.slices_Sort_string)
    · split at h
      · rename_i hf
        injection h with h; subst h hf
        exact fix_ok (compact_ok Try.slices_Compact_string_empty Try.slices_Compact_string)
      · cases h
end Go.Rx08
