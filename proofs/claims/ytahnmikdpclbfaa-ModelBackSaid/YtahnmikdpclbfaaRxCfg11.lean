/- A part of the proof of the law: what functions of the program come to, walked by Rx, or plain facts on it. -/
import Derived.Test.YtahnmikdpclbfaaRxJc
import Derived.Test.YtahnmikdpclbfaaProg
import Derived.KernelRfl
open Go Go.Rx Go.Proofs
namespace Go.Rx11
def keepT : List ((Nat × Nat) × List Nat) := [((12, 8), [1, 23, 24, 25]),
  ((13, 8), [1, 3]),
  ((17, 4), [2, 3, 5]),
  ((20, 8), [0, 29, 30, 31]),
  ((21, 7), [1, 3, 4]),
  ((22, 15), [5, 26, 27, 28, 59, 60, 61]),
  ((22, 7), [5, 26, 27, 28]),
  ((23, 16), [1, 5, 6, 7, 8]),
  ((23, 7), [1, 5, 6]),
  ((24, 10), [2, 4, 5, 6, 7, 8, 9, 10]),
  ((24, 5), [2, 4, 5, 6, 7]),
  ((25, 6), [0, 2, 4, 5, 6, 7]),
  ((26, 4), [2, 3, 5]),
  ((28, 15), [1, 2, 5, 6, 7, 9, 10]),
  ((28, 12), [1, 2, 5, 6, 7, 9]),
  ((28, 8), [1, 2, 5, 6, 7, 8]),
  ((28, 3), [1, 2, 5, 6]),
  ((30, 2), [0, 7, 8, 9]),
  ((32, 2), [1, 2, 10, 11, 12]),
  ((33, 4), [0, 3]),
  ((35, 2), [1, 2, 5]),
  ((36, 3), [1, 2, 3, 7, 8]),
  ((37, 26), [0, 1, 4, 7, 76, 77]),
  ((39, 18), [0, 1, 4, 14, 15, 16, 17]),
  ((40, 6), [1, 2, 5]),
  ((45, 1), [0, 1]),
  ((46, 3), [0, 13, 14, 15]),
  ((47, 3), [3, 4]),
  ((55, 8), [0, 2, 3, 4, 5]),
  ((56, 4), [2, 3, 5]),
  ((58, 4), [1, 2, 15, 16, 17]),
  ((59, 4), [2, 3, 36, 37]),
  ((60, 4), [1, 2, 15, 16, 17]),
  ((62, 4), [1, 2, 15, 16, 17]),
  ((74, 20), [1, 82, 83, 84]),
  ((80, 3), [0, 5, 10, 11]),
  ((81, 12), [0, 5, 6, 7]),
  ((81, 2), [0, 5]),
  ((84, 4), [0, 1, 5]),
  ((87, 3), [4, 5, 17, 18, 19]),
  ((88, 2), [1, 3])]
def exitT : List ((Nat × Nat) × List Nat) := [((12, 8), [2]),
  ((13, 8), [2]),
  ((17, 4), [4]),
  ((20, 8), [0]),
  ((21, 7), [3]),
  ((22, 15), [5, 26, 27, 28]),
  ((22, 7), [5]),
  ((23, 16), [1, 5, 6]),
  ((23, 7), [5]),
  ((24, 10), [2, 4, 5, 6, 7, 8]),
  ((24, 5), [2, 4, 5]),
  ((25, 6), [0, 2, 4, 5]),
  ((26, 4), [4]),
  ((28, 15), [1, 2, 5, 6, 7, 9]),
  ((28, 12), [1, 2, 5, 6]),
  ((28, 8), [1, 2, 5, 6, 7]),
  ((28, 3), [5]),
  ((30, 2), [0, 2]),
  ((32, 2), [4]),
  ((33, 4), [2]),
  ((35, 2), [4]),
  ((36, 3), [6, 7]),
  ((37, 26), [0, 4, 5, 6, 7]),
  ((39, 18), [4, 5, 6, 15, 16]),
  ((40, 6), [4]),
  ((45, 1), [0, 1]),
  ((46, 3), [0]),
  ((47, 3), [3, 4]),
  ((55, 8), [2, 3]),
  ((56, 4), [4]),
  ((58, 4), [6]),
  ((59, 4), [4]),
  ((60, 4), [6]),
  ((62, 4), [6]),
  ((74, 20), [4]),
  ((80, 3), [2, 3, 4]),
  ((81, 12), [5, 6]),
  ((81, 2), [0, 5]),
  ((84, 4), [4]),
  ((87, 3), [2, 3, 5]),
  ((88, 2), [2])]
def ownF (f : Nat) : Bool := f == 20 || f == 41 || f == 42 || f == 45 || f == 46
def ownG (f : Nat) : Bool := ownF f || f == 44 || f == 47
def cfg0 : Cfg := ⟨fun f k => (keepT.lookup (f, k)).getD [], fun f => if ownF f then [0] else [], ownG, fun _ => none, fun _ _ => none, false⟩
set_option maxRecDepth 1000000 in
theorem works0 : icall Try.prog cfg0 60 11 [] [] = some (.ret (.d (.bool true)), []) := by kernel_rfl
/-- What is proved whole is taken as given. -/
def worksX (args : List AV) (H : Hp) : Option (Res × Hp) := match args, H with
  | [], [] => some (.ret (.d (.bool true)), [])
  | _, _ => none
/-- The row that Put makes is handed on. -/
def ownG2 (f : Nat) : Bool := ownG f || f == 22
def cfg : Cfg := ⟨fun f k => (keepT.lookup (f, k)).getD [], fun f => if ownF f then [0] else [], ownG2, fun f => if f = 11 then some worksX else none, fun f k => exitT.lookup (f, k), false⟩
theorem hext : ExtOk Try.prog cfg := by
  intro f g h
  simp only [cfg] at h
  split at h
  · rename_i hf
    injection h with h; subst h hf
    intro args H res H' hg
    unfold worksX at hg
    split at hg
    · injection hg with hg
      injection hg with h1 h2
      subst h1 h2
      exact icall_ok (cfg := cfg0) (fun f g h => by cases h) 60 11 _ _ _ _ works0
    · cases hg
  · cases h
end Go.Rx11
