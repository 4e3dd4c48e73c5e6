/- A part of the proof of the law: what functions of the program come to, walked by Rx, or plain facts on it. -/
import Derived.Test.YtaghcidejnhahaaRChk
open Go Go.Rx Go.Proofs Go.Rx12 Go.RxTree
set_option maxRecDepth 1000000
set_option maxHeartbeats 4000000
set_option linter.unusedVariables false
set_option linter.unusedSimpArgs false
namespace Go.Rx12
theorem aop_mkO {P : Program} {dst : Nat} {ρ : Operand → AV} {H : Hp} {t e : TypeId} {l c : Operand} {i : TypeInfo} {z : List AV} {zd : List D} {n : Nat} (hl : ρ l = .d (.int .i64 (n : Int))) (hc : ρ c = .d (.int .i64 (n : Int))) (ht : P.underlying t = some (.slice e)) (hi : P.info? e = some i) (hz : zeroOf P e = some z) (hp : pureL z = some zd) (hlen : n * (i.bytes + 1) ≤ lim) (hs : z.length = i.size) (h0 : 0 < i.size) (ho : (H.get (.slot dst)).isNone = true) :
    aop P dst ρ H (.makeSlice t l c) = some (.own (.slot dst) 0 n, (.slot dst, .arr e i.size 0 (List.replicate n zd)) :: H) := by
  simp only [aop, aMakeSlice, hl, hc, ht, hi, hz, hp, Option.bind_some, Int.toNat_natCast]
  rw [if_pos ⟨trivial, by omega, hlen, hs, h0, ho⟩]
theorem lenM1 {n : Nat} (h : n ≤ 1000000) : n * (1 + 1) ≤ lim := by unfold lim; omega
theorem lenM8 {n : Nat} (h : n ≤ 1000000) : n * (8 + 1) ≤ lim := by unfold lim; omega
end Go.Rx12
