/- Rx, part 22: a row that grows, with open contents. -/
import Derived.Test.YtghiaobecppbeaaRxU
set_option linter.unusedVariables false
set_option linter.unusedSimpArgs false
namespace Go.Rx
open Go Go.RowKit
/-- Something is put behind a row that grows. -/
theorem aop_app {P : Program} {dst : Nat} {ρ : Operand → AV} {H : Hp} {c : Call} {s x : Operand} {t u e e' : TypeId} {i : TypeInfo} {z : Value} {o : Nm} {ver n : Nat} {es ds : List (List D)} (hcal : c.callee = .builtin .append) (hargs : c.args.toList = [s, x]) (hty : c.argTypes.toList = [t, u])
    (ht : P.underlying t = some (.slice e)) (hu : P.underlying u = some (.slice e')) (hi : P.info? e = some i) (hz : i.zero = some z) (hsz : z.cells.size = i.size) (hx : srcOf H (ρ x) = some ds) (hall : ds.all (fun y => y.length == i.size) = true)
    (hs : ρ s = .own o ver n) (ho : H.get o = some (.arr e i.size ver es)) (hl : (n + ds.length) * (i.bytes + 1) ≤ lim) :
    aop P dst ρ H (.call c) = some (.own o (ver + 1) (n + ds.length), (o, .arr e i.size (ver + 1) (es.take n ++ ds)) :: H) := by
  simp only [aop, hcal, hargs, hty, aAppend, ht, hu, hi, hz, hsz, hx, hall, hs, ho, Option.bind_some, if_true, true_and, and_self, if_pos hl]
end Go.Rx
namespace Go.Rx
open Go Go.RowKit
/-- A number, divided. -/
theorem aop_quo {P : Program} {dst : Nat} {ρ : Operand → AV} {H : Hp} {t u : TypeId} {x y : Operand} {k : IntKind} {a b : Int} (hx : ρ x = .d (.int k a)) (hy : ρ y = .d (.int k b)) (hb : b ≠ 0) :
    aop P dst ρ H (.binOp .quo t x y u) = some (.d (.int k (k.wrap (a.tdiv b))), H) := by
  simp only [aop, aBin, hx, hy, bInt, if_neg hb, if_true, Option.map_some]
  rfl
end Go.Rx
