/- The document's shape of a definition: which definitions are balanced. -/
import Derived.Test.YtaghcidejnhahaaRSpecR2
open Go Go.Rx
namespace Go.RxTree
set_option linter.unusedVariables false
def refE (ps : List PlaceT) : Int := if (rowsR ps).2 = 0 then (if endR ps (rowsR ps).1.rows (rowsR ps).1.joins = true then 0 else 8) else (rowsR ps).2
def refErr (d : DefT) : Int := if checkD d = 0 then refE d.places else checkD d
def refFork (d : DefT) : List Int := if refErr d = 0 then rowF (rowsR d.places).1.rows else []
def refDeep (d : DefT) : List Int := if refErr d = 0 then rowD (rowsR d.places).1.rows else []
def refJoin (d : DefT) : List Int := if refErr d = 0 then (rowsR d.places).1.joins else []
theorem rowsR_ok {ps : List PlaceT} (h0 : 0 < ps.length) (hO : ∀ p ∈ ps, outsOk p.out ps.length) : RwOk ps.length (rowsR ps).1 := rowsS_ok rfl hO (rowsW_ok h0)
end Go.RxTree
