/- A part of the proof of the law: what functions of the program come to, walked by Rx, or plain facts on it. -/
import Derived.Test.YtbeppoonnbfdeaaRParse
open Go Go.Rx Go.Proofs Go.Rx07.P Go.RxTree
set_option maxRecDepth 1000000
set_option maxHeartbeats 4000000
set_option linter.unusedVariables false
set_option linter.unusedSimpArgs false
namespace Go.Rx07.P
def T0 : T := .mk 0 0 [] []
/-- What Parse comes to: a tree that may be, or a fault in the text. -/
def POut (s : List UInt8) (x : T) (er at' : Int) : Prop :=
  (er = 0 ∧ at' = 0 ∧ x.Ok ∧ x.Sm ∧ checkT x 1 = 0 ∧ x.wt + 1 ≤ 5000 * s.length) ∨ (er ≠ 0 ∧ x = T0 ∧ 0 ≤ at' ∧ at' ≤ s.length)
theorem parse_k (s : List UInt8) (k : Nat) (hk : 6000 * s.length + 900 < k) : ∃ x er at', POut s x er at' ∧ parseK k [.d (.str s)] [] = some (.ret (.tuple [x.av, .agg [.d (.int .i64 er), .d (.int .i64 at')]]), []) := by
  have hs := split19 s k (by omega)
  rcases splitS_good s with ⟨hl, h1, h2, h3, hg⟩ | ⟨h1, h2, h3, h4⟩
  · rw [h1, h2] at hs
    generalize (splitS s).1 = l at *
    rcases (par l s.length hg (by omega) (8 * l.length + 8)).2 0 0 1 1 rfl (by omega) (by omega) (by omega) (by omega) (by omega) (by omega) k (by omega) with ⟨x, j, z, hz, hx, hp⟩ | ⟨er, at', z, he, g1, g2, hp⟩
    · obtain ⟨b1, b2, b3, b4, b5⟩ := hx
      have hw : x.wt + 1 ≤ 5000 * s.length := by omega
      by_cases hj : j < l.length
      · have := atL_b hg j
        exact ⟨T0, 3, _, .inr ⟨by decide, rfl, this.1, this.2⟩, pk_more s k (by omega) l x j z hz hj hs hp⟩
      · have hc := check16 x b4 b3 k (by omega)
        have ha := pk_all s k (by omega) l x j z (checkT x 1) hz (by omega) hs hp hc
        by_cases hc0 : checkT x 1 = 0
        · rw [if_pos hc0] at ha
          exact ⟨x, 0, 0, .inl ⟨rfl, rfl, b3, b4, hc0, hw⟩, ha⟩
        · rw [if_neg hc0] at ha
          exact ⟨T0, checkT x 1, 0, .inr ⟨hc0, rfl, by omega, by omega⟩, ha⟩
    · exact ⟨T0, er, at', .inr ⟨by rcases he with rfl | rfl <;> decide, rfl, g1, g2⟩, pk_pan s k l er at' z hs hp⟩
  · rw [h1] at hs
    exact ⟨T0, _, _, .inr ⟨h2, rfl, h3, h4⟩, pk_err s k _ _ hs h2⟩
theorem parseX_t (s : List UInt8) : ∃ x er at', POut s x er at' ∧ parseX [.d (.str s)] [] = some (.ret (.tuple [x.av, .agg [.d (.int .i64 er), .d (.int .i64 at')]]), []) := parse_k s _ (by omega)
end Go.Rx07.P
