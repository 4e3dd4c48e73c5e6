/- A part of the proof of the law: what functions of the program come to, walked by Rx, or plain facts on it. -/
import Derived.Test.YtbeppoonnbfdeaaRParse2
import Derived.Test.YtbeppoonnbfdeaaRPar5
open Go Go.Rx Go.Proofs Go.Rx07.P Go.RxTree
set_option maxRecDepth 1000000
set_option maxHeartbeats 4000000
set_option linter.unusedVariables false
set_option linter.unusedSimpArgs false
namespace Go.Rx07.P
/-- What Parse comes to. -/
def parseS (s : List UInt8) : T × Int × Int :=
  if (splitS s).2.1 ≠ 0 then (T0, (splitS s).2.1, (splitS s).2.2) else match exprS (splitS s).1 s.length (8 * (splitS s).1.length + 8) 0 1 1 with
    | .bad er at' => (T0, er, at')
    | .tree x j => if j < (splitS s).1.length then (T0, 3, atL (splitS s).1 j s.length) else if checkT x 1 = 0 then (x, 0, 0) else (T0, checkT x 1, 0)
theorem parseX_s (s : List UInt8) : parseX [.d (.str s)] [] = some (.ret (.tuple [(parseS s).1.av, .agg [.d (.int .i64 (parseS s).2.1), .d (.int .i64 (parseS s).2.2)]]), []) := by
  show parseK (6000 * s.length + 1000) [.d (.str s)] [] = _
  obtain ⟨k, hk⟩ : ∃ k, k = 6000 * s.length + 1000 := ⟨_, rfl⟩
  rw [← hk]
  have hs := split19 s k (by omega)
  unfold parseS
  rcases splitS_good s with ⟨hl, q1, q2, q3, hg⟩ | ⟨q1, q2, q3, q4⟩
  · rw [if_neg (fun h => h q1)]
    rw [q1, q2] at hs
    generalize (splitS s).1 = l at *
    have hp := (par5 l s.length hg (by omega) (8 * l.length + 8)).2 0 1 1 (by omega) (by omega) (by omega) (by omega) (by omega) (by omega) k (by omega)
    have hf := (fine l s.length hg (8 * l.length + 8)).2 0 1 1 (by omega) (by omega) (by omega) (by omega)
    cases hr : exprS l s.length (8 * l.length + 8) 0 1 1 with
    | bad er at' =>
      rw [hr] at hp
      obtain ⟨z, hp⟩ := hp
      exact pk_pan s k l er at' z hs hp
    | tree x j =>
      rw [hr] at hp hf
      dsimp only
      obtain ⟨b1, b2, b3, b4, b5⟩ := hf
      have hw : x.wt + 1 ≤ 5000 * s.length := by omega
      by_cases hj : j < l.length
      · rw [if_pos hj]
        exact pk_more s k (by omega) l x j j rfl hj hs hp
      · rw [if_neg hj]
        have hc := check16 x b4 b3 k (by omega)
        have ha := pk_all s k (by omega) l x j j (checkT x 1) rfl (by omega) hs hp hc
        by_cases hc0 : checkT x 1 = 0
        · rw [if_pos hc0] at ha ⊢
          exact ha
        · rw [if_neg hc0] at ha ⊢
          exact ha
  · rw [if_pos q2]
    rw [q1] at hs
    exact pk_err s k _ _ hs q2
/-- What it comes to, in short. -/
theorem parseS_out (s : List UInt8) : POut s (parseS s).1 (parseS s).2.1 (parseS s).2.2 := by
  unfold parseS
  rcases splitS_good s with ⟨hl, q1, q2, q3, hg⟩ | ⟨q1, q2, q3, q4⟩
  · rw [if_neg (fun h => h q1)]
    generalize (splitS s).1 = l at *
    have hf := (fine l s.length hg (8 * l.length + 8)).2 0 1 1 (by omega) (by omega) (by omega) (by omega)
    cases hr : exprS l s.length (8 * l.length + 8) 0 1 1 with
    | bad er at' =>
      rw [hr] at hf
      obtain ⟨he, g1, g2⟩ := hf
      exact .inr ⟨by rcases he with rfl | rfl <;> simp, rfl, g1, g2⟩
    | tree x j =>
      rw [hr] at hf
      dsimp only
      obtain ⟨b1, b2, b3, b4, b5⟩ := hf
      have hw : x.wt + 1 ≤ 5000 * s.length := by omega
      by_cases hj : j < l.length
      · rw [if_pos hj]
        have hb := atL_b hg j
        exact .inr ⟨by simp, rfl, hb.1, hb.2⟩
      · rw [if_neg hj]
        by_cases hc0 : checkT x 1 = 0
        · rw [if_pos hc0]
          exact .inl ⟨rfl, rfl, b3, b4, hc0, hw⟩
        · rw [if_neg hc0]
          exact .inr ⟨hc0, rfl, by simp, by simp⟩
  · rw [if_pos q2]
    exact .inr ⟨q2, rfl, q3, q4⟩
end Go.Rx07.P
