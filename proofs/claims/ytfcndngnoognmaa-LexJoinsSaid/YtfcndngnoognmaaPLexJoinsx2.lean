-- Written by a program of this session (the kit's print, with functions of our own).
import Derived.Test.YtfcndngnoognmaaPLexJoinsx0
namespace Go.Proofs.Ytfcndngnoognmaa.PLexJoins
open Go.RowKit Go.Proofs.YtfcndngnoognmaaW.PrintWords Go.Proofs.YtfcndngnoognmaaW.PrintLast Go.Proofs.YtfcndngnoognmaaW.PrintMore
attribute [local go_sem] max2_int min2_int max_two min_two max_three min_three max_four min_four   -- for this text's walks alone
set_option linter.unusedVariables false
set_option linter.unusedSimpArgs false

/-! ### lex_kind: function 12 -/
mutual
def lex_kind.j1 : Nat → Int → Option (Int)
  | 0, _ => none
  | k + 1, x0 => if x0 = 43 then (some 3) else (if x0 = 45 then (some 3) else (if x0 = 42 then (some 3) else (if x0 = 47 then (some 3) else (if x0 = 61 then (some 3) else (if x0 = 60 then (some 3) else (if x0 = 40 then (some 3) else (if x0 = 41 then (some 3) else (if x0 = 38 then (some 3) else (if x0 = 124 then (some 3) else (if x0 = 33 then (some 3) else (some (-1))))))))))))
def lex_kind.j0 : Nat → Int → Bool → Option (Int)
  | 0, _, _ => none
  | k + 1, x0, x6 => if x6 = true then (some 1) else (if x0 ≥ 97 then (if x0 ≤ 122 then (some 2) else (lex_kind.j1 k x0)) else (lex_kind.j1 k x0))
end
def lex_kind.f (k : Nat) (a0 : Int) : Option (Int) := if a0 = 32 then (some 0) else (if a0 ≥ 48 then (lex_kind.j0 k a0 (decide (a0 ≤ 57))) else (lex_kind.j0 k a0 false))
theorem lex_kind.mono_l : ∀ k, (∀ y0, LeO (lex_kind.j1 k y0) (lex_kind.j1 (k + 1) y0)) ∧ (∀ y0 y1, LeO (lex_kind.j0 k y0 y1) (lex_kind.j0 (k + 1) y0 y1))
  | 0 => ⟨fun _ r h => by simp [lex_kind.j1] at h, fun _ _ r h => by simp [lex_kind.j0] at h⟩
  | k + 1 => by
    obtain ⟨ih0, ih1⟩ := lex_kind.mono_l k
    refine ⟨?_, ?_⟩
    · intro y0
      unfold lex_kind.j1
      repeat' first
      | (with_reducible exact ih0 _)
      | (with_reducible exact ih1 _ _)
      | (with_reducible exact LeO.refl _)
      | (with_reducible exact LeO.none _)
      | (with_reducible refine LeO.ite ?_ ?_)
      | (with_reducible refine LeO.bind ?_ (fun _ => ?_))
      | exact ih0 _
      | exact ih1 _ _
      | exact LeO.none _
      | refine LeO.ite ?_ ?_
      | refine LeO.bind ?_ (fun _ => ?_)
    · intro y0 y1
      unfold lex_kind.j0
      repeat' first
      | (with_reducible exact ih0 _)
      | (with_reducible exact ih1 _ _)
      | (with_reducible exact LeO.refl _)
      | (with_reducible exact LeO.none _)
      | (with_reducible refine LeO.ite ?_ ?_)
      | (with_reducible refine LeO.bind ?_ (fun _ => ?_))
      | exact ih0 _
      | exact ih1 _ _
      | exact LeO.none _
      | refine LeO.ite ?_ ?_
      | refine LeO.bind ?_ (fun _ => ?_)
theorem lex_kind.mono : ∀ a0 k, LeO (lex_kind.f k a0) (lex_kind.f (k + 1) a0) := by
  intro a0 k
  obtain ⟨ih0, ih1⟩ := lex_kind.mono_l k
  unfold lex_kind.f
  repeat' first
      | (with_reducible exact ih0 _)
      | (with_reducible exact ih1 _ _)
      | (with_reducible exact LeO.refl _)
      | (with_reducible exact LeO.none _)
      | (with_reducible refine LeO.ite ?_ ?_)
      | (with_reducible refine LeO.bind ?_ (fun _ => ?_))
      | exact ih0 _
      | exact ih1 _ _
      | exact LeO.none _
      | refine LeO.ite ?_ ?_
      | refine LeO.bind ?_ (fun _ => ?_)
set_option maxHeartbeats 64000000 in
set_option maxRecDepth 100000 in
theorem lex_kind.calls (k : Nat) (a0 : Int) (r : Int) (w : World) (h : lex_kind.f k a0 = some r) :
    Calls Try.prog 12 #[.int .u8 a0] w fun e w' => e = .returned (.int .i64 r) ∧ Drawn0 w w' := by
  have H : (if a0 = 32 then (some 0) else (if a0 ≥ 48 then (lex_kind.j0 k a0 (decide (a0 ≤ 57))) else (lex_kind.j0 k a0 false))) = some r := h
  clear h
  have HC2 := Aside0.mk H
  clear H
  go_enter Try.func12, Try.ntmps12
  go_upto_block 0 with (fail)
  go_cut [] (fun wc => ∃ (kq : Nat), Aside0 (lex_kind.j1 kq a0 = some r) ∧ Aside0 (kq ≤ k) ∧ Drawn0 w wc)
  case first =>
    have H := HC2.out
    clear HC2
    by_cases c3 : a0 = 32
    · rw [if_pos c3] at H
      have c3b0 : (a0 == 32) = true := beq_iff_eq.mpr c3
      have c3b1 : (a0 != 32) = false := bne_eq_false_iff_eq.mpr c3
      clear c3
      (first | rw [c3b0] | (simp only [i64_w, i32_w]; rw [c3b0]) | skip)
      obtain rfl := Option.some.inj H
      go_wp2
      go_ret
      exact ⟨by first | rfl | (simp; done) | (simp [*]; done), by repeat (first | exact Drawn0.refl _ | apply Drawn0.step)⟩
    · rw [if_neg c3] at H
      have c3b0 : (a0 == 32) = false := beq_eq_false_iff_ne.mpr c3
      have c3b1 : (a0 != 32) = true := bne_iff_ne.mpr c3
      (first | rw [c3b0] | (simp only [i64_w, i32_w]; rw [c3b0]) | skip)
      have HC4 := Aside0.mk H
      clear H
      go_upto_region 3 with (fail)
      go_cut [6] (fun v6 wc => ∃ (kq : Nat) (x6_3 : Bool), v6 = .bool x6_3 ∧ Aside0 (lex_kind.j0 kq a0 x6_3 = some r) ∧ Aside0 (kq ≤ k) ∧ Drawn0 w wc)
      case first =>
        have H := HC4.out
        clear HC4
        by_cases c5 : a0 ≥ 48
        · rw [if_pos c5] at H
          have c5b0 : decide (48 ≤ a0) = true := decide_eq_true c5
          clear c5
          (first | rw [c5b0] | (simp only [i64_w, i32_w]; rw [c5b0]) | skip)
          have H' := Aside0.mk H
          clear H
          go_wp2
          go_meet
          case rel => exact ⟨_, (decide (a0 ≤ 57)), (by first | rfl | (simp; done) | (simp [*]; done)), H', ⟨by first | omega | exact Nat.le_refl _⟩, by repeat (first | exact Drawn0.refl _ | apply Drawn0.step)⟩
        · rw [if_neg c5] at H
          have c5b0 : decide (48 ≤ a0) = false := decide_eq_false c5
          clear c5
          (first | rw [c5b0] | (simp only [i64_w, i32_w]; rw [c5b0]) | skip)
          have H' := Aside0.mk H
          clear H
          go_wp2
          go_meet
          case rel => exact ⟨_, (false), (by first | rfl | (simp; done) | (simp [*]; done)), H', ⟨by first | omega | exact Nat.le_refl _⟩, by repeat (first | exact Drawn0.refl _ | apply Drawn0.step)⟩
      case rest =>
        clear HC4
        try clear c1
        try clear p2
        try clear c3
        try clear c3b0
        try clear c3b1
        try clear c5
        try clear c5b0
        obtain ⟨kq, x6_3, rfl, HA, HJ3, ⟨mc3, rfl⟩⟩ := hcut
        cases kq with
        | zero => exact absurd HA.out (by simp [lex_kind.j0])
        | succ kj3 =>
          have H := HA.out
          clear HA
          simp only [lex_kind.j0] at H
          by_cases c6 : x6_3 = true
          · subst c6
            have H1 : (some 1) = some r := by rw [if_pos rfl] at H; exact H
            clear H
            have H := H1
            clear H1
            obtain rfl := Option.some.inj H
            go_wp2
            go_ret
            exact ⟨by first | rfl | (simp; done) | (simp [*]; done), by repeat (first | exact Drawn0.refl _ | apply Drawn0.step)⟩
          · replace c6 := Bool.eq_false_iff.mpr c6
            subst c6
            have H1 : (if a0 ≥ 97 then (if a0 ≤ 122 then (some 2) else (lex_kind.j1 kj3 a0)) else (lex_kind.j1 kj3 a0)) = some r := by rw [if_neg (show ¬ (false = true) by decide)] at H; exact H
            clear H
            have H := H1
            clear H1
            by_cases c7 : a0 ≥ 97
            · rw [if_pos c7] at H
              have c7b0 : decide (97 ≤ a0) = true := decide_eq_true c7
              clear c7
              by_cases c8 : a0 ≤ 122
              · rw [if_pos c8] at H
                have c8b0 : decide (a0 ≤ 122) = true := decide_eq_true c8
                clear c8
                obtain rfl := Option.some.inj H
                go_wp2
                go_ret
                exact ⟨by first | rfl | (simp; done) | (simp [*]; done), by repeat (first | exact Drawn0.refl _ | apply Drawn0.step)⟩
              · rw [if_neg c8] at H
                have c8b0 : decide (a0 ≤ 122) = false := decide_eq_false c8
                clear c8
                have H' := Aside0.mk H
                clear H
                go_wp2
                go_meet
                case rel => exact ⟨_, H', ⟨by have := HJ3.out; first | omega | exact Nat.le_refl _⟩, by repeat (first | exact Drawn0.refl _ | apply Drawn0.step)⟩
            · rw [if_neg c7] at H
              have c7b0 : decide (97 ≤ a0) = false := decide_eq_false c7
              clear c7
              have H' := Aside0.mk H
              clear H
              go_wp2
              go_meet
              case rel => exact ⟨_, H', ⟨by have := HJ3.out; first | omega | exact Nat.le_refl _⟩, by repeat (first | exact Drawn0.refl _ | apply Drawn0.step)⟩
  case rest =>
    clear HC2
    try clear c1
    try clear p2
    try clear c3
    try clear c3b0
    try clear c3b1
    try clear c5
    try clear c5b0
    try clear c6
    try clear c7
    try clear c7b0
    try clear c8
    try clear c8b0
    try clear p2
    obtain ⟨kq, HA, HJ1, ⟨mc1, rfl⟩⟩ := hcut
    cases kq with
    | zero => exact absurd HA.out (by simp [lex_kind.j1])
    | succ kj1 =>
      have H := HA.out
      clear HA
      simp only [lex_kind.j1] at H
      by_cases c9 : a0 = 43
      · rw [if_pos c9] at H
        have c9b0 : (a0 == 43) = true := beq_iff_eq.mpr c9
        have c9b1 : (a0 != 43) = false := bne_eq_false_iff_eq.mpr c9
        clear c9
        obtain rfl := Option.some.inj H
        go_wp2
        go_ret
        exact ⟨by first | rfl | (simp; done) | (simp [*]; done), by repeat (first | exact Drawn0.refl _ | apply Drawn0.step)⟩
      · rw [if_neg c9] at H
        have c9b0 : (a0 == 43) = false := beq_eq_false_iff_ne.mpr c9
        have c9b1 : (a0 != 43) = true := bne_iff_ne.mpr c9
        by_cases c10 : a0 = 45
        · rw [if_pos c10] at H
          have c10b0 : (a0 == 45) = true := beq_iff_eq.mpr c10
          have c10b1 : (a0 != 45) = false := bne_eq_false_iff_eq.mpr c10
          clear c10
          obtain rfl := Option.some.inj H
          go_wp2
          go_ret
          exact ⟨by first | rfl | (simp; done) | (simp [*]; done), by repeat (first | exact Drawn0.refl _ | apply Drawn0.step)⟩
        · rw [if_neg c10] at H
          have c10b0 : (a0 == 45) = false := beq_eq_false_iff_ne.mpr c10
          have c10b1 : (a0 != 45) = true := bne_iff_ne.mpr c10
          by_cases c11 : a0 = 42
          · rw [if_pos c11] at H
            have c11b0 : (a0 == 42) = true := beq_iff_eq.mpr c11
            have c11b1 : (a0 != 42) = false := bne_eq_false_iff_eq.mpr c11
            clear c11
            obtain rfl := Option.some.inj H
            go_wp2
            go_ret
            exact ⟨by first | rfl | (simp; done) | (simp [*]; done), by repeat (first | exact Drawn0.refl _ | apply Drawn0.step)⟩
          · rw [if_neg c11] at H
            have c11b0 : (a0 == 42) = false := beq_eq_false_iff_ne.mpr c11
            have c11b1 : (a0 != 42) = true := bne_iff_ne.mpr c11
            by_cases c12 : a0 = 47
            · rw [if_pos c12] at H
              have c12b0 : (a0 == 47) = true := beq_iff_eq.mpr c12
              have c12b1 : (a0 != 47) = false := bne_eq_false_iff_eq.mpr c12
              clear c12
              obtain rfl := Option.some.inj H
              go_wp2
              go_ret
              exact ⟨by first | rfl | (simp; done) | (simp [*]; done), by repeat (first | exact Drawn0.refl _ | apply Drawn0.step)⟩
            · rw [if_neg c12] at H
              have c12b0 : (a0 == 47) = false := beq_eq_false_iff_ne.mpr c12
              have c12b1 : (a0 != 47) = true := bne_iff_ne.mpr c12
              by_cases c13 : a0 = 61
              · rw [if_pos c13] at H
                have c13b0 : (a0 == 61) = true := beq_iff_eq.mpr c13
                have c13b1 : (a0 != 61) = false := bne_eq_false_iff_eq.mpr c13
                clear c13
                obtain rfl := Option.some.inj H
                go_wp2
                go_ret
                exact ⟨by first | rfl | (simp; done) | (simp [*]; done), by repeat (first | exact Drawn0.refl _ | apply Drawn0.step)⟩
              · rw [if_neg c13] at H
                have c13b0 : (a0 == 61) = false := beq_eq_false_iff_ne.mpr c13
                have c13b1 : (a0 != 61) = true := bne_iff_ne.mpr c13
                by_cases c14 : a0 = 60
                · rw [if_pos c14] at H
                  have c14b0 : (a0 == 60) = true := beq_iff_eq.mpr c14
                  have c14b1 : (a0 != 60) = false := bne_eq_false_iff_eq.mpr c14
                  clear c14
                  obtain rfl := Option.some.inj H
                  go_wp2
                  go_ret
                  exact ⟨by first | rfl | (simp; done) | (simp [*]; done), by repeat (first | exact Drawn0.refl _ | apply Drawn0.step)⟩
                · rw [if_neg c14] at H
                  have c14b0 : (a0 == 60) = false := beq_eq_false_iff_ne.mpr c14
                  have c14b1 : (a0 != 60) = true := bne_iff_ne.mpr c14
                  by_cases c15 : a0 = 40
                  · rw [if_pos c15] at H
                    have c15b0 : (a0 == 40) = true := beq_iff_eq.mpr c15
                    have c15b1 : (a0 != 40) = false := bne_eq_false_iff_eq.mpr c15
                    clear c15
                    obtain rfl := Option.some.inj H
                    go_wp2
                    go_ret
                    exact ⟨by first | rfl | (simp; done) | (simp [*]; done), by repeat (first | exact Drawn0.refl _ | apply Drawn0.step)⟩
                  · rw [if_neg c15] at H
                    have c15b0 : (a0 == 40) = false := beq_eq_false_iff_ne.mpr c15
                    have c15b1 : (a0 != 40) = true := bne_iff_ne.mpr c15
                    by_cases c16 : a0 = 41
                    · rw [if_pos c16] at H
                      have c16b0 : (a0 == 41) = true := beq_iff_eq.mpr c16
                      have c16b1 : (a0 != 41) = false := bne_eq_false_iff_eq.mpr c16
                      clear c16
                      obtain rfl := Option.some.inj H
                      go_wp2
                      go_ret
                      exact ⟨by first | rfl | (simp; done) | (simp [*]; done), by repeat (first | exact Drawn0.refl _ | apply Drawn0.step)⟩
                    · rw [if_neg c16] at H
                      have c16b0 : (a0 == 41) = false := beq_eq_false_iff_ne.mpr c16
                      have c16b1 : (a0 != 41) = true := bne_iff_ne.mpr c16
                      by_cases c17 : a0 = 38
                      · rw [if_pos c17] at H
                        have c17b0 : (a0 == 38) = true := beq_iff_eq.mpr c17
                        have c17b1 : (a0 != 38) = false := bne_eq_false_iff_eq.mpr c17
                        clear c17
                        obtain rfl := Option.some.inj H
                        go_wp2
                        go_ret
                        exact ⟨by first | rfl | (simp; done) | (simp [*]; done), by repeat (first | exact Drawn0.refl _ | apply Drawn0.step)⟩
                      · rw [if_neg c17] at H
                        have c17b0 : (a0 == 38) = false := beq_eq_false_iff_ne.mpr c17
                        have c17b1 : (a0 != 38) = true := bne_iff_ne.mpr c17
                        by_cases c18 : a0 = 124
                        · rw [if_pos c18] at H
                          have c18b0 : (a0 == 124) = true := beq_iff_eq.mpr c18
                          have c18b1 : (a0 != 124) = false := bne_eq_false_iff_eq.mpr c18
                          clear c18
                          obtain rfl := Option.some.inj H
                          go_wp2
                          go_ret
                          exact ⟨by first | rfl | (simp; done) | (simp [*]; done), by repeat (first | exact Drawn0.refl _ | apply Drawn0.step)⟩
                        · rw [if_neg c18] at H
                          have c18b0 : (a0 == 124) = false := beq_eq_false_iff_ne.mpr c18
                          have c18b1 : (a0 != 124) = true := bne_iff_ne.mpr c18
                          by_cases c19 : a0 = 33
                          · rw [if_pos c19] at H
                            have c19b0 : (a0 == 33) = true := beq_iff_eq.mpr c19
                            have c19b1 : (a0 != 33) = false := bne_eq_false_iff_eq.mpr c19
                            clear c19
                            obtain rfl := Option.some.inj H
                            go_wp2
                            go_ret
                            exact ⟨by first | rfl | (simp; done) | (simp [*]; done), by repeat (first | exact Drawn0.refl _ | apply Drawn0.step)⟩
                          · rw [if_neg c19] at H
                            have c19b0 : (a0 == 33) = false := beq_eq_false_iff_ne.mpr c19
                            have c19b1 : (a0 != 33) = true := bne_iff_ne.mpr c19
                            obtain rfl := Option.some.inj H
                            go_wp2
                            go_ret
                            exact ⟨by first | rfl | (simp; done) | (simp [*]; done), by repeat (first | exact Drawn0.refl _ | apply Drawn0.step)⟩

end Go.Proofs.Ytfcndngnoognmaa.PLexJoins
