-- Written by a program of this session (the kit's print, with functions of our own).
import Derived.Test.YtcmjdkfndlejcaaPQuorumLeastx0
import Derived.Test.YtcmjdkfndlejcaaPQuorumLeastx1
namespace Go.Proofs.Ytcmjdkfndlejcaa.PQuorumLeast
open Go.RowKit Go.Proofs.YtcmjdkfndlejcaaW.PrintWords Go.Proofs.YtcmjdkfndlejcaaW.PrintLast Go.Proofs.YtcmjdkfndlejcaaW.PrintMore
attribute [local go_sem] max2_int min2_int max_two min_two max_three min_three max_four min_four   -- for this text's walks alone
set_option linter.unusedVariables false
set_option linter.unusedSimpArgs false

/-! ### funicularlaw14_QuorumLeast: function 7 -/
def funicularlaw14_QuorumLeast.f (k : Nat) (a0 : Int) : Option (Bool) := (quorum_Enough.f (wrap64 (1 + (Int.tmod (wrap64 (a0)) 500)))).bind fun t135 => (if t135 ≥ 1 then (if t135 ≤ (wrap64 (1 + (Int.tmod (wrap64 (a0)) 500))) then (if (wrap64 (2 * t135)) > (wrap64 (1 + (Int.tmod (wrap64 (a0)) 500))) then (if (wrap64 (2 * (wrap64 (t135 - 1)))) ≤ (wrap64 (1 + (Int.tmod (wrap64 (a0)) 500))) then ((funicularlaw14_works.f k).bind fun t136 => (some t136)) else (some false)) else (some false)) else (some false)) else (some false))
theorem funicularlaw14_QuorumLeast.mono : ∀ a0 k, LeO (funicularlaw14_QuorumLeast.f k a0) (funicularlaw14_QuorumLeast.f (k + 1) a0) := by
  intro a0 k
  unfold funicularlaw14_QuorumLeast.f
  repeat' first
      | (with_reducible exact funicularlaw14_works.mono _)
      | (with_reducible exact LeO.refl _)
      | (with_reducible exact LeO.none _)
      | (with_reducible refine LeO.ite ?_ ?_)
      | (with_reducible refine LeO.bind ?_ (fun _ => ?_))
      | exact funicularlaw14_works.mono _
      | exact LeO.none _
      | refine LeO.ite ?_ ?_
      | refine LeO.bind ?_ (fun _ => ?_)
set_option maxHeartbeats 64000000 in
set_option maxRecDepth 100000 in
theorem funicularlaw14_QuorumLeast.calls (k : Nat) (a0 : Int) (r : Bool) (w : World) (h : funicularlaw14_QuorumLeast.f k a0 = some r) :
    Calls Try.prog 7 #[.int .u16 a0] w fun e w' => e = .returned (.bool r) ∧ Below w.heap.size w w' := by
  have HB := Aside0.mk (Below.refl w.heap.size w)
  have H : ((quorum_Enough.f (wrap64 (1 + (Int.tmod (wrap64 (a0)) 500)))).bind fun t135 => (if t135 ≥ 1 then (if t135 ≤ (wrap64 (1 + (Int.tmod (wrap64 (a0)) 500))) then (if (wrap64 (2 * t135)) > (wrap64 (1 + (Int.tmod (wrap64 (a0)) 500))) then (if (wrap64 (2 * (wrap64 (t135 - 1)))) ≤ (wrap64 (1 + (Int.tmod (wrap64 (a0)) 500))) then ((funicularlaw14_works.f k).bind fun t136 => (some t136)) else (some false)) else (some false)) else (some false)) else (some false))) = some r := h
  clear h
  replace H := Option.bind_eq_some_iff.mp H
  obtain ⟨t135, A20, H⟩ := H
  replace H : (if t135 ≥ 1 then (if t135 ≤ (wrap64 (1 + (Int.tmod (wrap64 (a0)) 500))) then (if (wrap64 (2 * t135)) > (wrap64 (1 + (Int.tmod (wrap64 (a0)) 500))) then (if (wrap64 (2 * (wrap64 (t135 - 1)))) ≤ (wrap64 (1 + (Int.tmod (wrap64 (a0)) 500))) then ((funicularlaw14_works.f k).bind fun t136 => (some t136)) else (some false)) else (some false)) else (some false)) else (some false)) = some r := H
  have A2 := Aside0.mk A20
  clear A20
  by_cases c3 : t135 ≥ 1
  · rw [if_pos c3] at H
    have c3b0 : decide (1 ≤ t135) = true := decide_eq_true c3
    clear c3
    by_cases c4 : t135 ≤ (wrap64 (1 + (Int.tmod (wrap64 (a0)) 500)))
    · rw [if_pos c4] at H
      have c4b0 : decide (t135 ≤ (wrap64 (1 + (Int.tmod (wrap64 (a0)) 500)))) = true := decide_eq_true c4
      clear c4
      by_cases c5 : (wrap64 (2 * t135)) > (wrap64 (1 + (Int.tmod (wrap64 (a0)) 500)))
      · rw [if_pos c5] at H
        have c5b0 : decide ((wrap64 (1 + (Int.tmod (wrap64 (a0)) 500))) < (wrap64 (2 * t135))) = true := decide_eq_true c5
        clear c5
        by_cases c6 : (wrap64 (2 * (wrap64 (t135 - 1)))) ≤ (wrap64 (1 + (Int.tmod (wrap64 (a0)) 500)))
        · rw [if_pos c6] at H
          have c6b0 : decide ((wrap64 (2 * (wrap64 (t135 - 1)))) ≤ (wrap64 (1 + (Int.tmod (wrap64 (a0)) 500)))) = true := decide_eq_true c6
          clear c6
          replace H := Option.bind_eq_some_iff.mp H
          obtain ⟨t136, A70, H⟩ := H
          replace H : (some t136) = some r := H
          have A7 := Aside0.mk A70
          clear A70
          obtain rfl := Option.some.inj H
          go_enter Try.func7, Try.ntmps7
          go_wp2_with (first | ((with_reducible refine gate_callee (f := 9) rfl ?_); refine goesL_ (some 10) rfl rfl Try.func9 (by kernel_rfl) rfl #[.int .i64 (wrap64 (1 + (Int.tmod (wrap64 (a0)) 500)))] rfl (by (try simp only [List.map_toArray, List.map_cons, List.map_nil]); first | done | rfl | (simp only [List.length_drop, List.length_take]; rfl)) ?_; (with_reducible refine (quorum_Enough.calls (wrap64 (1 + (Int.tmod (wrap64 (a0)) 500))) t135 _ A2.out).mono ?_); rintro e w' ⟨rfl, ⟨nd, rfl⟩⟩; refine ⟨_, rfl, ?_⟩) | (go_at_call 8; (with_reducible refine (funicularlaw14_works.calls k  t136 _ A7.out).mono ?_); rintro e w8 ⟨rfl, hb⟩; have n0_ := Aside0.mk (below_step (by repeat (first | (with_reducible first | exact HB.out | apply below_alloc | apply pw_below_drewN | apply below_drew1) | exact HB.out)) hb); clear HB; have HB := n0_; clear n0_; (try clear hb); (try clear hb2); (try clear hk); (try clear hi)))
          go_ret
          exact ⟨by first | rfl | (simp [errW_none, errW_some] <;> rfl) | (simp [*, errW_none, errW_some] <;> rfl), by repeat (first | (with_reducible first | exact HB.out | apply below_alloc | apply pw_below_drewN | apply below_drew1) | exact HB.out)⟩
        · rw [if_neg c6] at H
          have c6b0 : decide ((wrap64 (2 * (wrap64 (t135 - 1)))) ≤ (wrap64 (1 + (Int.tmod (wrap64 (a0)) 500)))) = false := decide_eq_false c6
          clear c6
          obtain rfl := Option.some.inj H
          go_enter Try.func7, Try.ntmps7
          go_wp2_with (first | ((with_reducible refine gate_callee (f := 9) rfl ?_); refine goesL_ (some 10) rfl rfl Try.func9 (by kernel_rfl) rfl #[.int .i64 (wrap64 (1 + (Int.tmod (wrap64 (a0)) 500)))] rfl (by (try simp only [List.map_toArray, List.map_cons, List.map_nil]); first | done | rfl | (simp only [List.length_drop, List.length_take]; rfl)) ?_; (with_reducible refine (quorum_Enough.calls (wrap64 (1 + (Int.tmod (wrap64 (a0)) 500))) t135 _ A2.out).mono ?_); rintro e w' ⟨rfl, ⟨nd, rfl⟩⟩; refine ⟨_, rfl, ?_⟩))
          go_ret
          exact ⟨by first | rfl | (simp [errW_none, errW_some] <;> rfl) | (simp [*, errW_none, errW_some] <;> rfl), by repeat (first | (with_reducible first | exact HB.out | apply below_alloc | apply pw_below_drewN | apply below_drew1) | exact HB.out)⟩
      · rw [if_neg c5] at H
        have c5b0 : decide ((wrap64 (1 + (Int.tmod (wrap64 (a0)) 500))) < (wrap64 (2 * t135))) = false := decide_eq_false c5
        clear c5
        obtain rfl := Option.some.inj H
        go_enter Try.func7, Try.ntmps7
        go_wp2_with (first | ((with_reducible refine gate_callee (f := 9) rfl ?_); refine goesL_ (some 10) rfl rfl Try.func9 (by kernel_rfl) rfl #[.int .i64 (wrap64 (1 + (Int.tmod (wrap64 (a0)) 500)))] rfl (by (try simp only [List.map_toArray, List.map_cons, List.map_nil]); first | done | rfl | (simp only [List.length_drop, List.length_take]; rfl)) ?_; (with_reducible refine (quorum_Enough.calls (wrap64 (1 + (Int.tmod (wrap64 (a0)) 500))) t135 _ A2.out).mono ?_); rintro e w' ⟨rfl, ⟨nd, rfl⟩⟩; refine ⟨_, rfl, ?_⟩))
        go_ret
        exact ⟨by first | rfl | (simp [errW_none, errW_some] <;> rfl) | (simp [*, errW_none, errW_some] <;> rfl), by repeat (first | (with_reducible first | exact HB.out | apply below_alloc | apply pw_below_drewN | apply below_drew1) | exact HB.out)⟩
    · rw [if_neg c4] at H
      have c4b0 : decide (t135 ≤ (wrap64 (1 + (Int.tmod (wrap64 (a0)) 500)))) = false := decide_eq_false c4
      clear c4
      obtain rfl := Option.some.inj H
      go_enter Try.func7, Try.ntmps7
      go_wp2_with (first | ((with_reducible refine gate_callee (f := 9) rfl ?_); refine goesL_ (some 10) rfl rfl Try.func9 (by kernel_rfl) rfl #[.int .i64 (wrap64 (1 + (Int.tmod (wrap64 (a0)) 500)))] rfl (by (try simp only [List.map_toArray, List.map_cons, List.map_nil]); first | done | rfl | (simp only [List.length_drop, List.length_take]; rfl)) ?_; (with_reducible refine (quorum_Enough.calls (wrap64 (1 + (Int.tmod (wrap64 (a0)) 500))) t135 _ A2.out).mono ?_); rintro e w' ⟨rfl, ⟨nd, rfl⟩⟩; refine ⟨_, rfl, ?_⟩))
      go_ret
      exact ⟨by first | rfl | (simp [errW_none, errW_some] <;> rfl) | (simp [*, errW_none, errW_some] <;> rfl), by repeat (first | (with_reducible first | exact HB.out | apply below_alloc | apply pw_below_drewN | apply below_drew1) | exact HB.out)⟩
  · rw [if_neg c3] at H
    have c3b0 : decide (1 ≤ t135) = false := decide_eq_false c3
    clear c3
    obtain rfl := Option.some.inj H
    go_enter Try.func7, Try.ntmps7
    go_wp2_with (first | ((with_reducible refine gate_callee (f := 9) rfl ?_); refine goesL_ (some 10) rfl rfl Try.func9 (by kernel_rfl) rfl #[.int .i64 (wrap64 (1 + (Int.tmod (wrap64 (a0)) 500)))] rfl (by (try simp only [List.map_toArray, List.map_cons, List.map_nil]); first | done | rfl | (simp only [List.length_drop, List.length_take]; rfl)) ?_; (with_reducible refine (quorum_Enough.calls (wrap64 (1 + (Int.tmod (wrap64 (a0)) 500))) t135 _ A2.out).mono ?_); rintro e w' ⟨rfl, ⟨nd, rfl⟩⟩; refine ⟨_, rfl, ?_⟩))
    go_ret
    exact ⟨by first | rfl | (simp [errW_none, errW_some] <;> rfl) | (simp [*, errW_none, errW_some] <;> rfl), by repeat (first | (with_reducible first | exact HB.out | apply below_alloc | apply pw_below_drewN | apply below_drew1) | exact HB.out)⟩

/-- THE ONE PURE STATEMENT of funicularlaw14_QuorumLeast: yours. -/
def funicularlaw14_QuorumLeast.Pure : Prop := ∀ (a0 : Int), (Lit.int .u16 a0).wf = true → ∃ k, funicularlaw14_QuorumLeast.f k a0 = some true
theorem funicularlaw14_QuorumLeast.walk (P : funicularlaw14_QuorumLeast.Pure) (a0 : Int) (w : World) (w0 : (Lit.int .u16 a0).wf = true) :
    Calls Try.prog 7 #[.int .u16 a0] w fun e w' => e = .returned (.bool true) ∧ Below w.heap.size w w' := by
  obtain ⟨k, h⟩ := P a0 w0
  refine (funicularlaw14_QuorumLeast.calls k a0 true w h).mono ?_
  rintro e w' ⟨rfl, hd⟩
  exact ⟨rfl, hd⟩

end Go.Proofs.Ytcmjdkfndlejcaa.PQuorumLeast
