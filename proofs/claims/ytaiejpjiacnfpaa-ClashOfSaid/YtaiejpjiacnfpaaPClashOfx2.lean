-- PRINTED BY print.sh 35421559b90ae4d0a3588c463048766b98c2df88dd9212a6774a882060cdf62d: not written by this session
import Derived.Test.YtaiejpjiacnfpaaPClashOfx0
import Derived.Test.YtaiejpjiacnfpaaPClashOfx1
namespace Go.Proofs.Ytaiejpjiacnfpaa.PClashOf
open Go.RowKit Go.Proofs.YtaiejpjiacnfpaaW.PrintWords Go.Proofs.YtaiejpjiacnfpaaW.PrintLast Go.Proofs.YtaiejpjiacnfpaaW.PrintMore
attribute [local go_sem] max2_int min2_int max_two min_two max_three min_three max_four min_four   -- for this text's walks alone
set_option linter.unusedVariables false
set_option linter.unusedSimpArgs false

/-! ### cardexlaw21_lives: function 17 -/
def cardexlaw21_lives.f (k : Nat)  : Option (Bool) := (clash_Of.f k 2 false 0 true 0 0).bind fun t101 => (if t101 = 1 then ((clash_Of.f k 2 true 5 true 5 0).bind fun t102 => (if t102 = 2 then ((clash_Of.f k 2 true 5 true 7 0).bind fun t103 => (if t103 = 4 then ((clash_Of.f k 2 true 5 true 7 1).bind fun t104 => (if t104 = 3 then ((clash_Of.f k 3 true 5 false 0 0).bind fun t105 => (if t105 = 5 then ((clash_Of.f k 1 true 5 true 5 0).bind fun t106 => (if t106 = 0 then ((clash_Status.f 4).bind fun t107 => (some (t107 == 7))) else (some false))) else (some false))) else (some false))) else (some false))) else (some false))) else (some false))
theorem cardexlaw21_lives.mono : ∀ k, LeO (cardexlaw21_lives.f k ) (cardexlaw21_lives.f (k + 1) ) := by
  intro  k
  unfold cardexlaw21_lives.f
  repeat' first
      | (with_reducible exact clash_Of.mono _ _ _ _ _ _ _)
      | (with_reducible exact LeO.refl _)
      | (with_reducible exact LeO.none _)
      | (with_reducible refine LeO.ite ?_ ?_)
      | (with_reducible refine LeO.bind ?_ (fun _ => ?_))
      | exact clash_Of.mono _ _ _ _ _ _ _
      | exact LeO.none _
      | refine LeO.ite ?_ ?_
      | refine LeO.bind ?_ (fun _ => ?_)
set_option maxHeartbeats 8000000 in
set_option maxRecDepth 100000 in
theorem cardexlaw21_lives.calls (k : Nat)  (r : Bool) (w : World) (h : cardexlaw21_lives.f k  = some r) :
    Calls Try.prog 17 #[] w fun e w' => e = .returned (.bool r) ∧ Drawn0 w w' := by
  have H : ((clash_Of.f k 2 false 0 true 0 0).bind fun t101 => (if t101 = 1 then ((clash_Of.f k 2 true 5 true 5 0).bind fun t102 => (if t102 = 2 then ((clash_Of.f k 2 true 5 true 7 0).bind fun t103 => (if t103 = 4 then ((clash_Of.f k 2 true 5 true 7 1).bind fun t104 => (if t104 = 3 then ((clash_Of.f k 3 true 5 false 0 0).bind fun t105 => (if t105 = 5 then ((clash_Of.f k 1 true 5 true 5 0).bind fun t106 => (if t106 = 0 then ((clash_Status.f 4).bind fun t107 => (some (t107 == 7))) else (some false))) else (some false))) else (some false))) else (some false))) else (some false))) else (some false))) = some r := h
  clear h
  replace H := Option.bind_eq_some_iff.mp H
  obtain ⟨t101, A10, H⟩ := H
  replace H : (if t101 = 1 then ((clash_Of.f k 2 true 5 true 5 0).bind fun t102 => (if t102 = 2 then ((clash_Of.f k 2 true 5 true 7 0).bind fun t103 => (if t103 = 4 then ((clash_Of.f k 2 true 5 true 7 1).bind fun t104 => (if t104 = 3 then ((clash_Of.f k 3 true 5 false 0 0).bind fun t105 => (if t105 = 5 then ((clash_Of.f k 1 true 5 true 5 0).bind fun t106 => (if t106 = 0 then ((clash_Status.f 4).bind fun t107 => (some (t107 == 7))) else (some false))) else (some false))) else (some false))) else (some false))) else (some false))) else (some false)) = some r := H
  have A1 := Aside0.mk A10
  clear A10
  by_cases c2 : t101 = 1
  · rw [if_pos c2] at H
    have c2b0 : (t101 == 1) = true := beq_iff_eq.mpr c2
    have c2b1 : (t101 != 1) = false := bne_eq_false_iff_eq.mpr c2
    clear c2
    replace H := Option.bind_eq_some_iff.mp H
    obtain ⟨t102, A30, H⟩ := H
    replace H : (if t102 = 2 then ((clash_Of.f k 2 true 5 true 7 0).bind fun t103 => (if t103 = 4 then ((clash_Of.f k 2 true 5 true 7 1).bind fun t104 => (if t104 = 3 then ((clash_Of.f k 3 true 5 false 0 0).bind fun t105 => (if t105 = 5 then ((clash_Of.f k 1 true 5 true 5 0).bind fun t106 => (if t106 = 0 then ((clash_Status.f 4).bind fun t107 => (some (t107 == 7))) else (some false))) else (some false))) else (some false))) else (some false))) else (some false)) = some r := H
    have A3 := Aside0.mk A30
    clear A30
    by_cases c4 : t102 = 2
    · rw [if_pos c4] at H
      have c4b0 : (t102 == 2) = true := beq_iff_eq.mpr c4
      have c4b1 : (t102 != 2) = false := bne_eq_false_iff_eq.mpr c4
      clear c4
      replace H := Option.bind_eq_some_iff.mp H
      obtain ⟨t103, A50, H⟩ := H
      replace H : (if t103 = 4 then ((clash_Of.f k 2 true 5 true 7 1).bind fun t104 => (if t104 = 3 then ((clash_Of.f k 3 true 5 false 0 0).bind fun t105 => (if t105 = 5 then ((clash_Of.f k 1 true 5 true 5 0).bind fun t106 => (if t106 = 0 then ((clash_Status.f 4).bind fun t107 => (some (t107 == 7))) else (some false))) else (some false))) else (some false))) else (some false)) = some r := H
      have A5 := Aside0.mk A50
      clear A50
      by_cases c6 : t103 = 4
      · rw [if_pos c6] at H
        have c6b0 : (t103 == 4) = true := beq_iff_eq.mpr c6
        have c6b1 : (t103 != 4) = false := bne_eq_false_iff_eq.mpr c6
        clear c6
        replace H := Option.bind_eq_some_iff.mp H
        obtain ⟨t104, A70, H⟩ := H
        replace H : (if t104 = 3 then ((clash_Of.f k 3 true 5 false 0 0).bind fun t105 => (if t105 = 5 then ((clash_Of.f k 1 true 5 true 5 0).bind fun t106 => (if t106 = 0 then ((clash_Status.f 4).bind fun t107 => (some (t107 == 7))) else (some false))) else (some false))) else (some false)) = some r := H
        have A7 := Aside0.mk A70
        clear A70
        by_cases c8 : t104 = 3
        · rw [if_pos c8] at H
          have c8b0 : (t104 == 3) = true := beq_iff_eq.mpr c8
          have c8b1 : (t104 != 3) = false := bne_eq_false_iff_eq.mpr c8
          clear c8
          replace H := Option.bind_eq_some_iff.mp H
          obtain ⟨t105, A90, H⟩ := H
          replace H : (if t105 = 5 then ((clash_Of.f k 1 true 5 true 5 0).bind fun t106 => (if t106 = 0 then ((clash_Status.f 4).bind fun t107 => (some (t107 == 7))) else (some false))) else (some false)) = some r := H
          have A9 := Aside0.mk A90
          clear A90
          by_cases c10 : t105 = 5
          · rw [if_pos c10] at H
            have c10b0 : (t105 == 5) = true := beq_iff_eq.mpr c10
            have c10b1 : (t105 != 5) = false := bne_eq_false_iff_eq.mpr c10
            clear c10
            replace H := Option.bind_eq_some_iff.mp H
            obtain ⟨t106, A110, H⟩ := H
            replace H : (if t106 = 0 then ((clash_Status.f 4).bind fun t107 => (some (t107 == 7))) else (some false)) = some r := H
            have A11 := Aside0.mk A110
            clear A110
            by_cases c12 : t106 = 0
            · rw [if_pos c12] at H
              have c12b0 : (t106 == 0) = true := beq_iff_eq.mpr c12
              have c12b1 : (t106 != 0) = false := bne_eq_false_iff_eq.mpr c12
              clear c12
              replace H := Option.bind_eq_some_iff.mp H
              obtain ⟨t107, A130, H⟩ := H
              replace H : (some (t107 == 7)) = some r := H
              have A13 := Aside0.mk A130
              clear A130
              obtain rfl := Option.some.inj H
              go_enter Try.func17, Try.ntmps17
              go_wp2_with (first | ((with_reducible refine gate_callee (f := 13) rfl ?_); refine goesL_ (some 1) rfl rfl Try.func13 (by kernel_rfl) rfl #[.int .u8 2, .bool false, .int .u64 0, .bool true, .int .u64 0, .int .u8 0] rfl (by (try simp only [List.map_toArray, List.map_cons, List.map_nil]); first | done | rfl | (simp only [List.length_drop, List.length_take]; rfl)) ?_; (with_reducible refine (clash_Of.calls k 2 false 0 true 0 0 t101 _ A1.out).mono ?_); rintro e w' ⟨rfl, ⟨nd, rfl⟩⟩; refine ⟨_, rfl, ?_⟩) | (go_at_call 13; (with_reducible refine (clash_Of.calls k 2 true 5 true 5 0 t102 _ A3.out).mono ?_); rintro e w' ⟨rfl, ⟨nd, rfl⟩⟩) | (go_at_call 13; (with_reducible refine (clash_Of.calls k 2 true 5 true 7 0 t103 _ A5.out).mono ?_); rintro e w' ⟨rfl, ⟨nd, rfl⟩⟩) | (go_at_call 13; (with_reducible refine (clash_Of.calls k 2 true 5 true 7 1 t104 _ A7.out).mono ?_); rintro e w' ⟨rfl, ⟨nd, rfl⟩⟩) | (go_at_call 13; (with_reducible refine (clash_Of.calls k 3 true 5 false 0 0 t105 _ A9.out).mono ?_); rintro e w' ⟨rfl, ⟨nd, rfl⟩⟩) | (go_at_call 13; (with_reducible refine (clash_Of.calls k 1 true 5 true 5 0 t106 _ A11.out).mono ?_); rintro e w' ⟨rfl, ⟨nd, rfl⟩⟩) | (go_at_call 15; (with_reducible refine (clash_Status.calls 4 t107 _ A13.out).mono ?_); rintro e w' ⟨rfl, ⟨nd, rfl⟩⟩))
              go_ret
              exact ⟨by first | rfl | (simp; done) | (simp [*]; done), by repeat (first | exact Drawn0.refl _ | apply Drawn0.step)⟩
            · rw [if_neg c12] at H
              have c12b0 : (t106 == 0) = false := beq_eq_false_iff_ne.mpr c12
              have c12b1 : (t106 != 0) = true := bne_iff_ne.mpr c12
              obtain rfl := Option.some.inj H
              go_enter Try.func17, Try.ntmps17
              go_wp2_with (first | ((with_reducible refine gate_callee (f := 13) rfl ?_); refine goesL_ (some 1) rfl rfl Try.func13 (by kernel_rfl) rfl #[.int .u8 2, .bool false, .int .u64 0, .bool true, .int .u64 0, .int .u8 0] rfl (by (try simp only [List.map_toArray, List.map_cons, List.map_nil]); first | done | rfl | (simp only [List.length_drop, List.length_take]; rfl)) ?_; (with_reducible refine (clash_Of.calls k 2 false 0 true 0 0 t101 _ A1.out).mono ?_); rintro e w' ⟨rfl, ⟨nd, rfl⟩⟩; refine ⟨_, rfl, ?_⟩) | (go_at_call 13; (with_reducible refine (clash_Of.calls k 2 true 5 true 5 0 t102 _ A3.out).mono ?_); rintro e w' ⟨rfl, ⟨nd, rfl⟩⟩) | (go_at_call 13; (with_reducible refine (clash_Of.calls k 2 true 5 true 7 0 t103 _ A5.out).mono ?_); rintro e w' ⟨rfl, ⟨nd, rfl⟩⟩) | (go_at_call 13; (with_reducible refine (clash_Of.calls k 2 true 5 true 7 1 t104 _ A7.out).mono ?_); rintro e w' ⟨rfl, ⟨nd, rfl⟩⟩) | (go_at_call 13; (with_reducible refine (clash_Of.calls k 3 true 5 false 0 0 t105 _ A9.out).mono ?_); rintro e w' ⟨rfl, ⟨nd, rfl⟩⟩) | (go_at_call 13; (with_reducible refine (clash_Of.calls k 1 true 5 true 5 0 t106 _ A11.out).mono ?_); rintro e w' ⟨rfl, ⟨nd, rfl⟩⟩))
              go_ret
              exact ⟨by first | rfl | (simp; done) | (simp [*]; done), by repeat (first | exact Drawn0.refl _ | apply Drawn0.step)⟩
          · rw [if_neg c10] at H
            have c10b0 : (t105 == 5) = false := beq_eq_false_iff_ne.mpr c10
            have c10b1 : (t105 != 5) = true := bne_iff_ne.mpr c10
            obtain rfl := Option.some.inj H
            go_enter Try.func17, Try.ntmps17
            go_wp2_with (first | ((with_reducible refine gate_callee (f := 13) rfl ?_); refine goesL_ (some 1) rfl rfl Try.func13 (by kernel_rfl) rfl #[.int .u8 2, .bool false, .int .u64 0, .bool true, .int .u64 0, .int .u8 0] rfl (by (try simp only [List.map_toArray, List.map_cons, List.map_nil]); first | done | rfl | (simp only [List.length_drop, List.length_take]; rfl)) ?_; (with_reducible refine (clash_Of.calls k 2 false 0 true 0 0 t101 _ A1.out).mono ?_); rintro e w' ⟨rfl, ⟨nd, rfl⟩⟩; refine ⟨_, rfl, ?_⟩) | (go_at_call 13; (with_reducible refine (clash_Of.calls k 2 true 5 true 5 0 t102 _ A3.out).mono ?_); rintro e w' ⟨rfl, ⟨nd, rfl⟩⟩) | (go_at_call 13; (with_reducible refine (clash_Of.calls k 2 true 5 true 7 0 t103 _ A5.out).mono ?_); rintro e w' ⟨rfl, ⟨nd, rfl⟩⟩) | (go_at_call 13; (with_reducible refine (clash_Of.calls k 2 true 5 true 7 1 t104 _ A7.out).mono ?_); rintro e w' ⟨rfl, ⟨nd, rfl⟩⟩) | (go_at_call 13; (with_reducible refine (clash_Of.calls k 3 true 5 false 0 0 t105 _ A9.out).mono ?_); rintro e w' ⟨rfl, ⟨nd, rfl⟩⟩))
            go_ret
            exact ⟨by first | rfl | (simp; done) | (simp [*]; done), by repeat (first | exact Drawn0.refl _ | apply Drawn0.step)⟩
        · rw [if_neg c8] at H
          have c8b0 : (t104 == 3) = false := beq_eq_false_iff_ne.mpr c8
          have c8b1 : (t104 != 3) = true := bne_iff_ne.mpr c8
          obtain rfl := Option.some.inj H
          go_enter Try.func17, Try.ntmps17
          go_wp2_with (first | ((with_reducible refine gate_callee (f := 13) rfl ?_); refine goesL_ (some 1) rfl rfl Try.func13 (by kernel_rfl) rfl #[.int .u8 2, .bool false, .int .u64 0, .bool true, .int .u64 0, .int .u8 0] rfl (by (try simp only [List.map_toArray, List.map_cons, List.map_nil]); first | done | rfl | (simp only [List.length_drop, List.length_take]; rfl)) ?_; (with_reducible refine (clash_Of.calls k 2 false 0 true 0 0 t101 _ A1.out).mono ?_); rintro e w' ⟨rfl, ⟨nd, rfl⟩⟩; refine ⟨_, rfl, ?_⟩) | (go_at_call 13; (with_reducible refine (clash_Of.calls k 2 true 5 true 5 0 t102 _ A3.out).mono ?_); rintro e w' ⟨rfl, ⟨nd, rfl⟩⟩) | (go_at_call 13; (with_reducible refine (clash_Of.calls k 2 true 5 true 7 0 t103 _ A5.out).mono ?_); rintro e w' ⟨rfl, ⟨nd, rfl⟩⟩) | (go_at_call 13; (with_reducible refine (clash_Of.calls k 2 true 5 true 7 1 t104 _ A7.out).mono ?_); rintro e w' ⟨rfl, ⟨nd, rfl⟩⟩))
          go_ret
          exact ⟨by first | rfl | (simp; done) | (simp [*]; done), by repeat (first | exact Drawn0.refl _ | apply Drawn0.step)⟩
      · rw [if_neg c6] at H
        have c6b0 : (t103 == 4) = false := beq_eq_false_iff_ne.mpr c6
        have c6b1 : (t103 != 4) = true := bne_iff_ne.mpr c6
        obtain rfl := Option.some.inj H
        go_enter Try.func17, Try.ntmps17
        go_wp2_with (first | ((with_reducible refine gate_callee (f := 13) rfl ?_); refine goesL_ (some 1) rfl rfl Try.func13 (by kernel_rfl) rfl #[.int .u8 2, .bool false, .int .u64 0, .bool true, .int .u64 0, .int .u8 0] rfl (by (try simp only [List.map_toArray, List.map_cons, List.map_nil]); first | done | rfl | (simp only [List.length_drop, List.length_take]; rfl)) ?_; (with_reducible refine (clash_Of.calls k 2 false 0 true 0 0 t101 _ A1.out).mono ?_); rintro e w' ⟨rfl, ⟨nd, rfl⟩⟩; refine ⟨_, rfl, ?_⟩) | (go_at_call 13; (with_reducible refine (clash_Of.calls k 2 true 5 true 5 0 t102 _ A3.out).mono ?_); rintro e w' ⟨rfl, ⟨nd, rfl⟩⟩) | (go_at_call 13; (with_reducible refine (clash_Of.calls k 2 true 5 true 7 0 t103 _ A5.out).mono ?_); rintro e w' ⟨rfl, ⟨nd, rfl⟩⟩))
        go_ret
        exact ⟨by first | rfl | (simp; done) | (simp [*]; done), by repeat (first | exact Drawn0.refl _ | apply Drawn0.step)⟩
    · rw [if_neg c4] at H
      have c4b0 : (t102 == 2) = false := beq_eq_false_iff_ne.mpr c4
      have c4b1 : (t102 != 2) = true := bne_iff_ne.mpr c4
      obtain rfl := Option.some.inj H
      go_enter Try.func17, Try.ntmps17
      go_wp2_with (first | ((with_reducible refine gate_callee (f := 13) rfl ?_); refine goesL_ (some 1) rfl rfl Try.func13 (by kernel_rfl) rfl #[.int .u8 2, .bool false, .int .u64 0, .bool true, .int .u64 0, .int .u8 0] rfl (by (try simp only [List.map_toArray, List.map_cons, List.map_nil]); first | done | rfl | (simp only [List.length_drop, List.length_take]; rfl)) ?_; (with_reducible refine (clash_Of.calls k 2 false 0 true 0 0 t101 _ A1.out).mono ?_); rintro e w' ⟨rfl, ⟨nd, rfl⟩⟩; refine ⟨_, rfl, ?_⟩) | (go_at_call 13; (with_reducible refine (clash_Of.calls k 2 true 5 true 5 0 t102 _ A3.out).mono ?_); rintro e w' ⟨rfl, ⟨nd, rfl⟩⟩))
      go_ret
      exact ⟨by first | rfl | (simp; done) | (simp [*]; done), by repeat (first | exact Drawn0.refl _ | apply Drawn0.step)⟩
  · rw [if_neg c2] at H
    have c2b0 : (t101 == 1) = false := beq_eq_false_iff_ne.mpr c2
    have c2b1 : (t101 != 1) = true := bne_iff_ne.mpr c2
    obtain rfl := Option.some.inj H
    go_enter Try.func17, Try.ntmps17
    go_wp2_with (first | ((with_reducible refine gate_callee (f := 13) rfl ?_); refine goesL_ (some 1) rfl rfl Try.func13 (by kernel_rfl) rfl #[.int .u8 2, .bool false, .int .u64 0, .bool true, .int .u64 0, .int .u8 0] rfl (by (try simp only [List.map_toArray, List.map_cons, List.map_nil]); first | done | rfl | (simp only [List.length_drop, List.length_take]; rfl)) ?_; (with_reducible refine (clash_Of.calls k 2 false 0 true 0 0 t101 _ A1.out).mono ?_); rintro e w' ⟨rfl, ⟨nd, rfl⟩⟩; refine ⟨_, rfl, ?_⟩))
    go_ret
    exact ⟨by first | rfl | (simp; done) | (simp [*]; done), by repeat (first | exact Drawn0.refl _ | apply Drawn0.step)⟩

/-! ### cardexlaw21_ClashOf: function 6 -/
def cardexlaw21_ClashOf.f (k : Nat) (a0 : Int) (a1 : Bool) (a2 : Int) (a3 : Bool) (a4 : Int) (a5 : Int) (a6 : Int) : Option (Bool) := (clash_Of.f k a0 a1 a2 a3 a4 a5).bind fun t108 => ((cardexref21_Of.f k a0 a1 a2 a3 a4 a5).bind fun t109 => (if t108 = t109 then ((clash_Status.f a6).bind fun t110 => ((cardexref21_Status.f a6).bind fun t111 => (if t110 = t111 then ((cardexlaw21_lives.f k).bind fun t112 => (some t112)) else (some false)))) else (some false)))
theorem cardexlaw21_ClashOf.mono : ∀ a0 a1 a2 a3 a4 a5 a6 k, LeO (cardexlaw21_ClashOf.f k a0 a1 a2 a3 a4 a5 a6) (cardexlaw21_ClashOf.f (k + 1) a0 a1 a2 a3 a4 a5 a6) := by
  intro a0 a1 a2 a3 a4 a5 a6 k
  unfold cardexlaw21_ClashOf.f
  repeat' first
      | (with_reducible exact cardexlaw21_lives.mono _)
      | (with_reducible exact cardexref21_Of.mono _ _ _ _ _ _ _)
      | (with_reducible exact clash_Of.mono _ _ _ _ _ _ _)
      | (with_reducible exact LeO.refl _)
      | (with_reducible exact LeO.none _)
      | (with_reducible refine LeO.ite ?_ ?_)
      | (with_reducible refine LeO.bind ?_ (fun _ => ?_))
      | exact cardexlaw21_lives.mono _
      | exact cardexref21_Of.mono _ _ _ _ _ _ _
      | exact clash_Of.mono _ _ _ _ _ _ _
      | exact LeO.none _
      | refine LeO.ite ?_ ?_
      | refine LeO.bind ?_ (fun _ => ?_)
set_option maxHeartbeats 8000000 in
set_option maxRecDepth 100000 in
theorem cardexlaw21_ClashOf.calls (k : Nat) (a0 : Int) (a1 : Bool) (a2 : Int) (a3 : Bool) (a4 : Int) (a5 : Int) (a6 : Int) (r : Bool) (w : World) (h : cardexlaw21_ClashOf.f k a0 a1 a2 a3 a4 a5 a6 = some r) :
    Calls Try.prog 6 #[.int .u8 a0, .bool a1, .int .u64 a2, .bool a3, .int .u64 a4, .int .u8 a5, .int .u8 a6] w fun e w' => e = .returned (.bool r) ∧ Drawn0 w w' := by
  have H : ((clash_Of.f k a0 a1 a2 a3 a4 a5).bind fun t108 => ((cardexref21_Of.f k a0 a1 a2 a3 a4 a5).bind fun t109 => (if t108 = t109 then ((clash_Status.f a6).bind fun t110 => ((cardexref21_Status.f a6).bind fun t111 => (if t110 = t111 then ((cardexlaw21_lives.f k).bind fun t112 => (some t112)) else (some false)))) else (some false)))) = some r := h
  clear h
  replace H := Option.bind_eq_some_iff.mp H
  obtain ⟨t108, A80, H⟩ := H
  replace H : ((cardexref21_Of.f k a0 a1 a2 a3 a4 a5).bind fun t109 => (if t108 = t109 then ((clash_Status.f a6).bind fun t110 => ((cardexref21_Status.f a6).bind fun t111 => (if t110 = t111 then ((cardexlaw21_lives.f k).bind fun t112 => (some t112)) else (some false)))) else (some false))) = some r := H
  have A8 := Aside0.mk A80
  clear A80
  replace H := Option.bind_eq_some_iff.mp H
  obtain ⟨t109, A90, H⟩ := H
  replace H : (if t108 = t109 then ((clash_Status.f a6).bind fun t110 => ((cardexref21_Status.f a6).bind fun t111 => (if t110 = t111 then ((cardexlaw21_lives.f k).bind fun t112 => (some t112)) else (some false)))) else (some false)) = some r := H
  have A9 := Aside0.mk A90
  clear A90
  by_cases c10 : t108 = t109
  · rw [if_pos c10] at H
    have c10b0 : (t108 == t109) = true := beq_iff_eq.mpr c10
    have c10b1 : (t108 != t109) = false := bne_eq_false_iff_eq.mpr c10
    clear c10
    replace H := Option.bind_eq_some_iff.mp H
    obtain ⟨t110, A110, H⟩ := H
    replace H : ((cardexref21_Status.f a6).bind fun t111 => (if t110 = t111 then ((cardexlaw21_lives.f k).bind fun t112 => (some t112)) else (some false))) = some r := H
    have A11 := Aside0.mk A110
    clear A110
    replace H := Option.bind_eq_some_iff.mp H
    obtain ⟨t111, A120, H⟩ := H
    replace H : (if t110 = t111 then ((cardexlaw21_lives.f k).bind fun t112 => (some t112)) else (some false)) = some r := H
    have A12 := Aside0.mk A120
    clear A120
    by_cases c13 : t110 = t111
    · rw [if_pos c13] at H
      have c13b0 : (t110 == t111) = true := beq_iff_eq.mpr c13
      have c13b1 : (t110 != t111) = false := bne_eq_false_iff_eq.mpr c13
      clear c13
      replace H := Option.bind_eq_some_iff.mp H
      obtain ⟨t112, A140, H⟩ := H
      replace H : (some t112) = some r := H
      have A14 := Aside0.mk A140
      clear A140
      obtain rfl := Option.some.inj H
      go_enter Try.func6, Try.ntmps6
      go_wp2_with (first | ((with_reducible refine gate_callee (f := 13) rfl ?_); refine goesL_ (some 21) rfl rfl Try.func13 (by kernel_rfl) rfl #[.int .u8 a0, .bool a1, .int .u64 a2, .bool a3, .int .u64 a4, .int .u8 a5] rfl (by (try simp only [List.map_toArray, List.map_cons, List.map_nil]); first | done | rfl | (simp only [List.length_drop, List.length_take]; rfl)) ?_; (with_reducible refine (clash_Of.calls k a0 a1 a2 a3 a4 a5 t108 _ A8.out).mono ?_); rintro e w' ⟨rfl, ⟨nd, rfl⟩⟩; refine ⟨_, rfl, ?_⟩) | ((with_reducible refine gate_callee (f := 14) rfl ?_); refine goesL_ (some 28) rfl rfl Try.func14 (by kernel_rfl) rfl #[.int .u8 a0, .bool a1, .int .u64 a2, .bool a3, .int .u64 a4, .int .u8 a5] rfl (by (try simp only [List.map_toArray, List.map_cons, List.map_nil]); first | done | rfl | (simp only [List.length_drop, List.length_take]; rfl)) ?_; (with_reducible refine (cardexref21_Of.calls k a0 a1 a2 a3 a4 a5 t109 _ A9.out).mono ?_); rintro e w' ⟨rfl, ⟨nd, rfl⟩⟩; refine ⟨_, rfl, ?_⟩) | (go_at_call 15; (with_reducible refine (clash_Status.calls a6 t110 _ A11.out).mono ?_); rintro e w' ⟨rfl, ⟨nd, rfl⟩⟩) | (go_at_call 16; (with_reducible refine (cardexref21_Status.calls a6 t111 _ A12.out).mono ?_); rintro e w' ⟨rfl, ⟨nd, rfl⟩⟩) | (go_at_call 17; (with_reducible refine (cardexlaw21_lives.calls k  t112 _ A14.out).mono ?_); rintro e w' ⟨rfl, ⟨nd, rfl⟩⟩))
      go_ret
      exact ⟨by first | rfl | (simp; done) | (simp [*]; done), by repeat (first | exact Drawn0.refl _ | apply Drawn0.step)⟩
    · rw [if_neg c13] at H
      have c13b0 : (t110 == t111) = false := beq_eq_false_iff_ne.mpr c13
      have c13b1 : (t110 != t111) = true := bne_iff_ne.mpr c13
      obtain rfl := Option.some.inj H
      go_enter Try.func6, Try.ntmps6
      go_wp2_with (first | ((with_reducible refine gate_callee (f := 13) rfl ?_); refine goesL_ (some 21) rfl rfl Try.func13 (by kernel_rfl) rfl #[.int .u8 a0, .bool a1, .int .u64 a2, .bool a3, .int .u64 a4, .int .u8 a5] rfl (by (try simp only [List.map_toArray, List.map_cons, List.map_nil]); first | done | rfl | (simp only [List.length_drop, List.length_take]; rfl)) ?_; (with_reducible refine (clash_Of.calls k a0 a1 a2 a3 a4 a5 t108 _ A8.out).mono ?_); rintro e w' ⟨rfl, ⟨nd, rfl⟩⟩; refine ⟨_, rfl, ?_⟩) | ((with_reducible refine gate_callee (f := 14) rfl ?_); refine goesL_ (some 28) rfl rfl Try.func14 (by kernel_rfl) rfl #[.int .u8 a0, .bool a1, .int .u64 a2, .bool a3, .int .u64 a4, .int .u8 a5] rfl (by (try simp only [List.map_toArray, List.map_cons, List.map_nil]); first | done | rfl | (simp only [List.length_drop, List.length_take]; rfl)) ?_; (with_reducible refine (cardexref21_Of.calls k a0 a1 a2 a3 a4 a5 t109 _ A9.out).mono ?_); rintro e w' ⟨rfl, ⟨nd, rfl⟩⟩; refine ⟨_, rfl, ?_⟩) | (go_at_call 15; (with_reducible refine (clash_Status.calls a6 t110 _ A11.out).mono ?_); rintro e w' ⟨rfl, ⟨nd, rfl⟩⟩) | (go_at_call 16; (with_reducible refine (cardexref21_Status.calls a6 t111 _ A12.out).mono ?_); rintro e w' ⟨rfl, ⟨nd, rfl⟩⟩))
      go_ret
      exact ⟨by first | rfl | (simp; done) | (simp [*]; done), by repeat (first | exact Drawn0.refl _ | apply Drawn0.step)⟩
  · rw [if_neg c10] at H
    have c10b0 : (t108 == t109) = false := beq_eq_false_iff_ne.mpr c10
    have c10b1 : (t108 != t109) = true := bne_iff_ne.mpr c10
    obtain rfl := Option.some.inj H
    go_enter Try.func6, Try.ntmps6
    go_wp2_with (first | ((with_reducible refine gate_callee (f := 13) rfl ?_); refine goesL_ (some 21) rfl rfl Try.func13 (by kernel_rfl) rfl #[.int .u8 a0, .bool a1, .int .u64 a2, .bool a3, .int .u64 a4, .int .u8 a5] rfl (by (try simp only [List.map_toArray, List.map_cons, List.map_nil]); first | done | rfl | (simp only [List.length_drop, List.length_take]; rfl)) ?_; (with_reducible refine (clash_Of.calls k a0 a1 a2 a3 a4 a5 t108 _ A8.out).mono ?_); rintro e w' ⟨rfl, ⟨nd, rfl⟩⟩; refine ⟨_, rfl, ?_⟩) | ((with_reducible refine gate_callee (f := 14) rfl ?_); refine goesL_ (some 28) rfl rfl Try.func14 (by kernel_rfl) rfl #[.int .u8 a0, .bool a1, .int .u64 a2, .bool a3, .int .u64 a4, .int .u8 a5] rfl (by (try simp only [List.map_toArray, List.map_cons, List.map_nil]); first | done | rfl | (simp only [List.length_drop, List.length_take]; rfl)) ?_; (with_reducible refine (cardexref21_Of.calls k a0 a1 a2 a3 a4 a5 t109 _ A9.out).mono ?_); rintro e w' ⟨rfl, ⟨nd, rfl⟩⟩; refine ⟨_, rfl, ?_⟩))
    go_ret
    exact ⟨by first | rfl | (simp; done) | (simp [*]; done), by repeat (first | exact Drawn0.refl _ | apply Drawn0.step)⟩

/-- THE ONE PURE STATEMENT of cardexlaw21_ClashOf: yours. -/
def cardexlaw21_ClashOf.Pure : Prop := ∀ (a0 : Int) (a1 : Bool) (a2 : Int) (a3 : Bool) (a4 : Int) (a5 : Int) (a6 : Int), (Lit.int .u8 a0).wf = true → (Lit.int .u64 a2).wf = true → (Lit.int .u64 a4).wf = true → (Lit.int .u8 a5).wf = true → (Lit.int .u8 a6).wf = true → ∃ k, cardexlaw21_ClashOf.f k a0 a1 a2 a3 a4 a5 a6 = some true
theorem cardexlaw21_ClashOf.walk (P : cardexlaw21_ClashOf.Pure) (a0 : Int) (a1 : Bool) (a2 : Int) (a3 : Bool) (a4 : Int) (a5 : Int) (a6 : Int) (w : World) (w0 : (Lit.int .u8 a0).wf = true) (w2 : (Lit.int .u64 a2).wf = true) (w4 : (Lit.int .u64 a4).wf = true) (w5 : (Lit.int .u8 a5).wf = true) (w6 : (Lit.int .u8 a6).wf = true) :
    Calls Try.prog 6 #[.int .u8 a0, .bool a1, .int .u64 a2, .bool a3, .int .u64 a4, .int .u8 a5, .int .u8 a6] w fun e w' => e = .returned (.bool true) ∧ Below w.heap.size w w' := by
  obtain ⟨k, h⟩ := P a0 a1 a2 a3 a4 a5 a6 w0 w2 w4 w5 w6
  refine (cardexlaw21_ClashOf.calls k a0 a1 a2 a3 a4 a5 a6 true w h).mono ?_
  rintro e w' ⟨rfl, hd⟩
  exact ⟨rfl, hd.below⟩

end Go.Proofs.Ytaiejpjiacnfpaa.PClashOf
