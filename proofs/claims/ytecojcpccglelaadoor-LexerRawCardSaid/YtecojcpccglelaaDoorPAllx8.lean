/- Printed by this session's driver drive.py over the kit's print, with hand-proved callees. -/
import Derived.Test.YtecojcpccglelaaDoorPAllx0
import Derived.Test.YtecojcpccglelaaDoorAid
import Derived.Test.YtecojcpccglelaaDoorPAllx7
namespace Go.Proofs.YtecojcpccglelaaDoor.PAll
open Go.RowKit Go.Proofs.YtecojcpccglelaaDoorW.PrintWords Go.Proofs.YtecojcpccglelaaDoorW.PrintLast Go.Proofs.YtecojcpccglelaaDoorW.PrintMore
attribute [local go_sem] max2_int min2_int max_two min_two max_three min_three max_four min_four   -- for this text's walks alone
attribute [local go_sem high] Go.Proofs.YtecojcpccglelaaDoor.Aid.cell_lit
set_option linter.unusedVariables false
set_option linter.unusedSimpArgs false

/-! ### intervalmonref01_Short: function 15 -/
def intervalmonref01_Short.f (a0 : ByteArray) (a1 : Int) : Option (ByteArray) := if (a0.size : Int) > a1 then (if 0 ≤ a1 then (if a1 ≤ (a0.size : Int) then (some (a0.extract 0 (a1 : Int).toNat)) else (none)) else (none)) else (some a0)
set_option maxHeartbeats 8000000 in
set_option maxRecDepth 100000 in
theorem intervalmonref01_Short.calls (a0 : ByteArray) (a1 : Int) (r : ByteArray) (w : World) (h : intervalmonref01_Short.f a0 a1 = some r) :
    Calls Tryd.prog 15 #[.string a0, .int .i64 a1] w fun e w' => e = .returned (.string r) ∧ Drawn0 w w' := by
  have H : (if (a0.size : Int) > a1 then (if 0 ≤ a1 then (if a1 ≤ (a0.size : Int) then (some (a0.extract 0 (a1 : Int).toNat)) else (none)) else (none)) else (some a0)) = some r := h
  clear h
  by_cases c3 : (a0.size : Int) > a1
  · rw [if_pos c3] at H
    have c3b0 : decide (a1 < (a0.size : Int)) = true := decide_eq_true c3
    clear c3
    by_cases c4 : 0 ≤ a1
    · rw [if_pos c4] at H
      have c4b0 := eq_true c4
      have c4b1 : decide (0 ≤ a1) = true := decide_eq_true c4
      clear c4
      by_cases c5 : a1 ≤ (a0.size : Int)
      · rw [if_pos c5] at H
        have c5b0 := eq_true c5
        have c5b1 : decide (a1 ≤ (a0.size : Int)) = true := decide_eq_true c5
        clear c5
        obtain rfl := Option.some.inj H
        go_enter Tryd.func15, Tryd.ntmps15
        go_wp2
        go_ret
        exact ⟨by first | rfl | (simp; done) | (simp [*]; done), by repeat (first | exact Drawn0.refl _ | apply Drawn0.step)⟩
      · rw [if_neg c5] at H
        exact absurd H (by simp)
    · rw [if_neg c4] at H
      exact absurd H (by simp)
  · rw [if_neg c3] at H
    have c3b0 : decide (a1 < (a0.size : Int)) = false := decide_eq_false c3
    clear c3
    obtain rfl := Option.some.inj H
    go_enter Tryd.func15, Tryd.ntmps15
    go_wp2
    go_ret
    exact ⟨by first | rfl | (simp; done) | (simp [*]; done), by repeat (first | exact Drawn0.refl _ | apply Drawn0.step)⟩

/-! ### intervalmonlaw06_LexerRaw: function 4 -/
def intervalmonlaw06_LexerRaw.f (k : Nat) (a0 : ByteArray) : Option (Bool) := (intervalmonref01_Short.f a0 200).bind fun t221 => ((intervalmonlaw06_agrees.f k t221).bind fun t222 => (if t222 = true then (if 1 + t221.size ≤ 9223372036854775807 then (if ((⟨#[34]⟩ : ByteArray) ++ t221).size + 1 ≤ 9223372036854775807 then ((intervalmonlaw06_agrees.f k (((⟨#[34]⟩ : ByteArray) ++ t221) ++ (⟨#[34]⟩ : ByteArray))).bind fun t223 => (if t223 = true then (if 4 + t221.size ≤ 9223372036854775807 then (if ((⟨#[97, 123, 98, 61]⟩ : ByteArray) ++ t221).size + 1 ≤ 9223372036854775807 then ((intervalmonlaw06_agrees.f k (((⟨#[97, 123, 98, 61]⟩ : ByteArray) ++ t221) ++ (⟨#[125]⟩ : ByteArray))).bind fun t224 => (if t224 = true then ((intervalmonlaw06_agrees.f k ((⟨#[115, 117, 109, 40]⟩ : ByteArray) ++ t221)).bind fun t225 => (if t225 = true then ((intervalmonlaw06_lives.f k).bind fun t226 => (some t226)) else (some false))) else (some false))) else (none)) else (none)) else (some false))) else (none)) else (none)) else (some false)))
theorem intervalmonlaw06_LexerRaw.mono : ∀ a0 k, LeO (intervalmonlaw06_LexerRaw.f k a0) (intervalmonlaw06_LexerRaw.f (k + 1) a0) := by
  intro a0 k
  unfold intervalmonlaw06_LexerRaw.f
  repeat' first
      | (with_reducible exact intervalmonlaw06_agrees.mono _ _)
      | (with_reducible exact intervalmonlaw06_lives.mono _)
      | (with_reducible exact LeO.refl _)
      | (with_reducible exact LeO.none _)
      | (with_reducible refine LeO.ite ?_ ?_)
      | (with_reducible refine LeO.bind ?_ (fun _ => ?_))
      | exact intervalmonlaw06_agrees.mono _ _
      | exact intervalmonlaw06_lives.mono _
      | exact LeO.none _
      | refine LeO.ite ?_ ?_
      | refine LeO.bind ?_ (fun _ => ?_)
set_option maxHeartbeats 8000000 in
set_option maxRecDepth 100000 in
theorem intervalmonlaw06_LexerRaw.calls (k : Nat) (a0 : ByteArray) (r : Bool) (w : World) (h : intervalmonlaw06_LexerRaw.f k a0 = some r) :
    Calls Tryd.prog 4 #[.string a0] w fun e w' => e = .returned (.bool r) ∧ Below w.heap.size w w' := by
  have HB := Aside0.mk (Below.refl w.heap.size w)
  have H : ((intervalmonref01_Short.f a0 200).bind fun t221 => ((intervalmonlaw06_agrees.f k t221).bind fun t222 => (if t222 = true then (if 1 + t221.size ≤ 9223372036854775807 then (if ((⟨#[34]⟩ : ByteArray) ++ t221).size + 1 ≤ 9223372036854775807 then ((intervalmonlaw06_agrees.f k (((⟨#[34]⟩ : ByteArray) ++ t221) ++ (⟨#[34]⟩ : ByteArray))).bind fun t223 => (if t223 = true then (if 4 + t221.size ≤ 9223372036854775807 then (if ((⟨#[97, 123, 98, 61]⟩ : ByteArray) ++ t221).size + 1 ≤ 9223372036854775807 then ((intervalmonlaw06_agrees.f k (((⟨#[97, 123, 98, 61]⟩ : ByteArray) ++ t221) ++ (⟨#[125]⟩ : ByteArray))).bind fun t224 => (if t224 = true then ((intervalmonlaw06_agrees.f k ((⟨#[115, 117, 109, 40]⟩ : ByteArray) ++ t221)).bind fun t225 => (if t225 = true then ((intervalmonlaw06_lives.f k).bind fun t226 => (some t226)) else (some false))) else (some false))) else (none)) else (none)) else (some false))) else (none)) else (none)) else (some false)))) = some r := h
  clear h
  replace H := Option.bind_eq_some_iff.mp H
  obtain ⟨t221, A20, H⟩ := H
  replace H : ((intervalmonlaw06_agrees.f k t221).bind fun t222 => (if t222 = true then (if 1 + t221.size ≤ 9223372036854775807 then (if ((⟨#[34]⟩ : ByteArray) ++ t221).size + 1 ≤ 9223372036854775807 then ((intervalmonlaw06_agrees.f k (((⟨#[34]⟩ : ByteArray) ++ t221) ++ (⟨#[34]⟩ : ByteArray))).bind fun t223 => (if t223 = true then (if 4 + t221.size ≤ 9223372036854775807 then (if ((⟨#[97, 123, 98, 61]⟩ : ByteArray) ++ t221).size + 1 ≤ 9223372036854775807 then ((intervalmonlaw06_agrees.f k (((⟨#[97, 123, 98, 61]⟩ : ByteArray) ++ t221) ++ (⟨#[125]⟩ : ByteArray))).bind fun t224 => (if t224 = true then ((intervalmonlaw06_agrees.f k ((⟨#[115, 117, 109, 40]⟩ : ByteArray) ++ t221)).bind fun t225 => (if t225 = true then ((intervalmonlaw06_lives.f k).bind fun t226 => (some t226)) else (some false))) else (some false))) else (none)) else (none)) else (some false))) else (none)) else (none)) else (some false))) = some r := H
  have A2 := Aside0.mk A20
  clear A20
  replace H := Option.bind_eq_some_iff.mp H
  obtain ⟨t222, A30, H⟩ := H
  replace H : (if t222 = true then (if 1 + t221.size ≤ 9223372036854775807 then (if ((⟨#[34]⟩ : ByteArray) ++ t221).size + 1 ≤ 9223372036854775807 then ((intervalmonlaw06_agrees.f k (((⟨#[34]⟩ : ByteArray) ++ t221) ++ (⟨#[34]⟩ : ByteArray))).bind fun t223 => (if t223 = true then (if 4 + t221.size ≤ 9223372036854775807 then (if ((⟨#[97, 123, 98, 61]⟩ : ByteArray) ++ t221).size + 1 ≤ 9223372036854775807 then ((intervalmonlaw06_agrees.f k (((⟨#[97, 123, 98, 61]⟩ : ByteArray) ++ t221) ++ (⟨#[125]⟩ : ByteArray))).bind fun t224 => (if t224 = true then ((intervalmonlaw06_agrees.f k ((⟨#[115, 117, 109, 40]⟩ : ByteArray) ++ t221)).bind fun t225 => (if t225 = true then ((intervalmonlaw06_lives.f k).bind fun t226 => (some t226)) else (some false))) else (some false))) else (none)) else (none)) else (some false))) else (none)) else (none)) else (some false)) = some r := H
  have A3 := Aside0.mk A30
  clear A30
  by_cases c4 : t222 = true
  · subst c4
    have H1 : (if 1 + t221.size ≤ 9223372036854775807 then (if ((⟨#[34]⟩ : ByteArray) ++ t221).size + 1 ≤ 9223372036854775807 then ((intervalmonlaw06_agrees.f k (((⟨#[34]⟩ : ByteArray) ++ t221) ++ (⟨#[34]⟩ : ByteArray))).bind fun t223 => (if t223 = true then (if 4 + t221.size ≤ 9223372036854775807 then (if ((⟨#[97, 123, 98, 61]⟩ : ByteArray) ++ t221).size + 1 ≤ 9223372036854775807 then ((intervalmonlaw06_agrees.f k (((⟨#[97, 123, 98, 61]⟩ : ByteArray) ++ t221) ++ (⟨#[125]⟩ : ByteArray))).bind fun t224 => (if t224 = true then ((intervalmonlaw06_agrees.f k ((⟨#[115, 117, 109, 40]⟩ : ByteArray) ++ t221)).bind fun t225 => (if t225 = true then ((intervalmonlaw06_lives.f k).bind fun t226 => (some t226)) else (some false))) else (some false))) else (none)) else (none)) else (some false))) else (none)) else (none)) = some r := by rw [if_pos rfl] at H; exact H
    clear H
    have H := H1
    clear H1
    by_cases c5 : 1 + t221.size ≤ 9223372036854775807
    · rw [if_pos c5] at H
      have c5b0 := eq_true c5
      have c5b1 : decide (1 + t221.size ≤ 9223372036854775807) = true := decide_eq_true c5
      try have c5b2 : (9223372036854775807 < 1 + t221.size) = False := eq_false (Nat.not_lt.2 c5)
      by_cases c6 : ((⟨#[34]⟩ : ByteArray) ++ t221).size + 1 ≤ 9223372036854775807
      · rw [if_pos c6] at H
        have c6b0 := eq_true c6
        (try (have c6b0x := c6b0; simp only [ByteArray.size_extract, ByteArray.size_append, Go.Proofs.YtecojcpccglelaaDoor.Aid.size_lit, List.length_cons, List.length_nil, Nat.reduceAdd, Int.cast_ofNat_Int] at c6b0x))
        have c6b1 : decide (((⟨#[34]⟩ : ByteArray) ++ t221).size + 1 ≤ 9223372036854775807) = true := decide_eq_true c6
        (try (have c6b1x := c6b1; simp only [ByteArray.size_extract, ByteArray.size_append, Go.Proofs.YtecojcpccglelaaDoor.Aid.size_lit, List.length_cons, List.length_nil, Nat.reduceAdd, Int.cast_ofNat_Int] at c6b1x))
        try have c6b2 : (9223372036854775807 < ((⟨#[34]⟩ : ByteArray) ++ t221).size + 1) = False := eq_false (Nat.not_lt.2 c6)
        (try (have c6b2x := c6b2; simp only [ByteArray.size_extract, ByteArray.size_append, Go.Proofs.YtecojcpccglelaaDoor.Aid.size_lit, List.length_cons, List.length_nil, Nat.reduceAdd, Int.cast_ofNat_Int] at c6b2x))
        replace H := Option.bind_eq_some_iff.mp H
        obtain ⟨t223, A70, H⟩ := H
        replace H : (if t223 = true then (if 4 + t221.size ≤ 9223372036854775807 then (if ((⟨#[97, 123, 98, 61]⟩ : ByteArray) ++ t221).size + 1 ≤ 9223372036854775807 then ((intervalmonlaw06_agrees.f k (((⟨#[97, 123, 98, 61]⟩ : ByteArray) ++ t221) ++ (⟨#[125]⟩ : ByteArray))).bind fun t224 => (if t224 = true then ((intervalmonlaw06_agrees.f k ((⟨#[115, 117, 109, 40]⟩ : ByteArray) ++ t221)).bind fun t225 => (if t225 = true then ((intervalmonlaw06_lives.f k).bind fun t226 => (some t226)) else (some false))) else (some false))) else (none)) else (none)) else (some false)) = some r := H
        have A7 := Aside0.mk A70
        clear A70
        by_cases c8 : t223 = true
        · subst c8
          have H1 : (if 4 + t221.size ≤ 9223372036854775807 then (if ((⟨#[97, 123, 98, 61]⟩ : ByteArray) ++ t221).size + 1 ≤ 9223372036854775807 then ((intervalmonlaw06_agrees.f k (((⟨#[97, 123, 98, 61]⟩ : ByteArray) ++ t221) ++ (⟨#[125]⟩ : ByteArray))).bind fun t224 => (if t224 = true then ((intervalmonlaw06_agrees.f k ((⟨#[115, 117, 109, 40]⟩ : ByteArray) ++ t221)).bind fun t225 => (if t225 = true then ((intervalmonlaw06_lives.f k).bind fun t226 => (some t226)) else (some false))) else (some false))) else (none)) else (none)) = some r := by rw [if_pos rfl] at H; exact H
          clear H
          have H := H1
          clear H1
          by_cases c9 : 4 + t221.size ≤ 9223372036854775807
          · rw [if_pos c9] at H
            have c9b0 := eq_true c9
            have c9b1 : decide (4 + t221.size ≤ 9223372036854775807) = true := decide_eq_true c9
            try have c9b2 : (9223372036854775807 < 4 + t221.size) = False := eq_false (Nat.not_lt.2 c9)
            by_cases c10 : ((⟨#[97, 123, 98, 61]⟩ : ByteArray) ++ t221).size + 1 ≤ 9223372036854775807
            · rw [if_pos c10] at H
              have c10b0 := eq_true c10
              (try (have c10b0x := c10b0; simp only [ByteArray.size_extract, ByteArray.size_append, Go.Proofs.YtecojcpccglelaaDoor.Aid.size_lit, List.length_cons, List.length_nil, Nat.reduceAdd, Int.cast_ofNat_Int] at c10b0x))
              have c10b1 : decide (((⟨#[97, 123, 98, 61]⟩ : ByteArray) ++ t221).size + 1 ≤ 9223372036854775807) = true := decide_eq_true c10
              (try (have c10b1x := c10b1; simp only [ByteArray.size_extract, ByteArray.size_append, Go.Proofs.YtecojcpccglelaaDoor.Aid.size_lit, List.length_cons, List.length_nil, Nat.reduceAdd, Int.cast_ofNat_Int] at c10b1x))
              try have c10b2 : (9223372036854775807 < ((⟨#[97, 123, 98, 61]⟩ : ByteArray) ++ t221).size + 1) = False := eq_false (Nat.not_lt.2 c10)
              (try (have c10b2x := c10b2; simp only [ByteArray.size_extract, ByteArray.size_append, Go.Proofs.YtecojcpccglelaaDoor.Aid.size_lit, List.length_cons, List.length_nil, Nat.reduceAdd, Int.cast_ofNat_Int] at c10b2x))
              replace H := Option.bind_eq_some_iff.mp H
              obtain ⟨t224, A110, H⟩ := H
              replace H : (if t224 = true then ((intervalmonlaw06_agrees.f k ((⟨#[115, 117, 109, 40]⟩ : ByteArray) ++ t221)).bind fun t225 => (if t225 = true then ((intervalmonlaw06_lives.f k).bind fun t226 => (some t226)) else (some false))) else (some false)) = some r := H
              have A11 := Aside0.mk A110
              clear A110
              by_cases c12 : t224 = true
              · subst c12
                have H1 : ((intervalmonlaw06_agrees.f k ((⟨#[115, 117, 109, 40]⟩ : ByteArray) ++ t221)).bind fun t225 => (if t225 = true then ((intervalmonlaw06_lives.f k).bind fun t226 => (some t226)) else (some false))) = some r := by rw [if_pos rfl] at H; exact H
                clear H
                have H := H1
                clear H1
                replace H := Option.bind_eq_some_iff.mp H
                obtain ⟨t225, A130, H⟩ := H
                replace H : (if t225 = true then ((intervalmonlaw06_lives.f k).bind fun t226 => (some t226)) else (some false)) = some r := H
                have A13 := Aside0.mk A130
                clear A130
                by_cases c14 : t225 = true
                · subst c14
                  have H1 : ((intervalmonlaw06_lives.f k).bind fun t226 => (some t226)) = some r := by rw [if_pos rfl] at H; exact H
                  clear H
                  have H := H1
                  clear H1
                  replace H := Option.bind_eq_some_iff.mp H
                  obtain ⟨t226, A150, H⟩ := H
                  replace H : (some t226) = some r := H
                  have A15 := Aside0.mk A150
                  clear A150
                  obtain rfl := Option.some.inj H
                  go_enter Tryd.func4, Tryd.ntmps4
                  go_wp2_with (first | ((with_reducible refine gate_callee (f := 15) rfl ?_); refine goesL_ (some 5) rfl rfl Tryd.func15 (by kernel_rfl) rfl #[.string a0, .int .i64 200] rfl (by (try simp only [List.map_toArray, List.map_cons, List.map_nil]); first | done | rfl | (simp only [List.length_drop, List.length_take]; rfl)) ?_; (with_reducible refine (intervalmonref01_Short.calls a0 200 t221 _ A2.out).mono ?_); rintro e w' ⟨rfl, ⟨nd, rfl⟩⟩; refine ⟨_, rfl, ?_⟩) | ((with_reducible refine gate_callee (f := 11) rfl ?_); refine goesL_ (some 7) rfl rfl Tryd.func11 (by kernel_rfl) rfl #[.string t221] rfl (by (try simp only [List.map_toArray, List.map_cons, List.map_nil]); first | done | rfl | (simp only [List.length_drop, List.length_take]; rfl)) ?_; (with_reducible refine (intervalmonlaw06_agrees.calls k t221 true _ A3.out).mono ?_); rintro e w16 ⟨rfl, hb⟩; refine ⟨_, rfl, ?_⟩; have n0_ := Aside0.mk (below_step (by repeat (first | (with_reducible first | exact HB.out | apply below_alloc | apply pw_below_drewN | apply below_drew1) | exact HB.out)) hb); clear HB; have HB := n0_; clear n0_; (try clear hb); (try clear hb2); (try clear hk); (try clear hi)) | (go_at_call 11; (with_reducible refine (intervalmonlaw06_agrees.calls k (((⟨#[34]⟩ : ByteArray) ++ t221) ++ (⟨#[34]⟩ : ByteArray)) true _ A7.out).mono ?_); rintro e w17 ⟨rfl, hb⟩; have n0_ := Aside0.mk (below_step (by repeat (first | (with_reducible first | exact HB.out | apply below_alloc | apply pw_below_drewN | apply below_drew1) | exact HB.out)) hb); clear HB; have HB := n0_; clear n0_; (try clear hb); (try clear hb2); (try clear hk); (try clear hi)) | (go_at_call 11; (with_reducible refine (intervalmonlaw06_agrees.calls k (((⟨#[97, 123, 98, 61]⟩ : ByteArray) ++ t221) ++ (⟨#[125]⟩ : ByteArray)) true _ A11.out).mono ?_); rintro e w18 ⟨rfl, hb⟩; have n0_ := Aside0.mk (below_step (by repeat (first | (with_reducible first | exact HB.out | apply below_alloc | apply pw_below_drewN | apply below_drew1) | exact HB.out)) hb); clear HB; have HB := n0_; clear n0_; (try clear hb); (try clear hb2); (try clear hk); (try clear hi)) | (go_at_call 11; (with_reducible refine (intervalmonlaw06_agrees.calls k ((⟨#[115, 117, 109, 40]⟩ : ByteArray) ++ t221) true _ A13.out).mono ?_); rintro e w19 ⟨rfl, hb⟩; have n0_ := Aside0.mk (below_step (by repeat (first | (with_reducible first | exact HB.out | apply below_alloc | apply pw_below_drewN | apply below_drew1) | exact HB.out)) hb); clear HB; have HB := n0_; clear n0_; (try clear hb); (try clear hb2); (try clear hk); (try clear hi)) | (go_at_call 14; (with_reducible refine (intervalmonlaw06_lives.calls k  t226 _ A15.out).mono ?_); rintro e w20 ⟨rfl, hb⟩; have n0_ := Aside0.mk (below_step (by repeat (first | (with_reducible first | exact HB.out | apply below_alloc | apply pw_below_drewN | apply below_drew1) | exact HB.out)) hb); clear HB; have HB := n0_; clear n0_; (try clear hb); (try clear hb2); (try clear hk); (try clear hi)))
                  go_ret
                  exact ⟨by first | rfl | (simp [errW_none, errW_some] <;> rfl) | (simp [*, errW_none, errW_some] <;> rfl), by repeat (first | (with_reducible first | exact HB.out | apply below_alloc | apply pw_below_drewN | apply below_drew1) | exact HB.out)⟩
                · replace c14 := Bool.eq_false_iff.mpr c14
                  subst c14
                  have H1 : (some false) = some r := by rw [if_neg (show ¬ (false = true) by decide)] at H; exact H
                  clear H
                  have H := H1
                  clear H1
                  obtain rfl := Option.some.inj H
                  go_enter Tryd.func4, Tryd.ntmps4
                  go_wp2_with (first | ((with_reducible refine gate_callee (f := 15) rfl ?_); refine goesL_ (some 5) rfl rfl Tryd.func15 (by kernel_rfl) rfl #[.string a0, .int .i64 200] rfl (by (try simp only [List.map_toArray, List.map_cons, List.map_nil]); first | done | rfl | (simp only [List.length_drop, List.length_take]; rfl)) ?_; (with_reducible refine (intervalmonref01_Short.calls a0 200 t221 _ A2.out).mono ?_); rintro e w' ⟨rfl, ⟨nd, rfl⟩⟩; refine ⟨_, rfl, ?_⟩) | ((with_reducible refine gate_callee (f := 11) rfl ?_); refine goesL_ (some 7) rfl rfl Tryd.func11 (by kernel_rfl) rfl #[.string t221] rfl (by (try simp only [List.map_toArray, List.map_cons, List.map_nil]); first | done | rfl | (simp only [List.length_drop, List.length_take]; rfl)) ?_; (with_reducible refine (intervalmonlaw06_agrees.calls k t221 true _ A3.out).mono ?_); rintro e w21 ⟨rfl, hb⟩; refine ⟨_, rfl, ?_⟩; have n0_ := Aside0.mk (below_step (by repeat (first | (with_reducible first | exact HB.out | apply below_alloc | apply pw_below_drewN | apply below_drew1) | exact HB.out)) hb); clear HB; have HB := n0_; clear n0_; (try clear hb); (try clear hb2); (try clear hk); (try clear hi)) | (go_at_call 11; (with_reducible refine (intervalmonlaw06_agrees.calls k (((⟨#[34]⟩ : ByteArray) ++ t221) ++ (⟨#[34]⟩ : ByteArray)) true _ A7.out).mono ?_); rintro e w22 ⟨rfl, hb⟩; have n0_ := Aside0.mk (below_step (by repeat (first | (with_reducible first | exact HB.out | apply below_alloc | apply pw_below_drewN | apply below_drew1) | exact HB.out)) hb); clear HB; have HB := n0_; clear n0_; (try clear hb); (try clear hb2); (try clear hk); (try clear hi)) | (go_at_call 11; (with_reducible refine (intervalmonlaw06_agrees.calls k (((⟨#[97, 123, 98, 61]⟩ : ByteArray) ++ t221) ++ (⟨#[125]⟩ : ByteArray)) true _ A11.out).mono ?_); rintro e w23 ⟨rfl, hb⟩; have n0_ := Aside0.mk (below_step (by repeat (first | (with_reducible first | exact HB.out | apply below_alloc | apply pw_below_drewN | apply below_drew1) | exact HB.out)) hb); clear HB; have HB := n0_; clear n0_; (try clear hb); (try clear hb2); (try clear hk); (try clear hi)) | (go_at_call 11; (with_reducible refine (intervalmonlaw06_agrees.calls k ((⟨#[115, 117, 109, 40]⟩ : ByteArray) ++ t221) false _ A13.out).mono ?_); rintro e w24 ⟨rfl, hb⟩; have n0_ := Aside0.mk (below_step (by repeat (first | (with_reducible first | exact HB.out | apply below_alloc | apply pw_below_drewN | apply below_drew1) | exact HB.out)) hb); clear HB; have HB := n0_; clear n0_; (try clear hb); (try clear hb2); (try clear hk); (try clear hi)))
                  go_ret
                  exact ⟨by first | rfl | (simp [errW_none, errW_some] <;> rfl) | (simp [*, errW_none, errW_some] <;> rfl), by repeat (first | (with_reducible first | exact HB.out | apply below_alloc | apply pw_below_drewN | apply below_drew1) | exact HB.out)⟩
              · replace c12 := Bool.eq_false_iff.mpr c12
                subst c12
                have H1 : (some false) = some r := by rw [if_neg (show ¬ (false = true) by decide)] at H; exact H
                clear H
                have H := H1
                clear H1
                obtain rfl := Option.some.inj H
                go_enter Tryd.func4, Tryd.ntmps4
                go_wp2_with (first | ((with_reducible refine gate_callee (f := 15) rfl ?_); refine goesL_ (some 5) rfl rfl Tryd.func15 (by kernel_rfl) rfl #[.string a0, .int .i64 200] rfl (by (try simp only [List.map_toArray, List.map_cons, List.map_nil]); first | done | rfl | (simp only [List.length_drop, List.length_take]; rfl)) ?_; (with_reducible refine (intervalmonref01_Short.calls a0 200 t221 _ A2.out).mono ?_); rintro e w' ⟨rfl, ⟨nd, rfl⟩⟩; refine ⟨_, rfl, ?_⟩) | ((with_reducible refine gate_callee (f := 11) rfl ?_); refine goesL_ (some 7) rfl rfl Tryd.func11 (by kernel_rfl) rfl #[.string t221] rfl (by (try simp only [List.map_toArray, List.map_cons, List.map_nil]); first | done | rfl | (simp only [List.length_drop, List.length_take]; rfl)) ?_; (with_reducible refine (intervalmonlaw06_agrees.calls k t221 true _ A3.out).mono ?_); rintro e w25 ⟨rfl, hb⟩; refine ⟨_, rfl, ?_⟩; have n0_ := Aside0.mk (below_step (by repeat (first | (with_reducible first | exact HB.out | apply below_alloc | apply pw_below_drewN | apply below_drew1) | exact HB.out)) hb); clear HB; have HB := n0_; clear n0_; (try clear hb); (try clear hb2); (try clear hk); (try clear hi)) | (go_at_call 11; (with_reducible refine (intervalmonlaw06_agrees.calls k (((⟨#[34]⟩ : ByteArray) ++ t221) ++ (⟨#[34]⟩ : ByteArray)) true _ A7.out).mono ?_); rintro e w26 ⟨rfl, hb⟩; have n0_ := Aside0.mk (below_step (by repeat (first | (with_reducible first | exact HB.out | apply below_alloc | apply pw_below_drewN | apply below_drew1) | exact HB.out)) hb); clear HB; have HB := n0_; clear n0_; (try clear hb); (try clear hb2); (try clear hk); (try clear hi)) | (go_at_call 11; (with_reducible refine (intervalmonlaw06_agrees.calls k (((⟨#[97, 123, 98, 61]⟩ : ByteArray) ++ t221) ++ (⟨#[125]⟩ : ByteArray)) false _ A11.out).mono ?_); rintro e w27 ⟨rfl, hb⟩; have n0_ := Aside0.mk (below_step (by repeat (first | (with_reducible first | exact HB.out | apply below_alloc | apply pw_below_drewN | apply below_drew1) | exact HB.out)) hb); clear HB; have HB := n0_; clear n0_; (try clear hb); (try clear hb2); (try clear hk); (try clear hi)))
                go_ret
                exact ⟨by first | rfl | (simp [errW_none, errW_some] <;> rfl) | (simp [*, errW_none, errW_some] <;> rfl), by repeat (first | (with_reducible first | exact HB.out | apply below_alloc | apply pw_below_drewN | apply below_drew1) | exact HB.out)⟩
            · rw [if_neg c10] at H
              exact absurd H (by simp)
          · rw [if_neg c9] at H
            exact absurd H (by simp)
        · replace c8 := Bool.eq_false_iff.mpr c8
          subst c8
          have H1 : (some false) = some r := by rw [if_neg (show ¬ (false = true) by decide)] at H; exact H
          clear H
          have H := H1
          clear H1
          obtain rfl := Option.some.inj H
          go_enter Tryd.func4, Tryd.ntmps4
          go_wp2_with (first | ((with_reducible refine gate_callee (f := 15) rfl ?_); refine goesL_ (some 5) rfl rfl Tryd.func15 (by kernel_rfl) rfl #[.string a0, .int .i64 200] rfl (by (try simp only [List.map_toArray, List.map_cons, List.map_nil]); first | done | rfl | (simp only [List.length_drop, List.length_take]; rfl)) ?_; (with_reducible refine (intervalmonref01_Short.calls a0 200 t221 _ A2.out).mono ?_); rintro e w' ⟨rfl, ⟨nd, rfl⟩⟩; refine ⟨_, rfl, ?_⟩) | ((with_reducible refine gate_callee (f := 11) rfl ?_); refine goesL_ (some 7) rfl rfl Tryd.func11 (by kernel_rfl) rfl #[.string t221] rfl (by (try simp only [List.map_toArray, List.map_cons, List.map_nil]); first | done | rfl | (simp only [List.length_drop, List.length_take]; rfl)) ?_; (with_reducible refine (intervalmonlaw06_agrees.calls k t221 true _ A3.out).mono ?_); rintro e w28 ⟨rfl, hb⟩; refine ⟨_, rfl, ?_⟩; have n0_ := Aside0.mk (below_step (by repeat (first | (with_reducible first | exact HB.out | apply below_alloc | apply pw_below_drewN | apply below_drew1) | exact HB.out)) hb); clear HB; have HB := n0_; clear n0_; (try clear hb); (try clear hb2); (try clear hk); (try clear hi)) | (go_at_call 11; (with_reducible refine (intervalmonlaw06_agrees.calls k (((⟨#[34]⟩ : ByteArray) ++ t221) ++ (⟨#[34]⟩ : ByteArray)) false _ A7.out).mono ?_); rintro e w29 ⟨rfl, hb⟩; have n0_ := Aside0.mk (below_step (by repeat (first | (with_reducible first | exact HB.out | apply below_alloc | apply pw_below_drewN | apply below_drew1) | exact HB.out)) hb); clear HB; have HB := n0_; clear n0_; (try clear hb); (try clear hb2); (try clear hk); (try clear hi)))
          go_ret
          exact ⟨by first | rfl | (simp [errW_none, errW_some] <;> rfl) | (simp [*, errW_none, errW_some] <;> rfl), by repeat (first | (with_reducible first | exact HB.out | apply below_alloc | apply pw_below_drewN | apply below_drew1) | exact HB.out)⟩
      · rw [if_neg c6] at H
        exact absurd H (by simp)
    · rw [if_neg c5] at H
      exact absurd H (by simp)
  · replace c4 := Bool.eq_false_iff.mpr c4
    subst c4
    have H1 : (some false) = some r := by rw [if_neg (show ¬ (false = true) by decide)] at H; exact H
    clear H
    have H := H1
    clear H1
    obtain rfl := Option.some.inj H
    go_enter Tryd.func4, Tryd.ntmps4
    go_wp2_with (first | ((with_reducible refine gate_callee (f := 15) rfl ?_); refine goesL_ (some 5) rfl rfl Tryd.func15 (by kernel_rfl) rfl #[.string a0, .int .i64 200] rfl (by (try simp only [List.map_toArray, List.map_cons, List.map_nil]); first | done | rfl | (simp only [List.length_drop, List.length_take]; rfl)) ?_; (with_reducible refine (intervalmonref01_Short.calls a0 200 t221 _ A2.out).mono ?_); rintro e w' ⟨rfl, ⟨nd, rfl⟩⟩; refine ⟨_, rfl, ?_⟩) | ((with_reducible refine gate_callee (f := 11) rfl ?_); refine goesL_ (some 7) rfl rfl Tryd.func11 (by kernel_rfl) rfl #[.string t221] rfl (by (try simp only [List.map_toArray, List.map_cons, List.map_nil]); first | done | rfl | (simp only [List.length_drop, List.length_take]; rfl)) ?_; (with_reducible refine (intervalmonlaw06_agrees.calls k t221 false _ A3.out).mono ?_); rintro e w30 ⟨rfl, hb⟩; refine ⟨_, rfl, ?_⟩; have n0_ := Aside0.mk (below_step (by repeat (first | (with_reducible first | exact HB.out | apply below_alloc | apply pw_below_drewN | apply below_drew1) | exact HB.out)) hb); clear HB; have HB := n0_; clear n0_; (try clear hb); (try clear hb2); (try clear hk); (try clear hi)))
    go_ret
    exact ⟨by first | rfl | (simp [errW_none, errW_some] <;> rfl) | (simp [*, errW_none, errW_some] <;> rfl), by repeat (first | (with_reducible first | exact HB.out | apply below_alloc | apply pw_below_drewN | apply below_drew1) | exact HB.out)⟩

/-- THE ONE PURE STATEMENT of intervalmonlaw06_LexerRaw: yours. -/
def intervalmonlaw06_LexerRaw.Pure : Prop := ∀ (a0 : ByteArray), a0.size ≤ 140737488351232 → ∃ k, intervalmonlaw06_LexerRaw.f k a0 = some true
theorem intervalmonlaw06_LexerRaw.walk (P : intervalmonlaw06_LexerRaw.Pure) (a0 : ByteArray) (w : World) (w0 : a0.size ≤ 140737488351232) :
    Calls Tryd.prog 4 #[.string a0] w fun e w' => e = .returned (.bool true) ∧ Below w.heap.size w w' := by
  obtain ⟨k, h⟩ := P a0 w0
  refine (intervalmonlaw06_LexerRaw.calls k a0 true w h).mono ?_
  rintro e w' ⟨rfl, hd⟩
  exact ⟨rfl, hd⟩

/-! ### intervalmonref01_Decimal: function 17 -/
def intervalmonref01_Decimal.l0 : Nat → Int → ByteArray → ByteArray → Int → Option (ByteArray)
  | 0, _, _, _, _ => none
  | k + 1, x0, x3, x4, x5 => if x5 = 0 then (if x0 < 0 then (if 1 + x4.size ≤ 9223372036854775807 then (some ((⟨#[45]⟩ : ByteArray) ++ x4)) else (none)) else (some x4)) else (if (Int.tmod x5 10) < 0 then (if 0 ≤ (wrap64 (-(Int.tmod x5 10))) then (if (wrap64 (-(Int.tmod x5 10))) ≤ (wrap64 ((wrap64 (-(Int.tmod x5 10))) + 1)) then (if (wrap64 ((wrap64 (-(Int.tmod x5 10))) + 1)) ≤ (x3.size : Int) then (if (x3.extract ((wrap64 (-(Int.tmod x5 10))) : Int).toNat ((wrap64 ((wrap64 (-(Int.tmod x5 10))) + 1)) : Int).toNat).size + x4.size ≤ 9223372036854775807 then (intervalmonref01_Decimal.l0 k x0 x3 ((x3.extract ((wrap64 (-(Int.tmod x5 10))) : Int).toNat ((wrap64 ((wrap64 (-(Int.tmod x5 10))) + 1)) : Int).toNat) ++ x4) (wrap64 (Int.tdiv x5 10))) else (none)) else (none)) else (none)) else (none)) else (if 0 ≤ (Int.tmod x5 10) then (if (Int.tmod x5 10) ≤ (wrap64 ((Int.tmod x5 10) + 1)) then (if (wrap64 ((Int.tmod x5 10) + 1)) ≤ (x3.size : Int) then (if (x3.extract ((Int.tmod x5 10) : Int).toNat ((wrap64 ((Int.tmod x5 10) + 1)) : Int).toNat).size + x4.size ≤ 9223372036854775807 then (intervalmonref01_Decimal.l0 k x0 x3 ((x3.extract ((Int.tmod x5 10) : Int).toNat ((wrap64 ((Int.tmod x5 10) + 1)) : Int).toNat) ++ x4) (wrap64 (Int.tdiv x5 10))) else (none)) else (none)) else (none)) else (none)))
def intervalmonref01_Decimal.f (k : Nat) (a0 : Int) : Option (ByteArray) := if a0 = 0 then (some (⟨#[48]⟩ : ByteArray)) else (intervalmonref01_Decimal.l0 k a0 (⟨#[48, 49, 50, 51, 52, 53, 54, 55, 56, 57]⟩ : ByteArray) (⟨#[]⟩ : ByteArray) a0)
theorem intervalmonref01_Decimal.mono_l : ∀ k, (∀ y0 y1 y2 y3, LeO (intervalmonref01_Decimal.l0 k y0 y1 y2 y3) (intervalmonref01_Decimal.l0 (k + 1) y0 y1 y2 y3))
  | 0 => fun _ _ _ _ r h => by simp [intervalmonref01_Decimal.l0] at h
  | k + 1 => by
    have ih0 := intervalmonref01_Decimal.mono_l k
    · intro y0 y1 y2 y3
      unfold intervalmonref01_Decimal.l0
      repeat' first
      | (with_reducible exact ih0 _ _ _ _)
      | (with_reducible exact LeO.refl _)
      | (with_reducible exact LeO.none _)
      | (with_reducible refine LeO.ite ?_ ?_)
      | (with_reducible refine LeO.bind ?_ (fun _ => ?_))
      | exact ih0 _ _ _ _
      | exact LeO.none _
      | refine LeO.ite ?_ ?_
      | refine LeO.bind ?_ (fun _ => ?_)
theorem intervalmonref01_Decimal.mono : ∀ a0 k, LeO (intervalmonref01_Decimal.f k a0) (intervalmonref01_Decimal.f (k + 1) a0) := by
  intro a0 k
  have ih0 := intervalmonref01_Decimal.mono_l k
  unfold intervalmonref01_Decimal.f
  repeat' first
      | (with_reducible exact ih0 _ _ _ _)
      | (with_reducible exact LeO.refl _)
      | (with_reducible exact LeO.none _)
      | (with_reducible refine LeO.ite ?_ ?_)
      | (with_reducible refine LeO.bind ?_ (fun _ => ?_))
      | exact ih0 _ _ _ _
      | exact LeO.none _
      | refine LeO.ite ?_ ?_
      | refine LeO.bind ?_ (fun _ => ?_)
set_option maxHeartbeats 8000000 in
set_option maxRecDepth 100000 in
theorem intervalmonref01_Decimal.calls (k : Nat) (a0 : Int) (r : ByteArray) (w : World) (h : intervalmonref01_Decimal.f k a0 = some r) :
    Calls Tryd.prog 17 #[.int .i64 a0] w fun e w' => e = .returned (.string r) ∧ Drawn0 w w' := by
  have H : (if a0 = 0 then (some (⟨#[48]⟩ : ByteArray)) else (intervalmonref01_Decimal.l0 k a0 (⟨#[48, 49, 50, 51, 52, 53, 54, 55, 56, 57]⟩ : ByteArray) (⟨#[]⟩ : ByteArray) a0)) = some r := h
  clear h
  by_cases c2 : a0 = 0
  · rw [if_pos c2] at H
    have c2b0 : (a0 == 0) = true := beq_iff_eq.mpr c2
    have c2b1 : (a0 != 0) = false := bne_eq_false_iff_eq.mpr c2
    clear c2
    obtain rfl := Option.some.inj H
    go_enter Tryd.func17, Tryd.ntmps17
    go_wp2
    go_ret
    exact ⟨by first | rfl | (simp; done) | (simp [*]; done), by repeat (first | exact Drawn0.refl _ | apply Drawn0.step)⟩
  · rw [if_neg c2] at H
    have c2b0 : (a0 == 0) = false := beq_eq_false_iff_ne.mpr c2
    have c2b1 : (a0 != 0) = true := bne_iff_ne.mpr c2
    have H' := Aside0.mk H
    clear H
    go_enter Tryd.func17, Tryd.ntmps17
    go_wp2
    go_loopg [4, 5] k (fun kq v4 v5 w' => ∃ (x4_1 : ByteArray) (x5_1 : Int), v4 = .string x4_1 ∧ v5 = .int .i64 x5_1 ∧ Aside0 (intervalmonref01_Decimal.l0 kq a0 (⟨#[48, 49, 50, 51, 52, 53, 54, 55, 56, 57]⟩ : ByteArray) x4_1 x5_1 = some r) ∧ Aside0 (kq ≤ k) ∧ Drawn0 w w')
    case atStart => exact ⟨((⟨#[]⟩ : ByteArray)), (a0), (by first | rfl | (simp; done) | (simp [*]; done)), (by first | rfl | (simp; done) | (simp [*]; done)), H', ⟨Nat.le_refl _⟩, by repeat (first | exact Drawn0.refl _ | apply Drawn0.step)⟩
    case round =>
      clear H'
      try clear c1
      try clear c2
      try clear c2b0
      try clear c2b1
      try clear p2
      obtain ⟨x4_1, x5_1, rfl, rfl, HA, HK1, ⟨m1, rfl⟩⟩ := hrel
      cases gk with
      | zero => exact absurd HA.out (by simp [intervalmonref01_Decimal.l0])
      | succ k1 =>
        have H := HA.out
        clear HA
        simp only [intervalmonref01_Decimal.l0] at H
        by_cases c3 : x5_1 = 0
        · rw [if_pos c3] at H
          have c3b0 : (x5_1 == 0) = true := beq_iff_eq.mpr c3
          have c3b1 : (x5_1 != 0) = false := bne_eq_false_iff_eq.mpr c3
          clear c3
          by_cases c4 : a0 < 0
          · rw [if_pos c4] at H
            have c4b0 : decide (a0 < 0) = true := decide_eq_true c4
            clear c4
            by_cases c5 : 1 + x4_1.size ≤ 9223372036854775807
            · rw [if_pos c5] at H
              have c5b0 := eq_true c5
              have c5b1 : decide (1 + x4_1.size ≤ 9223372036854775807) = true := decide_eq_true c5
              try have c5b2 : (9223372036854775807 < 1 + x4_1.size) = False := eq_false (Nat.not_lt.2 c5)
              obtain rfl := Option.some.inj H
              go_wp2
              go_ret
              exact ⟨by first | rfl | (simp; done) | (simp [*]; done), by repeat (first | exact Drawn0.refl _ | apply Drawn0.step)⟩
            · rw [if_neg c5] at H
              exact absurd H (by simp)
          · rw [if_neg c4] at H
            have c4b0 : decide (a0 < 0) = false := decide_eq_false c4
            clear c4
            obtain rfl := Option.some.inj H
            go_wp2
            go_ret
            exact ⟨by first | rfl | (simp; done) | (simp [*]; done), by repeat (first | exact Drawn0.refl _ | apply Drawn0.step)⟩
        · rw [if_neg c3] at H
          have c3b0 : (x5_1 == 0) = false := beq_eq_false_iff_ne.mpr c3
          have c3b1 : (x5_1 != 0) = true := bne_iff_ne.mpr c3
          by_cases c6 : (Int.tmod x5_1 10) < 0
          · rw [if_pos c6] at H
            have c6b0 : decide ((Int.tmod x5_1 10) < 0) = true := decide_eq_true c6
            clear c6
            obtain ⟨ji7, hji7⟩ : ∃ j_ : Int, (wrap64 (-(Int.tmod x5_1 10))) = j_ := ⟨_, rfl⟩
            replace H : (if 0 ≤ (ji7) then (if (ji7) ≤ (wrap64 ((ji7) + 1)) then (if (wrap64 ((ji7) + 1)) ≤ ((⟨#[48, 49, 50, 51, 52, 53, 54, 55, 56, 57]⟩ : ByteArray).size : Int) then (if ((⟨#[48, 49, 50, 51, 52, 53, 54, 55, 56, 57]⟩ : ByteArray).extract ((ji7) : Int).toNat ((wrap64 ((ji7) + 1)) : Int).toNat).size + x4_1.size ≤ 9223372036854775807 then (intervalmonref01_Decimal.l0 k1 a0 (⟨#[48, 49, 50, 51, 52, 53, 54, 55, 56, 57]⟩ : ByteArray) (((⟨#[48, 49, 50, 51, 52, 53, 54, 55, 56, 57]⟩ : ByteArray).extract ((ji7) : Int).toNat ((wrap64 ((ji7) + 1)) : Int).toNat) ++ x4_1) (wrap64 (Int.tdiv x5_1 10))) else (none)) else (none)) else (none)) else (none)) = some r := by first | (rw [hji7] at H; exact H) | (simp only [hji7] at H ⊢; exact H)
            have hji7w : (IntKind.i64.wrap (-(Int.tmod x5_1 10))) = ji7 := (i64_w _).trans hji7
            by_cases c8 : 0 ≤ (ji7)
            · rw [if_pos c8] at H
              have c8b0 := eq_true c8
              have c8b1 : decide (0 ≤ (ji7)) = true := decide_eq_true c8
              clear c8
              by_cases c9 : (ji7) ≤ (wrap64 ((ji7) + 1))
              · rw [if_pos c9] at H
                have c9b0 := eq_true c9
                have c9b1 : decide ((ji7) ≤ (wrap64 ((ji7) + 1))) = true := decide_eq_true c9
                by_cases c10 : (wrap64 ((ji7) + 1)) ≤ ((⟨#[48, 49, 50, 51, 52, 53, 54, 55, 56, 57]⟩ : ByteArray).size : Int)
                · rw [if_pos c10] at H
                  have c10b0 := eq_true c10
                  (try (have c10b0x := c10b0; simp only [ByteArray.size_extract, ByteArray.size_append, Go.Proofs.YtecojcpccglelaaDoor.Aid.size_lit, List.length_cons, List.length_nil, Nat.reduceAdd, Int.cast_ofNat_Int] at c10b0x))
                  have c10b1 : decide ((wrap64 ((ji7) + 1)) ≤ ((⟨#[48, 49, 50, 51, 52, 53, 54, 55, 56, 57]⟩ : ByteArray).size : Int)) = true := decide_eq_true c10
                  (try (have c10b1x := c10b1; simp only [ByteArray.size_extract, ByteArray.size_append, Go.Proofs.YtecojcpccglelaaDoor.Aid.size_lit, List.length_cons, List.length_nil, Nat.reduceAdd, Int.cast_ofNat_Int] at c10b1x))
                  by_cases c11 : ((⟨#[48, 49, 50, 51, 52, 53, 54, 55, 56, 57]⟩ : ByteArray).extract ((ji7) : Int).toNat ((wrap64 ((ji7) + 1)) : Int).toNat).size + x4_1.size ≤ 9223372036854775807
                  · rw [if_pos c11] at H
                    have c11b0 := eq_true c11
                    (try (have c11b0x := c11b0; simp only [ByteArray.size_extract, ByteArray.size_append, Go.Proofs.YtecojcpccglelaaDoor.Aid.size_lit, List.length_cons, List.length_nil, Nat.reduceAdd, Int.cast_ofNat_Int] at c11b0x))
                    have c11b1 : decide (((⟨#[48, 49, 50, 51, 52, 53, 54, 55, 56, 57]⟩ : ByteArray).extract ((ji7) : Int).toNat ((wrap64 ((ji7) + 1)) : Int).toNat).size + x4_1.size ≤ 9223372036854775807) = true := decide_eq_true c11
                    (try (have c11b1x := c11b1; simp only [ByteArray.size_extract, ByteArray.size_append, Go.Proofs.YtecojcpccglelaaDoor.Aid.size_lit, List.length_cons, List.length_nil, Nat.reduceAdd, Int.cast_ofNat_Int] at c11b1x))
                    try have c11b2 : (9223372036854775807 < ((⟨#[48, 49, 50, 51, 52, 53, 54, 55, 56, 57]⟩ : ByteArray).extract ((ji7) : Int).toNat ((wrap64 ((ji7) + 1)) : Int).toNat).size + x4_1.size) = False := eq_false (Nat.not_lt.2 c11)
                    (try (have c11b2x := c11b2; simp only [ByteArray.size_extract, ByteArray.size_append, Go.Proofs.YtecojcpccglelaaDoor.Aid.size_lit, List.length_cons, List.length_nil, Nat.reduceAdd, Int.cast_ofNat_Int] at c11b2x))
                    have H' := Aside0.mk H
                    clear H
                    go_wp2
                    go_roundg k1
                    case measure => have := HK1.out; omega
                    case rel => exact ⟨(((⟨#[48, 49, 50, 51, 52, 53, 54, 55, 56, 57]⟩ : ByteArray).extract ((ji7) : Int).toNat ((wrap64 ((ji7) + 1)) : Int).toNat) ++ x4_1), (wrap64 (Int.tdiv x5_1 10)), (by first | rfl | (simp; done) | (simp only [← hji7] <;> (first | rfl | simp)) | (simp [*]; done)), (by first | rfl | (simp; done) | (simp [*]; done)), (by first | exact H' | (simp only [hji7]; exact H')), ⟨by have := HK1.out; omega⟩, by repeat (first | exact Drawn0.refl _ | apply Drawn0.step)⟩
                  · rw [if_neg c11] at H
                    exact absurd H (by simp)
                · rw [if_neg c10] at H
                  exact absurd H (by simp)
              · rw [if_neg c9] at H
                exact absurd H (by simp)
            · rw [if_neg c8] at H
              exact absurd H (by simp)
          · rw [if_neg c6] at H
            have c6b0 : decide ((Int.tmod x5_1 10) < 0) = false := decide_eq_false c6
            clear c6
            obtain ⟨ji12, hji12⟩ : ∃ j_ : Int, (Int.tmod x5_1 10) = j_ := ⟨_, rfl⟩
            replace H : (if 0 ≤ (ji12) then (if (ji12) ≤ (wrap64 ((ji12) + 1)) then (if (wrap64 ((ji12) + 1)) ≤ ((⟨#[48, 49, 50, 51, 52, 53, 54, 55, 56, 57]⟩ : ByteArray).size : Int) then (if ((⟨#[48, 49, 50, 51, 52, 53, 54, 55, 56, 57]⟩ : ByteArray).extract ((ji12) : Int).toNat ((wrap64 ((ji12) + 1)) : Int).toNat).size + x4_1.size ≤ 9223372036854775807 then (intervalmonref01_Decimal.l0 k1 a0 (⟨#[48, 49, 50, 51, 52, 53, 54, 55, 56, 57]⟩ : ByteArray) (((⟨#[48, 49, 50, 51, 52, 53, 54, 55, 56, 57]⟩ : ByteArray).extract ((ji12) : Int).toNat ((wrap64 ((ji12) + 1)) : Int).toNat) ++ x4_1) (wrap64 (Int.tdiv x5_1 10))) else (none)) else (none)) else (none)) else (none)) = some r := by first | (rw [hji12] at H; exact H) | (simp only [hji12] at H ⊢; exact H)
            (try rw [hji12] at c6b0)
            by_cases c13 : 0 ≤ (ji12)
            · rw [if_pos c13] at H
              have c13b0 := eq_true c13
              have c13b1 : decide (0 ≤ (ji12)) = true := decide_eq_true c13
              clear c13
              by_cases c14 : (ji12) ≤ (wrap64 ((ji12) + 1))
              · rw [if_pos c14] at H
                have c14b0 := eq_true c14
                have c14b1 : decide ((ji12) ≤ (wrap64 ((ji12) + 1))) = true := decide_eq_true c14
                by_cases c15 : (wrap64 ((ji12) + 1)) ≤ ((⟨#[48, 49, 50, 51, 52, 53, 54, 55, 56, 57]⟩ : ByteArray).size : Int)
                · rw [if_pos c15] at H
                  have c15b0 := eq_true c15
                  (try (have c15b0x := c15b0; simp only [ByteArray.size_extract, ByteArray.size_append, Go.Proofs.YtecojcpccglelaaDoor.Aid.size_lit, List.length_cons, List.length_nil, Nat.reduceAdd, Int.cast_ofNat_Int] at c15b0x))
                  have c15b1 : decide ((wrap64 ((ji12) + 1)) ≤ ((⟨#[48, 49, 50, 51, 52, 53, 54, 55, 56, 57]⟩ : ByteArray).size : Int)) = true := decide_eq_true c15
                  (try (have c15b1x := c15b1; simp only [ByteArray.size_extract, ByteArray.size_append, Go.Proofs.YtecojcpccglelaaDoor.Aid.size_lit, List.length_cons, List.length_nil, Nat.reduceAdd, Int.cast_ofNat_Int] at c15b1x))
                  by_cases c16 : ((⟨#[48, 49, 50, 51, 52, 53, 54, 55, 56, 57]⟩ : ByteArray).extract ((ji12) : Int).toNat ((wrap64 ((ji12) + 1)) : Int).toNat).size + x4_1.size ≤ 9223372036854775807
                  · rw [if_pos c16] at H
                    have c16b0 := eq_true c16
                    (try (have c16b0x := c16b0; simp only [ByteArray.size_extract, ByteArray.size_append, Go.Proofs.YtecojcpccglelaaDoor.Aid.size_lit, List.length_cons, List.length_nil, Nat.reduceAdd, Int.cast_ofNat_Int] at c16b0x))
                    have c16b1 : decide (((⟨#[48, 49, 50, 51, 52, 53, 54, 55, 56, 57]⟩ : ByteArray).extract ((ji12) : Int).toNat ((wrap64 ((ji12) + 1)) : Int).toNat).size + x4_1.size ≤ 9223372036854775807) = true := decide_eq_true c16
                    (try (have c16b1x := c16b1; simp only [ByteArray.size_extract, ByteArray.size_append, Go.Proofs.YtecojcpccglelaaDoor.Aid.size_lit, List.length_cons, List.length_nil, Nat.reduceAdd, Int.cast_ofNat_Int] at c16b1x))
                    try have c16b2 : (9223372036854775807 < ((⟨#[48, 49, 50, 51, 52, 53, 54, 55, 56, 57]⟩ : ByteArray).extract ((ji12) : Int).toNat ((wrap64 ((ji12) + 1)) : Int).toNat).size + x4_1.size) = False := eq_false (Nat.not_lt.2 c16)
                    (try (have c16b2x := c16b2; simp only [ByteArray.size_extract, ByteArray.size_append, Go.Proofs.YtecojcpccglelaaDoor.Aid.size_lit, List.length_cons, List.length_nil, Nat.reduceAdd, Int.cast_ofNat_Int] at c16b2x))
                    have H' := Aside0.mk H
                    clear H
                    go_wp2
                    go_roundg k1
                    case measure => have := HK1.out; omega
                    case rel => exact ⟨(((⟨#[48, 49, 50, 51, 52, 53, 54, 55, 56, 57]⟩ : ByteArray).extract ((ji12) : Int).toNat ((wrap64 ((ji12) + 1)) : Int).toNat) ++ x4_1), (wrap64 (Int.tdiv x5_1 10)), (by first | rfl | (simp; done) | (simp only [← hji12] <;> (first | rfl | simp)) | (simp [*]; done)), (by first | rfl | (simp; done) | (simp [*]; done)), (by first | exact H' | (simp only [hji12]; exact H')), ⟨by have := HK1.out; omega⟩, by repeat (first | exact Drawn0.refl _ | apply Drawn0.step)⟩
                  · rw [if_neg c16] at H
                    exact absurd H (by simp)
                · rw [if_neg c15] at H
                  exact absurd H (by simp)
              · rw [if_neg c14] at H
                exact absurd H (by simp)
            · rw [if_neg c13] at H
              exact absurd H (by simp)

/-! ### intervalmonref01_Bound: function 18 -/
def intervalmonref01_Bound.f (a0 : Int) (a1 : Int) : Option (Int) := (intervalmonref01_Around.f a0 (wrap64 ((wrap64 (2 * a1)) + 1))).bind fun t227 => (some (wrap64 (t227 - a1)))
set_option maxHeartbeats 8000000 in
set_option maxRecDepth 100000 in
theorem intervalmonref01_Bound.calls (a0 : Int) (a1 : Int) (r : Int) (w : World) (h : intervalmonref01_Bound.f a0 a1 = some r) :
    Calls Tryd.prog 18 #[.int .i64 a0, .int .i64 a1] w fun e w' => e = .returned (.int .i64 r) ∧ Drawn0 w w' := by
  have H : ((intervalmonref01_Around.f a0 (wrap64 ((wrap64 (2 * a1)) + 1))).bind fun t227 => (some (wrap64 (t227 - a1)))) = some r := h
  clear h
  replace H := Option.bind_eq_some_iff.mp H
  obtain ⟨t227, A30, H⟩ := H
  replace H : (some (wrap64 (t227 - a1))) = some r := H
  have A3 := Aside0.mk A30
  clear A30
  obtain rfl := Option.some.inj H
  go_enter Tryd.func18, Tryd.ntmps18
  go_wp2_with (first | ((with_reducible refine gate_callee (f := 16) rfl ?_); refine goesL_ (some 9) rfl rfl Tryd.func16 (by kernel_rfl) rfl #[.int .i64 a0, .int .i64 (wrap64 ((wrap64 (2 * a1)) + 1))] rfl (by (try simp only [List.map_toArray, List.map_cons, List.map_nil]); first | done | rfl | (simp only [List.length_drop, List.length_take]; rfl)) ?_; (with_reducible refine (intervalmonref01_Around.calls a0 (wrap64 ((wrap64 (2 * a1)) + 1)) t227 _ A3.out).mono ?_); rintro e w' ⟨rfl, ⟨nd, rfl⟩⟩; refine ⟨_, rfl, ?_⟩))
  go_ret
  exact ⟨by first | rfl | (simp; done) | (simp [*]; done), by repeat (first | exact Drawn0.refl _ | apply Drawn0.step)⟩

/-! ### intervalmonlaw06_LexerLimits: function 5 -/
mutual
def intervalmonlaw06_LexerLimits.l0 : Nat → Int → Int → Int → ByteArray → ByteArray → Int → Option (Bool)
  | 0, _, _, _, _, _, _ => none
  | k + 1, x1, x2, x7, x8, x9, x10 => if x10 < x7 then (if x8.size + 1 ≤ 9223372036854775807 then (if x9.size + 1 ≤ 9223372036854775807 then (intervalmonlaw06_LexerLimits.l0 k x1 x2 x7 (x8 ++ (⟨#[97]⟩ : ByteArray)) (x9 ++ (⟨#[48]⟩ : ByteArray)) (wrap64 (x10 + 1))) else (none)) else (none)) else ((intervalmonref01_Bound.f x1 3).bind fun t229 => ((intervalmonref01_Decimal.f k (wrap64 (1073741824 + t229))).bind fun t230 => ((intervalmonref01_Around.f x2 20).bind fun t231 => (intervalmonlaw06_LexerLimits.l1 k x8 x9 t230 (⟨#[]⟩ : ByteArray) (wrap64 (1990 + t231))))))
def intervalmonlaw06_LexerLimits.l1 : Nat → ByteArray → ByteArray → ByteArray → ByteArray → Int → Option (Bool)
  | 0, _, _, _, _, _ => none
  | k + 1, x8, x9, x11, x12, x13 => if x13 > 0 then (if x12.size + 1 ≤ 9223372036854775807 then (intervalmonlaw06_LexerLimits.l1 k x8 x9 x11 (x12 ++ (⟨#[43]⟩ : ByteArray)) (wrap64 (x13 - 1))) else (none)) else (if 1 + x8.size ≤ 9223372036854775807 then ((intervalmonlaw06_agrees.f k ((⟨#[43]⟩ : ByteArray) ++ x8)).bind fun t232 => (if t232 = true then (if 3 + x8.size ≤ 9223372036854775807 then (if ((⟨#[43, 32, 34]⟩ : ByteArray) ++ x8).size + 1 ≤ 9223372036854775807 then ((intervalmonlaw06_agrees.f k (((⟨#[43, 32, 34]⟩ : ByteArray) ++ x8) ++ (⟨#[34]⟩ : ByteArray))).bind fun t233 => (if t233 = true then (if 1 + x9.size ≤ 9223372036854775807 then (if ((⟨#[43]⟩ : ByteArray) ++ x9).size + x11.size ≤ 9223372036854775807 then ((intervalmonlaw06_agrees.f k (((⟨#[43]⟩ : ByteArray) ++ x9) ++ x11)).bind fun t234 => (if t234 = true then (if x11.size + x9.size ≤ 9223372036854775807 then ((intervalmonlaw06_agrees.f k (x11 ++ x9)).bind fun t235 => (if t235 = true then ((intervalmonlaw06_agrees.f k x12).bind fun t236 => (if t236 = true then ((intervalmonlaw06_lives.f k).bind fun t237 => (some t237)) else (some false))) else (some false))) else (none)) else (some false))) else (none)) else (none)) else (some false))) else (none)) else (none)) else (some false))) else (none))
end
def intervalmonlaw06_LexerLimits.f (k : Nat) (a0 : Int) (a1 : Int) (a2 : Int) : Option (Bool) := (intervalmonref01_Around.f a0 26).bind fun t228 => (intervalmonlaw06_LexerLimits.l0 k a1 a2 t228 (⟨#[]⟩ : ByteArray) (⟨#[]⟩ : ByteArray) 0)
theorem intervalmonlaw06_LexerLimits.mono_l : ∀ k, (∀ y0 y1 y2 y3 y4 y5, LeO (intervalmonlaw06_LexerLimits.l0 k y0 y1 y2 y3 y4 y5) (intervalmonlaw06_LexerLimits.l0 (k + 1) y0 y1 y2 y3 y4 y5)) ∧ (∀ y0 y1 y2 y3 y4, LeO (intervalmonlaw06_LexerLimits.l1 k y0 y1 y2 y3 y4) (intervalmonlaw06_LexerLimits.l1 (k + 1) y0 y1 y2 y3 y4))
  | 0 => ⟨fun _ _ _ _ _ _ r h => by simp [intervalmonlaw06_LexerLimits.l0] at h, fun _ _ _ _ _ r h => by simp [intervalmonlaw06_LexerLimits.l1] at h⟩
  | k + 1 => by
    obtain ⟨ih0, ih1⟩ := intervalmonlaw06_LexerLimits.mono_l k
    refine ⟨?_, ?_⟩
    · intro y0 y1 y2 y3 y4 y5
      unfold intervalmonlaw06_LexerLimits.l0
      repeat' first
      | (with_reducible exact ih0 _ _ _ _ _ _)
      | (with_reducible exact ih1 _ _ _ _ _)
      | (with_reducible exact intervalmonlaw06_agrees.mono _ _)
      | (with_reducible exact intervalmonlaw06_lives.mono _)
      | (with_reducible exact intervalmonref01_Decimal.mono _ _)
      | (with_reducible exact LeO.refl _)
      | (with_reducible exact LeO.none _)
      | (with_reducible refine LeO.ite ?_ ?_)
      | (with_reducible refine LeO.bind ?_ (fun _ => ?_))
      | exact ih0 _ _ _ _ _ _
      | exact ih1 _ _ _ _ _
      | exact intervalmonlaw06_agrees.mono _ _
      | exact intervalmonlaw06_lives.mono _
      | exact intervalmonref01_Decimal.mono _ _
      | exact LeO.none _
      | refine LeO.ite ?_ ?_
      | refine LeO.bind ?_ (fun _ => ?_)
    · intro y0 y1 y2 y3 y4
      unfold intervalmonlaw06_LexerLimits.l1
      repeat' first
      | (with_reducible exact ih0 _ _ _ _ _ _)
      | (with_reducible exact ih1 _ _ _ _ _)
      | (with_reducible exact intervalmonlaw06_agrees.mono _ _)
      | (with_reducible exact intervalmonlaw06_lives.mono _)
      | (with_reducible exact intervalmonref01_Decimal.mono _ _)
      | (with_reducible exact LeO.refl _)
      | (with_reducible exact LeO.none _)
      | (with_reducible refine LeO.ite ?_ ?_)
      | (with_reducible refine LeO.bind ?_ (fun _ => ?_))
      | exact ih0 _ _ _ _ _ _
      | exact ih1 _ _ _ _ _
      | exact intervalmonlaw06_agrees.mono _ _
      | exact intervalmonlaw06_lives.mono _
      | exact intervalmonref01_Decimal.mono _ _
      | exact LeO.none _
      | refine LeO.ite ?_ ?_
      | refine LeO.bind ?_ (fun _ => ?_)
theorem intervalmonlaw06_LexerLimits.mono : ∀ a0 a1 a2 k, LeO (intervalmonlaw06_LexerLimits.f k a0 a1 a2) (intervalmonlaw06_LexerLimits.f (k + 1) a0 a1 a2) := by
  intro a0 a1 a2 k
  obtain ⟨ih0, ih1⟩ := intervalmonlaw06_LexerLimits.mono_l k
  unfold intervalmonlaw06_LexerLimits.f
  repeat' first
      | (with_reducible exact ih0 _ _ _ _ _ _)
      | (with_reducible exact ih1 _ _ _ _ _)
      | (with_reducible exact intervalmonlaw06_agrees.mono _ _)
      | (with_reducible exact intervalmonlaw06_lives.mono _)
      | (with_reducible exact intervalmonref01_Decimal.mono _ _)
      | (with_reducible exact LeO.refl _)
      | (with_reducible exact LeO.none _)
      | (with_reducible refine LeO.ite ?_ ?_)
      | (with_reducible refine LeO.bind ?_ (fun _ => ?_))
      | exact ih0 _ _ _ _ _ _
      | exact ih1 _ _ _ _ _
      | exact intervalmonlaw06_agrees.mono _ _
      | exact intervalmonlaw06_lives.mono _
      | exact intervalmonref01_Decimal.mono _ _
      | exact LeO.none _
      | refine LeO.ite ?_ ?_
      | refine LeO.bind ?_ (fun _ => ?_)
set_option maxHeartbeats 8000000 in
set_option maxRecDepth 100000 in
theorem intervalmonlaw06_LexerLimits.calls (k : Nat) (a0 : Int) (a1 : Int) (a2 : Int) (r : Bool) (w : World) (h : intervalmonlaw06_LexerLimits.f k a0 a1 a2 = some r) :
    Calls Tryd.prog 5 #[.int .i64 a0, .int .i64 a1, .int .i64 a2] w fun e w' => e = .returned (.bool r) ∧ Below w.heap.size w w' := by
  have HB := Aside0.mk (Below.refl w.heap.size w)
  have H : ((intervalmonref01_Around.f a0 26).bind fun t228 => (intervalmonlaw06_LexerLimits.l0 k a1 a2 t228 (⟨#[]⟩ : ByteArray) (⟨#[]⟩ : ByteArray) 0)) = some r := h
  clear h
  replace H := Option.bind_eq_some_iff.mp H
  obtain ⟨t228, A40, H⟩ := H
  replace H : (intervalmonlaw06_LexerLimits.l0 k a1 a2 t228 (⟨#[]⟩ : ByteArray) (⟨#[]⟩ : ByteArray) 0) = some r := H
  have A4 := Aside0.mk A40
  clear A40
  have H' := Aside0.mk H
  clear H
  go_enter Tryd.func5, Tryd.ntmps5
  go_wp2_with (first | ((with_reducible refine gate_callee (f := 16) rfl ?_); refine goesL_ (some 15) rfl rfl Tryd.func16 (by kernel_rfl) rfl #[.int .i64 a0, .int .i64 26] rfl (by (try simp only [List.map_toArray, List.map_cons, List.map_nil]); first | done | rfl | (simp only [List.length_drop, List.length_take]; rfl)) ?_; (with_reducible refine (intervalmonref01_Around.calls a0 26 t228 _ A4.out).mono ?_); rintro e w' ⟨rfl, ⟨nd, rfl⟩⟩; refine ⟨_, rfl, ?_⟩))
  go_loopg [8, 9, 10] k (fun kq v8 v9 v10 w' => ∃ (x8_1 : ByteArray) (x9_1 : ByteArray) (x10_1 : Int), v8 = .string x8_1 ∧ v9 = .string x9_1 ∧ v10 = .int .i64 x10_1 ∧ Aside0 (intervalmonlaw06_LexerLimits.l0 kq a1 a2 t228 x8_1 x9_1 x10_1 = some r) ∧ Aside0 (kq ≤ k) ∧ Aside0 (Below w.heap.size w w'))
  case atStart => exact ⟨((⟨#[]⟩ : ByteArray)), ((⟨#[]⟩ : ByteArray)), (0), (by first | rfl | (simp; done) | (simp [*]; done)), (by first | rfl | (simp; done) | (simp [*]; done)), (by first | rfl | (simp; done) | (simp [*]; done)), H', ⟨Nat.le_refl _⟩, ⟨by repeat (first | (with_reducible first | exact HB.out | apply below_alloc | apply pw_below_drewN | apply below_drew1) | exact HB.out)⟩⟩
  case round =>
    clear H'
    try clear c1
    try clear p2
    obtain ⟨x8_1, x9_1, x10_1, rfl, rfl, rfl, HA, HK1, HB⟩ := hrel
    cases gk with
    | zero => exact absurd HA.out (by simp [intervalmonlaw06_LexerLimits.l0])
    | succ k1 =>
      have H := HA.out
      clear HA
      simp only [intervalmonlaw06_LexerLimits.l0] at H
      by_cases c5 : x10_1 < t228
      · rw [if_pos c5] at H
        have c5b0 : decide (x10_1 < t228) = true := decide_eq_true c5
        clear c5
        by_cases c6 : x8_1.size + 1 ≤ 9223372036854775807
        · rw [if_pos c6] at H
          have c6b0 := eq_true c6
          have c6b1 : decide (x8_1.size + 1 ≤ 9223372036854775807) = true := decide_eq_true c6
          try have c6b2 : (9223372036854775807 < x8_1.size + 1) = False := eq_false (Nat.not_lt.2 c6)
          by_cases c7 : x9_1.size + 1 ≤ 9223372036854775807
          · rw [if_pos c7] at H
            have c7b0 := eq_true c7
            have c7b1 : decide (x9_1.size + 1 ≤ 9223372036854775807) = true := decide_eq_true c7
            try have c7b2 : (9223372036854775807 < x9_1.size + 1) = False := eq_false (Nat.not_lt.2 c7)
            have H' := Aside0.mk H
            clear H
            go_wp2
            go_roundg k1
            case measure => have := HK1.out; omega
            case rel => exact ⟨(x8_1 ++ (⟨#[97]⟩ : ByteArray)), (x9_1 ++ (⟨#[48]⟩ : ByteArray)), (wrap64 (x10_1 + 1)), (by first | rfl | (simp; done) | (simp [*]; done)), (by first | rfl | (simp; done) | (simp [*]; done)), (by first | rfl | (simp; done) | (simp [*]; done)), H', ⟨by have := HK1.out; omega⟩, ⟨by repeat (first | (with_reducible first | exact HB.out | apply below_alloc | apply pw_below_drewN | apply below_drew1) | exact HB.out)⟩⟩
          · rw [if_neg c7] at H
            exact absurd H (by simp)
        · rw [if_neg c6] at H
          exact absurd H (by simp)
      · rw [if_neg c5] at H
        have c5b0 : decide (x10_1 < t228) = false := decide_eq_false c5
        clear c5
        replace H := Option.bind_eq_some_iff.mp H
        obtain ⟨t229, A80, H⟩ := H
        replace H : ((intervalmonref01_Decimal.f k1 (wrap64 (1073741824 + t229))).bind fun t230 => ((intervalmonref01_Around.f a2 20).bind fun t231 => (intervalmonlaw06_LexerLimits.l1 k1 x8_1 x9_1 t230 (⟨#[]⟩ : ByteArray) (wrap64 (1990 + t231))))) = some r := H
        have A8 := Aside0.mk A80
        clear A80
        replace H := Option.bind_eq_some_iff.mp H
        obtain ⟨t230, A90, H⟩ := H
        replace H : ((intervalmonref01_Around.f a2 20).bind fun t231 => (intervalmonlaw06_LexerLimits.l1 k1 x8_1 x9_1 t230 (⟨#[]⟩ : ByteArray) (wrap64 (1990 + t231)))) = some r := H
        have A9 := Aside0.mk A90
        clear A90
        replace H := Option.bind_eq_some_iff.mp H
        obtain ⟨t231, A100, H⟩ := H
        replace H : (intervalmonlaw06_LexerLimits.l1 k1 x8_1 x9_1 t230 (⟨#[]⟩ : ByteArray) (wrap64 (1990 + t231))) = some r := H
        have A10 := Aside0.mk A100
        clear A100
        have H' := Aside0.mk H
        clear H
        go_wp2_with (first | ((with_reducible refine gate_callee (f := 18) rfl ?_); refine goesL_ (some 26) rfl rfl Tryd.func18 (by kernel_rfl) rfl #[.int .i64 a1, .int .i64 3] rfl (by (try simp only [List.map_toArray, List.map_cons, List.map_nil]); first | done | rfl | (simp only [List.length_drop, List.length_take]; rfl)) ?_; (with_reducible refine (intervalmonref01_Bound.calls a1 3 t229 _ A8.out).mono ?_); rintro e w' ⟨rfl, ⟨nd, rfl⟩⟩; refine ⟨_, rfl, ?_⟩) | ((with_reducible refine gate_callee (f := 17) rfl ?_); refine goesL_ (some 28) rfl rfl Tryd.func17 (by kernel_rfl) rfl #[.int .i64 (wrap64 (1073741824 + t229))] rfl (by (try simp only [List.map_toArray, List.map_cons, List.map_nil]); first | done | rfl | (simp only [List.length_drop, List.length_take]; rfl)) ?_; (with_reducible refine (intervalmonref01_Decimal.calls k1 (wrap64 (1073741824 + t229)) t230 _ A9.out).mono ?_); rintro e w' ⟨rfl, ⟨nd, rfl⟩⟩; refine ⟨_, rfl, ?_⟩) | ((with_reducible refine gate_callee (f := 16) rfl ?_); refine goesL_ (some 30) rfl rfl Tryd.func16 (by kernel_rfl) rfl #[.int .i64 a2, .int .i64 20] rfl (by (try simp only [List.map_toArray, List.map_cons, List.map_nil]); first | done | rfl | (simp only [List.length_drop, List.length_take]; rfl)) ?_; (with_reducible refine (intervalmonref01_Around.calls a2 20 t231 _ A10.out).mono ?_); rintro e w' ⟨rfl, ⟨nd, rfl⟩⟩; refine ⟨_, rfl, ?_⟩))
        go_loopg [12, 13] k1 (fun kq v12 v13 w' => ∃ (x12_2 : ByteArray) (x13_2 : Int), v12 = .string x12_2 ∧ v13 = .int .i64 x13_2 ∧ Aside0 (intervalmonlaw06_LexerLimits.l1 kq x8_1 x9_1 t230 x12_2 x13_2 = some r) ∧ Aside0 (kq ≤ k1) ∧ Aside0 (Below w.heap.size w w'))
        case atStart => exact ⟨((⟨#[]⟩ : ByteArray)), (wrap64 (1990 + t231)), (by first | rfl | (simp; done) | (simp [*]; done)), (by first | rfl | (simp; done) | (simp [*]; done)), H', ⟨Nat.le_refl _⟩, ⟨by repeat (first | (with_reducible first | exact HB.out | apply below_alloc | apply pw_below_drewN | apply below_drew1) | exact HB.out)⟩⟩
        case round =>
          clear H'
          try clear c1
          try clear p2
          try clear c5
          try clear c5b0
          try clear c6
          try clear c6b0
          try clear c6b1
          try clear c6b2
          try clear p6
          try clear c7
          try clear c7b0
          try clear c7b1
          try clear c7b2
          try clear p2
          obtain ⟨x12_2, x13_2, rfl, rfl, HA, HK2, HB⟩ := hrel
          cases gk with
          | zero => exact absurd HA.out (by simp [intervalmonlaw06_LexerLimits.l1])
          | succ k2 =>
            have H := HA.out
            clear HA
            simp only [intervalmonlaw06_LexerLimits.l1] at H
            by_cases c11 : x13_2 > 0
            · rw [if_pos c11] at H
              have c11b0 : decide (0 < x13_2) = true := decide_eq_true c11
              clear c11
              by_cases c12 : x12_2.size + 1 ≤ 9223372036854775807
              · rw [if_pos c12] at H
                have c12b0 := eq_true c12
                have c12b1 : decide (x12_2.size + 1 ≤ 9223372036854775807) = true := decide_eq_true c12
                try have c12b2 : (9223372036854775807 < x12_2.size + 1) = False := eq_false (Nat.not_lt.2 c12)
                have H' := Aside0.mk H
                clear H
                go_wp2
                go_roundg k2
                case measure => have := HK1.out; have := HK2.out; omega
                case rel => exact ⟨(x12_2 ++ (⟨#[43]⟩ : ByteArray)), (wrap64 (x13_2 - 1)), (by first | rfl | (simp; done) | (simp [*]; done)), (by first | rfl | (simp; done) | (simp [*]; done)), H', ⟨by have := HK1.out; have := HK2.out; omega⟩, ⟨by repeat (first | (with_reducible first | exact HB.out | apply below_alloc | apply pw_below_drewN | apply below_drew1) | exact HB.out)⟩⟩
              · rw [if_neg c12] at H
                exact absurd H (by simp)
            · rw [if_neg c11] at H
              have c11b0 : decide (0 < x13_2) = false := decide_eq_false c11
              clear c11
              by_cases c13 : 1 + x8_1.size ≤ 9223372036854775807
              · rw [if_pos c13] at H
                have c13b0 := eq_true c13
                have c13b1 : decide (1 + x8_1.size ≤ 9223372036854775807) = true := decide_eq_true c13
                try have c13b2 : (9223372036854775807 < 1 + x8_1.size) = False := eq_false (Nat.not_lt.2 c13)
                replace H := Option.bind_eq_some_iff.mp H
                obtain ⟨t232, A140, H⟩ := H
                replace H : (if t232 = true then (if 3 + x8_1.size ≤ 9223372036854775807 then (if ((⟨#[43, 32, 34]⟩ : ByteArray) ++ x8_1).size + 1 ≤ 9223372036854775807 then ((intervalmonlaw06_agrees.f k2 (((⟨#[43, 32, 34]⟩ : ByteArray) ++ x8_1) ++ (⟨#[34]⟩ : ByteArray))).bind fun t233 => (if t233 = true then (if 1 + x9_1.size ≤ 9223372036854775807 then (if ((⟨#[43]⟩ : ByteArray) ++ x9_1).size + t230.size ≤ 9223372036854775807 then ((intervalmonlaw06_agrees.f k2 (((⟨#[43]⟩ : ByteArray) ++ x9_1) ++ t230)).bind fun t234 => (if t234 = true then (if t230.size + x9_1.size ≤ 9223372036854775807 then ((intervalmonlaw06_agrees.f k2 (t230 ++ x9_1)).bind fun t235 => (if t235 = true then ((intervalmonlaw06_agrees.f k2 x12_2).bind fun t236 => (if t236 = true then ((intervalmonlaw06_lives.f k2).bind fun t237 => (some t237)) else (some false))) else (some false))) else (none)) else (some false))) else (none)) else (none)) else (some false))) else (none)) else (none)) else (some false)) = some r := H
                have A14 := Aside0.mk A140
                clear A140
                by_cases c15 : t232 = true
                · subst c15
                  have H1 : (if 3 + x8_1.size ≤ 9223372036854775807 then (if ((⟨#[43, 32, 34]⟩ : ByteArray) ++ x8_1).size + 1 ≤ 9223372036854775807 then ((intervalmonlaw06_agrees.f k2 (((⟨#[43, 32, 34]⟩ : ByteArray) ++ x8_1) ++ (⟨#[34]⟩ : ByteArray))).bind fun t233 => (if t233 = true then (if 1 + x9_1.size ≤ 9223372036854775807 then (if ((⟨#[43]⟩ : ByteArray) ++ x9_1).size + t230.size ≤ 9223372036854775807 then ((intervalmonlaw06_agrees.f k2 (((⟨#[43]⟩ : ByteArray) ++ x9_1) ++ t230)).bind fun t234 => (if t234 = true then (if t230.size + x9_1.size ≤ 9223372036854775807 then ((intervalmonlaw06_agrees.f k2 (t230 ++ x9_1)).bind fun t235 => (if t235 = true then ((intervalmonlaw06_agrees.f k2 x12_2).bind fun t236 => (if t236 = true then ((intervalmonlaw06_lives.f k2).bind fun t237 => (some t237)) else (some false))) else (some false))) else (none)) else (some false))) else (none)) else (none)) else (some false))) else (none)) else (none)) = some r := by rw [if_pos rfl] at H; exact H
                  clear H
                  have H := H1
                  clear H1
                  by_cases c16 : 3 + x8_1.size ≤ 9223372036854775807
                  · rw [if_pos c16] at H
                    have c16b0 := eq_true c16
                    have c16b1 : decide (3 + x8_1.size ≤ 9223372036854775807) = true := decide_eq_true c16
                    try have c16b2 : (9223372036854775807 < 3 + x8_1.size) = False := eq_false (Nat.not_lt.2 c16)
                    by_cases c17 : ((⟨#[43, 32, 34]⟩ : ByteArray) ++ x8_1).size + 1 ≤ 9223372036854775807
                    · rw [if_pos c17] at H
                      have c17b0 := eq_true c17
                      (try (have c17b0x := c17b0; simp only [ByteArray.size_extract, ByteArray.size_append, Go.Proofs.YtecojcpccglelaaDoor.Aid.size_lit, List.length_cons, List.length_nil, Nat.reduceAdd, Int.cast_ofNat_Int] at c17b0x))
                      have c17b1 : decide (((⟨#[43, 32, 34]⟩ : ByteArray) ++ x8_1).size + 1 ≤ 9223372036854775807) = true := decide_eq_true c17
                      (try (have c17b1x := c17b1; simp only [ByteArray.size_extract, ByteArray.size_append, Go.Proofs.YtecojcpccglelaaDoor.Aid.size_lit, List.length_cons, List.length_nil, Nat.reduceAdd, Int.cast_ofNat_Int] at c17b1x))
                      try have c17b2 : (9223372036854775807 < ((⟨#[43, 32, 34]⟩ : ByteArray) ++ x8_1).size + 1) = False := eq_false (Nat.not_lt.2 c17)
                      (try (have c17b2x := c17b2; simp only [ByteArray.size_extract, ByteArray.size_append, Go.Proofs.YtecojcpccglelaaDoor.Aid.size_lit, List.length_cons, List.length_nil, Nat.reduceAdd, Int.cast_ofNat_Int] at c17b2x))
                      replace H := Option.bind_eq_some_iff.mp H
                      obtain ⟨t233, A180, H⟩ := H
                      replace H : (if t233 = true then (if 1 + x9_1.size ≤ 9223372036854775807 then (if ((⟨#[43]⟩ : ByteArray) ++ x9_1).size + t230.size ≤ 9223372036854775807 then ((intervalmonlaw06_agrees.f k2 (((⟨#[43]⟩ : ByteArray) ++ x9_1) ++ t230)).bind fun t234 => (if t234 = true then (if t230.size + x9_1.size ≤ 9223372036854775807 then ((intervalmonlaw06_agrees.f k2 (t230 ++ x9_1)).bind fun t235 => (if t235 = true then ((intervalmonlaw06_agrees.f k2 x12_2).bind fun t236 => (if t236 = true then ((intervalmonlaw06_lives.f k2).bind fun t237 => (some t237)) else (some false))) else (some false))) else (none)) else (some false))) else (none)) else (none)) else (some false)) = some r := H
                      have A18 := Aside0.mk A180
                      clear A180
                      by_cases c19 : t233 = true
                      · subst c19
                        have H1 : (if 1 + x9_1.size ≤ 9223372036854775807 then (if ((⟨#[43]⟩ : ByteArray) ++ x9_1).size + t230.size ≤ 9223372036854775807 then ((intervalmonlaw06_agrees.f k2 (((⟨#[43]⟩ : ByteArray) ++ x9_1) ++ t230)).bind fun t234 => (if t234 = true then (if t230.size + x9_1.size ≤ 9223372036854775807 then ((intervalmonlaw06_agrees.f k2 (t230 ++ x9_1)).bind fun t235 => (if t235 = true then ((intervalmonlaw06_agrees.f k2 x12_2).bind fun t236 => (if t236 = true then ((intervalmonlaw06_lives.f k2).bind fun t237 => (some t237)) else (some false))) else (some false))) else (none)) else (some false))) else (none)) else (none)) = some r := by rw [if_pos rfl] at H; exact H
                        clear H
                        have H := H1
                        clear H1
                        by_cases c20 : 1 + x9_1.size ≤ 9223372036854775807
                        · rw [if_pos c20] at H
                          have c20b0 := eq_true c20
                          have c20b1 : decide (1 + x9_1.size ≤ 9223372036854775807) = true := decide_eq_true c20
                          try have c20b2 : (9223372036854775807 < 1 + x9_1.size) = False := eq_false (Nat.not_lt.2 c20)
                          by_cases c21 : ((⟨#[43]⟩ : ByteArray) ++ x9_1).size + t230.size ≤ 9223372036854775807
                          · rw [if_pos c21] at H
                            have c21b0 := eq_true c21
                            (try (have c21b0x := c21b0; simp only [ByteArray.size_extract, ByteArray.size_append, Go.Proofs.YtecojcpccglelaaDoor.Aid.size_lit, List.length_cons, List.length_nil, Nat.reduceAdd, Int.cast_ofNat_Int] at c21b0x))
                            have c21b1 : decide (((⟨#[43]⟩ : ByteArray) ++ x9_1).size + t230.size ≤ 9223372036854775807) = true := decide_eq_true c21
                            (try (have c21b1x := c21b1; simp only [ByteArray.size_extract, ByteArray.size_append, Go.Proofs.YtecojcpccglelaaDoor.Aid.size_lit, List.length_cons, List.length_nil, Nat.reduceAdd, Int.cast_ofNat_Int] at c21b1x))
                            try have c21b2 : (9223372036854775807 < ((⟨#[43]⟩ : ByteArray) ++ x9_1).size + t230.size) = False := eq_false (Nat.not_lt.2 c21)
                            (try (have c21b2x := c21b2; simp only [ByteArray.size_extract, ByteArray.size_append, Go.Proofs.YtecojcpccglelaaDoor.Aid.size_lit, List.length_cons, List.length_nil, Nat.reduceAdd, Int.cast_ofNat_Int] at c21b2x))
                            replace H := Option.bind_eq_some_iff.mp H
                            obtain ⟨t234, A220, H⟩ := H
                            replace H : (if t234 = true then (if t230.size + x9_1.size ≤ 9223372036854775807 then ((intervalmonlaw06_agrees.f k2 (t230 ++ x9_1)).bind fun t235 => (if t235 = true then ((intervalmonlaw06_agrees.f k2 x12_2).bind fun t236 => (if t236 = true then ((intervalmonlaw06_lives.f k2).bind fun t237 => (some t237)) else (some false))) else (some false))) else (none)) else (some false)) = some r := H
                            have A22 := Aside0.mk A220
                            clear A220
                            by_cases c23 : t234 = true
                            · subst c23
                              have H1 : (if t230.size + x9_1.size ≤ 9223372036854775807 then ((intervalmonlaw06_agrees.f k2 (t230 ++ x9_1)).bind fun t235 => (if t235 = true then ((intervalmonlaw06_agrees.f k2 x12_2).bind fun t236 => (if t236 = true then ((intervalmonlaw06_lives.f k2).bind fun t237 => (some t237)) else (some false))) else (some false))) else (none)) = some r := by rw [if_pos rfl] at H; exact H
                              clear H
                              have H := H1
                              clear H1
                              by_cases c24 : t230.size + x9_1.size ≤ 9223372036854775807
                              · rw [if_pos c24] at H
                                have c24b0 := eq_true c24
                                have c24b1 : decide (t230.size + x9_1.size ≤ 9223372036854775807) = true := decide_eq_true c24
                                try have c24b2 : (9223372036854775807 < t230.size + x9_1.size) = False := eq_false (Nat.not_lt.2 c24)
                                replace H := Option.bind_eq_some_iff.mp H
                                obtain ⟨t235, A250, H⟩ := H
                                replace H : (if t235 = true then ((intervalmonlaw06_agrees.f k2 x12_2).bind fun t236 => (if t236 = true then ((intervalmonlaw06_lives.f k2).bind fun t237 => (some t237)) else (some false))) else (some false)) = some r := H
                                have A25 := Aside0.mk A250
                                clear A250
                                by_cases c26 : t235 = true
                                · subst c26
                                  have H1 : ((intervalmonlaw06_agrees.f k2 x12_2).bind fun t236 => (if t236 = true then ((intervalmonlaw06_lives.f k2).bind fun t237 => (some t237)) else (some false))) = some r := by rw [if_pos rfl] at H; exact H
                                  clear H
                                  have H := H1
                                  clear H1
                                  replace H := Option.bind_eq_some_iff.mp H
                                  obtain ⟨t236, A270, H⟩ := H
                                  replace H : (if t236 = true then ((intervalmonlaw06_lives.f k2).bind fun t237 => (some t237)) else (some false)) = some r := H
                                  have A27 := Aside0.mk A270
                                  clear A270
                                  by_cases c28 : t236 = true
                                  · subst c28
                                    have H1 : ((intervalmonlaw06_lives.f k2).bind fun t237 => (some t237)) = some r := by rw [if_pos rfl] at H; exact H
                                    clear H
                                    have H := H1
                                    clear H1
                                    replace H := Option.bind_eq_some_iff.mp H
                                    obtain ⟨t237, A290, H⟩ := H
                                    replace H : (some t237) = some r := H
                                    have A29 := Aside0.mk A290
                                    clear A290
                                    obtain rfl := Option.some.inj H
                                    go_wp2_with (first | ((with_reducible refine gate_callee (f := 11) rfl ?_); refine goesL_ (some 40) rfl rfl Tryd.func11 (by kernel_rfl) rfl #[.string ((⟨#[43]⟩ : ByteArray) ++ x8_1)] rfl (by (try simp only [List.map_toArray, List.map_cons, List.map_nil]); first | done | rfl | (simp only [List.length_drop, List.length_take]; rfl)) ?_; (with_reducible refine (intervalmonlaw06_agrees.calls k2 ((⟨#[43]⟩ : ByteArray) ++ x8_1) true _ A14.out).mono ?_); rintro e w30 ⟨rfl, hb⟩; refine ⟨_, rfl, ?_⟩; have n0_ := Aside0.mk (below_step (by repeat (first | (with_reducible first | exact HB.out | apply below_alloc | apply pw_below_drewN | apply below_drew1) | exact HB.out)) hb); clear HB; have HB := n0_; clear n0_; (try clear hb); (try clear hb2); (try clear hk); (try clear hi)) | (go_at_call 11; (with_reducible refine (intervalmonlaw06_agrees.calls k2 (((⟨#[43, 32, 34]⟩ : ByteArray) ++ x8_1) ++ (⟨#[34]⟩ : ByteArray)) true _ A18.out).mono ?_); rintro e w31 ⟨rfl, hb⟩; have n0_ := Aside0.mk (below_step (by repeat (first | (with_reducible first | exact HB.out | apply below_alloc | apply pw_below_drewN | apply below_drew1) | exact HB.out)) hb); clear HB; have HB := n0_; clear n0_; (try clear hb); (try clear hb2); (try clear hk); (try clear hi)) | (go_at_call 11; (with_reducible refine (intervalmonlaw06_agrees.calls k2 (((⟨#[43]⟩ : ByteArray) ++ x9_1) ++ t230) true _ A22.out).mono ?_); rintro e w32 ⟨rfl, hb⟩; have n0_ := Aside0.mk (below_step (by repeat (first | (with_reducible first | exact HB.out | apply below_alloc | apply pw_below_drewN | apply below_drew1) | exact HB.out)) hb); clear HB; have HB := n0_; clear n0_; (try clear hb); (try clear hb2); (try clear hk); (try clear hi)) | (go_at_call 11; (with_reducible refine (intervalmonlaw06_agrees.calls k2 (t230 ++ x9_1) true _ A25.out).mono ?_); rintro e w33 ⟨rfl, hb⟩; have n0_ := Aside0.mk (below_step (by repeat (first | (with_reducible first | exact HB.out | apply below_alloc | apply pw_below_drewN | apply below_drew1) | exact HB.out)) hb); clear HB; have HB := n0_; clear n0_; (try clear hb); (try clear hb2); (try clear hk); (try clear hi)) | (go_at_call 11; (with_reducible refine (intervalmonlaw06_agrees.calls k2 x12_2 true _ A27.out).mono ?_); rintro e w34 ⟨rfl, hb⟩; have n0_ := Aside0.mk (below_step (by repeat (first | (with_reducible first | exact HB.out | apply below_alloc | apply pw_below_drewN | apply below_drew1) | exact HB.out)) hb); clear HB; have HB := n0_; clear n0_; (try clear hb); (try clear hb2); (try clear hk); (try clear hi)) | (go_at_call 14; (with_reducible refine (intervalmonlaw06_lives.calls k2  t237 _ A29.out).mono ?_); rintro e w35 ⟨rfl, hb⟩; have n0_ := Aside0.mk (below_step (by repeat (first | (with_reducible first | exact HB.out | apply below_alloc | apply pw_below_drewN | apply below_drew1) | exact HB.out)) hb); clear HB; have HB := n0_; clear n0_; (try clear hb); (try clear hb2); (try clear hk); (try clear hi)))
                                    go_ret
                                    exact ⟨by first | rfl | (simp [errW_none, errW_some] <;> rfl) | (simp [*, errW_none, errW_some] <;> rfl), by repeat (first | (with_reducible first | exact HB.out | apply below_alloc | apply pw_below_drewN | apply below_drew1) | exact HB.out)⟩
                                  · replace c28 := Bool.eq_false_iff.mpr c28
                                    subst c28
                                    have H1 : (some false) = some r := by rw [if_neg (show ¬ (false = true) by decide)] at H; exact H
                                    clear H
                                    have H := H1
                                    clear H1
                                    obtain rfl := Option.some.inj H
                                    go_wp2_with (first | ((with_reducible refine gate_callee (f := 11) rfl ?_); refine goesL_ (some 40) rfl rfl Tryd.func11 (by kernel_rfl) rfl #[.string ((⟨#[43]⟩ : ByteArray) ++ x8_1)] rfl (by (try simp only [List.map_toArray, List.map_cons, List.map_nil]); first | done | rfl | (simp only [List.length_drop, List.length_take]; rfl)) ?_; (with_reducible refine (intervalmonlaw06_agrees.calls k2 ((⟨#[43]⟩ : ByteArray) ++ x8_1) true _ A14.out).mono ?_); rintro e w36 ⟨rfl, hb⟩; refine ⟨_, rfl, ?_⟩; have n0_ := Aside0.mk (below_step (by repeat (first | (with_reducible first | exact HB.out | apply below_alloc | apply pw_below_drewN | apply below_drew1) | exact HB.out)) hb); clear HB; have HB := n0_; clear n0_; (try clear hb); (try clear hb2); (try clear hk); (try clear hi)) | (go_at_call 11; (with_reducible refine (intervalmonlaw06_agrees.calls k2 (((⟨#[43, 32, 34]⟩ : ByteArray) ++ x8_1) ++ (⟨#[34]⟩ : ByteArray)) true _ A18.out).mono ?_); rintro e w37 ⟨rfl, hb⟩; have n0_ := Aside0.mk (below_step (by repeat (first | (with_reducible first | exact HB.out | apply below_alloc | apply pw_below_drewN | apply below_drew1) | exact HB.out)) hb); clear HB; have HB := n0_; clear n0_; (try clear hb); (try clear hb2); (try clear hk); (try clear hi)) | (go_at_call 11; (with_reducible refine (intervalmonlaw06_agrees.calls k2 (((⟨#[43]⟩ : ByteArray) ++ x9_1) ++ t230) true _ A22.out).mono ?_); rintro e w38 ⟨rfl, hb⟩; have n0_ := Aside0.mk (below_step (by repeat (first | (with_reducible first | exact HB.out | apply below_alloc | apply pw_below_drewN | apply below_drew1) | exact HB.out)) hb); clear HB; have HB := n0_; clear n0_; (try clear hb); (try clear hb2); (try clear hk); (try clear hi)) | (go_at_call 11; (with_reducible refine (intervalmonlaw06_agrees.calls k2 (t230 ++ x9_1) true _ A25.out).mono ?_); rintro e w39 ⟨rfl, hb⟩; have n0_ := Aside0.mk (below_step (by repeat (first | (with_reducible first | exact HB.out | apply below_alloc | apply pw_below_drewN | apply below_drew1) | exact HB.out)) hb); clear HB; have HB := n0_; clear n0_; (try clear hb); (try clear hb2); (try clear hk); (try clear hi)) | (go_at_call 11; (with_reducible refine (intervalmonlaw06_agrees.calls k2 x12_2 false _ A27.out).mono ?_); rintro e w40 ⟨rfl, hb⟩; have n0_ := Aside0.mk (below_step (by repeat (first | (with_reducible first | exact HB.out | apply below_alloc | apply pw_below_drewN | apply below_drew1) | exact HB.out)) hb); clear HB; have HB := n0_; clear n0_; (try clear hb); (try clear hb2); (try clear hk); (try clear hi)))
                                    go_ret
                                    exact ⟨by first | rfl | (simp [errW_none, errW_some] <;> rfl) | (simp [*, errW_none, errW_some] <;> rfl), by repeat (first | (with_reducible first | exact HB.out | apply below_alloc | apply pw_below_drewN | apply below_drew1) | exact HB.out)⟩
                                · replace c26 := Bool.eq_false_iff.mpr c26
                                  subst c26
                                  have H1 : (some false) = some r := by rw [if_neg (show ¬ (false = true) by decide)] at H; exact H
                                  clear H
                                  have H := H1
                                  clear H1
                                  obtain rfl := Option.some.inj H
                                  go_wp2_with (first | ((with_reducible refine gate_callee (f := 11) rfl ?_); refine goesL_ (some 40) rfl rfl Tryd.func11 (by kernel_rfl) rfl #[.string ((⟨#[43]⟩ : ByteArray) ++ x8_1)] rfl (by (try simp only [List.map_toArray, List.map_cons, List.map_nil]); first | done | rfl | (simp only [List.length_drop, List.length_take]; rfl)) ?_; (with_reducible refine (intervalmonlaw06_agrees.calls k2 ((⟨#[43]⟩ : ByteArray) ++ x8_1) true _ A14.out).mono ?_); rintro e w41 ⟨rfl, hb⟩; refine ⟨_, rfl, ?_⟩; have n0_ := Aside0.mk (below_step (by repeat (first | (with_reducible first | exact HB.out | apply below_alloc | apply pw_below_drewN | apply below_drew1) | exact HB.out)) hb); clear HB; have HB := n0_; clear n0_; (try clear hb); (try clear hb2); (try clear hk); (try clear hi)) | (go_at_call 11; (with_reducible refine (intervalmonlaw06_agrees.calls k2 (((⟨#[43, 32, 34]⟩ : ByteArray) ++ x8_1) ++ (⟨#[34]⟩ : ByteArray)) true _ A18.out).mono ?_); rintro e w42 ⟨rfl, hb⟩; have n0_ := Aside0.mk (below_step (by repeat (first | (with_reducible first | exact HB.out | apply below_alloc | apply pw_below_drewN | apply below_drew1) | exact HB.out)) hb); clear HB; have HB := n0_; clear n0_; (try clear hb); (try clear hb2); (try clear hk); (try clear hi)) | (go_at_call 11; (with_reducible refine (intervalmonlaw06_agrees.calls k2 (((⟨#[43]⟩ : ByteArray) ++ x9_1) ++ t230) true _ A22.out).mono ?_); rintro e w43 ⟨rfl, hb⟩; have n0_ := Aside0.mk (below_step (by repeat (first | (with_reducible first | exact HB.out | apply below_alloc | apply pw_below_drewN | apply below_drew1) | exact HB.out)) hb); clear HB; have HB := n0_; clear n0_; (try clear hb); (try clear hb2); (try clear hk); (try clear hi)) | (go_at_call 11; (with_reducible refine (intervalmonlaw06_agrees.calls k2 (t230 ++ x9_1) false _ A25.out).mono ?_); rintro e w44 ⟨rfl, hb⟩; have n0_ := Aside0.mk (below_step (by repeat (first | (with_reducible first | exact HB.out | apply below_alloc | apply pw_below_drewN | apply below_drew1) | exact HB.out)) hb); clear HB; have HB := n0_; clear n0_; (try clear hb); (try clear hb2); (try clear hk); (try clear hi)))
                                  go_ret
                                  exact ⟨by first | rfl | (simp [errW_none, errW_some] <;> rfl) | (simp [*, errW_none, errW_some] <;> rfl), by repeat (first | (with_reducible first | exact HB.out | apply below_alloc | apply pw_below_drewN | apply below_drew1) | exact HB.out)⟩
                              · rw [if_neg c24] at H
                                exact absurd H (by simp)
                            · replace c23 := Bool.eq_false_iff.mpr c23
                              subst c23
                              have H1 : (some false) = some r := by rw [if_neg (show ¬ (false = true) by decide)] at H; exact H
                              clear H
                              have H := H1
                              clear H1
                              obtain rfl := Option.some.inj H
                              go_wp2_with (first | ((with_reducible refine gate_callee (f := 11) rfl ?_); refine goesL_ (some 40) rfl rfl Tryd.func11 (by kernel_rfl) rfl #[.string ((⟨#[43]⟩ : ByteArray) ++ x8_1)] rfl (by (try simp only [List.map_toArray, List.map_cons, List.map_nil]); first | done | rfl | (simp only [List.length_drop, List.length_take]; rfl)) ?_; (with_reducible refine (intervalmonlaw06_agrees.calls k2 ((⟨#[43]⟩ : ByteArray) ++ x8_1) true _ A14.out).mono ?_); rintro e w45 ⟨rfl, hb⟩; refine ⟨_, rfl, ?_⟩; have n0_ := Aside0.mk (below_step (by repeat (first | (with_reducible first | exact HB.out | apply below_alloc | apply pw_below_drewN | apply below_drew1) | exact HB.out)) hb); clear HB; have HB := n0_; clear n0_; (try clear hb); (try clear hb2); (try clear hk); (try clear hi)) | (go_at_call 11; (with_reducible refine (intervalmonlaw06_agrees.calls k2 (((⟨#[43, 32, 34]⟩ : ByteArray) ++ x8_1) ++ (⟨#[34]⟩ : ByteArray)) true _ A18.out).mono ?_); rintro e w46 ⟨rfl, hb⟩; have n0_ := Aside0.mk (below_step (by repeat (first | (with_reducible first | exact HB.out | apply below_alloc | apply pw_below_drewN | apply below_drew1) | exact HB.out)) hb); clear HB; have HB := n0_; clear n0_; (try clear hb); (try clear hb2); (try clear hk); (try clear hi)) | (go_at_call 11; (with_reducible refine (intervalmonlaw06_agrees.calls k2 (((⟨#[43]⟩ : ByteArray) ++ x9_1) ++ t230) false _ A22.out).mono ?_); rintro e w47 ⟨rfl, hb⟩; have n0_ := Aside0.mk (below_step (by repeat (first | (with_reducible first | exact HB.out | apply below_alloc | apply pw_below_drewN | apply below_drew1) | exact HB.out)) hb); clear HB; have HB := n0_; clear n0_; (try clear hb); (try clear hb2); (try clear hk); (try clear hi)))
                              go_ret
                              exact ⟨by first | rfl | (simp [errW_none, errW_some] <;> rfl) | (simp [*, errW_none, errW_some] <;> rfl), by repeat (first | (with_reducible first | exact HB.out | apply below_alloc | apply pw_below_drewN | apply below_drew1) | exact HB.out)⟩
                          · rw [if_neg c21] at H
                            exact absurd H (by simp)
                        · rw [if_neg c20] at H
                          exact absurd H (by simp)
                      · replace c19 := Bool.eq_false_iff.mpr c19
                        subst c19
                        have H1 : (some false) = some r := by rw [if_neg (show ¬ (false = true) by decide)] at H; exact H
                        clear H
                        have H := H1
                        clear H1
                        obtain rfl := Option.some.inj H
                        go_wp2_with (first | ((with_reducible refine gate_callee (f := 11) rfl ?_); refine goesL_ (some 40) rfl rfl Tryd.func11 (by kernel_rfl) rfl #[.string ((⟨#[43]⟩ : ByteArray) ++ x8_1)] rfl (by (try simp only [List.map_toArray, List.map_cons, List.map_nil]); first | done | rfl | (simp only [List.length_drop, List.length_take]; rfl)) ?_; (with_reducible refine (intervalmonlaw06_agrees.calls k2 ((⟨#[43]⟩ : ByteArray) ++ x8_1) true _ A14.out).mono ?_); rintro e w48 ⟨rfl, hb⟩; refine ⟨_, rfl, ?_⟩; have n0_ := Aside0.mk (below_step (by repeat (first | (with_reducible first | exact HB.out | apply below_alloc | apply pw_below_drewN | apply below_drew1) | exact HB.out)) hb); clear HB; have HB := n0_; clear n0_; (try clear hb); (try clear hb2); (try clear hk); (try clear hi)) | (go_at_call 11; (with_reducible refine (intervalmonlaw06_agrees.calls k2 (((⟨#[43, 32, 34]⟩ : ByteArray) ++ x8_1) ++ (⟨#[34]⟩ : ByteArray)) false _ A18.out).mono ?_); rintro e w49 ⟨rfl, hb⟩; have n0_ := Aside0.mk (below_step (by repeat (first | (with_reducible first | exact HB.out | apply below_alloc | apply pw_below_drewN | apply below_drew1) | exact HB.out)) hb); clear HB; have HB := n0_; clear n0_; (try clear hb); (try clear hb2); (try clear hk); (try clear hi)))
                        go_ret
                        exact ⟨by first | rfl | (simp [errW_none, errW_some] <;> rfl) | (simp [*, errW_none, errW_some] <;> rfl), by repeat (first | (with_reducible first | exact HB.out | apply below_alloc | apply pw_below_drewN | apply below_drew1) | exact HB.out)⟩
                    · rw [if_neg c17] at H
                      exact absurd H (by simp)
                  · rw [if_neg c16] at H
                    exact absurd H (by simp)
                · replace c15 := Bool.eq_false_iff.mpr c15
                  subst c15
                  have H1 : (some false) = some r := by rw [if_neg (show ¬ (false = true) by decide)] at H; exact H
                  clear H
                  have H := H1
                  clear H1
                  obtain rfl := Option.some.inj H
                  go_wp2_with (first | ((with_reducible refine gate_callee (f := 11) rfl ?_); refine goesL_ (some 40) rfl rfl Tryd.func11 (by kernel_rfl) rfl #[.string ((⟨#[43]⟩ : ByteArray) ++ x8_1)] rfl (by (try simp only [List.map_toArray, List.map_cons, List.map_nil]); first | done | rfl | (simp only [List.length_drop, List.length_take]; rfl)) ?_; (with_reducible refine (intervalmonlaw06_agrees.calls k2 ((⟨#[43]⟩ : ByteArray) ++ x8_1) false _ A14.out).mono ?_); rintro e w50 ⟨rfl, hb⟩; refine ⟨_, rfl, ?_⟩; have n0_ := Aside0.mk (below_step (by repeat (first | (with_reducible first | exact HB.out | apply below_alloc | apply pw_below_drewN | apply below_drew1) | exact HB.out)) hb); clear HB; have HB := n0_; clear n0_; (try clear hb); (try clear hb2); (try clear hk); (try clear hi)))
                  go_ret
                  exact ⟨by first | rfl | (simp [errW_none, errW_some] <;> rfl) | (simp [*, errW_none, errW_some] <;> rfl), by repeat (first | (with_reducible first | exact HB.out | apply below_alloc | apply pw_below_drewN | apply below_drew1) | exact HB.out)⟩
              · rw [if_neg c13] at H
                exact absurd H (by simp)

/-- THE ONE PURE STATEMENT of intervalmonlaw06_LexerLimits: yours. -/
def intervalmonlaw06_LexerLimits.Pure : Prop := ∀ (a0 : Int) (a1 : Int) (a2 : Int), (Lit.int .i64 a0).wf = true → (Lit.int .i64 a1).wf = true → (Lit.int .i64 a2).wf = true → ∃ k, intervalmonlaw06_LexerLimits.f k a0 a1 a2 = some true
theorem intervalmonlaw06_LexerLimits.walk (P : intervalmonlaw06_LexerLimits.Pure) (a0 : Int) (a1 : Int) (a2 : Int) (w : World) (w0 : (Lit.int .i64 a0).wf = true) (w1 : (Lit.int .i64 a1).wf = true) (w2 : (Lit.int .i64 a2).wf = true) :
    Calls Tryd.prog 5 #[.int .i64 a0, .int .i64 a1, .int .i64 a2] w fun e w' => e = .returned (.bool true) ∧ Below w.heap.size w w' := by
  obtain ⟨k, h⟩ := P a0 a1 a2 w0 w1 w2
  refine (intervalmonlaw06_LexerLimits.calls k a0 a1 a2 true w h).mono ?_
  rintro e w' ⟨rfl, hd⟩
  exact ⟨rfl, hd⟩

end Go.Proofs.YtecojcpccglelaaDoor.PAll
