/- Printed by this session's driver drive.py over the kit's print, with hand-proved callees. -/
import Derived.Test.YtecojcpccglelaaDoorPAllx0
import Derived.Test.YtecojcpccglelaaDoorAid
import Derived.Test.YtecojcpccglelaaDoorPAllx4
namespace Go.Proofs.YtecojcpccglelaaDoor.PAll
open Go.RowKit Go.Proofs.YtecojcpccglelaaDoorW.PrintWords Go.Proofs.YtecojcpccglelaaDoorW.PrintLast Go.Proofs.YtecojcpccglelaaDoorW.PrintMore
attribute [local go_sem] max2_int min2_int max_two min_two max_three min_three max_four min_four   -- for this text's walks alone
attribute [local go_sem high] Go.Proofs.YtecojcpccglelaaDoor.Aid.cell_lit
set_option linter.unusedVariables false
set_option linter.unusedSimpArgs false

/-! ### intervalmonref06_quoted: function 46 -/
mutual
def intervalmonref06_quoted.j1 : Nat → ByteArray → Int → Int → Option (ByteArray × Int)
  | 0, _, _, _ => none
  | k + 1, x0, x1, x6 => if x6 = (x0.size : Int) then (some ((⟨#[]⟩ : ByteArray), 2)) else (if 0 ≤ (wrap64 (x1 + 1)) then (if (wrap64 (x1 + 1)) ≤ x6 then (if x6 ≤ (x0.size : Int) then (intervalmonref06_quoted.l1 k (x0.extract ((wrap64 (x1 + 1)) : Int).toNat (x6 : Int).toNat) 0) else (none)) else (none)) else (none))
def intervalmonref06_quoted.l1 : Nat → ByteArray → Int → Option (ByteArray × Int)
  | 0, _, _ => none
  | k + 1, x7, x8 => if x8 < (x7.size : Int) then (if 0 ≤ x8 then (if x8 ≤ (wrap64 (x8 + 1)) then (if (wrap64 (x8 + 1)) ≤ (x7.size : Int) then ((intervalmonref05_Value.f k (x7.extract (x8 : Int).toNat ((wrap64 (x8 + 1)) : Int).toNat)).bind fun t129 => (if t129 = true then (intervalmonref06_quoted.l1 k x7 (wrap64 (x8 + 1))) else (some ((⟨#[]⟩ : ByteArray), 2)))) else (none)) else (none)) else (none)) else (if (x7.size : Int) > 16 then (some ((⟨#[]⟩ : ByteArray), 4)) else (some (x7, 0)))
def intervalmonref06_quoted.l0 : Nat → ByteArray → Int → Int → Option (ByteArray × Int)
  | 0, _, _, _ => none
  | k + 1, x0, x1, x6 => if x6 < (x0.size : Int) then (if 0 ≤ x6 then (if (bt x0 x6) = 34 then (intervalmonref06_quoted.j1 k x0 x1 x6) else (intervalmonref06_quoted.l0 k x0 x1 (wrap64 (x6 + 1)))) else (none)) else (intervalmonref06_quoted.j1 k x0 x1 x6)
end
def intervalmonref06_quoted.f (k : Nat) (a0 : ByteArray) (a1 : Int) : Option (ByteArray × Int) := intervalmonref06_quoted.l0 k a0 a1 (wrap64 (a1 + 1))
theorem intervalmonref06_quoted.mono_l : ∀ k, (∀ y0 y1 y2, LeO (intervalmonref06_quoted.j1 k y0 y1 y2) (intervalmonref06_quoted.j1 (k + 1) y0 y1 y2)) ∧ (∀ y0 y1, LeO (intervalmonref06_quoted.l1 k y0 y1) (intervalmonref06_quoted.l1 (k + 1) y0 y1)) ∧ (∀ y0 y1 y2, LeO (intervalmonref06_quoted.l0 k y0 y1 y2) (intervalmonref06_quoted.l0 (k + 1) y0 y1 y2))
  | 0 => ⟨fun _ _ _ r h => by simp [intervalmonref06_quoted.j1] at h, fun _ _ r h => by simp [intervalmonref06_quoted.l1] at h, fun _ _ _ r h => by simp [intervalmonref06_quoted.l0] at h⟩
  | k + 1 => by
    obtain ⟨ih0, ih1, ih2⟩ := intervalmonref06_quoted.mono_l k
    refine ⟨?_, ?_, ?_⟩
    · intro y0 y1 y2
      unfold intervalmonref06_quoted.j1
      repeat' first
      | (with_reducible exact ih0 _ _ _)
      | (with_reducible exact ih1 _ _)
      | (with_reducible exact ih2 _ _ _)
      | (with_reducible exact intervalmonref05_Value.mono _ _)
      | (with_reducible exact LeO.refl _)
      | (with_reducible exact LeO.none _)
      | (with_reducible refine LeO.ite ?_ ?_)
      | (with_reducible refine LeO.bind ?_ (fun _ => ?_))
      | exact ih0 _ _ _
      | exact ih1 _ _
      | exact ih2 _ _ _
      | exact intervalmonref05_Value.mono _ _
      | exact LeO.none _
      | refine LeO.ite ?_ ?_
      | refine LeO.bind ?_ (fun _ => ?_)
    · intro y0 y1
      unfold intervalmonref06_quoted.l1
      repeat' first
      | (with_reducible exact ih0 _ _ _)
      | (with_reducible exact ih1 _ _)
      | (with_reducible exact ih2 _ _ _)
      | (with_reducible exact intervalmonref05_Value.mono _ _)
      | (with_reducible exact LeO.refl _)
      | (with_reducible exact LeO.none _)
      | (with_reducible refine LeO.ite ?_ ?_)
      | (with_reducible refine LeO.bind ?_ (fun _ => ?_))
      | exact ih0 _ _ _
      | exact ih1 _ _
      | exact ih2 _ _ _
      | exact intervalmonref05_Value.mono _ _
      | exact LeO.none _
      | refine LeO.ite ?_ ?_
      | refine LeO.bind ?_ (fun _ => ?_)
    · intro y0 y1 y2
      unfold intervalmonref06_quoted.l0
      repeat' first
      | (with_reducible exact ih0 _ _ _)
      | (with_reducible exact ih1 _ _)
      | (with_reducible exact ih2 _ _ _)
      | (with_reducible exact intervalmonref05_Value.mono _ _)
      | (with_reducible exact LeO.refl _)
      | (with_reducible exact LeO.none _)
      | (with_reducible refine LeO.ite ?_ ?_)
      | (with_reducible refine LeO.bind ?_ (fun _ => ?_))
      | exact ih0 _ _ _
      | exact ih1 _ _
      | exact ih2 _ _ _
      | exact intervalmonref05_Value.mono _ _
      | exact LeO.none _
      | refine LeO.ite ?_ ?_
      | refine LeO.bind ?_ (fun _ => ?_)
theorem intervalmonref06_quoted.mono : ∀ a0 a1 k, LeO (intervalmonref06_quoted.f k a0 a1) (intervalmonref06_quoted.f (k + 1) a0 a1) := by
  intro a0 a1 k
  obtain ⟨ih0, ih1, ih2⟩ := intervalmonref06_quoted.mono_l k
  unfold intervalmonref06_quoted.f
  repeat' first
      | (with_reducible exact ih0 _ _ _)
      | (with_reducible exact ih1 _ _)
      | (with_reducible exact ih2 _ _ _)
      | (with_reducible exact intervalmonref05_Value.mono _ _)
      | (with_reducible exact LeO.refl _)
      | (with_reducible exact LeO.none _)
      | (with_reducible refine LeO.ite ?_ ?_)
      | (with_reducible refine LeO.bind ?_ (fun _ => ?_))
      | exact ih0 _ _ _
      | exact ih1 _ _
      | exact ih2 _ _ _
      | exact intervalmonref05_Value.mono _ _
      | exact LeO.none _
      | refine LeO.ite ?_ ?_
      | refine LeO.bind ?_ (fun _ => ?_)
set_option maxHeartbeats 8000000 in
set_option maxRecDepth 100000 in
theorem intervalmonref06_quoted.calls (k : Nat) (a0 : ByteArray) (a1 : Int) (r1 : ByteArray) (r2 : Int) (w : World) (h : intervalmonref06_quoted.f k a0 a1 = some (r1, r2)) :
    Calls Tryd.prog 46 #[.string a0, .int .i64 a1] w fun e w' => e = .returned (.tuple #[.string r1, .int .i64 r2]) ∧ Drawn0 w w' := by
  have H : (intervalmonref06_quoted.l0 k a0 a1 (wrap64 (a1 + 1))) = some (r1, r2) := h
  clear h
  have HC3 := Aside0.mk H
  clear H
  go_enter Tryd.func46, Tryd.ntmps46
  go_upto_block 0 with (fail)
  go_cut [6] (fun v6 wc => ∃ (kq : Nat) (x6_2 : Int), v6 = .int .i64 x6_2 ∧ Aside0 (intervalmonref06_quoted.j1 kq a0 a1 x6_2 = some (r1, r2)) ∧ Aside0 (kq ≤ k) ∧ Drawn0 w wc)
  case first =>
    have H := HC3.out
    clear HC3
    have H' := Aside0.mk H
    clear H
    go_wp2
    go_loopg [6] k (fun kq v6 w' => ∃ (x6_1 : Int), v6 = .int .i64 x6_1 ∧ Aside0 (intervalmonref06_quoted.l0 kq a0 a1 x6_1 = some (r1, r2)) ∧ Aside0 (kq ≤ k) ∧ Drawn0 w w')
    case atStart => exact ⟨(wrap64 (a1 + 1)), (by first | rfl | (simp; done) | (simp [*]; done)), H', ⟨Nat.le_refl _⟩, by repeat (first | exact Drawn0.refl _ | apply Drawn0.step)⟩
    case round =>
      clear H'
      try clear p2
      obtain ⟨x6_1, rfl, HA, HK1, ⟨m1, rfl⟩⟩ := hrel
      cases gk with
      | zero => exact absurd HA.out (by simp [intervalmonref06_quoted.l0])
      | succ k1 =>
        have H := HA.out
        clear HA
        simp only [intervalmonref06_quoted.l0] at H
        by_cases c4 : x6_1 < (a0.size : Int)
        · rw [if_pos c4] at H
          have c4b0 : decide (x6_1 < (a0.size : Int)) = true := decide_eq_true c4
          clear c4
          (first | rw [c4b0] | (simp only [i64_w, i32_w]; rw [c4b0]) | skip)
          by_cases c5 : 0 ≤ x6_1
          · rw [if_pos c5] at H
            have c5b0 : decide (0 ≤ x6_1) = true := decide_eq_true c5
            clear c5
            by_cases c7 : (bt a0 x6_1) = 34
            · rw [if_pos c7] at H
              have c7b0 : ((bt a0 x6_1) == 34) = true := beq_iff_eq.mpr c7
              have c7b1 : ((bt a0 x6_1) != 34) = false := bne_eq_false_iff_eq.mpr c7
              clear c7
              have H' := Aside0.mk H
              clear H
              have p6 : 0 ≤ (x6_1 : Int) := of_decide_eq_true (by first | (with_reducible assumption) | assumption)
              have q6 : x6_1 < (a0.size : Int) := of_decide_eq_true (by first | (with_reducible assumption) | assumption)
              have hx6 := bt_at a0 x6_1
              replace p6 := eq_true p6
              replace q6 := eq_true q6
              go_wp2
              go_meet
              case rel => exact ⟨_, (x6_1), (by first | rfl | (simp; done) | (simp [*]; done)), H', ⟨by have := HK1.out; first | omega | exact Nat.le_refl _⟩, by repeat (first | exact Drawn0.refl _ | apply Drawn0.step)⟩
            · rw [if_neg c7] at H
              have c7b0 : ((bt a0 x6_1) == 34) = false := beq_eq_false_iff_ne.mpr c7
              have c7b1 : ((bt a0 x6_1) != 34) = true := bne_iff_ne.mpr c7
              have H' := Aside0.mk H
              clear H
              have p6 : 0 ≤ (x6_1 : Int) := of_decide_eq_true (by first | (with_reducible assumption) | assumption)
              have q6 : x6_1 < (a0.size : Int) := of_decide_eq_true (by first | (with_reducible assumption) | assumption)
              have hx6 := bt_at a0 x6_1
              replace p6 := eq_true p6
              replace q6 := eq_true q6
              go_wp2
              go_roundg k1
              case measure => have := HK1.out; omega
              case rel => exact ⟨(wrap64 (x6_1 + 1)), (by first | rfl | (simp; done) | (simp [*]; done)), H', ⟨by have := HK1.out; omega⟩, by repeat (first | exact Drawn0.refl _ | apply Drawn0.step)⟩
          · rw [if_neg c5] at H
            exact absurd H (by simp)
        · rw [if_neg c4] at H
          have c4b0 : decide (x6_1 < (a0.size : Int)) = false := decide_eq_false c4
          clear c4
          (first | rw [c4b0] | (simp only [i64_w, i32_w]; rw [c4b0]) | skip)
          have H' := Aside0.mk H
          clear H
          go_wp2
          go_meet
          case rel => exact ⟨_, (x6_1), (by first | rfl | (simp; done) | (simp [*]; done)), H', ⟨by have := HK1.out; first | omega | exact Nat.le_refl _⟩, by repeat (first | exact Drawn0.refl _ | apply Drawn0.step)⟩
  case rest =>
    clear HC3
    try clear p2
    try clear c4
    try clear c4b0
    try clear c5
    try clear c5b0
    try clear p6
    try clear q6
    try clear hx6
    try clear c7
    try clear c7b0
    try clear c7b1
    try clear p2
    try clear p6
    try clear q6
    obtain ⟨kq, x6_2, rfl, HA, HJ2, ⟨mc2, rfl⟩⟩ := hcut
    cases kq with
    | zero => exact absurd HA.out (by simp [intervalmonref06_quoted.j1])
    | succ kj2 =>
      have H := HA.out
      clear HA
      simp only [intervalmonref06_quoted.j1] at H
      by_cases c8 : x6_2 = (a0.size : Int)
      · rw [if_pos c8] at H
        have c8b0 : (x6_2 == (a0.size : Int)) = true := beq_iff_eq.mpr c8
        have c8b1 : (x6_2 != (a0.size : Int)) = false := bne_eq_false_iff_eq.mpr c8
        clear c8
        simp only [Option.some.injEq, Prod.mk.injEq] at H
        obtain ⟨rfl, rfl⟩ := H
        go_wp2
        go_ret2
        exact ⟨by first | rfl | (simp; done) | (simp [*]; done), by repeat (first | exact Drawn0.refl _ | apply Drawn0.step)⟩
      · rw [if_neg c8] at H
        have c8b0 : (x6_2 == (a0.size : Int)) = false := beq_eq_false_iff_ne.mpr c8
        have c8b1 : (x6_2 != (a0.size : Int)) = true := bne_iff_ne.mpr c8
        obtain ⟨ji9, hji9⟩ : ∃ j_ : Int, (wrap64 (a1 + 1)) = j_ := ⟨_, rfl⟩
        replace H : (if 0 ≤ (ji9) then (if (ji9) ≤ x6_2 then (if x6_2 ≤ (a0.size : Int) then (intervalmonref06_quoted.l1 kj2 (a0.extract ((ji9) : Int).toNat (x6_2 : Int).toNat) 0) else (none)) else (none)) else (none)) = some (r1, r2) := by first | (rw [hji9] at H; exact H) | (simp only [hji9] at H ⊢; exact H)
        have hji9w : (IntKind.i64.wrap (a1 + 1)) = ji9 := (i64_w _).trans hji9
        by_cases c10 : 0 ≤ (ji9)
        · rw [if_pos c10] at H
          have c10b0 := eq_true c10
          have c10b1 : decide (0 ≤ (ji9)) = true := decide_eq_true c10
          clear c10
          by_cases c11 : (ji9) ≤ x6_2
          · rw [if_pos c11] at H
            have c11b0 := eq_true c11
            have c11b1 : decide ((ji9) ≤ x6_2) = true := decide_eq_true c11
            clear c11
            by_cases c12 : x6_2 ≤ (a0.size : Int)
            · rw [if_pos c12] at H
              have c12b0 := eq_true c12
              have c12b1 : decide (x6_2 ≤ (a0.size : Int)) = true := decide_eq_true c12
              clear c12
              have H' := Aside0.mk H
              clear H
              go_wp2
              (try rw [hji9])
              go_loopg [8] kj2 (fun kq v8 w' => ∃ (x8_2 : Int), v8 = .int .i64 x8_2 ∧ Aside0 (intervalmonref06_quoted.l1 kq (a0.extract ((ji9) : Int).toNat (x6_2 : Int).toNat) x8_2 = some (r1, r2)) ∧ Aside0 (kq ≤ kj2) ∧ Drawn0 w w')
              case atStart => exact ⟨(0), (by first | rfl | (simp; done) | (simp [*]; done)), H', ⟨Nat.le_refl _⟩, by repeat (first | exact Drawn0.refl _ | apply Drawn0.step)⟩
              case round =>
                clear H'
                try clear c1
                try clear c2
                try clear p2
                try clear c4
                try clear c4b0
                try clear c5
                try clear c5b0
                try clear p6
                try clear q6
                try clear hx6
                try clear c7
                try clear c7b0
                try clear c7b1
                try clear c8
                try clear c8b0
                try clear c8b1
                try clear c10
                try clear c10b0
                try clear c10b1
                try clear c11
                try clear c11b0
                try clear c11b1
                try clear c12
                try clear c12b0
                try clear c12b1
                try clear p2
                try clear p6
                try clear q6
                obtain ⟨x8_2, rfl, HA, HK2, ⟨m2, rfl⟩⟩ := hrel
                cases gk with
                | zero => exact absurd HA.out (by simp [intervalmonref06_quoted.l1])
                | succ k2 =>
                  have H := HA.out
                  clear HA
                  simp only [intervalmonref06_quoted.l1] at H
                  by_cases c13 : x8_2 < ((a0.extract ((ji9) : Int).toNat (x6_2 : Int).toNat).size : Int)
                  · rw [if_pos c13] at H
                    have c13b0 : decide (x8_2 < ((a0.extract ((ji9) : Int).toNat (x6_2 : Int).toNat).size : Int)) = true := decide_eq_true c13
                    (try (have c13b0x := c13b0; simp only [ByteArray.size_extract, ByteArray.size_append, Go.Proofs.YtecojcpccglelaaDoor.Aid.size_lit, List.length_cons, List.length_nil, Nat.reduceAdd, Int.cast_ofNat_Int] at c13b0x))
                    clear c13
                    by_cases c14 : 0 ≤ x8_2
                    · rw [if_pos c14] at H
                      have c14b0 := eq_true c14
                      have c14b1 : decide (0 ≤ x8_2) = true := decide_eq_true c14
                      clear c14
                      by_cases c15 : x8_2 ≤ (wrap64 (x8_2 + 1))
                      · rw [if_pos c15] at H
                        have c15b0 := eq_true c15
                        have c15b1 : decide (x8_2 ≤ (wrap64 (x8_2 + 1))) = true := decide_eq_true c15
                        by_cases c16 : (wrap64 (x8_2 + 1)) ≤ ((a0.extract ((ji9) : Int).toNat (x6_2 : Int).toNat).size : Int)
                        · rw [if_pos c16] at H
                          have c16b0 := eq_true c16
                          (try (have c16b0x := c16b0; simp only [ByteArray.size_extract, ByteArray.size_append, Go.Proofs.YtecojcpccglelaaDoor.Aid.size_lit, List.length_cons, List.length_nil, Nat.reduceAdd, Int.cast_ofNat_Int] at c16b0x))
                          have c16b1 : decide ((wrap64 (x8_2 + 1)) ≤ ((a0.extract ((ji9) : Int).toNat (x6_2 : Int).toNat).size : Int)) = true := decide_eq_true c16
                          (try (have c16b1x := c16b1; simp only [ByteArray.size_extract, ByteArray.size_append, Go.Proofs.YtecojcpccglelaaDoor.Aid.size_lit, List.length_cons, List.length_nil, Nat.reduceAdd, Int.cast_ofNat_Int] at c16b1x))
                          replace H := Option.bind_eq_some_iff.mp H
                          obtain ⟨t129, A170, H⟩ := H
                          replace H : (if t129 = true then (intervalmonref06_quoted.l1 k2 (a0.extract ((ji9) : Int).toNat (x6_2 : Int).toNat) (wrap64 (x8_2 + 1))) else (some ((⟨#[]⟩ : ByteArray), 2))) = some (r1, r2) := H
                          have A17 := Aside0.mk A170
                          clear A170
                          by_cases c18 : t129 = true
                          · subst c18
                            have H1 : (intervalmonref06_quoted.l1 k2 (a0.extract ((ji9) : Int).toNat (x6_2 : Int).toNat) (wrap64 (x8_2 + 1))) = some (r1, r2) := by rw [if_pos rfl] at H; exact H
                            clear H
                            have H := H1
                            clear H1
                            have H' := Aside0.mk H
                            clear H
                            go_wp2_with (first | ((with_reducible refine gate_callee (f := 53) rfl ?_); refine goesL_ (some 43) rfl rfl Tryd.func53 (by kernel_rfl) rfl #[.string ((a0.extract ((ji9) : Int).toNat (x6_2 : Int).toNat).extract (x8_2 : Int).toNat ((wrap64 (x8_2 + 1)) : Int).toNat)] rfl (by (try simp only [List.map_toArray, List.map_cons, List.map_nil]); first | done | (simp only [hji9]; rfl) | rfl | (simp only [List.length_drop, List.length_take]; rfl)) ?_; (with_reducible refine (intervalmonref05_Value.calls k2 ((a0.extract ((ji9) : Int).toNat (x6_2 : Int).toNat).extract (x8_2 : Int).toNat ((wrap64 (x8_2 + 1)) : Int).toNat) true _ A17.out).mono ?_); rintro e w' ⟨rfl, ⟨nd, rfl⟩⟩; refine ⟨_, rfl, ?_⟩))
                            go_roundg k2
                            case measure => have := HJ2.out; have := HK2.out; omega
                            case rel => exact ⟨(wrap64 (x8_2 + 1)), (by first | rfl | (simp; done) | (simp [*]; done)), (by first | exact H' | (simp only [hji9]; exact H')), ⟨by have := HJ2.out; have := HK2.out; omega⟩, by repeat (first | exact Drawn0.refl _ | apply Drawn0.step)⟩
                          · replace c18 := Bool.eq_false_iff.mpr c18
                            subst c18
                            have H1 : (some ((⟨#[]⟩ : ByteArray), 2)) = some (r1, r2) := by rw [if_neg (show ¬ (false = true) by decide)] at H; exact H
                            clear H
                            have H := H1
                            clear H1
                            simp only [Option.some.injEq, Prod.mk.injEq] at H
                            obtain ⟨rfl, rfl⟩ := H
                            go_wp2_with (first | ((with_reducible refine gate_callee (f := 53) rfl ?_); refine goesL_ (some 43) rfl rfl Tryd.func53 (by kernel_rfl) rfl #[.string ((a0.extract ((ji9) : Int).toNat (x6_2 : Int).toNat).extract (x8_2 : Int).toNat ((wrap64 (x8_2 + 1)) : Int).toNat)] rfl (by (try simp only [List.map_toArray, List.map_cons, List.map_nil]); first | done | (simp only [hji9]; rfl) | rfl | (simp only [List.length_drop, List.length_take]; rfl)) ?_; (with_reducible refine (intervalmonref05_Value.calls k2 ((a0.extract ((ji9) : Int).toNat (x6_2 : Int).toNat).extract (x8_2 : Int).toNat ((wrap64 (x8_2 + 1)) : Int).toNat) false _ A17.out).mono ?_); rintro e w' ⟨rfl, ⟨nd, rfl⟩⟩; refine ⟨_, rfl, ?_⟩))
                            go_ret2
                            exact ⟨by first | rfl | (simp; done) | (simp only [← hji9] <;> (first | rfl | simp)) | (simp [*]; done), by repeat (first | exact Drawn0.refl _ | apply Drawn0.step)⟩
                        · rw [if_neg c16] at H
                          exact absurd H (by simp)
                      · rw [if_neg c15] at H
                        exact absurd H (by simp)
                    · rw [if_neg c14] at H
                      exact absurd H (by simp)
                  · rw [if_neg c13] at H
                    have c13b0 : decide (x8_2 < ((a0.extract ((ji9) : Int).toNat (x6_2 : Int).toNat).size : Int)) = false := decide_eq_false c13
                    (try (have c13b0x := c13b0; simp only [ByteArray.size_extract, ByteArray.size_append, Go.Proofs.YtecojcpccglelaaDoor.Aid.size_lit, List.length_cons, List.length_nil, Nat.reduceAdd, Int.cast_ofNat_Int] at c13b0x))
                    clear c13
                    by_cases c19 : ((a0.extract ((ji9) : Int).toNat (x6_2 : Int).toNat).size : Int) > 16
                    · rw [if_pos c19] at H
                      have c19b0 : decide (16 < ((a0.extract ((ji9) : Int).toNat (x6_2 : Int).toNat).size : Int)) = true := decide_eq_true c19
                      (try (have c19b0x := c19b0; simp only [ByteArray.size_extract, ByteArray.size_append, Go.Proofs.YtecojcpccglelaaDoor.Aid.size_lit, List.length_cons, List.length_nil, Nat.reduceAdd, Int.cast_ofNat_Int] at c19b0x))
                      have c19b1 : decide (16 < (a0.extract ((ji9) : Int).toNat (x6_2 : Int).toNat).size) = true := decide_eq_true (by omega)
                      (try (have c19b1x := c19b1; simp only [ByteArray.size_extract, ByteArray.size_append, Go.Proofs.YtecojcpccglelaaDoor.Aid.size_lit, List.length_cons, List.length_nil, Nat.reduceAdd, Int.cast_ofNat_Int] at c19b1x))
                      clear c19
                      simp only [Option.some.injEq, Prod.mk.injEq] at H
                      obtain ⟨rfl, rfl⟩ := H
                      go_wp2
                      go_ret2
                      exact ⟨by first | rfl | (simp; done) | (simp only [← hji9] <;> (first | rfl | simp)) | (simp [*]; done), by repeat (first | exact Drawn0.refl _ | apply Drawn0.step)⟩
                    · rw [if_neg c19] at H
                      have c19b0 : decide (16 < ((a0.extract ((ji9) : Int).toNat (x6_2 : Int).toNat).size : Int)) = false := decide_eq_false c19
                      (try (have c19b0x := c19b0; simp only [ByteArray.size_extract, ByteArray.size_append, Go.Proofs.YtecojcpccglelaaDoor.Aid.size_lit, List.length_cons, List.length_nil, Nat.reduceAdd, Int.cast_ofNat_Int] at c19b0x))
                      have c19b1 : decide (16 < (a0.extract ((ji9) : Int).toNat (x6_2 : Int).toNat).size) = false := decide_eq_false (by omega)
                      (try (have c19b1x := c19b1; simp only [ByteArray.size_extract, ByteArray.size_append, Go.Proofs.YtecojcpccglelaaDoor.Aid.size_lit, List.length_cons, List.length_nil, Nat.reduceAdd, Int.cast_ofNat_Int] at c19b1x))
                      clear c19
                      simp only [Option.some.injEq, Prod.mk.injEq] at H
                      obtain ⟨rfl, rfl⟩ := H
                      go_wp2
                      go_ret2
                      exact ⟨by first | rfl | (simp; done) | (simp only [← hji9] <;> (first | rfl | simp)) | (simp [*]; done), by repeat (first | exact Drawn0.refl _ | apply Drawn0.step)⟩
            · rw [if_neg c12] at H
              exact absurd H (by simp)
          · rw [if_neg c11] at H
            exact absurd H (by simp)
        · rw [if_neg c10] at H
          exact absurd H (by simp)

/-! ### intervalmonref06_symbol: function 47 -/
mutual
def intervalmonref06_symbol.j0 : Nat → ByteArray → Int → ByteArray → Bool → Option (ByteArray)
  | 0, _, _, _, _ => none
  | k + 1, x0, x1, x5, x32 => if x32 = true then (if 0 ≤ x1 then (if x1 ≤ (wrap64 (x1 + 2)) then (if (wrap64 (x1 + 2)) ≤ (x0.size : Int) then (some (x0.extract (x1 : Int).toNat ((wrap64 (x1 + 2)) : Int).toNat)) else (none)) else (none)) else (none)) else (intervalmonref06_symbol.l0 k x5 (([(⟨#[43]⟩ : ByteArray), (⟨#[45]⟩ : ByteArray), (⟨#[42]⟩ : ByteArray), (⟨#[47]⟩ : ByteArray), (⟨#[40]⟩ : ByteArray), (⟨#[41]⟩ : ByteArray), (⟨#[123]⟩ : ByteArray), (⟨#[125]⟩ : ByteArray), (⟨#[44]⟩ : ByteArray), (⟨#[46]⟩ : ByteArray), (⟨#[64]⟩ : ByteArray), (⟨#[61]⟩ : ByteArray)] : List ByteArray)) 0)
def intervalmonref06_symbol.l0 : Nat → ByteArray → List ByteArray → Int → Option (ByteArray)
  | 0, _, _, _ => none
  | k + 1, x5, x6, x7 => if x7 < (x6.length : Int) then (if 0 ≤ x7 then (if (rdOf ByteArray.empty x6 x7).toList = x5.toList then (some x5) else (intervalmonref06_symbol.l0 k x5 x6 (wrap64 (x7 + 1)))) else (none)) else (some (⟨#[]⟩ : ByteArray))
end
def intervalmonref06_symbol.f (k : Nat) (a0 : ByteArray) (a1 : Int) : Option (ByteArray) := if 0 ≤ a1 then (if a1 ≤ (wrap64 (a1 + 1)) then (if (wrap64 (a1 + 1)) ≤ (a0.size : Int) then (if (a0.extract (a1 : Int).toNat ((wrap64 (a1 + 1)) : Int).toNat).toList = ([33] : List UInt8) then (if (wrap64 (a1 + 1)) < (a0.size : Int) then (if 0 ≤ (wrap64 (a1 + 1)) then (intervalmonref06_symbol.j0 k a0 a1 (a0.extract (a1 : Int).toNat ((wrap64 (a1 + 1)) : Int).toNat) ((bt a0 (wrap64 (a1 + 1))) == 61)) else (none)) else (intervalmonref06_symbol.j0 k a0 a1 (a0.extract (a1 : Int).toNat ((wrap64 (a1 + 1)) : Int).toNat) false)) else (if (a0.extract (a1 : Int).toNat ((wrap64 (a1 + 1)) : Int).toNat).toList = ([94] : List UInt8) then (if (wrap64 (a1 + 1)) < (a0.size : Int) then (if 0 ≤ (wrap64 (a1 + 1)) then (intervalmonref06_symbol.j0 k a0 a1 (a0.extract (a1 : Int).toNat ((wrap64 (a1 + 1)) : Int).toNat) ((bt a0 (wrap64 (a1 + 1))) == 61)) else (none)) else (intervalmonref06_symbol.j0 k a0 a1 (a0.extract (a1 : Int).toNat ((wrap64 (a1 + 1)) : Int).toNat) false)) else (intervalmonref06_symbol.j0 k a0 a1 (a0.extract (a1 : Int).toNat ((wrap64 (a1 + 1)) : Int).toNat) false))) else (none)) else (none)) else (none)
theorem intervalmonref06_symbol.mono_l : ∀ k, (∀ y0 y1 y2 y3, LeO (intervalmonref06_symbol.j0 k y0 y1 y2 y3) (intervalmonref06_symbol.j0 (k + 1) y0 y1 y2 y3)) ∧ (∀ y0 y1 y2, LeO (intervalmonref06_symbol.l0 k y0 y1 y2) (intervalmonref06_symbol.l0 (k + 1) y0 y1 y2))
  | 0 => ⟨fun _ _ _ _ r h => by simp [intervalmonref06_symbol.j0] at h, fun _ _ _ r h => by simp [intervalmonref06_symbol.l0] at h⟩
  | k + 1 => by
    obtain ⟨ih0, ih1⟩ := intervalmonref06_symbol.mono_l k
    refine ⟨?_, ?_⟩
    · intro y0 y1 y2 y3
      unfold intervalmonref06_symbol.j0
      repeat' first
      | (with_reducible exact ih0 _ _ _ _)
      | (with_reducible exact ih1 _ _ _)
      | (with_reducible exact LeO.refl _)
      | (with_reducible exact LeO.none _)
      | (with_reducible refine LeO.ite ?_ ?_)
      | (with_reducible refine LeO.bind ?_ (fun _ => ?_))
      | exact ih0 _ _ _ _
      | exact ih1 _ _ _
      | exact LeO.none _
      | refine LeO.ite ?_ ?_
      | refine LeO.bind ?_ (fun _ => ?_)
    · intro y0 y1 y2
      unfold intervalmonref06_symbol.l0
      repeat' first
      | (with_reducible exact ih0 _ _ _ _)
      | (with_reducible exact ih1 _ _ _)
      | (with_reducible exact LeO.refl _)
      | (with_reducible exact LeO.none _)
      | (with_reducible refine LeO.ite ?_ ?_)
      | (with_reducible refine LeO.bind ?_ (fun _ => ?_))
      | exact ih0 _ _ _ _
      | exact ih1 _ _ _
      | exact LeO.none _
      | refine LeO.ite ?_ ?_
      | refine LeO.bind ?_ (fun _ => ?_)
theorem intervalmonref06_symbol.mono : ∀ a0 a1 k, LeO (intervalmonref06_symbol.f k a0 a1) (intervalmonref06_symbol.f (k + 1) a0 a1) := by
  intro a0 a1 k
  obtain ⟨ih0, ih1⟩ := intervalmonref06_symbol.mono_l k
  unfold intervalmonref06_symbol.f
  repeat' first
      | (with_reducible exact ih0 _ _ _ _)
      | (with_reducible exact ih1 _ _ _)
      | (with_reducible exact LeO.refl _)
      | (with_reducible exact LeO.none _)
      | (with_reducible refine LeO.ite ?_ ?_)
      | (with_reducible refine LeO.bind ?_ (fun _ => ?_))
      | exact ih0 _ _ _ _
      | exact ih1 _ _ _
      | exact LeO.none _
      | refine LeO.ite ?_ ?_
      | refine LeO.bind ?_ (fun _ => ?_)
set_option maxHeartbeats 8000000 in
set_option maxRecDepth 100000 in
theorem intervalmonref06_symbol.calls (k : Nat) (a0 : ByteArray) (a1 : Int) (r : ByteArray) (w : World) (h : intervalmonref06_symbol.f k a0 a1 = some r) :
    Calls Tryd.prog 47 #[.string a0, .int .i64 a1] w fun e w' => e = .returned (.string r) ∧ Below w.heap.size w w' := by
  have HB := Aside0.mk (Below.refl w.heap.size w)
  have H : (if 0 ≤ a1 then (if a1 ≤ (wrap64 (a1 + 1)) then (if (wrap64 (a1 + 1)) ≤ (a0.size : Int) then (if (a0.extract (a1 : Int).toNat ((wrap64 (a1 + 1)) : Int).toNat).toList = ([33] : List UInt8) then (if (wrap64 (a1 + 1)) < (a0.size : Int) then (if 0 ≤ (wrap64 (a1 + 1)) then (intervalmonref06_symbol.j0 k a0 a1 (a0.extract (a1 : Int).toNat ((wrap64 (a1 + 1)) : Int).toNat) ((bt a0 (wrap64 (a1 + 1))) == 61)) else (none)) else (intervalmonref06_symbol.j0 k a0 a1 (a0.extract (a1 : Int).toNat ((wrap64 (a1 + 1)) : Int).toNat) false)) else (if (a0.extract (a1 : Int).toNat ((wrap64 (a1 + 1)) : Int).toNat).toList = ([94] : List UInt8) then (if (wrap64 (a1 + 1)) < (a0.size : Int) then (if 0 ≤ (wrap64 (a1 + 1)) then (intervalmonref06_symbol.j0 k a0 a1 (a0.extract (a1 : Int).toNat ((wrap64 (a1 + 1)) : Int).toNat) ((bt a0 (wrap64 (a1 + 1))) == 61)) else (none)) else (intervalmonref06_symbol.j0 k a0 a1 (a0.extract (a1 : Int).toNat ((wrap64 (a1 + 1)) : Int).toNat) false)) else (intervalmonref06_symbol.j0 k a0 a1 (a0.extract (a1 : Int).toNat ((wrap64 (a1 + 1)) : Int).toNat) false))) else (none)) else (none)) else (none)) = some r := h
  clear h
  by_cases c3 : 0 ≤ a1
  · rw [if_pos c3] at H
    have c3b0 := eq_true c3
    have c3b1 : decide (0 ≤ a1) = true := decide_eq_true c3
    clear c3
    by_cases c4 : a1 ≤ (wrap64 (a1 + 1))
    · rw [if_pos c4] at H
      have c4b0 := eq_true c4
      have c4b1 : decide (a1 ≤ (wrap64 (a1 + 1))) = true := decide_eq_true c4
      by_cases c5 : (wrap64 (a1 + 1)) ≤ (a0.size : Int)
      · rw [if_pos c5] at H
        have c5b0 := eq_true c5
        have c5b1 : decide ((wrap64 (a1 + 1)) ≤ (a0.size : Int)) = true := decide_eq_true c5
        have HC6 := Aside0.mk H
        clear H
        go_enter Tryd.func47, Tryd.ntmps47
        go_upto_region 2 with (fail)
        go_cut [32] (fun v32 wc => ∃ (kq : Nat) (x32_5 : Bool), v32 = .bool x32_5 ∧ Aside0 (intervalmonref06_symbol.j0 kq a0 a1 (a0.extract (a1 : Int).toNat ((wrap64 (a1 + 1)) : Int).toNat) x32_5 = some r) ∧ Aside0 (kq ≤ k) ∧ Aside0 (Below w.heap.size w wc))
        case first =>
          have H := HC6.out
          clear HC6
          by_cases c7 : (a0.extract (a1 : Int).toNat ((wrap64 (a1 + 1)) : Int).toNat).toList = ([33] : List UInt8)
          · rw [if_pos c7] at H
            have c7b0 : ((a0.extract (a1 : Int).toNat ((wrap64 (a1 + 1)) : Int).toNat).toList == ([33] : List UInt8)) = true := beq_iff_eq.mpr c7
            have c7b1 : ((a0.extract (a1 : Int).toNat ((wrap64 (a1 + 1)) : Int).toNat).toList != ([33] : List UInt8)) = false := bne_eq_false_iff_eq.mpr c7
            clear c7
            (first | rw [c7b0] | (simp only [i64_w, i32_w]; rw [c7b0]) | skip)
            by_cases c8 : (wrap64 (a1 + 1)) < (a0.size : Int)
            · rw [if_pos c8] at H
              have c8b0 : decide ((wrap64 (a1 + 1)) < (a0.size : Int)) = true := decide_eq_true c8
              clear c8
              obtain ⟨ji9, hji9⟩ : ∃ j_ : Int, (wrap64 (a1 + 1)) = j_ := ⟨_, rfl⟩
              replace H : (if 0 ≤ (ji9) then (intervalmonref06_symbol.j0 k a0 a1 (a0.extract (a1 : Int).toNat ((ji9) : Int).toNat) ((bt a0 (ji9)) == 61)) else (none)) = some r := by first | (rw [hji9] at H; exact H) | (simp only [hji9] at H ⊢; exact H)
              (try rw [hji9] at c4b0)
              (try rw [hji9] at c4b1)
              (try rw [hji9] at c4)
              (try rw [hji9] at c5b0)
              (try rw [hji9] at c5b1)
              (try rw [hji9] at c5)
              (try rw [hji9] at c7b0)
              (try rw [hji9] at c7b1)
              (try rw [hji9] at c8b0)
              have hji9w : (IntKind.i64.wrap (a1 + 1)) = ji9 := (i64_w _).trans hji9
              by_cases c10 : 0 ≤ (ji9)
              · rw [if_pos c10] at H
                have c10b0 : decide (0 ≤ (ji9)) = true := decide_eq_true c10
                clear c10
                have H' := Aside0.mk H
                clear H
                have p11 : 0 ≤ ((ji9) : Int) := of_decide_eq_true (by first | (with_reducible assumption) | assumption)
                have q11 : (ji9) < (a0.size : Int) := of_decide_eq_true (by first | (with_reducible assumption) | assumption)
                have hx11 := bt_at a0 (ji9)
                replace p11 := eq_true p11
                replace q11 := eq_true q11
                go_wp2
                go_meet
                case rel => exact ⟨_, (((bt a0 (ji9)) == 61)), (by first | rfl | (simp; done) | (simp only [← hji9] <;> (first | rfl | simp)) | (simp [*]; done)), (by first | exact H' | (simp only [hji9]; exact H')), ⟨by first | omega | exact Nat.le_refl _⟩, ⟨by repeat (first | (with_reducible first | exact HB.out | apply below_alloc | apply pw_below_drewN | apply below_drew1) | exact HB.out)⟩⟩
              · rw [if_neg c10] at H
                exact absurd H (by simp)
            · rw [if_neg c8] at H
              have c8b0 : decide ((wrap64 (a1 + 1)) < (a0.size : Int)) = false := decide_eq_false c8
              clear c8
              have H' := Aside0.mk H
              clear H
              go_wp2
              go_meet
              case rel => exact ⟨_, (false), (by first | rfl | (simp; done) | (simp [*]; done)), H', ⟨by first | omega | exact Nat.le_refl _⟩, ⟨by repeat (first | (with_reducible first | exact HB.out | apply below_alloc | apply pw_below_drewN | apply below_drew1) | exact HB.out)⟩⟩
          · rw [if_neg c7] at H
            have c7b0 : ((a0.extract (a1 : Int).toNat ((wrap64 (a1 + 1)) : Int).toNat).toList == ([33] : List UInt8)) = false := beq_eq_false_iff_ne.mpr c7
            have c7b1 : ((a0.extract (a1 : Int).toNat ((wrap64 (a1 + 1)) : Int).toNat).toList != ([33] : List UInt8)) = true := bne_iff_ne.mpr c7
            (first | rw [c7b0] | (simp only [i64_w, i32_w]; rw [c7b0]) | skip)
            by_cases c12 : (a0.extract (a1 : Int).toNat ((wrap64 (a1 + 1)) : Int).toNat).toList = ([94] : List UInt8)
            · rw [if_pos c12] at H
              have c12b0 : ((a0.extract (a1 : Int).toNat ((wrap64 (a1 + 1)) : Int).toNat).toList == ([94] : List UInt8)) = true := beq_iff_eq.mpr c12
              have c12b1 : ((a0.extract (a1 : Int).toNat ((wrap64 (a1 + 1)) : Int).toNat).toList != ([94] : List UInt8)) = false := bne_eq_false_iff_eq.mpr c12
              clear c12
              by_cases c13 : (wrap64 (a1 + 1)) < (a0.size : Int)
              · rw [if_pos c13] at H
                have c13b0 : decide ((wrap64 (a1 + 1)) < (a0.size : Int)) = true := decide_eq_true c13
                clear c13
                obtain ⟨ji14, hji14⟩ : ∃ j_ : Int, (wrap64 (a1 + 1)) = j_ := ⟨_, rfl⟩
                replace H : (if 0 ≤ (ji14) then (intervalmonref06_symbol.j0 k a0 a1 (a0.extract (a1 : Int).toNat ((ji14) : Int).toNat) ((bt a0 (ji14)) == 61)) else (none)) = some r := by first | (rw [hji14] at H; exact H) | (simp only [hji14] at H ⊢; exact H)
                (try rw [hji14] at c4b0)
                (try rw [hji14] at c4b1)
                (try rw [hji14] at c4)
                (try rw [hji14] at c5b0)
                (try rw [hji14] at c5b1)
                (try rw [hji14] at c5)
                (try rw [hji14] at c7b0)
                (try rw [hji14] at c7b1)
                (try rw [hji14] at c12b0)
                (try rw [hji14] at c12b1)
                (try rw [hji14] at c13b0)
                have hji14w : (IntKind.i64.wrap (a1 + 1)) = ji14 := (i64_w _).trans hji14
                by_cases c15 : 0 ≤ (ji14)
                · rw [if_pos c15] at H
                  have c15b0 : decide (0 ≤ (ji14)) = true := decide_eq_true c15
                  clear c15
                  have H' := Aside0.mk H
                  clear H
                  have p16 : 0 ≤ ((ji14) : Int) := of_decide_eq_true (by first | (with_reducible assumption) | assumption)
                  have q16 : (ji14) < (a0.size : Int) := of_decide_eq_true (by first | (with_reducible assumption) | assumption)
                  have hx16 := bt_at a0 (ji14)
                  replace p16 := eq_true p16
                  replace q16 := eq_true q16
                  go_wp2
                  go_meet
                  case rel => exact ⟨_, (((bt a0 (ji14)) == 61)), (by first | rfl | (simp; done) | (simp only [← hji14] <;> (first | rfl | simp)) | (simp [*]; done)), (by first | exact H' | (simp only [hji14]; exact H')), ⟨by first | omega | exact Nat.le_refl _⟩, ⟨by repeat (first | (with_reducible first | exact HB.out | apply below_alloc | apply pw_below_drewN | apply below_drew1) | exact HB.out)⟩⟩
                · rw [if_neg c15] at H
                  exact absurd H (by simp)
              · rw [if_neg c13] at H
                have c13b0 : decide ((wrap64 (a1 + 1)) < (a0.size : Int)) = false := decide_eq_false c13
                clear c13
                have H' := Aside0.mk H
                clear H
                go_wp2
                go_meet
                case rel => exact ⟨_, (false), (by first | rfl | (simp; done) | (simp [*]; done)), H', ⟨by first | omega | exact Nat.le_refl _⟩, ⟨by repeat (first | (with_reducible first | exact HB.out | apply below_alloc | apply pw_below_drewN | apply below_drew1) | exact HB.out)⟩⟩
            · rw [if_neg c12] at H
              have c12b0 : ((a0.extract (a1 : Int).toNat ((wrap64 (a1 + 1)) : Int).toNat).toList == ([94] : List UInt8)) = false := beq_eq_false_iff_ne.mpr c12
              have c12b1 : ((a0.extract (a1 : Int).toNat ((wrap64 (a1 + 1)) : Int).toNat).toList != ([94] : List UInt8)) = true := bne_iff_ne.mpr c12
              have H' := Aside0.mk H
              clear H
              go_wp2
              go_meet
              case rel => exact ⟨_, (false), (by first | rfl | (simp; done) | (simp [*]; done)), H', ⟨by first | omega | exact Nat.le_refl _⟩, ⟨by repeat (first | (with_reducible first | exact HB.out | apply below_alloc | apply pw_below_drewN | apply below_drew1) | exact HB.out)⟩⟩
        case rest =>
          clear HC6
          try clear c1
          try clear p1
          try clear q1
          try clear hx1
          try clear p2
          try clear c3
          try clear c3b0
          try clear c3b1
          try clear c4
          try clear c4b0
          try clear c4b1
          try clear c5
          try clear c5b0
          try clear c5b1
          try clear p6
          try clear c7
          try clear c7b0
          try clear c7b1
          try clear c8
          try clear c8b0
          try clear c10
          try clear c10b0
          try clear p11
          try clear q11
          try clear hx11
          try clear c12
          try clear c12b0
          try clear c12b1
          try clear c13
          try clear c13b0
          try clear c15
          try clear c15b0
          try clear p16
          try clear q16
          try clear hx16
          try clear p11
          try clear p16
          try clear q11
          try clear q16
          obtain ⟨kq, x32_5, rfl, HA, HJ5, HB⟩ := hcut
          cases kq with
          | zero => exact absurd HA.out (by simp [intervalmonref06_symbol.j0])
          | succ kj5 =>
            have H := HA.out
            clear HA
            simp only [intervalmonref06_symbol.j0] at H
            by_cases c17 : x32_5 = true
            · subst c17
              have H1 : (if 0 ≤ a1 then (if a1 ≤ (wrap64 (a1 + 2)) then (if (wrap64 (a1 + 2)) ≤ (a0.size : Int) then (some (a0.extract (a1 : Int).toNat ((wrap64 (a1 + 2)) : Int).toNat)) else (none)) else (none)) else (none)) = some r := by rw [if_pos rfl] at H; exact H
              clear H
              have H := H1
              clear H1
              by_cases c18 : 0 ≤ a1
              · rw [if_pos c18] at H
                have c18b0 := eq_true c18
                have c18b1 : decide (0 ≤ a1) = true := decide_eq_true c18
                clear c18
                by_cases c19 : a1 ≤ (wrap64 (a1 + 2))
                · rw [if_pos c19] at H
                  have c19b0 := eq_true c19
                  have c19b1 : decide (a1 ≤ (wrap64 (a1 + 2))) = true := decide_eq_true c19
                  by_cases c20 : (wrap64 (a1 + 2)) ≤ (a0.size : Int)
                  · rw [if_pos c20] at H
                    have c20b0 := eq_true c20
                    have c20b1 : decide ((wrap64 (a1 + 2)) ≤ (a0.size : Int)) = true := decide_eq_true c20
                    obtain rfl := Option.some.inj H
                    go_wp2
                    go_ret
                    exact ⟨by first | rfl | (simp [errW_none, errW_some] <;> rfl) | (simp [*, errW_none, errW_some] <;> rfl), by repeat (first | (with_reducible first | exact HB.out | apply below_alloc | apply pw_below_drewN | apply below_drew1) | exact HB.out)⟩
                  · rw [if_neg c20] at H
                    exact absurd H (by simp)
                · rw [if_neg c19] at H
                  exact absurd H (by simp)
              · rw [if_neg c18] at H
                exact absurd H (by simp)
            · replace c17 := Bool.eq_false_iff.mpr c17
              subst c17
              have H1 : (intervalmonref06_symbol.l0 kj5 (a0.extract (a1 : Int).toNat ((wrap64 (a1 + 1)) : Int).toNat) (([(⟨#[43]⟩ : ByteArray), (⟨#[45]⟩ : ByteArray), (⟨#[42]⟩ : ByteArray), (⟨#[47]⟩ : ByteArray), (⟨#[40]⟩ : ByteArray), (⟨#[41]⟩ : ByteArray), (⟨#[123]⟩ : ByteArray), (⟨#[125]⟩ : ByteArray), (⟨#[44]⟩ : ByteArray), (⟨#[46]⟩ : ByteArray), (⟨#[64]⟩ : ByteArray), (⟨#[61]⟩ : ByteArray)] : List ByteArray)) 0) = some r := by rw [if_neg (show ¬ (false = true) by decide)] at H; exact H
              clear H
              have H := H1
              clear H1
              obtain ⟨y130, hy130⟩ : ∃ y_ : List ByteArray, y_ = (([(⟨#[43]⟩ : ByteArray), (⟨#[45]⟩ : ByteArray), (⟨#[42]⟩ : ByteArray), (⟨#[47]⟩ : ByteArray), (⟨#[40]⟩ : ByteArray), (⟨#[41]⟩ : ByteArray), (⟨#[123]⟩ : ByteArray), (⟨#[125]⟩ : ByteArray), (⟨#[44]⟩ : ByteArray), (⟨#[46]⟩ : ByteArray), (⟨#[64]⟩ : ByteArray), (⟨#[61]⟩ : ByteArray)] : List ByteArray)) := ⟨_, rfl⟩
              replace H : (intervalmonref06_symbol.l0 kj5 (a0.extract (a1 : Int).toNat ((wrap64 (a1 + 1)) : Int).toNat) y130 0) = some r := by first | (rw [hy130]; with_reducible exact H) | (have H2_ := (Option.bind_some _ _).symm.trans H; rw [hy130]; with_reducible exact H2_) | (have H2_ := (Option.bind_some _ _).symm.trans H; with_reducible exact H2_) | with_reducible exact H | (rw [hy130]; exact H) | exact H
              have Ny130 := Aside0.mk hy130
              clear hy130
              have H' := Aside0.mk H
              clear H
              go_wp2_with (first | ((with_reducible refine gate_dst (N := 38) rfl ?_); (try (refine gate_guard (by rfl) ?_; dsimp only)); refine Kd.R_lit Kd.string _ 9 ?hg (N := 38) ?hd (xs := ([(⟨#[43]⟩ : ByteArray), (⟨#[45]⟩ : ByteArray), (⟨#[42]⟩ : ByteArray), (⟨#[47]⟩ : ByteArray), (⟨#[40]⟩ : ByteArray), (⟨#[41]⟩ : ByteArray), (⟨#[123]⟩ : ByteArray), (⟨#[125]⟩ : ByteArray), (⟨#[44]⟩ : ByteArray), (⟨#[46]⟩ : ByteArray), (⟨#[64]⟩ : ByteArray), (⟨#[61]⟩ : ByteArray)] : List ByteArray)) (inner := [.string (⟨#[43]⟩ : ByteArray), .string (⟨#[45]⟩ : ByteArray), .string (⟨#[42]⟩ : ByteArray), .string (⟨#[47]⟩ : ByteArray), .string (⟨#[40]⟩ : ByteArray), .string (⟨#[41]⟩ : ByteArray), .string (⟨#[123]⟩ : ByteArray), .string (⟨#[125]⟩ : ByteArray), .string (⟨#[44]⟩ : ByteArray), .string (⟨#[46]⟩ : ByteArray), .string (⟨#[64]⟩ : ByteArray), .string (⟨#[61]⟩ : ByteArray)]) (ok := fun _ => True) (okp := fun _ => True) ?hr ?hp (fun _ hk => hk) trivial (Below.refl _ _) (Nat.le_refl _) (by simp) ?_; (case hd => rfl); (case hg => rfl); (case hr => first | (go_simp; done) | (go_simp; rfl)); (case hp => exact (Reps.one (show Kd.M Kd.string _ _ _ (⟨#[43]⟩ : ByteArray) [.string (⟨#[43]⟩ : ByteArray)] from rfl) (Reps.one (show Kd.M Kd.string _ _ _ (⟨#[45]⟩ : ByteArray) [.string (⟨#[45]⟩ : ByteArray)] from rfl) (Reps.one (show Kd.M Kd.string _ _ _ (⟨#[42]⟩ : ByteArray) [.string (⟨#[42]⟩ : ByteArray)] from rfl) (Reps.one (show Kd.M Kd.string _ _ _ (⟨#[47]⟩ : ByteArray) [.string (⟨#[47]⟩ : ByteArray)] from rfl) (Reps.one (show Kd.M Kd.string _ _ _ (⟨#[40]⟩ : ByteArray) [.string (⟨#[40]⟩ : ByteArray)] from rfl) (Reps.one (show Kd.M Kd.string _ _ _ (⟨#[41]⟩ : ByteArray) [.string (⟨#[41]⟩ : ByteArray)] from rfl) (Reps.one (show Kd.M Kd.string _ _ _ (⟨#[123]⟩ : ByteArray) [.string (⟨#[123]⟩ : ByteArray)] from rfl) (Reps.one (show Kd.M Kd.string _ _ _ (⟨#[125]⟩ : ByteArray) [.string (⟨#[125]⟩ : ByteArray)] from rfl) (Reps.one (show Kd.M Kd.string _ _ _ (⟨#[44]⟩ : ByteArray) [.string (⟨#[44]⟩ : ByteArray)] from rfl) (Reps.one (show Kd.M Kd.string _ _ _ (⟨#[46]⟩ : ByteArray) [.string (⟨#[46]⟩ : ByteArray)] from rfl) (Reps.one (show Kd.M Kd.string _ _ _ (⟨#[64]⟩ : ByteArray) [.string (⟨#[64]⟩ : ByteArray)] from rfl) (Reps.one (show Kd.M Kd.string _ _ _ (⟨#[61]⟩ : ByteArray) [.string (⟨#[61]⟩ : ByteArray)] from rfl) (Reps.none _ _)))))))))))))); intro v131 w21 ho22 hb hg_ hnew_; clear hg_ hnew_; (first | rw [← Ny130.out] at ho22 | (simp only [Int.reduceToNat] at ho22; rw [← Ny130.out] at ho22)); have n0_ := Aside0.mk (Kd.R_lower ho22 (below_size (by repeat (first | (with_reducible first | exact HB.out | apply below_alloc | apply pw_below_drewN | apply below_drew1) | exact HB.out)))); have n1_ := Aside0.mk (below_step (by repeat (first | (with_reducible first | exact HB.out | apply below_alloc | apply pw_below_drewN | apply below_drew1) | exact HB.out)) hb); clear HB; have HO132 := n0_; have HB := n1_; clear n0_ n1_; clear hb ho22))
              go_loopg [7] kj5 (fun kq v7 w' => ∃ (x7_2 : Int), v7 = .int .i64 x7_2 ∧ Aside0 (intervalmonref06_symbol.l0 kq (a0.extract (a1 : Int).toNat ((wrap64 (a1 + 1)) : Int).toNat) y130 x7_2 = some r) ∧ Aside0 (kq ≤ kj5) ∧ Aside0 (Kd.R Kd.string 9 w' w.heap.size (fun _ => True) v131 y130) ∧ Aside0 (Below w.heap.size w w'))
              case atStart => exact ⟨(0), (by first | rfl | (simp; done) | (simp [*]; done)), H', ⟨Nat.le_refl _⟩, ⟨by (with_reducible repeat (first | apply Kd.R_alloc | apply Kd.R_drewN | apply Kd.R_drew)); exact HO132.out⟩, ⟨by repeat (first | (with_reducible first | exact HB.out | apply below_alloc | apply pw_below_drewN | apply below_drew1) | exact HB.out)⟩⟩
              case round =>
                clear H'
                try clear c1
                try clear p1
                try clear q1
                try clear hx1
                try clear c2
                try clear p2
                try clear c3
                try clear c3b0
                try clear c3b1
                try clear c4
                try clear c4b0
                try clear c4b1
                try clear c5
                try clear c5b0
                try clear c5b1
                try clear p6
                try clear c7
                try clear c7b0
                try clear c7b1
                try clear c8
                try clear c8b0
                try clear c10
                try clear c10b0
                try clear p11
                try clear q11
                try clear hx11
                try clear c12
                try clear c12b0
                try clear c12b1
                try clear c13
                try clear c13b0
                try clear c15
                try clear c15b0
                try clear p16
                try clear q16
                try clear hx16
                try clear c17
                try clear c18
                try clear c18b0
                try clear c18b1
                try clear c19
                try clear c19b0
                try clear c19b1
                try clear c20
                try clear c20b0
                try clear c20b1
                try clear p1
                try clear p11
                try clear p16
                try clear p2
                try clear p6
                try clear q1
                try clear q11
                try clear q16
                obtain ⟨x7_2, rfl, HA, HK2, HO_6, HB⟩ := hrel
                cases gk with
                | zero => exact absurd HA.out (by simp [intervalmonref06_symbol.l0])
                | succ k2 =>
                  have H := HA.out
                  clear HA
                  simp only [intervalmonref06_symbol.l0] at H
                  by_cases c23 : x7_2 < (y130.length : Int)
                  · rw [if_pos c23] at H
                    have c23b0 : decide (x7_2 < (y130.length : Int)) = true := decide_eq_true c23
                    clear c23
                    by_cases c24 : 0 ≤ x7_2
                    · rw [if_pos c24] at H
                      have c24b0 : decide (0 ≤ x7_2) = true := decide_eq_true c24
                      clear c24
                      by_cases c25 : (rdOf ByteArray.empty y130 x7_2).toList = (a0.extract (a1 : Int).toNat ((wrap64 (a1 + 1)) : Int).toNat).toList
                      · rw [if_pos c25] at H
                        have c25b0 : ((rdOf ByteArray.empty y130 x7_2).toList == (a0.extract (a1 : Int).toNat ((wrap64 (a1 + 1)) : Int).toNat).toList) = true := beq_iff_eq.mpr c25
                        have c25b1 : ((rdOf ByteArray.empty y130 x7_2).toList != (a0.extract (a1 : Int).toNat ((wrap64 (a1 + 1)) : Int).toNat).toList) = false := bne_eq_false_iff_eq.mpr c25
                        clear c25
                        obtain rfl := Option.some.inj H
                        obtain ⟨Ao26, co26, eo26⟩ := Kd.R_slice HO_6.out
                        subst eo26
                        have p133 : 0 ≤ (x7_2 : Int) := of_decide_eq_true (by first | (with_reducible assumption) | assumption)
                        have q133 : x7_2 < (y130.length : Int) := of_decide_eq_true (by first | (with_reducible assumption) | assumption)
                        obtain ⟨ad133, e133, hx133_0⟩ := Kd.at_string (Kd.R_reads' HO_6.out).2.2 x7_2 p133 q133
                        cases e133
                        replace p133 := eq_true p133
                        replace q133 := eq_true q133
                        go_wp2
                        go_ret
                        exact ⟨by first | rfl | (simp [errW_none, errW_some] <;> rfl) | (simp [*, errW_none, errW_some] <;> rfl), by repeat (first | (with_reducible first | exact HB.out | apply below_alloc | apply pw_below_drewN | apply below_drew1) | exact HB.out)⟩
                      · rw [if_neg c25] at H
                        have c25b0 : ((rdOf ByteArray.empty y130 x7_2).toList == (a0.extract (a1 : Int).toNat ((wrap64 (a1 + 1)) : Int).toNat).toList) = false := beq_eq_false_iff_ne.mpr c25
                        have c25b1 : ((rdOf ByteArray.empty y130 x7_2).toList != (a0.extract (a1 : Int).toNat ((wrap64 (a1 + 1)) : Int).toNat).toList) = true := bne_iff_ne.mpr c25
                        have H' := Aside0.mk H
                        clear H
                        obtain ⟨Ao27, co27, eo27⟩ := Kd.R_slice HO_6.out
                        subst eo27
                        have p133 : 0 ≤ (x7_2 : Int) := of_decide_eq_true (by first | (with_reducible assumption) | assumption)
                        have q133 : x7_2 < (y130.length : Int) := of_decide_eq_true (by first | (with_reducible assumption) | assumption)
                        obtain ⟨ad133, e133, hx133_0⟩ := Kd.at_string (Kd.R_reads' HO_6.out).2.2 x7_2 p133 q133
                        cases e133
                        replace p133 := eq_true p133
                        replace q133 := eq_true q133
                        go_wp2
                        go_roundg k2
                        case measure => have := HJ5.out; have := HK2.out; omega
                        case rel => exact ⟨(wrap64 (x7_2 + 1)), (by first | rfl | (simp; done) | (simp [*]; done)), H', ⟨by have := HJ5.out; have := HK2.out; omega⟩, ⟨by (with_reducible repeat (first | apply Kd.R_alloc | apply Kd.R_drewN | apply Kd.R_drew)); exact HO_6.out⟩, ⟨by repeat (first | (with_reducible first | exact HB.out | apply below_alloc | apply pw_below_drewN | apply below_drew1) | exact HB.out)⟩⟩
                    · rw [if_neg c24] at H
                      exact absurd H (by simp)
                  · rw [if_neg c23] at H
                    have c23b0 : decide (x7_2 < (y130.length : Int)) = false := decide_eq_false c23
                    clear c23
                    obtain rfl := Option.some.inj H
                    obtain ⟨Ao28, co28, eo28⟩ := Kd.R_slice HO_6.out
                    subst eo28
                    go_wp2
                    go_ret
                    exact ⟨by first | rfl | (simp [errW_none, errW_some] <;> rfl) | (simp [*, errW_none, errW_some] <;> rfl), by repeat (first | (with_reducible first | exact HB.out | apply below_alloc | apply pw_below_drewN | apply below_drew1) | exact HB.out)⟩
      · rw [if_neg c5] at H
        exact absurd H (by simp)
    · rw [if_neg c4] at H
      exact absurd H (by simp)
  · rw [if_neg c3] at H
    exact absurd H (by simp)

end Go.Proofs.YtecojcpccglelaaDoor.PAll
