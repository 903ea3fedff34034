/- Printed by this session's driver drive.py over the kit's print, with hand-proved callees. -/
import Derived.Test.YtecojcpccglelaaDoorPAllx0
import Derived.Test.YtecojcpccglelaaDoorSz
import Derived.Test.YtecojcpccglelaaDoorHandTokensB
namespace Go.Proofs.YtecojcpccglelaaDoor.PAll
open Go.RowKit Go.Proofs.YtecojcpccglelaaDoorW.PrintWords Go.Proofs.YtecojcpccglelaaDoorW.PrintLast Go.Proofs.YtecojcpccglelaaDoorW.PrintMore
attribute [local go_sem] max2_int min2_int max_two min_two max_three min_three max_four min_four   -- for this text's walks alone
attribute [local go_sem high] Go.Proofs.YtecojcpccglelaaDoor.Aid.cell_lit
set_option linter.unusedVariables false
set_option linter.unusedSimpArgs false

/-! ### intervalmonlaw06_covers: function 19 -/
mutual
def intervalmonlaw06_covers.l0 : Nat → ByteArray → List (S37) → Int → ByteArray → Int → Int → Option (Bool)
  | 0, _, _, _, _, _, _ => none
  | k + 1, x0, x3, x4, x6, x7, x8 => if x8 < (x3.length : Int) then (if 0 ≤ x8 then (if ((rd_T37 x3 x8).f0) = 2 then (if 1 + ((rd_T37 x3 x8).f1).size ≤ 9223372036854775807 then (if ((⟨#[34]⟩ : ByteArray) ++ ((rd_T37 x3 x8).f1)).size + 1 ≤ 9223372036854775807 then (if ((rd_T37 x3 x8).f3) < x7 then (some false) else (if (((⟨#[34]⟩ : ByteArray) ++ ((rd_T37 x3 x8).f1)) ++ (⟨#[34]⟩ : ByteArray)).toList = ([] : List UInt8) then (some false) else (if (wrap64 (((rd_T37 x3 x8).f3) + ((((⟨#[34]⟩ : ByteArray) ++ ((rd_T37 x3 x8).f1)) ++ (⟨#[34]⟩ : ByteArray)).size : Int))) > (x0.size : Int) then (some false) else (if 0 ≤ ((rd_T37 x3 x8).f3) then (if ((rd_T37 x3 x8).f3) ≤ (wrap64 (((rd_T37 x3 x8).f3) + ((((⟨#[34]⟩ : ByteArray) ++ ((rd_T37 x3 x8).f1)) ++ (⟨#[34]⟩ : ByteArray)).size : Int))) then (if (wrap64 (((rd_T37 x3 x8).f3) + ((((⟨#[34]⟩ : ByteArray) ++ ((rd_T37 x3 x8).f1)) ++ (⟨#[34]⟩ : ByteArray)).size : Int))) ≤ (x0.size : Int) then (if (x0.extract (((rd_T37 x3 x8).f3) : Int).toNat ((wrap64 (((rd_T37 x3 x8).f3) + ((((⟨#[34]⟩ : ByteArray) ++ ((rd_T37 x3 x8).f1)) ++ (⟨#[34]⟩ : ByteArray)).size : Int))) : Int).toNat).toList = (((⟨#[34]⟩ : ByteArray) ++ ((rd_T37 x3 x8).f1)) ++ (⟨#[34]⟩ : ByteArray)).toList then (if 0 ≤ x7 then (if x7 ≤ ((rd_T37 x3 x8).f3) then (if ((rd_T37 x3 x8).f3) ≤ (x0.size : Int) then (if x6.size + (x0.extract (x7 : Int).toNat (((rd_T37 x3 x8).f3) : Int).toNat).size ≤ 9223372036854775807 then (intervalmonlaw06_covers.l0 k x0 x3 x4 (x6 ++ (x0.extract (x7 : Int).toNat (((rd_T37 x3 x8).f3) : Int).toNat)) (wrap64 (((rd_T37 x3 x8).f3) + ((((⟨#[34]⟩ : ByteArray) ++ ((rd_T37 x3 x8).f1)) ++ (⟨#[34]⟩ : ByteArray)).size : Int))) (wrap64 (x8 + 1))) else (none)) else (none)) else (none)) else (none)) else (some false)) else (none)) else (none)) else (none))))) else (none)) else (none)) else (if ((rd_T37 x3 x8).f3) < x7 then (some false) else (if ((rd_T37 x3 x8).f1).toList = ([] : List UInt8) then (some false) else (if (wrap64 (((rd_T37 x3 x8).f3) + (((rd_T37 x3 x8).f1).size : Int))) > (x0.size : Int) then (some false) else (if 0 ≤ ((rd_T37 x3 x8).f3) then (if ((rd_T37 x3 x8).f3) ≤ (wrap64 (((rd_T37 x3 x8).f3) + (((rd_T37 x3 x8).f1).size : Int))) then (if (wrap64 (((rd_T37 x3 x8).f3) + (((rd_T37 x3 x8).f1).size : Int))) ≤ (x0.size : Int) then (if (x0.extract (((rd_T37 x3 x8).f3) : Int).toNat ((wrap64 (((rd_T37 x3 x8).f3) + (((rd_T37 x3 x8).f1).size : Int))) : Int).toNat).toList = ((rd_T37 x3 x8).f1).toList then (if 0 ≤ x7 then (if x7 ≤ ((rd_T37 x3 x8).f3) then (if ((rd_T37 x3 x8).f3) ≤ (x0.size : Int) then (if x6.size + (x0.extract (x7 : Int).toNat (((rd_T37 x3 x8).f3) : Int).toNat).size ≤ 9223372036854775807 then (intervalmonlaw06_covers.l0 k x0 x3 x4 (x6 ++ (x0.extract (x7 : Int).toNat (((rd_T37 x3 x8).f3) : Int).toNat)) (wrap64 (((rd_T37 x3 x8).f3) + (((rd_T37 x3 x8).f1).size : Int))) (wrap64 (x8 + 1))) else (none)) else (none)) else (none)) else (none)) else (some false)) else (none)) else (none)) else (none)))))) else (none)) else (if 0 ≤ x7 then (if x7 ≤ (x0.size : Int) then (if x6.size + (x0.extract (x7 : Int).toNat x0.size).size ≤ 9223372036854775807 then (intervalmonlaw06_covers.l1 k x4 (x6 ++ (x0.extract (x7 : Int).toNat x0.size)) 0) else (none)) else (none)) else (none))
def intervalmonlaw06_covers.l1 : Nat → Int → ByteArray → Int → Option (Bool)
  | 0, _, _, _ => none
  | k + 1, x4, x6, x10 => if x10 < (x6.size : Int) then (if 0 ≤ x10 then (if (bt x6 x10) = 9 then (intervalmonlaw06_covers.l1 k x4 x6 (wrap64 (x10 + 1))) else (if (bt x6 x10) = 10 then (intervalmonlaw06_covers.l1 k x4 x6 (wrap64 (x10 + 1))) else (if (bt x6 x10) = 13 then (intervalmonlaw06_covers.l1 k x4 x6 (wrap64 (x10 + 1))) else (if (bt x6 x10) = 32 then (intervalmonlaw06_covers.l1 k x4 x6 (wrap64 (x10 + 1))) else (some false))))) else (none)) else (some (x4 == 0))
end
def intervalmonlaw06_covers.f (k : Nat) (a0 : ByteArray) : Option (Bool) := (lexer_Tokens.f k a0).bind fun bt238 => (if bt238.2.2 = 0 then (intervalmonlaw06_covers.l0 k a0 bt238.1 bt238.2.1 (⟨#[]⟩ : ByteArray) 0 0) else (if (bt238.1.length : Int) = 0 then (if bt238.2.1 ≥ 0 then (some (decide (bt238.2.1 ≤ (a0.size : Int)))) else (some false)) else (some false)))
theorem intervalmonlaw06_covers.mono_l : ∀ k, (∀ y0 y1 y2 y3 y4 y5, LeO (intervalmonlaw06_covers.l0 k y0 y1 y2 y3 y4 y5) (intervalmonlaw06_covers.l0 (k + 1) y0 y1 y2 y3 y4 y5)) ∧ (∀ y0 y1 y2, LeO (intervalmonlaw06_covers.l1 k y0 y1 y2) (intervalmonlaw06_covers.l1 (k + 1) y0 y1 y2))
  | 0 => ⟨fun _ _ _ _ _ _ r h => by simp [intervalmonlaw06_covers.l0] at h, fun _ _ _ r h => by simp [intervalmonlaw06_covers.l1] at h⟩
  | k + 1 => by
    obtain ⟨ih0, ih1⟩ := intervalmonlaw06_covers.mono_l k
    refine ⟨?_, ?_⟩
    · intro y0 y1 y2 y3 y4 y5
      unfold intervalmonlaw06_covers.l0
      repeat' first
      | (with_reducible exact ih0 _ _ _ _ _ _)
      | (with_reducible exact ih1 _ _ _)
      | (with_reducible exact lexer_Tokens.mono _ _)
      | (with_reducible exact LeO.refl _)
      | (with_reducible exact LeO.none _)
      | (with_reducible refine LeO.ite ?_ ?_)
      | (with_reducible refine LeO.bind ?_ (fun _ => ?_))
      | exact ih0 _ _ _ _ _ _
      | exact ih1 _ _ _
      | exact lexer_Tokens.mono _ _
      | exact LeO.none _
      | refine LeO.ite ?_ ?_
      | refine LeO.bind ?_ (fun _ => ?_)
    · intro y0 y1 y2
      unfold intervalmonlaw06_covers.l1
      repeat' first
      | (with_reducible exact ih0 _ _ _ _ _ _)
      | (with_reducible exact ih1 _ _ _)
      | (with_reducible exact lexer_Tokens.mono _ _)
      | (with_reducible exact LeO.refl _)
      | (with_reducible exact LeO.none _)
      | (with_reducible refine LeO.ite ?_ ?_)
      | (with_reducible refine LeO.bind ?_ (fun _ => ?_))
      | exact ih0 _ _ _ _ _ _
      | exact ih1 _ _ _
      | exact lexer_Tokens.mono _ _
      | exact LeO.none _
      | refine LeO.ite ?_ ?_
      | refine LeO.bind ?_ (fun _ => ?_)
theorem intervalmonlaw06_covers.mono : ∀ a0 k, LeO (intervalmonlaw06_covers.f k a0) (intervalmonlaw06_covers.f (k + 1) a0) := by
  intro a0 k
  obtain ⟨ih0, ih1⟩ := intervalmonlaw06_covers.mono_l k
  unfold intervalmonlaw06_covers.f
  repeat' first
      | (with_reducible exact ih0 _ _ _ _ _ _)
      | (with_reducible exact ih1 _ _ _)
      | (with_reducible exact lexer_Tokens.mono _ _)
      | (with_reducible exact LeO.refl _)
      | (with_reducible exact LeO.none _)
      | (with_reducible refine LeO.ite ?_ ?_)
      | (with_reducible refine LeO.bind ?_ (fun _ => ?_))
      | exact ih0 _ _ _ _ _ _
      | exact ih1 _ _ _
      | exact lexer_Tokens.mono _ _
      | exact LeO.none _
      | refine LeO.ite ?_ ?_
      | refine LeO.bind ?_ (fun _ => ?_)
set_option maxHeartbeats 8000000 in
set_option maxRecDepth 100000 in
theorem intervalmonlaw06_covers.calls (k : Nat) (a0 : ByteArray) (r : Bool) (w : World) (h : intervalmonlaw06_covers.f k a0 = some r) :
    Calls Tryd.prog 19 #[.string a0] w fun e w' => e = .returned (.bool r) ∧ Below w.heap.size w w' := by
  have HB := Aside0.mk (Below.refl w.heap.size w)
  have H : ((lexer_Tokens.f k a0).bind fun bt238 => (if bt238.2.2 = 0 then (intervalmonlaw06_covers.l0 k a0 bt238.1 bt238.2.1 (⟨#[]⟩ : ByteArray) 0 0) else (if (bt238.1.length : Int) = 0 then (if bt238.2.1 ≥ 0 then (some (decide (bt238.2.1 ≤ (a0.size : Int)))) else (some false)) else (some false)))) = some r := h
  clear h
  replace H := Option.bind_eq_some_iff.mp H
  obtain ⟨⟨t238, t239, t240⟩, A20, H⟩ := H
  replace H : (if t240 = 0 then (intervalmonlaw06_covers.l0 k a0 t238 t239 (⟨#[]⟩ : ByteArray) 0 0) else (if (t238.length : Int) = 0 then (if t239 ≥ 0 then (some (decide (t239 ≤ (a0.size : Int)))) else (some false)) else (some false))) = some r := H
  have A2 := Aside0.mk A20
  clear A20
  by_cases c3 : t240 = 0
  · rw [if_pos c3] at H
    have c3b0 : (t240 == 0) = true := beq_iff_eq.mpr c3
    have c3b1 : (t240 != 0) = false := bne_eq_false_iff_eq.mpr c3
    clear c3
    have H' := Aside0.mk H
    clear H
    go_enter Tryd.func19, Tryd.ntmps19
    go_wp2_with (first | (go_at_call 20; (with_reducible refine (lexer_Tokens.calls k a0 t238 t239 t240 _ A2.out).mono ?_); rintro e w4 ⟨v241, rfl, ho0, hb⟩; have n0_ := Aside0.mk (Kd.R_lower ho0 (below_size (by repeat (first | (with_reducible first | exact HB.out | apply below_alloc | apply pw_below_drewN | apply below_drew1) | exact HB.out)))); have n1_ := Aside0.mk (below_step (by repeat (first | (with_reducible first | exact HB.out | apply below_alloc | apply pw_below_drewN | apply below_drew1) | exact HB.out)) hb); clear HB; have HO242 := n0_; have HB := n1_; clear n0_ n1_; (try clear hb); (try clear hb2); (try clear hk); (try clear hi); (try clear ho0)))
    repeat (go_quiet (first | (go_at_call 20; (with_reducible refine (lexer_Tokens.calls k a0 t238 t239 t240 _ A2.out).mono ?_); rintro e w4 ⟨v241, rfl, ho0, hb⟩; have n0_ := Aside0.mk (Kd.R_lower ho0 (below_size (by repeat (first | (with_reducible first | exact HB.out | apply below_alloc | apply pw_below_drewN | apply below_drew1) | exact HB.out)))); have n1_ := Aside0.mk (below_step (by repeat (first | (with_reducible first | exact HB.out | apply below_alloc | apply pw_below_drewN | apply below_drew1) | exact HB.out)) hb); clear HB; have HO242 := n0_; have HB := n1_; clear n0_ n1_; (try clear hb); (try clear hb2); (try clear hk); (try clear hi); (try clear ho0))); try go_wp2_with (first | (go_at_call 20; (with_reducible refine (lexer_Tokens.calls k a0 t238 t239 t240 _ A2.out).mono ?_); rintro e w4 ⟨v241, rfl, ho0, hb⟩; have n0_ := Aside0.mk (Kd.R_lower ho0 (below_size (by repeat (first | (with_reducible first | exact HB.out | apply below_alloc | apply pw_below_drewN | apply below_drew1) | exact HB.out)))); have n1_ := Aside0.mk (below_step (by repeat (first | (with_reducible first | exact HB.out | apply below_alloc | apply pw_below_drewN | apply below_drew1) | exact HB.out)) hb); clear HB; have HO242 := n0_; have HB := n1_; clear n0_ n1_; (try clear hb); (try clear hb2); (try clear hk); (try clear hi); (try clear ho0))))
    go_loopg [6, 7, 8] k (fun kq v6 v7 v8 w' => ∃ (x6_1 : ByteArray) (x7_1 : Int) (x8_1 : Int), v6 = .string x6_1 ∧ v7 = .int .i64 x7_1 ∧ v8 = .int .i64 x8_1 ∧ Aside0 (intervalmonlaw06_covers.l0 kq a0 t238 t239 x6_1 x7_1 x8_1 = some r) ∧ Aside0 (kq ≤ k) ∧ Aside0 (Kd.R k37 37 w' w.heap.size (fun _ => True) v241 t238) ∧ Aside0 (Below w.heap.size w w'))
    case atStart => exact ⟨((⟨#[]⟩ : ByteArray)), (0), (0), (by first | rfl | (simp; done) | (simp only [z1, z2, Aid.size_lit, List.length_cons, List.length_nil, Nat.reduceAdd, Int.cast_ofNat_Int, z6, z7]; done) | (simp [*]; done)), (by first | rfl | (simp; done) | (simp only [z1, z2, Aid.size_lit, List.length_cons, List.length_nil, Nat.reduceAdd, Int.cast_ofNat_Int, z6, z7]; done) | (simp [*]; done)), (by first | rfl | (simp; done) | (simp only [z1, z2, Aid.size_lit, List.length_cons, List.length_nil, Nat.reduceAdd, Int.cast_ofNat_Int, z6, z7]; done) | (simp [*]; done)), H', ⟨Nat.le_refl _⟩, ⟨by (with_reducible repeat (first | apply Kd.R_alloc | apply Kd.R_drewN | apply Kd.R_drew)); exact HO242.out⟩, ⟨by repeat (first | (with_reducible first | exact HB.out | apply below_alloc | apply pw_below_drewN | apply below_drew1) | exact HB.out)⟩⟩
    case round =>
      clear H'
      try clear c1
      try clear p2
      try clear c3
      try clear c3b0
      try clear c3b1
      obtain ⟨x6_1, x7_1, x8_1, rfl, rfl, rfl, HA, HK1, HO_3, HB⟩ := hrel
      cases gk with
      | zero => exact absurd HA.out (by simp [intervalmonlaw06_covers.l0])
      | succ k1 =>
        have H := HA.out
        clear HA
        simp only [intervalmonlaw06_covers.l0] at H
        by_cases c5 : x8_1 < (t238.length : Int)
        · rw [if_pos c5] at H
          have c5b0 : decide (x8_1 < (t238.length : Int)) = true := decide_eq_true c5
          clear c5
          by_cases c6 : 0 ≤ x8_1
          · rw [if_pos c6] at H
            have c6b0 : decide (0 ≤ x8_1) = true := decide_eq_true c6
            clear c6
            by_cases c7 : ((rd_T37 t238 x8_1).f0) = 2
            · rw [if_pos c7] at H
              have c7b0 : (((rd_T37 t238 x8_1).f0) == 2) = true := beq_iff_eq.mpr c7
              have c7b1 : (((rd_T37 t238 x8_1).f0) != 2) = false := bne_eq_false_iff_eq.mpr c7
              clear c7
              by_cases c8 : 1 + ((rd_T37 t238 x8_1).f1).size ≤ 9223372036854775807
              · rw [if_pos c8] at H
                have c8b0 := eq_true c8
                have c8b1 : decide (1 + ((rd_T37 t238 x8_1).f1).size ≤ 9223372036854775807) = true := decide_eq_true c8
                try have c8b2 : (9223372036854775807 < 1 + ((rd_T37 t238 x8_1).f1).size) = False := eq_false (Nat.not_lt.2 c8)
                by_cases c9 : ((⟨#[34]⟩ : ByteArray) ++ ((rd_T37 t238 x8_1).f1)).size + 1 ≤ 9223372036854775807
                · rw [if_pos c9] at H
                  have c9b0 := eq_true c9
                  (try (have c9b0x := c9b0; simp only [z1, z2, Aid.size_lit, List.length_cons, List.length_nil, Nat.reduceAdd, Int.cast_ofNat_Int] at c9b0x))
                  try (have hh := c9b0; simp only [z1, z2, Aid.size_lit, List.length_cons, List.length_nil, Nat.reduceAdd, Int.cast_ofNat_Int, z6, z7] at hh)
                  have c9b1 : decide (((⟨#[34]⟩ : ByteArray) ++ ((rd_T37 t238 x8_1).f1)).size + 1 ≤ 9223372036854775807) = true := decide_eq_true c9
                  (try (have c9b1x := c9b1; simp only [z1, z2, Aid.size_lit, List.length_cons, List.length_nil, Nat.reduceAdd, Int.cast_ofNat_Int] at c9b1x))
                  try (have hh := c9b1; simp only [z1, z2, Aid.size_lit, List.length_cons, List.length_nil, Nat.reduceAdd, Int.cast_ofNat_Int, z6, z7] at hh)
                  try have c9b2 : (9223372036854775807 < ((⟨#[34]⟩ : ByteArray) ++ ((rd_T37 t238 x8_1).f1)).size + 1) = False := eq_false (Nat.not_lt.2 c9)
                  (try (have c9b2x := c9b2; simp only [z1, z2, Aid.size_lit, List.length_cons, List.length_nil, Nat.reduceAdd, Int.cast_ofNat_Int] at c9b2x))
                  try (have hh := c9b2; simp only [z1, z2, Aid.size_lit, List.length_cons, List.length_nil, Nat.reduceAdd, Int.cast_ofNat_Int, z6, z7] at hh)
                  by_cases c10 : ((rd_T37 t238 x8_1).f3) < x7_1
                  · rw [if_pos c10] at H
                    have c10b0 : decide (((rd_T37 t238 x8_1).f3) < x7_1) = true := decide_eq_true c10
                    clear c10
                    obtain rfl := Option.some.inj H
                    obtain ⟨Ao11, co11, eo11⟩ := Kd.R_slice HO_3.out
                    subst eo11
                    have p243 : 0 ≤ (x8_1 : Int) := of_decide_eq_true (by first | (with_reducible assumption) | assumption)
                    have q243 : x8_1 < (t238.length : Int) := of_decide_eq_true (by first | (with_reducible assumption) | assumption)
                    obtain ⟨ad243, e243, hx243_0, hx243_1, hx243_2, hx243_3⟩ := at_T37 (Kd.R_reads' HO_3.out).2.2 x8_1 p243 q243
                    cases e243
                    replace p243 := eq_true p243
                    replace q243 := eq_true q243
                    have p244 : 0 ≤ (x8_1 : Int) := of_decide_eq_true (by first | (with_reducible assumption) | assumption)
                    have q244 : x8_1 < (t238.length : Int) := of_decide_eq_true (by first | (with_reducible assumption) | assumption)
                    obtain ⟨ad244, e244, hx244_0, hx244_1, hx244_2, hx244_3⟩ := at_T37 (Kd.R_reads' HO_3.out).2.2 x8_1 p244 q244
                    obtain rfl : ad243 = ad244 := (by injection e244)
                    replace p244 := eq_true p244
                    replace q244 := eq_true q244
                    have p245 : 0 ≤ (x8_1 : Int) := of_decide_eq_true (by first | (with_reducible assumption) | assumption)
                    have q245 : x8_1 < (t238.length : Int) := of_decide_eq_true (by first | (with_reducible assumption) | assumption)
                    obtain ⟨ad245, e245, hx245_0, hx245_1, hx245_2, hx245_3⟩ := at_T37 (Kd.R_reads' HO_3.out).2.2 x8_1 p245 q245
                    obtain rfl : ad243 = ad245 := (by injection e245)
                    replace p245 := eq_true p245
                    replace q245 := eq_true q245
                    go_wp2
                    repeat (go_quiet (fail); try go_wp2)
                    go_ret
                    exact ⟨by first | rfl | (simp [errW_none, errW_some] <;> rfl) | (simp [*, errW_none, errW_some] <;> rfl), by repeat (first | (with_reducible first | exact HB.out | apply below_alloc | apply pw_below_drewN | apply below_drew1) | exact HB.out)⟩
                  · rw [if_neg c10] at H
                    have c10b0 : decide (((rd_T37 t238 x8_1).f3) < x7_1) = false := decide_eq_false c10
                    clear c10
                    by_cases c12 : (((⟨#[34]⟩ : ByteArray) ++ ((rd_T37 t238 x8_1).f1)) ++ (⟨#[34]⟩ : ByteArray)).toList = ([] : List UInt8)
                    · rw [if_pos c12] at H
                      have c12b0 : ((((⟨#[34]⟩ : ByteArray) ++ ((rd_T37 t238 x8_1).f1)) ++ (⟨#[34]⟩ : ByteArray)).toList == ([] : List UInt8)) = true := beq_iff_eq.mpr c12
                      have c12b1 : ((((⟨#[34]⟩ : ByteArray) ++ ((rd_T37 t238 x8_1).f1)) ++ (⟨#[34]⟩ : ByteArray)).toList != ([] : List UInt8)) = false := bne_eq_false_iff_eq.mpr c12
                      clear c12
                      obtain rfl := Option.some.inj H
                      obtain ⟨Ao13, co13, eo13⟩ := Kd.R_slice HO_3.out
                      subst eo13
                      have p243 : 0 ≤ (x8_1 : Int) := of_decide_eq_true (by first | (with_reducible assumption) | assumption)
                      have q243 : x8_1 < (t238.length : Int) := of_decide_eq_true (by first | (with_reducible assumption) | assumption)
                      obtain ⟨ad243, e243, hx243_0, hx243_1, hx243_2, hx243_3⟩ := at_T37 (Kd.R_reads' HO_3.out).2.2 x8_1 p243 q243
                      cases e243
                      replace p243 := eq_true p243
                      replace q243 := eq_true q243
                      have p244 : 0 ≤ (x8_1 : Int) := of_decide_eq_true (by first | (with_reducible assumption) | assumption)
                      have q244 : x8_1 < (t238.length : Int) := of_decide_eq_true (by first | (with_reducible assumption) | assumption)
                      obtain ⟨ad244, e244, hx244_0, hx244_1, hx244_2, hx244_3⟩ := at_T37 (Kd.R_reads' HO_3.out).2.2 x8_1 p244 q244
                      obtain rfl : ad243 = ad244 := (by injection e244)
                      replace p244 := eq_true p244
                      replace q244 := eq_true q244
                      have p245 : 0 ≤ (x8_1 : Int) := of_decide_eq_true (by first | (with_reducible assumption) | assumption)
                      have q245 : x8_1 < (t238.length : Int) := of_decide_eq_true (by first | (with_reducible assumption) | assumption)
                      obtain ⟨ad245, e245, hx245_0, hx245_1, hx245_2, hx245_3⟩ := at_T37 (Kd.R_reads' HO_3.out).2.2 x8_1 p245 q245
                      obtain rfl : ad243 = ad245 := (by injection e245)
                      replace p245 := eq_true p245
                      replace q245 := eq_true q245
                      go_wp2
                      repeat (go_quiet (fail); try go_wp2)
                      go_ret
                      exact ⟨by first | rfl | (simp [errW_none, errW_some] <;> rfl) | (simp [*, errW_none, errW_some] <;> rfl), by repeat (first | (with_reducible first | exact HB.out | apply below_alloc | apply pw_below_drewN | apply below_drew1) | exact HB.out)⟩
                    · rw [if_neg c12] at H
                      have c12b0 : ((((⟨#[34]⟩ : ByteArray) ++ ((rd_T37 t238 x8_1).f1)) ++ (⟨#[34]⟩ : ByteArray)).toList == ([] : List UInt8)) = false := beq_eq_false_iff_ne.mpr c12
                      have c12b1 : ((((⟨#[34]⟩ : ByteArray) ++ ((rd_T37 t238 x8_1).f1)) ++ (⟨#[34]⟩ : ByteArray)).toList != ([] : List UInt8)) = true := bne_iff_ne.mpr c12
                      by_cases c14 : (wrap64 (((rd_T37 t238 x8_1).f3) + ((((⟨#[34]⟩ : ByteArray) ++ ((rd_T37 t238 x8_1).f1)) ++ (⟨#[34]⟩ : ByteArray)).size : Int))) > (a0.size : Int)
                      · rw [if_pos c14] at H
                        have c14b0 : decide ((a0.size : Int) < (wrap64 (((rd_T37 t238 x8_1).f3) + ((((⟨#[34]⟩ : ByteArray) ++ ((rd_T37 t238 x8_1).f1)) ++ (⟨#[34]⟩ : ByteArray)).size : Int)))) = true := decide_eq_true c14
                        (try (have c14b0x := c14b0; simp only [z1, z2, Aid.size_lit, List.length_cons, List.length_nil, Nat.reduceAdd, Int.cast_ofNat_Int] at c14b0x))
                        try (have hh := c14b0; simp only [z1, z2, Aid.size_lit, List.length_cons, List.length_nil, Nat.reduceAdd, Int.cast_ofNat_Int, z6, z7] at hh)
                        clear c14
                        obtain rfl := Option.some.inj H
                        obtain ⟨Ao15, co15, eo15⟩ := Kd.R_slice HO_3.out
                        subst eo15
                        have p243 : 0 ≤ (x8_1 : Int) := of_decide_eq_true (by first | (with_reducible assumption) | assumption)
                        have q243 : x8_1 < (t238.length : Int) := of_decide_eq_true (by first | (with_reducible assumption) | assumption)
                        obtain ⟨ad243, e243, hx243_0, hx243_1, hx243_2, hx243_3⟩ := at_T37 (Kd.R_reads' HO_3.out).2.2 x8_1 p243 q243
                        cases e243
                        replace p243 := eq_true p243
                        replace q243 := eq_true q243
                        have p244 : 0 ≤ (x8_1 : Int) := of_decide_eq_true (by first | (with_reducible assumption) | assumption)
                        have q244 : x8_1 < (t238.length : Int) := of_decide_eq_true (by first | (with_reducible assumption) | assumption)
                        obtain ⟨ad244, e244, hx244_0, hx244_1, hx244_2, hx244_3⟩ := at_T37 (Kd.R_reads' HO_3.out).2.2 x8_1 p244 q244
                        obtain rfl : ad243 = ad244 := (by injection e244)
                        replace p244 := eq_true p244
                        replace q244 := eq_true q244
                        have p245 : 0 ≤ (x8_1 : Int) := of_decide_eq_true (by first | (with_reducible assumption) | assumption)
                        have q245 : x8_1 < (t238.length : Int) := of_decide_eq_true (by first | (with_reducible assumption) | assumption)
                        obtain ⟨ad245, e245, hx245_0, hx245_1, hx245_2, hx245_3⟩ := at_T37 (Kd.R_reads' HO_3.out).2.2 x8_1 p245 q245
                        obtain rfl : ad243 = ad245 := (by injection e245)
                        replace p245 := eq_true p245
                        replace q245 := eq_true q245
                        have p246 : 0 ≤ (x8_1 : Int) := of_decide_eq_true (by first | (with_reducible assumption) | assumption)
                        have q246 : x8_1 < (t238.length : Int) := of_decide_eq_true (by first | (with_reducible assumption) | assumption)
                        obtain ⟨ad246, e246, hx246_0, hx246_1, hx246_2, hx246_3⟩ := at_T37 (Kd.R_reads' HO_3.out).2.2 x8_1 p246 q246
                        obtain rfl : ad243 = ad246 := (by injection e246)
                        replace p246 := eq_true p246
                        replace q246 := eq_true q246
                        go_wp2
                        repeat (go_quiet (fail); try go_wp2)
                        go_ret
                        exact ⟨by first | rfl | (simp [errW_none, errW_some] <;> rfl) | (simp [*, errW_none, errW_some] <;> rfl), by repeat (first | (with_reducible first | exact HB.out | apply below_alloc | apply pw_below_drewN | apply below_drew1) | exact HB.out)⟩
                      · rw [if_neg c14] at H
                        have c14b0 : decide ((a0.size : Int) < (wrap64 (((rd_T37 t238 x8_1).f3) + ((((⟨#[34]⟩ : ByteArray) ++ ((rd_T37 t238 x8_1).f1)) ++ (⟨#[34]⟩ : ByteArray)).size : Int)))) = false := decide_eq_false c14
                        (try (have c14b0x := c14b0; simp only [z1, z2, Aid.size_lit, List.length_cons, List.length_nil, Nat.reduceAdd, Int.cast_ofNat_Int] at c14b0x))
                        try (have hh := c14b0; simp only [z1, z2, Aid.size_lit, List.length_cons, List.length_nil, Nat.reduceAdd, Int.cast_ofNat_Int, z6, z7] at hh)
                        clear c14
                        by_cases c16 : 0 ≤ ((rd_T37 t238 x8_1).f3)
                        · rw [if_pos c16] at H
                          have c16b0 := eq_true c16
                          have c16b1 : decide (0 ≤ ((rd_T37 t238 x8_1).f3)) = true := decide_eq_true c16
                          clear c16
                          by_cases c17 : ((rd_T37 t238 x8_1).f3) ≤ (wrap64 (((rd_T37 t238 x8_1).f3) + ((((⟨#[34]⟩ : ByteArray) ++ ((rd_T37 t238 x8_1).f1)) ++ (⟨#[34]⟩ : ByteArray)).size : Int)))
                          · rw [if_pos c17] at H
                            have c17b0 := eq_true c17
                            (try (have c17b0x := c17b0; simp only [z1, z2, Aid.size_lit, List.length_cons, List.length_nil, Nat.reduceAdd, Int.cast_ofNat_Int] at c17b0x))
                            try (have hh := c17b0; simp only [z1, z2, Aid.size_lit, List.length_cons, List.length_nil, Nat.reduceAdd, Int.cast_ofNat_Int, z6, z7] at hh)
                            have c17b1 : decide (((rd_T37 t238 x8_1).f3) ≤ (wrap64 (((rd_T37 t238 x8_1).f3) + ((((⟨#[34]⟩ : ByteArray) ++ ((rd_T37 t238 x8_1).f1)) ++ (⟨#[34]⟩ : ByteArray)).size : Int)))) = true := decide_eq_true c17
                            (try (have c17b1x := c17b1; simp only [z1, z2, Aid.size_lit, List.length_cons, List.length_nil, Nat.reduceAdd, Int.cast_ofNat_Int] at c17b1x))
                            try (have hh := c17b1; simp only [z1, z2, Aid.size_lit, List.length_cons, List.length_nil, Nat.reduceAdd, Int.cast_ofNat_Int, z6, z7] at hh)
                            by_cases c18 : (wrap64 (((rd_T37 t238 x8_1).f3) + ((((⟨#[34]⟩ : ByteArray) ++ ((rd_T37 t238 x8_1).f1)) ++ (⟨#[34]⟩ : ByteArray)).size : Int))) ≤ (a0.size : Int)
                            · rw [if_pos c18] at H
                              have c18b0 := eq_true c18
                              (try (have c18b0x := c18b0; simp only [z1, z2, Aid.size_lit, List.length_cons, List.length_nil, Nat.reduceAdd, Int.cast_ofNat_Int] at c18b0x))
                              try (have hh := c18b0; simp only [z1, z2, Aid.size_lit, List.length_cons, List.length_nil, Nat.reduceAdd, Int.cast_ofNat_Int, z6, z7] at hh)
                              have c18b1 : decide ((wrap64 (((rd_T37 t238 x8_1).f3) + ((((⟨#[34]⟩ : ByteArray) ++ ((rd_T37 t238 x8_1).f1)) ++ (⟨#[34]⟩ : ByteArray)).size : Int))) ≤ (a0.size : Int)) = true := decide_eq_true c18
                              (try (have c18b1x := c18b1; simp only [z1, z2, Aid.size_lit, List.length_cons, List.length_nil, Nat.reduceAdd, Int.cast_ofNat_Int] at c18b1x))
                              try (have hh := c18b1; simp only [z1, z2, Aid.size_lit, List.length_cons, List.length_nil, Nat.reduceAdd, Int.cast_ofNat_Int, z6, z7] at hh)
                              by_cases c19 : (a0.extract (((rd_T37 t238 x8_1).f3) : Int).toNat ((wrap64 (((rd_T37 t238 x8_1).f3) + ((((⟨#[34]⟩ : ByteArray) ++ ((rd_T37 t238 x8_1).f1)) ++ (⟨#[34]⟩ : ByteArray)).size : Int))) : Int).toNat).toList = (((⟨#[34]⟩ : ByteArray) ++ ((rd_T37 t238 x8_1).f1)) ++ (⟨#[34]⟩ : ByteArray)).toList
                              · rw [if_pos c19] at H
                                have c19b0 : ((a0.extract (((rd_T37 t238 x8_1).f3) : Int).toNat ((wrap64 (((rd_T37 t238 x8_1).f3) + ((((⟨#[34]⟩ : ByteArray) ++ ((rd_T37 t238 x8_1).f1)) ++ (⟨#[34]⟩ : ByteArray)).size : Int))) : Int).toNat).toList == (((⟨#[34]⟩ : ByteArray) ++ ((rd_T37 t238 x8_1).f1)) ++ (⟨#[34]⟩ : ByteArray)).toList) = true := beq_iff_eq.mpr c19
                                (try (have c19b0x := c19b0; simp only [z1, z2, Aid.size_lit, List.length_cons, List.length_nil, Nat.reduceAdd, Int.cast_ofNat_Int] at c19b0x))
                                try (have hh := c19b0; simp only [z1, z2, Aid.size_lit, List.length_cons, List.length_nil, Nat.reduceAdd, Int.cast_ofNat_Int, z6, z7] at hh)
                                have c19b1 : ((a0.extract (((rd_T37 t238 x8_1).f3) : Int).toNat ((wrap64 (((rd_T37 t238 x8_1).f3) + ((((⟨#[34]⟩ : ByteArray) ++ ((rd_T37 t238 x8_1).f1)) ++ (⟨#[34]⟩ : ByteArray)).size : Int))) : Int).toNat).toList != (((⟨#[34]⟩ : ByteArray) ++ ((rd_T37 t238 x8_1).f1)) ++ (⟨#[34]⟩ : ByteArray)).toList) = false := bne_eq_false_iff_eq.mpr c19
                                (try (have c19b1x := c19b1; simp only [z1, z2, Aid.size_lit, List.length_cons, List.length_nil, Nat.reduceAdd, Int.cast_ofNat_Int] at c19b1x))
                                try (have hh := c19b1; simp only [z1, z2, Aid.size_lit, List.length_cons, List.length_nil, Nat.reduceAdd, Int.cast_ofNat_Int, z6, z7] at hh)
                                clear c19
                                by_cases c20 : 0 ≤ x7_1
                                · rw [if_pos c20] at H
                                  have c20b0 := eq_true c20
                                  have c20b1 : decide (0 ≤ x7_1) = true := decide_eq_true c20
                                  clear c20
                                  by_cases c21 : x7_1 ≤ ((rd_T37 t238 x8_1).f3)
                                  · rw [if_pos c21] at H
                                    have c21b0 := eq_true c21
                                    have c21b1 : decide (x7_1 ≤ ((rd_T37 t238 x8_1).f3)) = true := decide_eq_true c21
                                    clear c21
                                    by_cases c22 : ((rd_T37 t238 x8_1).f3) ≤ (a0.size : Int)
                                    · rw [if_pos c22] at H
                                      have c22b0 := eq_true c22
                                      have c22b1 : decide (((rd_T37 t238 x8_1).f3) ≤ (a0.size : Int)) = true := decide_eq_true c22
                                      clear c22
                                      by_cases c23 : x6_1.size + (a0.extract (x7_1 : Int).toNat (((rd_T37 t238 x8_1).f3) : Int).toNat).size ≤ 9223372036854775807
                                      · rw [if_pos c23] at H
                                        have c23b0 := eq_true c23
                                        (try (have c23b0x := c23b0; simp only [z1, z2, Aid.size_lit, List.length_cons, List.length_nil, Nat.reduceAdd, Int.cast_ofNat_Int] at c23b0x))
                                        try (have hh := c23b0; simp only [z1, z2, Aid.size_lit, List.length_cons, List.length_nil, Nat.reduceAdd, Int.cast_ofNat_Int, z6, z7] at hh)
                                        have c23b1 : decide (x6_1.size + (a0.extract (x7_1 : Int).toNat (((rd_T37 t238 x8_1).f3) : Int).toNat).size ≤ 9223372036854775807) = true := decide_eq_true c23
                                        (try (have c23b1x := c23b1; simp only [z1, z2, Aid.size_lit, List.length_cons, List.length_nil, Nat.reduceAdd, Int.cast_ofNat_Int] at c23b1x))
                                        try (have hh := c23b1; simp only [z1, z2, Aid.size_lit, List.length_cons, List.length_nil, Nat.reduceAdd, Int.cast_ofNat_Int, z6, z7] at hh)
                                        try have c23b2 : (9223372036854775807 < x6_1.size + (a0.extract (x7_1 : Int).toNat (((rd_T37 t238 x8_1).f3) : Int).toNat).size) = False := eq_false (Nat.not_lt.2 c23)
                                        (try (have c23b2x := c23b2; simp only [z1, z2, Aid.size_lit, List.length_cons, List.length_nil, Nat.reduceAdd, Int.cast_ofNat_Int] at c23b2x))
                                        try (have hh := c23b2; simp only [z1, z2, Aid.size_lit, List.length_cons, List.length_nil, Nat.reduceAdd, Int.cast_ofNat_Int, z6, z7] at hh)
                                        have H' := Aside0.mk H
                                        clear H
                                        obtain ⟨Ao24, co24, eo24⟩ := Kd.R_slice HO_3.out
                                        subst eo24
                                        have p243 : 0 ≤ (x8_1 : Int) := of_decide_eq_true (by first | (with_reducible assumption) | assumption)
                                        have q243 : x8_1 < (t238.length : Int) := of_decide_eq_true (by first | (with_reducible assumption) | assumption)
                                        obtain ⟨ad243, e243, hx243_0, hx243_1, hx243_2, hx243_3⟩ := at_T37 (Kd.R_reads' HO_3.out).2.2 x8_1 p243 q243
                                        cases e243
                                        replace p243 := eq_true p243
                                        replace q243 := eq_true q243
                                        have p244 : 0 ≤ (x8_1 : Int) := of_decide_eq_true (by first | (with_reducible assumption) | assumption)
                                        have q244 : x8_1 < (t238.length : Int) := of_decide_eq_true (by first | (with_reducible assumption) | assumption)
                                        obtain ⟨ad244, e244, hx244_0, hx244_1, hx244_2, hx244_3⟩ := at_T37 (Kd.R_reads' HO_3.out).2.2 x8_1 p244 q244
                                        obtain rfl : ad243 = ad244 := (by injection e244)
                                        replace p244 := eq_true p244
                                        replace q244 := eq_true q244
                                        have p245 : 0 ≤ (x8_1 : Int) := of_decide_eq_true (by first | (with_reducible assumption) | assumption)
                                        have q245 : x8_1 < (t238.length : Int) := of_decide_eq_true (by first | (with_reducible assumption) | assumption)
                                        obtain ⟨ad245, e245, hx245_0, hx245_1, hx245_2, hx245_3⟩ := at_T37 (Kd.R_reads' HO_3.out).2.2 x8_1 p245 q245
                                        obtain rfl : ad243 = ad245 := (by injection e245)
                                        replace p245 := eq_true p245
                                        replace q245 := eq_true q245
                                        have p246 : 0 ≤ (x8_1 : Int) := of_decide_eq_true (by first | (with_reducible assumption) | assumption)
                                        have q246 : x8_1 < (t238.length : Int) := of_decide_eq_true (by first | (with_reducible assumption) | assumption)
                                        obtain ⟨ad246, e246, hx246_0, hx246_1, hx246_2, hx246_3⟩ := at_T37 (Kd.R_reads' HO_3.out).2.2 x8_1 p246 q246
                                        obtain rfl : ad243 = ad246 := (by injection e246)
                                        replace p246 := eq_true p246
                                        replace q246 := eq_true q246
                                        have p247 : 0 ≤ (x8_1 : Int) := of_decide_eq_true (by first | (with_reducible assumption) | assumption)
                                        have q247 : x8_1 < (t238.length : Int) := of_decide_eq_true (by first | (with_reducible assumption) | assumption)
                                        obtain ⟨ad247, e247, hx247_0, hx247_1, hx247_2, hx247_3⟩ := at_T37 (Kd.R_reads' HO_3.out).2.2 x8_1 p247 q247
                                        obtain rfl : ad243 = ad247 := (by injection e247)
                                        replace p247 := eq_true p247
                                        replace q247 := eq_true q247
                                        have p248 : 0 ≤ (x8_1 : Int) := of_decide_eq_true (by first | (with_reducible assumption) | assumption)
                                        have q248 : x8_1 < (t238.length : Int) := of_decide_eq_true (by first | (with_reducible assumption) | assumption)
                                        obtain ⟨ad248, e248, hx248_0, hx248_1, hx248_2, hx248_3⟩ := at_T37 (Kd.R_reads' HO_3.out).2.2 x8_1 p248 q248
                                        obtain rfl : ad243 = ad248 := (by injection e248)
                                        replace p248 := eq_true p248
                                        replace q248 := eq_true q248
                                        have p249 : 0 ≤ (x8_1 : Int) := of_decide_eq_true (by first | (with_reducible assumption) | assumption)
                                        have q249 : x8_1 < (t238.length : Int) := of_decide_eq_true (by first | (with_reducible assumption) | assumption)
                                        obtain ⟨ad249, e249, hx249_0, hx249_1, hx249_2, hx249_3⟩ := at_T37 (Kd.R_reads' HO_3.out).2.2 x8_1 p249 q249
                                        obtain rfl : ad243 = ad249 := (by injection e249)
                                        replace p249 := eq_true p249
                                        replace q249 := eq_true q249
                                        have p250 : 0 ≤ (x8_1 : Int) := of_decide_eq_true (by first | (with_reducible assumption) | assumption)
                                        have q250 : x8_1 < (t238.length : Int) := of_decide_eq_true (by first | (with_reducible assumption) | assumption)
                                        obtain ⟨ad250, e250, hx250_0, hx250_1, hx250_2, hx250_3⟩ := at_T37 (Kd.R_reads' HO_3.out).2.2 x8_1 p250 q250
                                        obtain rfl : ad243 = ad250 := (by injection e250)
                                        replace p250 := eq_true p250
                                        replace q250 := eq_true q250
                                        go_wp2
                                        repeat (go_quiet (fail); try go_wp2)
                                        go_roundg k1
                                        case measure => have := HK1.out; omega
                                        case rel => exact ⟨(x6_1 ++ (a0.extract (x7_1 : Int).toNat (((rd_T37 t238 x8_1).f3) : Int).toNat)), (wrap64 (((rd_T37 t238 x8_1).f3) + ((((⟨#[34]⟩ : ByteArray) ++ ((rd_T37 t238 x8_1).f1)) ++ (⟨#[34]⟩ : ByteArray)).size : Int))), (wrap64 (x8_1 + 1)), (by first | rfl | (simp; done) | (simp only [z1, z2, Aid.size_lit, List.length_cons, List.length_nil, Nat.reduceAdd, Int.cast_ofNat_Int, z6, z7]; done) | (simp [*]; done)), (by first | rfl | (simp; done) | (simp only [z1, z2, Aid.size_lit, List.length_cons, List.length_nil, Nat.reduceAdd, Int.cast_ofNat_Int, z6, z7]; done) | (simp [*]; done)), (by first | rfl | (simp; done) | (simp only [z1, z2, Aid.size_lit, List.length_cons, List.length_nil, Nat.reduceAdd, Int.cast_ofNat_Int, z6, z7]; done) | (simp [*]; done)), H', ⟨by have := HK1.out; omega⟩, ⟨by (with_reducible repeat (first | apply Kd.R_alloc | apply Kd.R_drewN | apply Kd.R_drew)); exact HO_3.out⟩, ⟨by repeat (first | (with_reducible first | exact HB.out | apply below_alloc | apply pw_below_drewN | apply below_drew1) | exact HB.out)⟩⟩
                                      · rw [if_neg c23] at H
                                        exact absurd H (by simp)
                                    · rw [if_neg c22] at H
                                      exact absurd H (by simp)
                                  · rw [if_neg c21] at H
                                    exact absurd H (by simp)
                                · rw [if_neg c20] at H
                                  exact absurd H (by simp)
                              · rw [if_neg c19] at H
                                have c19b0 : ((a0.extract (((rd_T37 t238 x8_1).f3) : Int).toNat ((wrap64 (((rd_T37 t238 x8_1).f3) + ((((⟨#[34]⟩ : ByteArray) ++ ((rd_T37 t238 x8_1).f1)) ++ (⟨#[34]⟩ : ByteArray)).size : Int))) : Int).toNat).toList == (((⟨#[34]⟩ : ByteArray) ++ ((rd_T37 t238 x8_1).f1)) ++ (⟨#[34]⟩ : ByteArray)).toList) = false := beq_eq_false_iff_ne.mpr c19
                                (try (have c19b0x := c19b0; simp only [z1, z2, Aid.size_lit, List.length_cons, List.length_nil, Nat.reduceAdd, Int.cast_ofNat_Int] at c19b0x))
                                try (have hh := c19b0; simp only [z1, z2, Aid.size_lit, List.length_cons, List.length_nil, Nat.reduceAdd, Int.cast_ofNat_Int, z6, z7] at hh)
                                have c19b1 : ((a0.extract (((rd_T37 t238 x8_1).f3) : Int).toNat ((wrap64 (((rd_T37 t238 x8_1).f3) + ((((⟨#[34]⟩ : ByteArray) ++ ((rd_T37 t238 x8_1).f1)) ++ (⟨#[34]⟩ : ByteArray)).size : Int))) : Int).toNat).toList != (((⟨#[34]⟩ : ByteArray) ++ ((rd_T37 t238 x8_1).f1)) ++ (⟨#[34]⟩ : ByteArray)).toList) = true := bne_iff_ne.mpr c19
                                (try (have c19b1x := c19b1; simp only [z1, z2, Aid.size_lit, List.length_cons, List.length_nil, Nat.reduceAdd, Int.cast_ofNat_Int] at c19b1x))
                                try (have hh := c19b1; simp only [z1, z2, Aid.size_lit, List.length_cons, List.length_nil, Nat.reduceAdd, Int.cast_ofNat_Int, z6, z7] at hh)
                                obtain rfl := Option.some.inj H
                                obtain ⟨Ao25, co25, eo25⟩ := Kd.R_slice HO_3.out
                                subst eo25
                                have p243 : 0 ≤ (x8_1 : Int) := of_decide_eq_true (by first | (with_reducible assumption) | assumption)
                                have q243 : x8_1 < (t238.length : Int) := of_decide_eq_true (by first | (with_reducible assumption) | assumption)
                                obtain ⟨ad243, e243, hx243_0, hx243_1, hx243_2, hx243_3⟩ := at_T37 (Kd.R_reads' HO_3.out).2.2 x8_1 p243 q243
                                cases e243
                                replace p243 := eq_true p243
                                replace q243 := eq_true q243
                                have p244 : 0 ≤ (x8_1 : Int) := of_decide_eq_true (by first | (with_reducible assumption) | assumption)
                                have q244 : x8_1 < (t238.length : Int) := of_decide_eq_true (by first | (with_reducible assumption) | assumption)
                                obtain ⟨ad244, e244, hx244_0, hx244_1, hx244_2, hx244_3⟩ := at_T37 (Kd.R_reads' HO_3.out).2.2 x8_1 p244 q244
                                obtain rfl : ad243 = ad244 := (by injection e244)
                                replace p244 := eq_true p244
                                replace q244 := eq_true q244
                                have p245 : 0 ≤ (x8_1 : Int) := of_decide_eq_true (by first | (with_reducible assumption) | assumption)
                                have q245 : x8_1 < (t238.length : Int) := of_decide_eq_true (by first | (with_reducible assumption) | assumption)
                                obtain ⟨ad245, e245, hx245_0, hx245_1, hx245_2, hx245_3⟩ := at_T37 (Kd.R_reads' HO_3.out).2.2 x8_1 p245 q245
                                obtain rfl : ad243 = ad245 := (by injection e245)
                                replace p245 := eq_true p245
                                replace q245 := eq_true q245
                                have p246 : 0 ≤ (x8_1 : Int) := of_decide_eq_true (by first | (with_reducible assumption) | assumption)
                                have q246 : x8_1 < (t238.length : Int) := of_decide_eq_true (by first | (with_reducible assumption) | assumption)
                                obtain ⟨ad246, e246, hx246_0, hx246_1, hx246_2, hx246_3⟩ := at_T37 (Kd.R_reads' HO_3.out).2.2 x8_1 p246 q246
                                obtain rfl : ad243 = ad246 := (by injection e246)
                                replace p246 := eq_true p246
                                replace q246 := eq_true q246
                                have p247 : 0 ≤ (x8_1 : Int) := of_decide_eq_true (by first | (with_reducible assumption) | assumption)
                                have q247 : x8_1 < (t238.length : Int) := of_decide_eq_true (by first | (with_reducible assumption) | assumption)
                                obtain ⟨ad247, e247, hx247_0, hx247_1, hx247_2, hx247_3⟩ := at_T37 (Kd.R_reads' HO_3.out).2.2 x8_1 p247 q247
                                obtain rfl : ad243 = ad247 := (by injection e247)
                                replace p247 := eq_true p247
                                replace q247 := eq_true q247
                                have p248 : 0 ≤ (x8_1 : Int) := of_decide_eq_true (by first | (with_reducible assumption) | assumption)
                                have q248 : x8_1 < (t238.length : Int) := of_decide_eq_true (by first | (with_reducible assumption) | assumption)
                                obtain ⟨ad248, e248, hx248_0, hx248_1, hx248_2, hx248_3⟩ := at_T37 (Kd.R_reads' HO_3.out).2.2 x8_1 p248 q248
                                obtain rfl : ad243 = ad248 := (by injection e248)
                                replace p248 := eq_true p248
                                replace q248 := eq_true q248
                                go_wp2
                                repeat (go_quiet (fail); try go_wp2)
                                go_ret
                                exact ⟨by first | rfl | (simp [errW_none, errW_some] <;> rfl) | (simp [*, errW_none, errW_some] <;> rfl), by repeat (first | (with_reducible first | exact HB.out | apply below_alloc | apply pw_below_drewN | apply below_drew1) | exact HB.out)⟩
                            · rw [if_neg c18] at H
                              exact absurd H (by simp)
                          · rw [if_neg c17] at H
                            exact absurd H (by simp)
                        · rw [if_neg c16] at H
                          exact absurd H (by simp)
                · rw [if_neg c9] at H
                  exact absurd H (by simp)
              · rw [if_neg c8] at H
                exact absurd H (by simp)
            · rw [if_neg c7] at H
              have c7b0 : (((rd_T37 t238 x8_1).f0) == 2) = false := beq_eq_false_iff_ne.mpr c7
              have c7b1 : (((rd_T37 t238 x8_1).f0) != 2) = true := bne_iff_ne.mpr c7
              by_cases c26 : ((rd_T37 t238 x8_1).f3) < x7_1
              · rw [if_pos c26] at H
                have c26b0 : decide (((rd_T37 t238 x8_1).f3) < x7_1) = true := decide_eq_true c26
                clear c26
                obtain rfl := Option.some.inj H
                obtain ⟨Ao27, co27, eo27⟩ := Kd.R_slice HO_3.out
                subst eo27
                have p243 : 0 ≤ (x8_1 : Int) := of_decide_eq_true (by first | (with_reducible assumption) | assumption)
                have q243 : x8_1 < (t238.length : Int) := of_decide_eq_true (by first | (with_reducible assumption) | assumption)
                obtain ⟨ad243, e243, hx243_0, hx243_1, hx243_2, hx243_3⟩ := at_T37 (Kd.R_reads' HO_3.out).2.2 x8_1 p243 q243
                cases e243
                replace p243 := eq_true p243
                replace q243 := eq_true q243
                have p244 : 0 ≤ (x8_1 : Int) := of_decide_eq_true (by first | (with_reducible assumption) | assumption)
                have q244 : x8_1 < (t238.length : Int) := of_decide_eq_true (by first | (with_reducible assumption) | assumption)
                obtain ⟨ad244, e244, hx244_0, hx244_1, hx244_2, hx244_3⟩ := at_T37 (Kd.R_reads' HO_3.out).2.2 x8_1 p244 q244
                obtain rfl : ad243 = ad244 := (by injection e244)
                replace p244 := eq_true p244
                replace q244 := eq_true q244
                have p251 : 0 ≤ (x8_1 : Int) := of_decide_eq_true (by first | (with_reducible assumption) | assumption)
                have q251 : x8_1 < (t238.length : Int) := of_decide_eq_true (by first | (with_reducible assumption) | assumption)
                obtain ⟨ad251, e251, hx251_0, hx251_1, hx251_2, hx251_3⟩ := at_T37 (Kd.R_reads' HO_3.out).2.2 x8_1 p251 q251
                obtain rfl : ad243 = ad251 := (by injection e251)
                replace p251 := eq_true p251
                replace q251 := eq_true q251
                go_wp2
                repeat (go_quiet (fail); try go_wp2)
                go_ret
                exact ⟨by first | rfl | (simp [errW_none, errW_some] <;> rfl) | (simp [*, errW_none, errW_some] <;> rfl), by repeat (first | (with_reducible first | exact HB.out | apply below_alloc | apply pw_below_drewN | apply below_drew1) | exact HB.out)⟩
              · rw [if_neg c26] at H
                have c26b0 : decide (((rd_T37 t238 x8_1).f3) < x7_1) = false := decide_eq_false c26
                clear c26
                by_cases c28 : ((rd_T37 t238 x8_1).f1).toList = ([] : List UInt8)
                · rw [if_pos c28] at H
                  have c28b0 : (((rd_T37 t238 x8_1).f1).toList == ([] : List UInt8)) = true := beq_iff_eq.mpr c28
                  have c28b1 : (((rd_T37 t238 x8_1).f1).toList != ([] : List UInt8)) = false := bne_eq_false_iff_eq.mpr c28
                  clear c28
                  obtain rfl := Option.some.inj H
                  obtain ⟨Ao29, co29, eo29⟩ := Kd.R_slice HO_3.out
                  subst eo29
                  have p243 : 0 ≤ (x8_1 : Int) := of_decide_eq_true (by first | (with_reducible assumption) | assumption)
                  have q243 : x8_1 < (t238.length : Int) := of_decide_eq_true (by first | (with_reducible assumption) | assumption)
                  obtain ⟨ad243, e243, hx243_0, hx243_1, hx243_2, hx243_3⟩ := at_T37 (Kd.R_reads' HO_3.out).2.2 x8_1 p243 q243
                  cases e243
                  replace p243 := eq_true p243
                  replace q243 := eq_true q243
                  have p244 : 0 ≤ (x8_1 : Int) := of_decide_eq_true (by first | (with_reducible assumption) | assumption)
                  have q244 : x8_1 < (t238.length : Int) := of_decide_eq_true (by first | (with_reducible assumption) | assumption)
                  obtain ⟨ad244, e244, hx244_0, hx244_1, hx244_2, hx244_3⟩ := at_T37 (Kd.R_reads' HO_3.out).2.2 x8_1 p244 q244
                  obtain rfl : ad243 = ad244 := (by injection e244)
                  replace p244 := eq_true p244
                  replace q244 := eq_true q244
                  have p251 : 0 ≤ (x8_1 : Int) := of_decide_eq_true (by first | (with_reducible assumption) | assumption)
                  have q251 : x8_1 < (t238.length : Int) := of_decide_eq_true (by first | (with_reducible assumption) | assumption)
                  obtain ⟨ad251, e251, hx251_0, hx251_1, hx251_2, hx251_3⟩ := at_T37 (Kd.R_reads' HO_3.out).2.2 x8_1 p251 q251
                  obtain rfl : ad243 = ad251 := (by injection e251)
                  replace p251 := eq_true p251
                  replace q251 := eq_true q251
                  go_wp2
                  repeat (go_quiet (fail); try go_wp2)
                  go_ret
                  exact ⟨by first | rfl | (simp [errW_none, errW_some] <;> rfl) | (simp [*, errW_none, errW_some] <;> rfl), by repeat (first | (with_reducible first | exact HB.out | apply below_alloc | apply pw_below_drewN | apply below_drew1) | exact HB.out)⟩
                · rw [if_neg c28] at H
                  have c28b0 : (((rd_T37 t238 x8_1).f1).toList == ([] : List UInt8)) = false := beq_eq_false_iff_ne.mpr c28
                  have c28b1 : (((rd_T37 t238 x8_1).f1).toList != ([] : List UInt8)) = true := bne_iff_ne.mpr c28
                  by_cases c30 : (wrap64 (((rd_T37 t238 x8_1).f3) + (((rd_T37 t238 x8_1).f1).size : Int))) > (a0.size : Int)
                  · rw [if_pos c30] at H
                    have c30b0 : decide ((a0.size : Int) < (wrap64 (((rd_T37 t238 x8_1).f3) + (((rd_T37 t238 x8_1).f1).size : Int)))) = true := decide_eq_true c30
                    clear c30
                    obtain rfl := Option.some.inj H
                    obtain ⟨Ao31, co31, eo31⟩ := Kd.R_slice HO_3.out
                    subst eo31
                    have p243 : 0 ≤ (x8_1 : Int) := of_decide_eq_true (by first | (with_reducible assumption) | assumption)
                    have q243 : x8_1 < (t238.length : Int) := of_decide_eq_true (by first | (with_reducible assumption) | assumption)
                    obtain ⟨ad243, e243, hx243_0, hx243_1, hx243_2, hx243_3⟩ := at_T37 (Kd.R_reads' HO_3.out).2.2 x8_1 p243 q243
                    cases e243
                    replace p243 := eq_true p243
                    replace q243 := eq_true q243
                    have p244 : 0 ≤ (x8_1 : Int) := of_decide_eq_true (by first | (with_reducible assumption) | assumption)
                    have q244 : x8_1 < (t238.length : Int) := of_decide_eq_true (by first | (with_reducible assumption) | assumption)
                    obtain ⟨ad244, e244, hx244_0, hx244_1, hx244_2, hx244_3⟩ := at_T37 (Kd.R_reads' HO_3.out).2.2 x8_1 p244 q244
                    obtain rfl : ad243 = ad244 := (by injection e244)
                    replace p244 := eq_true p244
                    replace q244 := eq_true q244
                    have p251 : 0 ≤ (x8_1 : Int) := of_decide_eq_true (by first | (with_reducible assumption) | assumption)
                    have q251 : x8_1 < (t238.length : Int) := of_decide_eq_true (by first | (with_reducible assumption) | assumption)
                    obtain ⟨ad251, e251, hx251_0, hx251_1, hx251_2, hx251_3⟩ := at_T37 (Kd.R_reads' HO_3.out).2.2 x8_1 p251 q251
                    obtain rfl : ad243 = ad251 := (by injection e251)
                    replace p251 := eq_true p251
                    replace q251 := eq_true q251
                    have p252 : 0 ≤ (x8_1 : Int) := of_decide_eq_true (by first | (with_reducible assumption) | assumption)
                    have q252 : x8_1 < (t238.length : Int) := of_decide_eq_true (by first | (with_reducible assumption) | assumption)
                    obtain ⟨ad252, e252, hx252_0, hx252_1, hx252_2, hx252_3⟩ := at_T37 (Kd.R_reads' HO_3.out).2.2 x8_1 p252 q252
                    obtain rfl : ad243 = ad252 := (by injection e252)
                    replace p252 := eq_true p252
                    replace q252 := eq_true q252
                    go_wp2
                    repeat (go_quiet (fail); try go_wp2)
                    go_ret
                    exact ⟨by first | rfl | (simp [errW_none, errW_some] <;> rfl) | (simp [*, errW_none, errW_some] <;> rfl), by repeat (first | (with_reducible first | exact HB.out | apply below_alloc | apply pw_below_drewN | apply below_drew1) | exact HB.out)⟩
                  · rw [if_neg c30] at H
                    have c30b0 : decide ((a0.size : Int) < (wrap64 (((rd_T37 t238 x8_1).f3) + (((rd_T37 t238 x8_1).f1).size : Int)))) = false := decide_eq_false c30
                    clear c30
                    by_cases c32 : 0 ≤ ((rd_T37 t238 x8_1).f3)
                    · rw [if_pos c32] at H
                      have c32b0 := eq_true c32
                      have c32b1 : decide (0 ≤ ((rd_T37 t238 x8_1).f3)) = true := decide_eq_true c32
                      clear c32
                      by_cases c33 : ((rd_T37 t238 x8_1).f3) ≤ (wrap64 (((rd_T37 t238 x8_1).f3) + (((rd_T37 t238 x8_1).f1).size : Int)))
                      · rw [if_pos c33] at H
                        have c33b0 := eq_true c33
                        have c33b1 : decide (((rd_T37 t238 x8_1).f3) ≤ (wrap64 (((rd_T37 t238 x8_1).f3) + (((rd_T37 t238 x8_1).f1).size : Int)))) = true := decide_eq_true c33
                        by_cases c34 : (wrap64 (((rd_T37 t238 x8_1).f3) + (((rd_T37 t238 x8_1).f1).size : Int))) ≤ (a0.size : Int)
                        · rw [if_pos c34] at H
                          have c34b0 := eq_true c34
                          have c34b1 : decide ((wrap64 (((rd_T37 t238 x8_1).f3) + (((rd_T37 t238 x8_1).f1).size : Int))) ≤ (a0.size : Int)) = true := decide_eq_true c34
                          by_cases c35 : (a0.extract (((rd_T37 t238 x8_1).f3) : Int).toNat ((wrap64 (((rd_T37 t238 x8_1).f3) + (((rd_T37 t238 x8_1).f1).size : Int))) : Int).toNat).toList = ((rd_T37 t238 x8_1).f1).toList
                          · rw [if_pos c35] at H
                            have c35b0 : ((a0.extract (((rd_T37 t238 x8_1).f3) : Int).toNat ((wrap64 (((rd_T37 t238 x8_1).f3) + (((rd_T37 t238 x8_1).f1).size : Int))) : Int).toNat).toList == ((rd_T37 t238 x8_1).f1).toList) = true := beq_iff_eq.mpr c35
                            (try (have c35b0x := c35b0; simp only [z1, z2, Aid.size_lit, List.length_cons, List.length_nil, Nat.reduceAdd, Int.cast_ofNat_Int] at c35b0x))
                            try (have hh := c35b0; simp only [z1, z2, Aid.size_lit, List.length_cons, List.length_nil, Nat.reduceAdd, Int.cast_ofNat_Int, z6, z7] at hh)
                            have c35b1 : ((a0.extract (((rd_T37 t238 x8_1).f3) : Int).toNat ((wrap64 (((rd_T37 t238 x8_1).f3) + (((rd_T37 t238 x8_1).f1).size : Int))) : Int).toNat).toList != ((rd_T37 t238 x8_1).f1).toList) = false := bne_eq_false_iff_eq.mpr c35
                            (try (have c35b1x := c35b1; simp only [z1, z2, Aid.size_lit, List.length_cons, List.length_nil, Nat.reduceAdd, Int.cast_ofNat_Int] at c35b1x))
                            try (have hh := c35b1; simp only [z1, z2, Aid.size_lit, List.length_cons, List.length_nil, Nat.reduceAdd, Int.cast_ofNat_Int, z6, z7] at hh)
                            clear c35
                            by_cases c36 : 0 ≤ x7_1
                            · rw [if_pos c36] at H
                              have c36b0 := eq_true c36
                              have c36b1 : decide (0 ≤ x7_1) = true := decide_eq_true c36
                              clear c36
                              by_cases c37 : x7_1 ≤ ((rd_T37 t238 x8_1).f3)
                              · rw [if_pos c37] at H
                                have c37b0 := eq_true c37
                                have c37b1 : decide (x7_1 ≤ ((rd_T37 t238 x8_1).f3)) = true := decide_eq_true c37
                                clear c37
                                by_cases c38 : ((rd_T37 t238 x8_1).f3) ≤ (a0.size : Int)
                                · rw [if_pos c38] at H
                                  have c38b0 := eq_true c38
                                  have c38b1 : decide (((rd_T37 t238 x8_1).f3) ≤ (a0.size : Int)) = true := decide_eq_true c38
                                  clear c38
                                  by_cases c39 : x6_1.size + (a0.extract (x7_1 : Int).toNat (((rd_T37 t238 x8_1).f3) : Int).toNat).size ≤ 9223372036854775807
                                  · rw [if_pos c39] at H
                                    have c39b0 := eq_true c39
                                    (try (have c39b0x := c39b0; simp only [z1, z2, Aid.size_lit, List.length_cons, List.length_nil, Nat.reduceAdd, Int.cast_ofNat_Int] at c39b0x))
                                    try (have hh := c39b0; simp only [z1, z2, Aid.size_lit, List.length_cons, List.length_nil, Nat.reduceAdd, Int.cast_ofNat_Int, z6, z7] at hh)
                                    have c39b1 : decide (x6_1.size + (a0.extract (x7_1 : Int).toNat (((rd_T37 t238 x8_1).f3) : Int).toNat).size ≤ 9223372036854775807) = true := decide_eq_true c39
                                    (try (have c39b1x := c39b1; simp only [z1, z2, Aid.size_lit, List.length_cons, List.length_nil, Nat.reduceAdd, Int.cast_ofNat_Int] at c39b1x))
                                    try (have hh := c39b1; simp only [z1, z2, Aid.size_lit, List.length_cons, List.length_nil, Nat.reduceAdd, Int.cast_ofNat_Int, z6, z7] at hh)
                                    try have c39b2 : (9223372036854775807 < x6_1.size + (a0.extract (x7_1 : Int).toNat (((rd_T37 t238 x8_1).f3) : Int).toNat).size) = False := eq_false (Nat.not_lt.2 c39)
                                    (try (have c39b2x := c39b2; simp only [z1, z2, Aid.size_lit, List.length_cons, List.length_nil, Nat.reduceAdd, Int.cast_ofNat_Int] at c39b2x))
                                    try (have hh := c39b2; simp only [z1, z2, Aid.size_lit, List.length_cons, List.length_nil, Nat.reduceAdd, Int.cast_ofNat_Int, z6, z7] at hh)
                                    have H' := Aside0.mk H
                                    clear H
                                    obtain ⟨Ao40, co40, eo40⟩ := Kd.R_slice HO_3.out
                                    subst eo40
                                    have p243 : 0 ≤ (x8_1 : Int) := of_decide_eq_true (by first | (with_reducible assumption) | assumption)
                                    have q243 : x8_1 < (t238.length : Int) := of_decide_eq_true (by first | (with_reducible assumption) | assumption)
                                    obtain ⟨ad243, e243, hx243_0, hx243_1, hx243_2, hx243_3⟩ := at_T37 (Kd.R_reads' HO_3.out).2.2 x8_1 p243 q243
                                    cases e243
                                    replace p243 := eq_true p243
                                    replace q243 := eq_true q243
                                    have p244 : 0 ≤ (x8_1 : Int) := of_decide_eq_true (by first | (with_reducible assumption) | assumption)
                                    have q244 : x8_1 < (t238.length : Int) := of_decide_eq_true (by first | (with_reducible assumption) | assumption)
                                    obtain ⟨ad244, e244, hx244_0, hx244_1, hx244_2, hx244_3⟩ := at_T37 (Kd.R_reads' HO_3.out).2.2 x8_1 p244 q244
                                    obtain rfl : ad243 = ad244 := (by injection e244)
                                    replace p244 := eq_true p244
                                    replace q244 := eq_true q244
                                    have p251 : 0 ≤ (x8_1 : Int) := of_decide_eq_true (by first | (with_reducible assumption) | assumption)
                                    have q251 : x8_1 < (t238.length : Int) := of_decide_eq_true (by first | (with_reducible assumption) | assumption)
                                    obtain ⟨ad251, e251, hx251_0, hx251_1, hx251_2, hx251_3⟩ := at_T37 (Kd.R_reads' HO_3.out).2.2 x8_1 p251 q251
                                    obtain rfl : ad243 = ad251 := (by injection e251)
                                    replace p251 := eq_true p251
                                    replace q251 := eq_true q251
                                    have p252 : 0 ≤ (x8_1 : Int) := of_decide_eq_true (by first | (with_reducible assumption) | assumption)
                                    have q252 : x8_1 < (t238.length : Int) := of_decide_eq_true (by first | (with_reducible assumption) | assumption)
                                    obtain ⟨ad252, e252, hx252_0, hx252_1, hx252_2, hx252_3⟩ := at_T37 (Kd.R_reads' HO_3.out).2.2 x8_1 p252 q252
                                    obtain rfl : ad243 = ad252 := (by injection e252)
                                    replace p252 := eq_true p252
                                    replace q252 := eq_true q252
                                    have p253 : 0 ≤ (x8_1 : Int) := of_decide_eq_true (by first | (with_reducible assumption) | assumption)
                                    have q253 : x8_1 < (t238.length : Int) := of_decide_eq_true (by first | (with_reducible assumption) | assumption)
                                    obtain ⟨ad253, e253, hx253_0, hx253_1, hx253_2, hx253_3⟩ := at_T37 (Kd.R_reads' HO_3.out).2.2 x8_1 p253 q253
                                    obtain rfl : ad243 = ad253 := (by injection e253)
                                    replace p253 := eq_true p253
                                    replace q253 := eq_true q253
                                    have p254 : 0 ≤ (x8_1 : Int) := of_decide_eq_true (by first | (with_reducible assumption) | assumption)
                                    have q254 : x8_1 < (t238.length : Int) := of_decide_eq_true (by first | (with_reducible assumption) | assumption)
                                    obtain ⟨ad254, e254, hx254_0, hx254_1, hx254_2, hx254_3⟩ := at_T37 (Kd.R_reads' HO_3.out).2.2 x8_1 p254 q254
                                    obtain rfl : ad243 = ad254 := (by injection e254)
                                    replace p254 := eq_true p254
                                    replace q254 := eq_true q254
                                    have p255 : 0 ≤ (x8_1 : Int) := of_decide_eq_true (by first | (with_reducible assumption) | assumption)
                                    have q255 : x8_1 < (t238.length : Int) := of_decide_eq_true (by first | (with_reducible assumption) | assumption)
                                    obtain ⟨ad255, e255, hx255_0, hx255_1, hx255_2, hx255_3⟩ := at_T37 (Kd.R_reads' HO_3.out).2.2 x8_1 p255 q255
                                    obtain rfl : ad243 = ad255 := (by injection e255)
                                    replace p255 := eq_true p255
                                    replace q255 := eq_true q255
                                    have p256 : 0 ≤ (x8_1 : Int) := of_decide_eq_true (by first | (with_reducible assumption) | assumption)
                                    have q256 : x8_1 < (t238.length : Int) := of_decide_eq_true (by first | (with_reducible assumption) | assumption)
                                    obtain ⟨ad256, e256, hx256_0, hx256_1, hx256_2, hx256_3⟩ := at_T37 (Kd.R_reads' HO_3.out).2.2 x8_1 p256 q256
                                    obtain rfl : ad243 = ad256 := (by injection e256)
                                    replace p256 := eq_true p256
                                    replace q256 := eq_true q256
                                    go_wp2
                                    repeat (go_quiet (fail); try go_wp2)
                                    go_roundg k1
                                    case measure => have := HK1.out; omega
                                    case rel => exact ⟨(x6_1 ++ (a0.extract (x7_1 : Int).toNat (((rd_T37 t238 x8_1).f3) : Int).toNat)), (wrap64 (((rd_T37 t238 x8_1).f3) + (((rd_T37 t238 x8_1).f1).size : Int))), (wrap64 (x8_1 + 1)), (by first | rfl | (simp; done) | (simp only [z1, z2, Aid.size_lit, List.length_cons, List.length_nil, Nat.reduceAdd, Int.cast_ofNat_Int, z6, z7]; done) | (simp [*]; done)), (by first | rfl | (simp; done) | (simp only [z1, z2, Aid.size_lit, List.length_cons, List.length_nil, Nat.reduceAdd, Int.cast_ofNat_Int, z6, z7]; done) | (simp [*]; done)), (by first | rfl | (simp; done) | (simp only [z1, z2, Aid.size_lit, List.length_cons, List.length_nil, Nat.reduceAdd, Int.cast_ofNat_Int, z6, z7]; done) | (simp [*]; done)), H', ⟨by have := HK1.out; omega⟩, ⟨by (with_reducible repeat (first | apply Kd.R_alloc | apply Kd.R_drewN | apply Kd.R_drew)); exact HO_3.out⟩, ⟨by repeat (first | (with_reducible first | exact HB.out | apply below_alloc | apply pw_below_drewN | apply below_drew1) | exact HB.out)⟩⟩
                                  · rw [if_neg c39] at H
                                    exact absurd H (by simp)
                                · rw [if_neg c38] at H
                                  exact absurd H (by simp)
                              · rw [if_neg c37] at H
                                exact absurd H (by simp)
                            · rw [if_neg c36] at H
                              exact absurd H (by simp)
                          · rw [if_neg c35] at H
                            have c35b0 : ((a0.extract (((rd_T37 t238 x8_1).f3) : Int).toNat ((wrap64 (((rd_T37 t238 x8_1).f3) + (((rd_T37 t238 x8_1).f1).size : Int))) : Int).toNat).toList == ((rd_T37 t238 x8_1).f1).toList) = false := beq_eq_false_iff_ne.mpr c35
                            (try (have c35b0x := c35b0; simp only [z1, z2, Aid.size_lit, List.length_cons, List.length_nil, Nat.reduceAdd, Int.cast_ofNat_Int] at c35b0x))
                            try (have hh := c35b0; simp only [z1, z2, Aid.size_lit, List.length_cons, List.length_nil, Nat.reduceAdd, Int.cast_ofNat_Int, z6, z7] at hh)
                            have c35b1 : ((a0.extract (((rd_T37 t238 x8_1).f3) : Int).toNat ((wrap64 (((rd_T37 t238 x8_1).f3) + (((rd_T37 t238 x8_1).f1).size : Int))) : Int).toNat).toList != ((rd_T37 t238 x8_1).f1).toList) = true := bne_iff_ne.mpr c35
                            (try (have c35b1x := c35b1; simp only [z1, z2, Aid.size_lit, List.length_cons, List.length_nil, Nat.reduceAdd, Int.cast_ofNat_Int] at c35b1x))
                            try (have hh := c35b1; simp only [z1, z2, Aid.size_lit, List.length_cons, List.length_nil, Nat.reduceAdd, Int.cast_ofNat_Int, z6, z7] at hh)
                            obtain rfl := Option.some.inj H
                            obtain ⟨Ao41, co41, eo41⟩ := Kd.R_slice HO_3.out
                            subst eo41
                            have p243 : 0 ≤ (x8_1 : Int) := of_decide_eq_true (by first | (with_reducible assumption) | assumption)
                            have q243 : x8_1 < (t238.length : Int) := of_decide_eq_true (by first | (with_reducible assumption) | assumption)
                            obtain ⟨ad243, e243, hx243_0, hx243_1, hx243_2, hx243_3⟩ := at_T37 (Kd.R_reads' HO_3.out).2.2 x8_1 p243 q243
                            cases e243
                            replace p243 := eq_true p243
                            replace q243 := eq_true q243
                            have p244 : 0 ≤ (x8_1 : Int) := of_decide_eq_true (by first | (with_reducible assumption) | assumption)
                            have q244 : x8_1 < (t238.length : Int) := of_decide_eq_true (by first | (with_reducible assumption) | assumption)
                            obtain ⟨ad244, e244, hx244_0, hx244_1, hx244_2, hx244_3⟩ := at_T37 (Kd.R_reads' HO_3.out).2.2 x8_1 p244 q244
                            obtain rfl : ad243 = ad244 := (by injection e244)
                            replace p244 := eq_true p244
                            replace q244 := eq_true q244
                            have p251 : 0 ≤ (x8_1 : Int) := of_decide_eq_true (by first | (with_reducible assumption) | assumption)
                            have q251 : x8_1 < (t238.length : Int) := of_decide_eq_true (by first | (with_reducible assumption) | assumption)
                            obtain ⟨ad251, e251, hx251_0, hx251_1, hx251_2, hx251_3⟩ := at_T37 (Kd.R_reads' HO_3.out).2.2 x8_1 p251 q251
                            obtain rfl : ad243 = ad251 := (by injection e251)
                            replace p251 := eq_true p251
                            replace q251 := eq_true q251
                            have p252 : 0 ≤ (x8_1 : Int) := of_decide_eq_true (by first | (with_reducible assumption) | assumption)
                            have q252 : x8_1 < (t238.length : Int) := of_decide_eq_true (by first | (with_reducible assumption) | assumption)
                            obtain ⟨ad252, e252, hx252_0, hx252_1, hx252_2, hx252_3⟩ := at_T37 (Kd.R_reads' HO_3.out).2.2 x8_1 p252 q252
                            obtain rfl : ad243 = ad252 := (by injection e252)
                            replace p252 := eq_true p252
                            replace q252 := eq_true q252
                            have p253 : 0 ≤ (x8_1 : Int) := of_decide_eq_true (by first | (with_reducible assumption) | assumption)
                            have q253 : x8_1 < (t238.length : Int) := of_decide_eq_true (by first | (with_reducible assumption) | assumption)
                            obtain ⟨ad253, e253, hx253_0, hx253_1, hx253_2, hx253_3⟩ := at_T37 (Kd.R_reads' HO_3.out).2.2 x8_1 p253 q253
                            obtain rfl : ad243 = ad253 := (by injection e253)
                            replace p253 := eq_true p253
                            replace q253 := eq_true q253
                            have p254 : 0 ≤ (x8_1 : Int) := of_decide_eq_true (by first | (with_reducible assumption) | assumption)
                            have q254 : x8_1 < (t238.length : Int) := of_decide_eq_true (by first | (with_reducible assumption) | assumption)
                            obtain ⟨ad254, e254, hx254_0, hx254_1, hx254_2, hx254_3⟩ := at_T37 (Kd.R_reads' HO_3.out).2.2 x8_1 p254 q254
                            obtain rfl : ad243 = ad254 := (by injection e254)
                            replace p254 := eq_true p254
                            replace q254 := eq_true q254
                            go_wp2
                            repeat (go_quiet (fail); try go_wp2)
                            go_ret
                            exact ⟨by first | rfl | (simp [errW_none, errW_some] <;> rfl) | (simp [*, errW_none, errW_some] <;> rfl), by repeat (first | (with_reducible first | exact HB.out | apply below_alloc | apply pw_below_drewN | apply below_drew1) | exact HB.out)⟩
                        · rw [if_neg c34] at H
                          exact absurd H (by simp)
                      · rw [if_neg c33] at H
                        exact absurd H (by simp)
                    · rw [if_neg c32] at H
                      exact absurd H (by simp)
          · rw [if_neg c6] at H
            exact absurd H (by simp)
        · rw [if_neg c5] at H
          have c5b0 : decide (x8_1 < (t238.length : Int)) = false := decide_eq_false c5
          clear c5
          by_cases c42 : 0 ≤ x7_1
          · rw [if_pos c42] at H
            have c42b0 := eq_true c42
            have c42b1 : decide (0 ≤ x7_1) = true := decide_eq_true c42
            clear c42
            by_cases c43 : x7_1 ≤ (a0.size : Int)
            · rw [if_pos c43] at H
              have c43b0 := eq_true c43
              have c43b1 : decide (x7_1 ≤ (a0.size : Int)) = true := decide_eq_true c43
              clear c43
              by_cases c44 : x6_1.size + (a0.extract (x7_1 : Int).toNat a0.size).size ≤ 9223372036854775807
              · rw [if_pos c44] at H
                have c44b0 := eq_true c44
                (try (have c44b0x := c44b0; simp only [z1, z2, Aid.size_lit, List.length_cons, List.length_nil, Nat.reduceAdd, Int.cast_ofNat_Int] at c44b0x))
                try (have hh := c44b0; simp only [z1, z2, Aid.size_lit, List.length_cons, List.length_nil, Nat.reduceAdd, Int.cast_ofNat_Int, z6, z7] at hh)
                have c44b1 : decide (x6_1.size + (a0.extract (x7_1 : Int).toNat a0.size).size ≤ 9223372036854775807) = true := decide_eq_true c44
                (try (have c44b1x := c44b1; simp only [z1, z2, Aid.size_lit, List.length_cons, List.length_nil, Nat.reduceAdd, Int.cast_ofNat_Int] at c44b1x))
                try (have hh := c44b1; simp only [z1, z2, Aid.size_lit, List.length_cons, List.length_nil, Nat.reduceAdd, Int.cast_ofNat_Int, z6, z7] at hh)
                try have c44b2 : (9223372036854775807 < x6_1.size + (a0.extract (x7_1 : Int).toNat a0.size).size) = False := eq_false (Nat.not_lt.2 c44)
                (try (have c44b2x := c44b2; simp only [z1, z2, Aid.size_lit, List.length_cons, List.length_nil, Nat.reduceAdd, Int.cast_ofNat_Int] at c44b2x))
                try (have hh := c44b2; simp only [z1, z2, Aid.size_lit, List.length_cons, List.length_nil, Nat.reduceAdd, Int.cast_ofNat_Int, z6, z7] at hh)
                have H' := Aside0.mk H
                clear H
                obtain ⟨Ao45, co45, eo45⟩ := Kd.R_slice HO_3.out
                subst eo45
                go_wp2
                repeat (go_quiet (fail); try go_wp2)
                go_loopg [10] k1 (fun kq v10 w' => ∃ (x10_2 : Int), v10 = .int .i64 x10_2 ∧ Aside0 (intervalmonlaw06_covers.l1 kq t239 (x6_1 ++ (a0.extract (x7_1 : Int).toNat a0.size)) x10_2 = some r) ∧ Aside0 (kq ≤ k1) ∧ Aside0 (Below w.heap.size w w'))
                case atStart => exact ⟨(0), (by first | rfl | (simp; done) | (simp only [z1, z2, Aid.size_lit, List.length_cons, List.length_nil, Nat.reduceAdd, Int.cast_ofNat_Int, z6, z7]; done) | (simp [*]; done)), H', ⟨Nat.le_refl _⟩, ⟨by repeat (first | (with_reducible first | exact HB.out | apply below_alloc | apply pw_below_drewN | apply below_drew1) | exact HB.out)⟩⟩
                case round =>
                  clear H'
                  try clear c1
                  try clear c2
                  try clear p2
                  try clear q2
                  try clear hx2
                  try clear c3
                  try clear c3b0
                  try clear c3b1
                  try clear c4
                  try clear c5
                  try clear c5b0
                  try clear c6
                  try clear c6b0
                  try clear p6
                  try clear c7
                  try clear c7b0
                  try clear c7b1
                  try clear c8
                  try clear c8b0
                  try clear c8b1
                  try clear c8b2
                  try clear c9
                  try clear c9b0
                  try clear c9b1
                  try clear c9b2
                  try clear c10
                  try clear c10b0
                  try clear c12
                  try clear c12b0
                  try clear c12b1
                  try clear c14
                  try clear c14b0
                  try clear c16
                  try clear c16b0
                  try clear c16b1
                  try clear c17
                  try clear c17b0
                  try clear c17b1
                  try clear c18
                  try clear c18b0
                  try clear c18b1
                  try clear c19
                  try clear c19b0
                  try clear c19b1
                  try clear c20
                  try clear c20b0
                  try clear c20b1
                  try clear c21
                  try clear c21b0
                  try clear c21b1
                  try clear c22
                  try clear c22b0
                  try clear c22b1
                  try clear c23
                  try clear c23b0
                  try clear c23b1
                  try clear c23b2
                  try clear p24
                  try clear q24
                  try clear hx24
                  try clear p25
                  try clear q25
                  try clear hx25
                  try clear c26
                  try clear c26b0
                  try clear c28
                  try clear c28b0
                  try clear c28b1
                  try clear c30
                  try clear c30b0
                  try clear c32
                  try clear c32b0
                  try clear c32b1
                  try clear c33
                  try clear c33b0
                  try clear c33b1
                  try clear c34
                  try clear c34b0
                  try clear c34b1
                  try clear c35
                  try clear c35b0
                  try clear c35b1
                  try clear c36
                  try clear c36b0
                  try clear c36b1
                  try clear c37
                  try clear c37b0
                  try clear c37b1
                  try clear c38
                  try clear c38b0
                  try clear c38b1
                  try clear c39
                  try clear c39b0
                  try clear c39b1
                  try clear c39b2
                  try clear c42
                  try clear c42b0
                  try clear c42b1
                  try clear c43
                  try clear c43b0
                  try clear c43b1
                  try clear c44
                  try clear c44b0
                  try clear c44b1
                  try clear c44b2
                  try clear hx243_0
                  try clear hx243_1
                  try clear hx243_2
                  try clear hx243_3
                  try clear hx244_0
                  try clear hx244_1
                  try clear hx244_2
                  try clear hx244_3
                  try clear hx245_0
                  try clear hx245_1
                  try clear hx245_2
                  try clear hx245_3
                  try clear hx246_0
                  try clear hx246_1
                  try clear hx246_2
                  try clear hx246_3
                  try clear hx247_0
                  try clear hx247_1
                  try clear hx247_2
                  try clear hx247_3
                  try clear hx248_0
                  try clear hx248_1
                  try clear hx248_2
                  try clear hx248_3
                  try clear hx249_0
                  try clear hx249_1
                  try clear hx249_2
                  try clear hx249_3
                  try clear hx250_0
                  try clear hx250_1
                  try clear hx250_2
                  try clear hx250_3
                  try clear hx251_0
                  try clear hx251_1
                  try clear hx251_2
                  try clear hx251_3
                  try clear hx252_0
                  try clear hx252_1
                  try clear hx252_2
                  try clear hx252_3
                  try clear hx253_0
                  try clear hx253_1
                  try clear hx253_2
                  try clear hx253_3
                  try clear hx254_0
                  try clear hx254_1
                  try clear hx254_2
                  try clear hx254_3
                  try clear hx255_0
                  try clear hx255_1
                  try clear hx255_2
                  try clear hx255_3
                  try clear hx256_0
                  try clear hx256_1
                  try clear hx256_2
                  try clear hx256_3
                  try clear p2
                  try clear p243
                  try clear p244
                  try clear p245
                  try clear p246
                  try clear p247
                  try clear p248
                  try clear p249
                  try clear p250
                  try clear p251
                  try clear p252
                  try clear p253
                  try clear p254
                  try clear p255
                  try clear p256
                  try clear q243
                  try clear q244
                  try clear q245
                  try clear q246
                  try clear q247
                  try clear q248
                  try clear q249
                  try clear q250
                  try clear q251
                  try clear q252
                  try clear q253
                  try clear q254
                  try clear q255
                  try clear q256
                  obtain ⟨x10_2, rfl, HA, HK2, HB⟩ := hrel
                  cases gk with
                  | zero => exact absurd HA.out (by simp [intervalmonlaw06_covers.l1])
                  | succ k2 =>
                    have H := HA.out
                    clear HA
                    simp only [intervalmonlaw06_covers.l1] at H
                    by_cases c46 : x10_2 < ((x6_1 ++ (a0.extract (x7_1 : Int).toNat a0.size)).size : Int)
                    · rw [if_pos c46] at H
                      have c46b0 : decide (x10_2 < ((x6_1 ++ (a0.extract (x7_1 : Int).toNat a0.size)).size : Int)) = true := decide_eq_true c46
                      (try (have c46b0x := c46b0; simp only [z1, z2, Aid.size_lit, List.length_cons, List.length_nil, Nat.reduceAdd, Int.cast_ofNat_Int] at c46b0x))
                      try (have hh := c46b0; simp only [z1, z2, Aid.size_lit, List.length_cons, List.length_nil, Nat.reduceAdd, Int.cast_ofNat_Int, z6, z7] at hh)
                      clear c46
                      by_cases c47 : 0 ≤ x10_2
                      · rw [if_pos c47] at H
                        have c47b0 : decide (0 ≤ x10_2) = true := decide_eq_true c47
                        clear c47
                        by_cases c49 : (bt (x6_1 ++ (a0.extract (x7_1 : Int).toNat a0.size)) x10_2) = 9
                        · rw [if_pos c49] at H
                          have c49b0 : ((bt (x6_1 ++ (a0.extract (x7_1 : Int).toNat a0.size)) x10_2) == 9) = true := beq_iff_eq.mpr c49
                          (try (have c49b0x := c49b0; simp only [z1, z2, Aid.size_lit, List.length_cons, List.length_nil, Nat.reduceAdd, Int.cast_ofNat_Int] at c49b0x))
                          try (have hh := c49b0; simp only [z1, z2, Aid.size_lit, List.length_cons, List.length_nil, Nat.reduceAdd, Int.cast_ofNat_Int, z6, z7] at hh)
                          have c49b1 : ((bt (x6_1 ++ (a0.extract (x7_1 : Int).toNat a0.size)) x10_2) != 9) = false := bne_eq_false_iff_eq.mpr c49
                          (try (have c49b1x := c49b1; simp only [z1, z2, Aid.size_lit, List.length_cons, List.length_nil, Nat.reduceAdd, Int.cast_ofNat_Int] at c49b1x))
                          try (have hh := c49b1; simp only [z1, z2, Aid.size_lit, List.length_cons, List.length_nil, Nat.reduceAdd, Int.cast_ofNat_Int, z6, z7] at hh)
                          clear c49
                          have H' := Aside0.mk H
                          clear H
                          have p48 : 0 ≤ (x10_2 : Int) := of_decide_eq_true (by first | (with_reducible assumption) | assumption)
                          have q48 : x10_2 < ((x6_1 ++ (a0.extract (x7_1 : Int).toNat a0.size)).size : Int) := of_decide_eq_true (by first | (with_reducible assumption) | assumption)
                          have hx48 := bt_at (x6_1 ++ (a0.extract (x7_1 : Int).toNat a0.size)) x10_2
                          replace p48 := eq_true p48
                          replace q48 := eq_true q48
                          try (have hh := q48; simp only [z1, z2, Aid.size_lit, List.length_cons, List.length_nil, Nat.reduceAdd, Int.cast_ofNat_Int, z6, z7] at hh)
                          go_wp2
                          repeat (go_quiet (fail); try go_wp2)
                          go_roundg k2
                          case measure => have := HK1.out; have := HK2.out; omega
                          case rel => exact ⟨(wrap64 (x10_2 + 1)), (by first | rfl | (simp; done) | (simp only [z1, z2, Aid.size_lit, List.length_cons, List.length_nil, Nat.reduceAdd, Int.cast_ofNat_Int, z6, z7]; done) | (simp [*]; done)), H', ⟨by have := HK1.out; have := HK2.out; omega⟩, ⟨by repeat (first | (with_reducible first | exact HB.out | apply below_alloc | apply pw_below_drewN | apply below_drew1) | exact HB.out)⟩⟩
                        · rw [if_neg c49] at H
                          have c49b0 : ((bt (x6_1 ++ (a0.extract (x7_1 : Int).toNat a0.size)) x10_2) == 9) = false := beq_eq_false_iff_ne.mpr c49
                          (try (have c49b0x := c49b0; simp only [z1, z2, Aid.size_lit, List.length_cons, List.length_nil, Nat.reduceAdd, Int.cast_ofNat_Int] at c49b0x))
                          try (have hh := c49b0; simp only [z1, z2, Aid.size_lit, List.length_cons, List.length_nil, Nat.reduceAdd, Int.cast_ofNat_Int, z6, z7] at hh)
                          have c49b1 : ((bt (x6_1 ++ (a0.extract (x7_1 : Int).toNat a0.size)) x10_2) != 9) = true := bne_iff_ne.mpr c49
                          (try (have c49b1x := c49b1; simp only [z1, z2, Aid.size_lit, List.length_cons, List.length_nil, Nat.reduceAdd, Int.cast_ofNat_Int] at c49b1x))
                          try (have hh := c49b1; simp only [z1, z2, Aid.size_lit, List.length_cons, List.length_nil, Nat.reduceAdd, Int.cast_ofNat_Int, z6, z7] at hh)
                          by_cases c51 : (bt (x6_1 ++ (a0.extract (x7_1 : Int).toNat a0.size)) x10_2) = 10
                          · rw [if_pos c51] at H
                            have c51b0 : ((bt (x6_1 ++ (a0.extract (x7_1 : Int).toNat a0.size)) x10_2) == 10) = true := beq_iff_eq.mpr c51
                            (try (have c51b0x := c51b0; simp only [z1, z2, Aid.size_lit, List.length_cons, List.length_nil, Nat.reduceAdd, Int.cast_ofNat_Int] at c51b0x))
                            try (have hh := c51b0; simp only [z1, z2, Aid.size_lit, List.length_cons, List.length_nil, Nat.reduceAdd, Int.cast_ofNat_Int, z6, z7] at hh)
                            have c51b1 : ((bt (x6_1 ++ (a0.extract (x7_1 : Int).toNat a0.size)) x10_2) != 10) = false := bne_eq_false_iff_eq.mpr c51
                            (try (have c51b1x := c51b1; simp only [z1, z2, Aid.size_lit, List.length_cons, List.length_nil, Nat.reduceAdd, Int.cast_ofNat_Int] at c51b1x))
                            try (have hh := c51b1; simp only [z1, z2, Aid.size_lit, List.length_cons, List.length_nil, Nat.reduceAdd, Int.cast_ofNat_Int, z6, z7] at hh)
                            clear c51
                            have H' := Aside0.mk H
                            clear H
                            have p48 : 0 ≤ (x10_2 : Int) := of_decide_eq_true (by first | (with_reducible assumption) | assumption)
                            have q48 : x10_2 < ((x6_1 ++ (a0.extract (x7_1 : Int).toNat a0.size)).size : Int) := of_decide_eq_true (by first | (with_reducible assumption) | assumption)
                            have hx48 := bt_at (x6_1 ++ (a0.extract (x7_1 : Int).toNat a0.size)) x10_2
                            replace p48 := eq_true p48
                            replace q48 := eq_true q48
                            try (have hh := q48; simp only [z1, z2, Aid.size_lit, List.length_cons, List.length_nil, Nat.reduceAdd, Int.cast_ofNat_Int, z6, z7] at hh)
                            have p50 : 0 ≤ (x10_2 : Int) := of_decide_eq_true (by first | (with_reducible assumption) | assumption)
                            have q50 : x10_2 < ((x6_1 ++ (a0.extract (x7_1 : Int).toNat a0.size)).size : Int) := of_decide_eq_true (by first | (with_reducible assumption) | assumption)
                            have hx50 := bt_at (x6_1 ++ (a0.extract (x7_1 : Int).toNat a0.size)) x10_2
                            replace p50 := eq_true p50
                            replace q50 := eq_true q50
                            try (have hh := q50; simp only [z1, z2, Aid.size_lit, List.length_cons, List.length_nil, Nat.reduceAdd, Int.cast_ofNat_Int, z6, z7] at hh)
                            go_wp2
                            repeat (go_quiet (fail); try go_wp2)
                            go_roundg k2
                            case measure => have := HK1.out; have := HK2.out; omega
                            case rel => exact ⟨(wrap64 (x10_2 + 1)), (by first | rfl | (simp; done) | (simp only [z1, z2, Aid.size_lit, List.length_cons, List.length_nil, Nat.reduceAdd, Int.cast_ofNat_Int, z6, z7]; done) | (simp [*]; done)), H', ⟨by have := HK1.out; have := HK2.out; omega⟩, ⟨by repeat (first | (with_reducible first | exact HB.out | apply below_alloc | apply pw_below_drewN | apply below_drew1) | exact HB.out)⟩⟩
                          · rw [if_neg c51] at H
                            have c51b0 : ((bt (x6_1 ++ (a0.extract (x7_1 : Int).toNat a0.size)) x10_2) == 10) = false := beq_eq_false_iff_ne.mpr c51
                            (try (have c51b0x := c51b0; simp only [z1, z2, Aid.size_lit, List.length_cons, List.length_nil, Nat.reduceAdd, Int.cast_ofNat_Int] at c51b0x))
                            try (have hh := c51b0; simp only [z1, z2, Aid.size_lit, List.length_cons, List.length_nil, Nat.reduceAdd, Int.cast_ofNat_Int, z6, z7] at hh)
                            have c51b1 : ((bt (x6_1 ++ (a0.extract (x7_1 : Int).toNat a0.size)) x10_2) != 10) = true := bne_iff_ne.mpr c51
                            (try (have c51b1x := c51b1; simp only [z1, z2, Aid.size_lit, List.length_cons, List.length_nil, Nat.reduceAdd, Int.cast_ofNat_Int] at c51b1x))
                            try (have hh := c51b1; simp only [z1, z2, Aid.size_lit, List.length_cons, List.length_nil, Nat.reduceAdd, Int.cast_ofNat_Int, z6, z7] at hh)
                            by_cases c53 : (bt (x6_1 ++ (a0.extract (x7_1 : Int).toNat a0.size)) x10_2) = 13
                            · rw [if_pos c53] at H
                              have c53b0 : ((bt (x6_1 ++ (a0.extract (x7_1 : Int).toNat a0.size)) x10_2) == 13) = true := beq_iff_eq.mpr c53
                              (try (have c53b0x := c53b0; simp only [z1, z2, Aid.size_lit, List.length_cons, List.length_nil, Nat.reduceAdd, Int.cast_ofNat_Int] at c53b0x))
                              try (have hh := c53b0; simp only [z1, z2, Aid.size_lit, List.length_cons, List.length_nil, Nat.reduceAdd, Int.cast_ofNat_Int, z6, z7] at hh)
                              have c53b1 : ((bt (x6_1 ++ (a0.extract (x7_1 : Int).toNat a0.size)) x10_2) != 13) = false := bne_eq_false_iff_eq.mpr c53
                              (try (have c53b1x := c53b1; simp only [z1, z2, Aid.size_lit, List.length_cons, List.length_nil, Nat.reduceAdd, Int.cast_ofNat_Int] at c53b1x))
                              try (have hh := c53b1; simp only [z1, z2, Aid.size_lit, List.length_cons, List.length_nil, Nat.reduceAdd, Int.cast_ofNat_Int, z6, z7] at hh)
                              clear c53
                              have H' := Aside0.mk H
                              clear H
                              have p48 : 0 ≤ (x10_2 : Int) := of_decide_eq_true (by first | (with_reducible assumption) | assumption)
                              have q48 : x10_2 < ((x6_1 ++ (a0.extract (x7_1 : Int).toNat a0.size)).size : Int) := of_decide_eq_true (by first | (with_reducible assumption) | assumption)
                              have hx48 := bt_at (x6_1 ++ (a0.extract (x7_1 : Int).toNat a0.size)) x10_2
                              replace p48 := eq_true p48
                              replace q48 := eq_true q48
                              try (have hh := q48; simp only [z1, z2, Aid.size_lit, List.length_cons, List.length_nil, Nat.reduceAdd, Int.cast_ofNat_Int, z6, z7] at hh)
                              have p50 : 0 ≤ (x10_2 : Int) := of_decide_eq_true (by first | (with_reducible assumption) | assumption)
                              have q50 : x10_2 < ((x6_1 ++ (a0.extract (x7_1 : Int).toNat a0.size)).size : Int) := of_decide_eq_true (by first | (with_reducible assumption) | assumption)
                              have hx50 := bt_at (x6_1 ++ (a0.extract (x7_1 : Int).toNat a0.size)) x10_2
                              replace p50 := eq_true p50
                              replace q50 := eq_true q50
                              try (have hh := q50; simp only [z1, z2, Aid.size_lit, List.length_cons, List.length_nil, Nat.reduceAdd, Int.cast_ofNat_Int, z6, z7] at hh)
                              have p52 : 0 ≤ (x10_2 : Int) := of_decide_eq_true (by first | (with_reducible assumption) | assumption)
                              have q52 : x10_2 < ((x6_1 ++ (a0.extract (x7_1 : Int).toNat a0.size)).size : Int) := of_decide_eq_true (by first | (with_reducible assumption) | assumption)
                              have hx52 := bt_at (x6_1 ++ (a0.extract (x7_1 : Int).toNat a0.size)) x10_2
                              replace p52 := eq_true p52
                              replace q52 := eq_true q52
                              try (have hh := q52; simp only [z1, z2, Aid.size_lit, List.length_cons, List.length_nil, Nat.reduceAdd, Int.cast_ofNat_Int, z6, z7] at hh)
                              go_wp2
                              repeat (go_quiet (fail); try go_wp2)
                              go_roundg k2
                              case measure => have := HK1.out; have := HK2.out; omega
                              case rel => exact ⟨(wrap64 (x10_2 + 1)), (by first | rfl | (simp; done) | (simp only [z1, z2, Aid.size_lit, List.length_cons, List.length_nil, Nat.reduceAdd, Int.cast_ofNat_Int, z6, z7]; done) | (simp [*]; done)), H', ⟨by have := HK1.out; have := HK2.out; omega⟩, ⟨by repeat (first | (with_reducible first | exact HB.out | apply below_alloc | apply pw_below_drewN | apply below_drew1) | exact HB.out)⟩⟩
                            · rw [if_neg c53] at H
                              have c53b0 : ((bt (x6_1 ++ (a0.extract (x7_1 : Int).toNat a0.size)) x10_2) == 13) = false := beq_eq_false_iff_ne.mpr c53
                              (try (have c53b0x := c53b0; simp only [z1, z2, Aid.size_lit, List.length_cons, List.length_nil, Nat.reduceAdd, Int.cast_ofNat_Int] at c53b0x))
                              try (have hh := c53b0; simp only [z1, z2, Aid.size_lit, List.length_cons, List.length_nil, Nat.reduceAdd, Int.cast_ofNat_Int, z6, z7] at hh)
                              have c53b1 : ((bt (x6_1 ++ (a0.extract (x7_1 : Int).toNat a0.size)) x10_2) != 13) = true := bne_iff_ne.mpr c53
                              (try (have c53b1x := c53b1; simp only [z1, z2, Aid.size_lit, List.length_cons, List.length_nil, Nat.reduceAdd, Int.cast_ofNat_Int] at c53b1x))
                              try (have hh := c53b1; simp only [z1, z2, Aid.size_lit, List.length_cons, List.length_nil, Nat.reduceAdd, Int.cast_ofNat_Int, z6, z7] at hh)
                              by_cases c55 : (bt (x6_1 ++ (a0.extract (x7_1 : Int).toNat a0.size)) x10_2) = 32
                              · rw [if_pos c55] at H
                                have c55b0 : ((bt (x6_1 ++ (a0.extract (x7_1 : Int).toNat a0.size)) x10_2) == 32) = true := beq_iff_eq.mpr c55
                                (try (have c55b0x := c55b0; simp only [z1, z2, Aid.size_lit, List.length_cons, List.length_nil, Nat.reduceAdd, Int.cast_ofNat_Int] at c55b0x))
                                try (have hh := c55b0; simp only [z1, z2, Aid.size_lit, List.length_cons, List.length_nil, Nat.reduceAdd, Int.cast_ofNat_Int, z6, z7] at hh)
                                have c55b1 : ((bt (x6_1 ++ (a0.extract (x7_1 : Int).toNat a0.size)) x10_2) != 32) = false := bne_eq_false_iff_eq.mpr c55
                                (try (have c55b1x := c55b1; simp only [z1, z2, Aid.size_lit, List.length_cons, List.length_nil, Nat.reduceAdd, Int.cast_ofNat_Int] at c55b1x))
                                try (have hh := c55b1; simp only [z1, z2, Aid.size_lit, List.length_cons, List.length_nil, Nat.reduceAdd, Int.cast_ofNat_Int, z6, z7] at hh)
                                clear c55
                                have H' := Aside0.mk H
                                clear H
                                have p48 : 0 ≤ (x10_2 : Int) := of_decide_eq_true (by first | (with_reducible assumption) | assumption)
                                have q48 : x10_2 < ((x6_1 ++ (a0.extract (x7_1 : Int).toNat a0.size)).size : Int) := of_decide_eq_true (by first | (with_reducible assumption) | assumption)
                                have hx48 := bt_at (x6_1 ++ (a0.extract (x7_1 : Int).toNat a0.size)) x10_2
                                replace p48 := eq_true p48
                                replace q48 := eq_true q48
                                try (have hh := q48; simp only [z1, z2, Aid.size_lit, List.length_cons, List.length_nil, Nat.reduceAdd, Int.cast_ofNat_Int, z6, z7] at hh)
                                have p50 : 0 ≤ (x10_2 : Int) := of_decide_eq_true (by first | (with_reducible assumption) | assumption)
                                have q50 : x10_2 < ((x6_1 ++ (a0.extract (x7_1 : Int).toNat a0.size)).size : Int) := of_decide_eq_true (by first | (with_reducible assumption) | assumption)
                                have hx50 := bt_at (x6_1 ++ (a0.extract (x7_1 : Int).toNat a0.size)) x10_2
                                replace p50 := eq_true p50
                                replace q50 := eq_true q50
                                try (have hh := q50; simp only [z1, z2, Aid.size_lit, List.length_cons, List.length_nil, Nat.reduceAdd, Int.cast_ofNat_Int, z6, z7] at hh)
                                have p52 : 0 ≤ (x10_2 : Int) := of_decide_eq_true (by first | (with_reducible assumption) | assumption)
                                have q52 : x10_2 < ((x6_1 ++ (a0.extract (x7_1 : Int).toNat a0.size)).size : Int) := of_decide_eq_true (by first | (with_reducible assumption) | assumption)
                                have hx52 := bt_at (x6_1 ++ (a0.extract (x7_1 : Int).toNat a0.size)) x10_2
                                replace p52 := eq_true p52
                                replace q52 := eq_true q52
                                try (have hh := q52; simp only [z1, z2, Aid.size_lit, List.length_cons, List.length_nil, Nat.reduceAdd, Int.cast_ofNat_Int, z6, z7] at hh)
                                have p54 : 0 ≤ (x10_2 : Int) := of_decide_eq_true (by first | (with_reducible assumption) | assumption)
                                have q54 : x10_2 < ((x6_1 ++ (a0.extract (x7_1 : Int).toNat a0.size)).size : Int) := of_decide_eq_true (by first | (with_reducible assumption) | assumption)
                                have hx54 := bt_at (x6_1 ++ (a0.extract (x7_1 : Int).toNat a0.size)) x10_2
                                replace p54 := eq_true p54
                                replace q54 := eq_true q54
                                try (have hh := q54; simp only [z1, z2, Aid.size_lit, List.length_cons, List.length_nil, Nat.reduceAdd, Int.cast_ofNat_Int, z6, z7] at hh)
                                go_wp2
                                repeat (go_quiet (fail); try go_wp2)
                                go_roundg k2
                                case measure => have := HK1.out; have := HK2.out; omega
                                case rel => exact ⟨(wrap64 (x10_2 + 1)), (by first | rfl | (simp; done) | (simp only [z1, z2, Aid.size_lit, List.length_cons, List.length_nil, Nat.reduceAdd, Int.cast_ofNat_Int, z6, z7]; done) | (simp [*]; done)), H', ⟨by have := HK1.out; have := HK2.out; omega⟩, ⟨by repeat (first | (with_reducible first | exact HB.out | apply below_alloc | apply pw_below_drewN | apply below_drew1) | exact HB.out)⟩⟩
                              · rw [if_neg c55] at H
                                have c55b0 : ((bt (x6_1 ++ (a0.extract (x7_1 : Int).toNat a0.size)) x10_2) == 32) = false := beq_eq_false_iff_ne.mpr c55
                                (try (have c55b0x := c55b0; simp only [z1, z2, Aid.size_lit, List.length_cons, List.length_nil, Nat.reduceAdd, Int.cast_ofNat_Int] at c55b0x))
                                try (have hh := c55b0; simp only [z1, z2, Aid.size_lit, List.length_cons, List.length_nil, Nat.reduceAdd, Int.cast_ofNat_Int, z6, z7] at hh)
                                have c55b1 : ((bt (x6_1 ++ (a0.extract (x7_1 : Int).toNat a0.size)) x10_2) != 32) = true := bne_iff_ne.mpr c55
                                (try (have c55b1x := c55b1; simp only [z1, z2, Aid.size_lit, List.length_cons, List.length_nil, Nat.reduceAdd, Int.cast_ofNat_Int] at c55b1x))
                                try (have hh := c55b1; simp only [z1, z2, Aid.size_lit, List.length_cons, List.length_nil, Nat.reduceAdd, Int.cast_ofNat_Int, z6, z7] at hh)
                                obtain rfl := Option.some.inj H
                                have p48 : 0 ≤ (x10_2 : Int) := of_decide_eq_true (by first | (with_reducible assumption) | assumption)
                                have q48 : x10_2 < ((x6_1 ++ (a0.extract (x7_1 : Int).toNat a0.size)).size : Int) := of_decide_eq_true (by first | (with_reducible assumption) | assumption)
                                have hx48 := bt_at (x6_1 ++ (a0.extract (x7_1 : Int).toNat a0.size)) x10_2
                                replace p48 := eq_true p48
                                replace q48 := eq_true q48
                                try (have hh := q48; simp only [z1, z2, Aid.size_lit, List.length_cons, List.length_nil, Nat.reduceAdd, Int.cast_ofNat_Int, z6, z7] at hh)
                                have p50 : 0 ≤ (x10_2 : Int) := of_decide_eq_true (by first | (with_reducible assumption) | assumption)
                                have q50 : x10_2 < ((x6_1 ++ (a0.extract (x7_1 : Int).toNat a0.size)).size : Int) := of_decide_eq_true (by first | (with_reducible assumption) | assumption)
                                have hx50 := bt_at (x6_1 ++ (a0.extract (x7_1 : Int).toNat a0.size)) x10_2
                                replace p50 := eq_true p50
                                replace q50 := eq_true q50
                                try (have hh := q50; simp only [z1, z2, Aid.size_lit, List.length_cons, List.length_nil, Nat.reduceAdd, Int.cast_ofNat_Int, z6, z7] at hh)
                                have p52 : 0 ≤ (x10_2 : Int) := of_decide_eq_true (by first | (with_reducible assumption) | assumption)
                                have q52 : x10_2 < ((x6_1 ++ (a0.extract (x7_1 : Int).toNat a0.size)).size : Int) := of_decide_eq_true (by first | (with_reducible assumption) | assumption)
                                have hx52 := bt_at (x6_1 ++ (a0.extract (x7_1 : Int).toNat a0.size)) x10_2
                                replace p52 := eq_true p52
                                replace q52 := eq_true q52
                                try (have hh := q52; simp only [z1, z2, Aid.size_lit, List.length_cons, List.length_nil, Nat.reduceAdd, Int.cast_ofNat_Int, z6, z7] at hh)
                                have p54 : 0 ≤ (x10_2 : Int) := of_decide_eq_true (by first | (with_reducible assumption) | assumption)
                                have q54 : x10_2 < ((x6_1 ++ (a0.extract (x7_1 : Int).toNat a0.size)).size : Int) := of_decide_eq_true (by first | (with_reducible assumption) | assumption)
                                have hx54 := bt_at (x6_1 ++ (a0.extract (x7_1 : Int).toNat a0.size)) x10_2
                                replace p54 := eq_true p54
                                replace q54 := eq_true q54
                                try (have hh := q54; simp only [z1, z2, Aid.size_lit, List.length_cons, List.length_nil, Nat.reduceAdd, Int.cast_ofNat_Int, z6, z7] at hh)
                                go_wp2
                                repeat (go_quiet (fail); try go_wp2)
                                go_ret
                                exact ⟨by first | rfl | (simp [errW_none, errW_some] <;> rfl) | (simp [*, errW_none, errW_some] <;> rfl), by repeat (first | (with_reducible first | exact HB.out | apply below_alloc | apply pw_below_drewN | apply below_drew1) | exact HB.out)⟩
                      · rw [if_neg c47] at H
                        exact absurd H (by simp)
                    · rw [if_neg c46] at H
                      have c46b0 : decide (x10_2 < ((x6_1 ++ (a0.extract (x7_1 : Int).toNat a0.size)).size : Int)) = false := decide_eq_false c46
                      (try (have c46b0x := c46b0; simp only [z1, z2, Aid.size_lit, List.length_cons, List.length_nil, Nat.reduceAdd, Int.cast_ofNat_Int] at c46b0x))
                      try (have hh := c46b0; simp only [z1, z2, Aid.size_lit, List.length_cons, List.length_nil, Nat.reduceAdd, Int.cast_ofNat_Int, z6, z7] at hh)
                      clear c46
                      obtain rfl := Option.some.inj H
                      go_wp2
                      repeat (go_quiet (fail); try go_wp2)
                      go_ret
                      exact ⟨by first | rfl | (simp [errW_none, errW_some] <;> rfl) | (simp [*, errW_none, errW_some] <;> rfl), by repeat (first | (with_reducible first | exact HB.out | apply below_alloc | apply pw_below_drewN | apply below_drew1) | exact HB.out)⟩
              · rw [if_neg c44] at H
                exact absurd H (by simp)
            · rw [if_neg c43] at H
              exact absurd H (by simp)
          · rw [if_neg c42] at H
            exact absurd H (by simp)
  · rw [if_neg c3] at H
    have c3b0 : (t240 == 0) = false := beq_eq_false_iff_ne.mpr c3
    have c3b1 : (t240 != 0) = true := bne_iff_ne.mpr c3
    by_cases c56 : (t238.length : Int) = 0
    · rw [if_pos c56] at H
      have c56b0 : ((t238.length : Int) == 0) = true := beq_iff_eq.mpr c56
      have c56b1 : ((t238.length : Int) != 0) = false := bne_eq_false_iff_eq.mpr c56
      clear c56
      by_cases c57 : t239 ≥ 0
      · rw [if_pos c57] at H
        have c57b0 : decide (0 ≤ t239) = true := decide_eq_true c57
        clear c57
        obtain rfl := Option.some.inj H
        go_enter Tryd.func19, Tryd.ntmps19
        go_wp2_with (first | (go_at_call 20; (with_reducible refine (lexer_Tokens.calls k a0 t238 t239 t240 _ A2.out).mono ?_); rintro e w58 ⟨v241, rfl, ho0, hb⟩; have n0_ := Aside0.mk (Kd.R_lower ho0 (below_size (by repeat (first | (with_reducible first | exact HB.out | apply below_alloc | apply pw_below_drewN | apply below_drew1) | exact HB.out)))); have n1_ := Aside0.mk (below_step (by repeat (first | (with_reducible first | exact HB.out | apply below_alloc | apply pw_below_drewN | apply below_drew1) | exact HB.out)) hb); clear HB; have HO242 := n0_; have HB := n1_; clear n0_ n1_; (try clear hb); (try clear hb2); (try clear hk); (try clear hi); (try clear ho0); obtain ⟨Ao59, co59, eo59⟩ := Kd.R_slice HO242.out; subst eo59))
        repeat (go_quiet (first | (go_at_call 20; (with_reducible refine (lexer_Tokens.calls k a0 t238 t239 t240 _ A2.out).mono ?_); rintro e w58 ⟨v241, rfl, ho0, hb⟩; have n0_ := Aside0.mk (Kd.R_lower ho0 (below_size (by repeat (first | (with_reducible first | exact HB.out | apply below_alloc | apply pw_below_drewN | apply below_drew1) | exact HB.out)))); have n1_ := Aside0.mk (below_step (by repeat (first | (with_reducible first | exact HB.out | apply below_alloc | apply pw_below_drewN | apply below_drew1) | exact HB.out)) hb); clear HB; have HO242 := n0_; have HB := n1_; clear n0_ n1_; (try clear hb); (try clear hb2); (try clear hk); (try clear hi); (try clear ho0); obtain ⟨Ao59, co59, eo59⟩ := Kd.R_slice HO242.out; subst eo59)); try go_wp2_with (first | (go_at_call 20; (with_reducible refine (lexer_Tokens.calls k a0 t238 t239 t240 _ A2.out).mono ?_); rintro e w58 ⟨v241, rfl, ho0, hb⟩; have n0_ := Aside0.mk (Kd.R_lower ho0 (below_size (by repeat (first | (with_reducible first | exact HB.out | apply below_alloc | apply pw_below_drewN | apply below_drew1) | exact HB.out)))); have n1_ := Aside0.mk (below_step (by repeat (first | (with_reducible first | exact HB.out | apply below_alloc | apply pw_below_drewN | apply below_drew1) | exact HB.out)) hb); clear HB; have HO242 := n0_; have HB := n1_; clear n0_ n1_; (try clear hb); (try clear hb2); (try clear hk); (try clear hi); (try clear ho0); obtain ⟨Ao59, co59, eo59⟩ := Kd.R_slice HO242.out; subst eo59)))
        go_ret
        exact ⟨by first | rfl | (simp [errW_none, errW_some] <;> rfl) | (simp [*, errW_none, errW_some] <;> rfl), by repeat (first | (with_reducible first | exact HB.out | apply below_alloc | apply pw_below_drewN | apply below_drew1) | exact HB.out)⟩
      · rw [if_neg c57] at H
        have c57b0 : decide (0 ≤ t239) = false := decide_eq_false c57
        clear c57
        obtain rfl := Option.some.inj H
        go_enter Tryd.func19, Tryd.ntmps19
        go_wp2_with (first | (go_at_call 20; (with_reducible refine (lexer_Tokens.calls k a0 t238 t239 t240 _ A2.out).mono ?_); rintro e w60 ⟨v241, rfl, ho0, hb⟩; have n0_ := Aside0.mk (Kd.R_lower ho0 (below_size (by repeat (first | (with_reducible first | exact HB.out | apply below_alloc | apply pw_below_drewN | apply below_drew1) | exact HB.out)))); have n1_ := Aside0.mk (below_step (by repeat (first | (with_reducible first | exact HB.out | apply below_alloc | apply pw_below_drewN | apply below_drew1) | exact HB.out)) hb); clear HB; have HO242 := n0_; have HB := n1_; clear n0_ n1_; (try clear hb); (try clear hb2); (try clear hk); (try clear hi); (try clear ho0); obtain ⟨Ao61, co61, eo61⟩ := Kd.R_slice HO242.out; subst eo61))
        repeat (go_quiet (first | (go_at_call 20; (with_reducible refine (lexer_Tokens.calls k a0 t238 t239 t240 _ A2.out).mono ?_); rintro e w60 ⟨v241, rfl, ho0, hb⟩; have n0_ := Aside0.mk (Kd.R_lower ho0 (below_size (by repeat (first | (with_reducible first | exact HB.out | apply below_alloc | apply pw_below_drewN | apply below_drew1) | exact HB.out)))); have n1_ := Aside0.mk (below_step (by repeat (first | (with_reducible first | exact HB.out | apply below_alloc | apply pw_below_drewN | apply below_drew1) | exact HB.out)) hb); clear HB; have HO242 := n0_; have HB := n1_; clear n0_ n1_; (try clear hb); (try clear hb2); (try clear hk); (try clear hi); (try clear ho0); obtain ⟨Ao61, co61, eo61⟩ := Kd.R_slice HO242.out; subst eo61)); try go_wp2_with (first | (go_at_call 20; (with_reducible refine (lexer_Tokens.calls k a0 t238 t239 t240 _ A2.out).mono ?_); rintro e w60 ⟨v241, rfl, ho0, hb⟩; have n0_ := Aside0.mk (Kd.R_lower ho0 (below_size (by repeat (first | (with_reducible first | exact HB.out | apply below_alloc | apply pw_below_drewN | apply below_drew1) | exact HB.out)))); have n1_ := Aside0.mk (below_step (by repeat (first | (with_reducible first | exact HB.out | apply below_alloc | apply pw_below_drewN | apply below_drew1) | exact HB.out)) hb); clear HB; have HO242 := n0_; have HB := n1_; clear n0_ n1_; (try clear hb); (try clear hb2); (try clear hk); (try clear hi); (try clear ho0); obtain ⟨Ao61, co61, eo61⟩ := Kd.R_slice HO242.out; subst eo61)))
        go_ret
        exact ⟨by first | rfl | (simp [errW_none, errW_some] <;> rfl) | (simp [*, errW_none, errW_some] <;> rfl), by repeat (first | (with_reducible first | exact HB.out | apply below_alloc | apply pw_below_drewN | apply below_drew1) | exact HB.out)⟩
    · rw [if_neg c56] at H
      have c56b0 : ((t238.length : Int) == 0) = false := beq_eq_false_iff_ne.mpr c56
      have c56b1 : ((t238.length : Int) != 0) = true := bne_iff_ne.mpr c56
      have c56b2 : ¬ (t238 = []) := fun h_ => c56 (by rw [h_]; rfl)
      obtain rfl := Option.some.inj H
      go_enter Tryd.func19, Tryd.ntmps19
      go_wp2_with (first | (go_at_call 20; (with_reducible refine (lexer_Tokens.calls k a0 t238 t239 t240 _ A2.out).mono ?_); rintro e w62 ⟨v241, rfl, ho0, hb⟩; have n0_ := Aside0.mk (Kd.R_lower ho0 (below_size (by repeat (first | (with_reducible first | exact HB.out | apply below_alloc | apply pw_below_drewN | apply below_drew1) | exact HB.out)))); have n1_ := Aside0.mk (below_step (by repeat (first | (with_reducible first | exact HB.out | apply below_alloc | apply pw_below_drewN | apply below_drew1) | exact HB.out)) hb); clear HB; have HO242 := n0_; have HB := n1_; clear n0_ n1_; (try clear hb); (try clear hb2); (try clear hk); (try clear hi); (try clear ho0); obtain ⟨Ao63, co63, eo63⟩ := Kd.R_slice HO242.out; subst eo63))
      repeat (go_quiet (first | (go_at_call 20; (with_reducible refine (lexer_Tokens.calls k a0 t238 t239 t240 _ A2.out).mono ?_); rintro e w62 ⟨v241, rfl, ho0, hb⟩; have n0_ := Aside0.mk (Kd.R_lower ho0 (below_size (by repeat (first | (with_reducible first | exact HB.out | apply below_alloc | apply pw_below_drewN | apply below_drew1) | exact HB.out)))); have n1_ := Aside0.mk (below_step (by repeat (first | (with_reducible first | exact HB.out | apply below_alloc | apply pw_below_drewN | apply below_drew1) | exact HB.out)) hb); clear HB; have HO242 := n0_; have HB := n1_; clear n0_ n1_; (try clear hb); (try clear hb2); (try clear hk); (try clear hi); (try clear ho0); obtain ⟨Ao63, co63, eo63⟩ := Kd.R_slice HO242.out; subst eo63)); try go_wp2_with (first | (go_at_call 20; (with_reducible refine (lexer_Tokens.calls k a0 t238 t239 t240 _ A2.out).mono ?_); rintro e w62 ⟨v241, rfl, ho0, hb⟩; have n0_ := Aside0.mk (Kd.R_lower ho0 (below_size (by repeat (first | (with_reducible first | exact HB.out | apply below_alloc | apply pw_below_drewN | apply below_drew1) | exact HB.out)))); have n1_ := Aside0.mk (below_step (by repeat (first | (with_reducible first | exact HB.out | apply below_alloc | apply pw_below_drewN | apply below_drew1) | exact HB.out)) hb); clear HB; have HO242 := n0_; have HB := n1_; clear n0_ n1_; (try clear hb); (try clear hb2); (try clear hk); (try clear hi); (try clear ho0); obtain ⟨Ao63, co63, eo63⟩ := Kd.R_slice HO242.out; subst eo63)))
      go_ret
      exact ⟨by first | rfl | (simp [errW_none, errW_some] <;> rfl) | (simp [*, errW_none, errW_some] <;> rfl), by repeat (first | (with_reducible first | exact HB.out | apply below_alloc | apply pw_below_drewN | apply below_drew1) | exact HB.out)⟩

end Go.Proofs.YtecojcpccglelaaDoor.PAll
