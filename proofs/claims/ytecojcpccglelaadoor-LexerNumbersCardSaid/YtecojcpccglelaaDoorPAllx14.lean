/- Printed by this session's driver drive.py over the kit's print, with hand-proved callees. -/
import Derived.Test.YtecojcpccglelaaDoorPAllx0
import Derived.Test.YtecojcpccglelaaDoorSz
import Derived.Test.YtecojcpccglelaaDoorPAllxM
import Derived.Test.YtecojcpccglelaaDoorPAllx13
import Derived.Test.YtecojcpccglelaaDoorHandItoa
import Derived.Test.YtecojcpccglelaaDoorHandTokensB
namespace Go.Proofs.YtecojcpccglelaaDoor.PAll
open Go.RowKit Go.Proofs.YtecojcpccglelaaDoorW.PrintWords Go.Proofs.YtecojcpccglelaaDoorW.PrintLast Go.Proofs.YtecojcpccglelaaDoorW.PrintMore
attribute [local go_sem] max2_int min2_int max_two min_two max_three min_three max_four min_four   -- for this text's walks alone
attribute [local go_sem high] Go.Proofs.YtecojcpccglelaaDoor.Aid.cell_lit
set_option linter.unusedVariables false
set_option linter.unusedSimpArgs false

/-! ### frac_Text: function 26 -/
def frac_Text.f (k : Nat) (a0_0 : Int) (a0_1 : Int) : Option (ByteArray) := (frac_Valid.f k a0_0 a0_1).bind fun t417 => (if t417 = true then (if a0_1 = 1 then ((strconv_Itoa.f a0_0).bind fun t418 => (some t418)) else ((strconv_Itoa.f a0_0).bind fun t419 => (if t419.size + 1 ≤ 9223372036854775807 then ((strconv_Itoa.f a0_1).bind fun t420 => (if (t419 ++ (⟨#[47]⟩ : ByteArray)).size + t420.size ≤ 9223372036854775807 then (some ((t419 ++ (⟨#[47]⟩ : ByteArray)) ++ t420)) else (none))) else (none)))) else (some (⟨#[]⟩ : ByteArray)))
theorem frac_Text.mono : ∀ a0 a1 k, LeO (frac_Text.f k a0 a1) (frac_Text.f (k + 1) a0 a1) := by
  intro a0 a1 k
  unfold frac_Text.f
  repeat' first
      | (with_reducible exact frac_Valid.mono _ _ _)
      | (with_reducible exact LeO.refl _)
      | (with_reducible exact LeO.none _)
      | (with_reducible refine LeO.ite ?_ ?_)
      | (with_reducible refine LeO.bind ?_ (fun _ => ?_))
      | exact frac_Valid.mono _ _ _
      | exact LeO.none _
      | refine LeO.ite ?_ ?_
      | refine LeO.bind ?_ (fun _ => ?_)
def frac_Text.T5 : Bool × List (List Nat × List Nat) := (true, [([], []), ([0], [0]), ([1], [1]), ([2], [2]), ([], []), ([4], [4]), ([5, 2], [5]), ([3, 6], [3, 6]), ([7, 6, 0, 1, 2, 3, 4, 5, 6, 7], [7])])
def frac_Text.B5 : List Nat := [0, 1, 3, 7, 0, 16, 55, 127, 255]
theorem frac_Text.tab5 : rtab .any (opsOf Tryd.f26 5) = frac_Text.T5 := by kernel_rfl
theorem frac_Text.bits5 : waitsOk frac_Text.T5.2 frac_Text.B5 = true := by kernel_rfl
set_option maxHeartbeats 8000000 in
set_option maxRecDepth 100000 in
theorem frac_Text.calls (k : Nat) (a0_0 : Int) (a0_1 : Int) (r : ByteArray) (w : World) (hT : Pow w) (h : frac_Text.f k a0_0 a0_1 = some r) :
    Calls Tryd.prog 26 #[.agg #[.int .i64 a0_0, .int .i64 a0_1]] w fun e w' => e = .returned (.string r) ∧ Below w.heap.size w w' := by
  have hu45 := Tryd.underlying45
  have HB := Aside0.mk (Below.refl w.heap.size w)
  have H : ((frac_Valid.f k a0_0 a0_1).bind fun t417 => (if t417 = true then (if a0_1 = 1 then ((strconv_Itoa.f a0_0).bind fun t418 => (some t418)) else ((strconv_Itoa.f a0_0).bind fun t419 => (if t419.size + 1 ≤ 9223372036854775807 then ((strconv_Itoa.f a0_1).bind fun t420 => (if (t419 ++ (⟨#[47]⟩ : ByteArray)).size + t420.size ≤ 9223372036854775807 then (some ((t419 ++ (⟨#[47]⟩ : ByteArray)) ++ t420)) else (none))) else (none)))) else (some (⟨#[]⟩ : ByteArray)))) = some r := h
  clear h
  replace H := Option.bind_eq_some_iff.mp H
  obtain ⟨t417, A20, H⟩ := H
  replace H : (if t417 = true then (if a0_1 = 1 then ((strconv_Itoa.f a0_0).bind fun t418 => (some t418)) else ((strconv_Itoa.f a0_0).bind fun t419 => (if t419.size + 1 ≤ 9223372036854775807 then ((strconv_Itoa.f a0_1).bind fun t420 => (if (t419 ++ (⟨#[47]⟩ : ByteArray)).size + t420.size ≤ 9223372036854775807 then (some ((t419 ++ (⟨#[47]⟩ : ByteArray)) ++ t420)) else (none))) else (none)))) else (some (⟨#[]⟩ : ByteArray))) = some r := H
  have A2 := Aside0.mk A20
  clear A20
  by_cases c3 : t417 = true
  · subst c3
    have H1 : (if a0_1 = 1 then ((strconv_Itoa.f a0_0).bind fun t418 => (some t418)) else ((strconv_Itoa.f a0_0).bind fun t419 => (if t419.size + 1 ≤ 9223372036854775807 then ((strconv_Itoa.f a0_1).bind fun t420 => (if (t419 ++ (⟨#[47]⟩ : ByteArray)).size + t420.size ≤ 9223372036854775807 then (some ((t419 ++ (⟨#[47]⟩ : ByteArray)) ++ t420)) else (none))) else (none)))) = some r := by rw [if_pos rfl] at H; exact H
    clear H
    have H := H1
    clear H1
    by_cases c4 : a0_1 = 1
    · rw [if_pos c4] at H
      have c4b0 : (a0_1 == 1) = true := beq_iff_eq.mpr c4
      have c4b1 : (a0_1 != 1) = false := bne_eq_false_iff_eq.mpr c4
      clear c4
      replace H := Option.bind_eq_some_iff.mp H
      obtain ⟨t418, A50, H⟩ := H
      replace H : (some t418) = some r := H
      have A5 := Aside0.mk A50
      clear A50
      obtain rfl := Option.some.inj H
      go_enter Tryd.func26, Tryd.ntmps26
      go_wp2_with (first | ((with_reducible refine gate_dst (N := 1) rfl ?_); refine box_event ?hg (N := 1) ?hd (cs := #[.int .i64 a0_0, .int .i64 a0_1]) (t := 45) ?hr ?_; (case hd => rfl); (case hg => rfl); (case hr => first | (go_simp; done) | (go_simp; rfl)); intro gb416 hg w6 hbox hb; have n0_ := Aside0.mk (below_step (by repeat (first | (with_reducible first | exact HB.out | apply below_alloc | apply pw_below_drewN | apply below_drew1) | exact HB.out)) hb); have n1_ := Aside0.mk (hbox); have n2_ := Aside0.mk ((by rw [hg]; exact (below_size (by repeat (first | (with_reducible first | exact HB.out | apply below_alloc | apply pw_below_drewN | apply below_drew1) | exact HB.out))) : w.heap.size ≤ gb416)); have n3_ := Aside0.mk ((by rw [hg]; exact (below_size (by repeat (first | (with_reducible first | exact HB.out | apply below_alloc | apply pw_below_drewN | apply below_drew1) | exact HB.out))) : w.heap.size ≤ gb416)); clear HB; have HB := n0_; have BK416 := n1_; have GW416 := n2_; have GE416 := n3_; clear n0_ n1_ n2_ n3_; clear hb hbox hg; have hcz7_0 : w6.cell? ⟨gb416, 0, none⟩ = some (.int .i64 a0_0) := (blk_cell BK416.out 0).trans rfl; have hcz7_1 : w6.cell? ⟨gb416, 1, none⟩ = some (.int .i64 a0_1) := (blk_cell BK416.out 1).trans rfl; have hfz7_0 := blk_frozen BK416.out 0; have hfz7_1 := blk_frozen BK416.out 1) | ((with_reducible refine gate_callee (f := 39) rfl ?_); refine goesL_ (some 4) rfl rfl Tryd.func39 (by kernel_rfl) rfl #[.agg #[.int .i64 a0_0, .int .i64 a0_1]] rfl (by (try simp only [List.map_toArray, List.map_cons, List.map_nil]); first | done | rfl | (simp only [List.length_drop, List.length_take]; rfl)) ?_; (with_reducible refine (frac_Valid.calls k a0_0 a0_1 true _ A2.out).mono ?_); rintro e w8 ⟨rfl, hb⟩; refine ⟨_, rfl, ?_⟩; have n0_ := Aside0.mk (blk_below (g := gb416) (o := .cells #[.int .i64 a0_0, .int .i64 a0_1] 45 (0, 0)) (by (with_reducible repeat (first | refine blk_drewN ?_ _ | refine blk_drew ?_ | refine blk_alloc ?_ _)); exact BK416.out) hb); have n1_ := Aside0.mk (below_step (by repeat (first | (with_reducible first | exact HB.out | apply below_alloc | apply pw_below_drewN | apply below_drew1 | refine below_set ?_ GE416.out) | exact HB.out)) hb); clear BK416; clear HB; have BK416 := n0_; have HB := n1_; clear n0_ n1_; (try clear hb); (try clear hb2); (try clear hk); (try clear hi); have hcz9_0 : w8.cell? ⟨gb416, 0, none⟩ = some (.int .i64 a0_0) := (blk_cell BK416.out 0).trans rfl; have hcz9_1 : w8.cell? ⟨gb416, 1, none⟩ = some (.int .i64 a0_1) := (blk_cell BK416.out 1).trans rfl; have hfz9_0 := blk_frozen BK416.out 0; have hfz9_1 := blk_frozen BK416.out 1) | ((with_reducible refine gate_callee (f := 40) rfl ?_); refine goesL_ (some 11) rfl rfl Tryd.func40 (by kernel_rfl) rfl #[.int .i64 a0_0] rfl (by (try simp only [List.map_toArray, List.map_cons, List.map_nil]); first | done | rfl | (simp only [List.length_drop, List.length_take]; rfl)) ?_; (with_reducible refine (strconv_Itoa.calls a0_0 t418 _ (pow_stays hT (by repeat (first | (with_reducible first | exact HB.out | apply below_alloc | apply pw_below_drewN | apply below_drew1) | exact HB.out | exact Below.refl _ _))) A5.out).mono ?_); rintro e w10 ⟨rfl, hb⟩; refine ⟨_, rfl, ?_⟩; have n0_ := Aside0.mk (blk_below (g := gb416) (o := .cells #[.int .i64 a0_0, .int .i64 a0_1] 45 (0, 0)) (by (with_reducible repeat (first | refine blk_drewN ?_ _ | refine blk_drew ?_ | refine blk_alloc ?_ _)); exact BK416.out) hb); have n1_ := Aside0.mk (below_step (by repeat (first | (with_reducible first | exact HB.out | apply below_alloc | apply pw_below_drewN | apply below_drew1 | refine below_set ?_ GE416.out) | exact HB.out)) hb); clear BK416; clear HB; have BK416 := n0_; have HB := n1_; clear n0_ n1_; (try clear hb); (try clear hb2); (try clear hk); (try clear hi)))
      go_ret
      exact ⟨by first | rfl | (simp [errW_none, errW_some] <;> rfl) | (simp [*, errW_none, errW_some] <;> rfl), by repeat (first | (with_reducible first | exact HB.out | apply below_alloc | apply pw_below_drewN | apply below_drew1 | refine below_set ?_ GE416.out) | exact HB.out)⟩
    · rw [if_neg c4] at H
      have c4b0 : (a0_1 == 1) = false := beq_eq_false_iff_ne.mpr c4
      have c4b1 : (a0_1 != 1) = true := bne_iff_ne.mpr c4
      replace H := Option.bind_eq_some_iff.mp H
      obtain ⟨t419, A110, H⟩ := H
      replace H : (if t419.size + 1 ≤ 9223372036854775807 then ((strconv_Itoa.f a0_1).bind fun t420 => (if (t419 ++ (⟨#[47]⟩ : ByteArray)).size + t420.size ≤ 9223372036854775807 then (some ((t419 ++ (⟨#[47]⟩ : ByteArray)) ++ t420)) else (none))) else (none)) = some r := H
      have A11 := Aside0.mk A110
      clear A110
      by_cases c12 : t419.size + 1 ≤ 9223372036854775807
      · rw [if_pos c12] at H
        have c12b0 := eq_true c12
        have c12b1 : decide (t419.size + 1 ≤ 9223372036854775807) = true := decide_eq_true c12
        try have c12b2 : (9223372036854775807 < t419.size + 1) = False := eq_false (Nat.not_lt.2 c12)
        replace H := Option.bind_eq_some_iff.mp H
        obtain ⟨t420, A130, H⟩ := H
        replace H : (if (t419 ++ (⟨#[47]⟩ : ByteArray)).size + t420.size ≤ 9223372036854775807 then (some ((t419 ++ (⟨#[47]⟩ : ByteArray)) ++ t420)) else (none)) = some r := H
        have A13 := Aside0.mk A130
        clear A130
        by_cases c14 : (t419 ++ (⟨#[47]⟩ : ByteArray)).size + t420.size ≤ 9223372036854775807
        · rw [if_pos c14] at H
          have c14b0 := eq_true c14
          (try (have c14b0x := c14b0; simp only [z1, z2, Aid.size_lit, List.length_cons, List.length_nil, Nat.reduceAdd, Int.cast_ofNat_Int] at c14b0x))
          try (have hh := c14b0; simp only [z1, z2, Aid.size_lit, List.length_cons, List.length_nil, Nat.reduceAdd, Int.cast_ofNat_Int, z6, z7] at hh)
          have c14b1 : decide ((t419 ++ (⟨#[47]⟩ : ByteArray)).size + t420.size ≤ 9223372036854775807) = true := decide_eq_true c14
          (try (have c14b1x := c14b1; simp only [z1, z2, Aid.size_lit, List.length_cons, List.length_nil, Nat.reduceAdd, Int.cast_ofNat_Int] at c14b1x))
          try (have hh := c14b1; simp only [z1, z2, Aid.size_lit, List.length_cons, List.length_nil, Nat.reduceAdd, Int.cast_ofNat_Int, z6, z7] at hh)
          try have c14b2 : (9223372036854775807 < (t419 ++ (⟨#[47]⟩ : ByteArray)).size + t420.size) = False := eq_false (Nat.not_lt.2 c14)
          (try (have c14b2x := c14b2; simp only [z1, z2, Aid.size_lit, List.length_cons, List.length_nil, Nat.reduceAdd, Int.cast_ofNat_Int] at c14b2x))
          try (have hh := c14b2; simp only [z1, z2, Aid.size_lit, List.length_cons, List.length_nil, Nat.reduceAdd, Int.cast_ofNat_Int, z6, z7] at hh)
          obtain rfl := Option.some.inj H
          go_enter Tryd.func26, Tryd.ntmps26
          try go_wp2_with (first | ((with_reducible refine gate_dst (N := 1) rfl ?_); refine box_event ?hg (N := 1) ?hd (cs := #[.int .i64 a0_0, .int .i64 a0_1]) (t := 45) ?hr ?_; (case hd => rfl); (case hg => rfl); (case hr => first | (go_simp; done) | (go_simp; rfl)); intro gb416 hg w15 hbox hb; have n0_ := Aside0.mk (below_step (by repeat (first | (with_reducible first | exact HB.out | apply below_alloc | apply pw_below_drewN | apply below_drew1) | exact HB.out)) hb); have n1_ := Aside0.mk (hbox); have n2_ := Aside0.mk ((by rw [hg]; exact (below_size (by repeat (first | (with_reducible first | exact HB.out | apply below_alloc | apply pw_below_drewN | apply below_drew1) | exact HB.out))) : w.heap.size ≤ gb416)); have n3_ := Aside0.mk ((by rw [hg]; exact (below_size (by repeat (first | (with_reducible first | exact HB.out | apply below_alloc | apply pw_below_drewN | apply below_drew1) | exact HB.out))) : w.heap.size ≤ gb416)); clear HB; have HB := n0_; have BK416 := n1_; have GW416 := n2_; have GE416 := n3_; clear n0_ n1_ n2_ n3_; clear hb hbox hg; have hcz16_0 : w15.cell? ⟨gb416, 0, none⟩ = some (.int .i64 a0_0) := (blk_cell BK416.out 0).trans rfl; have hcz16_1 : w15.cell? ⟨gb416, 1, none⟩ = some (.int .i64 a0_1) := (blk_cell BK416.out 1).trans rfl; have hfz16_0 := blk_frozen BK416.out 0; have hfz16_1 := blk_frozen BK416.out 1) | ((with_reducible refine gate_callee (f := 39) rfl ?_); refine goesL_ (some 4) rfl rfl Tryd.func39 (by kernel_rfl) rfl #[.agg #[.int .i64 a0_0, .int .i64 a0_1]] rfl (by (try simp only [List.map_toArray, List.map_cons, List.map_nil]); first | done | rfl | (simp only [List.length_drop, List.length_take]; rfl)) ?_; (with_reducible refine (frac_Valid.calls k a0_0 a0_1 true _ A2.out).mono ?_); rintro e w17 ⟨rfl, hb⟩; refine ⟨_, rfl, ?_⟩; have n0_ := Aside0.mk (blk_below (g := gb416) (o := .cells #[.int .i64 a0_0, .int .i64 a0_1] 45 (0, 0)) (by (with_reducible repeat (first | refine blk_drewN ?_ _ | refine blk_drew ?_ | refine blk_alloc ?_ _)); exact BK416.out) hb); have n1_ := Aside0.mk (below_step (by repeat (first | (with_reducible first | exact HB.out | apply below_alloc | apply pw_below_drewN | apply below_drew1 | refine below_set ?_ GE416.out) | exact HB.out)) hb); clear BK416; clear HB; have BK416 := n0_; have HB := n1_; clear n0_ n1_; (try clear hb); (try clear hb2); (try clear hk); (try clear hi); have hcz18_0 : w17.cell? ⟨gb416, 0, none⟩ = some (.int .i64 a0_0) := (blk_cell BK416.out 0).trans rfl; have hcz18_1 : w17.cell? ⟨gb416, 1, none⟩ = some (.int .i64 a0_1) := (blk_cell BK416.out 1).trans rfl; have hfz18_0 := blk_frozen BK416.out 0; have hfz18_1 := blk_frozen BK416.out 1))
          have n0_ := Aside0.mk (blk_drew BK416.out)
          have n1_ := Aside0.mk (below_drew1 HB.out)
          clear BK416
          clear HB
          have BK416 := n0_
          have HB := n1_
          clear n0_ n1_
          refine start_ (n := 9) (S := fun w' => w'.cell? ⟨gb416, 0, none⟩ = some (.int .i64 a0_0) ∧ w'.cell? ⟨gb416, 1, none⟩ = some (.int .i64 a0_1)) (ds := []) #[false, false, false, false, false, false, false, false, false] (by kernel_rfl) rfl rfl ⟨(blk_cell BK416.out 0).trans rfl, (blk_cell BK416.out 1).trans rfl⟩ (fun hHeld => ?_); refine with_tabW frac_Text.tab5 frac_Text.bits5 (fun HT_ HW_ => ?_)
          generalize w17.drew = w19 at BK416 HB hHeld ⊢
          refine pure_ (i := 0) (N := some 12) (v := ?_) (a' := ?_) #[true, false, false, false, false, false, false, false, false] rfl rfl (any_of HT_.out (by kernel_rfl)) (fun _ _ _ h => h) (Or.inl ⟨by rfl, ?_⟩) ?_ ?_
          rotate_left
          · intro w'
            go_simp
            with_reducible rfl
          rotate_left
          · simp only [Act.put, List.setIfInBounds_toArray, List.set_cons_zero, List.set_cons_succ, i64_w, i32_w]
            rfl
          refine pure_ (i := 4) (N := some 16) (v := ?_) (a' := ?_) #[true, false, false, false, true, false, false, false, false] rfl rfl (any_of HT_.out (by kernel_rfl)) (fun _ _ _ h => h) (Or.inl ⟨by rfl, ?_⟩) ?_ ?_
          rotate_left
          · intro w'
            go_simp
            with_reducible rfl
          rotate_left
          · simp only [Act.put, List.setIfInBounds_toArray, List.set_cons_zero, List.set_cons_succ, i64_w, i32_w]
            rfl
          refine take_ (i := 1) (N := some 13) (v := ?_) (a' := ?_) #[true, true, false, false, true, false, false, false, false] rfl rfl (take_ofW HT_.out HW_.out (by kernel_rfl)) (fun _ _ _ h => h) (Or.inl ⟨by rfl, ?_⟩) hHeld ?_ ?_
          rotate_left
          · rintro w' ⟨s0, s1⟩
            go_simp
            with_reducible rfl
          rotate_left
          · simp only [Act.put, List.setIfInBounds_toArray, List.set_cons_zero, List.set_cons_succ, i64_w, i32_w]
            rfl
          refine take_ (i := 5) (N := some 17) (v := ?_) (a' := ?_) #[true, true, false, false, true, true, false, false, false] rfl rfl (take_ofW HT_.out HW_.out (by kernel_rfl)) (fun _ _ _ h => h) (Or.inl ⟨by rfl, ?_⟩) hHeld ?_ ?_
          rotate_left
          · rintro w' ⟨s0, s1⟩
            go_simp
            with_reducible rfl
          rotate_left
          · simp only [Act.put, List.setIfInBounds_toArray, List.set_cons_zero, List.set_cons_succ, i64_w, i32_w]
            rfl
          refine one_ (i := 2) (N := some 14) #[true, true, true, false, true, true, false, false, false] rfl rfl (one_of HT_.out (by kernel_rfl)) (by decide) (fun K hK => ?_)
          refine goes_ Tryd.func40 (by kernel_rfl) rfl #[.int .i64 a0_0] (by rfl) rfl rfl (by (try simp only [List.map_toArray, List.map_cons, List.map_nil]); first | done | rfl | (simp only [List.length_drop, List.length_take]; rfl)) ?_
          with_reducible refine (strconv_Itoa.calls a0_0 t419 _ (pow_stays hT (by repeat (first | (with_reducible first | exact HB.out | apply below_alloc | apply pw_below_drewN | apply below_drew1) | exact HB.out | exact Below.refl _ _))) A11.out).mono ?_
          rintro e w20 ⟨rfl, hb⟩
          refine ⟨_, rfl, ?_⟩
          have n0_ := Aside0.mk (blk_below (g := gb416) (o := .cells #[.int .i64 a0_0, .int .i64 a0_1] 45 (0, 0)) (by (with_reducible repeat (first | refine blk_drewN ?_ _ | refine blk_drew ?_ | refine blk_alloc ?_ _)); exact BK416.out) hb)
          have n1_ := Aside0.mk (below_step (by repeat (first | (with_reducible first | exact HB.out | apply below_alloc | apply pw_below_drewN | apply below_drew1 | refine below_set ?_ GE416.out) | exact HB.out)) hb)
          clear BK416
          clear HB
          have BK416 := n0_
          have HB := n1_
          clear n0_ n1_
          (try clear hb)
          (try clear hb2)
          (try clear hk)
          (try clear hi)
          refine hK.out _ _ ⟨(blk_cell BK416.out 0).trans rfl, (blk_cell BK416.out 1).trans rfl⟩ (fun hHeld => ?_)
          clear hK K
          refine norm_ (a' := ?_) ?_ ?_
          rotate_left
          · show Act.put _ (some 14) _ = _
            simp only [Act.put, List.setIfInBounds_toArray, List.set_cons_zero, List.set_cons_succ, i64_w, i32_w]
            rfl
          refine pure_ (i := 3) (N := some 15) (v := ?_) (a' := ?_) #[true, true, true, true, true, true, false, false, false] rfl rfl (any_of HT_.out (by kernel_rfl)) (fun _ _ _ h => h) (Or.inl ⟨by rfl, ?_⟩) ?_ ?_
          rotate_left
          · intro w'
            go_simp
            with_reducible rfl
          rotate_left
          · simp only [Act.put, List.setIfInBounds_toArray, List.set_cons_zero, List.set_cons_succ, i64_w, i32_w]
            rfl
          refine one_ (i := 6) (N := some 18) #[true, true, true, true, true, true, true, false, false] rfl rfl (one_of HT_.out (by kernel_rfl)) (by decide) (fun K hK => ?_)
          refine goes_ Tryd.func40 (by kernel_rfl) rfl #[.int .i64 a0_1] (by rfl) rfl rfl (by (try simp only [List.map_toArray, List.map_cons, List.map_nil]); first | done | rfl | (simp only [List.length_drop, List.length_take]; rfl)) ?_
          with_reducible refine (strconv_Itoa.calls a0_1 t420 _ (pow_stays hT (by repeat (first | (with_reducible first | exact HB.out | apply below_alloc | apply pw_below_drewN | apply below_drew1) | exact HB.out | exact Below.refl _ _))) A13.out).mono ?_
          rintro e w21 ⟨rfl, hb⟩
          refine ⟨_, rfl, ?_⟩
          have n0_ := Aside0.mk (blk_below (g := gb416) (o := .cells #[.int .i64 a0_0, .int .i64 a0_1] 45 (0, 0)) (by (with_reducible repeat (first | refine blk_drewN ?_ _ | refine blk_drew ?_ | refine blk_alloc ?_ _)); exact BK416.out) hb)
          have n1_ := Aside0.mk (below_step (by repeat (first | (with_reducible first | exact HB.out | apply below_alloc | apply pw_below_drewN | apply below_drew1 | refine below_set ?_ GE416.out) | exact HB.out)) hb)
          clear BK416
          clear HB
          have BK416 := n0_
          have HB := n1_
          clear n0_ n1_
          (try clear hb)
          (try clear hb2)
          (try clear hk)
          (try clear hi)
          refine hK.out _ _ ⟨(blk_cell BK416.out 0).trans rfl, (blk_cell BK416.out 1).trans rfl⟩ (fun hHeld => ?_)
          clear hK K
          refine norm_ (a' := ?_) ?_ ?_
          rotate_left
          · show Act.put _ (some 18) _ = _
            simp only [Act.put, List.setIfInBounds_toArray, List.set_cons_zero, List.set_cons_succ, i64_w, i32_w]
            rfl
          refine pure_ (i := 7) (N := some 19) (v := ?_) (a' := ?_) #[true, true, true, true, true, true, true, true, false] rfl rfl (any_of HT_.out (by kernel_rfl)) (fun _ _ _ h => h) (Or.inl ⟨by rfl, ?_⟩) ?_ ?_
          rotate_left
          · intro w'
            go_simp
            with_reducible rfl
          rotate_left
          · simp only [Act.put, List.setIfInBounds_toArray, List.set_cons_zero, List.set_cons_succ, i64_w, i32_w]
            rfl
          refine pure_ (i := 8) (N := some 2) (v := ?_) (a' := ?_) #[true, true, true, true, true, true, true, true, true] rfl rfl (any_of HT_.out (by kernel_rfl)) (fun _ _ _ h => h) (Or.inl ⟨by rfl, ?_⟩) ?_ ?_
          rotate_left
          · intro w'
            go_simp
            with_reducible rfl
          rotate_left
          · simp only [Act.put, List.setIfInBounds_toArray, List.set_cons_zero, List.set_cons_succ, i64_w, i32_w]
            rfl
          refine done_ (done_of HT_.out (by kernel_rfl)) ?_
          try go_wp2
          go_ret
          exact ⟨by first | rfl | (simp [errW_none, errW_some] <;> rfl) | (simp [*, errW_none, errW_some] <;> rfl), by repeat (first | (with_reducible first | exact HB.out | apply below_alloc | apply pw_below_drewN | apply below_drew1 | refine below_set ?_ GE416.out) | exact HB.out)⟩
        · rw [if_neg c14] at H
          exact absurd H (by simp)
      · rw [if_neg c12] at H
        exact absurd H (by simp)
  · replace c3 := Bool.eq_false_iff.mpr c3
    subst c3
    have H1 : (some (⟨#[]⟩ : ByteArray)) = some r := by rw [if_neg (show ¬ (false = true) by decide)] at H; exact H
    clear H
    have H := H1
    clear H1
    obtain rfl := Option.some.inj H
    go_enter Tryd.func26, Tryd.ntmps26
    go_wp2_with (first | ((with_reducible refine gate_dst (N := 1) rfl ?_); refine box_event ?hg (N := 1) ?hd (cs := #[.int .i64 a0_0, .int .i64 a0_1]) (t := 45) ?hr ?_; (case hd => rfl); (case hg => rfl); (case hr => first | (go_simp; done) | (go_simp; rfl)); intro gb416 hg w22 hbox hb; have n0_ := Aside0.mk (below_step (by repeat (first | (with_reducible first | exact HB.out | apply below_alloc | apply pw_below_drewN | apply below_drew1) | exact HB.out)) hb); have n1_ := Aside0.mk (hbox); have n2_ := Aside0.mk ((by rw [hg]; exact (below_size (by repeat (first | (with_reducible first | exact HB.out | apply below_alloc | apply pw_below_drewN | apply below_drew1) | exact HB.out))) : w.heap.size ≤ gb416)); have n3_ := Aside0.mk ((by rw [hg]; exact (below_size (by repeat (first | (with_reducible first | exact HB.out | apply below_alloc | apply pw_below_drewN | apply below_drew1) | exact HB.out))) : w.heap.size ≤ gb416)); clear HB; have HB := n0_; have BK416 := n1_; have GW416 := n2_; have GE416 := n3_; clear n0_ n1_ n2_ n3_; clear hb hbox hg; have hcz23_0 : w22.cell? ⟨gb416, 0, none⟩ = some (.int .i64 a0_0) := (blk_cell BK416.out 0).trans rfl; have hcz23_1 : w22.cell? ⟨gb416, 1, none⟩ = some (.int .i64 a0_1) := (blk_cell BK416.out 1).trans rfl; have hfz23_0 := blk_frozen BK416.out 0; have hfz23_1 := blk_frozen BK416.out 1) | ((with_reducible refine gate_callee (f := 39) rfl ?_); refine goesL_ (some 4) rfl rfl Tryd.func39 (by kernel_rfl) rfl #[.agg #[.int .i64 a0_0, .int .i64 a0_1]] rfl (by (try simp only [List.map_toArray, List.map_cons, List.map_nil]); first | done | rfl | (simp only [List.length_drop, List.length_take]; rfl)) ?_; (with_reducible refine (frac_Valid.calls k a0_0 a0_1 false _ A2.out).mono ?_); rintro e w24 ⟨rfl, hb⟩; refine ⟨_, rfl, ?_⟩; have n0_ := Aside0.mk (blk_below (g := gb416) (o := .cells #[.int .i64 a0_0, .int .i64 a0_1] 45 (0, 0)) (by (with_reducible repeat (first | refine blk_drewN ?_ _ | refine blk_drew ?_ | refine blk_alloc ?_ _)); exact BK416.out) hb); have n1_ := Aside0.mk (below_step (by repeat (first | (with_reducible first | exact HB.out | apply below_alloc | apply pw_below_drewN | apply below_drew1 | refine below_set ?_ GE416.out) | exact HB.out)) hb); clear BK416; clear HB; have BK416 := n0_; have HB := n1_; clear n0_ n1_; (try clear hb); (try clear hb2); (try clear hk); (try clear hi)))
    go_ret
    exact ⟨by first | rfl | (simp [errW_none, errW_some] <;> rfl) | (simp [*, errW_none, errW_some] <;> rfl), by repeat (first | (with_reducible first | exact HB.out | apply below_alloc | apply pw_below_drewN | apply below_drew1 | refine below_set ?_ GE416.out) | exact HB.out)⟩

/-! ### intervalmonlaw06_LexerNumbers: function 10 -/
def intervalmonlaw06_LexerNumbers.l0 : Nat → Int → Int → ByteArray → Int → Option (Bool)
  | 0, _, _, _, _ => none
  | k + 1, x5, x7, x8, x9 => if x9 > 0 then (if 1 + x8.size ≤ 9223372036854775807 then (intervalmonlaw06_LexerNumbers.l0 k x5 x7 ((⟨#[48]⟩ : ByteArray) ++ x8) (wrap64 (x9 - 1))) else (none)) else ((lexer_Tokens.f k x8).bind fun bt428 => (if x7 = 0 then (if bt428.2.2 = 0 then (if (bt428.1.length : Int) = 1 then (if 0 < (bt428.1.length : Int) then (if ((rd_T37 bt428.1 0).f0) = 1 then (if ((rd_T37 bt428.1 0).f2) = x5 then (if ((rd_T37 bt428.1 0).f1).toList = x8.toList then ((intervalmonlaw06_lives.f k).bind fun t436 => (some t436)) else (some false)) else (some false)) else (some false)) else (none)) else (some false)) else (some false)) else (some false)))
def intervalmonlaw06_LexerNumbers.f (k : Nat) (a0 : Int) (a1 : Int) : Option (Bool) := (intervalmonref01_Around.f a0 1073741825).bind fun t421 => ((frac_New.f k t421 1).bind fun bt422 => ((frac_Text.f k bt422.1 bt422.2.1).bind fun t426 => ((intervalmonref01_Around.f a1 6).bind fun t427 => (intervalmonlaw06_LexerNumbers.l0 k t421 bt422.2.2 t426 t427))))
theorem intervalmonlaw06_LexerNumbers.mono_l : ∀ k, (∀ y0 y1 y2 y3, LeO (intervalmonlaw06_LexerNumbers.l0 k y0 y1 y2 y3) (intervalmonlaw06_LexerNumbers.l0 (k + 1) y0 y1 y2 y3))
  | 0 => fun _ _ _ _ r h => by simp [intervalmonlaw06_LexerNumbers.l0] at h
  | k + 1 => by
    have ih0 := intervalmonlaw06_LexerNumbers.mono_l k
    · intro y0 y1 y2 y3
      unfold intervalmonlaw06_LexerNumbers.l0
      repeat' first
      | (with_reducible exact ih0 _ _ _ _)
      | (with_reducible exact frac_New.mono _ _ _)
      | (with_reducible exact frac_Text.mono _ _ _)
      | (with_reducible exact intervalmonlaw06_lives.mono _)
      | (with_reducible exact lexer_Tokens.mono _ _)
      | (with_reducible exact LeO.refl _)
      | (with_reducible exact LeO.none _)
      | (with_reducible refine LeO.ite ?_ ?_)
      | (with_reducible refine LeO.bind ?_ (fun _ => ?_))
      | exact ih0 _ _ _ _
      | exact frac_New.mono _ _ _
      | exact frac_Text.mono _ _ _
      | exact intervalmonlaw06_lives.mono _
      | exact lexer_Tokens.mono _ _
      | exact LeO.none _
      | refine LeO.ite ?_ ?_
      | refine LeO.bind ?_ (fun _ => ?_)
theorem intervalmonlaw06_LexerNumbers.mono : ∀ a0 a1 k, LeO (intervalmonlaw06_LexerNumbers.f k a0 a1) (intervalmonlaw06_LexerNumbers.f (k + 1) a0 a1) := by
  intro a0 a1 k
  have ih0 := intervalmonlaw06_LexerNumbers.mono_l k
  unfold intervalmonlaw06_LexerNumbers.f
  repeat' first
      | (with_reducible exact ih0 _ _ _ _)
      | (with_reducible exact frac_New.mono _ _ _)
      | (with_reducible exact frac_Text.mono _ _ _)
      | (with_reducible exact intervalmonlaw06_lives.mono _)
      | (with_reducible exact lexer_Tokens.mono _ _)
      | (with_reducible exact LeO.refl _)
      | (with_reducible exact LeO.none _)
      | (with_reducible refine LeO.ite ?_ ?_)
      | (with_reducible refine LeO.bind ?_ (fun _ => ?_))
      | exact ih0 _ _ _ _
      | exact frac_New.mono _ _ _
      | exact frac_Text.mono _ _ _
      | exact intervalmonlaw06_lives.mono _
      | exact lexer_Tokens.mono _ _
      | exact LeO.none _
      | refine LeO.ite ?_ ?_
      | refine LeO.bind ?_ (fun _ => ?_)
set_option maxHeartbeats 8000000 in
set_option maxRecDepth 100000 in
theorem intervalmonlaw06_LexerNumbers.calls (k : Nat) (a0 : Int) (a1 : Int) (r : Bool) (w : World) (hT : Pow w) (h : intervalmonlaw06_LexerNumbers.f k a0 a1 = some r) :
    Calls Tryd.prog 10 #[.int .i64 a0, .int .i64 a1] w fun e w' => e = .returned (.bool r) ∧ Below w.heap.size w w' := by
  have hu45 := Tryd.underlying45
  have HB := Aside0.mk (Below.refl w.heap.size w)
  have H : ((intervalmonref01_Around.f a0 1073741825).bind fun t421 => ((frac_New.f k t421 1).bind fun bt422 => ((frac_Text.f k bt422.1 bt422.2.1).bind fun t426 => ((intervalmonref01_Around.f a1 6).bind fun t427 => (intervalmonlaw06_LexerNumbers.l0 k t421 bt422.2.2 t426 t427))))) = some r := h
  clear h
  replace H := Option.bind_eq_some_iff.mp H
  obtain ⟨t421, A30, H⟩ := H
  replace H : ((frac_New.f k t421 1).bind fun bt422 => ((frac_Text.f k bt422.1 bt422.2.1).bind fun t426 => ((intervalmonref01_Around.f a1 6).bind fun t427 => (intervalmonlaw06_LexerNumbers.l0 k t421 bt422.2.2 t426 t427)))) = some r := H
  have A3 := Aside0.mk A30
  clear A30
  replace H := Option.bind_eq_some_iff.mp H
  obtain ⟨⟨t422, t423, t424⟩, A40, H⟩ := H
  replace H : ((frac_Text.f k t422 t423).bind fun t426 => ((intervalmonref01_Around.f a1 6).bind fun t427 => (intervalmonlaw06_LexerNumbers.l0 k t421 t424 t426 t427))) = some r := H
  have A4 := Aside0.mk A40
  clear A40
  replace H := Option.bind_eq_some_iff.mp H
  obtain ⟨t426, A50, H⟩ := H
  replace H : ((intervalmonref01_Around.f a1 6).bind fun t427 => (intervalmonlaw06_LexerNumbers.l0 k t421 t424 t426 t427)) = some r := H
  have A5 := Aside0.mk A50
  clear A50
  replace H := Option.bind_eq_some_iff.mp H
  obtain ⟨t427, A60, H⟩ := H
  replace H : (intervalmonlaw06_LexerNumbers.l0 k t421 t424 t426 t427) = some r := H
  have A6 := Aside0.mk A60
  clear A60
  have H' := Aside0.mk H
  clear H
  go_enter Tryd.func10, Tryd.ntmps10
  go_wp2_with (first | ((with_reducible refine gate_callee (f := 16) rfl ?_); refine goesL_ (some 14) rfl rfl Tryd.func16 (by kernel_rfl) rfl #[.int .i64 a0, .int .i64 1073741825] rfl (by (try simp only [List.map_toArray, List.map_cons, List.map_nil]); first | done | rfl | (simp only [List.length_drop, List.length_take]; rfl)) ?_; (with_reducible refine (intervalmonref01_Around.calls a0 1073741825 t421 _ A3.out).mono ?_); rintro e w' ⟨rfl, ⟨nd, rfl⟩⟩; refine ⟨_, rfl, ?_⟩) | ((with_reducible refine gate_callee (f := 25) rfl ?_); refine goesL_ (some 17) rfl rfl Tryd.func25 (by kernel_rfl) rfl #[.int .i64 t421, .int .i64 1] rfl (by (try simp only [List.map_toArray, List.map_cons, List.map_nil]); first | done | rfl | (simp only [List.length_drop, List.length_take]; rfl)) ?_; (with_reducible refine (frac_New.calls k t421 1 t422 t423 t424 _ A4.out).mono ?_); rintro e w7 ⟨rfl, hb⟩; refine ⟨_, rfl, ?_⟩; have n0_ := Aside0.mk (below_step (by repeat (first | (with_reducible first | exact HB.out | apply below_alloc | apply pw_below_drewN | apply below_drew1) | exact HB.out)) hb); clear HB; have HB := n0_; clear n0_; (try clear hb); (try clear hb2); (try clear hk); (try clear hi)) | ((with_reducible refine gate_dst (N := 6) rfl ?_); (try (refine gate_guard (by rfl) ?_; dsimp only)); refine box_event ?hg (N := 6) ?hd (cs := #[.int .i64 0, .int .i64 0]) (t := 45) ?hr ?_; (case hd => rfl); (case hg => rfl); (case hr => first | (go_simp; done) | (go_simp; rfl)); intro gb425 hg w8 hbox hb; have n0_ := Aside0.mk (below_step (by repeat (first | (with_reducible first | exact HB.out | apply below_alloc | apply pw_below_drewN | apply below_drew1) | exact HB.out)) hb); have n1_ := Aside0.mk (hbox); have n2_ := Aside0.mk ((by rw [hg]; exact (below_size (by repeat (first | (with_reducible first | exact HB.out | apply below_alloc | apply pw_below_drewN | apply below_drew1) | exact HB.out))) : w.heap.size ≤ gb425)); have n3_ := Aside0.mk ((by rw [hg]; exact (below_size (by repeat (first | (with_reducible first | exact HB.out | apply below_alloc | apply pw_below_drewN | apply below_drew1) | exact HB.out))) : w.heap.size ≤ gb425)); clear HB; have HB := n0_; have BK425 := n1_; have GW425 := n2_; have GE425 := n3_; clear n0_ n1_ n2_ n3_; clear hb hbox hg; have hcz9_0 : w8.cell? ⟨gb425, 0, none⟩ = some (.int .i64 0) := (blk_cell BK425.out 0).trans rfl; have hcz9_1 : w8.cell? ⟨gb425, 1, none⟩ = some (.int .i64 0) := (blk_cell BK425.out 1).trans rfl; have hfz9_0 := blk_frozen BK425.out 0; have hfz9_1 := blk_frozen BK425.out 1) | ((with_reducible refine gate_callee (f := 26) rfl ?_); refine goesL_ (some 21) rfl rfl Tryd.func26 (by kernel_rfl) rfl #[.agg #[.int .i64 t422, .int .i64 t423]] rfl (by (try simp only [List.map_toArray, List.map_cons, List.map_nil]); first | done | rfl | (simp only [List.length_drop, List.length_take]; rfl)) ?_; (with_reducible refine (frac_Text.calls k t422 t423 t426 _ (pow_stays hT (by repeat (first | (with_reducible first | exact HB.out | apply below_alloc | apply pw_below_drewN | apply below_drew1 | refine below_set ?_ GE425.out) | exact HB.out | exact Below.refl _ _))) A5.out).mono ?_); rintro e w10 ⟨rfl, hb⟩; refine ⟨_, rfl, ?_⟩; have n0_ := Aside0.mk (blk_below (g := gb425) (o := .cells #[.int .i64 t422, .int .i64 t423] 45 (0, 0)) (by (with_reducible repeat (first | refine blk_drewN ?_ _ | refine blk_drew ?_ | refine blk_alloc ?_ _)); refine blk_put (cs := #[.int .i64 t422, .int .i64 0]) ?_ 1 _ rfl; (with_reducible repeat (first | refine blk_drewN ?_ _ | refine blk_drew ?_ | refine blk_alloc ?_ _)); refine blk_put (cs := #[.int .i64 0, .int .i64 0]) ?_ 0 _ rfl; (with_reducible repeat (first | refine blk_drewN ?_ _ | refine blk_drew ?_ | refine blk_alloc ?_ _)); exact BK425.out) hb); have n1_ := Aside0.mk (below_step (by repeat (first | (with_reducible first | exact HB.out | apply below_alloc | apply pw_below_drewN | apply below_drew1 | refine below_set ?_ GE425.out) | exact HB.out)) hb); clear BK425; clear HB; have BK425 := n0_; have HB := n1_; clear n0_ n1_; (try clear hb); (try clear hb2); (try clear hk); (try clear hi)) | ((with_reducible refine gate_callee (f := 16) rfl ?_); refine goesL_ (some 23) rfl rfl Tryd.func16 (by kernel_rfl) rfl #[.int .i64 a1, .int .i64 6] rfl (by (try simp only [List.map_toArray, List.map_cons, List.map_nil]); first | done | rfl | (simp only [List.length_drop, List.length_take]; rfl)) ?_; (with_reducible refine (intervalmonref01_Around.calls a1 6 t427 _ A6.out).mono ?_); rintro e w' ⟨rfl, ⟨nd, rfl⟩⟩; refine ⟨_, rfl, ?_⟩))
  go_loopg [8, 9] k (fun kq v8 v9 w' => ∃ (x8_1 : ByteArray) (x9_1 : Int), v8 = .string x8_1 ∧ v9 = .int .i64 x9_1 ∧ Aside0 (intervalmonlaw06_LexerNumbers.l0 kq t421 t424 x8_1 x9_1 = some r) ∧ Aside0 (kq ≤ k) ∧ Aside0 (w'.heap[gb425]? = some (.cells #[.int .i64 t422, .int .i64 t423] 45 (0, 0))) ∧ Aside0 (Below w.heap.size w w'))
  case atStart => exact ⟨(t426), (t427), (by first | rfl | (simp; done) | (simp only [z1, z2, Aid.size_lit, List.length_cons, List.length_nil, Nat.reduceAdd, Int.cast_ofNat_Int, z6, z7]; done) | (simp [*]; done)), (by first | rfl | (simp; done) | (simp only [z1, z2, Aid.size_lit, List.length_cons, List.length_nil, Nat.reduceAdd, Int.cast_ofNat_Int, z6, z7]; done) | (simp [*]; done)), H', ⟨Nat.le_refl _⟩, ⟨by (with_reducible repeat (first | refine blk_drewN ?_ _ | refine blk_drew ?_ | refine blk_alloc ?_ _)); exact BK425.out⟩, ⟨by repeat (first | (with_reducible first | exact HB.out | apply below_alloc | apply pw_below_drewN | apply below_drew1 | refine below_set ?_ GE425.out) | exact HB.out)⟩⟩
  case round =>
    clear H'
    try clear c1
    try clear c2
    try clear p2
    try clear c10
    try clear hcz9_0
    try clear hcz9_1
    try clear hfz9_0
    try clear hfz9_1
    obtain ⟨x8_1, x9_1, rfl, rfl, HA, HK1, BK425, HB⟩ := hrel
    cases gk with
    | zero => exact absurd HA.out (by simp [intervalmonlaw06_LexerNumbers.l0])
    | succ k1 =>
      have H := HA.out
      clear HA
      simp only [intervalmonlaw06_LexerNumbers.l0] at H
      by_cases c11 : x9_1 > 0
      · rw [if_pos c11] at H
        have c11b0 : decide (0 < x9_1) = true := decide_eq_true c11
        clear c11
        by_cases c12 : 1 + x8_1.size ≤ 9223372036854775807
        · rw [if_pos c12] at H
          have c12b0 := eq_true c12
          have c12b1 : decide (1 + x8_1.size ≤ 9223372036854775807) = true := decide_eq_true c12
          try have c12b2 : (9223372036854775807 < 1 + x8_1.size) = False := eq_false (Nat.not_lt.2 c12)
          have H' := Aside0.mk H
          clear H
          go_wp2
          go_roundg k1
          case measure => have := HK1.out; omega
          case rel => exact ⟨((⟨#[48]⟩ : ByteArray) ++ x8_1), (wrap64 (x9_1 - 1)), (by first | rfl | (simp; done) | (simp only [z1, z2, Aid.size_lit, List.length_cons, List.length_nil, Nat.reduceAdd, Int.cast_ofNat_Int, z6, z7]; done) | (simp [*]; done)), (by first | rfl | (simp; done) | (simp only [z1, z2, Aid.size_lit, List.length_cons, List.length_nil, Nat.reduceAdd, Int.cast_ofNat_Int, z6, z7]; done) | (simp [*]; done)), H', ⟨by have := HK1.out; omega⟩, ⟨by (with_reducible repeat (first | refine blk_drewN ?_ _ | refine blk_drew ?_ | refine blk_alloc ?_ _)); exact BK425.out⟩, ⟨by repeat (first | (with_reducible first | exact HB.out | apply below_alloc | apply pw_below_drewN | apply below_drew1 | refine below_set ?_ GE425.out) | exact HB.out)⟩⟩
        · rw [if_neg c12] at H
          exact absurd H (by simp)
      · rw [if_neg c11] at H
        have c11b0 : decide (0 < x9_1) = false := decide_eq_false c11
        clear c11
        replace H := Option.bind_eq_some_iff.mp H
        obtain ⟨⟨t428, t429, t430⟩, A130, H⟩ := H
        replace H : (if t424 = 0 then (if t430 = 0 then (if (t428.length : Int) = 1 then (if 0 < (t428.length : Int) then (if ((rd_T37 t428 0).f0) = 1 then (if ((rd_T37 t428 0).f2) = t421 then (if ((rd_T37 t428 0).f1).toList = x8_1.toList then ((intervalmonlaw06_lives.f k1).bind fun t436 => (some t436)) else (some false)) else (some false)) else (some false)) else (none)) else (some false)) else (some false)) else (some false)) = some r := H
        have A13 := Aside0.mk A130
        clear A130
        by_cases c14 : t424 = 0
        · rw [if_pos c14] at H
          have c14b0 : (t424 == 0) = true := beq_iff_eq.mpr c14
          have c14b1 : (t424 != 0) = false := bne_eq_false_iff_eq.mpr c14
          clear c14
          by_cases c15 : t430 = 0
          · rw [if_pos c15] at H
            have c15b0 : (t430 == 0) = true := beq_iff_eq.mpr c15
            have c15b1 : (t430 != 0) = false := bne_eq_false_iff_eq.mpr c15
            clear c15
            by_cases c16 : (t428.length : Int) = 1
            · rw [if_pos c16] at H
              have c16b0 : ((t428.length : Int) == 1) = true := beq_iff_eq.mpr c16
              have c16b1 : ((t428.length : Int) != 1) = false := bne_eq_false_iff_eq.mpr c16
              clear c16
              by_cases c17 : 0 < (t428.length : Int)
              · rw [if_pos c17] at H
                have c17b0 : decide (0 < (t428.length : Int)) = true := decide_eq_true c17
                have c17b1 : decide (0 < t428.length) = true := decide_eq_true (by omega)
                clear c17
                by_cases c18 : ((rd_T37 t428 0).f0) = 1
                · rw [if_pos c18] at H
                  have c18b0 : (((rd_T37 t428 0).f0) == 1) = true := beq_iff_eq.mpr c18
                  have c18b1 : (((rd_T37 t428 0).f0) != 1) = false := bne_eq_false_iff_eq.mpr c18
                  clear c18
                  by_cases c19 : ((rd_T37 t428 0).f2) = t421
                  · rw [if_pos c19] at H
                    have c19b0 : (((rd_T37 t428 0).f2) == t421) = true := beq_iff_eq.mpr c19
                    have c19b1 : (((rd_T37 t428 0).f2) != t421) = false := bne_eq_false_iff_eq.mpr c19
                    clear c19
                    by_cases c20 : ((rd_T37 t428 0).f1).toList = x8_1.toList
                    · rw [if_pos c20] at H
                      have c20b0 : (((rd_T37 t428 0).f1).toList == x8_1.toList) = true := beq_iff_eq.mpr c20
                      have c20b1 : (((rd_T37 t428 0).f1).toList != x8_1.toList) = false := bne_eq_false_iff_eq.mpr c20
                      clear c20
                      replace H := Option.bind_eq_some_iff.mp H
                      obtain ⟨t436, A210, H⟩ := H
                      replace H : (some t436) = some r := H
                      have A21 := Aside0.mk A210
                      clear A210
                      obtain rfl := Option.some.inj H
                      go_wp2_with (first | ((with_reducible refine gate_callee (f := 20) rfl ?_); refine goesL_ (some 32) rfl rfl Tryd.func20 (by kernel_rfl) rfl #[.string x8_1] rfl (by (try simp only [List.map_toArray, List.map_cons, List.map_nil]); first | done | rfl | (simp only [List.length_drop, List.length_take]; rfl)) ?_; (with_reducible refine (lexer_Tokens.calls k1 x8_1 t428 t429 t430 _ A13.out).mono ?_); rintro e w22 ⟨v431, rfl, ho0, hb⟩; refine ⟨_, rfl, ?_⟩; have n0_ := Aside0.mk (Kd.R_lower ho0 (below_size (by repeat (first | (with_reducible first | exact HB.out | apply below_alloc | apply pw_below_drewN | apply below_drew1 | refine below_set ?_ GE425.out) | exact HB.out)))); have n1_ := Aside0.mk (blk_below (g := gb425) (o := .cells #[.int .i64 t422, .int .i64 t423] 45 (0, 0)) (by (with_reducible repeat (first | refine blk_drewN ?_ _ | refine blk_drew ?_ | refine blk_alloc ?_ _)); exact BK425.out) hb); have n2_ := Aside0.mk (below_step (by repeat (first | (with_reducible first | exact HB.out | apply below_alloc | apply pw_below_drewN | apply below_drew1 | refine below_set ?_ GE425.out) | exact HB.out)) hb); clear BK425; clear HB; have HO432 := n0_; have BK425 := n1_; have HB := n2_; clear n0_ n1_ n2_; (try clear hb); (try clear hb2); (try clear hk); (try clear hi); (try clear ho0); obtain ⟨Ao23, co23, eo23⟩ := Kd.R_slice HO432.out; subst eo23; have p433 : 0 ≤ (0 : Int) := (by omega); have q433 : 0 < (t428.length : Int) := of_decide_eq_true (by first | (with_reducible assumption) | assumption); obtain ⟨ad433, e433, hx433_0, hx433_1, hx433_2, hx433_3⟩ := at_T37 (Kd.R_reads' HO432.out).2.2 0 p433 q433; cases e433; have qi433 : (0 < t428.length) = True := eq_true (by omega); (try rw [show ((0 : Int)).toNat = 0 from rfl] at hx433_0); (try rw [show 0 * 4 = 0 from rfl] at hx433_0); (try rw [Addr.add_zero'] at hx433_0); (try rw [show ((0 : Int)).toNat = 0 from rfl] at hx433_1); (try rw [show 0 * 4 = 0 from rfl] at hx433_1); (try rw [Addr.add_zero'] at hx433_1); (try rw [show ((0 : Int)).toNat = 0 from rfl] at hx433_2); (try rw [show 0 * 4 = 0 from rfl] at hx433_2); (try rw [Addr.add_zero'] at hx433_2); (try rw [show ((0 : Int)).toNat = 0 from rfl] at hx433_3); (try rw [show 0 * 4 = 0 from rfl] at hx433_3); (try rw [Addr.add_zero'] at hx433_3); replace p433 := eq_true p433; replace q433 := eq_true q433; have p434 : 0 ≤ (0 : Int) := (by omega); have q434 : 0 < (t428.length : Int) := of_decide_eq_true (by first | (with_reducible assumption) | assumption); obtain ⟨ad434, e434, hx434_0, hx434_1, hx434_2, hx434_3⟩ := at_T37 (Kd.R_reads' HO432.out).2.2 0 p434 q434; obtain rfl : ad433 = ad434 := (by injection e434); have qi434 : (0 < t428.length) = True := eq_true (by omega); (try rw [show ((0 : Int)).toNat = 0 from rfl] at hx434_0); (try rw [show 0 * 4 = 0 from rfl] at hx434_0); (try rw [Addr.add_zero'] at hx434_0); (try rw [show ((0 : Int)).toNat = 0 from rfl] at hx434_1); (try rw [show 0 * 4 = 0 from rfl] at hx434_1); (try rw [Addr.add_zero'] at hx434_1); (try rw [show ((0 : Int)).toNat = 0 from rfl] at hx434_2); (try rw [show 0 * 4 = 0 from rfl] at hx434_2); (try rw [Addr.add_zero'] at hx434_2); (try rw [show ((0 : Int)).toNat = 0 from rfl] at hx434_3); (try rw [show 0 * 4 = 0 from rfl] at hx434_3); (try rw [Addr.add_zero'] at hx434_3); replace p434 := eq_true p434; replace q434 := eq_true q434; have p435 : 0 ≤ (0 : Int) := (by omega); have q435 : 0 < (t428.length : Int) := of_decide_eq_true (by first | (with_reducible assumption) | assumption); obtain ⟨ad435, e435, hx435_0, hx435_1, hx435_2, hx435_3⟩ := at_T37 (Kd.R_reads' HO432.out).2.2 0 p435 q435; obtain rfl : ad433 = ad435 := (by injection e435); have qi435 : (0 < t428.length) = True := eq_true (by omega); (try rw [show ((0 : Int)).toNat = 0 from rfl] at hx435_0); (try rw [show 0 * 4 = 0 from rfl] at hx435_0); (try rw [Addr.add_zero'] at hx435_0); (try rw [show ((0 : Int)).toNat = 0 from rfl] at hx435_1); (try rw [show 0 * 4 = 0 from rfl] at hx435_1); (try rw [Addr.add_zero'] at hx435_1); (try rw [show ((0 : Int)).toNat = 0 from rfl] at hx435_2); (try rw [show 0 * 4 = 0 from rfl] at hx435_2); (try rw [Addr.add_zero'] at hx435_2); (try rw [show ((0 : Int)).toNat = 0 from rfl] at hx435_3); (try rw [show 0 * 4 = 0 from rfl] at hx435_3); (try rw [Addr.add_zero'] at hx435_3); replace p435 := eq_true p435; replace q435 := eq_true q435) | (go_at_call 14; (with_reducible refine (intervalmonlaw06_lives.calls k1  t436 _ A21.out).mono ?_); rintro e w24 ⟨rfl, hb⟩; have n0_ := Aside0.mk (Kd.R_below (by (with_reducible repeat (first | apply Kd.R_alloc | apply Kd.R_drewN | apply Kd.R_drew)); exact HO432.out) hb); have n1_ := Aside0.mk (blk_below (g := gb425) (o := .cells #[.int .i64 t422, .int .i64 t423] 45 (0, 0)) (by (with_reducible repeat (first | refine blk_drewN ?_ _ | refine blk_drew ?_ | refine blk_alloc ?_ _)); exact BK425.out) hb); have n2_ := Aside0.mk (below_step (by repeat (first | (with_reducible first | exact HB.out | apply below_alloc | apply pw_below_drewN | apply below_drew1 | refine below_set ?_ GE425.out) | exact HB.out)) hb); clear HO432; clear BK425; clear HB; have HO432 := n0_; have BK425 := n1_; have HB := n2_; clear n0_ n1_ n2_; (try clear hb); (try clear hb2); (try clear hk); (try clear hi)))
                      go_ret
                      exact ⟨by first | rfl | (simp [errW_none, errW_some] <;> rfl) | (simp [*, errW_none, errW_some] <;> rfl), by repeat (first | (with_reducible first | exact HB.out | apply below_alloc | apply pw_below_drewN | apply below_drew1 | refine below_set ?_ GE425.out) | exact HB.out)⟩
                    · rw [if_neg c20] at H
                      have c20b0 : (((rd_T37 t428 0).f1).toList == x8_1.toList) = false := beq_eq_false_iff_ne.mpr c20
                      have c20b1 : (((rd_T37 t428 0).f1).toList != x8_1.toList) = true := bne_iff_ne.mpr c20
                      obtain rfl := Option.some.inj H
                      go_wp2_with (first | ((with_reducible refine gate_callee (f := 20) rfl ?_); refine goesL_ (some 32) rfl rfl Tryd.func20 (by kernel_rfl) rfl #[.string x8_1] rfl (by (try simp only [List.map_toArray, List.map_cons, List.map_nil]); first | done | rfl | (simp only [List.length_drop, List.length_take]; rfl)) ?_; (with_reducible refine (lexer_Tokens.calls k1 x8_1 t428 t429 t430 _ A13.out).mono ?_); rintro e w25 ⟨v431, rfl, ho0, hb⟩; refine ⟨_, rfl, ?_⟩; have n0_ := Aside0.mk (Kd.R_lower ho0 (below_size (by repeat (first | (with_reducible first | exact HB.out | apply below_alloc | apply pw_below_drewN | apply below_drew1 | refine below_set ?_ GE425.out) | exact HB.out)))); have n1_ := Aside0.mk (blk_below (g := gb425) (o := .cells #[.int .i64 t422, .int .i64 t423] 45 (0, 0)) (by (with_reducible repeat (first | refine blk_drewN ?_ _ | refine blk_drew ?_ | refine blk_alloc ?_ _)); exact BK425.out) hb); have n2_ := Aside0.mk (below_step (by repeat (first | (with_reducible first | exact HB.out | apply below_alloc | apply pw_below_drewN | apply below_drew1 | refine below_set ?_ GE425.out) | exact HB.out)) hb); clear BK425; clear HB; have HO432 := n0_; have BK425 := n1_; have HB := n2_; clear n0_ n1_ n2_; (try clear hb); (try clear hb2); (try clear hk); (try clear hi); (try clear ho0); obtain ⟨Ao26, co26, eo26⟩ := Kd.R_slice HO432.out; subst eo26; have p433 : 0 ≤ (0 : Int) := (by omega); have q433 : 0 < (t428.length : Int) := of_decide_eq_true (by first | (with_reducible assumption) | assumption); obtain ⟨ad433, e433, hx433_0, hx433_1, hx433_2, hx433_3⟩ := at_T37 (Kd.R_reads' HO432.out).2.2 0 p433 q433; cases e433; have qi433 : (0 < t428.length) = True := eq_true (by omega); (try rw [show ((0 : Int)).toNat = 0 from rfl] at hx433_0); (try rw [show 0 * 4 = 0 from rfl] at hx433_0); (try rw [Addr.add_zero'] at hx433_0); (try rw [show ((0 : Int)).toNat = 0 from rfl] at hx433_1); (try rw [show 0 * 4 = 0 from rfl] at hx433_1); (try rw [Addr.add_zero'] at hx433_1); (try rw [show ((0 : Int)).toNat = 0 from rfl] at hx433_2); (try rw [show 0 * 4 = 0 from rfl] at hx433_2); (try rw [Addr.add_zero'] at hx433_2); (try rw [show ((0 : Int)).toNat = 0 from rfl] at hx433_3); (try rw [show 0 * 4 = 0 from rfl] at hx433_3); (try rw [Addr.add_zero'] at hx433_3); replace p433 := eq_true p433; replace q433 := eq_true q433; have p434 : 0 ≤ (0 : Int) := (by omega); have q434 : 0 < (t428.length : Int) := of_decide_eq_true (by first | (with_reducible assumption) | assumption); obtain ⟨ad434, e434, hx434_0, hx434_1, hx434_2, hx434_3⟩ := at_T37 (Kd.R_reads' HO432.out).2.2 0 p434 q434; obtain rfl : ad433 = ad434 := (by injection e434); have qi434 : (0 < t428.length) = True := eq_true (by omega); (try rw [show ((0 : Int)).toNat = 0 from rfl] at hx434_0); (try rw [show 0 * 4 = 0 from rfl] at hx434_0); (try rw [Addr.add_zero'] at hx434_0); (try rw [show ((0 : Int)).toNat = 0 from rfl] at hx434_1); (try rw [show 0 * 4 = 0 from rfl] at hx434_1); (try rw [Addr.add_zero'] at hx434_1); (try rw [show ((0 : Int)).toNat = 0 from rfl] at hx434_2); (try rw [show 0 * 4 = 0 from rfl] at hx434_2); (try rw [Addr.add_zero'] at hx434_2); (try rw [show ((0 : Int)).toNat = 0 from rfl] at hx434_3); (try rw [show 0 * 4 = 0 from rfl] at hx434_3); (try rw [Addr.add_zero'] at hx434_3); replace p434 := eq_true p434; replace q434 := eq_true q434; have p435 : 0 ≤ (0 : Int) := (by omega); have q435 : 0 < (t428.length : Int) := of_decide_eq_true (by first | (with_reducible assumption) | assumption); obtain ⟨ad435, e435, hx435_0, hx435_1, hx435_2, hx435_3⟩ := at_T37 (Kd.R_reads' HO432.out).2.2 0 p435 q435; obtain rfl : ad433 = ad435 := (by injection e435); have qi435 : (0 < t428.length) = True := eq_true (by omega); (try rw [show ((0 : Int)).toNat = 0 from rfl] at hx435_0); (try rw [show 0 * 4 = 0 from rfl] at hx435_0); (try rw [Addr.add_zero'] at hx435_0); (try rw [show ((0 : Int)).toNat = 0 from rfl] at hx435_1); (try rw [show 0 * 4 = 0 from rfl] at hx435_1); (try rw [Addr.add_zero'] at hx435_1); (try rw [show ((0 : Int)).toNat = 0 from rfl] at hx435_2); (try rw [show 0 * 4 = 0 from rfl] at hx435_2); (try rw [Addr.add_zero'] at hx435_2); (try rw [show ((0 : Int)).toNat = 0 from rfl] at hx435_3); (try rw [show 0 * 4 = 0 from rfl] at hx435_3); (try rw [Addr.add_zero'] at hx435_3); replace p435 := eq_true p435; replace q435 := eq_true q435))
                      go_ret
                      exact ⟨by first | rfl | (simp [errW_none, errW_some] <;> rfl) | (simp [*, errW_none, errW_some] <;> rfl), by repeat (first | (with_reducible first | exact HB.out | apply below_alloc | apply pw_below_drewN | apply below_drew1 | refine below_set ?_ GE425.out) | exact HB.out)⟩
                  · rw [if_neg c19] at H
                    have c19b0 : (((rd_T37 t428 0).f2) == t421) = false := beq_eq_false_iff_ne.mpr c19
                    have c19b1 : (((rd_T37 t428 0).f2) != t421) = true := bne_iff_ne.mpr c19
                    obtain rfl := Option.some.inj H
                    go_wp2_with (first | ((with_reducible refine gate_callee (f := 20) rfl ?_); refine goesL_ (some 32) rfl rfl Tryd.func20 (by kernel_rfl) rfl #[.string x8_1] rfl (by (try simp only [List.map_toArray, List.map_cons, List.map_nil]); first | done | rfl | (simp only [List.length_drop, List.length_take]; rfl)) ?_; (with_reducible refine (lexer_Tokens.calls k1 x8_1 t428 t429 t430 _ A13.out).mono ?_); rintro e w27 ⟨v431, rfl, ho0, hb⟩; refine ⟨_, rfl, ?_⟩; have n0_ := Aside0.mk (Kd.R_lower ho0 (below_size (by repeat (first | (with_reducible first | exact HB.out | apply below_alloc | apply pw_below_drewN | apply below_drew1 | refine below_set ?_ GE425.out) | exact HB.out)))); have n1_ := Aside0.mk (blk_below (g := gb425) (o := .cells #[.int .i64 t422, .int .i64 t423] 45 (0, 0)) (by (with_reducible repeat (first | refine blk_drewN ?_ _ | refine blk_drew ?_ | refine blk_alloc ?_ _)); exact BK425.out) hb); have n2_ := Aside0.mk (below_step (by repeat (first | (with_reducible first | exact HB.out | apply below_alloc | apply pw_below_drewN | apply below_drew1 | refine below_set ?_ GE425.out) | exact HB.out)) hb); clear BK425; clear HB; have HO432 := n0_; have BK425 := n1_; have HB := n2_; clear n0_ n1_ n2_; (try clear hb); (try clear hb2); (try clear hk); (try clear hi); (try clear ho0); obtain ⟨Ao28, co28, eo28⟩ := Kd.R_slice HO432.out; subst eo28; have p433 : 0 ≤ (0 : Int) := (by omega); have q433 : 0 < (t428.length : Int) := of_decide_eq_true (by first | (with_reducible assumption) | assumption); obtain ⟨ad433, e433, hx433_0, hx433_1, hx433_2, hx433_3⟩ := at_T37 (Kd.R_reads' HO432.out).2.2 0 p433 q433; cases e433; have qi433 : (0 < t428.length) = True := eq_true (by omega); (try rw [show ((0 : Int)).toNat = 0 from rfl] at hx433_0); (try rw [show 0 * 4 = 0 from rfl] at hx433_0); (try rw [Addr.add_zero'] at hx433_0); (try rw [show ((0 : Int)).toNat = 0 from rfl] at hx433_1); (try rw [show 0 * 4 = 0 from rfl] at hx433_1); (try rw [Addr.add_zero'] at hx433_1); (try rw [show ((0 : Int)).toNat = 0 from rfl] at hx433_2); (try rw [show 0 * 4 = 0 from rfl] at hx433_2); (try rw [Addr.add_zero'] at hx433_2); (try rw [show ((0 : Int)).toNat = 0 from rfl] at hx433_3); (try rw [show 0 * 4 = 0 from rfl] at hx433_3); (try rw [Addr.add_zero'] at hx433_3); replace p433 := eq_true p433; replace q433 := eq_true q433; have p434 : 0 ≤ (0 : Int) := (by omega); have q434 : 0 < (t428.length : Int) := of_decide_eq_true (by first | (with_reducible assumption) | assumption); obtain ⟨ad434, e434, hx434_0, hx434_1, hx434_2, hx434_3⟩ := at_T37 (Kd.R_reads' HO432.out).2.2 0 p434 q434; obtain rfl : ad433 = ad434 := (by injection e434); have qi434 : (0 < t428.length) = True := eq_true (by omega); (try rw [show ((0 : Int)).toNat = 0 from rfl] at hx434_0); (try rw [show 0 * 4 = 0 from rfl] at hx434_0); (try rw [Addr.add_zero'] at hx434_0); (try rw [show ((0 : Int)).toNat = 0 from rfl] at hx434_1); (try rw [show 0 * 4 = 0 from rfl] at hx434_1); (try rw [Addr.add_zero'] at hx434_1); (try rw [show ((0 : Int)).toNat = 0 from rfl] at hx434_2); (try rw [show 0 * 4 = 0 from rfl] at hx434_2); (try rw [Addr.add_zero'] at hx434_2); (try rw [show ((0 : Int)).toNat = 0 from rfl] at hx434_3); (try rw [show 0 * 4 = 0 from rfl] at hx434_3); (try rw [Addr.add_zero'] at hx434_3); replace p434 := eq_true p434; replace q434 := eq_true q434))
                    go_ret
                    exact ⟨by first | rfl | (simp [errW_none, errW_some] <;> rfl) | (simp [*, errW_none, errW_some] <;> rfl), by repeat (first | (with_reducible first | exact HB.out | apply below_alloc | apply pw_below_drewN | apply below_drew1 | refine below_set ?_ GE425.out) | exact HB.out)⟩
                · rw [if_neg c18] at H
                  have c18b0 : (((rd_T37 t428 0).f0) == 1) = false := beq_eq_false_iff_ne.mpr c18
                  have c18b1 : (((rd_T37 t428 0).f0) != 1) = true := bne_iff_ne.mpr c18
                  obtain rfl := Option.some.inj H
                  go_wp2_with (first | ((with_reducible refine gate_callee (f := 20) rfl ?_); refine goesL_ (some 32) rfl rfl Tryd.func20 (by kernel_rfl) rfl #[.string x8_1] rfl (by (try simp only [List.map_toArray, List.map_cons, List.map_nil]); first | done | rfl | (simp only [List.length_drop, List.length_take]; rfl)) ?_; (with_reducible refine (lexer_Tokens.calls k1 x8_1 t428 t429 t430 _ A13.out).mono ?_); rintro e w29 ⟨v431, rfl, ho0, hb⟩; refine ⟨_, rfl, ?_⟩; have n0_ := Aside0.mk (Kd.R_lower ho0 (below_size (by repeat (first | (with_reducible first | exact HB.out | apply below_alloc | apply pw_below_drewN | apply below_drew1 | refine below_set ?_ GE425.out) | exact HB.out)))); have n1_ := Aside0.mk (blk_below (g := gb425) (o := .cells #[.int .i64 t422, .int .i64 t423] 45 (0, 0)) (by (with_reducible repeat (first | refine blk_drewN ?_ _ | refine blk_drew ?_ | refine blk_alloc ?_ _)); exact BK425.out) hb); have n2_ := Aside0.mk (below_step (by repeat (first | (with_reducible first | exact HB.out | apply below_alloc | apply pw_below_drewN | apply below_drew1 | refine below_set ?_ GE425.out) | exact HB.out)) hb); clear BK425; clear HB; have HO432 := n0_; have BK425 := n1_; have HB := n2_; clear n0_ n1_ n2_; (try clear hb); (try clear hb2); (try clear hk); (try clear hi); (try clear ho0); obtain ⟨Ao30, co30, eo30⟩ := Kd.R_slice HO432.out; subst eo30; have p433 : 0 ≤ (0 : Int) := (by omega); have q433 : 0 < (t428.length : Int) := of_decide_eq_true (by first | (with_reducible assumption) | assumption); obtain ⟨ad433, e433, hx433_0, hx433_1, hx433_2, hx433_3⟩ := at_T37 (Kd.R_reads' HO432.out).2.2 0 p433 q433; cases e433; have qi433 : (0 < t428.length) = True := eq_true (by omega); (try rw [show ((0 : Int)).toNat = 0 from rfl] at hx433_0); (try rw [show 0 * 4 = 0 from rfl] at hx433_0); (try rw [Addr.add_zero'] at hx433_0); (try rw [show ((0 : Int)).toNat = 0 from rfl] at hx433_1); (try rw [show 0 * 4 = 0 from rfl] at hx433_1); (try rw [Addr.add_zero'] at hx433_1); (try rw [show ((0 : Int)).toNat = 0 from rfl] at hx433_2); (try rw [show 0 * 4 = 0 from rfl] at hx433_2); (try rw [Addr.add_zero'] at hx433_2); (try rw [show ((0 : Int)).toNat = 0 from rfl] at hx433_3); (try rw [show 0 * 4 = 0 from rfl] at hx433_3); (try rw [Addr.add_zero'] at hx433_3); replace p433 := eq_true p433; replace q433 := eq_true q433))
                  go_ret
                  exact ⟨by first | rfl | (simp [errW_none, errW_some] <;> rfl) | (simp [*, errW_none, errW_some] <;> rfl), by repeat (first | (with_reducible first | exact HB.out | apply below_alloc | apply pw_below_drewN | apply below_drew1 | refine below_set ?_ GE425.out) | exact HB.out)⟩
              · rw [if_neg c17] at H
                exact absurd H (by simp)
            · rw [if_neg c16] at H
              have c16b0 : ((t428.length : Int) == 1) = false := beq_eq_false_iff_ne.mpr c16
              have c16b1 : ((t428.length : Int) != 1) = true := bne_iff_ne.mpr c16
              obtain rfl := Option.some.inj H
              go_wp2_with (first | ((with_reducible refine gate_callee (f := 20) rfl ?_); refine goesL_ (some 32) rfl rfl Tryd.func20 (by kernel_rfl) rfl #[.string x8_1] rfl (by (try simp only [List.map_toArray, List.map_cons, List.map_nil]); first | done | rfl | (simp only [List.length_drop, List.length_take]; rfl)) ?_; (with_reducible refine (lexer_Tokens.calls k1 x8_1 t428 t429 t430 _ A13.out).mono ?_); rintro e w31 ⟨v431, rfl, ho0, hb⟩; refine ⟨_, rfl, ?_⟩; have n0_ := Aside0.mk (Kd.R_lower ho0 (below_size (by repeat (first | (with_reducible first | exact HB.out | apply below_alloc | apply pw_below_drewN | apply below_drew1 | refine below_set ?_ GE425.out) | exact HB.out)))); have n1_ := Aside0.mk (blk_below (g := gb425) (o := .cells #[.int .i64 t422, .int .i64 t423] 45 (0, 0)) (by (with_reducible repeat (first | refine blk_drewN ?_ _ | refine blk_drew ?_ | refine blk_alloc ?_ _)); exact BK425.out) hb); have n2_ := Aside0.mk (below_step (by repeat (first | (with_reducible first | exact HB.out | apply below_alloc | apply pw_below_drewN | apply below_drew1 | refine below_set ?_ GE425.out) | exact HB.out)) hb); clear BK425; clear HB; have HO432 := n0_; have BK425 := n1_; have HB := n2_; clear n0_ n1_ n2_; (try clear hb); (try clear hb2); (try clear hk); (try clear hi); (try clear ho0); obtain ⟨Ao32, co32, eo32⟩ := Kd.R_slice HO432.out; subst eo32))
              go_ret
              exact ⟨by first | rfl | (simp [errW_none, errW_some] <;> rfl) | (simp [*, errW_none, errW_some] <;> rfl), by repeat (first | (with_reducible first | exact HB.out | apply below_alloc | apply pw_below_drewN | apply below_drew1 | refine below_set ?_ GE425.out) | exact HB.out)⟩
          · rw [if_neg c15] at H
            have c15b0 : (t430 == 0) = false := beq_eq_false_iff_ne.mpr c15
            have c15b1 : (t430 != 0) = true := bne_iff_ne.mpr c15
            obtain rfl := Option.some.inj H
            go_wp2_with (first | ((with_reducible refine gate_callee (f := 20) rfl ?_); refine goesL_ (some 32) rfl rfl Tryd.func20 (by kernel_rfl) rfl #[.string x8_1] rfl (by (try simp only [List.map_toArray, List.map_cons, List.map_nil]); first | done | rfl | (simp only [List.length_drop, List.length_take]; rfl)) ?_; (with_reducible refine (lexer_Tokens.calls k1 x8_1 t428 t429 t430 _ A13.out).mono ?_); rintro e w33 ⟨v431, rfl, ho0, hb⟩; refine ⟨_, rfl, ?_⟩; have n0_ := Aside0.mk (Kd.R_lower ho0 (below_size (by repeat (first | (with_reducible first | exact HB.out | apply below_alloc | apply pw_below_drewN | apply below_drew1 | refine below_set ?_ GE425.out) | exact HB.out)))); have n1_ := Aside0.mk (blk_below (g := gb425) (o := .cells #[.int .i64 t422, .int .i64 t423] 45 (0, 0)) (by (with_reducible repeat (first | refine blk_drewN ?_ _ | refine blk_drew ?_ | refine blk_alloc ?_ _)); exact BK425.out) hb); have n2_ := Aside0.mk (below_step (by repeat (first | (with_reducible first | exact HB.out | apply below_alloc | apply pw_below_drewN | apply below_drew1 | refine below_set ?_ GE425.out) | exact HB.out)) hb); clear BK425; clear HB; have HO432 := n0_; have BK425 := n1_; have HB := n2_; clear n0_ n1_ n2_; (try clear hb); (try clear hb2); (try clear hk); (try clear hi); (try clear ho0)))
            go_ret
            exact ⟨by first | rfl | (simp [errW_none, errW_some] <;> rfl) | (simp [*, errW_none, errW_some] <;> rfl), by repeat (first | (with_reducible first | exact HB.out | apply below_alloc | apply pw_below_drewN | apply below_drew1 | refine below_set ?_ GE425.out) | exact HB.out)⟩
        · rw [if_neg c14] at H
          have c14b0 : (t424 == 0) = false := beq_eq_false_iff_ne.mpr c14
          have c14b1 : (t424 != 0) = true := bne_iff_ne.mpr c14
          obtain rfl := Option.some.inj H
          go_wp2_with (first | ((with_reducible refine gate_callee (f := 20) rfl ?_); refine goesL_ (some 32) rfl rfl Tryd.func20 (by kernel_rfl) rfl #[.string x8_1] rfl (by (try simp only [List.map_toArray, List.map_cons, List.map_nil]); first | done | rfl | (simp only [List.length_drop, List.length_take]; rfl)) ?_; (with_reducible refine (lexer_Tokens.calls k1 x8_1 t428 t429 t430 _ A13.out).mono ?_); rintro e w34 ⟨v431, rfl, ho0, hb⟩; refine ⟨_, rfl, ?_⟩; have n0_ := Aside0.mk (Kd.R_lower ho0 (below_size (by repeat (first | (with_reducible first | exact HB.out | apply below_alloc | apply pw_below_drewN | apply below_drew1 | refine below_set ?_ GE425.out) | exact HB.out)))); have n1_ := Aside0.mk (blk_below (g := gb425) (o := .cells #[.int .i64 t422, .int .i64 t423] 45 (0, 0)) (by (with_reducible repeat (first | refine blk_drewN ?_ _ | refine blk_drew ?_ | refine blk_alloc ?_ _)); exact BK425.out) hb); have n2_ := Aside0.mk (below_step (by repeat (first | (with_reducible first | exact HB.out | apply below_alloc | apply pw_below_drewN | apply below_drew1 | refine below_set ?_ GE425.out) | exact HB.out)) hb); clear BK425; clear HB; have HO432 := n0_; have BK425 := n1_; have HB := n2_; clear n0_ n1_ n2_; (try clear hb); (try clear hb2); (try clear hk); (try clear hi); (try clear ho0)))
          go_ret
          exact ⟨by first | rfl | (simp [errW_none, errW_some] <;> rfl) | (simp [*, errW_none, errW_some] <;> rfl), by repeat (first | (with_reducible first | exact HB.out | apply below_alloc | apply pw_below_drewN | apply below_drew1 | refine below_set ?_ GE425.out) | exact HB.out)⟩

/-- THE ONE PURE STATEMENT of intervalmonlaw06_LexerNumbers: yours. -/
def intervalmonlaw06_LexerNumbers.Pure : Prop := ∀ (a0 : Int) (a1 : Int), (Lit.int .i64 a0).wf = true → (Lit.int .i64 a1).wf = true → ∃ k, intervalmonlaw06_LexerNumbers.f k a0 a1 = some true
theorem intervalmonlaw06_LexerNumbers.walk (P : intervalmonlaw06_LexerNumbers.Pure) (a0 : Int) (a1 : Int) (w : World) (hT : Pow w) (w0 : (Lit.int .i64 a0).wf = true) (w1 : (Lit.int .i64 a1).wf = true) :
    Calls Tryd.prog 10 #[.int .i64 a0, .int .i64 a1] w fun e w' => e = .returned (.bool true) ∧ Below w.heap.size w w' := by
  obtain ⟨k, h⟩ := P a0 a1 w0 w1
  refine (intervalmonlaw06_LexerNumbers.calls k a0 a1 true w hT h).mono ?_
  rintro e w' ⟨rfl, hd⟩
  exact ⟨rfl, hd⟩

end Go.Proofs.YtecojcpccglelaaDoor.PAll
