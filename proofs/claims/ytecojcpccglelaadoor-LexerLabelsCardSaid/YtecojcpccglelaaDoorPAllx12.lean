/- Printed by this session's driver drive.py over the kit's print, with hand-proved callees. -/
import Derived.Test.YtecojcpccglelaaDoorPAllx0
import Derived.Test.YtecojcpccglelaaDoorSz
import Derived.Test.YtecojcpccglelaaDoorPAllxM
import Derived.Test.YtecojcpccglelaaDoorPAllx11
import Derived.Test.YtecojcpccglelaaDoorHandText
import Derived.Test.YtecojcpccglelaaDoorHandTokensB
namespace Go.Proofs.YtecojcpccglelaaDoor.PAll
open Go.RowKit Go.Proofs.YtecojcpccglelaaDoorW.PrintWords Go.Proofs.YtecojcpccglelaaDoorW.PrintLast Go.Proofs.YtecojcpccglelaaDoorW.PrintMore
attribute [local go_sem] max2_int min2_int max_two min_two max_three min_three max_four min_four   -- for this text's walks alone
attribute [local go_sem high] Go.Proofs.YtecojcpccglelaaDoor.Aid.cell_lit
set_option linter.unusedVariables false
set_option linter.unusedSimpArgs false

/-! ### intervalmonlaw06_LexerLabels: function 9 -/
mutual
def intervalmonlaw06_LexerLabels.j0 : Nat → List (S43) → List (S37) → Bool → Option (Bool)
  | 0, _, _, _ => none
  | k + 1, x3, x4, x32 => if x32 = true then (some false) else (if 0 < (x4.length : Int) then (if ((rd_T37 x4 0).f1).toList = ([123] : List UInt8) then (if 0 ≤ (wrap64 ((x4.length : Int) - 1)) then (if (wrap64 ((x4.length : Int) - 1)) < (x4.length : Int) then (intervalmonlaw06_LexerLabels.j1 k x3 x4 (((rd_T37 x4 (wrap64 ((x4.length : Int) - 1))).f1).toList != ([125] : List UInt8))) else (none)) else (none)) else (intervalmonlaw06_LexerLabels.j1 k x3 x4 true)) else (none))
def intervalmonlaw06_LexerLabels.j1 : Nat → List (S43) → List (S37) → Bool → Option (Bool)
  | 0, _, _, _ => none
  | k + 1, x3, x4, x47 => if x47 = true then (some false) else (intervalmonlaw06_LexerLabels.l0 k x3 x4 0)
def intervalmonlaw06_LexerLabels.l0 : Nat → List (S43) → List (S37) → Int → Option (Bool)
  | 0, _, _, _ => none
  | k + 1, x3, x4, x7 => if x7 < (x3.length : Int) then (if 0 ≤ (wrap64 (1 + (wrap64 (4 * x7)))) then (if (wrap64 (1 + (wrap64 (4 * x7)))) < (x4.length : Int) then (if ((rd_T37 x4 (wrap64 (1 + (wrap64 (4 * x7))))).f0) = 0 then (if 0 ≤ x7 then (if ((rd_T37 x4 (wrap64 (1 + (wrap64 (4 * x7))))).f1).toList = ((rd_T43 x3 x7).f0).toList then (if 0 ≤ (wrap64 ((wrap64 (1 + (wrap64 (4 * x7)))) + 1)) then (if (wrap64 ((wrap64 (1 + (wrap64 (4 * x7)))) + 1)) < (x4.length : Int) then (if ((rd_T37 x4 (wrap64 ((wrap64 (1 + (wrap64 (4 * x7)))) + 1))).f1).toList = ([61] : List UInt8) then (if 0 ≤ (wrap64 ((wrap64 (1 + (wrap64 (4 * x7)))) + 2)) then (if (wrap64 ((wrap64 (1 + (wrap64 (4 * x7)))) + 2)) < (x4.length : Int) then (if ((rd_T37 x4 (wrap64 ((wrap64 (1 + (wrap64 (4 * x7)))) + 2))).f0) = 2 then (intervalmonlaw06_LexerLabels.j3 k x3 x4 x7 (wrap64 (1 + (wrap64 (4 * x7)))) (((rd_T37 x4 (wrap64 ((wrap64 (1 + (wrap64 (4 * x7)))) + 2))).f1).toList != ((rd_T43 x3 x7).f1).toList)) else (intervalmonlaw06_LexerLabels.j3 k x3 x4 x7 (wrap64 (1 + (wrap64 (4 * x7)))) true)) else (none)) else (none)) else (intervalmonlaw06_LexerLabels.j3 k x3 x4 x7 (wrap64 (1 + (wrap64 (4 * x7)))) true)) else (none)) else (none)) else (intervalmonlaw06_LexerLabels.j3 k x3 x4 x7 (wrap64 (1 + (wrap64 (4 * x7)))) true)) else (none)) else (intervalmonlaw06_LexerLabels.j3 k x3 x4 x7 (wrap64 (1 + (wrap64 (4 * x7)))) true)) else (none)) else (none)) else ((intervalmonlaw06_lives.f k).bind fun t393 => (some t393))
def intervalmonlaw06_LexerLabels.j3 : Nat → List (S43) → List (S37) → Int → Int → Bool → Option (Bool)
  | 0, _, _, _, _, _ => none
  | k + 1, x3, x4, x7, x8, x107 => if x107 = true then (some false) else (if (wrap64 (x7 + 1)) < (x3.length : Int) then (if 0 ≤ (wrap64 (x8 + 3)) then (if (wrap64 (x8 + 3)) < (x4.length : Int) then (if ((rd_T37 x4 (wrap64 (x8 + 3))).f1).toList = ([44] : List UInt8) then (intervalmonlaw06_LexerLabels.l0 k x3 x4 (wrap64 (x7 + 1))) else (some false)) else (none)) else (none)) else (intervalmonlaw06_LexerLabels.l0 k x3 x4 (wrap64 (x7 + 1))))
end
def intervalmonlaw06_LexerLabels.f (k : Nat) (l0 : List Int) : Option (Bool) := (intervalmonref05_Set.f k l0).bind fun t382 => ((labels_Text.f t382).bind fun t385 => ((lexer_Tokens.f k t385).bind fun bt386 => (if bt386.2.2 = 0 then (intervalmonlaw06_LexerLabels.j0 k t382 bt386.1 ((bt386.1.length : Int) != (wrap64 ((wrap64 (2 + (wrap64 (4 * (t382.length : Int))))) - (mn (t382.length : Int) 1))))) else (intervalmonlaw06_LexerLabels.j0 k t382 bt386.1 true))))
theorem intervalmonlaw06_LexerLabels.mono_l : ∀ k, (∀ y0 y1 y2, LeO (intervalmonlaw06_LexerLabels.j0 k y0 y1 y2) (intervalmonlaw06_LexerLabels.j0 (k + 1) y0 y1 y2)) ∧ (∀ y0 y1 y2, LeO (intervalmonlaw06_LexerLabels.j1 k y0 y1 y2) (intervalmonlaw06_LexerLabels.j1 (k + 1) y0 y1 y2)) ∧ (∀ y0 y1 y2, LeO (intervalmonlaw06_LexerLabels.l0 k y0 y1 y2) (intervalmonlaw06_LexerLabels.l0 (k + 1) y0 y1 y2)) ∧ (∀ y0 y1 y2 y3 y4, LeO (intervalmonlaw06_LexerLabels.j3 k y0 y1 y2 y3 y4) (intervalmonlaw06_LexerLabels.j3 (k + 1) y0 y1 y2 y3 y4))
  | 0 => ⟨fun _ _ _ r h => by simp [intervalmonlaw06_LexerLabels.j0] at h, fun _ _ _ r h => by simp [intervalmonlaw06_LexerLabels.j1] at h, fun _ _ _ r h => by simp [intervalmonlaw06_LexerLabels.l0] at h, fun _ _ _ _ _ r h => by simp [intervalmonlaw06_LexerLabels.j3] at h⟩
  | k + 1 => by
    obtain ⟨ih0, ih1, ih2, ih3⟩ := intervalmonlaw06_LexerLabels.mono_l k
    refine ⟨?_, ?_, ?_, ?_⟩
    · intro y0 y1 y2
      unfold intervalmonlaw06_LexerLabels.j0
      repeat' first
      | (with_reducible exact ih0 _ _ _)
      | (with_reducible exact ih1 _ _ _)
      | (with_reducible exact ih2 _ _ _)
      | (with_reducible exact ih3 _ _ _ _ _)
      | (with_reducible exact intervalmonlaw06_lives.mono _)
      | (with_reducible exact intervalmonref05_Set.mono _ _)
      | (with_reducible exact lexer_Tokens.mono _ _)
      | (with_reducible exact LeO.refl _)
      | (with_reducible exact LeO.none _)
      | (with_reducible refine LeO.ite ?_ ?_)
      | (with_reducible refine LeO.bind ?_ (fun _ => ?_))
      | exact ih0 _ _ _
      | exact ih1 _ _ _
      | exact ih2 _ _ _
      | exact ih3 _ _ _ _ _
      | exact intervalmonlaw06_lives.mono _
      | exact intervalmonref05_Set.mono _ _
      | exact lexer_Tokens.mono _ _
      | exact LeO.none _
      | refine LeO.ite ?_ ?_
      | refine LeO.bind ?_ (fun _ => ?_)
    · intro y0 y1 y2
      unfold intervalmonlaw06_LexerLabels.j1
      repeat' first
      | (with_reducible exact ih0 _ _ _)
      | (with_reducible exact ih1 _ _ _)
      | (with_reducible exact ih2 _ _ _)
      | (with_reducible exact ih3 _ _ _ _ _)
      | (with_reducible exact intervalmonlaw06_lives.mono _)
      | (with_reducible exact intervalmonref05_Set.mono _ _)
      | (with_reducible exact lexer_Tokens.mono _ _)
      | (with_reducible exact LeO.refl _)
      | (with_reducible exact LeO.none _)
      | (with_reducible refine LeO.ite ?_ ?_)
      | (with_reducible refine LeO.bind ?_ (fun _ => ?_))
      | exact ih0 _ _ _
      | exact ih1 _ _ _
      | exact ih2 _ _ _
      | exact ih3 _ _ _ _ _
      | exact intervalmonlaw06_lives.mono _
      | exact intervalmonref05_Set.mono _ _
      | exact lexer_Tokens.mono _ _
      | exact LeO.none _
      | refine LeO.ite ?_ ?_
      | refine LeO.bind ?_ (fun _ => ?_)
    · intro y0 y1 y2
      unfold intervalmonlaw06_LexerLabels.l0
      repeat' first
      | (with_reducible exact ih0 _ _ _)
      | (with_reducible exact ih1 _ _ _)
      | (with_reducible exact ih2 _ _ _)
      | (with_reducible exact ih3 _ _ _ _ _)
      | (with_reducible exact intervalmonlaw06_lives.mono _)
      | (with_reducible exact intervalmonref05_Set.mono _ _)
      | (with_reducible exact lexer_Tokens.mono _ _)
      | (with_reducible exact LeO.refl _)
      | (with_reducible exact LeO.none _)
      | (with_reducible refine LeO.ite ?_ ?_)
      | (with_reducible refine LeO.bind ?_ (fun _ => ?_))
      | exact ih0 _ _ _
      | exact ih1 _ _ _
      | exact ih2 _ _ _
      | exact ih3 _ _ _ _ _
      | exact intervalmonlaw06_lives.mono _
      | exact intervalmonref05_Set.mono _ _
      | exact lexer_Tokens.mono _ _
      | exact LeO.none _
      | refine LeO.ite ?_ ?_
      | refine LeO.bind ?_ (fun _ => ?_)
    · intro y0 y1 y2 y3 y4
      unfold intervalmonlaw06_LexerLabels.j3
      repeat' first
      | (with_reducible exact ih0 _ _ _)
      | (with_reducible exact ih1 _ _ _)
      | (with_reducible exact ih2 _ _ _)
      | (with_reducible exact ih3 _ _ _ _ _)
      | (with_reducible exact intervalmonlaw06_lives.mono _)
      | (with_reducible exact intervalmonref05_Set.mono _ _)
      | (with_reducible exact lexer_Tokens.mono _ _)
      | (with_reducible exact LeO.refl _)
      | (with_reducible exact LeO.none _)
      | (with_reducible refine LeO.ite ?_ ?_)
      | (with_reducible refine LeO.bind ?_ (fun _ => ?_))
      | exact ih0 _ _ _
      | exact ih1 _ _ _
      | exact ih2 _ _ _
      | exact ih3 _ _ _ _ _
      | exact intervalmonlaw06_lives.mono _
      | exact intervalmonref05_Set.mono _ _
      | exact lexer_Tokens.mono _ _
      | exact LeO.none _
      | refine LeO.ite ?_ ?_
      | refine LeO.bind ?_ (fun _ => ?_)
theorem intervalmonlaw06_LexerLabels.mono : ∀ a0 k, LeO (intervalmonlaw06_LexerLabels.f k a0) (intervalmonlaw06_LexerLabels.f (k + 1) a0) := by
  intro a0 k
  obtain ⟨ih0, ih1, ih2, ih3⟩ := intervalmonlaw06_LexerLabels.mono_l k
  unfold intervalmonlaw06_LexerLabels.f
  repeat' first
      | (with_reducible exact ih0 _ _ _)
      | (with_reducible exact ih1 _ _ _)
      | (with_reducible exact ih2 _ _ _)
      | (with_reducible exact ih3 _ _ _ _ _)
      | (with_reducible exact intervalmonlaw06_lives.mono _)
      | (with_reducible exact intervalmonref05_Set.mono _ _)
      | (with_reducible exact lexer_Tokens.mono _ _)
      | (with_reducible exact LeO.refl _)
      | (with_reducible exact LeO.none _)
      | (with_reducible refine LeO.ite ?_ ?_)
      | (with_reducible refine LeO.bind ?_ (fun _ => ?_))
      | exact ih0 _ _ _
      | exact ih1 _ _ _
      | exact ih2 _ _ _
      | exact ih3 _ _ _ _ _
      | exact intervalmonlaw06_lives.mono _
      | exact intervalmonref05_Set.mono _ _
      | exact lexer_Tokens.mono _ _
      | exact LeO.none _
      | refine LeO.ite ?_ ?_
      | refine LeO.bind ?_ (fun _ => ?_)
set_option maxHeartbeats 8000000 in
set_option maxRecDepth 100000 in
theorem intervalmonlaw06_LexerLabels.calls (k : Nat) (A0 : Option Addr) (c0 : Nat) (l0 : List Int) (r : Bool) (w : World) (hr0 : Kd.C (Kd.int .i64) w A0 l0.length l0) (hc0 : l0.length ≤ c0) (h : intervalmonlaw06_LexerLabels.f k l0 = some r) :
    Calls Tryd.prog 9 #[.slice A0 l0.length c0] w fun e w' => e = .returned (.bool r) ∧ Below w.heap.size w w' := by
  have HR0 := Aside0.mk hr0
  have HC0 := Aside0.mk hc0
  clear hr0 hc0
  have HB := Aside0.mk (Below.refl w.heap.size w)
  have H : ((intervalmonref05_Set.f k l0).bind fun t382 => ((labels_Text.f t382).bind fun t385 => ((lexer_Tokens.f k t385).bind fun bt386 => (if bt386.2.2 = 0 then (intervalmonlaw06_LexerLabels.j0 k t382 bt386.1 ((bt386.1.length : Int) != (wrap64 ((wrap64 (2 + (wrap64 (4 * (t382.length : Int))))) - (mn (t382.length : Int) 1))))) else (intervalmonlaw06_LexerLabels.j0 k t382 bt386.1 true))))) = some r := h
  clear h
  replace H := Option.bind_eq_some_iff.mp H
  obtain ⟨t382, A20, H⟩ := H
  replace H : ((labels_Text.f t382).bind fun t385 => ((lexer_Tokens.f k t385).bind fun bt386 => (if bt386.2.2 = 0 then (intervalmonlaw06_LexerLabels.j0 k t382 bt386.1 ((bt386.1.length : Int) != (wrap64 ((wrap64 (2 + (wrap64 (4 * (t382.length : Int))))) - (mn (t382.length : Int) 1))))) else (intervalmonlaw06_LexerLabels.j0 k t382 bt386.1 true)))) = some r := H
  have A2 := Aside0.mk A20
  clear A20
  replace H := Option.bind_eq_some_iff.mp H
  obtain ⟨t385, A30, H⟩ := H
  replace H : ((lexer_Tokens.f k t385).bind fun bt386 => (if bt386.2.2 = 0 then (intervalmonlaw06_LexerLabels.j0 k t382 bt386.1 ((bt386.1.length : Int) != (wrap64 ((wrap64 (2 + (wrap64 (4 * (t382.length : Int))))) - (mn (t382.length : Int) 1))))) else (intervalmonlaw06_LexerLabels.j0 k t382 bt386.1 true))) = some r := H
  have A3 := Aside0.mk A30
  clear A30
  replace H := Option.bind_eq_some_iff.mp H
  obtain ⟨⟨t386, t387, t388⟩, A40, H⟩ := H
  replace H : (if t388 = 0 then (intervalmonlaw06_LexerLabels.j0 k t382 t386 ((t386.length : Int) != (wrap64 ((wrap64 (2 + (wrap64 (4 * (t382.length : Int))))) - (mn (t382.length : Int) 1))))) else (intervalmonlaw06_LexerLabels.j0 k t382 t386 true)) = some r := H
  have A4 := Aside0.mk A40
  clear A40
  have HC5 := Aside0.mk H
  clear H
  go_enter Tryd.func9, Tryd.ntmps9
  go_upto_region 3 with (first | (go_at_call 23; (with_reducible refine (intervalmonref05_Set.calls k _ _ l0 t382 _ ?side1 ?side2 A2.out).mono ?_); (case side1 => repeat (first | exact HR0.out | (with_reducible refine Kd.C_alloc ?_ _) | (with_reducible refine Kd.C_drewN ?_ _) | (with_reducible refine Kd.C_drew ?_))); (case side2 => exact HC0.out); rintro e w6 ⟨v383, rfl, ho0, hb⟩; have n0_ := Aside0.mk (Kd.R_lower ho0 (below_size (by repeat (first | (with_reducible first | exact HB.out | apply below_alloc | apply pw_below_drewN | apply below_drew1) | exact HB.out)))); have n1_ := Aside0.mk (below_step (by repeat (first | (with_reducible first | exact HB.out | apply below_alloc | apply pw_below_drewN | apply below_drew1) | exact HB.out)) hb); clear HB; have HO384 := n0_; have HB := n1_; clear n0_ n1_; (try clear hb); (try clear hb2); (try clear hk); (try clear hi); (try clear ho0); obtain ⟨Ao7, co7, eo7⟩ := Kd.R_slice HO384.out; subst eo7) | (go_at_call 24; (with_reducible refine (labels_Text.calls _ _ t382 t385 _ ?side1 ?side2 A3.out).mono ?_); (case side1 => repeat (first | exact (Kd.R_reads' HO384.out).2.2 | (with_reducible refine Kd.C_alloc ?_ _) | (with_reducible refine Kd.C_drewN ?_ _) | (with_reducible refine Kd.C_drew ?_))); (case side2 => exact (Kd.R_reads' HO384.out).2.1); rintro e w8 ⟨rfl, hb⟩; have n0_ := Aside0.mk (Kd.R_below (by (with_reducible repeat (first | apply Kd.R_alloc | apply Kd.R_drewN | apply Kd.R_drew)); exact HO384.out) hb); have n1_ := Aside0.mk (below_step (by repeat (first | (with_reducible first | exact HB.out | apply below_alloc | apply pw_below_drewN | apply below_drew1) | exact HB.out)) hb); clear HO384; clear HB; have HO384 := n0_; have HB := n1_; clear n0_ n1_; (try clear hb); (try clear hb2); (try clear hk); (try clear hi)) | (go_at_call 20; (with_reducible refine (lexer_Tokens.calls k t385 t386 t387 t388 _ A4.out).mono ?_); rintro e w9 ⟨v389, rfl, ho0, hb⟩; have n0_ := Aside0.mk (Kd.R_below (by (with_reducible repeat (first | apply Kd.R_alloc | apply Kd.R_drewN | apply Kd.R_drew)); exact HO384.out) hb); have n1_ := Aside0.mk (Kd.R_lower ho0 (below_size (by repeat (first | (with_reducible first | exact HB.out | apply below_alloc | apply pw_below_drewN | apply below_drew1) | exact HB.out)))); have n2_ := Aside0.mk (below_step (by repeat (first | (with_reducible first | exact HB.out | apply below_alloc | apply pw_below_drewN | apply below_drew1) | exact HB.out)) hb); clear HO384; clear HB; have HO384 := n0_; have HO390 := n1_; have HB := n2_; clear n0_ n1_ n2_; (try clear hb); (try clear hb2); (try clear hk); (try clear hi); (try clear ho0)))
  repeat (go_quiet (first | (go_at_call 23; (with_reducible refine (intervalmonref05_Set.calls k _ _ l0 t382 _ ?side1 ?side2 A2.out).mono ?_); (case side1 => repeat (first | exact HR0.out | (with_reducible refine Kd.C_alloc ?_ _) | (with_reducible refine Kd.C_drewN ?_ _) | (with_reducible refine Kd.C_drew ?_))); (case side2 => exact HC0.out); rintro e w6 ⟨v383, rfl, ho0, hb⟩; have n0_ := Aside0.mk (Kd.R_lower ho0 (below_size (by repeat (first | (with_reducible first | exact HB.out | apply below_alloc | apply pw_below_drewN | apply below_drew1) | exact HB.out)))); have n1_ := Aside0.mk (below_step (by repeat (first | (with_reducible first | exact HB.out | apply below_alloc | apply pw_below_drewN | apply below_drew1) | exact HB.out)) hb); clear HB; have HO384 := n0_; have HB := n1_; clear n0_ n1_; (try clear hb); (try clear hb2); (try clear hk); (try clear hi); (try clear ho0); obtain ⟨Ao7, co7, eo7⟩ := Kd.R_slice HO384.out; subst eo7) | (go_at_call 24; (with_reducible refine (labels_Text.calls _ _ t382 t385 _ ?side1 ?side2 A3.out).mono ?_); (case side1 => repeat (first | exact (Kd.R_reads' HO384.out).2.2 | (with_reducible refine Kd.C_alloc ?_ _) | (with_reducible refine Kd.C_drewN ?_ _) | (with_reducible refine Kd.C_drew ?_))); (case side2 => exact (Kd.R_reads' HO384.out).2.1); rintro e w8 ⟨rfl, hb⟩; have n0_ := Aside0.mk (Kd.R_below (by (with_reducible repeat (first | apply Kd.R_alloc | apply Kd.R_drewN | apply Kd.R_drew)); exact HO384.out) hb); have n1_ := Aside0.mk (below_step (by repeat (first | (with_reducible first | exact HB.out | apply below_alloc | apply pw_below_drewN | apply below_drew1) | exact HB.out)) hb); clear HO384; clear HB; have HO384 := n0_; have HB := n1_; clear n0_ n1_; (try clear hb); (try clear hb2); (try clear hk); (try clear hi)) | (go_at_call 20; (with_reducible refine (lexer_Tokens.calls k t385 t386 t387 t388 _ A4.out).mono ?_); rintro e w9 ⟨v389, rfl, ho0, hb⟩; have n0_ := Aside0.mk (Kd.R_below (by (with_reducible repeat (first | apply Kd.R_alloc | apply Kd.R_drewN | apply Kd.R_drew)); exact HO384.out) hb); have n1_ := Aside0.mk (Kd.R_lower ho0 (below_size (by repeat (first | (with_reducible first | exact HB.out | apply below_alloc | apply pw_below_drewN | apply below_drew1) | exact HB.out)))); have n2_ := Aside0.mk (below_step (by repeat (first | (with_reducible first | exact HB.out | apply below_alloc | apply pw_below_drewN | apply below_drew1) | exact HB.out)) hb); clear HO384; clear HB; have HO384 := n0_; have HO390 := n1_; have HB := n2_; clear n0_ n1_ n2_; (try clear hb); (try clear hb2); (try clear hk); (try clear hi); (try clear ho0))); go_upto_region 3 with (first | (go_at_call 23; (with_reducible refine (intervalmonref05_Set.calls k _ _ l0 t382 _ ?side1 ?side2 A2.out).mono ?_); (case side1 => repeat (first | exact HR0.out | (with_reducible refine Kd.C_alloc ?_ _) | (with_reducible refine Kd.C_drewN ?_ _) | (with_reducible refine Kd.C_drew ?_))); (case side2 => exact HC0.out); rintro e w6 ⟨v383, rfl, ho0, hb⟩; have n0_ := Aside0.mk (Kd.R_lower ho0 (below_size (by repeat (first | (with_reducible first | exact HB.out | apply below_alloc | apply pw_below_drewN | apply below_drew1) | exact HB.out)))); have n1_ := Aside0.mk (below_step (by repeat (first | (with_reducible first | exact HB.out | apply below_alloc | apply pw_below_drewN | apply below_drew1) | exact HB.out)) hb); clear HB; have HO384 := n0_; have HB := n1_; clear n0_ n1_; (try clear hb); (try clear hb2); (try clear hk); (try clear hi); (try clear ho0); obtain ⟨Ao7, co7, eo7⟩ := Kd.R_slice HO384.out; subst eo7) | (go_at_call 24; (with_reducible refine (labels_Text.calls _ _ t382 t385 _ ?side1 ?side2 A3.out).mono ?_); (case side1 => repeat (first | exact (Kd.R_reads' HO384.out).2.2 | (with_reducible refine Kd.C_alloc ?_ _) | (with_reducible refine Kd.C_drewN ?_ _) | (with_reducible refine Kd.C_drew ?_))); (case side2 => exact (Kd.R_reads' HO384.out).2.1); rintro e w8 ⟨rfl, hb⟩; have n0_ := Aside0.mk (Kd.R_below (by (with_reducible repeat (first | apply Kd.R_alloc | apply Kd.R_drewN | apply Kd.R_drew)); exact HO384.out) hb); have n1_ := Aside0.mk (below_step (by repeat (first | (with_reducible first | exact HB.out | apply below_alloc | apply pw_below_drewN | apply below_drew1) | exact HB.out)) hb); clear HO384; clear HB; have HO384 := n0_; have HB := n1_; clear n0_ n1_; (try clear hb); (try clear hb2); (try clear hk); (try clear hi)) | (go_at_call 20; (with_reducible refine (lexer_Tokens.calls k t385 t386 t387 t388 _ A4.out).mono ?_); rintro e w9 ⟨v389, rfl, ho0, hb⟩; have n0_ := Aside0.mk (Kd.R_below (by (with_reducible repeat (first | apply Kd.R_alloc | apply Kd.R_drewN | apply Kd.R_drew)); exact HO384.out) hb); have n1_ := Aside0.mk (Kd.R_lower ho0 (below_size (by repeat (first | (with_reducible first | exact HB.out | apply below_alloc | apply pw_below_drewN | apply below_drew1) | exact HB.out)))); have n2_ := Aside0.mk (below_step (by repeat (first | (with_reducible first | exact HB.out | apply below_alloc | apply pw_below_drewN | apply below_drew1) | exact HB.out)) hb); clear HO384; clear HB; have HO384 := n0_; have HO390 := n1_; have HB := n2_; clear n0_ n1_ n2_; (try clear hb); (try clear hb2); (try clear hk); (try clear hi); (try clear ho0))))
  (try simp only [Act.put, List.setIfInBounds_toArray, List.set_cons_zero, List.set_cons_succ])
  go_cut [32] (fun v32 wc => ∃ (kq : Nat) (x32_4 : Bool), v32 = .bool x32_4 ∧ Aside0 (intervalmonlaw06_LexerLabels.j0 kq t382 t386 x32_4 = some r) ∧ Aside0 (kq ≤ k) ∧ Aside0 (Kd.R k43 43 wc w.heap.size (fun _ => True) (.slice Ao7 t382.length co7) t382) ∧ Aside0 (Kd.R k37 37 wc w.heap.size (fun _ => True) v389 t386) ∧ Aside0 (Below w.heap.size w wc))
  case first =>
    have H := HC5.out
    clear HC5
    by_cases c10 : t388 = 0
    · rw [if_pos c10] at H
      have c10b0 : (t388 == 0) = true := beq_iff_eq.mpr c10
      have c10b1 : (t388 != 0) = false := bne_eq_false_iff_eq.mpr c10
      clear c10
      (first | rw [c10b0] | (simp only [i64_w, i32_w]; rw [c10b0]) | skip)
      obtain ⟨ji11, hji11⟩ : ∃ j_ : Int, (mn (t382.length : Int) 1) = j_ := ⟨_, rfl⟩
      replace H : (intervalmonlaw06_LexerLabels.j0 k t382 t386 ((t386.length : Int) != (wrap64 ((wrap64 (2 + (wrap64 (4 * (t382.length : Int))))) - (ji11))))) = some r := by first | (rw [hji11] at H; exact H) | (simp only [hji11] at H ⊢; exact H)
      (try (have hji11h : ji11 ≤ 1 := by (rw [← hji11]; unfold mn; (repeat' split) <;> omega)))
      (try (have hji11g : ji11 ≤ 64 := by omega))
      (try (have hji11l : 0 ≤ ji11 := by (rw [← hji11]; unfold mn; (repeat' split) <;> omega)))
      (try (have hji11m : 0 ≤ ji11 := by omega))
      have hji11_ : (if 1 < (t382.length : Int) then 1 else (t382.length : Int)) = ji11 := hji11
      have H' := Aside0.mk H
      clear H
      obtain ⟨Ao12, co12, eo12⟩ := Kd.R_slice HO390.out
      subst eo12
      go_wp2
      repeat (go_quiet (fail); try go_wp2)
      go_meet
      case rel => exact ⟨_, (((t386.length : Int) != (wrap64 ((wrap64 (2 + (wrap64 (4 * (t382.length : Int))))) - (ji11))))), (by first | rfl | (simp; done) | (simp only [← hji11] <;> (first | rfl | simp)) | (simp [*]; done)), (by first | exact H' | (simp only [hji11]; exact H')), ⟨by first | omega | exact Nat.le_refl _⟩, ⟨by (with_reducible repeat (first | apply Kd.R_alloc | apply Kd.R_drewN | apply Kd.R_drew)); exact HO384.out⟩, ⟨by (with_reducible repeat (first | apply Kd.R_alloc | apply Kd.R_drewN | apply Kd.R_drew)); exact HO390.out⟩, ⟨by repeat (first | (with_reducible first | exact HB.out | apply below_alloc | apply pw_below_drewN | apply below_drew1) | exact HB.out)⟩⟩
    · rw [if_neg c10] at H
      have c10b0 : (t388 == 0) = false := beq_eq_false_iff_ne.mpr c10
      have c10b1 : (t388 != 0) = true := bne_iff_ne.mpr c10
      (first | rw [c10b0] | (simp only [i64_w, i32_w]; rw [c10b0]) | skip)
      have H' := Aside0.mk H
      clear H
      go_wp2
      repeat (go_quiet (fail); try go_wp2)
      go_meet
      case rel => exact ⟨_, (true), (by first | rfl | (simp; done) | (simp only [z1, z2, Aid.size_lit, List.length_cons, List.length_nil, Nat.reduceAdd, Int.cast_ofNat_Int, z6, z7]; done) | (simp [*]; done)), H', ⟨by first | omega | exact Nat.le_refl _⟩, ⟨by (with_reducible repeat (first | apply Kd.R_alloc | apply Kd.R_drewN | apply Kd.R_drew)); exact HO384.out⟩, ⟨by (with_reducible repeat (first | apply Kd.R_alloc | apply Kd.R_drewN | apply Kd.R_drew)); exact HO390.out⟩, ⟨by repeat (first | (with_reducible first | exact HB.out | apply below_alloc | apply pw_below_drewN | apply below_drew1) | exact HB.out)⟩⟩
  case rest =>
    clear HC5
    try clear c1
    try clear p2
    try clear p6
    try clear c9
    try clear c10
    try clear c10b0
    try clear c10b1
    obtain ⟨kq, x32_4, rfl, HA, HJ4, HO_3, HO_4, HB⟩ := hcut
    cases kq with
    | zero => exact absurd HA.out (by simp [intervalmonlaw06_LexerLabels.j0])
    | succ kj4 =>
      have H := HA.out
      clear HA
      simp only [intervalmonlaw06_LexerLabels.j0] at H
      by_cases c13 : x32_4 = true
      · subst c13
        have H1 : (some false) = some r := by rw [if_pos rfl] at H; exact H
        clear H
        have H := H1
        clear H1
        obtain rfl := Option.some.inj H
        go_wp2
        repeat (go_quiet (fail); try go_wp2)
        go_ret
        exact ⟨by first | rfl | (simp [errW_none, errW_some] <;> rfl) | (simp [*, errW_none, errW_some] <;> rfl), by repeat (first | (with_reducible first | exact HB.out | apply below_alloc | apply pw_below_drewN | apply below_drew1) | exact HB.out)⟩
      · replace c13 := Bool.eq_false_iff.mpr c13
        subst c13
        have H1 : (if 0 < (t386.length : Int) then (if ((rd_T37 t386 0).f1).toList = ([123] : List UInt8) then (if 0 ≤ (wrap64 ((t386.length : Int) - 1)) then (if (wrap64 ((t386.length : Int) - 1)) < (t386.length : Int) then (intervalmonlaw06_LexerLabels.j1 kj4 t382 t386 (((rd_T37 t386 (wrap64 ((t386.length : Int) - 1))).f1).toList != ([125] : List UInt8))) else (none)) else (none)) else (intervalmonlaw06_LexerLabels.j1 kj4 t382 t386 true)) else (none)) = some r := by rw [if_neg (show ¬ (false = true) by decide)] at H; exact H
        clear H
        have H := H1
        clear H1
        have HC14 := Aside0.mk H
        clear H
        go_upto_region 5 with (fail)
        repeat (go_quiet (fail); go_upto_region 5 with (fail))
        go_cut [47] (fun v47 wc => ∃ (kq : Nat) (x47_13 : Bool), v47 = .bool x47_13 ∧ Aside0 (intervalmonlaw06_LexerLabels.j1 kq t382 t386 x47_13 = some r) ∧ Aside0 (kq ≤ kj4) ∧ Aside0 (Kd.R k43 43 wc w.heap.size (fun _ => True) (.slice Ao7 t382.length co7) t382) ∧ Aside0 (Kd.R k37 37 wc w.heap.size (fun _ => True) v389 t386) ∧ Aside0 (Below w.heap.size w wc))
        case first =>
          have H := HC14.out
          clear HC14
          by_cases c15 : 0 < (t386.length : Int)
          · rw [if_pos c15] at H
            have c15b0 : decide (0 < (t386.length : Int)) = true := decide_eq_true c15
            have c15b1 : decide (0 < t386.length) = true := decide_eq_true (by omega)
            clear c15
            (first | rw [c15b0] | (simp only [i64_w, i32_w]; rw [c15b0]) | skip)
            by_cases c16 : ((rd_T37 t386 0).f1).toList = ([123] : List UInt8)
            · rw [if_pos c16] at H
              have c16b0 : (((rd_T37 t386 0).f1).toList == ([123] : List UInt8)) = true := beq_iff_eq.mpr c16
              have c16b1 : (((rd_T37 t386 0).f1).toList != ([123] : List UInt8)) = false := bne_eq_false_iff_eq.mpr c16
              clear c16
              obtain ⟨ji17, hji17⟩ : ∃ j_ : Int, (wrap64 ((t386.length : Int) - 1)) = j_ := ⟨_, rfl⟩
              replace H : (if 0 ≤ (ji17) then (if (ji17) < (t386.length : Int) then (intervalmonlaw06_LexerLabels.j1 kj4 t382 t386 (((rd_T37 t386 (ji17)).f1).toList != ([125] : List UInt8))) else (none)) else (none)) = some r := by first | (rw [hji17] at H; exact H) | (simp only [hji17] at H ⊢; exact H)
              have hji17w : (IntKind.i64.wrap ((t386.length : Int) - 1)) = ji17 := (i64_w _).trans hji17
              by_cases c18 : 0 ≤ (ji17)
              · rw [if_pos c18] at H
                have c18b0 : decide (0 ≤ (ji17)) = true := decide_eq_true c18
                clear c18
                by_cases c19 : (ji17) < (t386.length : Int)
                · rw [if_pos c19] at H
                  have c19b0 : decide ((ji17) < (t386.length : Int)) = true := decide_eq_true c19
                  clear c19
                  have H' := Aside0.mk H
                  clear H
                  obtain ⟨Ao20, co20, eo20⟩ := Kd.R_slice HO_4.out
                  subst eo20
                  have p391 : 0 ≤ (0 : Int) := (by omega)
                  have q391 : 0 < (t386.length : Int) := of_decide_eq_true (by first | (with_reducible assumption) | assumption)
                  obtain ⟨ad391, e391, hx391_0, hx391_1, hx391_2, hx391_3⟩ := at_T37 (Kd.R_reads' HO_4.out).2.2 0 p391 q391
                  cases e391
                  have qi391 : (0 < t386.length) = True := eq_true (by omega)
                  (try rw [show ((0 : Int)).toNat = 0 from rfl] at hx391_0)
                  (try rw [show 0 * 4 = 0 from rfl] at hx391_0)
                  (try rw [Addr.add_zero'] at hx391_0)
                  (try rw [show ((0 : Int)).toNat = 0 from rfl] at hx391_1)
                  (try rw [show 0 * 4 = 0 from rfl] at hx391_1)
                  (try rw [Addr.add_zero'] at hx391_1)
                  (try rw [show ((0 : Int)).toNat = 0 from rfl] at hx391_2)
                  (try rw [show 0 * 4 = 0 from rfl] at hx391_2)
                  (try rw [Addr.add_zero'] at hx391_2)
                  (try rw [show ((0 : Int)).toNat = 0 from rfl] at hx391_3)
                  (try rw [show 0 * 4 = 0 from rfl] at hx391_3)
                  (try rw [Addr.add_zero'] at hx391_3)
                  replace p391 := eq_true p391
                  replace q391 := eq_true q391
                  have p392 : 0 ≤ ((ji17) : Int) := of_decide_eq_true (by first | (with_reducible assumption) | assumption)
                  have q392 : (ji17) < (t386.length : Int) := of_decide_eq_true (by first | (with_reducible assumption) | assumption)
                  obtain ⟨ad392, e392, hx392_0, hx392_1, hx392_2, hx392_3⟩ := at_T37 (Kd.R_reads' HO_4.out).2.2 (ji17) p392 q392
                  obtain rfl : ad391 = ad392 := (by injection e392)
                  replace p392 := eq_true p392
                  replace q392 := eq_true q392
                  go_wp2
                  repeat (go_quiet (fail); try go_wp2)
                  go_meet
                  case rel => exact ⟨_, ((((rd_T37 t386 (ji17)).f1).toList != ([125] : List UInt8))), (by first | rfl | (simp; done) | (simp only [← hji17] <;> (first | rfl | simp)) | (simp [*]; done)), (by first | exact H' | (simp only [hji17]; exact H')), ⟨by have := HJ4.out; first | omega | exact Nat.le_refl _⟩, ⟨by (with_reducible repeat (first | apply Kd.R_alloc | apply Kd.R_drewN | apply Kd.R_drew)); exact HO_3.out⟩, ⟨by (with_reducible repeat (first | apply Kd.R_alloc | apply Kd.R_drewN | apply Kd.R_drew)); exact HO_4.out⟩, ⟨by repeat (first | (with_reducible first | exact HB.out | apply below_alloc | apply pw_below_drewN | apply below_drew1) | exact HB.out)⟩⟩
                · rw [if_neg c19] at H
                  exact absurd H (by simp)
              · rw [if_neg c18] at H
                exact absurd H (by simp)
            · rw [if_neg c16] at H
              have c16b0 : (((rd_T37 t386 0).f1).toList == ([123] : List UInt8)) = false := beq_eq_false_iff_ne.mpr c16
              have c16b1 : (((rd_T37 t386 0).f1).toList != ([123] : List UInt8)) = true := bne_iff_ne.mpr c16
              have H' := Aside0.mk H
              clear H
              obtain ⟨Ao21, co21, eo21⟩ := Kd.R_slice HO_4.out
              subst eo21
              have p391 : 0 ≤ (0 : Int) := (by omega)
              have q391 : 0 < (t386.length : Int) := of_decide_eq_true (by first | (with_reducible assumption) | assumption)
              obtain ⟨ad391, e391, hx391_0, hx391_1, hx391_2, hx391_3⟩ := at_T37 (Kd.R_reads' HO_4.out).2.2 0 p391 q391
              cases e391
              have qi391 : (0 < t386.length) = True := eq_true (by omega)
              (try rw [show ((0 : Int)).toNat = 0 from rfl] at hx391_0)
              (try rw [show 0 * 4 = 0 from rfl] at hx391_0)
              (try rw [Addr.add_zero'] at hx391_0)
              (try rw [show ((0 : Int)).toNat = 0 from rfl] at hx391_1)
              (try rw [show 0 * 4 = 0 from rfl] at hx391_1)
              (try rw [Addr.add_zero'] at hx391_1)
              (try rw [show ((0 : Int)).toNat = 0 from rfl] at hx391_2)
              (try rw [show 0 * 4 = 0 from rfl] at hx391_2)
              (try rw [Addr.add_zero'] at hx391_2)
              (try rw [show ((0 : Int)).toNat = 0 from rfl] at hx391_3)
              (try rw [show 0 * 4 = 0 from rfl] at hx391_3)
              (try rw [Addr.add_zero'] at hx391_3)
              replace p391 := eq_true p391
              replace q391 := eq_true q391
              go_wp2
              repeat (go_quiet (fail); try go_wp2)
              go_meet
              case rel => exact ⟨_, (true), (by first | rfl | (simp; done) | (simp only [z1, z2, Aid.size_lit, List.length_cons, List.length_nil, Nat.reduceAdd, Int.cast_ofNat_Int, z6, z7]; done) | (simp [*]; done)), H', ⟨by have := HJ4.out; first | omega | exact Nat.le_refl _⟩, ⟨by (with_reducible repeat (first | apply Kd.R_alloc | apply Kd.R_drewN | apply Kd.R_drew)); exact HO_3.out⟩, ⟨by (with_reducible repeat (first | apply Kd.R_alloc | apply Kd.R_drewN | apply Kd.R_drew)); exact HO_4.out⟩, ⟨by repeat (first | (with_reducible first | exact HB.out | apply below_alloc | apply pw_below_drewN | apply below_drew1) | exact HB.out)⟩⟩
          · rw [if_neg c15] at H
            exact absurd H (by simp)
        case rest =>
          clear HC14
          try clear c1
          try clear p2
          try clear p3
          try clear q3
          try clear hx3
          try clear qi3
          try clear p6
          try clear c9
          try clear c10
          try clear c10b0
          try clear c10b1
          try clear c13
          try clear c15
          try clear c15b0
          try clear c15b1
          try clear c16
          try clear c16b0
          try clear c16b1
          try clear c18
          try clear c18b0
          try clear c19
          try clear c19b0
          try clear hx391_0
          try clear hx391_1
          try clear hx391_2
          try clear hx391_3
          try clear hx392_0
          try clear hx392_1
          try clear hx392_2
          try clear hx392_3
          try clear p2
          try clear p391
          try clear p392
          try clear p6
          try clear q391
          try clear q392
          obtain ⟨kq, x47_13, rfl, HA, HJ13, HO_3, HO_4, HB⟩ := hcut
          cases kq with
          | zero => exact absurd HA.out (by simp [intervalmonlaw06_LexerLabels.j1])
          | succ kj13 =>
            have H := HA.out
            clear HA
            simp only [intervalmonlaw06_LexerLabels.j1] at H
            by_cases c22 : x47_13 = true
            · subst c22
              have H1 : (some false) = some r := by rw [if_pos rfl] at H; exact H
              clear H
              have H := H1
              clear H1
              obtain rfl := Option.some.inj H
              go_wp2
              repeat (go_quiet (fail); try go_wp2)
              go_ret
              exact ⟨by first | rfl | (simp [errW_none, errW_some] <;> rfl) | (simp [*, errW_none, errW_some] <;> rfl), by repeat (first | (with_reducible first | exact HB.out | apply below_alloc | apply pw_below_drewN | apply below_drew1) | exact HB.out)⟩
            · replace c22 := Bool.eq_false_iff.mpr c22
              subst c22
              have H1 : (intervalmonlaw06_LexerLabels.l0 kj13 t382 t386 0) = some r := by rw [if_neg (show ¬ (false = true) by decide)] at H; exact H
              clear H
              have H := H1
              clear H1
              have H' := Aside0.mk H
              clear H
              go_wp2
              repeat (go_quiet (fail); try go_wp2)
              go_loopg [7] kj13 (fun kq v7 w' => ∃ (x7_3 : Int), v7 = .int .i64 x7_3 ∧ Aside0 (intervalmonlaw06_LexerLabels.l0 kq t382 t386 x7_3 = some r) ∧ Aside0 (kq ≤ kj13) ∧ Aside0 (Kd.R k43 43 w' w.heap.size (fun _ => True) (.slice Ao7 t382.length co7) t382) ∧ Aside0 (Kd.R k37 37 w' w.heap.size (fun _ => True) v389 t386) ∧ Aside0 (Below w.heap.size w w'))
              case atStart => exact ⟨(0), (by first | rfl | (simp; done) | (simp only [z1, z2, Aid.size_lit, List.length_cons, List.length_nil, Nat.reduceAdd, Int.cast_ofNat_Int, z6, z7]; done) | (simp [*]; done)), H', ⟨Nat.le_refl _⟩, ⟨by (with_reducible repeat (first | apply Kd.R_alloc | apply Kd.R_drewN | apply Kd.R_drew)); exact HO_3.out⟩, ⟨by (with_reducible repeat (first | apply Kd.R_alloc | apply Kd.R_drewN | apply Kd.R_drew)); exact HO_4.out⟩, ⟨by repeat (first | (with_reducible first | exact HB.out | apply below_alloc | apply pw_below_drewN | apply below_drew1) | exact HB.out)⟩⟩
              case round =>
                clear H'
                try clear c1
                try clear c2
                try clear p2
                try clear p3
                try clear q3
                try clear hx3
                try clear qi3
                try clear p6
                try clear c9
                try clear c10
                try clear c10b0
                try clear c10b1
                try clear c13
                try clear c15
                try clear c15b0
                try clear c15b1
                try clear c16
                try clear c16b0
                try clear c16b1
                try clear c18
                try clear c18b0
                try clear c19
                try clear c19b0
                try clear c22
                try clear hx391_0
                try clear hx391_1
                try clear hx391_2
                try clear hx391_3
                try clear hx392_0
                try clear hx392_1
                try clear hx392_2
                try clear hx392_3
                try clear p2
                try clear p3
                try clear p391
                try clear p392
                try clear p6
                try clear q3
                try clear q391
                try clear q392
                obtain ⟨x7_3, rfl, HA, HK3, HO_3, HO_4, HB⟩ := hrel
                cases gk with
                | zero => exact absurd HA.out (by simp [intervalmonlaw06_LexerLabels.l0])
                | succ k3 =>
                  have H := HA.out
                  clear HA
                  simp only [intervalmonlaw06_LexerLabels.l0] at H
                  by_cases c23 : x7_3 < (t382.length : Int)
                  · rw [if_pos c23] at H
                    have c23b0 : decide (x7_3 < (t382.length : Int)) = true := decide_eq_true c23
                    clear c23
                    have HC24 := Aside0.mk H
                    clear H
                    go_upto_region 11 with (fail)
                    repeat (go_quiet (fail); go_upto_region 11 with (fail))
                    go_cut [107] (fun v107 wc => ∃ (kq : Nat) (x107_23 : Bool), v107 = .bool x107_23 ∧ Aside0 (intervalmonlaw06_LexerLabels.j3 kq t382 t386 x7_3 (wrap64 (1 + (wrap64 (4 * x7_3)))) x107_23 = some r) ∧ Aside0 (kq ≤ k3) ∧ Aside0 (Kd.R k43 43 wc w.heap.size (fun _ => True) (.slice Ao7 t382.length co7) t382) ∧ Aside0 (Kd.R k37 37 wc w.heap.size (fun _ => True) v389 t386) ∧ Aside0 (Below w.heap.size w wc))
                    case first =>
                      have H := HC24.out
                      clear HC24
                      obtain ⟨ji25, hji25⟩ : ∃ j_ : Int, (wrap64 (1 + (wrap64 (4 * x7_3)))) = j_ := ⟨_, rfl⟩
                      replace H : (if 0 ≤ (ji25) then (if (ji25) < (t386.length : Int) then (if ((rd_T37 t386 (ji25)).f0) = 0 then (if 0 ≤ x7_3 then (if ((rd_T37 t386 (ji25)).f1).toList = ((rd_T43 t382 x7_3).f0).toList then (if 0 ≤ (wrap64 ((ji25) + 1)) then (if (wrap64 ((ji25) + 1)) < (t386.length : Int) then (if ((rd_T37 t386 (wrap64 ((ji25) + 1))).f1).toList = ([61] : List UInt8) then (if 0 ≤ (wrap64 ((ji25) + 2)) then (if (wrap64 ((ji25) + 2)) < (t386.length : Int) then (if ((rd_T37 t386 (wrap64 ((ji25) + 2))).f0) = 2 then (intervalmonlaw06_LexerLabels.j3 k3 t382 t386 x7_3 ji25 (((rd_T37 t386 (wrap64 ((ji25) + 2))).f1).toList != ((rd_T43 t382 x7_3).f1).toList)) else (intervalmonlaw06_LexerLabels.j3 k3 t382 t386 x7_3 ji25 true)) else (none)) else (none)) else (intervalmonlaw06_LexerLabels.j3 k3 t382 t386 x7_3 ji25 true)) else (none)) else (none)) else (intervalmonlaw06_LexerLabels.j3 k3 t382 t386 x7_3 ji25 true)) else (none)) else (intervalmonlaw06_LexerLabels.j3 k3 t382 t386 x7_3 ji25 true)) else (none)) else (none)) = some r := by first | (rw [hji25] at H; exact H) | (simp only [hji25] at H ⊢; exact H)
                      have hji25w : (IntKind.i64.wrap (1 + (wrap64 (4 * x7_3)))) = ji25 := (i64_w _).trans hji25
                      by_cases c26 : 0 ≤ (ji25)
                      · rw [if_pos c26] at H
                        have c26b0 : decide (0 ≤ (ji25)) = true := decide_eq_true c26
                        clear c26
                        (first | rw [c26b0] | (simp only [i64_w, i32_w]; rw [c26b0]) | skip)
                        by_cases c27 : (ji25) < (t386.length : Int)
                        · rw [if_pos c27] at H
                          have c27b0 : decide ((ji25) < (t386.length : Int)) = true := decide_eq_true c27
                          clear c27
                          by_cases c28 : ((rd_T37 t386 (ji25)).f0) = 0
                          · rw [if_pos c28] at H
                            have c28b0 : (((rd_T37 t386 (ji25)).f0) == 0) = true := beq_iff_eq.mpr c28
                            have c28b1 : (((rd_T37 t386 (ji25)).f0) != 0) = false := bne_eq_false_iff_eq.mpr c28
                            clear c28
                            by_cases c29 : 0 ≤ x7_3
                            · rw [if_pos c29] at H
                              have c29b0 : decide (0 ≤ x7_3) = true := decide_eq_true c29
                              clear c29
                              by_cases c30 : ((rd_T37 t386 (ji25)).f1).toList = ((rd_T43 t382 x7_3).f0).toList
                              · rw [if_pos c30] at H
                                have c30b0 : (((rd_T37 t386 (ji25)).f1).toList == ((rd_T43 t382 x7_3).f0).toList) = true := beq_iff_eq.mpr c30
                                have c30b1 : (((rd_T37 t386 (ji25)).f1).toList != ((rd_T43 t382 x7_3).f0).toList) = false := bne_eq_false_iff_eq.mpr c30
                                clear c30
                                obtain ⟨ji31, hji31⟩ : ∃ j_ : Int, (wrap64 ((ji25) + 1)) = j_ := ⟨_, rfl⟩
                                replace H : (if 0 ≤ (ji31) then (if (ji31) < (t386.length : Int) then (if ((rd_T37 t386 (ji31)).f1).toList = ([61] : List UInt8) then (if 0 ≤ (wrap64 ((ji25) + 2)) then (if (wrap64 ((ji25) + 2)) < (t386.length : Int) then (if ((rd_T37 t386 (wrap64 ((ji25) + 2))).f0) = 2 then (intervalmonlaw06_LexerLabels.j3 k3 t382 t386 x7_3 ji25 (((rd_T37 t386 (wrap64 ((ji25) + 2))).f1).toList != ((rd_T43 t382 x7_3).f1).toList)) else (intervalmonlaw06_LexerLabels.j3 k3 t382 t386 x7_3 ji25 true)) else (none)) else (none)) else (intervalmonlaw06_LexerLabels.j3 k3 t382 t386 x7_3 ji25 true)) else (none)) else (none)) = some r := by first | (rw [hji31] at H; exact H) | (simp only [hji31] at H ⊢; exact H)
                                have hji31w : (IntKind.i64.wrap ((ji25) + 1)) = ji31 := (i64_w _).trans hji31
                                by_cases c32 : 0 ≤ (ji31)
                                · rw [if_pos c32] at H
                                  have c32b0 : decide (0 ≤ (ji31)) = true := decide_eq_true c32
                                  clear c32
                                  by_cases c33 : (ji31) < (t386.length : Int)
                                  · rw [if_pos c33] at H
                                    have c33b0 : decide ((ji31) < (t386.length : Int)) = true := decide_eq_true c33
                                    clear c33
                                    by_cases c34 : ((rd_T37 t386 (ji31)).f1).toList = ([61] : List UInt8)
                                    · rw [if_pos c34] at H
                                      have c34b0 : (((rd_T37 t386 (ji31)).f1).toList == ([61] : List UInt8)) = true := beq_iff_eq.mpr c34
                                      have c34b1 : (((rd_T37 t386 (ji31)).f1).toList != ([61] : List UInt8)) = false := bne_eq_false_iff_eq.mpr c34
                                      clear c34
                                      obtain ⟨ji35, hji35⟩ : ∃ j_ : Int, (wrap64 ((ji25) + 2)) = j_ := ⟨_, rfl⟩
                                      replace H : (if 0 ≤ (ji35) then (if (ji35) < (t386.length : Int) then (if ((rd_T37 t386 (ji35)).f0) = 2 then (intervalmonlaw06_LexerLabels.j3 k3 t382 t386 x7_3 ji25 (((rd_T37 t386 (ji35)).f1).toList != ((rd_T43 t382 x7_3).f1).toList)) else (intervalmonlaw06_LexerLabels.j3 k3 t382 t386 x7_3 ji25 true)) else (none)) else (none)) = some r := by first | (rw [hji35] at H; exact H) | (simp only [hji35] at H ⊢; exact H)
                                      have hji35w : (IntKind.i64.wrap ((ji25) + 2)) = ji35 := (i64_w _).trans hji35
                                      by_cases c36 : 0 ≤ (ji35)
                                      · rw [if_pos c36] at H
                                        have c36b0 : decide (0 ≤ (ji35)) = true := decide_eq_true c36
                                        clear c36
                                        by_cases c37 : (ji35) < (t386.length : Int)
                                        · rw [if_pos c37] at H
                                          have c37b0 : decide ((ji35) < (t386.length : Int)) = true := decide_eq_true c37
                                          clear c37
                                          by_cases c38 : ((rd_T37 t386 (ji35)).f0) = 2
                                          · rw [if_pos c38] at H
                                            have c38b0 : (((rd_T37 t386 (ji35)).f0) == 2) = true := beq_iff_eq.mpr c38
                                            have c38b1 : (((rd_T37 t386 (ji35)).f0) != 2) = false := bne_eq_false_iff_eq.mpr c38
                                            clear c38
                                            have H' := Aside0.mk H
                                            clear H
                                            obtain ⟨Ao39, co39, eo39⟩ := Kd.R_slice HO_4.out
                                            subst eo39
                                            have p394 : 0 ≤ ((ji25) : Int) := of_decide_eq_true (by first | (with_reducible assumption) | assumption)
                                            have q394 : (ji25) < (t386.length : Int) := of_decide_eq_true (by first | (with_reducible assumption) | assumption)
                                            obtain ⟨ad394, e394, hx394_0, hx394_1, hx394_2, hx394_3⟩ := at_T37 (Kd.R_reads' HO_4.out).2.2 (ji25) p394 q394
                                            cases e394
                                            replace p394 := eq_true p394
                                            replace q394 := eq_true q394
                                            have p395 : 0 ≤ ((ji25) : Int) := of_decide_eq_true (by first | (with_reducible assumption) | assumption)
                                            have q395 : (ji25) < (t386.length : Int) := of_decide_eq_true (by first | (with_reducible assumption) | assumption)
                                            obtain ⟨ad395, e395, hx395_0, hx395_1, hx395_2, hx395_3⟩ := at_T37 (Kd.R_reads' HO_4.out).2.2 (ji25) p395 q395
                                            obtain rfl : ad394 = ad395 := (by injection e395)
                                            replace p395 := eq_true p395
                                            replace q395 := eq_true q395
                                            have p396 : 0 ≤ (x7_3 : Int) := of_decide_eq_true (by first | (with_reducible assumption) | assumption)
                                            have q396 : x7_3 < (t382.length : Int) := of_decide_eq_true (by first | (with_reducible assumption) | assumption)
                                            obtain ⟨ad396, e396, hx396_0, hx396_1⟩ := at_T43 (Kd.R_reads' HO_3.out).2.2 x7_3 p396 q396
                                            cases e396
                                            replace p396 := eq_true p396
                                            replace q396 := eq_true q396
                                            have p397 : 0 ≤ ((ji31) : Int) := of_decide_eq_true (by first | (with_reducible assumption) | assumption)
                                            have q397 : (ji31) < (t386.length : Int) := of_decide_eq_true (by first | (with_reducible assumption) | assumption)
                                            obtain ⟨ad397, e397, hx397_0, hx397_1, hx397_2, hx397_3⟩ := at_T37 (Kd.R_reads' HO_4.out).2.2 (ji31) p397 q397
                                            obtain rfl : ad394 = ad397 := (by injection e397)
                                            replace p397 := eq_true p397
                                            replace q397 := eq_true q397
                                            have p398 : 0 ≤ ((ji35) : Int) := of_decide_eq_true (by first | (with_reducible assumption) | assumption)
                                            have q398 : (ji35) < (t386.length : Int) := of_decide_eq_true (by first | (with_reducible assumption) | assumption)
                                            obtain ⟨ad398, e398, hx398_0, hx398_1, hx398_2, hx398_3⟩ := at_T37 (Kd.R_reads' HO_4.out).2.2 (ji35) p398 q398
                                            obtain rfl : ad394 = ad398 := (by injection e398)
                                            replace p398 := eq_true p398
                                            replace q398 := eq_true q398
                                            have p399 : 0 ≤ ((ji35) : Int) := of_decide_eq_true (by first | (with_reducible assumption) | assumption)
                                            have q399 : (ji35) < (t386.length : Int) := of_decide_eq_true (by first | (with_reducible assumption) | assumption)
                                            obtain ⟨ad399, e399, hx399_0, hx399_1, hx399_2, hx399_3⟩ := at_T37 (Kd.R_reads' HO_4.out).2.2 (ji35) p399 q399
                                            obtain rfl : ad394 = ad399 := (by injection e399)
                                            replace p399 := eq_true p399
                                            replace q399 := eq_true q399
                                            have p400 : 0 ≤ (x7_3 : Int) := of_decide_eq_true (by first | (with_reducible assumption) | assumption)
                                            have q400 : x7_3 < (t382.length : Int) := of_decide_eq_true (by first | (with_reducible assumption) | assumption)
                                            obtain ⟨ad400, e400, hx400_0, hx400_1⟩ := at_T43 (Kd.R_reads' HO_3.out).2.2 x7_3 p400 q400
                                            obtain rfl : ad396 = ad400 := (by injection e400)
                                            replace p400 := eq_true p400
                                            replace q400 := eq_true q400
                                            go_wp2
                                            repeat (go_quiet (fail); try go_wp2)
                                            (try rw [← hji25])
                                            go_meet
                                            case rel => exact ⟨_, ((((rd_T37 t386 (ji35)).f1).toList != ((rd_T43 t382 x7_3).f1).toList)), (by first | rfl | (simp; done) | (simp only [← hji35] <;> (first | rfl | simp)) | (simp [*]; done)), (by first | exact H' | (simp only [hji25, hji31, hji35]; exact H')), ⟨by have := HJ4.out; have := HJ13.out; have := HK3.out; first | omega | exact Nat.le_refl _⟩, ⟨by (with_reducible repeat (first | apply Kd.R_alloc | apply Kd.R_drewN | apply Kd.R_drew)); exact HO_3.out⟩, ⟨by (with_reducible repeat (first | apply Kd.R_alloc | apply Kd.R_drewN | apply Kd.R_drew)); exact HO_4.out⟩, ⟨by repeat (first | (with_reducible first | exact HB.out | apply below_alloc | apply pw_below_drewN | apply below_drew1) | exact HB.out)⟩⟩
                                          · rw [if_neg c38] at H
                                            have c38b0 : (((rd_T37 t386 (ji35)).f0) == 2) = false := beq_eq_false_iff_ne.mpr c38
                                            have c38b1 : (((rd_T37 t386 (ji35)).f0) != 2) = true := bne_iff_ne.mpr c38
                                            have H' := Aside0.mk H
                                            clear H
                                            obtain ⟨Ao40, co40, eo40⟩ := Kd.R_slice HO_4.out
                                            subst eo40
                                            have p394 : 0 ≤ ((ji25) : Int) := of_decide_eq_true (by first | (with_reducible assumption) | assumption)
                                            have q394 : (ji25) < (t386.length : Int) := of_decide_eq_true (by first | (with_reducible assumption) | assumption)
                                            obtain ⟨ad394, e394, hx394_0, hx394_1, hx394_2, hx394_3⟩ := at_T37 (Kd.R_reads' HO_4.out).2.2 (ji25) p394 q394
                                            cases e394
                                            replace p394 := eq_true p394
                                            replace q394 := eq_true q394
                                            have p395 : 0 ≤ ((ji25) : Int) := of_decide_eq_true (by first | (with_reducible assumption) | assumption)
                                            have q395 : (ji25) < (t386.length : Int) := of_decide_eq_true (by first | (with_reducible assumption) | assumption)
                                            obtain ⟨ad395, e395, hx395_0, hx395_1, hx395_2, hx395_3⟩ := at_T37 (Kd.R_reads' HO_4.out).2.2 (ji25) p395 q395
                                            obtain rfl : ad394 = ad395 := (by injection e395)
                                            replace p395 := eq_true p395
                                            replace q395 := eq_true q395
                                            have p396 : 0 ≤ (x7_3 : Int) := of_decide_eq_true (by first | (with_reducible assumption) | assumption)
                                            have q396 : x7_3 < (t382.length : Int) := of_decide_eq_true (by first | (with_reducible assumption) | assumption)
                                            obtain ⟨ad396, e396, hx396_0, hx396_1⟩ := at_T43 (Kd.R_reads' HO_3.out).2.2 x7_3 p396 q396
                                            cases e396
                                            replace p396 := eq_true p396
                                            replace q396 := eq_true q396
                                            have p397 : 0 ≤ ((ji31) : Int) := of_decide_eq_true (by first | (with_reducible assumption) | assumption)
                                            have q397 : (ji31) < (t386.length : Int) := of_decide_eq_true (by first | (with_reducible assumption) | assumption)
                                            obtain ⟨ad397, e397, hx397_0, hx397_1, hx397_2, hx397_3⟩ := at_T37 (Kd.R_reads' HO_4.out).2.2 (ji31) p397 q397
                                            obtain rfl : ad394 = ad397 := (by injection e397)
                                            replace p397 := eq_true p397
                                            replace q397 := eq_true q397
                                            have p398 : 0 ≤ ((ji35) : Int) := of_decide_eq_true (by first | (with_reducible assumption) | assumption)
                                            have q398 : (ji35) < (t386.length : Int) := of_decide_eq_true (by first | (with_reducible assumption) | assumption)
                                            obtain ⟨ad398, e398, hx398_0, hx398_1, hx398_2, hx398_3⟩ := at_T37 (Kd.R_reads' HO_4.out).2.2 (ji35) p398 q398
                                            obtain rfl : ad394 = ad398 := (by injection e398)
                                            replace p398 := eq_true p398
                                            replace q398 := eq_true q398
                                            go_wp2
                                            repeat (go_quiet (fail); try go_wp2)
                                            (try rw [← hji25])
                                            go_meet
                                            case rel => exact ⟨_, (true), (by first | rfl | (simp; done) | (simp only [z1, z2, Aid.size_lit, List.length_cons, List.length_nil, Nat.reduceAdd, Int.cast_ofNat_Int, z6, z7]; done) | (simp [*]; done)), (by first | exact H' | (simp only [hji25, hji31, hji35]; exact H')), ⟨by have := HJ4.out; have := HJ13.out; have := HK3.out; first | omega | exact Nat.le_refl _⟩, ⟨by (with_reducible repeat (first | apply Kd.R_alloc | apply Kd.R_drewN | apply Kd.R_drew)); exact HO_3.out⟩, ⟨by (with_reducible repeat (first | apply Kd.R_alloc | apply Kd.R_drewN | apply Kd.R_drew)); exact HO_4.out⟩, ⟨by repeat (first | (with_reducible first | exact HB.out | apply below_alloc | apply pw_below_drewN | apply below_drew1) | exact HB.out)⟩⟩
                                        · rw [if_neg c37] at H
                                          exact absurd H (by simp)
                                      · rw [if_neg c36] at H
                                        exact absurd H (by simp)
                                    · rw [if_neg c34] at H
                                      have c34b0 : (((rd_T37 t386 (ji31)).f1).toList == ([61] : List UInt8)) = false := beq_eq_false_iff_ne.mpr c34
                                      have c34b1 : (((rd_T37 t386 (ji31)).f1).toList != ([61] : List UInt8)) = true := bne_iff_ne.mpr c34
                                      have H' := Aside0.mk H
                                      clear H
                                      obtain ⟨Ao41, co41, eo41⟩ := Kd.R_slice HO_4.out
                                      subst eo41
                                      have p394 : 0 ≤ ((ji25) : Int) := of_decide_eq_true (by first | (with_reducible assumption) | assumption)
                                      have q394 : (ji25) < (t386.length : Int) := of_decide_eq_true (by first | (with_reducible assumption) | assumption)
                                      obtain ⟨ad394, e394, hx394_0, hx394_1, hx394_2, hx394_3⟩ := at_T37 (Kd.R_reads' HO_4.out).2.2 (ji25) p394 q394
                                      cases e394
                                      replace p394 := eq_true p394
                                      replace q394 := eq_true q394
                                      have p395 : 0 ≤ ((ji25) : Int) := of_decide_eq_true (by first | (with_reducible assumption) | assumption)
                                      have q395 : (ji25) < (t386.length : Int) := of_decide_eq_true (by first | (with_reducible assumption) | assumption)
                                      obtain ⟨ad395, e395, hx395_0, hx395_1, hx395_2, hx395_3⟩ := at_T37 (Kd.R_reads' HO_4.out).2.2 (ji25) p395 q395
                                      obtain rfl : ad394 = ad395 := (by injection e395)
                                      replace p395 := eq_true p395
                                      replace q395 := eq_true q395
                                      have p396 : 0 ≤ (x7_3 : Int) := of_decide_eq_true (by first | (with_reducible assumption) | assumption)
                                      have q396 : x7_3 < (t382.length : Int) := of_decide_eq_true (by first | (with_reducible assumption) | assumption)
                                      obtain ⟨ad396, e396, hx396_0, hx396_1⟩ := at_T43 (Kd.R_reads' HO_3.out).2.2 x7_3 p396 q396
                                      cases e396
                                      replace p396 := eq_true p396
                                      replace q396 := eq_true q396
                                      have p397 : 0 ≤ ((ji31) : Int) := of_decide_eq_true (by first | (with_reducible assumption) | assumption)
                                      have q397 : (ji31) < (t386.length : Int) := of_decide_eq_true (by first | (with_reducible assumption) | assumption)
                                      obtain ⟨ad397, e397, hx397_0, hx397_1, hx397_2, hx397_3⟩ := at_T37 (Kd.R_reads' HO_4.out).2.2 (ji31) p397 q397
                                      obtain rfl : ad394 = ad397 := (by injection e397)
                                      replace p397 := eq_true p397
                                      replace q397 := eq_true q397
                                      go_wp2
                                      repeat (go_quiet (fail); try go_wp2)
                                      (try rw [← hji25])
                                      go_meet
                                      case rel => exact ⟨_, (true), (by first | rfl | (simp; done) | (simp only [z1, z2, Aid.size_lit, List.length_cons, List.length_nil, Nat.reduceAdd, Int.cast_ofNat_Int, z6, z7]; done) | (simp [*]; done)), (by first | exact H' | (simp only [hji25, hji31]; exact H')), ⟨by have := HJ4.out; have := HJ13.out; have := HK3.out; first | omega | exact Nat.le_refl _⟩, ⟨by (with_reducible repeat (first | apply Kd.R_alloc | apply Kd.R_drewN | apply Kd.R_drew)); exact HO_3.out⟩, ⟨by (with_reducible repeat (first | apply Kd.R_alloc | apply Kd.R_drewN | apply Kd.R_drew)); exact HO_4.out⟩, ⟨by repeat (first | (with_reducible first | exact HB.out | apply below_alloc | apply pw_below_drewN | apply below_drew1) | exact HB.out)⟩⟩
                                  · rw [if_neg c33] at H
                                    exact absurd H (by simp)
                                · rw [if_neg c32] at H
                                  exact absurd H (by simp)
                              · rw [if_neg c30] at H
                                have c30b0 : (((rd_T37 t386 (ji25)).f1).toList == ((rd_T43 t382 x7_3).f0).toList) = false := beq_eq_false_iff_ne.mpr c30
                                have c30b1 : (((rd_T37 t386 (ji25)).f1).toList != ((rd_T43 t382 x7_3).f0).toList) = true := bne_iff_ne.mpr c30
                                have H' := Aside0.mk H
                                clear H
                                obtain ⟨Ao42, co42, eo42⟩ := Kd.R_slice HO_4.out
                                subst eo42
                                have p394 : 0 ≤ ((ji25) : Int) := of_decide_eq_true (by first | (with_reducible assumption) | assumption)
                                have q394 : (ji25) < (t386.length : Int) := of_decide_eq_true (by first | (with_reducible assumption) | assumption)
                                obtain ⟨ad394, e394, hx394_0, hx394_1, hx394_2, hx394_3⟩ := at_T37 (Kd.R_reads' HO_4.out).2.2 (ji25) p394 q394
                                cases e394
                                replace p394 := eq_true p394
                                replace q394 := eq_true q394
                                have p395 : 0 ≤ ((ji25) : Int) := of_decide_eq_true (by first | (with_reducible assumption) | assumption)
                                have q395 : (ji25) < (t386.length : Int) := of_decide_eq_true (by first | (with_reducible assumption) | assumption)
                                obtain ⟨ad395, e395, hx395_0, hx395_1, hx395_2, hx395_3⟩ := at_T37 (Kd.R_reads' HO_4.out).2.2 (ji25) p395 q395
                                obtain rfl : ad394 = ad395 := (by injection e395)
                                replace p395 := eq_true p395
                                replace q395 := eq_true q395
                                have p396 : 0 ≤ (x7_3 : Int) := of_decide_eq_true (by first | (with_reducible assumption) | assumption)
                                have q396 : x7_3 < (t382.length : Int) := of_decide_eq_true (by first | (with_reducible assumption) | assumption)
                                obtain ⟨ad396, e396, hx396_0, hx396_1⟩ := at_T43 (Kd.R_reads' HO_3.out).2.2 x7_3 p396 q396
                                cases e396
                                replace p396 := eq_true p396
                                replace q396 := eq_true q396
                                go_wp2
                                repeat (go_quiet (fail); try go_wp2)
                                (try rw [← hji25])
                                go_meet
                                case rel => exact ⟨_, (true), (by first | rfl | (simp; done) | (simp only [z1, z2, Aid.size_lit, List.length_cons, List.length_nil, Nat.reduceAdd, Int.cast_ofNat_Int, z6, z7]; done) | (simp [*]; done)), (by first | exact H' | (simp only [hji25]; exact H')), ⟨by have := HJ4.out; have := HJ13.out; have := HK3.out; first | omega | exact Nat.le_refl _⟩, ⟨by (with_reducible repeat (first | apply Kd.R_alloc | apply Kd.R_drewN | apply Kd.R_drew)); exact HO_3.out⟩, ⟨by (with_reducible repeat (first | apply Kd.R_alloc | apply Kd.R_drewN | apply Kd.R_drew)); exact HO_4.out⟩, ⟨by repeat (first | (with_reducible first | exact HB.out | apply below_alloc | apply pw_below_drewN | apply below_drew1) | exact HB.out)⟩⟩
                            · rw [if_neg c29] at H
                              exact absurd H (by simp)
                          · rw [if_neg c28] at H
                            have c28b0 : (((rd_T37 t386 (ji25)).f0) == 0) = false := beq_eq_false_iff_ne.mpr c28
                            have c28b1 : (((rd_T37 t386 (ji25)).f0) != 0) = true := bne_iff_ne.mpr c28
                            have H' := Aside0.mk H
                            clear H
                            obtain ⟨Ao43, co43, eo43⟩ := Kd.R_slice HO_4.out
                            subst eo43
                            have p394 : 0 ≤ ((ji25) : Int) := of_decide_eq_true (by first | (with_reducible assumption) | assumption)
                            have q394 : (ji25) < (t386.length : Int) := of_decide_eq_true (by first | (with_reducible assumption) | assumption)
                            obtain ⟨ad394, e394, hx394_0, hx394_1, hx394_2, hx394_3⟩ := at_T37 (Kd.R_reads' HO_4.out).2.2 (ji25) p394 q394
                            cases e394
                            replace p394 := eq_true p394
                            replace q394 := eq_true q394
                            go_wp2
                            repeat (go_quiet (fail); try go_wp2)
                            (try rw [← hji25])
                            go_meet
                            case rel => exact ⟨_, (true), (by first | rfl | (simp; done) | (simp only [z1, z2, Aid.size_lit, List.length_cons, List.length_nil, Nat.reduceAdd, Int.cast_ofNat_Int, z6, z7]; done) | (simp [*]; done)), (by first | exact H' | (simp only [hji25]; exact H')), ⟨by have := HJ4.out; have := HJ13.out; have := HK3.out; first | omega | exact Nat.le_refl _⟩, ⟨by (with_reducible repeat (first | apply Kd.R_alloc | apply Kd.R_drewN | apply Kd.R_drew)); exact HO_3.out⟩, ⟨by (with_reducible repeat (first | apply Kd.R_alloc | apply Kd.R_drewN | apply Kd.R_drew)); exact HO_4.out⟩, ⟨by repeat (first | (with_reducible first | exact HB.out | apply below_alloc | apply pw_below_drewN | apply below_drew1) | exact HB.out)⟩⟩
                        · rw [if_neg c27] at H
                          exact absurd H (by simp)
                      · rw [if_neg c26] at H
                        exact absurd H (by simp)
                    case rest =>
                      clear HC24
                      try clear c1
                      try clear c2
                      try clear p2
                      try clear c3
                      try clear p3
                      try clear q3
                      try clear hx3
                      try clear qi3
                      try clear p4
                      try clear q4
                      try clear hx4
                      try clear p6
                      try clear c9
                      try clear c10
                      try clear c10b0
                      try clear c10b1
                      try clear c13
                      try clear c15
                      try clear c15b0
                      try clear c15b1
                      try clear c16
                      try clear c16b0
                      try clear c16b1
                      try clear c18
                      try clear c18b0
                      try clear c19
                      try clear c19b0
                      try clear c22
                      try clear c23
                      try clear c23b0
                      try clear c26
                      try clear c26b0
                      try clear c27
                      try clear c27b0
                      try clear c28
                      try clear c28b0
                      try clear c28b1
                      try clear c29
                      try clear c29b0
                      try clear c30
                      try clear c30b0
                      try clear c30b1
                      try clear c32
                      try clear c32b0
                      try clear c33
                      try clear c33b0
                      try clear c34
                      try clear c34b0
                      try clear c34b1
                      try clear c36
                      try clear c36b0
                      try clear c37
                      try clear c37b0
                      try clear c38
                      try clear c38b0
                      try clear c38b1
                      try clear p39
                      try clear q39
                      try clear hx39
                      try clear qi39
                      try clear p40
                      try clear q40
                      try clear hx40
                      try clear hx391_0
                      try clear hx391_1
                      try clear hx391_2
                      try clear hx391_3
                      try clear hx392_0
                      try clear hx392_1
                      try clear hx392_2
                      try clear hx392_3
                      try clear hx394_0
                      try clear hx394_1
                      try clear hx394_2
                      try clear hx394_3
                      try clear hx395_0
                      try clear hx395_1
                      try clear hx395_2
                      try clear hx395_3
                      try clear hx396_0
                      try clear hx396_1
                      try clear hx397_0
                      try clear hx397_1
                      try clear hx397_2
                      try clear hx397_3
                      try clear hx398_0
                      try clear hx398_1
                      try clear hx398_2
                      try clear hx398_3
                      try clear hx399_0
                      try clear hx399_1
                      try clear hx399_2
                      try clear hx399_3
                      try clear hx400_0
                      try clear hx400_1
                      try clear p2
                      try clear p3
                      try clear p391
                      try clear p392
                      try clear p394
                      try clear p395
                      try clear p396
                      try clear p397
                      try clear p398
                      try clear p399
                      try clear p400
                      try clear p6
                      try clear q3
                      try clear q391
                      try clear q392
                      try clear q394
                      try clear q395
                      try clear q396
                      try clear q397
                      try clear q398
                      try clear q399
                      try clear q400
                      obtain ⟨kq, x107_23, rfl, HA, HJ23, HO_3, HO_4, HB⟩ := hcut
                      cases kq with
                      | zero => exact absurd HA.out (by simp [intervalmonlaw06_LexerLabels.j3])
                      | succ kj23 =>
                        have H := HA.out
                        clear HA
                        simp only [intervalmonlaw06_LexerLabels.j3] at H
                        by_cases c44 : x107_23 = true
                        · subst c44
                          have H1 : (some false) = some r := by rw [if_pos rfl] at H; exact H
                          clear H
                          have H := H1
                          clear H1
                          obtain rfl := Option.some.inj H
                          go_wp2
                          repeat (go_quiet (fail); try go_wp2)
                          go_ret
                          exact ⟨by first | rfl | (simp [errW_none, errW_some] <;> rfl) | (simp [*, errW_none, errW_some] <;> rfl), by repeat (first | (with_reducible first | exact HB.out | apply below_alloc | apply pw_below_drewN | apply below_drew1) | exact HB.out)⟩
                        · replace c44 := Bool.eq_false_iff.mpr c44
                          subst c44
                          have H1 : (if (wrap64 (x7_3 + 1)) < (t382.length : Int) then (if 0 ≤ (wrap64 ((wrap64 (1 + (wrap64 (4 * x7_3)))) + 3)) then (if (wrap64 ((wrap64 (1 + (wrap64 (4 * x7_3)))) + 3)) < (t386.length : Int) then (if ((rd_T37 t386 (wrap64 ((wrap64 (1 + (wrap64 (4 * x7_3)))) + 3))).f1).toList = ([44] : List UInt8) then (intervalmonlaw06_LexerLabels.l0 kj23 t382 t386 (wrap64 (x7_3 + 1))) else (some false)) else (none)) else (none)) else (intervalmonlaw06_LexerLabels.l0 kj23 t382 t386 (wrap64 (x7_3 + 1)))) = some r := by rw [if_neg (show ¬ (false = true) by decide)] at H; exact H
                          clear H
                          have H := H1
                          clear H1
                          by_cases c45 : (wrap64 (x7_3 + 1)) < (t382.length : Int)
                          · rw [if_pos c45] at H
                            have c45b0 : decide ((wrap64 (x7_3 + 1)) < (t382.length : Int)) = true := decide_eq_true c45
                            clear c45
                            obtain ⟨ji46, hji46⟩ : ∃ j_ : Int, (wrap64 ((wrap64 (1 + (wrap64 (4 * x7_3)))) + 3)) = j_ := ⟨_, rfl⟩
                            replace H : (if 0 ≤ (ji46) then (if (ji46) < (t386.length : Int) then (if ((rd_T37 t386 (ji46)).f1).toList = ([44] : List UInt8) then (intervalmonlaw06_LexerLabels.l0 kj23 t382 t386 (wrap64 (x7_3 + 1))) else (some false)) else (none)) else (none)) = some r := by first | (rw [hji46] at H; exact H) | (simp only [hji46] at H ⊢; exact H)
                            have hji46w : (IntKind.i64.wrap ((wrap64 (1 + (wrap64 (4 * x7_3)))) + 3)) = ji46 := (i64_w _).trans hji46
                            by_cases c47 : 0 ≤ (ji46)
                            · rw [if_pos c47] at H
                              have c47b0 : decide (0 ≤ (ji46)) = true := decide_eq_true c47
                              clear c47
                              by_cases c48 : (ji46) < (t386.length : Int)
                              · rw [if_pos c48] at H
                                have c48b0 : decide ((ji46) < (t386.length : Int)) = true := decide_eq_true c48
                                clear c48
                                by_cases c49 : ((rd_T37 t386 (ji46)).f1).toList = ([44] : List UInt8)
                                · rw [if_pos c49] at H
                                  have c49b0 : (((rd_T37 t386 (ji46)).f1).toList == ([44] : List UInt8)) = true := beq_iff_eq.mpr c49
                                  have c49b1 : (((rd_T37 t386 (ji46)).f1).toList != ([44] : List UInt8)) = false := bne_eq_false_iff_eq.mpr c49
                                  clear c49
                                  have H' := Aside0.mk H
                                  clear H
                                  obtain ⟨Ao50, co50, eo50⟩ := Kd.R_slice HO_4.out
                                  subst eo50
                                  have p401 : 0 ≤ ((ji46) : Int) := of_decide_eq_true (by first | (with_reducible assumption) | assumption)
                                  have q401 : (ji46) < (t386.length : Int) := of_decide_eq_true (by first | (with_reducible assumption) | assumption)
                                  obtain ⟨ad401, e401, hx401_0, hx401_1, hx401_2, hx401_3⟩ := at_T37 (Kd.R_reads' HO_4.out).2.2 (ji46) p401 q401
                                  cases e401
                                  replace p401 := eq_true p401
                                  replace q401 := eq_true q401
                                  go_wp2
                                  repeat (go_quiet (fail); try go_wp2)
                                  go_roundg kj23
                                  case measure => have := HJ4.out; have := HJ13.out; have := HK3.out; have := HJ23.out; omega
                                  case rel => exact ⟨(wrap64 (x7_3 + 1)), (by first | rfl | (simp; done) | (simp only [z1, z2, Aid.size_lit, List.length_cons, List.length_nil, Nat.reduceAdd, Int.cast_ofNat_Int, z6, z7]; done) | (simp [*]; done)), (by first | exact H' | (simp only [hji46]; exact H')), ⟨by have := HJ4.out; have := HJ13.out; have := HK3.out; have := HJ23.out; omega⟩, ⟨by (with_reducible repeat (first | apply Kd.R_alloc | apply Kd.R_drewN | apply Kd.R_drew)); exact HO_3.out⟩, ⟨by (with_reducible repeat (first | apply Kd.R_alloc | apply Kd.R_drewN | apply Kd.R_drew)); exact HO_4.out⟩, ⟨by repeat (first | (with_reducible first | exact HB.out | apply below_alloc | apply pw_below_drewN | apply below_drew1) | exact HB.out)⟩⟩
                                · rw [if_neg c49] at H
                                  have c49b0 : (((rd_T37 t386 (ji46)).f1).toList == ([44] : List UInt8)) = false := beq_eq_false_iff_ne.mpr c49
                                  have c49b1 : (((rd_T37 t386 (ji46)).f1).toList != ([44] : List UInt8)) = true := bne_iff_ne.mpr c49
                                  obtain rfl := Option.some.inj H
                                  obtain ⟨Ao51, co51, eo51⟩ := Kd.R_slice HO_4.out
                                  subst eo51
                                  have p401 : 0 ≤ ((ji46) : Int) := of_decide_eq_true (by first | (with_reducible assumption) | assumption)
                                  have q401 : (ji46) < (t386.length : Int) := of_decide_eq_true (by first | (with_reducible assumption) | assumption)
                                  obtain ⟨ad401, e401, hx401_0, hx401_1, hx401_2, hx401_3⟩ := at_T37 (Kd.R_reads' HO_4.out).2.2 (ji46) p401 q401
                                  cases e401
                                  replace p401 := eq_true p401
                                  replace q401 := eq_true q401
                                  go_wp2
                                  repeat (go_quiet (fail); try go_wp2)
                                  go_ret
                                  exact ⟨by first | rfl | (simp [errW_none, errW_some] <;> rfl) | (simp only [← hji46]; first | rfl | (simp [errW_none, errW_some] <;> rfl)) | (simp [*, errW_none, errW_some] <;> rfl), by repeat (first | (with_reducible first | exact HB.out | apply below_alloc | apply pw_below_drewN | apply below_drew1) | exact HB.out)⟩
                              · rw [if_neg c48] at H
                                exact absurd H (by simp)
                            · rw [if_neg c47] at H
                              exact absurd H (by simp)
                          · rw [if_neg c45] at H
                            have c45b0 : decide ((wrap64 (x7_3 + 1)) < (t382.length : Int)) = false := decide_eq_false c45
                            clear c45
                            have H' := Aside0.mk H
                            clear H
                            go_wp2
                            repeat (go_quiet (fail); try go_wp2)
                            go_roundg kj23
                            case measure => have := HJ4.out; have := HJ13.out; have := HK3.out; have := HJ23.out; omega
                            case rel => exact ⟨(wrap64 (x7_3 + 1)), (by first | rfl | (simp; done) | (simp only [z1, z2, Aid.size_lit, List.length_cons, List.length_nil, Nat.reduceAdd, Int.cast_ofNat_Int, z6, z7]; done) | (simp [*]; done)), H', ⟨by have := HJ4.out; have := HJ13.out; have := HK3.out; have := HJ23.out; omega⟩, ⟨by (with_reducible repeat (first | apply Kd.R_alloc | apply Kd.R_drewN | apply Kd.R_drew)); exact HO_3.out⟩, ⟨by (with_reducible repeat (first | apply Kd.R_alloc | apply Kd.R_drewN | apply Kd.R_drew)); exact HO_4.out⟩, ⟨by repeat (first | (with_reducible first | exact HB.out | apply below_alloc | apply pw_below_drewN | apply below_drew1) | exact HB.out)⟩⟩
                  · rw [if_neg c23] at H
                    have c23b0 : decide (x7_3 < (t382.length : Int)) = false := decide_eq_false c23
                    clear c23
                    replace H := Option.bind_eq_some_iff.mp H
                    obtain ⟨t393, A520, H⟩ := H
                    replace H : (some t393) = some r := H
                    have A52 := Aside0.mk A520
                    clear A520
                    obtain rfl := Option.some.inj H
                    go_wp2_with (first | (go_at_call 14; (with_reducible refine (intervalmonlaw06_lives.calls k3  t393 _ A52.out).mono ?_); rintro e w53 ⟨rfl, hb⟩; have n0_ := Aside0.mk (Kd.R_below (by (with_reducible repeat (first | apply Kd.R_alloc | apply Kd.R_drewN | apply Kd.R_drew)); exact HO_3.out) hb); have n1_ := Aside0.mk (Kd.R_below (by (with_reducible repeat (first | apply Kd.R_alloc | apply Kd.R_drewN | apply Kd.R_drew)); exact HO_4.out) hb); have n2_ := Aside0.mk (below_step (by repeat (first | (with_reducible first | exact HB.out | apply below_alloc | apply pw_below_drewN | apply below_drew1) | exact HB.out)) hb); clear HO_3; clear HO_4; clear HB; have HO_3 := n0_; have HO_4 := n1_; have HB := n2_; clear n0_ n1_ n2_; (try clear hb); (try clear hb2); (try clear hk); (try clear hi)))
                    repeat (go_quiet (first | (go_at_call 14; (with_reducible refine (intervalmonlaw06_lives.calls k3  t393 _ A52.out).mono ?_); rintro e w53 ⟨rfl, hb⟩; have n0_ := Aside0.mk (Kd.R_below (by (with_reducible repeat (first | apply Kd.R_alloc | apply Kd.R_drewN | apply Kd.R_drew)); exact HO_3.out) hb); have n1_ := Aside0.mk (Kd.R_below (by (with_reducible repeat (first | apply Kd.R_alloc | apply Kd.R_drewN | apply Kd.R_drew)); exact HO_4.out) hb); have n2_ := Aside0.mk (below_step (by repeat (first | (with_reducible first | exact HB.out | apply below_alloc | apply pw_below_drewN | apply below_drew1) | exact HB.out)) hb); clear HO_3; clear HO_4; clear HB; have HO_3 := n0_; have HO_4 := n1_; have HB := n2_; clear n0_ n1_ n2_; (try clear hb); (try clear hb2); (try clear hk); (try clear hi))); try go_wp2_with (first | (go_at_call 14; (with_reducible refine (intervalmonlaw06_lives.calls k3  t393 _ A52.out).mono ?_); rintro e w53 ⟨rfl, hb⟩; have n0_ := Aside0.mk (Kd.R_below (by (with_reducible repeat (first | apply Kd.R_alloc | apply Kd.R_drewN | apply Kd.R_drew)); exact HO_3.out) hb); have n1_ := Aside0.mk (Kd.R_below (by (with_reducible repeat (first | apply Kd.R_alloc | apply Kd.R_drewN | apply Kd.R_drew)); exact HO_4.out) hb); have n2_ := Aside0.mk (below_step (by repeat (first | (with_reducible first | exact HB.out | apply below_alloc | apply pw_below_drewN | apply below_drew1) | exact HB.out)) hb); clear HO_3; clear HO_4; clear HB; have HO_3 := n0_; have HO_4 := n1_; have HB := n2_; clear n0_ n1_ n2_; (try clear hb); (try clear hb2); (try clear hk); (try clear hi))))
                    go_ret
                    exact ⟨by first | rfl | (simp [errW_none, errW_some] <;> rfl) | (simp [*, errW_none, errW_some] <;> rfl), by repeat (first | (with_reducible first | exact HB.out | apply below_alloc | apply pw_below_drewN | apply below_drew1) | exact HB.out)⟩

/-- THE ONE PURE STATEMENT of intervalmonlaw06_LexerLabels: yours. -/
def intervalmonlaw06_LexerLabels.Pure : Prop := ∀ (l0 : List Int), l0.length ≤ maxLen → l0.length * 8 ≤ 140737488351232 → (∀ x ∈ l0, (Lit.int .i64 x).wf = true) → ∃ k, intervalmonlaw06_LexerLabels.f k l0 = some true
theorem intervalmonlaw06_LexerLabels.walk (P : intervalmonlaw06_LexerLabels.Pure) (a0 : Option Addr) (len0 cap0 : Nat) (z0 : List Int) (w : World) (w0 : (a0 = none ∧ len0 = 0 ∧ cap0 = 0 ∧ z0 = []) ∨ ∃ x, a0 = some x ∧ len0 ≤ cap0 ∧ cap0 ≤ maxLen ∧ z0.length = cap0 ∧ (∀ i, i < z0.length → w.cell? (x.add i) = some (.int .i64 (z0.getD i 0))) ∧ ∀ n ∈ z0, (Lit.int .i64 n).wf = true) (y0 : len0 * 8 ≤ 140737488351232) :
    Calls Tryd.prog 9 #[.slice a0 len0 cap0] w fun e w' => e = .returned (.bool true) ∧ Below w.heap.size w w' := by
  obtain ⟨l0, rfl, hr0, hm0, hw0, hc0⟩ := ReadsInt.ofRowC w0
  obtain ⟨k, h⟩ := P l0 hm0 y0 hw0
  refine (intervalmonlaw06_LexerLabels.calls k _ _ l0 true w (Kd.C_of_reads (d := (0 : Int)) (h1 := fun _ => rfl) hr0) hc0 h).mono ?_
  rintro e w' ⟨rfl, hd⟩
  exact ⟨rfl, hd⟩

end Go.Proofs.YtecojcpccglelaaDoor.PAll
