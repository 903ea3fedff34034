/- The contract of lexer.Tokens, by hand, second part: the caller. -/
import Derived.Test.YtecojcpccglelaaDoorHandTokens
import Derived.RangeFuncNested
import Derived.Deep.QuietTactic
import Derived.BigQuiet
namespace Go.Proofs.YtecojcpccglelaaDoor.PAll
open Go.RowKit Go.Shelf Go.Proofs.YtecojcpccglelaaDoorW.PrintWords Go.Proofs.YtecojcpccglelaaDoorW.PrintLast
open Go.Proofs.YtecojcpccglelaaDoor.Iter

attribute [local go_sem] Oper.semAt_some

def cells4 (x : S37) : List Value := [.int .i64 x.f0, .string x.f1, .int .i64 x.f2, .int .i64 x.f3]
def flat (l : List S37) : List Value := l.flatMap cells4
theorem flat_snoc (l : List S37) (x : S37) : flat (l ++ [x]) = flat l ++ cells4 x := by simp [flat]

theorem cells4_new (W : World) (x : S37) : ∀ j u, (cells4 x)[j]? = some u → (W.alloc (.cells #[.int .i64 x.f0, .string x.f1, .int .i64 x.f2, .int .i64 x.f3] 37)).cell? ((⟨W.heap.size, 0, none⟩ : Addr).add j) = some u := by
  intro j u hj
  have h : (W.alloc (.cells #[.int .i64 x.f0, .string x.f1, .int .i64 x.f2, .int .i64 x.f3] 37)).heap[W.heap.size]? = some (.cells #[.int .i64 x.f0, .string x.f1, .int .i64 x.f2, .int .i64 x.f3] 37 (0, 0)) := World.alloc_heap_new W _
  have e : (⟨W.heap.size, 0, none⟩ : Addr).add j = ⟨W.heap.size, j, none⟩ := by
    unfold Addr.add
    split
    · rename_i h0; rw [h0]
    · simp
  rw [e]
  refine (blk_cell h j).trans ?_
  rw [← hj, List.getElem?_toArray]; rfl

theorem reps_flat {w : World} {b : Nat} {ok : Nat → Prop} (l : List S37) : Reps (k37.M w b ok) 4 l (flat l) := by
  suffices h : ∀ (r l : List S37), Reps (k37.M w b ok) 4 l (flat l) → Reps (k37.M w b ok) 4 (l ++ r) (flat (l ++ r)) by
    simpa using h l [] (Reps.none _ _)
  intro r
  induction r with
  | nil => intro l h; simpa using h
  | cons x r ih =>
    intro l h
    have := ih (l ++ [x]) (by rw [flat_snoc]; exact h.snoc (k37_mkM w b ok x) rfl)
    simpa using this

def TokI (w : World) (pre : List S37) (W : World) : Prop :=
  (∃ v, Boxed W (w.heap.size + 1) 32 v ∧ W.ownsRow (w.heap.size + 1) 37 4 v pre.length (flat pre)) ∧ Below w.heap.size w W

theorem tokI_abides (w : World) : AbidesAt w.heap.size (TokI w) := by
  refine ⟨?_, ?_⟩
  · rintro pre W W' ⟨⟨v, hv, ho⟩, hb⟩ h
    exact ⟨⟨v, (h.block _ hv.lt).trans hv, pw_own_below ho h⟩, hb.trans (h.mono hb.size)⟩
  · rintro pre W off u ⟨⟨v, hv, ho⟩, hb⟩
    exact ⟨⟨v, (Below.heap_setCell W _ u _ (by show _ ≠ w.heap.size; omega)).trans hv, ownsRow_setCell_below ho (show w.heap.size < _ by omega) u⟩, hb.setCell (p := ⟨w.heap.size, off, none⟩) (Nat.le_refl _) u⟩

theorem tokI_put (w : World) : AbidesPut (w.heap.size + 2) (TokI w) := by
  rintro pre W l o o' hl ho hc ⟨⟨v, hv, hr⟩, hb⟩
  exact ⟨⟨v, (World.putObj_heap_other (by omega)).trans hv, ownsRow_putObj hr o' ho hc⟩, hb.trans ((below_put o' ho (Nat.le_of_lt (by omega))))⟩

theorem done_put (B C : Nat) (hC : C < B) (s : ByteArray) (ys : List S37) (a e : Int) : AbidesPut B (AllDone C s ys a e) := by
  rintro xs W l o o' hl ho hc ⟨rfl, h⟩
  exact ⟨rfl, (World.putObj_heap_other (by omega)).trans h⟩

set_option maxRecDepth 100000 in
set_option maxHeartbeats 4000000 in
theorem tokens_small (k : Nat) (s : ByteArray) (ys : List S37) (a e : Int) (w : World) (hs : s.size ≤ 2000) (h : lexer_all k s 0 = some (ys, a, e)) (r1 : List S37) (r2 r3 : Int)
    (hr : (if e = 0 then some (ys, 0, 0) else some ([], a, e)) = some (r1, r2, r3)) :
    Calls Tryd.prog 20 #[.string s] w fun e w' => ∃ v0_ : Value, e = .returned (.tuple #[v0_, .int .i64 r2, .int .i64 r3]) ∧ Kd.R k37 37 w' w.heap.size (fun _ => True) v0_ r1 ∧ Below w.heap.size w w' := by
  obtain ⟨i0, hi, hz0, hz1, hz2⟩ := info_parts info37
  have H := Lib.hid h
  have HR := Lib.hid hr
  clear h hr
  have HI := Lib.hid hi
  clear hi
  have b1 : decide ((2000 : Int) < s.size) = false := by simp; omega
  have hS : ((w.alloc (.cells #[.string s, .int .i64 0, .int .i64 0] 57)).alloc (.cells #[.slice none 0 0] 32)).heap[w.heap.size]? = some (scan s 0 0) :=
    (Below.heap_alloc _ _ _ (by simp)).trans (World.alloc_heap_new w _)
  have hB2 : Below w.heap.size w ((w.alloc (.cells #[.string s, .int .i64 0, .int .i64 0] 57)).alloc (.cells #[.slice none 0 0] 32)) := ((Below.refl _ w).alloc (Nat.le_refl _) _).alloc (by simp) _
  have bO := Boxed.new (w.alloc (.cells #[.string s, .int .i64 0, .int .i64 0] 57)) 32 (.slice none 0 0)
  rw [World.size_alloc] at bO
  have HS := Lib.hid hS
  have HB := Lib.hid hB2
  have HO := Lib.hid bO
  clear hS hB2 bO
  refine (callsIn_wide (n := 6)).1 ?_
  refine callsIn_of_wp_marks Tryd.func20 rfl trivial ?_ rfl
  simp only [Tryd.ntmps20, List.size_toArray, List.length_cons, List.length_nil, Nat.reduceAdd, Nat.reduceSub, Array.replicate_succ, Array.replicate_zero, List.push_toArray, List.append_toArray, List.nil_append, List.cons_append]
  gi_wp2
  have hsz : ((w.alloc (.cells #[.string s, .int .i64 0, .int .i64 0] 57)).alloc (.cells #[.slice none 0 0] 32)).heap.size = w.heap.size + 2 := by simp
  refine wpIn_rangeFunc_at rfl (fun _ => by omega) (gf := 29) (first := #[.pointer (some ⟨w.heap.size, 0, none⟩)]) rfl trivial (enters_of Tryd.func29 (by kernel_rfl) rfl)
    (all_seq k s w.heap.size ys a e _ hs HS.out H.out) (by rw [hsz]; omega) (by rw [hsz]; omega) (Below.refl _ _) (fun _ => rfl)
    (TokI w) (tokI_abides w) (by rw [hsz]; exact tokI_put w) (by rw [hsz]; exact done_put _ _ (by omega) s ys a e) ⟨⟨_, HO.out, World.ownsRow_nil _ _ _ _⟩, HB.out⟩ ?round ?done
  case round =>
    rintro l pre x W hl ⟨ob, hob, hcb⟩ ⟨⟨v, hv, ho⟩, hB⟩ hlt
    have hlW : l < W.heap.size := (Array.getElem?_eq_some_iff.1 hob).1
    rw [hsz] at hl
    dsimp only [encT]
    gi_wp2
    refine ⟨KeepsOthers.alloc _ _, fun o' => ?_⟩
    have hob1 : (W.alloc (.cells #[.int .i64 x.f0, .string x.f1, .int .i64 x.f2, .int .i64 x.f3] 37)).heap[l]? = some ob := (Below.heap_alloc _ _ _ hlW).trans hob
    have hv1 : Boxed ((W.alloc (.cells #[.int .i64 x.f0, .string x.f1, .int .i64 x.f2, .int .i64 x.f3] 37)).putObj l o') (w.heap.size + 1) 32 v := (World.putObj_heap_other (by omega)).trans (hv.alloc _)
    have ho1 : ((W.alloc (.cells #[.int .i64 x.f0, .string x.f1, .int .i64 x.f2, .int .i64 x.f3] 37)).putObj l o').ownsRow (w.heap.size + 1) 37 4 v pre.length (flat pre) := ownsRow_putObj (ho.alloc _) o' hob1 hcb
    have ht1 : ((W.alloc (.cells #[.int .i64 x.f0, .string x.f1, .int .i64 x.f2, .int .i64 x.f3] 37)).putObj l o').heap[W.heap.size]? = some (.cells #[.int .i64 x.f0, .string x.f1, .int .i64 x.f2, .int .i64 x.f3] 37 (0, 0)) := (World.putObj_heap_other (by omega)).trans (World.alloc_heap_new W _)
    have hb1 : Below (w.heap.size + 1) W ((W.alloc (.cells #[.int .i64 x.f0, .string x.f1, .int .i64 x.f2, .int .i64 x.f3] 37)).putObj l o') := ((Below.refl _ W).alloc (by have := hv.lt; omega) _).trans (below_put o' hob1 (by omega))
    generalize (W.alloc (.cells #[.int .i64 x.f0, .string x.f1, .int .i64 x.f2, .int .i64 x.f3] 37)).putObj l o' = W1 at hv1 ho1 ht1 hb1 ⊢
    have q0 := (blk_cell ht1 0).trans rfl
    have q1 := (blk_cell ht1 1).trans rfl
    have q2 := (blk_cell ht1 2).trans rfl
    have q3 := (blk_cell ht1 3).trans rfl
    have hc := hv1.cell
    have hi := HI.out
    clear hob1 hob ht1
    gi_wp2_with (gi_at_builtin; refine wpListIn_append_own _ rfl _ _ 32 rfl (w.heap.size + 1) 37 i0 (.agg #[.int .i64 0, .string ⟨#[]⟩, .int .i64 0, .int .i64 0]) 4 40 Tryd.underlying32 hi hz0 hz1 hz2 rfl (by decide) _ _ _ rfl (ho1.alloc _) ⟨W1.heap.size, 0, none⟩ 1 1 (cells4 x) rfl rfl (cells4_new _ _) (by simp [Value.oneCell', cells4]) (by unfold maxLen; omega) (by omega) (by have := hv1.lt; simp; omega) ?_; intro v' w1 hown' hgrow _; obtain ⟨g', cap', rfl⟩ := ownsRow_succ hown'; obtain ⟨hv1, hv2, hr2, hk2, hb2⟩ := hv1.appended (by decide) ho1 (by have := hv1.lt; omega) (Nat.le_refl _) hown' hgrow; have hc1 := hv1.cell; have hf1 := hv1.frozen)
    exact ⟨hk2, hb1.trans hb2, ⟨_, hv2, by rw [flat_snoc]; simpa using hr2⟩, hB.trans ((hb1.trans hb2).mono (by omega))⟩
  case done =>
    rintro D xs W hD ⟨rfl, hSc⟩ ⟨⟨v, hv, ho⟩, hB⟩ hK
    rw [hsz] at hD
    obtain ⟨s0, s1, s2, f1, f2⟩ := scan_at hSc
    have hc := hv.cell
    have hR := HR.out
    clear HR
    by_cases he : e = 0
    · subst he
      rw [if_pos rfl] at hR
      simp only [Option.some.injEq, Prod.mk.injEq] at hR
      obtain ⟨rfl, rfl, rfl⟩ := hR
      gi_wp2
      refine ⟨by simp, .inl ⟨_, _, rfl, run_takeDeferred hK, ?_⟩⟩
      refine ⟨_, by simp [results, Tryd.results20, go_sem], v, rfl, ⟨fun _ _ => trivial, flat xs, own_weaken (ownsRow_putObj ho _ hK rfl) (by omega), reps_flat xs⟩, hB.trans (below_put _ hK (by omega))⟩
    · rw [if_neg he] at hR
      simp only [Option.some.injEq, Prod.mk.injEq] at hR
      obtain ⟨rfl, rfl, rfl⟩ := hR
      have b1 : (e == 0) = false := beq_eq_false_iff_ne.2 he
      have b2 : (e != 0) = true := bne_iff_ne.2 he
      clear he
      gi_wp2
      refine wpIn_wide.2 ?_
      go_quiet (fail)
      have hK' : (W.drewN nq).heap[D]? = some (.deferred (some [])) := hK
      gi_wp2
      refine ⟨by simp, .inl ⟨_, _, rfl, run_takeDeferred hK', ?_⟩⟩
      refine ⟨_, by simp [results, Tryd.results20, go_sem], .slice none 0 0, rfl, Kd.R_nil _ _ _ _ _, (Below.trans hB ⟨rfl, rfl, rfl, Nat.le_refl _, fun _ _ => rfl⟩ : Below w.heap.size w (W.drewN nq)).trans (below_put _ hK' (by omega))⟩

def lexer_Tokens.f (k : Nat) (a0 : ByteArray) : Option (List S37 × Int × Int) :=
  if (a0.size : Int) > 2000 then some ([], 2000, 4)
  else (lexer_all k a0 0).bind fun u => if u.2.2 = 0 then some (u.1, 0, 0) else some ([], u.2.1, u.2.2)

theorem lexer_all.mono (s : ByteArray) : ∀ (k : Nat) (p : Int), LeO (lexer_all k s p) (lexer_all (k + 1) s p)
  | 0, p => fun r h => by simp [lexer_all] at h
  | k + 1, p => by
    rw [lexer_all, lexer_all]
    refine LeO.ite ?_ (LeO.none _)
    refine LeO.ite (LeO.refl _) ?_
    refine LeO.bind (lexer_token.mono _ _) (fun t => ?_)
    refine LeO.ite ?_ (LeO.refl _)
    refine LeO.ite ?_ (LeO.none _)
    exact LeO.bind (lexer_all.mono s k _) (fun _ => LeO.refl _)

theorem lexer_Tokens.mono : ∀ a0 k, LeO (lexer_Tokens.f k a0) (lexer_Tokens.f (k + 1) a0) := by
  intro a0 k
  unfold lexer_Tokens.f
  exact LeO.ite (LeO.refl _) (LeO.bind (lexer_all.mono a0 k 0) (fun _ => LeO.refl _))

set_option maxRecDepth 100000 in
set_option maxHeartbeats 1000000 in
theorem lexer_Tokens.calls (k : Nat) (a0 : ByteArray) (r1 : List S37) (r2 r3 : Int) (w : World) (h : lexer_Tokens.f k a0 = some (r1, r2, r3)) :
    Calls Tryd.prog 20 #[.string a0] w fun e w' => ∃ v0_ : Value, e = .returned (.tuple #[v0_, .int .i64 r2, .int .i64 r3]) ∧ Kd.R k37 37 w' w.heap.size (fun _ => True) v0_ r1 ∧ Below w.heap.size w w' := by
  unfold lexer_Tokens.f at h
  by_cases c : (a0.size : Int) > 2000
  · rw [if_pos c] at h
    simp only [Option.some.injEq, Prod.mk.injEq] at h
    obtain ⟨rfl, rfl, rfl⟩ := h
    have b1 : decide (2000 < (a0.size : Int)) = true := decide_eq_true c
    have b2 : decide (2000 < a0.size) = true := decide_eq_true (by omega)
    clear c
    go_enter Tryd.func20, Tryd.ntmps20
    go_wp2
    go_ret3
    exact ⟨_, rfl, Kd.R_nil _ _ _ _ _, Below.refl _ _⟩
  · rw [if_neg c] at h
    obtain ⟨⟨ys, a, e⟩, hu, h⟩ := Option.bind_eq_some_iff.mp h
    exact tokens_small k a0 ys a e w (by omega) hu r1 r2 r3 h

end Go.Proofs.YtecojcpccglelaaDoor.PAll
