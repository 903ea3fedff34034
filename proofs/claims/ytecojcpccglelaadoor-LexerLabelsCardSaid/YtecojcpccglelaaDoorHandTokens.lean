/- The contract of lexer.Tokens, by hand: for every string at which the Lean function gives an answer the call returns it. -/
import Derived.Test.YtecojcpccglelaaDoorPAllx3
import Derived.Test.YtecojcpccglelaaDoorHandA
import Derived.Test.YtecojcpccglelaaDoorIter
import Derived.RangeFuncBox
import Derived.RangeFuncLeaves
import Derived.WalkKit
import Derived.OwnWalkIn
import Derived.TacticsInMore
import Derived.LoopNIn
import Derived.LoopIn
import Derived.Maps.AppendAt
import Derived.StillTailTactics
import Derived.Deep.LoopGhost
namespace Go.Proofs.YtecojcpccglelaaDoor.PAll
open Go.RowKit Go.Proofs.YtecojcpccglelaaDoorW.PrintWords Go.Proofs.YtecojcpccglelaaDoorW.PrintLast
open Go.Proofs.YtecojcpccglelaaDoor.Iter

/-! (*scanner).all: function 29 -/
def lexer_rest (s : ByteArray) (p : Int) : ByteArray := ⟨(Lib.trimLeftS (s.data.toList.drop p.toNat) [9, 10, 13, 32]).toArray⟩
def lexer_all : Nat → ByteArray → Int → Option (List S37 × Int × Int)
  | 0, _, _ => none
  | k + 1, s, p =>
    if 0 ≤ p ∧ p ≤ s.size then
      if (lexer_rest s p).size = 0 then some ([], s.size, 0)
      else (lexer_token.f k (lexer_rest s p)).bind fun t =>
        if t.2.2.2.2.2 = 0 then
          if 1 ≤ t.2.2.2.2.1 ∧ t.2.2.2.2.1 ≤ (lexer_rest s p).size then
            (lexer_all k s ((s.size : Int) - (lexer_rest s p).size + t.2.2.2.2.1)).bind fun u =>
              some (⟨t.1, t.2.1, t.2.2.1, (s.size : Int) - (lexer_rest s p).size⟩ :: u.1, u.2.1, u.2.2)
          else none
        else some ([], (s.size : Int) - (lexer_rest s p).size, t.2.2.2.2.2)
    else none

theorem rest_le (s : ByteArray) (p : Int) (h0 : 0 ≤ p) (h : p ≤ s.size) : ((lexer_rest s p).size : Int) ≤ s.size - p := by
  have h1 : (Lib.trimLeftS (s.data.toList.drop p.toNat) [9, 10, 13, 32]).length ≤ (s.data.toList.drop p.toNat).length := (List.dropWhile_sublist _).length_le
  rw [List.length_drop, show s.data.toList.length = s.size from rfl] at h1
  have h2 : (lexer_rest s p).size = (Lib.trimLeftS (s.data.toList.drop p.toNat) [9, 10, 13, 32]).length := by simp [lexer_rest, ByteArray.size]
  omega

theorem trim_calls (s : ByteArray) (p : Int) (W : World) :
    Calls Tryd.prog 48 #[.string (s.extract p.toNat s.size), .string ⟨#[9, 10, 13, 32]⟩] W fun e W' => e = .returned (.string (lexer_rest s p)) ∧ Below W.heap.size W W' := by
  have h := Tryd.strings_TrimLeft (s.extract p.toNat s.size) ⟨#[9, 10, 13, 32]⟩ W (by decide) (ascii_of_all (by decide))
  have e : (s.extract p.toNat s.size).data.toList = s.data.toList.drop p.toNat := by
    rw [Lib.extract_eq]
    simp
    exact List.take_of_length_le (by rw [List.length_drop]; show s.size - _ ≤ _; omega)
  rw [e] at h
  exact h

theorem size0 {R : ByteArray} (h : R.size = 0) : R = ⟨#[]⟩ := by
  obtain ⟨⟨l⟩⟩ := R
  cases l with
  | nil => rfl
  | cons a l => simp [ByteArray.size] at h
theorem size1 {R : ByteArray} (h : R.size ≠ 0) : R.toList.isEmpty = false := by
  rw [Lib.toList_data]
  obtain ⟨⟨l⟩⟩ := R
  cases l with
  | nil => exact absurd rfl h
  | cons a l => rfl

def encT (x : S37) : Array Value := #[.agg #[.int .i64 x.f0, .string x.f1, .int .i64 x.f2, .int .i64 x.f3]]
def scan (s : ByteArray) (p e : Int) : Obj := .cells #[.string s, .int .i64 p, .int .i64 e] 57 (0, 0)
def AllDone (C : Nat) (s : ByteArray) (ys : List S37) (a e : Int) (xs : List S37) (W : World) : Prop := xs = ys ∧ W.heap[C]? = some (scan s a e)

theorem scan_at {W : World} {C : Nat} {s : ByteArray} {p e : Int} (h : W.heap[C]? = some (scan s p e)) :
    W.cell? ⟨C, 0, none⟩ = some (.string s) ∧ W.cell? ⟨C, 1, none⟩ = some (.int .i64 p) ∧ W.cell? ⟨C, 2, none⟩ = some (.int .i64 e) ∧ W.frozen? ⟨C, 1, none⟩ = false ∧ W.frozen? ⟨C, 2, none⟩ = false :=
  ⟨(blk_cell h 0).trans rfl, (blk_cell h 1).trans rfl, (blk_cell h 2).trans rfl, blk_frozen h 1, blk_frozen h 2⟩
theorem scan_set1 {W : World} {C : Nat} {s : ByteArray} {p e : Int} (h : W.heap[C]? = some (scan s p e)) (q : Int) : (W.setCell ⟨C, 1, none⟩ (.int .i64 q)).heap[C]? = some (scan s q e) := blk_put h 1 _ rfl
theorem scan_set2 {W : World} {C : Nat} {s : ByteArray} {p e : Int} (h : W.heap[C]? = some (scan s p e)) (q : Int) : (W.setCell ⟨C, 2, none⟩ (.int .i64 q)).heap[C]? = some (scan s p q) := blk_put h 2 _ rfl

set_option maxHeartbeats 4000000 in
set_option maxRecDepth 100000 in
theorem all_seq (k : Nat) (s : ByteArray) (C : Nat) (ys : List S37) (a e : Int) (w : World) (hs : s.size ≤ 2000) (hC : w.heap[C]? = some (scan s 0 0)) (h : lexer_all k s 0 = some (ys, a, e)) :
    SeqCells Fence.wide 5 Tryd.prog 29 #[.pointer (some ⟨C, 0, none⟩)] encT (C + 1) C 2001 (AllDone C s ys a e) w := by
  intro l J W hW hJ hY h0
  refine callsIn_wide.2 ?_
  have hCW : W.heap[C]? = some (scan s 0 0) := (hW.block _ (Array.getElem?_eq_some_iff.1 hC).1).trans hC
  have HY := Lib.hid hY
  have HJ := Lib.hid hJ
  have H := Lib.hid h
  have HS := Lib.hid hCW
  clear hY hJ h hC hCW hW
  have H0 := Lib.hid h0
  clear h0
  show Calls Tryd.prog 29 #[.pointer (some ⟨C, 0, none⟩), .func (.yield l) #[] #[]] W _
  go_enter Tryd.func29, Tryd.ntmps29
  go_wp2
  go_loopg [4] k (fun kq _ wr => ∃ (pre rest : List S37) (p : Int), Hid (ys = pre ++ rest) ∧ Hid (lexer_all kq s p = some (rest, a, e)) ∧ Hid (wr.heap[C]? = some (scan s p 0)) ∧ Hid (J pre wr) ∧ 0 ≤ p ∧ p ≤ s.size ∧ (pre.length : Int) ≤ p)
  case atStart => exact ⟨[], ys, 0, Lib.hid rfl, H, HS, H0, by omega, by omega, by simp⟩
  case round =>
    obtain ⟨pre, rest, p, HP, HA, HC, HJp, hp0, hp1, hp2⟩ := hrel
    obtain ⟨c0, c1, c2, f1, f2⟩ := scan_at HC.out
    have hT := fun (W : World) => trim_calls s p W
    have hle := rest_le s p hp0 hp1
    have hA := HA.out
    clear HA
    cases gk with
    | zero => exact absurd hA (by simp [lexer_all])
    | succ k1 =>
      simp only [lexer_all] at hA
      rw [if_pos ⟨hp0, hp1⟩] at hA
      generalize lexer_rest s p = R at hA hT hle
      by_cases hz : R.size = 0
      · rw [if_pos hz] at hA
        have HA := Lib.hid hA
        clear hA
        obtain rfl := size0 hz
        clear hz
        go_wp2
        go_still_tail 9, (by kernel_rfl)
        change wpList _ _ _ _ _ wr.drew
        go_wp2_with fail
        refine (hT _).mono ?_
        rintro e1 w1 ⟨rfl, hb1⟩
        have hC1 := (hb1.block C (Array.getElem?_eq_some_iff.1 HC.out).1).trans HC.out
        obtain ⟨d0, d1, d2, g1, g2⟩ := scan_at hC1
        have HC1 := Lib.hid hC1
        clear hC1 c0 c1 c2 f1 f2 hT
        go_wp2
        have hj := HJ.out.2 _ _ 1 (.int .i64 s.size) (HJ.out.1 _ _ _ HJp.out ((Below.refl _ wr).drew.trans hb1))
        have hA := HA.out
        simp only [Option.some.injEq, Prod.mk.injEq] at hA
        obtain ⟨rfl, rfl, rfl⟩ := hA
        refine bodyPost_ret (results_none rfl _ _ _) rfl ⟨⟨_, rfl⟩, pre, ⟨by rw [HP.out, List.append_nil], scan_set1 HC1.out _⟩, hj⟩
      · rw [if_neg hz] at hA
        obtain ⟨t, ht, hA⟩ := Option.bind_eq_some_iff.mp hA
        obtain ⟨t1, t2, t3, t4, t5, t6⟩ := t
        have hemp := size1 hz
        have hK := fun (W : World) => lexer_token.calls k1 R t1 t2 t3 t4 t5 t6 W ht
        have HA := Lib.hid hA
        clear hA ht
        go_wp2
        go_still_tail 9, (by kernel_rfl)
        change wpList _ _ _ _ _ wr.drew
        go_wp2_with fail
        refine (hT _).mono ?_
        rintro e1 w1 ⟨rfl, hb1⟩
        have hC1 := (hb1.block C (Array.getElem?_eq_some_iff.1 HC.out).1).trans HC.out
        obtain ⟨d0, d1, d2, g1, g2⟩ := scan_at hC1
        have hj := HJ.out.2 _ _ 1 (.int .i64 (s.size - R.size)) (HJ.out.1 _ _ _ HJp.out ((Below.refl _ wr).drew.trans hb1))
        have hC2 := scan_set1 hC1 (s.size - R.size)
        have HC2 := Lib.hid hC2
        have HJ2 := Lib.hid hj
        have hCl := (Array.getElem?_eq_some_iff.1 hC1).1
        clear hC1 hC2 hj c0 c1 c2 f1 f2 hT hz
        go_wp2_with fail
        refine (hK _).mono ?_
        rintro e1 w2 ⟨rfl, hb2⟩
        have hC3 := (hb2.block C (by show C < (w1.heap.modify _ _).size; rw [Array.size_modify]; exact hCl)).trans HC2.out
        obtain ⟨i0, i1, i2, j1, j2⟩ := scan_at hC3
        clear d0 d1 d2 g1 g2
        have HC3 := Lib.hid hC3
        have HJ3 := Lib.hid (HJ.out.1 _ _ _ HJ2.out hb2)
        have hCl2 := (Array.getElem?_eq_some_iff.1 hC3).1
        have hne : C ≠ w2.heap.size := by omega
        have hA := HA.out
        clear HA hC3
        by_cases he : t6 = 0
        · rw [if_pos he] at hA
          subst he
          by_cases hg : 1 ≤ t5 ∧ t5 ≤ (R.size : Int)
          · rw [if_pos hg] at hA
            obtain ⟨hg1, hg2⟩ := hg
            obtain ⟨u, hu, hA⟩ := Option.bind_eq_some_iff.mp hA
            simp only [Option.some.injEq, Prod.mk.injEq] at hA
            obtain ⟨hr, ha, hee⟩ := hA
            have HU := Lib.hid hu
            have HR := Lib.hid hr
            have HA := Lib.hid ha
            have HE := Lib.hid hee
            clear hu hr ha hee
            go_upto_region 8 with (fail)
            have hj4 := HJ.out.1 _ _ _ (HJ.out.2 _ _ 1 (.int .i64 (s.size - R.size + t5)) HJ3.out) ((Below.refl _ _).alloc (Nat.le_refl _) (.cells #[.int .i64 t1, .string t2, .int .i64 t3, .int .i64 (s.size - R.size)] 37))
            have hs4 := scan_set1 HC3.out (s.size - R.size + t5)
            have hC4 := (Below.heap_alloc _ (.cells #[.int .i64 t1, .string t2, .int .i64 t3, .int .i64 (s.size - R.size)] 37) _ (Array.getElem?_eq_some_iff.1 hs4).1).trans hs4
            obtain ⟨fn, tmps, assign, body, hy, hRR⟩ := HY.out pre ⟨t1, t2, t3, s.size - R.size⟩ _ hj4 (by omega)
            have HC4 := Lib.hid hC4
            clear hC4 hs4 hj4
            have HRR := Lib.hid hRR
            clear hRR
            dsimp only [encT] at hy
            refine (wpIn_wide (n := 5)).1 ?_
            gi_wp2
            refine HRR.out.mono ?_
            rintro e3 w3 ⟨rfl, hj5, hb5⟩
            have hC5 := (hb5.block C (by omega)).trans HC4.out
            have HC5 := Lib.hid hC5
            have HJ5 := Lib.hid hj5
            clear hC5 hj5 hy
            gi_wp2
            go_wp2
            go_roundg k1
            case measure => omega
            case rel => exact ⟨pre ++ [⟨t1, t2, t3, s.size - R.size⟩], u.1, s.size - R.size + t5, Lib.hid (by rw [HP.out, ← HR.out, List.append_assoc]; rfl), Lib.hid (by rw [HU.out, ← HA.out, ← HE.out]), HC5, HJ5, by omega, by omega, by simp only [List.length_append, List.length_singleton, Int.natCast_add, Int.natCast_one]; omega⟩
          · rw [if_neg hg] at hA
            cases hA
        · rw [if_neg he] at hA
          have HA := Lib.hid hA
          clear hA
          have b1 : (t6 == 0) = false := beq_eq_false_iff_ne.2 he
          have b2 : (t6 != 0) = true := bne_iff_ne.2 he
          clear he
          go_wp2
          have hA := HA.out
          simp only [Option.some.injEq, Prod.mk.injEq] at hA
          obtain ⟨rfl, rfl, rfl⟩ := hA
          have hj := HJ.out.2 _ _ 2 (.int .i64 t6) HJ3.out
          refine bodyPost_ret (results_none rfl _ _ _) rfl ⟨⟨_, rfl⟩, pre, ⟨by rw [HP.out, List.append_nil], ?_⟩, HJ.out.1 _ _ _ hj ((Below.refl _ _).alloc (Nat.le_refl _) _)⟩
          have hs2 := scan_set2 HC3.out t6
          exact (Below.heap_alloc _ _ _ (Array.getElem?_eq_some_iff.1 hs2).1).trans hs2

end Go.Proofs.YtecojcpccglelaaDoor.PAll
