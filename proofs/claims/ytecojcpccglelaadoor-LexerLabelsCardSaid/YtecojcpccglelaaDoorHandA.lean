/- Contracts by hand: strings.IndexByte (every input); strings.Cut at a separator of one byte (every string); lexer.number at a string of digits. -/
import Derived.Test.YtecojcpccglelaaDoorPAllx0
import Derived.Test.YtecojcpccglelaaDoorShelfA
import Derived.Laws.RangeString
import Derived.Laws.Strings3
import Derived.Lib.CutLaws
import Derived.IntWalk
import Derived.Lib.Hide
namespace Go.Proofs.YtecojcpccglelaaDoor.PAll
open Go.RowKit Go.Proofs.YtecojcpccglelaaDoorW.PrintWords Go.Proofs.YtecojcpccglelaaDoorW.PrintLast

/-! strings.IndexByte: function 58 -/
def strings_IndexByte.f (a0 : ByteArray) (a1 : Int) : Option Int := some (Lib.indexByte a0.data.toList a1.toNat.toUInt8)
theorem strings_IndexByte.calls (a0 : ByteArray) (a1 : Int) (r : Int) (w : World) (h : strings_IndexByte.f a0 a1 = some r) :
    Calls Tryd.prog 58 #[.string a0, .int .u8 a1] w fun e w' => e = .returned (.int .i64 r) ∧ Drawn0 w w' := by
  cases Option.some.inj h
  exact (Tryd.strings_IndexByte a0 a1 w).mono fun e w' ⟨he, hw⟩ => ⟨he, by rw [hw]; exact Drawn0.refl _⟩

/-! strings.Cut: function 70, at a separator of one byte -/
theorem ix_cases (l : List UInt8) (c : UInt8) : Lib.indexByte l c = -1 ∨ ∃ i : Nat, Lib.indexByte l c = i ∧ i < l.length := by
  induction l with
  | nil => exact .inl rfl
  | cons b l ih =>
    unfold Lib.indexByte
    by_cases hb : (b == c) = true
    · rw [if_pos hb]; exact .inr ⟨0, rfl, by simp⟩
    · rw [if_neg hb]
      rcases ih with h | ⟨i, h, hi⟩
      · rw [h]; exact .inl rfl
      · rw [h, if_neg (by simp; try omega)]; exact .inr ⟨i + 1, by omega, by simp; omega⟩

def cut1 (s : ByteArray) (c : UInt8) : ByteArray × ByteArray × Bool :=
  if Lib.indexByte s.data.toList c = -1 then (s, ⟨#[]⟩, false)
  else (s.extract 0 (Lib.indexByte s.data.toList c).toNat, s.extract ((Lib.indexByte s.data.toList c).toNat + 1) s.size, true)

set_option maxRecDepth 100000 in
theorem cut77 (s : ByteArray) (c : UInt8) (w : World) (hs : s.size ≤ 140737488351232) :
    Calls Tryd.prog 77 #[.string s, .string ⟨#[c]⟩] w fun e w' => e = .returned (.tuple #[.string (cut1 s c).1, .string (cut1 s c).2.1, .bool (cut1 s c).2.2]) ∧ Drawn0 w w' := by
  have hI := Tryd.stringslite_Index_one s c w
  have hsz : s.data.toList.length = s.size := rfl
  rcases ix_cases s.data.toList c with h | ⟨i, h, hi⟩
  · have e1 : cut1 s c = (s, ⟨#[]⟩, false) := by unfold cut1; rw [if_pos h]
    rw [e1]
    rw [h] at hI
    clear h hsz
    go_enter Tryd.func77, Tryd.ntmps77
    go_wp2_with fail
    refine hI.mono ?_
    rintro e w' ⟨rfl, rfl⟩
    go_wp2
    go_ret3
    exact ⟨rfl, Drawn0.refl _⟩
  · have e1 : cut1 s c = (s.extract 0 i, s.extract (i + 1) s.size, true) := by unfold cut1; rw [if_neg (by rw [h]; omega), h]; rfl
    rw [e1]
    rw [h] at hI
    have c1 : (0 : Int) ≤ ↑i := by omega
    have c2 : (↑i : Int) ≤ ↑s.size := by omega
    have c3 : (0 : Int) ≤ ↑i + 1 := by omega
    have c4 : (↑i + 1 : Int) ≤ ↑s.size := by omega
    have c5 : (↑i + 1 : Int) ≤ 9223372036854775807 := by omega
    have c6 : IntKind.i64.wrap ((i : Int) + 1) = (i : Int) + 1 := IntWalk.i64_in _ (by omega)
    clear h hsz
    go_enter Tryd.func77, Tryd.ntmps77
    go_wp2_with fail
    refine hI.mono ?_
    rintro e w' ⟨rfl, rfl⟩
    go_wp2
    go_region
    go_wp2
    go_ret3
    exact ⟨rfl, ⟨1, rfl⟩⟩

def strings_Cut.f (a0 a1 : ByteArray) : Option (ByteArray × ByteArray × Bool) :=
  if a1.size = 1 ∧ a0.size ≤ 140737488351232 then some (cut1 a0 (a1.data.getD 0 0)) else none
theorem strings_Cut.calls (a0 a1 : ByteArray) (r1 r2 : ByteArray) (r3 : Bool) (w : World) (h : strings_Cut.f a0 a1 = some (r1, r2, r3)) :
    Calls Tryd.prog 70 #[.string a0, .string a1] w fun e w' => e = .returned (.tuple #[.string r1, .string r2, .bool r3]) ∧ Drawn0 w w' := by
  unfold strings_Cut.f at h
  split at h
  · rename_i hc
    obtain ⟨h1, hs⟩ := hc
    obtain ⟨⟨l⟩⟩ := a1
    match l, h1 with
    | [c], _ =>
      have hc := cut77 a0 c w hs
      have e0 : cut1 a0 c = (r1, r2, r3) := by simpa using h
      rw [e0] at hc
      clear h e0
      go_enter Tryd.func70, Tryd.ntmps70
      go_wp2_with fail
      refine hc.mono ?_
      rintro e w' ⟨rfl, ⟨n, rfl⟩⟩
      go_wp2
      go_ret3
      exact ⟨rfl, ⟨n, rfl⟩⟩
  · cases h

/-! lexer.number: function 60, at digits -/
def numL : List UInt8 → Int → Option Int
  | [], n => some n
  | c :: l, n => if 10 * n + ((c.toNat : Int) - 48) > 1073741824 then none else numL l (10 * n + ((c.toNat : Int) - 48))

def lexer_number.f (a0 : ByteArray) : Option (Int × ByteArray × Int × Int × Int × Int) :=
  if (a0.data.toList.all fun c => decide (48 ≤ c.toNat) && decide (c.toNat ≤ 57)) = true ∧ a0.size ≤ 140737488351232 then
    match numL a0.data.toList 0 with
    | some n => some (1, a0, n, 0, a0.size, 0)
    | none => some (0, ⟨#[]⟩, 0, 0, 0, 5)
  else none

theorem getElem_toList (s : ByteArray) (k : Nat) (h : k < s.size) : s.data.toList[k]? = some (s[k]'h) := by
  rw [List.getElem?_eq_getElem (by simpa using h)]; rfl

theorem drop_cons (s : ByteArray) (k : Nat) (h : k < s.size) : s.data.toList.drop k = (s[k]'h) :: s.data.toList.drop (k + 1) := by
  have h' : k < s.data.toList.length := by simpa using h
  rw [List.drop_eq_getElem_cons h']; rfl

theorem iterPos_at (w : World) (o : Obj) (s : ByteArray) (p : Nat) : World.iterPos ((w.alloc o).alloc (.stringIter s p)) (w.heap.size + 1) = p := by
  have h : ((w.alloc o).alloc (.stringIter s p)).heap[w.heap.size + 1]? = some (.stringIter s p) := by
    show ((w.heap.push o).push (.stringIter s p))[w.heap.size + 1]? = _
    rw [Array.getElem?_push, if_pos (by simp)]
  unfold World.iterPos
  rw [h]
theorem nx_ascii {P : Program} (w : World) (o : Obj) (s : ByteArray) (pos : Nat) (ty : TypeId) (h : pos < s.size) (ha : (s[pos]'h).toNat < 128) :
    (Instr.next (.pointer (some ⟨w.heap.size + 1, 0, none⟩)) true ty).run P ((w.alloc o).alloc (.stringIter s pos)) = .ok (.tuple #[.bool true, .int .i64 pos, .int .i32 (s[pos]'h).toNat]) ((w.alloc o).alloc (.stringIter s (pos + 1))) := by
  have := run_next_ascii (P := P) (w.alloc o) s pos ty h ha
  rwa [World.size_alloc] at this
theorem nx_end {P : Program} (w : World) (o : Obj) (s : ByteArray) (pos : Nat) (ty : TypeId) (h : ¬ pos < s.size) :
    (Instr.next (.pointer (some ⟨w.heap.size + 1, 0, none⟩)) true ty).run P ((w.alloc o).alloc (.stringIter s pos)) = .ok (.tuple #[.bool false]) ((w.alloc o).alloc (.stringIter s pos)) := by
  have := run_next_end (P := P) (w.alloc o) s pos ty h
  rwa [World.size_alloc] at this

set_option maxHeartbeats 1000000 in
set_option maxRecDepth 100000 in
theorem lexer_number.calls (a0 : ByteArray) (r1 : Int) (r2 : ByteArray) (r3 r4 r5 r6 : Int) (w : World) (h : lexer_number.f a0 = some (r1, r2, r3, r4, r5, r6)) :
    Calls Tryd.prog 60 #[.string a0] w fun e w' => e = .returned (.tuple #[.agg #[.int .i64 r1, .string r2, .int .i64 r3, .int .i64 r4], .int .i64 r5, .int .i64 r6]) ∧ Below w.heap.size w w' := by
  unfold lexer_number.f at h
  split at h
  case isFalse => cases h
  rename_i hc
  obtain ⟨hd, hs⟩ := hc
  have hdig : ∀ k (hk : k < a0.size), 48 ≤ (a0[k]'hk).toNat ∧ (a0[k]'hk).toNat ≤ 57 := by
    intro k hk
    have h1 := List.all_eq_true.1 hd (a0[k]'hk) (List.mem_of_getElem? (getElem_toList a0 k hk))
    simp only [Bool.and_eq_true, decide_eq_true_eq] at h1
    exact h1
  have HD := Lib.hid hdig
  clear hdig hd
  have H := Lib.hid h
  clear h
  go_enter Tryd.func60, Tryd.ntmps60
  go_wp2
  go_loopw [5] (fun v wr => ∃ (pos : Nat) (n : Int), wr = (w.alloc (.cells #[.int .i64 0, .string ⟨#[]⟩, .int .i64 0, .int .i64 0] 37)).alloc (.stringIter a0 pos) ∧ v = .int .i64 n ∧ pos ≤ a0.size ∧ 0 ≤ n ∧ n ≤ 1073741824 ∧ Hid (numL (a0.data.toList.drop pos) n = numL a0.data.toList 0)) (fun _ wr => a0.size - wr.iterPos (w.heap.size + 1))
  case atStart => exact ⟨0, 0, rfl, rfl, Nat.zero_le _, by omega, by omega, Lib.hid rfl⟩
  case round =>
    obtain ⟨pos, n, rfl, rfl, hp, hn0, hn1, HN⟩ := hrel
    by_cases hlt : pos < a0.size
    · obtain ⟨hd1, hd2⟩ := HD.out pos hlt
      have hnx : ∀ ty, (Instr.next (.pointer (some ⟨w.heap.size + 1, 0, none⟩)) true ty).run Tryd.prog ((w.alloc (.cells #[.int .i64 0, .string ⟨#[]⟩, .int .i64 0, .int .i64 0] 37)).alloc (.stringIter a0 pos)) = _ := fun ty => nx_ascii _ _ a0 pos ty hlt (by omega)
      have hdc := drop_cons a0 pos hlt
      have HC := Lib.hid hdc
      clear hdc
      by_cases hbig : 10 * n + (((a0[pos]'hlt).toNat : Int) - 48) > 1073741824
      · go_wp2
        have hN : numL a0.data.toList 0 = none := by
          rw [← HN.out, HC.out]; unfold numL; rw [if_pos hbig]
        have h := H.out
        rw [hN] at h
        simp only [Option.some.injEq, Prod.mk.injEq] at h
        obtain ⟨rfl, rfl, rfl, rfl, rfl, rfl⟩ := h
        refine bodyPost_ret (v := .tuple #[.agg #[.int .i64 0, .string ⟨#[]⟩, .int .i64 0, .int .i64 0], .int .i64 0, .int .i64 5]) (by simp [results, Tryd.results60, go_sem]) rfl ⟨rfl, ?_⟩
        exact ((Below.refl _ _).alloc (Nat.le_refl _) _).alloc (by simp) _
      · go_wp2
        go_roundw
        case rel => exact ⟨pos + 1, 10 * n + (((a0[pos]'hlt).toNat : Int) - 48), rfl, rfl, by omega, by omega, by omega, Lib.hid (by rw [← HN.out, HC.out]; conv => rhs; unfold numL; rw [if_neg hbig])⟩
        case measure => simp only [iterPos_at]; omega
    · have hnx : ∀ ty, (Instr.next (.pointer (some ⟨w.heap.size + 1, 0, none⟩)) true ty).run Tryd.prog ((w.alloc (.cells #[.int .i64 0, .string ⟨#[]⟩, .int .i64 0, .int .i64 0] 37)).alloc (.stringIter a0 pos)) = _ := fun ty => nx_end _ _ a0 pos ty hlt
      go_wp2
      have hN : numL a0.data.toList 0 = some n := by
        rw [← HN.out, List.drop_of_length_le (show a0.data.toList.length ≤ pos from by show a0.size ≤ pos; omega)]; rfl
      have h := H.out
      rw [hN] at h
      simp only [Option.some.injEq, Prod.mk.injEq] at h
      obtain ⟨rfl, rfl, rfl, rfl, rfl, rfl⟩ := h
      refine bodyPost_ret (v := .tuple #[.agg #[.int .i64 1, .string a0, .int .i64 n, .int .i64 0], .int .i64 a0.size, .int .i64 0]) (by simp [results, Tryd.results60, go_sem]) rfl ⟨rfl, ?_⟩
      exact ((Below.refl _ _).alloc (Nat.le_refl _) _).alloc (by simp) _

end Go.Proofs.YtecojcpccglelaaDoor.PAll
