/- Contracts by hand: labels.Name, at every string. -/
import Derived.Test.YtecojcpccglelaaDoorPAllx0
import Derived.Test.YtecojcpccglelaaDoorShelfN
import Derived.Laws.RangeAny
import Derived.IntWalk
import Derived.Lib.Hide
namespace Go.Proofs.YtecojcpccglelaaDoor.PAll
open Go.RowKit Go.Proofs.YtecojcpccglelaaDoorW.PrintWords Go.Proofs.YtecojcpccglelaaDoorW.PrintLast

def lowerB (c : UInt8) : Bool := decide (97 ≤ c.toNat) && decide (c.toNat ≤ 122)
def otherB (c : UInt8) : Bool := (decide (48 ≤ c.toNat) && decide (c.toNat ≤ 57)) || decide (c.toNat = 95)
def nameL : Bool → List UInt8 → Bool
  | _, [] => true
  | first, c :: l => (lowerB c || (!first && otherB c)) && nameL false l

theorem nm_drop (s : ByteArray) (k : Nat) (h : k < s.size) : s.data.toList.drop k = (s[k]'h) :: s.data.toList.drop (k + 1) := by
  have h' : k < s.data.toList.length := by simpa using h
  rw [List.drop_eq_getElem_cons h']; rfl

theorem nm_pos (w : World) (s : ByteArray) (p : Nat) : World.iterPos (w.alloc (.stringIter s p)) w.heap.size = p := World.iterPos_iter w s p

/-- What the next rune of a string says: itself, where the next one begins, and what a name's rest asks. -/
structure NextIs (s : ByteArray) (pos : Nat) (x : Int) (q : Nat) : Prop where
  run : ∀ {P : Program} (w : World) (ty : TypeId), (Instr.next (.pointer (some ⟨w.heap.size, 0, none⟩)) true ty).run P (w.alloc (.stringIter s pos)) = .ok (.tuple #[.bool true, .int .i64 pos, .int .i32 x]) (w.alloc (.stringIter s q))
  bad : (x < 48 ∨ (57 < x ∧ x < 97 ∧ x ≠ 95) ∨ 122 < x) → nameL (pos == 0) (s.data.toList.drop pos) = false
  first : ((48 ≤ x ∧ x ≤ 57) ∨ x = 95) → pos = 0 → nameL (pos == 0) (s.data.toList.drop pos) = false
  other : ((48 ≤ x ∧ x ≤ 57) ∨ x = 95) → pos ≠ 0 → q ≤ s.size ∧ pos < q ∧ nameL (q == 0) (s.data.toList.drop q) = nameL (pos == 0) (s.data.toList.drop pos)
  letter : (97 ≤ x ∧ x ≤ 122) → q ≤ s.size ∧ pos < q ∧ nameL (q == 0) (s.data.toList.drop q) = nameL (pos == 0) (s.data.toList.drop pos)

theorem next_is (s : ByteArray) (pos : Nat) (h : pos < s.size) : ∃ (x : Int) (q : Nat), NextIs s pos x q := by
  have hd := nm_drop s pos h
  by_cases ha : (s[pos]'h).toNat < 128
  · refine ⟨((s[pos]'h).toNat : Int), pos + 1, fun w ty => run_next_ascii w s pos ty h ha, fun hb => ?_, fun hb hz => ?_, fun hb hz => ⟨h, by omega, ?_⟩, fun hb => ⟨h, by omega, ?_⟩⟩
    · have h1 : lowerB (s[pos]'h) = false := by unfold lowerB; simp only [Bool.and_eq_false_iff, decide_eq_false_iff_not]; omega
      have h2 : otherB (s[pos]'h) = false := by unfold otherB; simp only [Bool.or_eq_false_iff, Bool.and_eq_false_iff, decide_eq_false_iff_not]; omega
      rw [hd, nameL, h1, h2]; simp
    · have h1 : lowerB (s[pos]'h) = false := by unfold lowerB; simp only [Bool.and_eq_false_iff, decide_eq_false_iff_not]; omega
      subst hz
      rw [hd, nameL, h1]; simp
    · have h2 : otherB (s[pos]'h) = true := by unfold otherB; simp only [Bool.or_eq_true, Bool.and_eq_true, decide_eq_true_eq]; omega
      have h3 : (pos == 0) = false := by simpa using hz
      rw [hd, nameL, h2, h3]; simp
    · have h1 : lowerB (s[pos]'h) = true := by unfold lowerB; simp only [Bool.and_eq_true, decide_eq_true_eq]; omega
      rw [hd, nameL, h1]; simp
  · obtain ⟨d1, d2⟩ := decode_high s pos h (by omega)
    refine ⟨((Utf8.decode s pos).1 : Int), pos + (Utf8.decode s pos).2, fun w ty => run_next_any w s pos ty h, fun hb => ?_, fun hb hz => by omega, fun hb hz => by omega, fun hb => by omega⟩
    have h1 : lowerB (s[pos]'h) = false := by unfold lowerB; simp only [Bool.and_eq_false_iff, decide_eq_false_iff_not]; omega
    have h2 : otherB (s[pos]'h) = false := by unfold otherB; simp only [Bool.or_eq_false_iff, Bool.and_eq_false_iff, decide_eq_false_iff_not]; omega
    rw [hd, nameL, h1, h2]; simp

def labels_Name.f (a0 : ByteArray) : Option Bool := some (if a0.toList = ([] : List UInt8) then false else if (a0.size : Int) > 16 then false else nameL true a0.data.toList)

set_option maxHeartbeats 1000000 in
set_option maxRecDepth 100000 in
theorem labels_Name.calls (a0 : ByteArray) (r : Bool) (w : World) (h : labels_Name.f a0 = some r) :
    Calls Tryd.prog 21 #[.string a0] w fun e w' => e = .returned (.bool r) ∧ Below w.heap.size w w' := by
  cases Option.some.inj h
  clear h
  by_cases c1 : a0.toList = ([] : List UInt8)
  · rw [if_pos c1]
    have c1b0 : (a0.toList == ([] : List UInt8)) = true := beq_iff_eq.mpr c1
    clear c1
    go_enter Tryd.func21, Tryd.ntmps21
    go_wp2
    go_ret
    exact ⟨rfl, Below.refl _ _⟩
  · rw [if_neg c1]
    have c1b0 : (a0.toList == ([] : List UInt8)) = false := beq_eq_false_iff_ne.mpr c1
    clear c1
    by_cases c2 : (a0.size : Int) > 16
    · rw [if_pos c2]
      have c2b0 : decide ((a0.size : Int) > 16) = true := decide_eq_true c2
      have c2b1 : decide (16 < (a0.size : Int)) = true := decide_eq_true c2
      clear c2
      go_enter Tryd.func21, Tryd.ntmps21
      go_wp2
      go_ret
      exact ⟨rfl, Below.refl _ _⟩
    · rw [if_neg c2]
      have c2b0 : decide ((a0.size : Int) > 16) = false := decide_eq_false c2
      have c2b1 : decide (16 < (a0.size : Int)) = false := decide_eq_false c2
      have hsz : a0.size ≤ 16 := by omega
      clear c2
      have HS := Lib.hid hsz
      clear hsz
      go_enter Tryd.func21, Tryd.ntmps21
      go_wp2
      go_loopw [3] (fun v wr => ∃ (pos : Nat), wr = w.alloc (.stringIter a0 pos) ∧ pos ≤ a0.size ∧ Hid (nameL (pos == 0) (a0.data.toList.drop pos) = nameL true a0.data.toList)) (fun _ wr => a0.size - wr.iterPos w.heap.size)
      case atStart => exact ⟨0, rfl, Nat.zero_le _, Lib.hid rfl⟩
      case round =>
        obtain ⟨pos, rfl, hp, HN⟩ := hrel
        by_cases hlt : pos < a0.size
        · obtain ⟨x, q, hx⟩ : ∃ (x : Int) (q : Nat), NextIs a0 pos x q := next_is a0 pos hlt
          have hnx : ∀ ty, (Instr.next (.pointer (some ⟨w.heap.size, 0, none⟩)) true ty).run Tryd.prog (w.alloc (.stringIter a0 pos)) = .ok (.tuple #[.bool true, .int .i64 pos, .int .i32 x]) (w.alloc (.stringIter a0 q)) := fun ty => (hx.run w ty)
          have hX := Lib.hid hx
          clear hx
          have hcl : (x < 48) ∨ (48 ≤ x ∧ x ≤ 57) ∨ (57 < x ∧ x < 97 ∧ x ≠ 95) ∨ (x = 95) ∨ (97 ≤ x ∧ x ≤ 122) ∨ (122 < x) := by omega
          rcases hcl with h | h | h | h | h | h
          · have hb : x < 48 := h
            have ea : (97 ≤ x) = False := eq_false (by omega)
            have eb : (x ≤ 122) = True := eq_true (by omega)
            have ec : (48 ≤ x) = False := eq_false (by omega)
            have ed : (x ≤ 57) = True := eq_true (by omega)
            have ee : (x == 95) = false := beq_eq_false_iff_ne.mpr (by omega)
            have hB := Lib.hid hb
            clear hb h
            rcases Nat.eq_zero_or_pos pos with hz | hz
            · have ez : (((pos : Nat) : Int) == 0) = true := beq_iff_eq.mpr (by omega)
              have ey : (pos = 0) = True := eq_true hz
              have hN : nameL true a0.data.toList = false := by
                rw [← HN.out]; exact hX.out.bad (by have := hB.out; omega)
              clear hz
              go_wp2
              rw [hN]
              go_ret
              exact ⟨rfl, (Below.refl _ _).alloc (Nat.le_refl _) _⟩
            · have ez : (((pos : Nat) : Int) == 0) = false := beq_eq_false_iff_ne.mpr (by omega)
              have ey : (pos = 0) = False := eq_false (by omega)
              have hN : nameL true a0.data.toList = false := by
                rw [← HN.out]; exact hX.out.bad (by have := hB.out; omega)
              clear hz
              go_wp2
              rw [hN]
              go_ret
              exact ⟨rfl, (Below.refl _ _).alloc (Nat.le_refl _) _⟩
          · have hb : 48 ≤ x ∧ x ≤ 57 := h
            have ea : (97 ≤ x) = False := eq_false (by omega)
            have eb : (x ≤ 122) = True := eq_true (by omega)
            have ec : (48 ≤ x) = True := eq_true (by omega)
            have ed : (x ≤ 57) = True := eq_true (by omega)
            have ee : (x == 95) = false := beq_eq_false_iff_ne.mpr (by omega)
            have hB := Lib.hid hb
            clear hb h
            rcases Nat.eq_zero_or_pos pos with hz | hz
            · have ez : (((pos : Nat) : Int) == 0) = true := beq_iff_eq.mpr (by omega)
              have ey : (pos = 0) = True := eq_true hz
              have hN : nameL true a0.data.toList = false := by
                rw [← HN.out]; exact hX.out.first (by have := hB.out; omega) hz
              clear hz
              go_wp2
              rw [hN]
              go_ret
              exact ⟨rfl, (Below.refl _ _).alloc (Nat.le_refl _) _⟩
            · have ez : (((pos : Nat) : Int) == 0) = false := beq_eq_false_iff_ne.mpr (by omega)
              have ey : (pos = 0) = False := eq_false (by omega)
              have hK := hX.out.other (by have := hB.out; omega) (by omega)
              clear hz
              go_wp2
              go_roundw
              case rel => exact ⟨q, rfl, hK.1, Lib.hid (hK.2.2.trans HN.out)⟩
              case measure => simp only [nm_pos]; have := hK.2.1; omega
          · have hb : 57 < x ∧ x < 97 ∧ x ≠ 95 := h
            have ea : (97 ≤ x) = False := eq_false (by omega)
            have eb : (x ≤ 122) = True := eq_true (by omega)
            have ec : (48 ≤ x) = True := eq_true (by omega)
            have ed : (x ≤ 57) = False := eq_false (by omega)
            have ee : (x == 95) = false := beq_eq_false_iff_ne.mpr (by omega)
            have hB := Lib.hid hb
            clear hb h
            rcases Nat.eq_zero_or_pos pos with hz | hz
            · have ez : (((pos : Nat) : Int) == 0) = true := beq_iff_eq.mpr (by omega)
              have ey : (pos = 0) = True := eq_true hz
              have hN : nameL true a0.data.toList = false := by
                rw [← HN.out]; exact hX.out.bad (by have := hB.out; omega)
              clear hz
              go_wp2
              rw [hN]
              go_ret
              exact ⟨rfl, (Below.refl _ _).alloc (Nat.le_refl _) _⟩
            · have ez : (((pos : Nat) : Int) == 0) = false := beq_eq_false_iff_ne.mpr (by omega)
              have ey : (pos = 0) = False := eq_false (by omega)
              have hN : nameL true a0.data.toList = false := by
                rw [← HN.out]; exact hX.out.bad (by have := hB.out; omega)
              clear hz
              go_wp2
              rw [hN]
              go_ret
              exact ⟨rfl, (Below.refl _ _).alloc (Nat.le_refl _) _⟩
          · have hb : x = 95 := h
            have ea : (97 ≤ x) = False := eq_false (by omega)
            have eb : (x ≤ 122) = True := eq_true (by omega)
            have ec : (48 ≤ x) = True := eq_true (by omega)
            have ed : (x ≤ 57) = False := eq_false (by omega)
            have ee : (x == 95) = true := beq_iff_eq.mpr (by omega)
            have hB := Lib.hid hb
            clear hb h
            rcases Nat.eq_zero_or_pos pos with hz | hz
            · have ez : (((pos : Nat) : Int) == 0) = true := beq_iff_eq.mpr (by omega)
              have ey : (pos = 0) = True := eq_true hz
              have hN : nameL true a0.data.toList = false := by
                rw [← HN.out]; exact hX.out.first (by have := hB.out; omega) hz
              clear hz
              go_wp2
              rw [hN]
              go_ret
              exact ⟨rfl, (Below.refl _ _).alloc (Nat.le_refl _) _⟩
            · have ez : (((pos : Nat) : Int) == 0) = false := beq_eq_false_iff_ne.mpr (by omega)
              have ey : (pos = 0) = False := eq_false (by omega)
              have hK := hX.out.other (by have := hB.out; omega) (by omega)
              clear hz
              go_wp2
              go_roundw
              case rel => exact ⟨q, rfl, hK.1, Lib.hid (hK.2.2.trans HN.out)⟩
              case measure => simp only [nm_pos]; have := hK.2.1; omega
          · have hb : 97 ≤ x ∧ x ≤ 122 := h
            have ea : (97 ≤ x) = True := eq_true (by omega)
            have eb : (x ≤ 122) = True := eq_true (by omega)
            have ec : (48 ≤ x) = True := eq_true (by omega)
            have ed : (x ≤ 57) = False := eq_false (by omega)
            have ee : (x == 95) = false := beq_eq_false_iff_ne.mpr (by omega)
            have hB := Lib.hid hb
            clear hb h
            rcases Nat.eq_zero_or_pos pos with hz | hz
            · have ez : (((pos : Nat) : Int) == 0) = true := beq_iff_eq.mpr (by omega)
              have ey : (pos = 0) = True := eq_true hz
              have hK := hX.out.letter (by have := hB.out; omega)
              clear hz
              go_wp2
              go_roundw
              case rel => exact ⟨q, rfl, hK.1, Lib.hid (hK.2.2.trans HN.out)⟩
              case measure => simp only [nm_pos]; have := hK.2.1; omega
            · have ez : (((pos : Nat) : Int) == 0) = false := beq_eq_false_iff_ne.mpr (by omega)
              have ey : (pos = 0) = False := eq_false (by omega)
              have hK := hX.out.letter (by have := hB.out; omega)
              clear hz
              go_wp2
              go_roundw
              case rel => exact ⟨q, rfl, hK.1, Lib.hid (hK.2.2.trans HN.out)⟩
              case measure => simp only [nm_pos]; have := hK.2.1; omega
          · have hb : 122 < x := h
            have ea : (97 ≤ x) = True := eq_true (by omega)
            have eb : (x ≤ 122) = False := eq_false (by omega)
            have ec : (48 ≤ x) = True := eq_true (by omega)
            have ed : (x ≤ 57) = False := eq_false (by omega)
            have ee : (x == 95) = false := beq_eq_false_iff_ne.mpr (by omega)
            have hB := Lib.hid hb
            clear hb h
            rcases Nat.eq_zero_or_pos pos with hz | hz
            · have ez : (((pos : Nat) : Int) == 0) = true := beq_iff_eq.mpr (by omega)
              have ey : (pos = 0) = True := eq_true hz
              have hN : nameL true a0.data.toList = false := by
                rw [← HN.out]; exact hX.out.bad (by have := hB.out; omega)
              clear hz
              go_wp2
              rw [hN]
              go_ret
              exact ⟨rfl, (Below.refl _ _).alloc (Nat.le_refl _) _⟩
            · have ez : (((pos : Nat) : Int) == 0) = false := beq_eq_false_iff_ne.mpr (by omega)
              have ey : (pos = 0) = False := eq_false (by omega)
              have hN : nameL true a0.data.toList = false := by
                rw [← HN.out]; exact hX.out.bad (by have := hB.out; omega)
              clear hz
              go_wp2
              rw [hN]
              go_ret
              exact ⟨rfl, (Below.refl _ _).alloc (Nat.le_refl _) _⟩
        · have hnx : ∀ ty, (Instr.next (.pointer (some ⟨w.heap.size, 0, none⟩)) true ty).run Tryd.prog (w.alloc (.stringIter a0 pos)) = .ok (.tuple #[.bool false]) (w.alloc (.stringIter a0 pos)) := fun ty => run_next_end w a0 pos ty hlt
          have hN : nameL true a0.data.toList = true := by
            rw [← HN.out, List.drop_of_length_le (show a0.data.toList.length ≤ pos from by show a0.size ≤ pos; omega)]; rfl
          clear hlt
          go_wp2
          rw [hN]
          go_ret
          exact ⟨rfl, (Below.refl _ _).alloc (Nat.le_refl _) _⟩

end Go.Proofs.YtecojcpccglelaaDoor.PAll
