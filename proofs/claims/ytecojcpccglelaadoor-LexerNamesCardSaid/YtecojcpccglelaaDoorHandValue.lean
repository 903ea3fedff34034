/- Contracts by hand: labels.Value, at every string. -/
import Derived.Test.YtecojcpccglelaaDoorHandNames
namespace Go.Proofs.YtecojcpccglelaaDoor.PAll
open Go.RowKit Go.Proofs.YtecojcpccglelaaDoorW.PrintWords Go.Proofs.YtecojcpccglelaaDoorW.PrintLast

def valB (c : UInt8) : Bool := decide (33 ≤ c.toNat) && (decide (c.toNat ≤ 126) && !decide (c ∈ ([34, 92, 44, 123, 125] : List UInt8)))

theorem ix_res (c : UInt8) : decide (0 ≤ Lib.indexByte (⟨#[34, 92, 44, 123, 125]⟩ : ByteArray).data.toList c) = decide (c ∈ ([34, 92, 44, 123, 125] : List UInt8)) := by
  have h : ((List.range 256).all fun n => decide (0 ≤ Lib.indexByte (⟨#[34, 92, 44, 123, 125]⟩ : ByteArray).data.toList n.toUInt8) == decide (n.toUInt8 ∈ ([34, 92, 44, 123, 125] : List UInt8))) = true := by decide +kernel
  have h1 := List.all_eq_true.1 h c.toNat (List.mem_range.2 c.toNat_lt)
  have e : c.toNat.toUInt8 = c := by simp
  rw [e] at h1
  exact eq_of_beq h1

/-- What the next rune of a string says of a value. -/
structure NextVal (s : ByteArray) (pos : Nat) (x : Int) (q : Nat) (b : Bool) : Prop where
  run : ∀ {P : Program} (w : World) (ty : TypeId), (Instr.next (.pointer (some ⟨w.heap.size, 0, none⟩)) true ty).run P (w.alloc (.stringIter s pos)) = .ok (.tuple #[.bool true, .int .i64 pos, .int .i32 x]) (w.alloc (.stringIter s q))
  low : (x ≤ 32 ∨ 126 < x) → (s.data.toList.drop pos).all valB = false
  mid : (33 ≤ x ∧ x ≤ 126) → decide (0 ≤ Lib.indexByte (⟨#[34, 92, 44, 123, 125]⟩ : ByteArray).data.toList x.toNat.toUInt8) = b
  bad : (33 ≤ x ∧ x ≤ 126) → b = true → (s.data.toList.drop pos).all valB = false
  good : (33 ≤ x ∧ x ≤ 126) → b = false → q ≤ s.size ∧ pos < q ∧ (s.data.toList.drop q).all valB = (s.data.toList.drop pos).all valB

theorem next_val (s : ByteArray) (pos : Nat) (h : pos < s.size) : ∃ (x : Int) (q : Nat) (b : Bool), NextVal s pos x q b := by
  have hd := nm_drop s pos h
  by_cases ha : (s[pos]'h).toNat < 128
  · refine ⟨((s[pos]'h).toNat : Int), pos + 1, decide ((s[pos]'h) ∈ ([34, 92, 44, 123, 125] : List UInt8)), fun w ty => run_next_ascii w s pos ty h ha, fun hb => ?_, fun hb => ?_, fun hb hz => ?_, fun hb hz => ⟨h, by omega, ?_⟩⟩
    · have h1 : valB (s[pos]'h) = false := by
        unfold valB; simp only [Bool.and_eq_false_iff, decide_eq_false_iff_not]; omega
      rw [hd, List.all_cons, h1]; rfl
    · have e : (((s[pos]'h).toNat : Int).toNat).toUInt8 = s[pos]'h := by simp
      rw [e]; exact ix_res _
    · have h1 : valB (s[pos]'h) = false := by unfold valB; rw [hz]; simp
      rw [hd, List.all_cons, h1]; rfl
    · have h1 : valB (s[pos]'h) = true := by
        unfold valB; rw [hz]; simp only [Bool.and_eq_true, decide_eq_true_eq]
        exact ⟨by omega, by omega, rfl⟩
      rw [hd, List.all_cons, h1]; rfl
  · obtain ⟨d1, d2⟩ := decode_high s pos h (by omega)
    refine ⟨((Utf8.decode s pos).1 : Int), pos + (Utf8.decode s pos).2, false, fun w ty => run_next_any w s pos ty h, fun hb => ?_, fun hb => by omega, fun hb hz => by omega, fun hb => by omega⟩
    have h1 : valB (s[pos]'h) = false := by
      unfold valB; simp only [Bool.and_eq_false_iff, decide_eq_false_iff_not]; omega
    rw [hd, List.all_cons, h1]; rfl

def labels_Value.f (a0 : ByteArray) : Option Bool := some (if (a0.size : Int) > 16 then false else a0.data.toList.all valB)

set_option maxHeartbeats 1000000 in
set_option maxRecDepth 100000 in
theorem labels_Value.calls (a0 : ByteArray) (r : Bool) (w : World) (h : labels_Value.f a0 = some r) :
    Calls Tryd.prog 22 #[.string a0] w fun e w' => e = .returned (.bool r) ∧ Below w.heap.size w w' := by
  cases Option.some.inj h
  clear h
  by_cases c2 : (a0.size : Int) > 16
  · rw [if_pos c2]
    have c2b0 : decide ((a0.size : Int) > 16) = true := decide_eq_true c2
    have c2b1 : decide (16 < (a0.size : Int)) = true := decide_eq_true c2
    clear c2
    go_enter Tryd.func22, Tryd.ntmps22
    go_wp2
    go_ret
    exact ⟨rfl, Below.refl _ _⟩
  · rw [if_neg c2]
    have c2b0 : decide ((a0.size : Int) > 16) = false := decide_eq_false c2
    have c2b1 : decide (16 < (a0.size : Int)) = false := decide_eq_false c2
    clear c2
    go_enter Tryd.func22, Tryd.ntmps22
    go_wp2
    go_loopw [4] (fun v wr => ∃ (pos : Nat), wr = w.alloc (.stringIter a0 pos) ∧ pos ≤ a0.size ∧ Hid ((a0.data.toList.drop pos).all valB = a0.data.toList.all valB)) (fun _ wr => a0.size - wr.iterPos w.heap.size)
    case atStart => exact ⟨0, rfl, Nat.zero_le _, Lib.hid rfl⟩
    case round =>
      obtain ⟨pos, rfl, hp, HN⟩ := hrel
      by_cases hlt : pos < a0.size
      · obtain ⟨x, q, b, hx⟩ : ∃ (x : Int) (q : Nat) (b : Bool), NextVal a0 pos x q b := next_val a0 pos hlt
        have hnx : ∀ ty, (Instr.next (.pointer (some ⟨w.heap.size, 0, none⟩)) true ty).run Tryd.prog (w.alloc (.stringIter a0 pos)) = .ok (.tuple #[.bool true, .int .i64 pos, .int .i32 x]) (w.alloc (.stringIter a0 q)) := fun ty => (hx.run w ty)
        have hX := Lib.hid hx
        clear hx
        have hcl : x ≤ 32 ∨ 126 < x ∨ (33 ≤ x ∧ x ≤ 126) := by omega
        rcases hcl with h | h | h
        · have ea : (x ≤ 32) = True := eq_true h
          have hN : a0.data.toList.all valB = false := by rw [← HN.out]; exact hX.out.low (.inl h)
          clear h
          go_wp2
          rw [hN]
          go_ret
          exact ⟨rfl, (Below.refl _ _).alloc (Nat.le_refl _) _⟩
        · have ea : (x ≤ 32) = False := eq_false (by omega)
          have eb : (126 < x) = True := eq_true h
          have hN : a0.data.toList.all valB = false := by rw [← HN.out]; exact hX.out.low (.inr h)
          clear h
          go_wp2
          rw [hN]
          go_ret
          exact ⟨rfl, (Below.refl _ _).alloc (Nat.le_refl _) _⟩
        · have ea : (x ≤ 32) = False := eq_false (by omega)
          have eb : (126 < x) = False := eq_false (by omega)
          have hC := Tryd.strings_ContainsRune_ascii ⟨#[34, 92, 44, 123, 125]⟩ x (w.alloc (.stringIter a0 q)) (by omega) (by omega)
          rw [hX.out.mid h] at hC
          have hB := Lib.hid h
          clear h
          cases b with
          | true =>
            have hN : a0.data.toList.all valB = false := by rw [← HN.out]; exact hX.out.bad hB.out rfl
            go_wp2_with fail
            refine hC.mono ?_
            rintro e w' ⟨rfl, rfl⟩
            go_wp2
            rw [hN]
            go_ret
            exact ⟨rfl, (Below.refl _ _).alloc (Nat.le_refl _) _⟩
          | false =>
            have hK := hX.out.good hB.out rfl
            go_wp2_with fail
            refine hC.mono ?_
            rintro e w' ⟨rfl, rfl⟩
            go_wp2
            go_roundw
            case rel => exact ⟨q, rfl, hK.1, Lib.hid (hK.2.2.trans HN.out)⟩
            case measure => simp only [nm_pos]; have := hK.2.1; omega
      · have hnx : ∀ ty, (Instr.next (.pointer (some ⟨w.heap.size, 0, none⟩)) true ty).run Tryd.prog (w.alloc (.stringIter a0 pos)) = .ok (.tuple #[.bool false]) (w.alloc (.stringIter a0 pos)) := fun ty => run_next_end w a0 pos ty hlt
        have hN : a0.data.toList.all valB = true := by
          rw [← HN.out, List.drop_of_length_le (show a0.data.toList.length ≤ pos from by show a0.size ≤ pos; omega)]; rfl
        clear hlt
        go_wp2
        rw [hN]
        go_ret
        exact ⟨rfl, (Below.refl _ _).alloc (Nat.le_refl _) _⟩

end Go.Proofs.YtecojcpccglelaaDoor.PAll
