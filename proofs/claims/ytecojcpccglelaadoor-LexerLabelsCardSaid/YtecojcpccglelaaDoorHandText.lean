/- Contracts by hand: (*strings.Builder).copyCheck and WriteString of a builder that the call has made; labels.Text. -/
import Derived.Test.YtecojcpccglelaaDoorPAllx0
import Derived.Test.YtecojcpccglelaaDoorShelfB
import Derived.Lib.Hide
import Derived.Lib.OwnKind
namespace Go.Proofs.YtecojcpccglelaaDoor.PAll
open Go.Shelf Go.RowKit Go.Proofs.YtecojcpccglelaaDoorW.PrintWords Go.Proofs.YtecojcpccglelaaDoorW.PrintLast

set_option maxHeartbeats 1000000 in
set_option maxRecDepth 100000 in
theorem check_used (b : Nat) (w : World) (h0 : w.cell? ⟨b, 0, none⟩ = some (.pointer (some ⟨b, 0, none⟩))) :
    Calls Tryd.prog 51 #[.pointer (some ⟨b, 0, none⟩)] w fun e w' => e = .returned (.tuple #[]) ∧ w' = w := by
  obtain ⟨j, hj, _⟩ := Option.map_eq_some_iff.1 (show (Tryd.prog.info? 65).map (fun i => i.size) = some 2 by kernel_rfl)
  go_enter Tryd.func51, Tryd.ntmps51
  go_wp2
  rw [Lib.run_neq_ptr_same w _ Tryd.underlying62 hj]
  go_wp2
  go_end0
  exact ⟨rfl, rfl⟩

set_option maxHeartbeats 1000000 in
set_option maxRecDepth 100000 in
theorem check_fresh (b : Nat) (w : World) (h0 : w.cell? ⟨b, 0, none⟩ = some (.pointer none)) (hsh : w.shape? b = some (65, 2)) (hfz : w.frozen? ⟨b, 0, none⟩ = false) :
    Calls Tryd.prog 51 #[.pointer (some ⟨b, 0, none⟩)] w fun e w' => e = .returned (.tuple #[]) ∧ w' = w.setCell ⟨b, 0, none⟩ (.pointer (some ⟨b, 0, none⟩)) := by
  obtain ⟨j, hj, hjs⟩ := Option.map_eq_some_iff.1 (show (Tryd.prog.info? 65).map (fun i => i.size) = some 2 by kernel_rfl)
  go_enter Tryd.func51, Tryd.ntmps51
  go_wp2
  rw [Lib.run_to_unsafe w ⟨b, 0, none⟩ Tryd.underlying62 Tryd.underlying101 hj (by rw [hjs]; decide) hsh (Nat.zero_lt_succ 1)]
  simp only [Result.andThen]
  rw [Oper.upon_value]
  go_wp2
  rw [run_callFunc_extern Tryd.func65 (by kernel_rfl) (by kernel_rfl) (by kernel_rfl) (e := Extern.AbiNoEscape.same) (by kernel_rfl)]
  rw [Lib.run_noEscape]
  simp only [Result.andThen]
  rw [Oper.upon_value]
  go_wp2
  rw [Lib.run_from_unsafe w ⟨b, 0, none⟩ Tryd.underlying101 Tryd.underlying62 hj hsh Tryd.Builder_Extra_169.liesBuilder]
  simp only [Result.andThen]
  rw [Oper.upon_value]
  go_wp2
  go_end0
  exact ⟨rfl, rfl⟩

/-- Labels' variables stay as they are. -/
def Stay43 (w w' : World) : Prop := ∀ (k : Nat) (cs : Array Value), w.heap[k]? = some (.cells cs 43 (0, 0)) → w'.heap[k]? = some (.cells cs 43 (0, 0))
theorem stay_set {w : World} {b : Nat} {cs : Array Value} {j : Nat} (hb : w.heap[b]? = some (.cells cs 65 (0, 0))) (v : Value) : Stay43 w (w.setCell ⟨b, j, none⟩ v) := fun k c hk => by
  have hne : b ≠ k := by rintro rfl; rw [hb] at hk; cases hk
  show (w.heap.modify b _)[k]? = _
  rw [Array.getElem?_modify, if_neg hne]; exact hk

theorem copy_check (B b : Nat) (bs : List Value) (w : World) (h : Lib.IsBuilder 65 5 B b bs w) :
    Calls Tryd.prog 51 #[.pointer (some ⟨b, 0, none⟩)] w fun e w' => e = .returned (.tuple #[]) ∧ (Lib.BuilderAt 65 5 B b (.pointer (some ⟨b, 0, none⟩)) bs w' ∧ Below B w w' ∧ Stay43 w w') := by
  rcases h with h | h
  · refine (check_fresh b w h.cell0 h.shape h.frozen0).mono ?_
    rintro e w' ⟨rfl, rfl⟩
    exact ⟨rfl, h.used _, (Below.refl B w).setCell (p := ⟨b, 0, none⟩) h.1 _, by obtain ⟨_, v, hb, _⟩ := h; exact stay_set hb _⟩
  · refine (check_used b w h.cell0).mono ?_
    rintro e w' ⟨rfl, rfl⟩
    exact ⟨rfl, h, Below.refl B _, fun _ _ h => h⟩

set_option maxHeartbeats 2000000 in
set_option maxRecDepth 100000 in
theorem write_string (B b : Nat) (bs : List Value) (s : ByteArray) (w : World) (h : Lib.IsBuilder 65 5 B b bs w) (hlen : bs.length + s.size ≤ 140737488355328) (hBw : B ≤ w.heap.size) :
    Calls Tryd.prog 34 #[.pointer (some ⟨b, 0, none⟩), .string s] w fun e w' => e = .returned (.tuple #[.int .i64 s.size, .nilIface]) ∧ (Lib.BuilderAt 65 5 B b (.pointer (some ⟨b, 0, none⟩)) (bs ++ Lib.strCells s) w' ∧ Below B w w' ∧ Stay43 w w') := by
  obtain ⟨i0, hi, hz0, hz1, hz2⟩ := info_parts Tryd.Builder_Extra_169.infoByte
  go_enter Tryd.func34, Tryd.ntmps34
  go_wp2_with fail
  refine (copy_check B b bs _ h).mono ?_
  rintro e w1 ⟨rfl, h1, hb1, hs1⟩
  obtain ⟨hB, v, hbk, hown, hne⟩ := h1
  have c0 : w1.cell? ⟨b, 0, none⟩ = some (.pointer (some ⟨b, 0, none⟩)) := by rw [Lib.cell_of_heap hbk]; rfl
  have c1 : w1.cell? ⟨b, 1, none⟩ = some v := by rw [Lib.cell_of_heap hbk]; rfl
  go_wp2_with (at_builtin; refine Lib.wpList_append_own_string _ rfl _ _ 63 9 rfl B 5 i0 Tryd.underlying63 Tryd.underlying9 hi hz0 hz1 hz2 _ _ _ rfl hown s rfl ?c3 ?c4 ?c5 ?_)
  case c3 => unfold maxLen; omega
  case c4 => omega
  case c5 => have := hb1.size; omega
  intro v' w2 hown' hgrow _
  have hlt : b < w1.heap.size := by
    rcases Nat.lt_or_ge b w1.heap.size with h' | h'
    · exact h'
    · simp [Array.getElem?_eq_none h'] at hbk
  have hb2 : w2.heap[b]? = some (.cells #[.pointer (some ⟨b, 0, none⟩), v] 65 (0, 0)) := by
    rw [hgrow.block b hlt (fun e => hne e.symm)]
    exact hbk
  have d0 : w2.cell? ⟨b, 0, none⟩ = some (.pointer (some ⟨b, 0, none⟩)) := by rw [Lib.cell_of_heap hb2]; rfl
  have d1 : w2.cell? ⟨b, 1, none⟩ = some v := by rw [Lib.cell_of_heap hb2]; rfl
  have f1 : w2.frozen? ⟨b, 1, none⟩ = false := Lib.frozen_of_heap hb2 1
  obtain ⟨ao, n', cap, rfl⟩ : ∃ ao n' cap, v' = .slice ao n' cap := by
    rcases hown'.2 with ⟨hv, _⟩ | ⟨g, cap, cur, hv, _⟩
    · exact ⟨_, _, _, hv⟩
    · exact ⟨_, _, _, hv⟩
  go_wp2
  go_ret2
  refine ⟨rfl, ?_, ?_, fun k cs hk => stay_set hb2 _ k cs ?_⟩
  case refine_3 =>
    have h1 := hs1 k cs hk
    rw [hgrow.block k (Array.getElem?_eq_some_iff.1 h1).1 (fun e => by
      obtain ⟨c, fz, hc⟩ := Lib.ownsRow_kind hown k e.symm
      rw [h1] at hc; cases hc)]
    exact h1
  · exact Lib.BuilderAt.put (T := 65) (e := 5) hB hb2 (bs' := bs ++ Lib.strCells s) (by simpa [Lib.strCells_length] using hown') Tryd.Builder_Extra_169.neB5
  · exact (hb1.grown hgrow (by have := hb1.size; omega) (fun k hk => (hown.lt k hk).1)).setCell (p := ⟨b, 1, none⟩) hB _

theorem at_stays {B b : Nat} {p : Value} {bs : List Value} {w w' : World} (h : Lib.BuilderAt 65 5 B b p bs w) (hh : ∀ k, k < w.heap.size → w'.heap[k]? = w.heap[k]?) : Lib.BuilderAt 65 5 B b p bs w' := by
  have hlt := h.lt
  obtain ⟨hB, v, hb, hown, hne⟩ := h
  refine ⟨hB, v, (hh b hlt).trans hb, ⟨hown.1, ?_⟩, hne⟩
  rcases hown.2 with h | ⟨g, cap, cur, hv, h1, h2, h3⟩
  · exact .inl h
  · exact .inr ⟨g, cap, cur, hv, h1, (hh g (Array.getElem?_eq_some_iff.1 h2).1).trans h2, h3⟩
theorem builder_stays {B b : Nat} {bs : List Value} {w w' : World} (h : Lib.IsBuilder 65 5 B b bs w) (hh : ∀ k, k < w.heap.size → w'.heap[k]? = w.heap[k]?) : Lib.IsBuilder 65 5 B b bs w' :=
  h.imp (at_stays · hh) (at_stays · hh)

theorem alloc_keeps (w : World) (o : Obj) (k : Nat) (h : k < w.heap.size) : (w.alloc o).heap[k]? = w.heap[k]? := Lib.alloc_old w o k h
/-- A label as it is written. -/
def labB (x : S43) : ByteArray := ((x.f0 ++ (⟨#[61, 34]⟩ : ByteArray)) ++ x.f1) ++ (⟨#[34]⟩ : ByteArray)
/-- Labels as they are written; none of them yet. -/
def labsL : Bool → List S43 → List UInt8
  | _, [] => []
  | first, x :: l => (if first then [] else [44]) ++ (labB x).data.toList ++ labsL false l
def labels_Text.f (l0 : List S43) : Option ByteArray :=
  if (labsL true l0).length ≤ 1000 then some ((⟨#[123]⟩ : ByteArray) ++ (⟨(labsL true l0).toArray⟩ : ByteArray) ++ (⟨#[125]⟩ : ByteArray)) else none

theorem labB_size (x : S43) : (labB x).size = x.f0.size + 2 + x.f1.size + 1 := by
  unfold labB; rw [ByteArray.size_append, ByteArray.size_append, ByteArray.size_append]; rfl
theorem labsL_len : ∀ (b : Bool) (l : List S43), l.length ≤ (labsL b l).length
  | _, [] => Nat.zero_le _
  | b, x :: l => by
    have h1 := labsL_len false l
    have h2 : (labB x).data.toList.length = (labB x).size := rfl
    have h3 := labB_size x
    rw [labsL]
    simp only [List.length_append, List.length_cons]
    omega
theorem labsL_drop (l0 : List S43) (i : Nat) (h : i < l0.length) : labsL (i == 0) (l0.drop i) = (if i = 0 then [] else [44]) ++ (labB (l0.getD i z43)).data.toList ++ labsL false (l0.drop (i + 1)) := by
  rw [List.drop_eq_getElem_cons h, labsL, List.getD_eq_getElem?_getD, List.getElem?_eq_getElem h, Option.getD_some]
  cases i <;> rfl

set_option maxHeartbeats 4000000 in
set_option maxRecDepth 100000 in
theorem labels_Text.calls (A0 : Option Addr) (c0 : Nat) (l0 : List S43) (r : ByteArray) (w : World) (hr0 : Kd.C k43 w A0 l0.length l0) (hc0 : l0.length ≤ c0) (h : labels_Text.f l0 = some r) :
    Calls Tryd.prog 24 #[.slice A0 l0.length c0] w fun e w' => e = .returned (.string r) ∧ Below w.heap.size w w' := by
  unfold labels_Text.f at h
  split at h
  case isFalse => cases h
  rename_i hle
  obtain rfl := Option.some.inj h
  clear h
  have hu43 := Tryd.underlying43
  have HR := Lib.hid hr0
  have HC := Lib.hid hc0
  have HL := Lib.hid hle
  have hshort := Nat.le_trans (labsL_len true l0) hle
  clear hr0 hc0 hle
  go_enter Tryd.func24, Tryd.ntmps24
  go_wp2
  have hB0 := Lib.fresh_isBuilder 65 5 w
  go_loopw [8] (fun v wr => ∃ (i : Nat) (bs : List UInt8), v = .int .i64 i ∧ i ≤ l0.length ∧ Hid (Lib.IsBuilder 65 5 w.heap.size w.heap.size (Lib.byteCells bs) wr) ∧ Hid (Below w.heap.size w wr) ∧ Hid (bs ++ labsL (i == 0) (l0.drop i) = labsL true l0)) (fun v _ => l0.length - (match v with | .int _ i => i.toNat | _ => 0))
  case atStart => exact ⟨0, [], rfl, Nat.zero_le _, Lib.hid hB0, Lib.hid ((Below.refl _ w).alloc (Nat.le_refl _) _), Lib.hid rfl⟩
  case round =>
    obtain ⟨i, bs, rfl, hi, HI, HB, HT⟩ := hrel
    by_cases hlt : i < l0.length
    · have hlt' : ((i : Int) < (l0.length : Int)) = True := eq_true (by omega)
      obtain ⟨ad, rfl, hx0, hx1⟩ := at_T43 (Kd.C_below HR.out HB.out) (i : Int) (by omega) (by omega)
      have hlt2 : ((i : Int) < (l0.length : Int)) := by omega
      have hi0 : (0 : Int) ≤ i := by omega
      have hd := labsL_drop l0 i hlt
      have hx : rd_T43 l0 (i : Int) = l0.getD i z43 := by unfold rd_T43; rw [Int.toNat_natCast]
      rw [← hx] at hd
      generalize rd_T43 l0 (i : Int) = x at hd hx0 hx1
      clear hx
      simp only [Int.toNat_natCast] at hx0 hx1
      have hsz := labB_size x
      have hlen : bs.length + ((if i = 0 then 0 else 1) + (x.f0.size + 2 + x.f1.size + 1)) ≤ 1000 := by
        have h1 := congrArg List.length HT.out
        rw [hd] at h1
        simp only [List.length_append] at h1
        have h2 : (labB x).data.toList.length = (labB x).size := rfl
        have h3 : (if i = 0 then ([] : List UInt8) else [44]).length = if i = 0 then 0 else 1 := by split <;> rfl
        have := HL.out
        omega
      have hwr : wrap64 ((i : Int) + 1) = (i : Int) + 1 := by unfold wrap64; omega
      have hbig : w.heap.size ≤ wr.heap.size := HB.out.size
      have q1 : x.f0.size + 2 ≤ 9223372036854775807 := by omega
      have q2 : x.f0.size + 2 + x.f1.size ≤ 9223372036854775807 := by omega
      have q3 : x.f0.size + 2 + x.f1.size + 1 ≤ 9223372036854775807 := by omega
      by_cases h0 : i = 0
      · have e0 : (0 < i) = False := eq_false (by omega)
        have hN : bs ++ (labB x).data.toList ++ labsL ((i + 1) == 0) (l0.drop (i + 1)) = labsL true l0 := by
          rw [← HT.out, hd, if_pos h0, List.nil_append, List.append_assoc]; rfl
        rw [if_pos h0] at hlen
        have HN := Lib.hid hN
        have HD := Lib.hid hlen
        clear hN hd hlen hsz h0
        go_wp2_with fail
        refine (write_string w.heap.size w.heap.size (Lib.byteCells bs) (labB x) _ (builder_stays HI.out fun k hk => alloc_keeps wr _ k hk) (by rw [Lib.byteCells_length, labB_size]; have := HD.out; omega) (by show _ ≤ (wr.heap.push _).size; rw [Array.size_push]; omega)).mono ?_
        rintro e w2 ⟨rfl, hb2, hw2, hs2⟩
        have hI2 : Lib.IsBuilder 65 5 w.heap.size w.heap.size (Lib.byteCells (bs ++ (labB x).data.toList)) w2 := .inr (by rw [Lib.byteCells_append]; exact hb2)
        have hB2 : Below w.heap.size w w2 := (HB.out.alloc hbig _).trans hw2
        have HI2 := Lib.hid hI2
        have HB2 := Lib.hid hB2
        clear hI2 hB2 hb2 hw2 hx0 hx1
        go_wp2
        go_roundw
        case rel => exact ⟨i + 1, _, rfl, hlt, HI2, HB2, HN⟩
        case measure => show l0.length - ((i : Int) + 1).toNat < l0.length - (i : Int).toNat; omega
      · have e0 : (0 < i) = True := eq_true (by omega)
        have hN : (bs ++ [44]) ++ (labB x).data.toList ++ labsL ((i + 1) == 0) (l0.drop (i + 1)) = labsL true l0 := by
          rw [← HT.out, hd, if_neg h0, List.append_assoc, List.append_assoc, List.append_assoc]; rfl
        rw [if_neg h0] at hlen
        have HN := Lib.hid hN
        have HD := Lib.hid hlen
        clear hN hd hlen hsz h0
        go_wp2_with fail
        refine (write_string w.heap.size w.heap.size (Lib.byteCells bs) (⟨#[44]⟩ : ByteArray) _ (builder_stays HI.out fun k hk => alloc_keeps wr _ k hk) (by rw [Lib.byteCells_length]; have := HD.out; show _ + 1 ≤ _; omega) (by show _ ≤ (wr.heap.push _).size; rw [Array.size_push]; omega)).mono ?_
        rintro e w2 ⟨rfl, hb2, hw2, hs2⟩
        have hI2 : Lib.IsBuilder 65 5 w.heap.size w.heap.size (Lib.byteCells (bs ++ [44])) w2 := .inr (by rw [Lib.byteCells_append]; exact hb2)
        have hB2 : Below w.heap.size w w2 := (HB.out.alloc hbig _).trans hw2
        have hv := hs2 wr.heap.size #[.string x.f0, .string x.f1] (by show (wr.heap.push _)[wr.heap.size]? = _; simp)
        have hv0 : w2.cell? ⟨wr.heap.size, 0, none⟩ = some (.string x.f0) := (Lib.cell_of_heap hv 0).trans rfl
        have hv1 : w2.cell? ⟨wr.heap.size, 1, none⟩ = some (.string x.f1) := (Lib.cell_of_heap hv 1).trans rfl
        have hbig2 : w.heap.size ≤ w2.heap.size := hB2.size
        have HI2 := Lib.hid hI2
        have HB2 := Lib.hid hB2
        clear hI2 hB2 hb2 hw2 hx0 hx1 hv hs2
        go_wp2_with fail
        refine (write_string w.heap.size w.heap.size (Lib.byteCells (bs ++ [44])) (labB x) _ HI2.out (by rw [Lib.byteCells_length, labB_size, List.length_append]; have := HD.out; simp only [List.length_cons, List.length_nil]; omega) hbig2).mono ?_
        rintro e w3 ⟨rfl, hb3, hw3, hs3⟩
        have hI3 : Lib.IsBuilder 65 5 w.heap.size w.heap.size (Lib.byteCells (bs ++ [44] ++ (labB x).data.toList)) w3 := .inr (by rw [Lib.byteCells_append]; exact hb3)
        have HI3 := Lib.hid hI3
        have HB3 := Lib.hid (HB2.out.trans hw3)
        clear hI3 hb3 hw3 hs3
        go_wp2
        go_roundw
        case rel => exact ⟨i + 1, _, rfl, hlt, HI3, HB3, HN⟩
        case measure => show l0.length - ((i : Int) + 1).toNat < l0.length - (i : Int).toNat; omega
    · have hge : ((i : Int) < (l0.length : Int)) = False := eq_false (by omega)
      have hbs : bs = labsL true l0 := by
        rw [← HT.out, List.drop_of_length_le (by omega), labsL, List.append_nil]
      subst hbs
      clear hlt
      go_wp2_with fail
      refine (Tryd.Builder_String_any w.heap.size w.heap.size _ _ HI.out HB.out.size).mono ?_
      rintro e w2 ⟨rfl, hw2⟩
      have HB2 := Lib.hid (HB.out.trans hw2)
      clear hw2
      have hl1 := HL.out
      have q1 : 1 + (labsL true l0).length ≤ 9223372036854775807 := by omega
      have q2 : 1 + (labsL true l0).length + 1 ≤ 9223372036854775807 := by omega
      clear hl1
      go_wp2
      go_ret
      exact ⟨rfl, HB2.out⟩
end Go.Proofs.YtecojcpccglelaaDoor.PAll
