/- covers says true of every source, in plain Lean. -/
import Derived.Test.YtecojcpccglelaaDoorChain
import Derived.Test.YtecojcpccglelaaDoorAgreeM
import Derived.Test.YtecojcpccglelaaDoorPAllx9
namespace Go.Proofs.YtecojcpccglelaaDoor.LexB
open Go.RowKit Go.Proofs.YtecojcpccglelaaDoor.PAll Go.Proofs.YtecojcpccglelaaDoorW.PrintWords Go.Proofs.YtecojcpccglelaaDoorW.PrintLast
open Go.Proofs.YtecojcpccglelaaDoor.Spec Go.Proofs.YtecojcpccglelaaDoor.LexA

/-- The last loop: only white space is left. -/
theorem rest_ev (s : ByteArray) (hs : s.size ≤ 4000) : ∀ (l : List UInt8) (p : Nat), s.data.toList.drop p = l → p ≤ s.size → (∀ c ∈ l, isWhite c = true) → Ev (fun k => intervalmonlaw06_covers.l1 k 0 s (p : Int)) true := by
  intro l
  induction l with
  | nil =>
    intro p h hp _
    have he := drop_nil h hp
    refine Ev.step (f := fun _ => some true) (fun k => ?_) (Ev.now _)
    rw [intervalmonlaw06_covers.l1, if_neg (by omega)]; rfl
  | cons c r ih =>
    intro p h hp hw
    have hlt := drop_lt h
    have hb := bt_drop h
    have hn := wrap_next hlt (by omega)
    have hi := ih (p + 1) (drop_next h) hlt (fun d hd => hw d (List.mem_cons_of_mem _ hd))
    have hc := hw c (List.mem_cons_self ..)
    refine Ev.step (fun k => ?_) hi
    rw [intervalmonlaw06_covers.l1, if_pos (by omega), if_pos (by omega), hb, hn]
    unfold isWhite at hc
    simp only [Bool.or_eq_true, beq_iff_eq] at hc
    rcases hc with ((h1 | h1) | h1) | h1
    · subst h1; rfl
    · subst h1; rfl
    · subst h1; rfl
    · subst h1; rfl

theorem body {α : Type} (s W x6 : ByteArray) (off p n : Nat) (X F N : α) (hn : W.size = n) (h0 : 0 < n) (h1 : off + n ≤ s.size) (hs : s.size ≤ 2000) (hp : p ≤ off) (h6 : x6.size ≤ 2000)
    (hw : (s.extract off (off + n)).toList = W.toList) :
    (if ((off : Nat) : Int) < ((p : Nat) : Int) then F else (if W.toList = ([] : List UInt8) then F else (if (wrap64 (((off : Nat) : Int) + (W.size : Int))) > (s.size : Int) then F else (if 0 ≤ ((off : Nat) : Int) then (if ((off : Nat) : Int) ≤ (wrap64 (((off : Nat) : Int) + (W.size : Int))) then (if (wrap64 (((off : Nat) : Int) + (W.size : Int))) ≤ (s.size : Int) then
      (if (s.extract (((off : Nat) : Int)).toNat ((wrap64 (((off : Nat) : Int) + (W.size : Int))) : Int).toNat).toList = W.toList then (if 0 ≤ ((p : Nat) : Int) then (if ((p : Nat) : Int) ≤ ((off : Nat) : Int) then (if ((off : Nat) : Int) ≤ (s.size : Int) then (if x6.size + (s.extract (((p : Nat) : Int)).toNat (((off : Nat) : Int)).toNat).size ≤ 9223372036854775807 then X else N) else N) else N) else N) else F) else N) else N) else N)))) = X := by
  have e : wrap64 (((off : Nat) : Int) + (W.size : Int)) = ((off + n : Nat) : Int) := by rw [hn]; unfold wrap64; omega
  have hne : ¬ W.toList = ([] : List UInt8) := by
    intro h
    have h2 : W.toList.length = W.size := by rw [Lib.toList_data]; rfl
    rw [h, hn] at h2
    simp at h2; omega
  have hsz : x6.size + (s.extract p off).size ≤ 9223372036854775807 := by
    have : (s.extract p off).size ≤ s.size := by rw [ByteArray.size_extract]; omega
    omega
  rw [e, if_neg (by omega), if_neg hne, if_neg (by omega), if_pos (by omega), if_pos (by omega), if_pos (by omega), Int.toNat_natCast, Int.toNat_natCast, Int.toNat_natCast, if_pos hw, if_pos (by omega), if_pos (by omega), if_pos (by omega), if_pos hsz]

theorem small {a n : Nat} (h : a + 1 = n) (hn : n ≤ 2000) : a ≤ 9223372036854775807 := by omega
theorem small0 {a n : Nat} (h : a = n) (hn : n ≤ 2000) : a ≤ 9223372036854775807 := by omega

theorem ext_list (s : ByteArray) (a b : Nat) : (s.extract a b).toList = (s.data.toList.drop a).take (b - a) := by
  rw [Lib.toList_data, extract_mk]

theorem loop_last (s : ByteArray) (hs : s.size ≤ 2000) (ts : List T) (x6 : ByteArray) (h6 : x6.size ≤ 2000) (hw : ∀ c ∈ x6.data.toList, isWhite c = true) (p i : Nat) (hp : p ≤ s.size) (hi : ¬ i < ts.length) (hc : ∀ c ∈ s.data.toList.drop p, isWhite c = true) :
    Ev (fun k => intervalmonlaw06_covers.l0 k s (ts.map toS) 0 x6 (p : Int) (i : Int)) true := by
  have hl : ¬ ((i : Nat) : Int) < ((ts.map toS).length : Int) := by rw [List.length_map]; omega
  have hsz : (s.extract p s.size).size ≤ s.size := by rw [ByteArray.size_extract]; omega
  have hb : x6.size + (s.extract p s.size).size ≤ 9223372036854775807 := by omega
  have hd : (x6 ++ s.extract p s.size).data.toList = x6.data.toList ++ s.data.toList.drop p := by
    rw [ByteArray.data_append, Array.toList_append, extract_mk]
    congr 1
    exact List.take_of_length_le (by rw [List.length_drop, len_toList]; exact Nat.le_refl _)
  have hz : (x6 ++ s.extract p s.size).size ≤ 4000 := by rw [ByteArray.size_append]; omega
  have hr := rest_ev (x6 ++ s.extract p s.size) hz _ 0 rfl (Nat.zero_le _) (fun c hc' => by
    rw [List.drop_zero, hd] at hc'
    rcases List.mem_append.1 hc' with h | h
    · exact hw c h
    · exact hc c h)
  refine Ev.step (fun k => ?_) hr
  rw [intervalmonlaw06_covers.l0, if_neg hl, if_pos (by omega), if_pos (by omega), Int.toNat_natCast, if_pos hb]; rfl

theorem covers_loop (s : ByteArray) (hs : s.size ≤ 2000) (ts : List T) (hts : ts.length ≤ 2000) : ∀ (d i p : Nat) (x6 : ByteArray), ts.length - i = d → i ≤ ts.length → p ≤ s.size → x6.size ≤ p → (∀ c ∈ x6.data.toList, isWhite c = true) → Chain s.data.toList p (ts.drop i) →
    Ev (fun k => intervalmonlaw06_covers.l0 k s (ts.map toS) 0 x6 (p : Int) (i : Int)) true := by
  intro d
  induction d with
  | zero =>
    intro i p x6 hd hi hp h6 hw hch
    rw [List.drop_eq_nil_iff.2 (by omega)] at hch
    exact loop_last s hs ts x6 (by omega) hw p i hp (by omega) hch
  | succ d ih =>
    intro i p x6 hd hi hp h6 hw hch
    have hlt : i < ts.length := by omega
    have ht : ts[i]? = some ts[i] := List.getElem?_eq_getElem hlt
    have hrd := rd37 ts i _ ht
    rw [List.drop_eq_getElem_cons hlt] at hch
    generalize ts[i] = t at ht hrd hch
    obtain ⟨c1, c2, c3, c4, c5, c6⟩ := hch
    rw [len_toList] at c4
    have hd2 : (x6 ++ s.extract p t.off).data.toList = x6.data.toList ++ (s.data.toList.drop p).take (t.off - p) := by
      rw [ByteArray.data_append, Array.toList_append, extract_mk]
    have hz : (x6 ++ s.extract p t.off).size ≤ t.off + (tokBytes t.kind t.text).length := by
      rw [ByteArray.size_append, ByteArray.size_extract]; omega
    have hi' := ih (i + 1) (t.off + (tokBytes t.kind t.text).length) (x6 ++ s.extract p t.off) (by omega) (by omega) c4 hz (fun c hc' => by
      rw [hd2] at hc'
      rcases List.mem_append.1 hc' with h | h
      · exact hw c h
      · exact c2 c h) c6
    have hl : ((i : Nat) : Int) < ((ts.map toS).length : Int) := by rw [List.length_map]; omega
    have hi0 : (0 : Int) ≤ ((i : Nat) : Int) := Int.natCast_nonneg _
    have hw5 : (s.extract t.off (t.off + (tokBytes t.kind t.text).length)).toList = tokBytes t.kind t.text := by
      rw [ext_list, Nat.add_sub_cancel_left]; exact c5
    have hwr := wrap_next hlt (by omega)
    have eo : wrap64 (((t.off : Nat) : Int) + (((tokBytes t.kind t.text).length : Nat) : Int)) = ((t.off + (tokBytes t.kind t.text).length : Nat) : Int) := by unfold wrap64; omega
    by_cases hk : t.kind = 2
    · have hW : (((⟨#[34]⟩ : ByteArray) ++ (⟨t.text.toArray⟩ : ByteArray)) ++ (⟨#[34]⟩ : ByteArray)).toList = tokBytes t.kind t.text := by
        rw [Lib.toList_data, ByteArray.data_append, ByteArray.data_append, Array.toList_append, Array.toList_append]
        unfold tokBytes
        rw [if_pos hk]; rfl
      have hWs : (((⟨#[34]⟩ : ByteArray) ++ (⟨t.text.toArray⟩ : ByteArray)) ++ (⟨#[34]⟩ : ByteArray)).size = (tokBytes t.kind t.text).length := by
        rw [← hW, Lib.toList_data]; rfl
      have s1 : ((⟨#[34]⟩ : ByteArray) ++ (⟨t.text.toArray⟩ : ByteArray)).size + 1 = (tokBytes t.kind t.text).length := by
        have h := ByteArray.size_append (a := (⟨#[34]⟩ : ByteArray) ++ (⟨t.text.toArray⟩ : ByteArray)) (b := (⟨#[34]⟩ : ByteArray))
        rw [hWs] at h; exact h.symm
      have s2 : 1 + (⟨t.text.toArray⟩ : ByteArray).size + 1 = (tokBytes t.kind t.text).length := by
        have h := ByteArray.size_append (a := (⟨#[34]⟩ : ByteArray)) (b := (⟨t.text.toArray⟩ : ByteArray))
        rw [h] at s1; exact s1
      have hle : (tokBytes t.kind t.text).length ≤ 2000 := Nat.le_trans (Nat.le_trans (Nat.le_add_left _ _) c4) hs
      refine Ev.step (fun k => ?_) hi'
      rw [intervalmonlaw06_covers.l0, if_pos hl, if_pos hi0, hrd]
      refine (if_pos hk).trans ((if_pos (small s2 hle)).trans ((if_pos (small0 s1 hle)).trans ?_))
      refine (body s _ x6 t.off p _ _ _ _ hWs c3 c4 hs c1 (by omega) (by rw [hw5, hW])).trans ?_
      rw [hwr]
      show intervalmonlaw06_covers.l0 k s _ 0 (x6 ++ s.extract p t.off) (wrap64 (((t.off : Nat) : Int) + ((((⟨#[34]⟩ : ByteArray) ++ (⟨t.text.toArray⟩ : ByteArray)) ++ (⟨#[34]⟩ : ByteArray)).size : Int))) _ = _
      rw [hWs, eo]
    · have hW : ((⟨t.text.toArray⟩ : ByteArray)).toList = tokBytes t.kind t.text := by
        rw [Lib.toList_data]; unfold tokBytes; rw [if_neg hk]
      have hWs : (⟨t.text.toArray⟩ : ByteArray).size = (tokBytes t.kind t.text).length := by
        rw [← hW, Lib.toList_data]; rfl
      refine Ev.step (fun k => ?_) hi'
      rw [intervalmonlaw06_covers.l0, if_pos hl, if_pos hi0, hrd]
      refine (if_neg hk).trans ?_
      refine (body s _ x6 t.off p _ _ _ _ hWs c3 c4 hs c1 (by omega) (by rw [hw5, hW])).trans ?_
      rw [hwr]
      show intervalmonlaw06_covers.l0 k s _ 0 (x6 ++ s.extract p t.off) (wrap64 (((t.off : Nat) : Int) + ((⟨t.text.toArray⟩ : ByteArray).size : Int))) _ = _
      rw [hWs, eo]

theorem covers_ev (s : ByteArray) : Ev (fun k => intervalmonlaw06_covers.f k s) true := by
  have hlen := answer_len s.data.toList
  rcases answer_cases s.data.toList with ⟨he, ht, a, ha, hal⟩ | ⟨he, hl, hc, _⟩
  · refine Ev.bind (tokens_ev s) ?_
    rw [len_toList] at hal
    refine Ev.congr (f := fun _ => some true) (fun k => ?_) (Ev.now _)
    refine (if_neg he).trans ?_
    rw [ht, ha]
    refine (if_pos rfl).trans ((if_pos (show ((a : Nat) : Int) ≥ 0 by omega)).trans ?_)
    rw [decide_eq_true (show ((a : Nat) : Int) ≤ (s.size : Int) by omega)]
  · rw [len_toList] at hl
    have hk := covers_loop s hl (answer s.data.toList).1 hlen _ 0 0 ⟨#[]⟩ rfl (Nat.zero_le _) (Nat.zero_le _) (Nat.le_refl _) (fun c hc => by cases hc) hc
    have ht := tokens_ev s
    rw [he] at ht
    refine Ev.bind ht ?_
    exact Ev.congr (fun k => if_pos rfl) hk

end Go.Proofs.YtecojcpccglelaaDoor.LexB
