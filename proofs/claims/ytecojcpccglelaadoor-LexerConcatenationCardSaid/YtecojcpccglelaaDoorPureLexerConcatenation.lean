/- The plain law of LexerConcatenation: the tokens of two sources with white space between are those of the parts, the second's moved. -/
import Derived.Test.YtecojcpccglelaaDoorGenM
import Derived.Test.YtecojcpccglelaaDoorShortM
import Derived.Test.YtecojcpccglelaaDoorConcatA
import Derived.Test.YtecojcpccglelaaDoorPAllx10
namespace Go.Proofs.YtecojcpccglelaaDoor.Pure
open Go.RowKit Go.Proofs.YtecojcpccglelaaDoor.PAll Go.Proofs.YtecojcpccglelaaDoorW.PrintWords Go.Proofs.YtecojcpccglelaaDoorW.PrintLast
open Go.Proofs.YtecojcpccglelaaDoor.LexB Go.Proofs.YtecojcpccglelaaDoor.LexA Go.Proofs.YtecojcpccglelaaDoor.Gen Go.Proofs.YtecojcpccglelaaDoor.Spec

theorem at_front {xs ys : List T} {i : Nat} (h : i < xs.length) : (xs ++ ys)[i]? = some xs[i] := by
  rw [List.getElem?_append_left h, List.getElem?_eq_getElem h]
theorem at_back {xs ys : List T} {i : Nat} {u : T} (d : Nat) (h : xs.length ≤ i) (hu : ys[i - xs.length]? = some u) : (xs ++ ys.map (moved d))[i]? = some (moved d u) := by
  rw [List.getElem?_append_right h, List.getElem?_map, hu]; rfl

theorem wsub {i n : Nat} (h : n ≤ i) (hi : i ≤ 4000) : wrap64 ((i : Int) - (n : Int)) = ((i - n : Nat) : Int) := by unfold wrap64; omega
theorem wadd {i n : Nat} (h : n ≤ 4000) (hi : i ≤ 4000) : wrap64 ((i : Int) + (n : Int)) = ((i + n : Nat) : Int) := by unfold wrap64; omega
theorem eq_self (t : S37) : ((!(t.f0 == t.f0)) || ((!(t.f1.toList == t.f1.toList)) || ((!(t.f2 == t.f2)) || (!(t.f3 == t.f3))))) = false := by simp

theorem concat_loop (xs ys : List T) (n : Nat) (hn : n ≤ 4000) (hx : xs.length ≤ 2000) (hy : ys.length ≤ 2000) (ho : ∀ u ∈ ys, u.off ≤ 2000) : ∀ (d i : Nat), (xs.length + ys.length) - i = d → i ≤ xs.length + ys.length →
    Ev (fun k => intervalmonlaw06_LexerConcatenation.l0 k (xs.map toS) (ys.map toS) ((xs ++ ys.map (moved n)).map toS) (n : Int) (i : Int)) true := by
  have hlen : ((xs ++ ys.map (moved n)).map toS).length = xs.length + ys.length := by rw [List.length_map, List.length_append, List.length_map]
  have hxl : (xs.map toS).length = xs.length := List.length_map ..
  have hyl : (ys.map toS).length = ys.length := List.length_map ..
  intro d
  induction d with
  | zero =>
    intro i hd hi
    refine Ev.step (fun k => ?_) (Ev.bind lives_ev (Ev.now _))
    have h1 : ¬ ((i : Nat) : Int) < (((xs ++ ys.map (moved n)).map toS).length : Int) := by rw [hlen]; omega
    rw [intervalmonlaw06_LexerConcatenation.l0, if_neg h1]
  | succ d ih =>
    intro i hd hi
    have hlt : i < xs.length + ys.length := by omega
    have h1 : ((i : Nat) : Int) < (((xs ++ ys.map (moved n)).map toS).length : Int) := by rw [hlen]; omega
    have h0 : (0 : Int) ≤ ((i : Nat) : Int) := Int.natCast_nonneg _
    have hw := wrap_next hlt (by omega)
    have hi' := ih (i + 1) (by omega) (by omega)
    by_cases hc : i < xs.length
    · have h2 : ((i : Nat) : Int) < ((xs.map toS).length : Int) := by rw [hxl]; omega
      have h3 : ¬ ((i : Nat) : Int) ≥ ((xs.map toS).length : Int) := by rw [hxl]; omega
      have r1 := rd37 (xs ++ ys.map (moved n)) i _ (at_front hc)
      have r2 := rd37 xs i _ (List.getElem?_eq_getElem hc)
      generalize xs[i] = t at r1 r2
      refine Ev.step (f := fun k => intervalmonlaw06_LexerConcatenation.j2 k (xs.map toS) (ys.map toS) ((xs ++ ys.map (moved n)).map toS) (n : Int) (i : Int) false (toS t).f0 (toS t).f1 (toS t).f2 (toS t).f3) (fun k => ?_) (Ev.step (fun k => ?_) hi')
      · rw [intervalmonlaw06_LexerConcatenation.l0, if_pos h1, if_pos h0, if_pos h2, r1, r2, eq_self]
      · rw [intervalmonlaw06_LexerConcatenation.j2, if_neg Bool.false_ne_true, if_neg h3, hw]
    · have h2 : ¬ ((i : Nat) : Int) < ((xs.map toS).length : Int) := by rw [hxl]; omega
      have h3 : ((i : Nat) : Int) ≥ ((xs.map toS).length : Int) := by rw [hxl]; omega
      have hb : i - xs.length < ys.length := by omega
      have hu := List.getElem?_eq_getElem hb
      have hoff := ho _ (List.getElem_mem hb)
      generalize ys[i - xs.length] = u at hu hoff
      have r1 := rd37 (xs ++ ys.map (moved n)) i _ (at_back n (by omega) hu)
      have r2 := rd37 ys (i - xs.length) _ hu
      have hs : wrap64 (((i : Nat) : Int) - ((xs.map toS).length : Int)) = ((i - xs.length : Nat) : Int) := by rw [hxl]; exact wsub (by omega) (by omega)
      have h4 : (0 : Int) ≤ ((i - xs.length : Nat) : Int) := Int.natCast_nonneg _
      have h5 : ((i - xs.length : Nat) : Int) < ((ys.map toS).length : Int) := by rw [hyl]; omega
      have hm : wrap64 ((toS u).f3 + (n : Int)) = (toS (moved n u)).f3 := wadd hn (by omega)
      have he : ((!((toS (moved n u)).f0 == (toS u).f0)) || ((!((toS (moved n u)).f1.toList == (toS u).f1.toList)) || ((!((toS (moved n u)).f2 == (toS u).f2)) || (!((toS (moved n u)).f3 == (toS (moved n u)).f3))))) = false := eq_self (toS (moved n u))
      refine Ev.step (f := fun k => intervalmonlaw06_LexerConcatenation.j2 k (xs.map toS) (ys.map toS) ((xs ++ ys.map (moved n)).map toS) (n : Int) (i : Int) false (toS (moved n u)).f0 (toS (moved n u)).f1 (toS (moved n u)).f2 (toS (moved n u)).f3) (fun k => ?_) (Ev.step (fun k => ?_) hi')
      · rw [intervalmonlaw06_LexerConcatenation.l0, if_pos h1, if_pos h0, if_neg h2, r1]
      · rw [intervalmonlaw06_LexerConcatenation.j2, if_neg Bool.false_ne_true, if_pos h3, hs, if_pos h4, if_pos h5, r2, hm, he, if_neg Bool.false_ne_true, hw]

theorem space_at {k : Nat} (h : k < 4) : ∃ w, (⟨#[32, 9, 10, 13]⟩ : ByteArray).extract k (k + 1) = ⟨#[w]⟩ ∧ isWhite w = true := by
  match k, h with
  | 0, _ => exact ⟨32, by decide +kernel, by decide⟩
  | 1, _ => exact ⟨9, by decide +kernel, by decide⟩
  | 2, _ => exact ⟨10, by decide +kernel, by decide⟩
  | 3, _ => exact ⟨13, by decide +kernel, by decide⟩

theorem nat_lt4 {z : Int} (h : 0 ≤ z) (h1 : z < 4) : ∃ a : Nat, z = (a : Int) ∧ a < 4 := ⟨z.toNat, by omega, by omega⟩
theorem k_facts {k : Nat} (h : k < 4) : (0 : Int) ≤ (k : Int) ∧ (k : Int) ≤ ((k + 1 : Nat) : Int) ∧ ((k + 1 : Nat) : Int) ≤ 4 := ⟨by omega, by omega, by omega⟩
theorem k_wrap {k : Nat} (h : k < 4) : wrap64 ((k : Int) + 1) = ((k + 1 : Nat) : Int) := by unfold wrap64; omega
theorem s_wrap {n : Nat} (h : n ≤ 300) : wrap64 ((n : Int) + 1) = ((n + 1 : Nat) : Int) := by unfold wrap64; omega
theorem s_fact {n m : Nat} (h : n ≤ 300) (h2 : m ≤ 300) : n + 1 ≤ 9223372036854775807 ∧ n + 1 + m ≤ 9223372036854775807 := by omega
theorem z_list (a b : ByteArray) (w : UInt8) : ((a ++ (⟨#[w]⟩ : ByteArray)) ++ b).data.toList = a.data.toList ++ w :: b.data.toList := by
  rw [ByteArray.data_append, ByteArray.data_append, Array.toList_append, Array.toList_append, List.append_assoc]; rfl

theorem concat_end (a b : ByteArray) (ha : a.size ≤ 300) (hb : b.size ≤ 300) (w : UInt8) (hw : isWhite w = true) :
    Ev (fun k => ((lexer_Tokens.f k a).bind fun bt269 => ((lexer_Tokens.f k b).bind fun bt274 => ((lexer_Tokens.f k ((a ++ (⟨#[w]⟩ : ByteArray)) ++ b)).bind fun bt279 => (if bt269.2.2 = 0 then (if bt274.2.2 = 0 then (if bt279.2.2 = 0 then (intervalmonlaw06_LexerConcatenation.j0 k bt269.1 bt274.1 bt279.1 (wrap64 ((a.size : Int) + 1)) ((bt279.1.length : Int) != (wrap64 ((bt269.1.length : Int) + (bt274.1.length : Int))))) else (intervalmonlaw06_LexerConcatenation.j0 k bt269.1 bt274.1 bt279.1 (wrap64 ((a.size : Int) + 1)) true)) else (if bt279.2.2 = bt274.2.2 then (if bt279.2.1 = (wrap64 (bt274.2.1 + (wrap64 ((a.size : Int) + 1)))) then (if (bt279.1.length : Int) = 0 then ((intervalmonlaw06_lives.f k).bind fun t285 => (some t285)) else (some false)) else (some false)) else (some false))) else (if bt279.2.2 = bt269.2.2 then (if bt279.2.1 = bt269.2.1 then (if (bt279.1.length : Int) = 0 then ((intervalmonlaw06_lives.f k).bind fun t284 => (some t284)) else (some false)) else (some false)) else (some false)))))) ) true := by
  have hz := tokens_ev ((a ++ (⟨#[w]⟩ : ByteArray)) ++ b)
  rw [z_list] at hz
  obtain ⟨s1, s2, s3⟩ := answer_stop w hw a.data.toList b.data.toList ha hb
  have la := answer_len a.data.toList
  have lb := answer_len b.data.toList
  have ob := answer_off b.data.toList
  have cb := answer_cases b.data.toList
  refine Ev.bind (tokens_ev a) (Ev.bind (tokens_ev b) (Ev.bind hz ?_))
  by_cases ea : (answer a.data.toList).2.2 = 0
  · by_cases eb : (answer b.data.toList).2.2 = 0
    · rw [s3 ea eb]
      have hl : ((((answer a.data.toList).1 ++ (answer b.data.toList).1.map (moved (a.size + 1))).map toS).length : Int) = wrap64 ((((answer a.data.toList).1.map toS).length : Int) + (((answer b.data.toList).1.map toS).length : Int)) := by
        rw [List.length_map, List.length_append, List.length_map, List.length_map, List.length_map, wadd (Nat.le_trans lb (by decide)) (Nat.le_trans la (by decide))]
      have hne : ((((((answer a.data.toList).1 ++ (answer b.data.toList).1.map (moved (a.size + 1))).map toS).length : Int)) != wrap64 ((((answer a.data.toList).1.map toS).length : Int) + (((answer b.data.toList).1.map toS).length : Int))) = false := by
        rw [hl]; simp
      refine Ev.congr (fun k => (if_pos ea).trans ((if_pos eb).trans (if_pos rfl))) ?_
      refine Ev.step (fun k => ?_) (concat_loop (answer a.data.toList).1 (answer b.data.toList).1 (a.size + 1) (by omega) la lb (fun u hu => Nat.le_trans (ob u hu) (Nat.le_trans hb (by decide))) _ 0 rfl (Nat.zero_le _))
      show intervalmonlaw06_LexerConcatenation.j0 (k + 1) _ _ (((answer a.data.toList).1 ++ (answer b.data.toList).1.map (moved (a.size + 1))).map toS) _ (((((((answer a.data.toList).1 ++ (answer b.data.toList).1.map (moved (a.size + 1))).map toS).length : Int)) != wrap64 ((((answer a.data.toList).1.map toS).length : Int) + (((answer b.data.toList).1.map toS).length : Int)))) = _
      rw [hne, intervalmonlaw06_LexerConcatenation.j0, if_neg Bool.false_ne_true, s_wrap ha]; rfl
    · rcases cb with ⟨_, _, j, hj, hjl⟩ | ⟨h0, _⟩
      · rw [s2 ea eb]
        have hjb : j ≤ 300 := Nat.le_trans hjl hb
        have hwr : (answer b.data.toList).2.1 + ((a.size + 1 : Nat) : Int) = wrap64 ((answer b.data.toList).2.1 + wrap64 ((a.size : Int) + 1)) := by
          rw [s_wrap ha, hj, wadd (by omega) (by omega)]; omega
        refine Ev.congr (fun k => (if_pos ea).trans ((if_neg eb).trans ((if_pos rfl).trans ((if_pos hwr).trans (if_pos rfl))))) ?_
        exact Ev.bind lives_ev (Ev.now _)
      · rw [h0] at eb; exact absurd rfl eb
  · rw [s1 ea]
    refine Ev.congr (fun k => (if_neg ea).trans ((if_pos rfl).trans ((if_pos rfl).trans (if_pos rfl)))) ?_
    exact Ev.bind lives_ev (Ev.now _)

theorem LexerConcatenation : intervalmonlaw06_LexerConcatenation.Pure := by
  intro l m x _ _ hl _ _ hm hx
  obtain ⟨d, hd, _⟩ := source_ev l hl
  obtain ⟨e, he, _⟩ := source_ev m hm
  obtain ⟨a, ha, has, _⟩ := short_f d 300
  obtain ⟨b, hb, hbs, _⟩ := short_f e 300
  obtain ⟨n, hn, hn0, hn1⟩ := around (wf_i64 hx) (show (0 : Int) < 4 by omega)
  obtain ⟨i, hi, hi4⟩ := nat_lt4 hn0 hn1
  obtain ⟨w, hw, hws⟩ := space_at hi4
  obtain ⟨k1, k2, k3⟩ := k_facts hi4
  obtain ⟨z1, z2⟩ := s_fact has hbs
  have kw := k_wrap hi4
  have es : (a ++ (⟨#[w]⟩ : ByteArray)).size = a.size + 1 := size_append _ _
  have z2' : (a ++ (⟨#[w]⟩ : ByteArray)).size + b.size ≤ 9223372036854775807 := by rw [es]; exact z2
  subst hi
  have key : Ev (fun k => intervalmonlaw06_LexerConcatenation.f k l m x) true := by
    refine Ev.bind hd ?_
    refine Ev.bind (g := fun _ => intervalmonref01_Short.f d 300) ⟨0, fun _ _ => ha⟩ ?_
    refine Ev.bind he ?_
    refine Ev.bind (g := fun _ => intervalmonref01_Short.f e 300) ⟨0, fun _ _ => hb⟩ ?_
    refine Ev.bind (g := fun _ => intervalmonref01_Around.f x 4) ⟨0, fun _ _ => hn⟩ ?_
    refine Ev.congr (fun k => ?_) (concat_end a b has hbs w hws)
    have z1' : a.size + (⟨#[w]⟩ : ByteArray).size ≤ 9223372036854775807 := z1
    simp only [kw, Int.toNat_natCast, hw, if_pos k1, if_pos k2, if_pos k3, if_pos z1', if_pos z2']
  exact key.rounds

end Go.Proofs.YtecojcpccglelaaDoor.Pure
