/- The program's Tokens agrees with the reference's, for every string; the documented examples. -/
import Derived.Test.YtecojcpccglelaaDoorLexC
import Derived.Test.YtecojcpccglelaaDoorPAllx7
namespace Go.Proofs.YtecojcpccglelaaDoor.LexB
open Go.RowKit Go.Proofs.YtecojcpccglelaaDoor.PAll Go.Proofs.YtecojcpccglelaaDoorW.PrintWords Go.Proofs.YtecojcpccglelaaDoorW.PrintLast
open Go.Proofs.YtecojcpccglelaaDoor.Spec Go.Proofs.YtecojcpccglelaaDoor.LexA

theorem lex_len : ∀ (f : Nat) (l : List UInt8) (p : Nat), (lex f l p).1.length ≤ f := by
  intro f
  induction f with
  | zero => intro l p; simp [lex]
  | succ f ih =>
    intro l p
    cases l with
    | nil => simp [lex]
    | cons c r =>
      rw [lex]
      split
      · have := ih r (p + 1); omega
      · cases tokS (c :: r) with
        | err e => simp
        | tok k t n size =>
          have := ih ((c :: r).drop size) (p + size)
          simp only [List.length_cons]; omega

theorem answer_len (l : List UInt8) : (answer l).1.length ≤ 2000 := by
  unfold answer
  split
  · simp
  · have h := lex_len l.length l 0
    cases hr : lex l.length l 0 with
    | mk ts o =>
      rw [hr] at h
      cases o with
      | none => simp at h ⊢; omega
      | some ae => simp

theorem rd37 (ts : List T) (i : Nat) (t : T) (h : ts[i]? = some t) : rd_T37 (ts.map toS) (i : Int) = toS t := by
  unfold rd_T37
  rw [Int.toNat_natCast, List.getD_eq_getElem?_getD, List.getElem?_map, h]; rfl
theorem rd77 (ts : List T) (i : Nat) (t : T) (h : ts[i]? = some t) : rd_T77 (ts.map toR) (i : Int) = toR t := by
  unfold rd_T77
  rw [Int.toNat_natCast, List.getD_eq_getElem?_getD, List.getElem?_map, h]; rfl

theorem same_loop (ts : List T) (hl : ts.length ≤ 2000) : ∀ (d i : Nat), ts.length - i = d → i ≤ ts.length → Ev (fun k => intervalmonlaw06_same.l0 k (ts.map toS) (ts.map toR) (i : Int)) true := by
  intro d
  induction d with
  | zero =>
    intro i hd hi
    refine Ev.step (f := fun _ => some true) (fun k => ?_) (Ev.now _)
    simp only [intervalmonlaw06_same.l0, List.length_map]
    rw [if_neg (by omega)]
  | succ d ih =>
    intro i hd hi
    have hlt : i < ts.length := by omega
    have ht : ts[i]? = some ts[i] := List.getElem?_eq_getElem hlt
    refine Ev.step (fun k => ?_) (ih (i + 1) (by omega) (by omega))
    simp only [intervalmonlaw06_same.l0, List.length_map]
    rw [if_pos (by omega), if_pos (by omega), if_pos (by omega), rd37 ts i _ ht, rd77 ts i _ ht, wrap_next hlt (by omega)]
    exact (if_pos rfl).trans ((if_pos rfl).trans ((if_pos rfl).trans (if_pos rfl)))

theorem same_ev (ts : List T) (hl : ts.length ≤ 2000) : Ev (fun k => intervalmonlaw06_same.f k (ts.map toS) (ts.map toR)) true := by
  refine Ev.congr (fun k => ?_) (same_loop ts hl ts.length 0 (by omega) (Nat.zero_le _))
  unfold intervalmonlaw06_same.f
  rw [if_pos (by rw [List.length_map, List.length_map])]; rfl

/-- The program agrees with the reference on every string. -/
theorem agrees_ev (s : ByteArray) : Ev (fun k => intervalmonlaw06_agrees.f k s) true := by
  refine Ev.bind (tokens_ev s) (Ev.bind (ref_ev s) ?_)
  refine Ev.congr (fun k => (if_pos rfl).trans (if_pos rfl)) ?_
  exact Ev.bind (same_ev _ (answer_len _)) (Ev.now _)

theorem lives_ev : Ev (fun k => intervalmonlaw06_lives.f k) true := by
  have h1 := tokens_ev (⟨#[97, 46, 107, 116, 104, 40, 51, 44, 32, 50, 41, 64, 48, 53]⟩ : ByteArray)
  have h2 := tokens_ev (⟨#[97, 33, 98]⟩ : ByteArray)
  have e1 : (answer [97, 46, 107, 116, 104, 40, 51, 44, 32, 50, 41, 64, 48, 53]).1.length = 10 ∧ ((answer [97, 46, 107, 116, 104, 40, 51, 44, 32, 50, 41, 64, 48, 53]).1[9]?.map fun t => (t.text, t.n, t.off)) = some ([48, 53], 5, 12) ∧ (answer [97, 46, 107, 116, 104, 40, 51, 44, 32, 50, 41, 64, 48, 53]).2.2 = 0 := by decide +kernel
  have e2 : (answer [97, 33, 98]).2 = (1, 2) := by decide +kernel
  refine Ev.bind h1 (Ev.bind h2 ?_)
  show Ev (fun _ => if (answer [97, 46, 107, 116, 104, 40, 51, 44, 32, 50, 41, 64, 48, 53]).2.2 = 0 then _ else _) true
  refine Ev.congr (f := fun _ => some true) (fun k => ?_) (Ev.now _)
  obtain ⟨hl, h9, he⟩ := e1
  obtain ⟨t, ht, htt⟩ := Option.map_eq_some_iff.1 h9
  have hr := rd37 _ 9 t ht
  injection htt with a1 a2
  injection a2 with a2 a3
  rw [if_pos he, List.length_map, hl, if_pos (by decide), if_pos (by decide)]
  show (if (rd_T37 ((answer [97, 46, 107, 116, 104, 40, 51, 44, 32, 50, 41, 64, 48, 53]).1.map toS) ((9 : Nat) : Int)).f2 = 5 then (if (rd_T37 ((answer [97, 46, 107, 116, 104, 40, 51, 44, 32, 50, 41, 64, 48, 53]).1.map toS) ((9 : Nat) : Int)).f1.toList = [48, 53] then (if (rd_T37 ((answer [97, 46, 107, 116, 104, 40, 51, 44, 32, 50, 41, 64, 48, 53]).1.map toS) ((9 : Nat) : Int)).f3 = 12 then (if (answer [97, 33, 98]).2.2 = 2 then some ((answer [97, 33, 98]).2.1 == 1) else some false) else some false) else some false) else some false) = some true
  rw [hr, e2]
  have t1 : (toS t).f2 = 5 := a2
  have t2 : (toS t).f1.toList = [48, 53] := by rw [Lib.toList_data]; exact a1
  have t3 : (toS t).f3 = 12 := by show ((t.off : Nat) : Int) = 12; rw [a3]; rfl
  rw [if_pos t1, if_pos t2, if_pos t3]; rfl

end Go.Proofs.YtecojcpccglelaaDoor.LexB
