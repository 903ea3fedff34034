/- The documented examples; cut out of Agree, without the reference. -/
import Derived.Test.YtecojcpccglelaaDoorLexA
import Derived.Test.YtecojcpccglelaaDoorPAllxM
namespace Go.Proofs.YtecojcpccglelaaDoor.LexB
open Go.RowKit Go.Proofs.YtecojcpccglelaaDoor.PAll Go.Proofs.YtecojcpccglelaaDoorW.PrintWords Go.Proofs.YtecojcpccglelaaDoorW.PrintLast
open Go.Proofs.YtecojcpccglelaaDoor.Spec Go.Proofs.YtecojcpccglelaaDoor.LexA

theorem lex_len : ∀ (f : Nat) (l : List UInt8) (p : Nat), (lex f l p).1.length ≤ f := by
  intro f
  induction f with
  | zero => intro l p; simp [lex]
  | succ f ih =>
    intro l p
    cases l with
    | nil => simp [lex]
    | cons c r =>
      rw [lex]
      split
      · have := ih r (p + 1); omega
      · cases tokS (c :: r) with
        | err e => simp
        | tok k t n size =>
          have := ih ((c :: r).drop size) (p + size)
          simp only [List.length_cons]; omega

theorem answer_len (l : List UInt8) : (answer l).1.length ≤ 2000 := by
  unfold answer
  split
  · simp
  · have h := lex_len l.length l 0
    cases hr : lex l.length l 0 with
    | mk ts o =>
      rw [hr] at h
      cases o with
      | none => simp at h ⊢; omega
      | some ae => simp

theorem rd37 (ts : List T) (i : Nat) (t : T) (h : ts[i]? = some t) : rd_T37 (ts.map toS) (i : Int) = toS t := by
  unfold rd_T37
  rw [Int.toNat_natCast, List.getD_eq_getElem?_getD, List.getElem?_map, h]; rfl
theorem lives_ev : Ev (fun k => intervalmonlaw06_lives.f k) true := by
  have h1 := tokens_ev (⟨#[97, 46, 107, 116, 104, 40, 51, 44, 32, 50, 41, 64, 48, 53]⟩ : ByteArray)
  have h2 := tokens_ev (⟨#[97, 33, 98]⟩ : ByteArray)
  have e1 : (answer [97, 46, 107, 116, 104, 40, 51, 44, 32, 50, 41, 64, 48, 53]).1.length = 10 ∧ ((answer [97, 46, 107, 116, 104, 40, 51, 44, 32, 50, 41, 64, 48, 53]).1[9]?.map fun t => (t.text, t.n, t.off)) = some ([48, 53], 5, 12) ∧ (answer [97, 46, 107, 116, 104, 40, 51, 44, 32, 50, 41, 64, 48, 53]).2.2 = 0 := by decide +kernel
  have e2 : (answer [97, 33, 98]).2 = (1, 2) := by decide +kernel
  refine Ev.bind h1 (Ev.bind h2 ?_)
  show Ev (fun _ => if (answer [97, 46, 107, 116, 104, 40, 51, 44, 32, 50, 41, 64, 48, 53]).2.2 = 0 then _ else _) true
  refine Ev.congr (f := fun _ => some true) (fun k => ?_) (Ev.now _)
  obtain ⟨hl, h9, he⟩ := e1
  obtain ⟨t, ht, htt⟩ := Option.map_eq_some_iff.1 h9
  have hr := rd37 _ 9 t ht
  injection htt with a1 a2
  injection a2 with a2 a3
  rw [if_pos he, List.length_map, hl, if_pos (by decide), if_pos (by decide)]
  show (if (rd_T37 ((answer [97, 46, 107, 116, 104, 40, 51, 44, 32, 50, 41, 64, 48, 53]).1.map toS) ((9 : Nat) : Int)).f2 = 5 then (if (rd_T37 ((answer [97, 46, 107, 116, 104, 40, 51, 44, 32, 50, 41, 64, 48, 53]).1.map toS) ((9 : Nat) : Int)).f1.toList = [48, 53] then (if (rd_T37 ((answer [97, 46, 107, 116, 104, 40, 51, 44, 32, 50, 41, 64, 48, 53]).1.map toS) ((9 : Nat) : Int)).f3 = 12 then (if (answer [97, 33, 98]).2.2 = 2 then some ((answer [97, 33, 98]).2.1 == 1) else some false) else some false) else some false) else some false) = some true
  rw [hr, e2]
  have t1 : (toS t).f2 = 5 := a2
  have t2 : (toS t).f1.toList = [48, 53] := by rw [Lib.toList_data]; exact a1
  have t3 : (toS t).f3 = 12 := by show ((t.off : Nat) : Int) = 12; rw [a3]; rfl
  rw [if_pos t1, if_pos t2, if_pos t3]; rfl

end Go.Proofs.YtecojcpccglelaaDoor.LexB
