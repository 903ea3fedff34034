/- The plain law of LexerRaw: for every string the program's tokens of its first 200 bytes, alone, in quotes and inside a query, are the reference's. -/
import Derived.Test.YtecojcpccglelaaDoorGen
import Derived.Test.YtecojcpccglelaaDoorPAllx8
namespace Go.Proofs.YtecojcpccglelaaDoor.Pure
open Go.RowKit Go.Proofs.YtecojcpccglelaaDoor.PAll Go.Proofs.YtecojcpccglelaaDoorW.PrintWords Go.Proofs.YtecojcpccglelaaDoorW.PrintLast
open Go.Proofs.YtecojcpccglelaaDoor.LexB Go.Proofs.YtecojcpccglelaaDoor.LexA Go.Proofs.YtecojcpccglelaaDoor.Gen

theorem short_f (s : ByteArray) (n : Nat) : ∃ t, intervalmonref01_Short.f s (n : Int) = some t ∧ t.size ≤ n ∧ t.data.toList = s.data.toList.take n := by
  unfold intervalmonref01_Short.f
  by_cases h : (s.size : Int) > (n : Int)
  · rw [if_pos h, if_pos (by omega), if_pos (by omega), Int.toNat_natCast]
    have e : (s.extract 0 n).data.toList = s.data.toList.take n := by rw [extract_mk]; simp
    refine ⟨_, rfl, ?_, e⟩
    have h1 := congrArg List.length e
    rw [len_toList, List.length_take] at h1
    omega
  · rw [if_neg h]
    refine ⟨_, rfl, by omega, ?_⟩
    rw [List.take_of_length_le (by rw [len_toList]; omega)]

theorem LexerRaw : intervalmonlaw06_LexerRaw.Pure := by
  intro s _
  obtain ⟨t, ht, hts, _⟩ := short_f s 200
  have e1 : ((⟨#[34]⟩ : ByteArray) ++ t).size = 1 + t.size := size_append _ _
  have e2 : ((⟨#[97, 123, 98, 61]⟩ : ByteArray) ++ t).size = 4 + t.size := size_append _ _
  have f1 : 1 + t.size ≤ 9223372036854775807 := by omega
  have f2 : ((⟨#[34]⟩ : ByteArray) ++ t).size + 1 ≤ 9223372036854775807 := by rw [e1]; omega
  have f3 : 4 + t.size ≤ 9223372036854775807 := by omega
  have f4 : ((⟨#[97, 123, 98, 61]⟩ : ByteArray) ++ t).size + 1 ≤ 9223372036854775807 := by rw [e2]; omega
  have key : Ev (fun k => intervalmonlaw06_LexerRaw.f k s) true := by
    refine Ev.bind (g := fun _ => intervalmonref01_Short.f s 200) ⟨0, fun _ _ => ht⟩ ?_
    refine Ev.bind (agrees_ev t) ?_
    refine Ev.congr (fun k => if_pos rfl) ?_
    refine Ev.congr (fun k => if_pos f1) ?_
    refine Ev.congr (fun k => if_pos f2) ?_
    refine Ev.bind (agrees_ev _) ?_
    refine Ev.congr (fun k => if_pos rfl) ?_
    refine Ev.congr (fun k => if_pos f3) ?_
    refine Ev.congr (fun k => if_pos f4) ?_
    refine Ev.bind (agrees_ev _) ?_
    refine Ev.congr (fun k => if_pos rfl) ?_
    refine Ev.bind (agrees_ev _) ?_
    refine Ev.congr (fun k => if_pos rfl) ?_
    exact Ev.bind lives_ev (Ev.now _)
  exact key.rounds

end Go.Proofs.YtecojcpccglelaaDoor.Pure
