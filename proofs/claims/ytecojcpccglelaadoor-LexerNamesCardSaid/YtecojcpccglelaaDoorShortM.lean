/- The first bytes of a string. -/
import Derived.Test.YtecojcpccglelaaDoorGenM
namespace Go.Proofs.YtecojcpccglelaaDoor.Pure
open Go.RowKit Go.Proofs.YtecojcpccglelaaDoor.PAll Go.Proofs.YtecojcpccglelaaDoorW.PrintWords Go.Proofs.YtecojcpccglelaaDoorW.PrintLast
open Go.Proofs.YtecojcpccglelaaDoor.LexB Go.Proofs.YtecojcpccglelaaDoor.LexA Go.Proofs.YtecojcpccglelaaDoor.Gen

theorem short_f (s : ByteArray) (n : Nat) : ∃ t, intervalmonref01_Short.f s (n : Int) = some t ∧ t.size ≤ n ∧ t.data.toList = s.data.toList.take n := by
  unfold intervalmonref01_Short.f
  by_cases h : (s.size : Int) > (n : Int)
  · rw [if_pos h, if_pos (by omega), if_pos (by omega), Int.toNat_natCast]
    have e : (s.extract 0 n).data.toList = s.data.toList.take n := by rw [extract_mk]; simp
    refine ⟨_, rfl, ?_, e⟩
    have h1 := congrArg List.length e
    rw [len_toList, List.length_take] at h1
    omega
  · rw [if_neg h]
    refine ⟨_, rfl, by omega, ?_⟩
    rw [List.take_of_length_le (by rw [len_toList]; omega)]

end Go.Proofs.YtecojcpccglelaaDoor.Pure
