/- The plain law of LexerTokens: for every list of numbers the program's tokens of both generated sources are the reference's, and the documented examples hold. -/
import Derived.Test.YtecojcpccglelaaDoorGen
namespace Go.Proofs.YtecojcpccglelaaDoor.Pure
open Go.RowKit Go.Proofs.YtecojcpccglelaaDoor.PAll Go.Proofs.YtecojcpccglelaaDoorW.PrintWords Go.Proofs.YtecojcpccglelaaDoorW.PrintLast
open Go.Proofs.YtecojcpccglelaaDoor.LexB Go.Proofs.YtecojcpccglelaaDoor.Gen

theorem LexerTokens : intervalmonlaw06_LexerTokens.Pure := by
  intro l _ _ hw
  obtain ⟨s, hs, _⟩ := source_ev l hw
  obtain ⟨c, hc, _⟩ := clean_ev l hw
  refine Ev.rounds (Ev.bind hs (Ev.bind (agrees_ev s) (Ev.congr (fun k => if_pos rfl) (Ev.bind hc (Ev.bind (agrees_ev c) (Ev.congr (fun k => if_pos rfl) (Ev.bind lives_ev (Ev.now _))))))))

end Go.Proofs.YtecojcpccglelaaDoor.Pure
