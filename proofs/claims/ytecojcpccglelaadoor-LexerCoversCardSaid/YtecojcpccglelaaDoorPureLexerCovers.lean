/- The plain law of LexerCovers: the offsets grow, each token is written at its offset, white space lies between. -/
import Derived.Test.YtecojcpccglelaaDoorGenM
import Derived.Test.YtecojcpccglelaaDoorShortM
import Derived.Test.YtecojcpccglelaaDoorCoversA
import Derived.Test.YtecojcpccglelaaDoorPAllxC
namespace Go.Proofs.YtecojcpccglelaaDoor.Pure
open Go.RowKit Go.Proofs.YtecojcpccglelaaDoor.PAll Go.Proofs.YtecojcpccglelaaDoorW.PrintWords Go.Proofs.YtecojcpccglelaaDoorW.PrintLast
open Go.Proofs.YtecojcpccglelaaDoor.LexB Go.Proofs.YtecojcpccglelaaDoor.LexA Go.Proofs.YtecojcpccglelaaDoor.Gen

theorem LexerCovers : intervalmonlaw06_LexerCovers.Pure := by
  intro l s _ _ hw _
  obtain ⟨t, ht, _, _⟩ := short_f s 100
  obtain ⟨c, hc, _⟩ := clean_ev l hw
  obtain ⟨d, hd, _⟩ := source_ev l hw
  have key : Ev (fun k => intervalmonlaw06_LexerCovers.f k l s) true := by
    refine Ev.bind hc ?_
    refine Ev.bind (covers_ev c) ?_
    refine Ev.congr (fun k => if_pos rfl) ?_
    refine Ev.bind hd ?_
    refine Ev.bind (covers_ev d) ?_
    refine Ev.congr (fun k => if_pos rfl) ?_
    refine Ev.bind (g := fun _ => intervalmonref01_Short.f s 100) ⟨0, fun _ _ => ht⟩ ?_
    refine Ev.bind (covers_ev t) ?_
    refine Ev.congr (fun k => if_pos rfl) ?_
    exact Ev.bind lives_ev (Ev.now _)
  exact key.rounds

end Go.Proofs.YtecojcpccglelaaDoor.Pure
