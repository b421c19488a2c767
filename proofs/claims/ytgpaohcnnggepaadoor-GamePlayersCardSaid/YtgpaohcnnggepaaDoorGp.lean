/- GamePlayers: how many players a list of numbers is a game of. -/
import Derived.Test.YtgpaohcnnggepaaDoorGs
set_option linter.unusedSimpArgs false
set_option linter.unusedVariables false
namespace Go.Proofs.YtgpaohcnnggepaaDoor
open Go Go.Proofs.R
set_option maxRecDepth 10000
theorem gamePlayers_ev (L : List RQ) (hL : L.length ≤ maxLen) : EX ip nv1 (.call F.dendronlaw19_GamePlayers [.d (.sl 3 (el L))] []) = some (.ret (.d (.bool true)) []) := by
  rw [S_call dendronlaw19_GamePlayers.ip rfl]
  have f1 := few19_ev (nv := nv1) L hL
  have hl : (fewR L).length ≤ 33 := by rw [fewR_len]; omega
  have aw := awake19_ev
  generalize fewR L = l at *
  have sz := size19_ev (nv := nv1) l hl
  have p := players_ev (nv := nv1) l hl
  cases hn : gmN l.length with
  | none =>
    rw [hn] at sz p
    simp only at sz p
    simp (disch := omega) [dendronlaw19_GamePlayers, f1, p, sz, aw]
  | some n =>
    rw [hn] at sz p
    simp only at sz p
    have n0 : ¬ (n : Int) < 0 := by omega
    simp (disch := omega) [dendronlaw19_GamePlayers, f1, p, sz, aw, n0]
end Go.Proofs.YtgpaohcnnggepaaDoor
