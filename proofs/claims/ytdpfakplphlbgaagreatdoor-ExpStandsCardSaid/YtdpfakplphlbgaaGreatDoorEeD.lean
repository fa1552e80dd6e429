import Derived.Test.YtdpfakplphlbgaaGreatDoorRows
import Derived.ProofKit
/- ExpStands: the closed facts of its row, one by one. -/
namespace Go.Proofs.YtdpfakplphlbgaaGreatDoor.expStands
theorem and_mk {a b : Bool} (h : a = true) (k : b = true) : (a && b) = true := by rw [h, k]; rfl
set_option maxHeartbeats 16000000 in
theorem facts : joinedFacts Tryz.prog 3 Tryz.f3 (OpenSpec.ofChange Rows.expStandsSpec).bare Rows.expStandsRow = true := by
  unfold joinedFacts
  repeat' (with_reducible refine and_mk ?_ ?_)
  all_goals as_aux_lemma => kernel_rfl
end Go.Proofs.YtdpfakplphlbgaaGreatDoor.expStands
