/-
  The closed law 'bobbin/bobbinlaw25.ElideNames' answers true, and nothing that was there is turned: the abstract machine's run (EvA .. EvLo), which is proved sound for the model's calls, is run by the kernel. Conditions: the package-level variables that the row lists hold what it lists.
-/
import Derived.Test.YtikjlppcnmalnaaGreatDoorCards
import Derived.Test.YtikjlppcnmalnaaGreatDoorTie
import Derived.WalkKit
import Derived.ProofKit
import Derived.OpenShut
import Derived.Deep.DeepHandedRow
namespace Go.Proofs.YtikjlppcnmalnaaGreatDoor.closed

set_option maxHeartbeats 400000000
/-- What the row says of the program, limb by limb. -/
theorem facts : joinedFacts Tryz.pinned.checked.prog 3 Tryz.f3 (OpenSpec.ofChange Rows.elideNamesSpec).bare Rows.elideNamesRow = true := by
  unfold joinedFacts
  simp only [Bool.and_eq_true]
  and_intros
  all_goals as_aux_lemma => kernel_rfl
end Go.Proofs.YtikjlppcnmalnaaGreatDoor.closed
