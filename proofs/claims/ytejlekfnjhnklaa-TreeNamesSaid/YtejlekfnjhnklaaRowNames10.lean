/-
  Proved: the statement TreeNames of layer 10, for every input: the law's function returns true and leaves all that was there as it was. No condition.
-/
import Derived.Test.YtejlekfnjhnklaaPost
import Derived.Test.YtejlekfnjhnklaaOps
import Derived.Test.YtejlekfnjhnklaaNames10
namespace Go.Proofs.Ytejlekfnjhnklaa
open Go.ChangeShapes Go.WideShapes Go.ChangeAt Go.RowKit

set_option maxRecDepth 100000 in
theorem tn_lifted (os : Os) (started : os.Started) (H : Type) (enc : TypeId × Value → H) :
    ReturnsInHanded {} Try.checked os 5 .any (Rows.treeNamesSpec.pre6 enc Try.prog Try.f5 Rows.treeNamesRow.domain false) (Rows.treeNamesSpec.post enc Try.prog Try.f5 false true false false) := by
  refine returnsInHanded_of_change_shaped (C := Try.checked) l10_own started (by kernel_rfl) Try.func5
    (ChangeSpec.witness6 (enc := enc) (C := Try.checked) false ⟨#[], #[], []⟩ 8 (by kernel_rfl) (by kernel_rfl) (by kernel_rfl) (by kernel_rfl)) ?_
  intro W base args ds gs before _ hW _ _ hsh _
  obtain ⟨p, q, hA, hV, _, _, _⟩ := id hW
  rw [Try.params5] at hA
  obtain ⟨ha, rfl, rfl⟩ := trodAll_none hA
  obtain ⟨rfl, rfl⟩ := trodVars_none hV
  subst ha
  refine (names_is (glob_of hsh)).mono fun e W' ⟨he, hb⟩ => ?_
  subst he
  exact ⟨_, rfl, law_post l10_laid hW rfl (by kernel_rfl) (by kernel_rfl) Try.underlying4 rfl hb⟩

theorem treeNames_proved : Rows.TreeNamesSaid :=
  OpenClaim.holds_of_wide 5 Try.f5 rfl rfl rfl rfl rfl rfl rfl ⟨rfl, rfl, rfl, rfl, rfl⟩ rfl rfl rfl rfl rfl (by kernel_rfl) Try.func5 (by kernel_rfl)
    (of_decide_eq_true (by kernel_rfl)) (by unfold Func.isWrapper; first | (rw [if_pos (by decide +kernel)]; kernel_rfl) | (rw [if_neg (by decide +kernel)]; exact ⟨rfl, rfl⟩))
    (fun os started H enc _ => tn_lifted os started H enc)
#print axioms treeNames_proved

end Go.Proofs.Ytejlekfnjhnklaa
