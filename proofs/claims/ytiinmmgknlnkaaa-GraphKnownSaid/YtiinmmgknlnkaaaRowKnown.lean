/-
  Proved: the statement GraphKnown of layer 19, for every machine state that it speaks of: the law's function returns true and leaves all that was there as it was. No condition.
-/
import Derived.Test.YtiinmmgknlnkaaaPost
import Derived.Test.YtiinmmgknlnkaaaKnown
namespace Go.Proofs.Ytiinmmgknlnkaaa
open Go.ChangeShapes Go.WideShapes Go.ChangeAt Go.RowKit

theorem gk_own : ownKnob Try.prog.godebug = none := by kernel_rfl
theorem gk_laid : laidOutB Try.prog = true := by kernel_rfl

set_option maxRecDepth 100000 in
theorem gk_lifted (os : Os) (started : os.Started) (H : Type) (enc : TypeId × Value → H) :
    ReturnsInHanded {} Try.checked os 3 .any (Rows.graphKnownSpec.pre6 enc Try.prog Try.f3 Rows.graphKnownRow.domain false) (Rows.graphKnownSpec.post enc Try.prog Try.f3 false true false false) := by
  refine returnsInHanded_of_change (C := Try.checked) gk_own started (by kernel_rfl) Try.func3
    (ChangeSpec.witness6 (enc := enc) (C := Try.checked) false ⟨#[], #[], []⟩ 8 (by kernel_rfl) (by kernel_rfl) (by kernel_rfl) (by kernel_rfl)) ?_
  intro W base args ds gs before _ hW _ _
  obtain ⟨p, q, hA, hV, _, _, _⟩ := id hW
  rw [Try.params3] at hA
  obtain ⟨ha, rfl, rfl⟩ := trodAll_none hA
  obtain ⟨rfl, rfl⟩ := trodVars_none hV
  subst ha
  refine (known_is W).mono fun e W' ⟨he, hb⟩ => ?_
  subst he
  exact ⟨_, rfl, law_post gk_laid hW rfl (by kernel_rfl) (by kernel_rfl) Try.underlying4 rfl hb⟩

theorem graphKnown_proved : Rows.GraphKnownSaid :=
  OpenClaim.holds_of_wide 3 Try.f3 rfl rfl rfl rfl rfl rfl rfl ⟨rfl, rfl, rfl, rfl, rfl⟩ rfl rfl rfl rfl rfl (by kernel_rfl) Try.func3 (by kernel_rfl)
    (of_decide_eq_true (by kernel_rfl)) (by unfold Func.isWrapper; first | (rw [if_pos (by decide +kernel)]; kernel_rfl) | (rw [if_neg (by decide +kernel)]; exact ⟨rfl, rfl⟩))
    (fun os started H enc _ => gk_lifted os started H enc)
#print axioms graphKnown_proved

end Go.Proofs.Ytiinmmgknlnkaaa
