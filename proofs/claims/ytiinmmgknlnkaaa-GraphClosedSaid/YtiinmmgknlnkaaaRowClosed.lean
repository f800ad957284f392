/-
  Proved: the statement GraphClosed of layer 19, for every input: the law's function returns true and leaves all that was there as it was. No condition.
-/
import Derived.Test.YtiinmmgknlnkaaaArgs
import Derived.Test.YtiinmmgknlnkaaaClosedLaw
namespace Go.Proofs.Ytiinmmgknlnkaaa
open Go.ChangeShapes Go.WideShapes Go.ChangeAt Go.RowKit

theorem gc_own : ownKnob Try.prog.godebug = none := by kernel_rfl
theorem gc_laid : laidOutB Try.prog = true := by kernel_rfl

set_option maxRecDepth 100000 in
theorem gc_lifted (os : Os) (started : os.Started) (H : Type) (enc : TypeId × Value → H) :
    ReturnsInHanded {} Try.checked os 4 .any (Rows.graphClosedSpec.pre6 enc Try.prog Try.f4 Rows.graphClosedRow.domain false) (Rows.graphClosedSpec.post enc Try.prog Try.f4 false true false false) := by
  refine returnsInHanded_of_change (C := Try.checked) gc_own started (by kernel_rfl) Try.func4
    (ChangeSpec.witness6 (enc := enc) (C := Try.checked) false ⟨#[], #[.slice none 0 0, .slice none 0 0, .slice none 0 0, .slice none 0 0], []⟩ 8 (by kernel_rfl) (by kernel_rfl) (by kernel_rfl) (by kernel_rfl)) ?_
  intro W base args ds gs before hval0 hW _ _
  have hval : ∀ (j : Nat) t v, Try.f4.params[j]? = some t → args[j]? = some v → Value.okWide Try.prog W .any base t v := hval0
  obtain ⟨p, q, hA0, hV, _, _, _⟩ := id hW
  have hA : DataW.TrodAll enc Try.prog W 0 (fun _ => true) true Try.f4.params.toList args.toList ds p := hA0
  rw [Try.params4] at hA hval
  obtain ⟨v0, v1, v2, v3, d0, d1, d2, d3, p0, p1, p2, p3, hargs, rfl, rfl, h0, h1, h2, h3⟩ := trodAll_four hA
  obtain ⟨rfl, rfl⟩ := trodVars_none hV
  subst hargs
  obtain ⟨le, he, se⟩ := arg_edges (hval 0 _ v0 rfl rfl) h0
  obtain ⟨ln, hn, sn⟩ := arg_strs (hval 1 _ v1 rfl rfl) h1
  obtain ⟨la, ha, sa⟩ := arg_strs (hval 2 _ v2 rfl rfl) h2
  obtain ⟨lb, hb, sb⟩ := arg_strs (hval 3 _ v3 rfl rfl) h3
  refine (gclosed_any he hn ha hb se sn sa sb).mono fun e W' ⟨he, hb⟩ => ?_
  subst he
  exact ⟨_, rfl, law_post gc_laid hW rfl (by kernel_rfl) (by kernel_rfl) Try.underlying4 rfl hb⟩

theorem graphClosed_proved : Rows.GraphClosedSaid :=
  OpenClaim.holds_of_wide 4 Try.f4 rfl rfl rfl rfl rfl rfl rfl ⟨rfl, rfl, rfl, rfl, rfl⟩ rfl rfl rfl rfl rfl (by kernel_rfl) Try.func4 (by kernel_rfl)
    (of_decide_eq_true (by kernel_rfl)) (by unfold Func.isWrapper; first | (rw [if_pos (by decide +kernel)]; kernel_rfl) | (rw [if_neg (by decide +kernel)]; exact ⟨rfl, rfl⟩))
    (fun os started H enc _ => gc_lifted os started H enc)
#print axioms graphClosed_proved

end Go.Proofs.Ytiinmmgknlnkaaa
