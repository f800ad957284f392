/-
  Proved: the statement TreeMissed of layer 10, for every input: the law's function returns true and leaves all that was there as it was. No condition.
-/
import Derived.Test.YtejlekfnjhnklaaPost
import Derived.Test.YtejlekfnjhnklaaOps
import Derived.Test.YtejlekfnjhnklaaMissed
namespace Go.Proofs.Ytejlekfnjhnklaa
open Go.ChangeShapes Go.WideShapes Go.ChangeAt Go.RowKit

set_option maxRecDepth 100000 in
theorem tm_lifted (os : Os) (started : os.Started) (H : Type) (enc : TypeId × Value → H) :
    ReturnsInHanded {} Try.checked os 4 .any (Rows.treeMissedSpec.pre6 enc Try.prog Try.f4 Rows.treeMissedRow.domain false) (Rows.treeMissedSpec.post enc Try.prog Try.f4 false true false false) := by
  refine returnsInHanded_of_change_shaped (C := Try.checked) l10_own started (by kernel_rfl) Try.func4
    (ChangeSpec.witness6 (enc := enc) (C := Try.checked) false ⟨#[], #[.slice none 0 0, .int .i64 0], []⟩ 8 (by kernel_rfl) (by kernel_rfl) (by kernel_rfl) (by kernel_rfl)) ?_
  intro W base args ds gs before hval0 hW _ hsz0 hsh _
  have hval : ∀ (j : Nat) t v, Try.f4.params[j]? = some t → args[j]? = some v → Value.okWide Try.prog W .any base t v := hval0
  obtain ⟨p, q, hA0, hV, _, _, _⟩ := id hW
  have hA : DataW.TrodAll enc Try.prog W 0 (fun _ => true) true Try.f4.params.toList args.toList ds p := hA0
  have hsz : (DataW.weightsEach Try.prog (Try.f4.params.toList ++ Rows.treeMissedSpec.plain.varTypes Try.prog) (ds ++ gs)).all (· ≤ reachBytes) = true := hsz0
  rw [Try.params4] at hA hval hsz
  obtain ⟨v0, v1, d0, d1, p0, p1, hargs, rfl, rfl, h0, h1⟩ := trodAll_two hA
  obtain ⟨rfl, rfl⟩ := trodVars_none hV
  subst hargs
  obtain ⟨l, hl, hok⟩ := arg_ops (hval 0 _ v0 rfl rfl) h0 (okW_args hsz (j := 0) rfl rfl)
  obtain ⟨z, rfl⟩ := okWide_int Try.underlying3 (hval 1 _ v1 rfl rfl)
  obtain ⟨fuel1, h1⟩ := h1
  have h1 : DataW.trod enc Try.prog W 0 (fun _ => true) true fuel1 3 [.int .i64 z] = some (d1, p1) := h1
  obtain ⟨z', hz, _, hwf⟩ := DataW.trod_int Try.underlying3 h1
  simp only [List.cons.injEq, Value.int.injEq, true_and, and_true] at hz
  subst hz
  have hr := int_range hwf
  refine (missed_is hl hok (glob_of hsh) z hr.1 hr.2).mono fun e W' ⟨he, hb⟩ => ?_
  subst he
  exact ⟨_, rfl, law_post l10_laid hW rfl (by kernel_rfl) (by kernel_rfl) Try.underlying4 rfl hb⟩

theorem treeMissed_proved : Rows.TreeMissedSaid :=
  OpenClaim.holds_of_wide 4 Try.f4 rfl rfl rfl rfl rfl rfl rfl ⟨rfl, rfl, rfl, rfl, rfl⟩ rfl rfl rfl rfl rfl (by kernel_rfl) Try.func4 (by kernel_rfl)
    (of_decide_eq_true (by kernel_rfl)) (by unfold Func.isWrapper; first | (rw [if_pos (by decide +kernel)]; kernel_rfl) | (rw [if_neg (by decide +kernel)]; exact ⟨rfl, rfl⟩))
    (fun os started H enc _ => tm_lifted os started H enc)
#print axioms treeMissed_proved

end Go.Proofs.Ytejlekfnjhnklaa
