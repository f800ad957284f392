/-
  Proved: the statement TreeCopies of layer 10, for every input: the law's function returns true and leaves all that was there as it was. No condition.
-/
import Derived.Test.YtejlekfnjhnklaaPost
import Derived.Test.YtejlekfnjhnklaaOps
import Derived.Test.YtejlekfnjhnklaaCopies
namespace Go.Proofs.Ytejlekfnjhnklaa
open Go.ChangeShapes Go.WideShapes Go.ChangeAt Go.RowKit

set_option maxRecDepth 100000 in
theorem tc_lifted (os : Os) (started : os.Started) (H : Type) (enc : TypeId × Value → H) :
    ReturnsInHanded {} Try.checked os 6 .any (Rows.treeCopiesSpec.pre6 enc Try.prog Try.f6 Rows.treeCopiesRow.domain false) (Rows.treeCopiesSpec.post enc Try.prog Try.f6 false true false false) := by
  refine returnsInHanded_of_change_shaped (C := Try.checked) l10_own started (by kernel_rfl) Try.func6
    (ChangeSpec.witness6 (enc := enc) (C := Try.checked) false ⟨#[], #[.slice none 0 0, .slice none 0 0, .slice none 0 0], []⟩ 8 (by kernel_rfl) (by kernel_rfl) (by kernel_rfl) (by kernel_rfl)) ?_
  intro W base args ds gs before hval0 hW _ hsz0 hsh _
  have hval : ∀ (j : Nat) t v, Try.f6.params[j]? = some t → args[j]? = some v → Value.okWide Try.prog W .any base t v := hval0
  obtain ⟨p, q, hA0, hV, _, _, _⟩ := id hW
  have hA : DataW.TrodAll enc Try.prog W 0 (fun _ => true) true Try.f6.params.toList args.toList ds p := hA0
  have hsz : (DataW.weightsEach Try.prog (Try.f6.params.toList ++ Rows.treeCopiesSpec.plain.varTypes Try.prog) (ds ++ gs)).all (· ≤ reachBytes) = true := hsz0
  rw [Try.params6] at hA hval hsz
  obtain ⟨v0, v1, v2, d0, d1, d2, p0, p1, p2, hargs, rfl, rfl, h0, h1, h2⟩ := trodAll_three hA
  obtain ⟨rfl, rfl⟩ := trodVars_none hV
  subst hargs
  obtain ⟨l, hl, hok⟩ := arg_ops (hval 0 _ v0 rfl rfl) h0 (okW_args hsz (j := 0) rfl rfl)
  obtain ⟨l1, hl1, hok1⟩ := arg_ops (hval 1 _ v1 rfl rfl) h1 (okW_args hsz (j := 1) rfl rfl)
  obtain ⟨l2, hl2, hok2⟩ := arg_ops (hval 2 _ v2 rfl rfl) h2 (okW_args hsz (j := 2) rfl rfl)
  refine (copies_is hl hok hl1 hok1 hl2 hok2 (glob_of hsh)).mono fun e W' ⟨he, hb⟩ => ?_
  subst he
  exact ⟨_, rfl, law_post l10_laid hW rfl (by kernel_rfl) (by kernel_rfl) Try.underlying4 rfl hb⟩

theorem treeCopies_proved : Rows.TreeCopiesSaid :=
  OpenClaim.holds_of_wide 6 Try.f6 rfl rfl rfl rfl rfl rfl rfl ⟨rfl, rfl, rfl, rfl, rfl⟩ rfl rfl rfl rfl rfl (by kernel_rfl) Try.func6 (by kernel_rfl)
    (of_decide_eq_true (by kernel_rfl)) (by unfold Func.isWrapper; first | (rw [if_pos (by decide +kernel)]; kernel_rfl) | (rw [if_neg (by decide +kernel)]; exact ⟨rfl, rfl⟩))
    (fun os started H enc _ => tc_lifted os started H enc)
#print axioms treeCopies_proved

end Go.Proofs.Ytejlekfnjhnklaa
