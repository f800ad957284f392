/-
  Proved: the statement TreePlays of layer 10, for every input: the law's function returns true and leaves all that was there as it was. No condition.
-/
import Derived.Test.YtejlekfnjhnklaaPost
import Derived.Test.YtejlekfnjhnklaaOps
namespace Go.Proofs.Ytejlekfnjhnklaa
open Go.ChangeShapes Go.WideShapes Go.ChangeAt Go.RowKit

theorem tp_own : ownKnob Try.prog.godebug = none := by kernel_rfl
theorem tp_laid : laidOutB Try.prog = true := by kernel_rfl

theorem glob_of {W : World} (h : W.ShapedOpen Try.prog) : Glob W :=
  Go.Proofs.cell_of_shapedOpen_int (zero := #[.int .i64 0]) (t := 3) (g := 0) h (of_decide_eq_true (by kernel_rfl)) (by kernel_rfl) rfl (by kernel_rfl) (by kernel_rfl) Try.underlying3

set_option maxRecDepth 100000 in
theorem tp_lifted (os : Os) (started : os.Started) (H : Type) (enc : TypeId × Value → H) :
    ReturnsInHanded {} Try.checked os 3 .any (Rows.treePlaysSpec.pre6 enc Try.prog Try.f3 Rows.treePlaysRow.domain false) (Rows.treePlaysSpec.post enc Try.prog Try.f3 false true false false) := by
  refine returnsInHanded_of_change_shaped (C := Try.checked) tp_own started (by kernel_rfl) Try.func3
    (ChangeSpec.witness6 (enc := enc) (C := Try.checked) false ⟨#[], #[.slice none 0 0, .bool false], []⟩ 8 (by kernel_rfl) (by kernel_rfl) (by kernel_rfl) (by kernel_rfl)) ?_
  intro W base args ds gs before hval0 hW _ hsz0 hsh _
  have hval : ∀ (j : Nat) t v, Try.f3.params[j]? = some t → args[j]? = some v → Value.okWide Try.prog W .any base t v := hval0
  obtain ⟨p, q, hA0, hV, _, _, _⟩ := id hW
  have hA : DataW.TrodAll enc Try.prog W 0 (fun _ => true) true Try.f3.params.toList args.toList ds p := hA0
  have hsz : (DataW.weightsEach Try.prog (Try.f3.params.toList ++ Rows.treePlaysSpec.plain.varTypes Try.prog) (ds ++ gs)).all (· ≤ reachBytes) = true := hsz0
  rw [Try.params3] at hA hval hsz
  obtain ⟨v0, v1, d0, d1, p0, p1, hargs, rfl, rfl, h0, h1⟩ := trodAll_two hA
  obtain ⟨rfl, rfl⟩ := trodVars_none hV
  subst hargs
  obtain ⟨l, hl, hok⟩ := arg_ops (hval 0 _ v0 rfl rfl) h0 (okW_args hsz (j := 0) rfl rfl)
  obtain ⟨z, rfl⟩ := okWide_bool Try.underlying4 (hval 1 _ v1 rfl rfl)
  refine (plays_is hl hok (glob_of hsh) z).mono fun e W' ⟨he, hb⟩ => ?_
  subst he
  exact ⟨_, rfl, law_post tp_laid hW rfl (by kernel_rfl) (by kernel_rfl) Try.underlying4 rfl hb⟩

theorem treePlays_proved : Rows.TreePlaysSaid :=
  OpenClaim.holds_of_wide 3 Try.f3 rfl rfl rfl rfl rfl rfl rfl ⟨rfl, rfl, rfl, rfl, rfl⟩ rfl rfl rfl rfl rfl (by kernel_rfl) Try.func3 (by kernel_rfl)
    (of_decide_eq_true (by kernel_rfl)) (by unfold Func.isWrapper; first | (rw [if_pos (by decide +kernel)]; kernel_rfl) | (rw [if_neg (by decide +kernel)]; exact ⟨rfl, rfl⟩))
    (fun os started H enc _ => tp_lifted os started H enc)
#print axioms treePlays_proved

end Go.Proofs.Ytejlekfnjhnklaa
