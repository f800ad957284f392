/-
  The law's arguments, opened: scripts of calls.
-/
import Derived.Test.YtejlekfnjhnklaaRead
import Derived.Test.YtejlekfnjhnklaaPlays
import Derived.HandedShaped
namespace Go.Proofs.Ytejlekfnjhnklaa
open Go.ChangeShapes Go.WideShapes Go.RowKit

section
variable {H : Type} {enc : TypeId × Value → H} {W : World} {v : Value} {d : DataW H} {ps : List MemPlace}

def opOf (V : Nat → Value) : OpT := ⟨num (V 0), txt (V 1), txt (V 2), num (V 3)⟩

theorem int_range {n : Int} (h : (Lit.int .i64 n).wf = true) : -9223372036854775808 ≤ n ∧ n ≤ 9223372036854775807 := by
  simp only [Lit.wf, Bool.and_eq_true, decide_eq_true_eq] at h
  exact h

theorem op_flat : (match Try.prog.underlying 41 with | some (.struct fs) => flatB Try.prog fs && decide (Try.prog.cellsOf 41 = fs.size) && decide (fs.size = 4) && decide ((fs[0]?.map (·.type)) = some 3) && decide ((fs[1]?.map (·.type)) = some 9) && decide ((fs[2]?.map (·.type)) = some 9) && decide ((fs[3]?.map (·.type)) = some 3) | _ => false) = true := by kernel_rfl

/-- A call, read. -/
theorem open_op {n : Nat} {V : Nat → Value} {y : DataW H} {pl : List MemPlace} (h : DataW.trod enc Try.prog W 0 (fun _ => true) true n 41 ((List.range 4).map V) = some (y, pl)) (hw : OkW Try.prog 41 y) :
    V 0 = .int .i64 (opOf V).k ∧ V 1 = strV (opOf V).x ∧ V 2 = strV (opOf V).s ∧ V 3 = .int .i64 (opOf V).n ∧ (opOf V).x.length ≤ 140737488351232 ∧ (opOf V).s.length ≤ 140737488351232 ∧ -9223372036854775808 ≤ (opOf V).n ∧ (opOf V).n ≤ 9223372036854775807 := by
  have hf := op_flat
  split at hf
  · rename_i fs hu
    simp only [Bool.and_eq_true, decide_eq_true_eq, Option.map_eq_some_iff] at hf
    obtain ⟨⟨⟨⟨⟨⟨f1, f2⟩, f3⟩, ⟨a0, g0, t0⟩⟩, ⟨a1, g1, t1⟩⟩, ⟨a2, g2, t2⟩⟩, ⟨a3, g3, t3⟩⟩ := hf
    obtain ⟨k, xs, hx, hcl, hxl, hall⟩ := open_fields hu f1 f2 h
    simp only at hx
    have key : ∀ (i : Nat) (f : Field), fs[i]? = some f → i < 4 → ∃ y, xs[i]? = some y ∧ DataW.trod enc Try.prog W 0 (fun _ => true) true k f.type [V i] = some y ∧ OkW Try.prog f.type y.1 := fun i f hi hlt => by
      obtain ⟨y0, q1, q2⟩ := hall i f (V i) hi (by simp [hlt])
      refine ⟨y0, q1, q2, ?_⟩
      rw [hx] at hw
      exact okW_field hu hw hi (by simp [q1])
    obtain ⟨y0, _, r0, _⟩ := key 0 a0 g0 (by decide)
    obtain ⟨y1, _, r1, w1⟩ := key 1 a1 g1 (by decide)
    obtain ⟨y2, _, r2, w2⟩ := key 2 a2 g2 (by decide)
    obtain ⟨y3, _, r3, _⟩ := key 3 a3 g3 (by decide)
    rw [t0] at r0
    rw [t1] at r1 w1
    rw [t2] at r2 w2
    rw [t3] at r3
    obtain ⟨n0, e0, _, _⟩ := DataW.trod_int Try.underlying3 r0
    obtain ⟨s1, e1, d1, _⟩ := DataW.trod_string Try.underlying9 r1
    obtain ⟨s2, e2, d2, _⟩ := DataW.trod_string Try.underlying9 r2
    obtain ⟨n3, e3, _, v3⟩ := DataW.trod_int Try.underlying3 r3
    simp only [List.cons.injEq, and_true] at e0 e1 e2 e3
    rw [d1] at w1
    rw [d2] at w2
    have l1 := okW_string w1
    have l2 := okW_string w2
    have l3 := int_range v3
    simp only [opOf, e0, e1, e2, e3, num, txt]
    refine ⟨?_, ?_, ?_, ?_, l1, l2, l3⟩ <;> first | trivial | exact congrArg Value.string (str_of _)
  · cases hf

set_option maxRecDepth 100000 in
theorem arg_ops {base : Nat} (hok : Value.okWide Try.prog W .any base 22 v) (h : DataW.Trod enc Try.prog W 0 (fun _ => true) true 22 v d ps) (hw : OkW Try.prog 22 d) : ∃ l : List OpT, IsOps W v l ∧ OpsOk l := by
  obtain ⟨a0, n0, c0, rfl⟩ := okWide_slice Try.underlying22 hok
  obtain ⟨fuel, h⟩ := h
  have h : DataW.trod enc Try.prog W 0 (fun _ => true) true fuel 22 [.slice a0 n0 c0] = some (d, ps) := h
  clear hok
  rcases open_elems Try.underlying22 4 (by kernel_rfl) (by decide) h with ⟨hv, hd⟩ | ⟨a, len, cap, n, D, sp, V, hv, hlc, hcm, hd, hcells, hall⟩
  · rw [hv]; exact ⟨[], ⟨none, 0, rfl, .inl rfl⟩, ⟨by simp, by simp, by simp⟩⟩
  · simp only at hd
    rw [hd] at hw
    rw [hv]
    clear hv h
    have hlen := okW_len Try.underlying22 hw
    rw [show Try.prog.bytesOf 41 = 48 from by kernel_rfl] at hlen
    have hel := okW_elem Try.underlying22 hw
    have hop : ∀ i, i < len → V i 0 = .int .i64 (opOf (V i)).k ∧ V i 1 = strV (opOf (V i)).x ∧ V i 2 = strV (opOf (V i)).s ∧ V i 3 = .int .i64 (opOf (V i)).n ∧ (opOf (V i)).x.length ≤ 140737488351232 ∧ (opOf (V i)).s.length ≤ 140737488351232 ∧ -9223372036854775808 ≤ (opOf (V i)).n ∧ (opOf (V i)).n ≤ 9223372036854775807 := fun i hi => by
      obtain ⟨pl, h1⟩ := hall i hi
      exact open_op h1 (hel _ (List.mem_map.2 ⟨i, List.mem_range.2 hi, rfl⟩))
    refine ⟨(List.range len).map fun i => opOf (V i), ⟨some a, cap, by simp, ?_⟩, ⟨fun o ho => ?_, fun o ho => ?_, ?_⟩⟩
    · rcases hcells with h0 | ⟨g, off, rfl, hg, hc⟩
      · exact .inl (by rw [h0]; rfl)
      · refine .inr ⟨g, off, rfl, hg, fun i hi => ?_⟩
        have hi' : i < len := by simpa using hi
        obtain ⟨e0, e1, e2, e3, _⟩ := hop i hi'
        have c0 := hc i hi' 0 (by decide)
        have c1 := hc i hi' 1 (by decide)
        have c2 := hc i hi' 2 (by decide)
        have c3 := hc i hi' 3 (by decide)
        rw [e0] at c0
        rw [e1] at c1
        rw [e2] at c2
        rw [e3] at c3
        simp only [List.getElem_map, List.getElem_range]
        exact ⟨c0, c1, c2, c3⟩
    · obtain ⟨i, hi, rfl⟩ := List.mem_map.1 ho
      obtain ⟨_, _, _, _, l1, l2, _⟩ := hop i (List.mem_range.1 hi)
      exact ⟨l1, l2⟩
    · obtain ⟨i, hi, rfl⟩ := List.mem_map.1 ho
      obtain ⟨_, _, _, _, _, _, l3⟩ := hop i (List.mem_range.1 hi)
      exact l3
    · simp at hlen ⊢
      omega
end

theorem l10_own : ownKnob Try.prog.godebug = none := by kernel_rfl
theorem l10_laid : laidOutB Try.prog = true := by kernel_rfl

theorem glob_of {W : World} (h : W.ShapedOpen Try.prog) : Glob W :=
  Go.Proofs.cell_of_shapedOpen_int (zero := #[.int .i64 0]) (t := 3) (g := 0) h (of_decide_eq_true (by kernel_rfl)) (by kernel_rfl) rfl (by kernel_rfl) (by kernel_rfl) Try.underlying3

end Go.Proofs.Ytejlekfnjhnklaa
