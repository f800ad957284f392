/-
  Ranging over a map keyed by strings whose block is not written meanwhile.
-/
import Derived.Test.YtejlekfnjhnklaaMap
namespace Go.Proofs.Ytejlekfnjhnklaa
open Go.RowKit Go.Maps
open Go.ChangeMaps (setBlock)

/-- Block r ranges over the map of block b: the keys of 'left' are still to come, cnt of them. -/
def RangeG {α : Type} (P : Program) (k : TypeId) (E : Elem α) (w : World) (b r n : Nat) (f : Str → Option α) (left : Str → Bool) (cnt : Nat) : Prop :=
  ∃ D leftL, w.ranges P k E.R b r n D leftL cnt ∧ (∀ x, Maps.has D (.string x) = (f x).isSome) ∧ (∀ x z, D.atKey (.string x) z = ((f x).map E.enc).getD z) ∧ ∀ x, leftL (.string x) = left x

section
variable {α : Type} {P : Program} {k e t : TypeId} {E : Elem α} {w w' : World} {b r n : Nat} {f : Str → Option α} {left : Str → Bool} {cnt : Nat}

theorem RangeG.owns (h : RangeG P k E w b r n f left cnt) : MapG P k E w b n f := by
  obtain ⟨D, l, hr, h1, h2, _⟩ := h
  exact ⟨D, hr.owns, h1, h2⟩

theorem RangeG.lt (h : RangeG P k E w b r n f left cnt) : r < w.heap.size := by
  obtain ⟨D, l, hr, _⟩ := h
  exact hr.lt

theorem RangeG.ne (h : RangeG P k E w b r n f left cnt) : r ≠ b := by
  obtain ⟨D, l, hr, _⟩ := h
  exact hr.ne

theorem RangeG.same (h : RangeG P k E w b r n f left cnt) (hb : w'.heap[b]? = w.heap[b]?) (hr : w'.heap[r]? = w.heap[r]?) : RangeG P k E w' b r n f left cnt := by
  obtain ⟨D, l, ⟨es, clock, since, seen, c0, g1, g2, g3, g4, g5, g6⟩, h1, h2, h3⟩ := h
  exact ⟨D, l, ⟨es, clock, since, seen, c0, hb.trans g1, g2, g3, g4, hr.trans g5, g6⟩, h1, h2, h3⟩

/-- The block that ranges is no row of cells, and no map. -/
theorem RangeG.iter (h : RangeG P k E w b r n f left cnt) : ∃ s seen c, w.heap[r]? = some (.mapIter (some b) s seen c) := by
  obtain ⟨D, l, ⟨es, clock, since, seen, c0, g1, g2, g3, g4, g5, g6⟩, _⟩ := h
  exact ⟨_, _, _, g5⟩

theorem RangeG.left_eq (h : RangeG P k E w b r n f left cnt) : w.rangeLeft b r = cnt := by
  obtain ⟨D, l, hr, _⟩ := h
  exact hr.left_eq

/-- 'range m'. -/
theorem MapG.range (h : MapG P k E w b n f) (hk : P.underlying k = some .string) (ht : P.underlying t = some (.map k e)) :
    ∃ w' cnt, (Instr.range t (.map (some b))).run P w = .ok (.pointer (some ⟨w.heap.size, 0, none⟩)) w' ∧ RangeG P k E w' b w.heap.size n f (fun x => (f x).isSome) cnt ∧ Below w.heap.size w w' ∧ w'.heap.size = w.heap.size + 1 := by
  obtain ⟨D, ho, h1, h2⟩ := h
  obtain ⟨w', hrun, hr, hg, hs⟩ := ho.range (string_keyed hk) ht
  exact ⟨w', _, hrun, ⟨D, _, hr, h1, h2, h1⟩, ⟨hg.os, hg.tape, hg.output, hg.size, fun i hi => hg.block i hi (by simp)⟩, hs⟩

/-- The step. -/
theorem RangeG.next (h : RangeG P k E w b r n f left cnt) (hk : P.underlying k = some .string) (ty : TypeId) :
    ((∀ x, left x = false) ∧ (Instr.next (.pointer (some ⟨r, 0, none⟩)) false ty).run P w = .ok (.tuple #[.bool false]) w) ∨
    ∃ x a w' cnt', left x = true ∧ x.length ≤ maxLen ∧ f x = some a ∧ (Instr.next (.pointer (some ⟨r, 0, none⟩)) false ty).run P w = .ok (.tuple #[.bool true, .string (bs x), E.val a]) w' ∧
      RangeG P k E w' b r n f (fun y => left y && !decide (y = x)) cnt' ∧ cnt' < cnt ∧ w.grownBy w' (some r) ∧ w'.heap.size = w.heap.size ∧
      (Instr.entry (.pointer (some ⟨r, 0, none⟩))).run P w' = .ok (.tuple #[.string (bs x), E.val a]) w' := by
  obtain ⟨D, l, hr, h1, h2, h3⟩ := h
  rcases hr.next (string_keyed hk) ty with ⟨_, hl, hrun⟩ | ⟨key, v, kl, y, w', cnt', hkey, hlk, hv, hat, hrun, hrg, hlt, hgr, hsz, hen⟩
  · exact .inl ⟨fun x => by rw [← h3]; exact hl _, hrun⟩
  · obtain ⟨x, rfl, rfl, hx⟩ := Maps.keyOf_str hk hkey
    have hle : left x = true := by rw [← h3]; exact hlk
    have hhas := h1 x
    rw [Maps.has_true_of_atKey hat] at hhas
    cases hf : f x with
    | none => rw [hf] at hhas; cases hhas
    | some a =>
      have h4 := h2 x .nil
      rw [hat, hf] at h4
      have h5 : y = (E.enc a, y.2) := by
        simp at h4
        rw [← h4]
      rw [h5] at hv
      obtain rfl := E.inv _ _ _ hv
      refine .inr ⟨x, a, w', cnt', hle, hx, hf, hrun, ⟨D, _, hrg, h1, h2, fun y => ?_⟩, hlt, hgr, hsz, hen⟩
      rw [h3]
      congr 1
      by_cases e : y = x
      · subst e
        simp [WideAt.sameKey_self ((string_keyed hk).key hkey)]
      · rw [Maps.sameKey_ne (lit_ne e)]; simp [e]

end

end Go.Proofs.Ytejlekfnjhnklaa
