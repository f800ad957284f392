/-
  The law TreeMissed as plain data: what a step changes, and what it tells of it.
-/
import Derived.Test.YtejlekfnjhnklaaBehind
import Derived.Test.YtejlekfnjhnklaaLong
namespace Go.Proofs.Ytejlekfnjhnklaa

/-- From T0 on the changes D were told; nothing else is another. -/
def From (T0 T : Tr) : Prop := ∃ D, T.ch = T0.ch ++ D ∧ ∀ y, y ∉ D → look T.fs y = look T0.fs y

theorem From.refl (T : Tr) : From T T := ⟨[], by simp, fun _ _ => rfl⟩

theorem From.put {T0 T : Tr} (h : From T0 T) (hr : Rising (keys T.fs)) (x s : Str) : From T0 ⟨put T.fs x s, T.ch ++ [x]⟩ := by
  obtain ⟨D, h1, h2⟩ := h
  refine ⟨D ++ [x], by rw [← List.append_assoc, ← h1], fun y hy => ?_⟩
  simp only [List.mem_append, List.mem_singleton, not_or] at hy
  show look (Go.Proofs.Ytejlekfnjhnklaa.put T.fs x s) y = _
  rw [look_put hr, if_neg hy.2, h2 y hy.1]

theorem From.del {T0 T : Tr} (h : From T0 T) (hr : Rising (keys T.fs)) (x : Str) : From T0 ⟨del T.fs x, T.ch ++ [x]⟩ := by
  obtain ⟨D, h1, h2⟩ := h
  refine ⟨D ++ [x], by rw [← List.append_assoc, ← h1], fun y hy => ?_⟩
  simp only [List.mem_append, List.mem_singleton, not_or] at hy
  show look (Go.Proofs.Ytejlekfnjhnklaa.del T.fs x) y = _
  rw [look_del hr, if_neg hy.2, h2 y hy.1]

theorem From.write {T0 T : Tr} (h : From T0 T) (hr : Rising (keys T.fs)) (x s : Str) : From T0 (T.write x s).1 := by
  unfold Tr.write
  split
  · split
    · exact h
    · cases look T.fs x with
      | some v =>
        simp only
        split
        · exact h
        · exact h.put hr x s
      | none =>
        simp only
        split
        · exact h
        · exact h.put hr x s
  · exact h

theorem From.remove {T0 T : Tr} (h : From T0 T) (hr : Rising (keys T.fs)) (x : Str) : From T0 (T.remove x).1 := by
  unfold Tr.remove
  split
  · cases look T.fs x with
    | some v => exact h.del hr x
    | none => exact h
  · exact h

/-- The kept files, where those of a list are read anew. -/
def anew (f0 f1 : Str → Option Str) (l : List Str) : Str → Option Str := fun x => if x ∈ l then f1 x else f0 x

theorem anew_succ (f0 f1 : Str → Option Str) {l : List Str} {j : Nat} (h : j < l.length) : upd (anew f0 f1 (l.take j)) l[j] (f1 l[j]) = anew f0 f1 (l.take (j + 1)) := by
  have hm : ∀ y, y ∈ l.take (j + 1) ↔ y ∈ l.take j ∨ y = l[j] := fun y => by rw [List.take_succ_eq_append_getElem h, List.mem_append, List.mem_singleton]
  funext y
  unfold anew upd
  by_cases e : y = l[j]
  · rw [if_pos e, if_pos ((hm y).2 (.inr e)), e]
  · rw [if_neg e]
    show (if y ∈ l.take j then f1 y else f0 y) = _
    by_cases e2 : y ∈ l.take j
    · rw [if_pos e2, if_pos ((hm y).2 (.inl e2))]
    · rw [if_neg e2, if_neg (fun h => ((hm y).1 h).elim e2 e)]

theorem anew_all {T0 T : Tr} (h : From T0 T) : anew (look T0.fs) (look T.fs) (insAll (T.ch.drop T0.ch.length)) = look T.fs := by
  obtain ⟨D, h1, h2⟩ := h
  rw [h1, List.drop_left]
  funext y
  unfold anew
  by_cases e : y ∈ D
  · rw [if_pos (mem_insAll.2 e)]
  · rw [if_neg (fun h => e (mem_insAll.1 h)), h2 y e]

theorem look_take_succ {fs : FileL} (hr : Rising (keys fs)) {j : Nat} (h : j < fs.length) : upd (look (fs.take j)) fs[j].1 (some fs[j].2) = look (fs.take (j + 1)) := by
  have hr2 : Rising (keys (fs.take (j + 1))) := hr.sublist ((List.take_sublist _ _).map _)
  have hr1 : Rising (keys (fs.take j)) := hr.sublist ((List.take_sublist _ _).map _)
  funext y
  unfold upd
  by_cases e : y = fs[j].1
  · rw [if_pos e]
    subst e
    refine ((look_some hr2).2 ?_).symm
    rw [List.take_succ_eq_append_getElem h]
    exact List.mem_append_right _ (List.mem_singleton.2 rfl)
  · rw [if_neg e]
    cases h1 : look (fs.take j) y with
    | some v =>
      refine ((look_some hr2).2 ?_).symm
      rw [List.take_succ_eq_append_getElem h]
      exact List.mem_append_left _ ((look_some hr1).1 h1)
    | none =>
      symm
      rw [look_none] at h1 ⊢
      intro hm
      apply h1
      obtain ⟨f, hf, e2⟩ := List.mem_map.1 hm
      rw [List.take_succ_eq_append_getElem h] at hf
      rcases List.mem_append.1 hf with hf | hf
      · exact List.mem_map.2 ⟨f, hf, e2⟩
      · obtain rfl : f = fs[j] := by simpa using hf
        exact absurd e2.symm e

theorem read_of {T : Tr} {x : Str} (hx : isPath x = true) : T.read x = (match look T.fs x with | some s => (s, 0) | none => ([], 4)) := by
  unfold Tr.read
  rw [if_pos hx]
  cases look T.fs x <;> rfl

theorem write_ch_le (T : Tr) (x s : Str) : T.ch.length ≤ (T.write x s).1.ch.length := by
  unfold Tr.write
  split
  · split
    · simp
    · cases look T.fs x <;> simp only
      · split <;> simp
      · split <;> simp
  · simp

theorem remove_ch_le (T : Tr) (x : Str) : T.ch.length ≤ (T.remove x).1.ch.length := by
  unfold Tr.remove
  split
  · cases look T.fs x <;> simp
  · simp

end Go.Proofs.Ytejlekfnjhnklaa
