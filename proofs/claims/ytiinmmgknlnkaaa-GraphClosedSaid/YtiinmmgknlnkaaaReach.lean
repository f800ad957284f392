/-
  Ways along a relation, and what a walk that marks comes to. No program in sight.
-/
import Derived.Test.YtiinmmgknlnkaaaGr
namespace Go.Proofs.Ytiinmmgknlnkaaa

inductive Reach (s : Str → Str → Bool) : Str → Str → Prop
  | refl (a : Str) : Reach s a a
  | step {a b c : Str} (h : s a b = true) (k : Reach s b c) : Reach s a c

theorem Reach.trans {s : Str → Str → Bool} {a b c : Str} (h : Reach s a b) (k : Reach s b c) : Reach s a c := by
  induction h with
  | refl => exact k
  | step h _ ih => exact .step h (ih k)

theorem Reach.snoc {s : Str → Str → Bool} {a b c : Str} (h : Reach s a b) (k : s b c = true) : Reach s a c := h.trans (.step k (.refl _))

theorem Reach.turn {s : Str → Str → Bool} {a b : Str} (h : Reach s a b) : Reach (fun x y => s y x) b a := by
  induction h with
  | refl => exact .refl _
  | step h _ ih => exact ih.snoc h

/-- What visiting x makes of the marks V: V'. -/
structure Visited (ns : List Str) (s : Str → Str → Bool) (V V' : Str → Bool) (x : Str) : Prop where
  mono : ∀ y, V y = true → V' y = true
  got : x ∈ ns → V' x = true
  only : ∀ y, V' y = true → V y = true ∨ Reach s x y
  shut : ∀ u, V' u = true → V u = true ∨ ∀ v, s u v = true → V' v = true

/-- All of a list visited. -/
structure VisitedAll (ns : List Str) (s : Str → Str → Bool) (V V' : Str → Bool) (l : List Str) : Prop where
  mono : ∀ y, V y = true → V' y = true
  got : ∀ x ∈ l, x ∈ ns → V' x = true
  only : ∀ y, V' y = true → V y = true ∨ ∃ x ∈ l, x ∈ ns ∧ Reach s x y
  shut : ∀ u, V' u = true → V u = true ∨ ∀ v, s u v = true → V' v = true

theorem VisitedAll.nil (ns : List Str) (s : Str → Str → Bool) (V : Str → Bool) : VisitedAll ns s V V [] :=
  ⟨fun _ h => h, by simp, fun _ h => .inl h, fun _ h => .inl h⟩

theorem VisitedAll.snoc {ns : List Str} {s : Str → Str → Bool} {V V' V2 : Str → Bool} {l : List Str} {x : Str} (h : VisitedAll ns s V V' l) (k : Visited ns s V' V2 x) (hx : x ∉ ns → V2 = V') : VisitedAll ns s V V2 (l ++ [x]) where
  mono y hy := k.mono y (h.mono y hy)
  got y hy hn := by
    rcases List.mem_append.1 hy with hy | hy
    · exact k.mono y (h.got y hy hn)
    · obtain rfl := List.mem_singleton.1 hy; exact k.got hn
  only y hy := by
    rcases k.only y hy with h1 | h1
    · rcases h.only y h1 with h2 | ⟨z, hz, hn, hr⟩
      · exact .inl h2
      · exact .inr ⟨z, by simp [hz], hn, hr⟩
    · by_cases hn : x ∈ ns
      · exact .inr ⟨x, by simp, hn, h1⟩
      · rw [hx hn] at hy
        rcases h.only y hy with h2 | ⟨z, hz, hn, hr⟩
        · exact .inl h2
        · exact .inr ⟨z, by simp [hz], hn, hr⟩
  shut u hu := by
    rcases k.shut u hu with h1 | h1
    · rcases h.shut u h1 with h2 | h2
      · exact .inl h2
      · exact .inr fun v hv => k.mono v (h2 v hv)
    · exact .inr h1

/-- From no mark on: marked is just what a way leads to. -/
theorem VisitedAll.all {ns : List Str} {s : Str → Str → Bool} {V' : Str → Bool} {l : List Str} (h : VisitedAll ns s (fun _ => false) V' l) (y : Str) : V' y = true ↔ ∃ x ∈ l, x ∈ ns ∧ Reach s x y := by
  constructor
  · intro hy
    rcases h.only y hy with h | h
    · cases h
    · exact h
  · rintro ⟨x, hx, hn, hr⟩
    have h0 := h.got x hx hn
    clear hx hn
    induction hr with
    | refl => exact h0
    | step he _ ih =>
      rcases h.shut _ h0 with h1 | h1
      · cases h1
      · exact ih (h1 _ he)

/-- How many names are not marked. -/
def unmarked (ns : List Str) (V : Str → Bool) : Nat := (ns.filter fun x => !V x).length

theorem unmarked_le (ns : List Str) {V V' : Str → Bool} (h : ∀ y, V y = true → V' y = true) : unmarked ns V' ≤ unmarked ns V := by
  unfold unmarked
  induction ns with
  | nil => simp
  | cons x r ih =>
    simp only [List.filter_cons]
    cases h1 : V x
    · cases h2 : V' x <;> simp <;> omega
    · rw [h x h1]; simp; exact ih

theorem unmarked_lt {ns : List Str} {V V' : Str → Bool} (h : ∀ y, V y = true → V' y = true) {x : Str} (hx : x ∈ ns) (h1 : V x = false) (h2 : V' x = true) : unmarked ns V' < unmarked ns V := by
  induction ns with
  | nil => cases hx
  | cons y r ih =>
    have hle := unmarked_le r h
    unfold unmarked at hle ih ⊢
    simp only [List.filter_cons]
    by_cases e : y = x
    · subst e
      rw [h1, h2]; simp; omega
    · have hx' : x ∈ r := by
        rcases List.mem_cons.1 hx with h | h
        · exact absurd h.symm e
        · exact h
      have := ih hx'
      cases g1 : V y
      · cases g2 : V' y <;> simp <;> omega
      · rw [h y g1]; simp; exact this

end Go.Proofs.Ytiinmmgknlnkaaa
