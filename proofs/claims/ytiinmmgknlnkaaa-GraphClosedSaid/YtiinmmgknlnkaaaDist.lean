/-
  How far a name is from another one; waves. No program in sight.
-/
import Derived.Test.YtiinmmgknlnkaaaReach
namespace Go.Proofs.Ytiinmmgknlnkaaa

/-- A way of just n steps. -/
inductive PathN (s : Str → Str → Bool) : Nat → Str → Str → Prop
  | zero (a : Str) : PathN s 0 a a
  | succ {n : Nat} {a b c : Str} (h : s a b = true) (k : PathN s n b c) : PathN s (n + 1) a c

/-- The least number of steps from x to t. -/
def IsDist (s : Str → Str → Bool) (t : Str) (k : Nat) (x : Str) : Prop := PathN s k x t ∧ ∀ j, j < k → ¬ PathN s j x t

section
variable {s : Str → Str → Bool} {t : Str}

theorem IsDist.unique {k j : Nat} {x : Str} (h : IsDist s t k x) (h' : IsDist s t j x) : k = j := by
  rcases Nat.lt_trichotomy k j with h1 | h1 | h1
  · exact absurd h.1 (h'.2 k h1)
  · exact h1
  · exact absurd h'.1 (h.2 j h1)

theorem PathN.dist {k : Nat} {x : Str} (h : PathN s k x t) : ∃ j, j ≤ k ∧ IsDist s t j x := by
  induction k using Nat.strongRecOn with
  | _ k ih =>
    by_cases hm : ∃ j, j < k ∧ PathN s j x t
    · obtain ⟨j, hj, hp⟩ := hm
      obtain ⟨i, hi, hd⟩ := ih j hj hp
      exact ⟨i, by omega, hd⟩
    · exact ⟨k, Nat.le_refl _, h, fun j hj hp => hm ⟨j, hj, hp⟩⟩

theorem IsDist.pred {k : Nat} {x : Str} (h : IsDist s t (k + 1) x) : ∃ y, s x y = true ∧ IsDist s t k y := by
  obtain ⟨hp, hm⟩ := h
  cases hp with
  | succ he hk =>
    rename_i y
    refine ⟨y, he, hk, fun j hj hp => hm (j + 1) (by omega) (.succ he hp)⟩

theorem IsDist.next {k : Nat} {x y : Str} (h : IsDist s t k y) (he : s x y = true) (hn : ∀ j, j ≤ k → ¬ IsDist s t j x) : IsDist s t (k + 1) x := by
  refine ⟨.succ he h.1, fun j hj hp => ?_⟩
  obtain ⟨i, hi, hd⟩ := hp.dist
  exact hn i (by omega) hd

theorem IsDist.below {k : Nat} : ∀ {j : Nat} {x : Str}, IsDist s t (k + j) x → ∃ y, IsDist s t k y
  | 0, x, h => ⟨x, h⟩
  | j + 1, x, h => by
    obtain ⟨y, _, hy⟩ := IsDist.pred (k := k + j) h
    exact IsDist.below hy

theorem dist_zero (s : Str → Str → Bool) (t : Str) : IsDist s t 0 t := ⟨.zero t, fun j hj => by omega⟩
theorem IsDist.zero_eq {x : Str} (h : IsDist s t 0 x) : x = t := by
  obtain ⟨hp, _⟩ := h
  cases hp
  rfl

/-- What the table of distances holds ahead of wave n: all that lie nearer. -/
def FarIs (s : Str → Str → Bool) (t : Str) (n : Nat) (nl : List Str) (f : Str → Option Int) : Prop :=
  ∀ x k, f x = some k ↔ (∃ j : Nat, k = j ∧ j < n ∧ IsDist s t j x) ∨ (k = n ∧ x ∈ nl)

/-- What has been found so far of wave n: nl; of all of wave n: those of 'off' were looked at. -/
structure Wave (ns : List Str) (s : Str → Str → Bool) (t : Str) (n : Nat) (nl : List Str) (f : Str → Option Int) : Prop where
  far : FarIs s t n nl f
  nodup : nl.Nodup
  good : ∀ x ∈ nl, IsDist s t n x
  names : ∀ x k, f x = some k → x ∈ ns

theorem Wave.some_iff {ns : List Str} {n : Nat} {nl : List Str} {f : Str → Option Int} (h : Wave ns s t n nl f) {x : Str} : (f x).isSome = true ↔ (∃ j : Nat, j < n ∧ IsDist s t j x) ∨ x ∈ nl := by
  constructor
  · intro hs
    obtain ⟨k, hk⟩ := Option.isSome_iff_exists.1 hs
    rcases (h.far x k).1 hk with ⟨j, _, hj, hd⟩ | ⟨_, hx⟩
    · exact .inl ⟨j, hj, hd⟩
    · exact .inr hx
  · rintro (⟨j, hj, hd⟩ | hx)
    · rw [(h.far x j).2 (.inl ⟨j, rfl, hj, hd⟩)]; rfl
    · rw [(h.far x n).2 (.inr ⟨rfl, hx⟩)]; rfl

/-- One more: y, from which an edge leads to a name of the wave ahead. -/
theorem Wave.put {ns : List Str} {n : Nat} {nl : List Str} {f : Str → Option Int} (h : Wave ns s t (n + 1) nl f) {x y : Str} (hx : IsDist s t n x) (he : s y x = true) (hy : y ∈ ns) (hf : f y = none) :
    Wave ns s t (n + 1) (nl ++ [y]) (upd f y (some ((n : Int) + 1))) := by
  have hno : ∀ j, j ≤ n → ¬ IsDist s t j y := fun j hj hd => by
    rw [(h.far y j).2 (.inl ⟨j, rfl, by omega, hd⟩)] at hf; cases hf
  have hyn : y ∉ nl := fun hm => by
    rw [(h.far y (n + 1 : Nat)).2 (.inr ⟨rfl, hm⟩)] at hf; cases hf
  refine ⟨fun z k => ?_, ?_, fun z hz => ?_, fun z k hz => ?_⟩
  · by_cases e : z = y
    · subst e
      rw [upd_same]
      constructor
      · intro hk
        have : k = (n : Int) + 1 := by simpa using hk.symm
        exact .inr ⟨by omega, by simp⟩
      · rintro (⟨j, rfl, hj, hd⟩ | ⟨rfl, _⟩)
        · exact absurd hd (hno j (by omega))
        · congr 1
    · rw [upd_other _ _ e, h.far z k]
      simp [e]
  · rw [List.nodup_append]
    refine ⟨h.nodup, by simp, fun a ha b hb => ?_⟩
    simp at hb
    rintro rfl
    subst hb
    exact hyn ha
  · rcases List.mem_append.1 hz with hz | hz
    · exact h.good z hz
    · simp at hz; subst hz; exact hx.next he hno
  · by_cases e : z = y
    · exact e ▸ hy
    · rw [upd_other _ _ e] at hz; exact h.names z k hz

/-- The wave is through: all of it was found. -/
theorem Wave.whole {ns : List Str} {n : Nat} {nl : List Str} {f : Str → Option Int} (h : Wave ns s t (n + 1) nl f) (hall : ∀ x y, IsDist s t n x → s y x = true → (f y).isSome = true) (x : Str) : x ∈ nl ↔ IsDist s t (n + 1) x := by
  refine ⟨h.good x, fun hd => ?_⟩
  obtain ⟨y, he, hy⟩ := hd.pred
  rcases h.some_iff.1 (hall y x hy he) with ⟨j, hj, hdj⟩ | hx
  · have := hd.unique hdj; omega
  · exact hx

theorem Wave.on {ns : List Str} {n : Nat} {nl : List Str} {f : Str → Option Int} (h : Wave ns s t n nl f) (hw : ∀ x, x ∈ nl ↔ IsDist s t n x) : Wave ns s t (n + 1) [] f := by
  refine ⟨fun x k => ?_, by simp, by simp, h.names⟩
  rw [h.far x k]
  constructor
  · rintro (⟨j, hk, hj, hd⟩ | ⟨hk, hx⟩)
    · exact .inl ⟨j, hk, by omega, hd⟩
    · exact .inl ⟨n, hk, by omega, (hw x).1 hx⟩
  · rintro (⟨j, hk, hj, hd⟩ | ⟨_, hx⟩)
    · by_cases e : j = n
      · subst e; exact .inr ⟨hk, (hw x).2 hd⟩
      · exact .inl ⟨j, hk, by omega, hd⟩
    · cases hx

/-- No wave more: the table is whole. -/
theorem Wave.done {ns : List Str} {n : Nat} {f : Str → Option Int} (h : Wave ns s t n [] f) (hw : ∀ x, ¬ IsDist s t n x) (x : Str) (k : Int) : f x = some k ↔ ∃ j : Nat, k = j ∧ IsDist s t j x := by
  rw [h.far x k]
  constructor
  · rintro (⟨j, hk, hj, hd⟩ | ⟨_, hx⟩)
    · exact ⟨j, hk, hd⟩
    · cases hx
  · rintro ⟨j, hk, hd⟩
    refine .inl ⟨j, hk, ?_, hd⟩
    rcases Nat.lt_or_ge j n with h | h
    · exact h
    · obtain ⟨y, hy⟩ := IsDist.below (k := n) (j := j - n) (x := x) (by rw [Nat.add_sub_cancel' h]; exact hd)
      exact absurd hy (hw y)

theorem Wave.first {ns : List Str} (ht : t ∈ ns) : Wave ns s t 1 [] (upd (fun _ => none) t (some 0)) := by
  refine ⟨fun x k => ?_, by simp, by simp, fun x k hx => ?_⟩
  · by_cases e : x = t
    · subst e
      rw [upd_same]
      constructor
      · intro hk
        have : k = 0 := by simpa using hk.symm
        exact .inl ⟨0, by omega, by omega, dist_zero s x⟩
      · rintro (⟨j, rfl, hj, _⟩ | ⟨_, hx⟩)
        · obtain rfl : j = 0 := by omega
          rfl
        · cases hx
    · rw [upd_other _ _ e]
      constructor
      · intro hk; cases hk
      · rintro (⟨j, rfl, hj, hd⟩ | ⟨_, hx⟩)
        · obtain rfl : j = 0 := by omega
          exact absurd hd.zero_eq e
        · cases hx
  · by_cases e : x = t
    · exact e ▸ ht
    · rw [upd_other _ _ e] at hx; cases hx
end

end Go.Proofs.Ytiinmmgknlnkaaa
