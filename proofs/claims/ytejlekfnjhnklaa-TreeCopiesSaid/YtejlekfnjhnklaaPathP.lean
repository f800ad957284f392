/-
  Paths as plain data. No program in sight.
-/
import Derived.Test.YtejlekfnjhnklaaMap
import Derived.Lib.IndexMore
namespace Go.Proofs.Ytejlekfnjhnklaa

/-- May a byte stand in a segment? -/
def mayN (c : Nat) : Bool := (decide (97 ≤ c) && decide (c ≤ 122)) || (decide (48 ≤ c) && decide (c ≤ 57)) || decide (c = 95) || decide (c = 46) || decide (c = 45)

theorem mayN_iff (c : Nat) : mayN c = true ↔ ((97 ≤ c ∧ c ≤ 122) ∨ (48 ≤ c ∧ c ≤ 57) ∨ c = 95 ∨ c = 46 ∨ c = 45) := by
  simp [mayN, or_assoc]

def segHead (s : Str) : Bool := decide (s ≠ []) && decide (s.length ≤ 32) && decide (s ≠ [46]) && decide (s ≠ [46, 46])
def segOk (s : Str) : Bool := segHead s && s.all fun b => mayN b.toNat

/-- Ahead of the first slash, and behind it. -/
def cutS : Str → Option (Str × Str)
  | [] => none
  | b :: l => if b = 47 then some ([], l) else (cutS l).map fun p => (b :: p.1, p.2)

theorem cut_eq : ∀ s : Str, Go.Lib.cut s [47] = match cutS s with | none => (s, [], false) | some p => (p.1, p.2, true)
  | [] => rfl
  | b :: l => by
    have ih := cut_eq l
    by_cases hb : b = 47
    · subst hb
      simp [cutS, Go.Lib.cut, Go.Lib.index]
    · have hp : ([47] : Str).isPrefixOf (b :: l) = false := by simp [List.isPrefixOf]; exact fun h => hb h.symm
      have hi : Go.Lib.index (b :: l) [47] = if Go.Lib.index l [47] == -1 then -1 else Go.Lib.index l [47] + 1 := by
        rw [Go.Lib.index, hp]
        rfl
      simp only [cutS, if_neg hb]
      rcases Go.Lib.index_spec l [47] with ⟨h1, _⟩ | ⟨i, h1, _, _, _⟩
      · have h2 : Go.Lib.index (b :: l) [47] = -1 := by rw [hi, h1]; rfl
        simp only [Go.Lib.cut, h1, h2] at ih ⊢
        cases hc : cutS l with
        | none => rfl
        | some p => rw [hc] at ih; simp at ih
      · have h2 : Go.Lib.index (b :: l) [47] = ((i + 1 : Nat) : Int) := by
          rw [hi, h1]
          have : ((i : Int) == -1) = false := by rw [beq_eq_false_iff_ne]; omega
          rw [this]
          simp
        simp only [Go.Lib.cut, h1, h2] at ih ⊢
        have h3 : (0 : Int) ≤ (i : Int) := by omega
        have h4 : (0 : Int) ≤ ((i + 1 : Nat) : Int) := by omega
        rw [if_pos h3] at ih
        rw [if_pos h4]
        cases hc : cutS l with
        | none => rw [hc] at ih; simp at ih
        | some p =>
          rw [hc] at ih
          obtain ⟨p1, p2⟩ := p
          simp only [Int.toNat_natCast, Prod.mk.injEq] at ih
          obtain ⟨e1, e2, _⟩ := ih
          subst e1 e2
          simp only [Int.toNat_natCast, Option.map_some, List.take_succ_cons, List.length_singleton]
          rw [List.drop_succ_cons]

theorem cutS_shorter : ∀ {s a r : Str}, cutS s = some (a, r) → r.length < s.length
  | [], _, _, h => by simp [cutS] at h
  | b :: l, a, r, h => by
    simp only [cutS] at h
    split at h
    · simp only [Option.some.injEq, Prod.mk.injEq] at h
      rw [← h.2]; simp
    · simp only [Option.map_eq_some_iff] at h
      obtain ⟨p, hp, e⟩ := h
      simp only [Prod.mk.injEq] at e
      have := cutS_shorter (s := l) (a := p.1) (r := p.2) hp
      rw [← e.2, List.length_cons]; omega

def consHead (b : UInt8) : List Str → List Str
  | [] => [[b]]
  | h :: t => (b :: h) :: t

/-- The pieces between a text's slashes. -/
def pieces : Str → List Str
  | [] => [[]]
  | b :: l => if b = 47 then [] :: pieces l else consHead b (pieces l)

theorem pieces_cut : ∀ s : Str, pieces s = match cutS s with | none => [s] | some p => p.1 :: pieces p.2
  | [] => rfl
  | b :: l => by
    have ih := pieces_cut l
    by_cases hb : b = 47
    · subst hb; simp [pieces, cutS]
    · simp only [pieces, cutS, if_neg hb]
      rw [ih]
      cases hc : cutS l with
      | none => rfl
      | some p => rfl

def isPath (s : Str) : Bool := decide (s.length ≤ 60) && (pieces s).all segOk

theorem isPath_long {s : Str} (h : 60 < s.length) : isPath s = false := by
  simp [isPath]; omega
theorem isPath_short {s : Str} (h : s.length ≤ 60) : isPath s = (pieces s).all segOk := by
  simp [isPath, h]

end Go.Proofs.Ytejlekfnjhnklaa
