/-
  The order, reckoned: the least name whose needs are all done comes next. No program in sight.
-/
import Derived.Test.YtiinmmgknlnkaaaWayP
namespace Go.Proofs.Ytiinmmgknlnkaaa

/-- How many of the names that x asks are still to come. -/
def leftOf (G : Gr) (rem : List Str) (x : Str) : Nat := ((G.out x).filter fun y => decide (y ∈ rem)).length

def without (rem : List Str) (x : Str) : List Str := rem.filter fun y => !decide (y = x)

def orderFrom (G : Gr) : Nat → List Str → Option (List Str)
  | 0, rem => if rem = [] then some [] else none
  | n + 1, rem => if rem = [] then some [] else match rem.find? fun x => decide (leftOf G rem x = 0) with
    | none => none
    | some x => (orderFrom G n (without rem x)).map (x :: ·)

def orderOf (G : Gr) : Option (List Str) := orderFrom G G.ns.length G.ns

theorem mem_without {rem : List Str} {x y : Str} : y ∈ without rem x ↔ y ∈ rem ∧ y ≠ x := by
  simp [without]

theorem without_length {rem : List Str} (h : Rising rem) {x : Str} (hx : x ∈ rem) : (without rem x).length + 1 = rem.length := by
  have h1 : (without rem x).Nodup := Rising.nodup (h.filter _)
  have h2 : (x :: without rem x).Perm rem := (List.perm_ext_iff_of_nodup (List.nodup_cons.2 ⟨fun hm => (mem_without.1 hm).2 rfl, h1⟩) h.nodup).2 fun y => by
    rw [List.mem_cons, mem_without]
    constructor
    · rintro (rfl | h)
      · exact hx
      · exact h.1
    · intro hy
      by_cases e : y = x
      · exact .inl e
      · exact .inr ⟨hy, e⟩
  simpa using h2.length_eq

theorem filter_without_length {l rem : List Str} (hl : l.Nodup) {x : Str} : (l.filter fun y => decide (y ∈ rem)).length = (l.filter fun y => decide (y ∈ without rem x)).length + (if x ∈ l ∧ x ∈ rem then 1 else 0) := by
  induction l with
  | nil => simp
  | cons a r ih =>
    obtain ⟨h1, h2⟩ := List.nodup_cons.1 hl
    have ih := ih h2
    simp only [List.filter_cons, mem_without]
    by_cases e : a = x
    · subst e
      have h3 : ¬ (a ∈ r ∧ a ∈ rem) := fun h => h1 h.1
      rw [if_neg h3] at ih
      simp only [mem_without] at ih
      by_cases hm : a ∈ rem
      · simp [hm]; simpa using ih
      · simp [hm]; simpa using ih
    · have e' : ¬ x = a := fun h => e h.symm
      simp only [mem_without] at ih
      by_cases hm : a ∈ rem
      · simp [hm, e, e'] at ih ⊢; omega
      · simp [hm, e'] at ih ⊢; exact ih

theorem leftOf_without {G : Gr} (h : G.ok) (rem : List Str) {x z : Str} (hx : x ∈ rem) : leftOf G rem z = leftOf G (without rem x) z + (if G.e z x = true then 1 else 0) := by
  unfold leftOf
  rw [filter_without_length (h.out_rising z).nodup (x := x)]
  congr 1
  by_cases he : G.e z x = true
  · rw [if_pos he, if_pos ⟨h.mem_out.2 he, hx⟩]
  · rw [if_neg he, if_neg (fun h' => he (h.mem_out.1 h'.1))]

theorem leftOf_all {G : Gr} (_h : G.ok) (x : Str) : leftOf G G.ns x = (G.out x).length := by
  unfold leftOf
  rw [List.filter_eq_self.2]
  intro y hy
  simpa using (List.mem_filter.1 hy).1

/-- Nobody that was ready asks x, if x is still to come. -/
theorem not_ready {G : Gr} {rem : List Str} {x y : Str} (h : G.ok) (hy : G.e x y = true) (hm : y ∈ rem) : leftOf G rem x ≠ 0 := by
  unfold leftOf
  intro e
  have := List.eq_nil_of_length_eq_zero e
  have h2 : y ∈ (G.out x).filter fun y => decide (y ∈ rem) := List.mem_filter.2 ⟨h.mem_out.2 hy, by simpa using hm⟩
  rw [this] at h2
  cases h2

/-- Whoever is not to come any more, asks nobody who is. -/
def Settled (G : Gr) (rem : List Str) : Prop := ∀ x y, x ∈ G.ns → x ∉ rem → G.e x y = true → y ∉ rem

theorem Settled.start (G : Gr) : Settled G G.ns := fun _ _ hx hn => absurd hx hn
theorem Settled.step {G : Gr} (h : G.ok) {rem : List Str} (hs : Settled G rem) {x : Str} (h0 : leftOf G rem x = 0) : Settled G (without rem x) := by
  intro z y hz hn he hy
  obtain ⟨hy1, hy2⟩ := mem_without.1 hy
  by_cases e : z = x
  · subst e; exact not_ready h he hy1 h0
  · exact hs z y hz (fun hm => hn (mem_without.2 ⟨hm, e⟩)) he hy1

/-- Who asks x is still to come, and is not x. -/
theorem asks_rem {G : Gr} (h : G.ok) {rem : List Str} (hs : Settled G rem) {x z : Str} (hx : x ∈ rem) (h0 : leftOf G rem x = 0) (he : G.e z x = true) : z ∈ without rem x := by
  have hz : z ∈ rem := by
    by_cases hm : z ∈ rem
    · exact hm
    · exact absurd hx (hs z x (h.ends z x he).1 hm he)
  refine mem_without.2 ⟨hz, fun e => ?_⟩
  subst e
  exact not_ready h he hx h0

/-- The table: of each name still to come, how many it still waits for. -/
def leftMap (G : Gr) (rem : List Str) : Str → Option Int := fun x => if x ∈ rem then some (leftOf G rem x : Int) else none

/-- .. while those that ask x are told, one by one. -/
def tellMap (G : Gr) (rem : List Str) (x : Str) (left : Str → Bool) : Str → Option Int :=
  fun z => if z ∈ without rem x then some ((leftOf G rem z : Int) - if G.e z x && !left z then 1 else 0) else none

theorem tell_start {G : Gr} (rem : List Str) (x z : Str) (left : Str → Bool) (hl : ∀ z, G.e z x = true → left z = true) : upd (leftMap G rem) x none z = tellMap G rem x left z := by
  unfold tellMap leftMap
  by_cases e : z = x
  · subst e
    rw [upd_same, if_neg (fun h => (mem_without.1 h).2 rfl)]
  · rw [upd_other _ _ e]
    have : (G.e z x && !left z) = false := by
      cases he : G.e z x
      · rfl
      · rw [hl z he]; rfl
    rw [this]
    by_cases hm : z ∈ rem
    · rw [if_pos hm, if_pos (mem_without.2 ⟨hm, e⟩)]; simp
    · rw [if_neg hm, if_neg (fun h => hm (mem_without.1 h).1)]

theorem tell_step {G : Gr} (rem : List Str) (x y : Str) (left : Str → Bool) (hy : y ∈ without rem x) (he : G.e y x = true) (hl : left y = true) (z : Str) :
    upd (tellMap G rem x left) y (some ((leftOf G rem y : Int) - 1)) z = tellMap G rem x (fun z => left z && !decide (z = y)) z := by
  unfold tellMap
  by_cases e : z = y
  · subst e
    rw [upd_same, if_pos hy]
    simp [he]
  · rw [upd_other _ _ e]
    simp [e]

theorem tell_at {G : Gr} (rem : List Str) (x y : Str) (left : Str → Bool) (hy : y ∈ without rem x) (hl : left y = true) : tellMap G rem x left y = some (leftOf G rem y : Int) := by
  unfold tellMap
  rw [if_pos hy]
  simp [hl]

theorem tell_end {G : Gr} (h : G.ok) (rem : List Str) (x z : Str) (hx : x ∈ rem) (left : Str → Bool) (hl : ∀ z, left z = false) : tellMap G rem x left z = leftMap G (without rem x) z := by
  unfold tellMap leftMap
  by_cases hm : z ∈ without rem x
  · rw [if_pos hm, if_pos hm, leftOf_without h rem hx (z := z)]
    cases he : G.e z x <;> simp [hl]
  · rw [if_neg hm, if_neg hm]

theorem order_step {G : Gr} {rem : List Str} (_hr : Rising rem) {n j : Nat} (hn : rem.length = n + 1) (hj : j < rem.length) (h0 : leftOf G rem rem[j] = 0) (hno : ∀ i (hi : i < j), leftOf G rem rem[i] ≠ 0) :
    orderFrom G (n + 1) rem = (orderFrom G n (without rem rem[j])).map (rem[j] :: ·) := by
  have hne : rem ≠ [] := fun e => by rw [e] at hn; cases hn
  have := find_at (p := fun x => decide (leftOf G rem x = 0)) hj (by simpa using h0) fun i hi => by simpa using hno i hi
  simp only [orderFrom, hne, if_false, this]

theorem order_stuck {G : Gr} {rem : List Str} {n : Nat} (hne : rem ≠ []) (hno : ∀ i (hi : i < rem.length), leftOf G rem rem[i] ≠ 0) : orderFrom G n rem = none := by
  cases n with
  | zero => simp [orderFrom, hne]
  | succ n =>
    have : rem.find? (fun x => decide (leftOf G rem x = 0)) = none := List.find?_eq_none.2 fun x hx => by
      obtain ⟨i, hi, rfl⟩ := List.getElem_of_mem hx
      simpa using hno i hi
    simp only [orderFrom, hne, if_false, this]

end Go.Proofs.Ytiinmmgknlnkaaa
