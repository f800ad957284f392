/-
  The least of the shortest ways, reckoned. No program in sight.
-/
import Derived.Test.YtiinmmgknlnkaaaDist
namespace Go.Proofs.Ytiinmmgknlnkaaa

/-- Is there a way of just n steps? -/
def pathB (G : Gr) (t : Str) : Nat → Str → Bool
  | 0, x => decide (x = t)
  | n + 1, x => (G.out x).any (pathB G t n)

theorem pathB_iff {G : Gr} (h : G.ok) (t : Str) : ∀ (n : Nat) (x : Str), pathB G t n x = true ↔ PathN G.e n x t
  | 0, x => by
    simp only [pathB, decide_eq_true_eq]
    exact ⟨fun e => e ▸ .zero x, fun hp => by cases hp; rfl⟩
  | n + 1, x => by
    simp only [pathB, List.any_eq_true]
    constructor
    · rintro ⟨y, hy, hp⟩
      exact .succ (h.mem_out.1 hy) ((pathB_iff h t n y).1 hp)
    · intro hp
      cases hp with
      | succ he hk => exact ⟨_, h.mem_out.2 he, (pathB_iff h t n _).2 hk⟩

/-- Is it just so far? -/
def distB (G : Gr) (t : Str) (k : Nat) (x : Str) : Bool := pathB G t k x && (List.range k).all fun j => !pathB G t j x

theorem distB_iff {G : Gr} (h : G.ok) (t : Str) (k : Nat) (x : Str) : distB G t k x = true ↔ IsDist G.e t k x := by
  simp only [distB, Bool.and_eq_true, List.all_eq_true, List.mem_range, Bool.not_eq_true', IsDist, pathB_iff h]
  refine and_congr Iff.rfl (forall_congr' fun j => imp_congr Iff.rfl ?_)
  rw [← pathB_iff h]
  simp

/-- The next name on the way. -/
def nextOn (G : Gr) (t : Str) (k : Nat) (x : Str) : Str := ((G.out x).find? (distB G t k)).getD x

/-- The way from a name that is k steps off. -/
def wayFrom (G : Gr) (t : Str) : Nat → Str → List Str
  | 0, x => [x]
  | k + 1, x => x :: wayFrom G t k (nextOn G t k x)

theorem find_at {α : Type} {p : α → Bool} : ∀ {l : List α} {j : Nat} (hj : j < l.length), p l[j] = true → (∀ i (hi : i < j), p l[i] = false) → l.find? p = some l[j]
  | a :: r, 0, _, hp, _ => by simp at hp; simp [hp]
  | a :: r, j + 1, hj, hp, hn => by
    have h0 := hn 0 (by omega)
    simp at h0
    simp only [List.find?_cons, h0, List.getElem_cons_succ]
    exact find_at (l := r) (by simpa using hj) (by simpa using hp) fun i hi => by simpa using hn (i + 1) (by omega)

theorem nextOn_dist {G : Gr} (h : G.ok) {t x : Str} {k : Nat} (hd : IsDist G.e t (k + 1) x) : IsDist G.e t k (nextOn G t k x) ∧ G.e x (nextOn G t k x) = true := by
  obtain ⟨y, he, hy⟩ := hd.pred
  unfold nextOn
  cases hf : (G.out x).find? (distB G t k) with
  | none =>
    have := List.find?_eq_none.1 hf y (h.mem_out.2 he)
    rw [(distB_iff h t k y).2 hy] at this
    exact absurd rfl this
  | some z =>
    exact ⟨(distB_iff h t k z).1 (List.find?_some hf), h.mem_out.1 (List.mem_of_find?_eq_some hf)⟩

theorem wayFrom_length (G : Gr) (t : Str) : ∀ (k : Nat) (x : Str), (wayFrom G t k x).length = k + 1
  | 0, _ => rfl
  | k + 1, x => by simp [wayFrom, wayFrom_length G t k]

/-- A name on a shortest way is far off by less than there are names. -/
theorem dist_few {G : Gr} (h : G.ok) {t : Str} (ht : t ∈ G.ns) : ∀ {k : Nat} {x : Str}, IsDist G.e t k x → ∃ l : List Str, l.length = k + 1 ∧ l.Nodup ∧ (∀ y ∈ l, y ∈ G.ns) ∧ ∀ y ∈ l, ∃ j, j ≤ k ∧ IsDist G.e t j y
  | 0, x, hd => by
    obtain rfl := hd.zero_eq
    exact ⟨[x], rfl, by simp, by simpa using ht, fun y hy => ⟨0, Nat.le_refl _, by simp at hy; exact hy ▸ hd⟩⟩
  | k + 1, x, hd => by
    obtain ⟨y, he, hy⟩ := hd.pred
    obtain ⟨l, h1, h2, h3, h4⟩ := dist_few h ht hy
    refine ⟨x :: l, by simp [h1], List.nodup_cons.2 ⟨fun hm => ?_, h2⟩, fun z hz => ?_, fun z hz => ?_⟩
    · obtain ⟨j, hj, hdj⟩ := h4 x hm
      have := hd.unique hdj
      omega
    · rcases List.mem_cons.1 hz with rfl | hz
      · exact (h.ends _ _ he).1
      · exact h3 z hz
    · rcases List.mem_cons.1 hz with rfl | hz
      · exact ⟨k + 1, Nat.le_refl _, hd⟩
      · obtain ⟨j, hj, hdj⟩ := h4 z hz
        exact ⟨j, by omega, hdj⟩

theorem subset_length {l l' : List Str} (hn : l.Nodup) (hs : ∀ x ∈ l, x ∈ l') : l.length ≤ l'.length := by
  induction l generalizing l' with
  | nil => exact Nat.zero_le _
  | cons x r ih =>
    obtain ⟨h1, h2⟩ := List.nodup_cons.1 hn
    have hx := hs x (by simp)
    have := ih (l' := l'.erase x) h2 fun y hy => (List.mem_erase_of_ne (fun e => h1 (by rw [← e]; exact hy))).2 (hs y (by simp [hy]))
    rw [List.length_erase_of_mem hx] at this
    have : 0 < l'.length := List.length_pos_of_mem hx
    simp only [List.length_cons]
    omega

theorem dist_lt {G : Gr} (h : G.ok) {t : Str} (ht : t ∈ G.ns) {k : Nat} {x : Str} (hd : IsDist G.e t k x) : k < G.ns.length := by
  obtain ⟨l, h1, h2, h3, _⟩ := dist_few h ht hd
  have := subset_length h2 h3
  omega

/-- How far a name is off, if a way leads to t: reckoned. -/
def distOf (G : Gr) (t x : Str) : Option Nat := (List.range G.ns.length).find? fun k => distB G t k x

theorem distOf_some {G : Gr} (h : G.ok) {t x : Str} (ht : t ∈ G.ns) {k : Nat} : distOf G t x = some k ↔ IsDist G.e t k x := by
  constructor
  · intro hf
    exact (distB_iff h t k x).1 (List.find?_some (p := fun k => distB G t k x) hf)
  · intro hd
    have hk := dist_lt h ht hd
    cases hf : distOf G t x with
    | none =>
      have := List.find?_eq_none.1 hf k (by simpa using hk)
      rw [(distB_iff h t k x).2 hd] at this
      exact absurd rfl this
    | some j => rw [hd.unique ((distB_iff h t j x).1 (List.find?_some (p := fun k => distB G t k x) hf))]

theorem distOf_none {G : Gr} (h : G.ok) {t x : Str} (ht : t ∈ G.ns) (hn : ∀ k, ¬ IsDist G.e t k x) : distOf G t x = none := by
  cases hf : distOf G t x with
  | none => rfl
  | some k => exact absurd ((distOf_some h ht).1 hf) (hn k)

/-- The least of the shortest ways; nothing where there is none. -/
def wayOf (G : Gr) (a b : Str) : Option (List Str) :=
  if a ∈ G.ns ∧ b ∈ G.ns then (distOf G b a).map fun k => wayFrom G b k a else none

end Go.Proofs.Ytiinmmgknlnkaaa
