/-
  Lists of texts sorted, and made unlike: Sort and Compact of the library.
-/
import Derived.Test.YtejlekfnjhnklaaOwn
import Derived.Test.YtejlekfnjhnklaaGr
import Derived.Test.YtejlekfnjhnklaaShelf
import Derived.Sort.OwnSorted
namespace Go.Proofs.Ytejlekfnjhnklaa
open Go.RowKit Go.Maps Go.Sort

/-- Of a sorted list each once: rising, with the same members. -/
theorem compactUpTo_rising {d : Array Str} (hs : ∀ i j, i < j → j < d.size → d[i]! ≤ d[j]!) : ∀ m, m ≤ d.size → Rising (Lib.compactUpTo d m) ∧ (∀ y, y ∈ Lib.compactUpTo d m ↔ ∃ j, j < m ∧ d[j]! = y)
  | 0, _ => ⟨by simp [Lib.compactUpTo], fun y => by simp [Lib.compactUpTo]⟩
  | m + 1, hm => by
    obtain ⟨h1, h2⟩ := compactUpTo_rising hs m (by omega)
    rw [Lib.compactUpTo_succ]
    by_cases hk : Lib.keeps d m = true
    · rw [if_pos hk]
      constructor
      · refine List.pairwise_append.2 ⟨h1, List.pairwise_singleton _ _, fun a ha b hb => ?_⟩
        obtain rfl : b = d[m]! := by simpa using hb
        obtain ⟨j, hj, rfl⟩ := (h2 a).1 ha
        have hle := hs j m hj (by omega)
        simp only [Lib.keeps, decide_eq_true_eq] at hk
        rcases hk with h0 | hne
        · omega
        · have h3 : d[j]! ≤ d[m - 1]! := by
            by_cases e : j = m - 1
            · rw [e]; exact List.le_refl _
            · exact hs j (m - 1) (by omega) (by omega)
          have h4 := hs (m - 1) m (by omega) (by omega)
          have h5 : d[m - 1]! < d[m]! := by
            rcases str_tri d[m - 1]! d[m]! with h | h | h
            · exact h
            · exact absurd h.symm hne
            · exact absurd h (List.not_lt.2 h4)
          rcases str_tri d[j]! d[m]! with h | h | h
          · exact h
          · rw [h] at h3
            exact absurd h5 (List.not_lt.2 h3)
          · exact absurd h (List.not_lt.2 hle)
      · intro y
        rw [List.mem_append, h2]
        constructor
        · rintro (⟨j, hj, e⟩ | h)
          · exact ⟨j, by omega, e⟩
          · exact ⟨m, by omega, (List.mem_singleton.1 h).symm⟩
        · rintro ⟨j, hj, e⟩
          by_cases h : j = m
          · subst h; exact .inr (by simp [e])
          · exact .inl ⟨j, by omega, e⟩
    · rw [if_neg hk, List.append_nil]
      refine ⟨h1, fun y => ?_⟩
      rw [h2]
      constructor
      · rintro ⟨j, hj, e⟩
        exact ⟨j, by omega, e⟩
      · rintro ⟨j, hj, e⟩
        by_cases h : j = m
        · subst h
          simp only [Lib.keeps, decide_eq_true_eq, not_or, Classical.not_not] at hk
          exact ⟨j - 1, by omega, by rw [← hk.2]; exact e⟩
        · exact ⟨j, by omega, e⟩

def sortB (l : List Str) : List Str := l.mergeSort fun x y => decide (x ≤ y)

theorem compact_sorted (l : List Str) : Rising (Lib.compact (sortB l)) ∧ ∀ y, y ∈ Lib.compact (sortB l) ↔ y ∈ l := by
  have hp : (sortB l).Pairwise fun x y => decide (x ≤ y) = true := List.pairwise_mergeSort (fun a b c h1 h2 => by simp only [decide_eq_true_eq] at *; exact List.le_trans h1 h2) (fun a b => by
    simp only [Bool.or_eq_true, decide_eq_true_eq]
    exact List.le_total a b) l
  have hs : ∀ i j, i < j → j < (sortB l).toArray.size → (sortB l).toArray[i]! ≤ (sortB l).toArray[j]! := fun i j hij hj => by
    have hj' : j < (sortB l).length := by simpa using hj
    have h := List.pairwise_iff_getElem.1 hp i j (by omega) hj' hij
    rw [getElem!_pos _ i (by simp; omega), getElem!_pos _ j hj]
    simpa using h
  obtain ⟨h1, h2⟩ := compactUpTo_rising hs (sortB l).length (by simp)
  have hl : (sortB l).length = l.length := by simp [sortB]
  refine ⟨h1, fun y => (h2 y).trans ?_⟩
  rw [← (List.mergeSort_perm l (fun x y => decide (x ≤ y))).mem_iff]
  constructor
  · rintro ⟨j, hj, rfl⟩
    rw [getElem!_pos _ j (by rw [List.size_toArray]; exact hj)]
    exact List.getElem_mem hj
  · intro hy
    obtain ⟨j, hj, e⟩ := List.getElem_of_mem hy
    exact ⟨j, hj, by rw [getElem!_pos _ j (by rw [List.size_toArray]; exact hj)]; exact e⟩

/-- slices.Sort, then slices.Compact, at a list of the call's own. -/
theorem sort_is {w : World} {b : Nat} {v : Value} {l : List Str} (h : OwnStrs w b v l) (hs : l.length ≤ 1048576) : Calls Try.prog 36 #[v] w fun e w' => e = .returned (.tuple #[]) ∧ OwnStrs w' b v (sortB l) ∧ w.grownBy w' v.ownBlock := by
  by_cases h0 : l = []
  · subst h0
    obtain ⟨a, cap, rfl, _⟩ := h.open
    refine (Try.slices_Sort_string_none a cap w).mono ?_
    rintro e w' ⟨rfl, rfl⟩
    exact ⟨rfl, by simpa [sortB] using h, ⟨rfl, rfl, rfl, Nat.le_refl _, fun _ _ _ => rfl⟩⟩
  · obtain ⟨h1, ⟨hv, h2⟩ | ⟨g, cap, cur, rfl, hg, hb, hn, hm, hc, ht⟩⟩ := h
    · exact absurd (List.eq_nil_of_length_eq_zero h2) h0
    · refine (Try.slices_Sort_string g 0 cap l w (holds_of_block hb (by simpa using ht)) (Array.getElem?_eq_some_iff.1 hb).1 (by omega)).mono ?_
      rintro e w' ⟨rfl, n, os, rfl⟩
      have hl : (sortB l).length = l.length := by simp [sortB]
      refine ⟨rfl, ?_, grownBy_sorted _⟩
      have := ownsRow_sorted (n := n) (os := os) (ts := sortB l) hl hg hb hn hm hc
      unfold OwnStrs
      rw [hl]
      exact this

theorem compact_is {w : World} {b : Nat} {v : Value} {l : List Str} (h : OwnStrs w b v l) (hs : l.length ≤ 1048576) : Calls Try.prog 40 #[v] w fun e w' => ∃ v', e = .returned v' ∧ IsStrs w' v' (Lib.compact l) ∧ w.grownBy w' v.ownBlock := by
  by_cases h0 : l = []
  · subst h0
    obtain ⟨a, cap, rfl, _⟩ := h.open
    refine (Try.slices_Compact_string_empty a cap w).mono ?_
    rintro e w' ⟨rfl, rfl⟩
    exact ⟨_, rfl, ⟨a, cap, rfl, .inl rfl⟩, ⟨rfl, rfl, rfl, Nat.le_refl _, fun _ _ _ => rfl⟩⟩
  · obtain ⟨h1, ⟨hv, h2⟩ | ⟨g, cap, cur, rfl, hg, hb, hn, hm, hc, ht⟩⟩ := h
    · exact absurd (List.eq_nil_of_length_eq_zero h2) h0
    · have hh : Go.Sort.Holds encStr w g 0 l.toArray := holds_of_block hb (by simpa using ht)
      have hlt := (Array.getElem?_eq_some_iff.1 hb).1
      have hle : (Lib.compact l).length ≤ l.length := Lib.compact_length_le l
      refine (Try.slices_Compact_string g 0 cap l w hh (by omega) hn).mono ?_
      rintro e w' ⟨rfl, q, rfl⟩
      have hsz : (Lib.compact l ++ List.replicate (l.length - (Lib.compact l).length) []).toArray.size = l.toArray.size := by simp; omega
      refine ⟨_, rfl, ⟨_, cap, rfl, .inr ⟨g, 0, rfl, by simpa using hlt, fun i hi => ?_⟩⟩, ?_⟩
      · have hd : i < (Lib.compact l ++ List.replicate (l.length - (Lib.compact l).length) []).toArray.size := by rw [hsz]; simp; omega
        have := cell?_putRow encStr (Sort.ahead w q) g 0 l.toArray (Lib.compact l ++ List.replicate (l.length - (Lib.compact l).length) []).toArray (fun j hj => hh j hj) hsz i hd
        rw [this, getElem!_pos _ i hd]
        simp [List.getElem_append_left hi]
      · have := grownBy_sorted (w := w) (g := g) (n := q) (os := #[]) (Lib.compact l ++ List.replicate (l.length - (Lib.compact l).length) []).toArray
        rw [grow_empty] at this
        exact this

theorem IsStrs.slice {w : World} {v : Value} {l : List Str} (h : IsStrs w v l) : ∃ a cap, v = .slice a l.length cap := by
  obtain ⟨a, cap, hv, _⟩ := h
  exact ⟨a, cap, hv⟩

/-- Names put into a rising list, one behind the other. -/
def insAll (l : List Str) : List Str := l.foldl (fun a x => ins x a) []

theorem insAll_snoc (l : List Str) (x : Str) : insAll (l ++ [x]) = ins x (insAll l) := by simp [insAll]

theorem insAll_aux : ∀ (l a : List Str), Rising a → Rising (l.foldl (fun a x => ins x a) a) ∧ ∀ y, y ∈ l.foldl (fun a x => ins x a) a ↔ y ∈ a ∨ y ∈ l
  | [], a, h => ⟨h, fun y => by simp⟩
  | x :: r, a, h => by
    obtain ⟨h1, h2⟩ := insAll_aux r (ins x a) (rising_ins h)
    refine ⟨h1, fun y => ?_⟩
    rw [List.foldl_cons, h2, mem_ins, List.mem_cons]
    constructor
    · rintro ((h | h) | h)
      · exact .inr (.inl h)
      · exact .inl h
      · exact .inr (.inr h)
    · rintro (h | h | h)
      · exact .inl (.inr h)
      · exact .inl (.inl h)
      · exact .inr h

theorem insAll_rising (l : List Str) : Rising (insAll l) := (insAll_aux l [] List.Pairwise.nil).1
theorem mem_insAll {l : List Str} {y : Str} : y ∈ insAll l ↔ y ∈ l := by
  rw [insAll, (insAll_aux l [] List.Pairwise.nil).2]; simp

theorem compact_insAll (l : List Str) : Lib.compact (sortB l) = insAll l :=
  rising_ext (compact_sorted l).1 (insAll_rising l) fun y => by rw [(compact_sorted l).2, mem_insAll]

theorem insAll_length (l : List Str) : (insAll l).length ≤ l.length := by
  have : ∀ (l a : List Str), (l.foldl (fun a x => ins x a) a).length ≤ a.length + l.length := by
    intro l
    induction l with
    | nil => intro a; simp
    | cons x r ih =>
      intro a
      have h1 := ih (ins x a)
      have h2 : (ins x a).length ≤ a.length + 1 := length_ins_le
      simp only [List.foldl_cons, List.length_cons]
      omega
  simpa [insAll] using this l []

/-- Where a name goes into a list: at the first that is not less. -/
theorem ins_at {x : Str} : ∀ {l : List Str} {i : Nat}, i ≤ l.length → (∀ j (h : j < l.length), j < i → l[j] < x) → (∀ (h : i < l.length), ¬ l[i] < x ∧ l[i] ≠ x) → ins x l = l.take i ++ [x] ++ l.drop i
  | [], i, hi, _, _ => by
    obtain rfl : i = 0 := by simpa using hi
    rfl
  | y :: r, 0, _, _, h => by
    obtain ⟨h1, h2⟩ := h (by simp)
    simp only [List.getElem_cons_zero] at h1 h2
    have h3 : x < y := by
      rcases str_tri x y with h | h | h
      · exact h
      · exact absurd h.symm h2
      · exact absurd h h1
    simp [ins, h3]
  | y :: r, i + 1, hi, hlo, h => by
    have hy : y < x := hlo 0 (by simp) (by omega)
    have h3 : ¬ x < y := str_lt_asymm hy
    have h4 : ¬ x = y := fun e => str_lt_irrefl _ (e ▸ hy)
    have := ins_at (x := x) (l := r) (i := i) (by simpa using hi) (fun j hj hji => by
      have := hlo (j + 1) (by simpa using hj) (by omega)
      simpa using this) (fun hi2 => by
      have := h (by simpa using hi2)
      simpa using this)
    simp [ins, h3, h4, this]

theorem ins_hit {x : Str} : ∀ {l : List Str} {i : Nat} (_ : i < l.length), (∀ j (h : j < l.length), j < i → l[j] < x) → l[i] = x → ins x l = l
  | y :: r, 0, _, _, h => by
    simp only [List.getElem_cons_zero] at h
    subst h
    simp [ins, str_lt_irrefl]
  | y :: r, i + 1, hi, hlo, h => by
    have hy : y < x := hlo 0 (by simp) (by omega)
    have h3 : ¬ x < y := str_lt_asymm hy
    have h4 : ¬ x = y := fun e => str_lt_irrefl _ (e ▸ hy)
    have := ins_hit (x := x) (l := r) (i := i) (by simpa using hi) (fun j hj hji => by
      have := hlo (j + 1) (by simpa using hj) (by omega)
      simpa using this) (by simpa using h)
    simp [ins, h3, h4, this]

section
variable {w : World} {b : Nat} {v : Value} {l : List Str}

theorem sizeOf_SS (w : World) : (sizeOf (Try.prog.elem 35)).run Try.prog w = .ok 1 w := by
  obtain ⟨i0, hi, hz0, hz1, hz2⟩ := info_parts infoStr
  have : Try.prog.elem 35 = 9 := by kernel_rfl
  rw [this]
  simp [sizeOf, typeInfo, hi, hz1]

theorem elem_SS : Try.prog.underlying 35 = some (.slice (Try.prog.elem 35)) := by kernel_rfl

/-- 'l[:i]' -/
theorem own_slice_hi (h : OwnStrs w b v l) (i : Nat) (hi : i ≤ l.length) :
    ∃ v', (Instr.slice 35 v none (some (.int .i64 i)) none).run Try.prog w = .ok v' w ∧ IsStrs w v' (l.take i) := by
  have hs := h.shape
  have hl : (l.take i).length = i := by rw [List.length_take]; omega
  obtain ⟨a, c, rfl⟩ : ∃ a c, v = .slice a l.length c := by
    rcases hs with ⟨rfl, rfl⟩ | ⟨g, cap, rfl, _⟩
    · exact ⟨none, 0, rfl⟩
    · exact ⟨_, cap, rfl⟩
  have hcap : l.length ≤ c := by
    rcases hs with ⟨e, e2⟩ | ⟨g, cap, e, _, hg, _⟩
    · rw [e2]; simp
    · cases e; exact h.caps.2.1
  refine ⟨_, (run_slice_h w 35 a l.length c elem_SS .i64 i (by omega) (by omega)).trans (by rw [sizeOf_SS]; rfl), ?_⟩
  show IsStrs w (.slice (if c = 0 then a else a.map (·.add (0 * 1))) (i - 0) (c - 0)) (l.take i)
  by_cases hc0 : c = 0
  · have : i = 0 := by omega
    subst this
    exact ⟨_, _, by rw [hl], .inl (by simp)⟩
  · rw [if_neg hc0]
    refine ⟨_, _, by rw [hl]; rfl, ?_⟩
    rcases hs with ⟨_, e⟩ | ⟨g, cap, e, _, hg, hc⟩
    · exact .inl (by rw [e]; simp)
    · cases e
      refine .inr ⟨g, 0, by simp [Addr.add], hg, fun j hj => ?_⟩
      rw [hl] at hj
      rw [List.getElem_take, Nat.zero_add]
      exact hc j (by omega)

/-- 'l[i:]' -/
theorem own_slice_lo (h : OwnStrs w b v l) (i : Nat) (hi : i ≤ l.length) :
    ∃ v', (Instr.slice 35 v (some (.int .i64 i)) none none).run Try.prog w = .ok v' w ∧ IsStrs w v' (l.drop i) := by
  have hs := h.shape
  have hl : (l.drop i).length = l.length - i := by rw [List.length_drop]
  obtain ⟨a, c, rfl⟩ : ∃ a c, v = .slice a l.length c := by
    rcases hs with ⟨rfl, rfl⟩ | ⟨g, cap, rfl, _⟩
    · exact ⟨none, 0, rfl⟩
    · exact ⟨_, cap, rfl⟩
  have hcap : l.length ≤ c := by
    rcases hs with ⟨e, e2⟩ | ⟨g, cap, e, _, hg, _⟩
    · rw [e2]; simp
    · cases e; exact h.caps.2.1
  refine ⟨_, (run_slice_l w 35 a l.length c elem_SS .i64 i (by omega) (by omega)).trans (by rw [sizeOf_SS]; rfl), ?_⟩
  show IsStrs w (.slice (if c = (i : Int).toNat then a else a.map (·.add ((i : Int).toNat * 1))) (l.length - (i : Int).toNat) (c - (i : Int).toNat)) (l.drop i)
  rw [show (i : Int).toNat = i from by omega]
  by_cases hc0 : c = i
  · have : i = l.length := by omega
    exact ⟨_, _, by rw [hl], .inl (by rw [this]; simp)⟩
  · rw [if_neg hc0]
    refine ⟨_, _, by rw [hl], ?_⟩
    rcases hs with ⟨_, e⟩ | ⟨g, cap, e, _, hg, hc⟩
    · exact .inl (by rw [e]; simp)
    · cases e
      refine .inr ⟨g, i, ?_, hg, fun j hj => ?_⟩
      · by_cases hi0 : i = 0
        · subst hi0; simp [Addr.add]
        · simp [Addr.add, hi0]
      · rw [hl] at hj
        rw [List.getElem_drop]
        exact hc (i + j) (by omega)
end

end Go.Proofs.Ytejlekfnjhnklaa
