/-
  Source trees as plain data: files, rising by path, and all changes. No program in sight.
-/
import Derived.Test.YtejlekfnjhnklaaGr
import Derived.Test.YtejlekfnjhnklaaPathP
namespace Go.Proofs.Ytejlekfnjhnklaa

abbrev FileL := List (Str × Str)

structure Tr where
  fs : FileL
  ch : List Str

def Tr.empty : Tr := ⟨[], []⟩

abbrev keys (fs : FileL) : List Str := fs.map (·.1)

/-- Where a path stands, or would stand. -/
def pos (fs : FileL) (p : Str) : Nat := (fs.takeWhile fun f => decide (f.1 < p)).length

def look (fs : FileL) (p : Str) : Option Str := (fs.find? fun f => decide (f.1 = p)).map (·.2)

def put (fs : FileL) (p s : Str) : FileL := fs.takeWhile (fun f => decide (f.1 < p)) ++ (p, s) :: (fs.filter fun f => decide (p < f.1))
def del (fs : FileL) (p : Str) : FileL := fs.filter fun f => !decide (f.1 = p)

theorem look_none {fs : FileL} {p : Str} : look fs p = none ↔ p ∉ keys fs := by
  simp only [look, Option.map_eq_none_iff, List.find?_eq_none, decide_eq_true_eq, List.mem_map]
  constructor
  · rintro h ⟨f, hf, e⟩
    exact h f hf e
  · intro h f hf e
    exact h ⟨f, hf, e⟩

theorem look_some {fs : FileL} (hr : Rising (keys fs)) {p s : Str} : look fs p = some s ↔ (p, s) ∈ fs := by
  induction fs with
  | nil => simp [look]
  | cons a r ih =>
    have hr2 : Rising (keys r) := (List.pairwise_cons.1 hr).2
    have hlt := (List.pairwise_cons.1 hr).1
    by_cases ha : a.1 = p
    · have : look (a :: r) p = some a.2 := by simp [look, ha]
      rw [this, List.mem_cons]
      constructor
      · intro h
        left
        obtain rfl : a.2 = s := by simpa using h
        exact Prod.ext ha.symm rfl
      · rintro (h | h)
        · rw [← h]
        · exact absurd (ha ▸ hlt p (List.mem_map_of_mem (f := fun f : Str × Str => f.1) h)) (str_lt_irrefl _)
    · have : look (a :: r) p = look r p := by simp [look, ha]
      rw [this, ih hr2, List.mem_cons]
      constructor
      · exact .inr
      · rintro (h | h)
        · exact absurd (by rw [← h]) ha
        · exact h

/-- In a rising list: those before p, p's own, those behind. -/
theorem split_at (fs : FileL) (hr : Rising (keys fs)) (p : Str) : fs = fs.takeWhile (fun f => decide (f.1 < p)) ++ (fs.filter (fun f => decide (f.1 = p)) ++ fs.filter fun f => decide (p < f.1)) := by
  induction fs with
  | nil => rfl
  | cons a r ih =>
    have hr2 : Rising (keys r) := (List.pairwise_cons.1 hr).2
    have hlt := (List.pairwise_cons.1 hr).1
    rcases str_tri a.1 p with h | h | h
    · have h1 : ¬ a.1 = p := fun e => str_lt_irrefl _ (e ▸ h)
      have h2 : ¬ p < a.1 := str_lt_asymm h
      conv => lhs; rw [ih hr2]
      simp [h, h1, h2]
    · have hall : ∀ f ∈ r, p < f.1 := fun f hf => h ▸ hlt f.1 (List.mem_map_of_mem hf)
      have e1 : r.filter (fun f => decide (f.1 = p)) = [] := List.filter_eq_nil_iff.2 fun f hf => by
        have := hall f hf
        simp only [decide_eq_true_eq]
        exact fun e => str_lt_irrefl _ (e ▸ this)
      have e2 : r.filter (fun f => decide (p < f.1)) = r := List.filter_eq_self.2 fun f hf => by simpa using hall f hf
      simp [h, e1, e2, str_lt_irrefl]
    · have hall : ∀ f ∈ r, p < f.1 := fun f hf => str_lt_trans h (hlt f.1 (List.mem_map_of_mem hf))
      have e1 : r.filter (fun f => decide (f.1 = p)) = [] := List.filter_eq_nil_iff.2 fun f hf => by
        have := hall f hf
        simp only [decide_eq_true_eq]
        exact fun e => str_lt_irrefl _ (e ▸ this)
      have e2 : r.filter (fun f => decide (p < f.1)) = r := List.filter_eq_self.2 fun f hf => by simpa using hall f hf
      have h1 : ¬ a.1 = p := fun e => str_lt_irrefl _ (e ▸ h)
      have h2 : ¬ a.1 < p := str_lt_asymm h
      simp [h, e1, e2, h1, h2]

theorem mem_tw {α : Type} {q : α → Bool} : ∀ {l : List α} {x : α}, x ∈ l.takeWhile q → q x = true
  | [], _, h => by simp at h
  | a :: r, x, h => by
    rw [List.takeWhile_cons] at h
    split at h
    · rcases List.mem_cons.1 h with rfl | h
      · assumption
      · exact mem_tw h
    · cases h

theorem mid_none {fs : FileL} {p : Str} (h : look fs p = none) : fs.filter (fun f => decide (f.1 = p)) = [] :=
  List.filter_eq_nil_iff.2 fun f hf => by
    simp only [decide_eq_true_eq]
    exact fun e => look_none.1 h (List.mem_map.2 ⟨f, hf, e⟩)

theorem pos_le (fs : FileL) (p : Str) : pos fs p ≤ fs.length := List.IsPrefix.length_le (List.takeWhile_prefix _)

theorem at_miss {fs : FileL} {p : Str} (h : look fs p = none) (hl : pos fs p < fs.length) : ¬ fs[pos fs p].1 = p := fun e =>
  look_none.1 h (List.mem_map.2 ⟨_, List.getElem_mem hl, e⟩)

section
variable {fs : FileL} (hr : Rising (keys fs)) (p : Str)
include hr

theorem mid_some {v : Str} (h : look fs p = some v) : fs.filter (fun f => decide (f.1 = p)) = [(p, v)] := by
  have hm := (look_some hr).1 h
  have h1 : ∀ f ∈ fs.filter (fun f => decide (f.1 = p)), f = (p, v) := fun f hf => by
    obtain ⟨hf1, hf2⟩ := List.mem_filter.1 hf
    have e : f.1 = p := by simpa using hf2
    have : look fs p = some f.2 := (look_some hr).2 (by rw [← e]; exact hf1)
    rw [h] at this
    exact Prod.ext e (by simpa using this.symm)
  have h2 : (p, v) ∈ fs.filter (fun f => decide (f.1 = p)) := List.mem_filter.2 ⟨hm, by simp⟩
  have h3 : Rising (keys (fs.filter (fun f => decide (f.1 = p)))) := hr.sublist ((List.filter_sublist).map _)
  generalize fs.filter (fun f => decide (f.1 = p)) = M at h1 h2 h3
  match M, h1, h2, h3 with
  | [], _, h2, _ => cases h2
  | [a], h1, _, _ => rw [h1 a (List.mem_cons_self ..)]
  | a :: b :: r, h1, _, h3 =>
    have ea := h1 a (List.mem_cons_self ..)
    have eb := h1 b (List.mem_cons_of_mem _ (List.mem_cons_self ..))
    have := (List.pairwise_cons.1 h3).1 b.1 (List.mem_cons_self ..)
    rw [ea, eb] at this
    exact absurd this (str_lt_irrefl _)

theorem take_pos : fs.take (pos fs p) = fs.takeWhile fun f => decide (f.1 < p) := by
  have h := split_at fs hr p
  conv => lhs; rw [h]
  unfold pos
  conv => lhs; arg 1; rw [← h]
  rw [List.take_left]

theorem drop_pos : fs.drop (pos fs p) = fs.filter (fun f => decide (f.1 = p)) ++ fs.filter fun f => decide (p < f.1) := by
  have h := split_at fs hr p
  conv => lhs; arg 2; rw [h]
  exact List.drop_left

theorem put_miss (s : Str) (h : look fs p = none) : fs.take (pos fs p) ++ [(p, s)] ++ fs.drop (pos fs p) = put fs p s := by
  rw [take_pos hr, drop_pos hr, mid_none h]
  simp [put]

theorem put_hit (s : Str) {v : Str} (h : look fs p = some v) : fs.take (pos fs p) ++ [(p, s)] ++ fs.drop (pos fs p + 1) = put fs p s := by
  rw [← List.drop_drop, take_pos hr, drop_pos hr, mid_some hr p h]
  simp [put]

theorem del_hit {v : Str} (h : look fs p = some v) : fs.take (pos fs p) ++ fs.drop (pos fs p + 1) = del fs p := by
  rw [← List.drop_drop, take_pos hr, drop_pos hr, mid_some hr p h]
  have hs := split_at fs hr p
  rw [mid_some hr p h] at hs
  conv => rhs; unfold del; rw [hs]
  rw [List.filter_append]
  have e1 : (fs.takeWhile fun f => decide (f.1 < p)).filter (fun f => !decide (f.1 = p)) = fs.takeWhile fun f => decide (f.1 < p) := List.filter_eq_self.2 fun f hf => by
    have := mem_tw hf
    simp only [decide_eq_true_eq] at this
    simp only [Bool.not_eq_true', decide_eq_false_iff_not]
    exact fun e => str_lt_irrefl _ (e ▸ this)
  have e2 : (fs.filter fun f => decide (p < f.1)).filter (fun f => !decide (f.1 = p)) = fs.filter fun f => decide (p < f.1) := List.filter_eq_self.2 fun f hf => by
    have := (List.mem_filter.1 hf).2
    simp only [decide_eq_true_eq] at this
    simp only [Bool.not_eq_true', decide_eq_false_iff_not]
    exact fun e => str_lt_irrefl _ (e ▸ this)
  rw [e1]
  simp [e2]

theorem at_hit {v : Str} (h : look fs p = some v) : ∃ hl : pos fs p < fs.length, fs[pos fs p] = (p, v) := by
  have hd := drop_pos hr p
  rw [mid_some hr p h] at hd
  have hl : pos fs p < fs.length := by
    have := congrArg List.length hd
    simp at this
    omega
  refine ⟨hl, ?_⟩
  rw [List.drop_eq_getElem_cons hl] at hd
  simp only [List.cons_append, List.cons.injEq] at hd
  exact hd.1

theorem rising_put (s : Str) : Rising (keys (put fs p s)) := by
  unfold put keys
  rw [List.map_append, List.map_cons]
  refine List.pairwise_append.2 ⟨hr.sublist ((List.takeWhile_sublist _).map _), List.pairwise_cons.2 ⟨fun x hx => ?_, hr.sublist ((List.filter_sublist).map _)⟩, fun a ha b hb => ?_⟩
  · obtain ⟨f, hf, rfl⟩ := List.mem_map.1 hx
    simpa using (List.mem_filter.1 hf).2
  · obtain ⟨f, hf, rfl⟩ := List.mem_map.1 ha
    have hfp : f.1 < p := by simpa using mem_tw hf
    rcases List.mem_cons.1 hb with rfl | hb
    · exact hfp
    · obtain ⟨g, hg, rfl⟩ := List.mem_map.1 hb
      exact str_lt_trans hfp (by simpa using (List.mem_filter.1 hg).2)

theorem rising_del : Rising (keys (del fs p)) := hr.sublist ((List.filter_sublist).map _)

theorem mem_put (s : Str) (x : Str × Str) : x ∈ put fs p s ↔ x = (p, s) ∨ (x ∈ fs ∧ x.1 ≠ p) := by
  unfold put
  rw [List.mem_append, List.mem_cons, List.mem_filter]
  constructor
  · rintro (h | h | ⟨h, h2⟩)
    · have h2 := mem_tw h
      simp only [decide_eq_true_eq] at h2
      exact .inr ⟨(List.takeWhile_sublist _).subset h, fun e => str_lt_irrefl _ (e ▸ h2)⟩
    · exact .inl h
    · simp only [decide_eq_true_eq] at h2
      exact .inr ⟨h, fun e => str_lt_irrefl _ (e ▸ h2)⟩
  · rintro (h | ⟨h, h2⟩)
    · exact .inr (.inl h)
    · rw [split_at fs hr p, List.mem_append, List.mem_append] at h
      rcases h with h | h | h
      · exact .inl h
      · exact absurd (by simpa using (List.mem_filter.1 h).2) h2
      · exact .inr (.inr (List.mem_filter.1 h))

theorem look_put (s x : Str) : look (put fs p s) x = if x = p then some s else look fs x := by
  have hp := rising_put hr p s
  split
  · rename_i e
    subst e
    exact (look_some hp).2 ((mem_put hr x s _).2 (.inl rfl))
  · rename_i e
    cases h : look fs x with
    | none =>
      rw [look_none] at h ⊢
      intro hm
      obtain ⟨f, hf, rfl⟩ := List.mem_map.1 hm
      rcases (mem_put hr p s f).1 hf with h1 | h1
      · exact e (by rw [h1])
      · exact h (List.mem_map_of_mem h1.1)
    | some v => exact (look_some hp).2 ((mem_put hr p s _).2 (.inr ⟨(look_some hr).1 h, e⟩))

theorem look_del (x : Str) : look (del fs p) x = if x = p then none else look fs x := by
  have hp := rising_del hr p
  have hm : ∀ f, f ∈ del fs p ↔ f ∈ fs ∧ f.1 ≠ p := fun f => by simp [del]
  split
  · rename_i e
    subst e
    rw [look_none]
    intro hk
    obtain ⟨f, hf, e⟩ := List.mem_map.1 hk
    exact ((hm f).1 hf).2 e
  · rename_i e
    cases h : look fs x with
    | none =>
      rw [look_none] at h ⊢
      intro hk
      obtain ⟨f, hf, rfl⟩ := List.mem_map.1 hk
      exact h (List.mem_map_of_mem ((hm f).1 hf).1)
    | some v => exact (look_some hp).2 ((hm _).2 ⟨(look_some hr).1 h, e⟩)

theorem put_len_hit (s : Str) {v : Str} (h : look fs p = some v) : (put fs p s).length = fs.length := by
  obtain ⟨hl, _⟩ := at_hit hr p h
  rw [← put_hit hr p s h]
  simp; omega
theorem put_len_miss (s : Str) (h : look fs p = none) : (put fs p s).length = fs.length + 1 := by
  have := pos_le fs p
  rw [← put_miss hr p s h]
  simp; omega
theorem del_len {v : Str} (h : look fs p = some v) : (del fs p).length + 1 = fs.length := by
  obtain ⟨hl, _⟩ := at_hit hr p h
  rw [← del_hit hr p h]
  simp; omega
end

end Go.Proofs.Ytejlekfnjhnklaa
