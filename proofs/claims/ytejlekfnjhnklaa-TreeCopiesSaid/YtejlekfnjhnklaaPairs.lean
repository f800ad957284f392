/-
  Slices of pairs of texts (a struct of two strings), whatever the types' numbers: of the call's own, of whoever; append to them.
-/
import Derived.Test.YtejlekfnjhnklaaOwn
namespace Go.Proofs.Ytejlekfnjhnklaa
open Go.RowKit Go.Maps

abbrev PairL := List (Str × Str)

def pairCells (l : PairL) : List Value := l.flatMap fun e => [strV e.1, strV e.2]

theorem pairCells_length (l : PairL) : (pairCells l).length = l.length * 2 := by
  induction l with
  | nil => rfl
  | cons a r ih => simp only [pairCells, List.flatMap_cons, List.length_append, List.length_cons, List.length_nil] at ih ⊢; omega

theorem pairCells_append (l r : PairL) : pairCells (l ++ r) = pairCells l ++ pairCells r := by simp [pairCells]

theorem pairCells_get : ∀ {l : PairL} {i : Nat} (h : i < l.length), (pairCells l)[i * 2]? = some (strV l[i].1) ∧ (pairCells l)[i * 2 + 1]? = some (strV l[i].2)
  | a :: r, 0, _ => ⟨rfl, rfl⟩
  | a :: r, i + 1, h => by
    have := pairCells_get (l := r) (i := i) (by simpa using h)
    have e : pairCells (a :: r) = strV a.1 :: strV a.2 :: pairCells r := rfl
    rw [e, show (i + 1) * 2 = i * 2 + 1 + 1 from by omega, show i * 2 + 1 + 1 + 1 = (i * 2 + 1) + 1 + 1 from by omega]
    simpa using this

theorem pairCells_pair : ∀ {l : PairL} {j : Nat} {u : Value}, (pairCells l)[j]? = some u → ∃ i, ∃ h : i < l.length, (j = i * 2 ∧ u = strV l[i].1) ∨ (j = i * 2 + 1 ∧ u = strV l[i].2)
  | [], j, u, h => by simp [pairCells] at h
  | a :: r, 0, u, h => ⟨0, by simp, .inl ⟨rfl, by have : some (strV a.1) = some u := h; simpa using this.symm⟩⟩
  | a :: r, 1, u, h => ⟨0, by simp, .inr ⟨rfl, by have : some (strV a.2) = some u := h; simpa using this.symm⟩⟩
  | a :: r, j + 2, u, h => by
    have h2 : (pairCells r)[j]? = some u := h
    obtain ⟨i, hi, h3⟩ := pairCells_pair h2
    refine ⟨i + 1, by simpa using hi, ?_⟩
    rcases h3 with ⟨e, e2⟩ | ⟨e, e2⟩
    · exact .inl ⟨by omega, e2⟩
    · exact .inr ⟨by omega, e2⟩

/-- v is a slice of the call's own that holds the pairs l; e: their type. -/
def OwnPairs (e : TypeId) (w : World) (base : Nat) (v : Value) (l : PairL) : Prop := w.ownsRow base e 2 v l.length (pairCells l)

/-- v is a slice of the pairs l. -/
def IsPairs (w : World) (v : Value) (l : PairL) : Prop := ∃ a cap, v = .slice a l.length cap ∧ l.length ≤ cap ∧ (l = [] ∨ ∃ g off, a = some ⟨g, off, none⟩ ∧ g < w.heap.size ∧ ∀ i (h : i < l.length), w.cell? ⟨g, off + i * 2, none⟩ = some (strV l[i].1) ∧ w.cell? ⟨g, off + i * 2 + 1, none⟩ = some (strV l[i].2))

theorem IsPairs.below {w w' : World} {v : Value} {l : PairL} (h : IsPairs w v l) (hb : Below w.heap.size w w') : IsPairs w' v l := by
  obtain ⟨a, cap, hv, hc0, h0 | ⟨g, off, ha, hg, hc⟩⟩ := h
  · exact ⟨a, cap, hv, hc0, .inl h0⟩
  · exact ⟨a, cap, hv, hc0, .inr ⟨g, off, ha, Nat.lt_of_lt_of_le hg hb.size, fun i h => ⟨cell_block (hc i h).1 (hb.block _ hg), cell_block (hc i h).2 (hb.block _ hg)⟩⟩⟩

section
variable {e : TypeId} {w w' : World} {b b' : Nat} {v : Value} {l : PairL}

theorem OwnPairs.base (h : OwnPairs e w b v l) (hb : b' ≤ b) : OwnPairs e w b' v l := by
  obtain ⟨h1, h2 | ⟨g, cap, cur, hv, hg, h3⟩⟩ := h
  · exact ⟨h1, .inl h2⟩
  · exact ⟨h1, .inr ⟨g, cap, cur, hv, Nat.le_trans hb hg, h3⟩⟩
theorem OwnPairs.nil (e : TypeId) (w : World) (b : Nat) : OwnPairs e w b (.slice none 0 0) [] := ⟨rfl, .inl ⟨rfl, rfl⟩⟩
theorem OwnPairs.below (h : OwnPairs e w b v l) (hb : Below w.heap.size w w') : OwnPairs e w' b v l := by
  obtain ⟨h1, h2 | ⟨g, cap, cur, hv, hg, hc, h3⟩⟩ := h
  · exact ⟨h1, .inl h2⟩
  · exact ⟨h1, .inr ⟨g, cap, cur, hv, hg, (hb.block g (Array.getElem?_eq_some_iff.1 hc).1).trans hc, h3⟩⟩

theorem OwnPairs.is (h : OwnPairs e w b v l) : IsPairs w v l := by
  obtain ⟨h1, ⟨hv, h2⟩ | ⟨g, cap, cur, hv, hg, hb, hn, hm, hs, ht⟩⟩ := h
  · obtain rfl := List.eq_nil_of_length_eq_zero h2
    exact ⟨none, 0, hv, Nat.le_refl _, .inl rfl⟩
  · refine ⟨_, cap, hv, hn, .inr ⟨g, 0, rfl, (Array.getElem?_eq_some_iff.1 hb).1, fun i hi => ?_⟩⟩
    have hcell : ∀ j u, (pairCells l)[j]? = some u → w.cell? ⟨g, j, none⟩ = some u := fun j u hj => by
      have hjl : j < (pairCells l).length := (List.getElem?_eq_some_iff.1 hj).1
      rw [← ht, List.getElem?_take_of_lt (by rw [pairCells_length] at hjl; exact hjl)] at hj
      have h5 : cur[j]? = some u := by rw [← Array.getElem?_toList]; exact hj
      simp [World.cell?, hb, h5]
    have := pairCells_get hi
    rw [show 0 + i * 2 = i * 2 from by omega]
    exact ⟨hcell _ _ this.1, hcell _ _ this.2⟩

theorem OwnPairs.block {k : Nat} (h : OwnPairs e w b v l) (hk : v.ownBlock = some k) : b ≤ k ∧ k < w.heap.size ∧ ∃ c t f, w.heap[k]? = some (.cells c t f) := by
  obtain ⟨h1, ⟨rfl, _⟩ | ⟨g, cap, cur, rfl, hg0, hc, h3⟩⟩ := h
  · cases hk
  · simp only [Value.ownBlock, Option.some.injEq] at hk
    subst hk
    exact ⟨hg0, (Array.getElem?_eq_some_iff.1 hc).1, _, _, _, hc⟩

theorem below_appP {w0 : World} (hb : Below w0.heap.size w0 w) (h : OwnPairs e w b v l) (hbase : w0.heap.size ≤ b) (hg : w.grownBy w' v.ownBlock) : Below w0.heap.size w0 w' :=
  ⟨hg.os.trans hb.os, hg.tape.trans hb.tape, hg.output.trans hb.output, Nat.le_trans hb.size hg.size, fun z hz => (hg.block z (Nat.lt_of_lt_of_le hz hb.size) (fun e => by
    have := (h.block e.symm).1
    omega)).trans (hb.block z hz)⟩
end

theorem one_pair (e : TypeId) (w : World) (a b : Str) : IsPairs (w.alloc (.cells #[strV a, strV b] e)) (.slice (some ⟨w.heap.size, 0, none⟩) 1 1) [(a, b)] := by
  refine ⟨_, 1, rfl, Nat.le_refl _, .inr ⟨_, 0, rfl, by rw [World.size_alloc]; omega, fun i h => ?_⟩⟩
  obtain rfl : i = 0 := by simpa using h
  simp only [World.cell?, heap_alloc_new]
  exact ⟨rfl, rfl⟩

theorem elem_t {P : Program} {t e : TypeId} (ht : P.underlying t = some (.slice e)) : P.underlying t = some (.slice (P.elem t)) := by
  have : P.elem t = e := by simp [Program.elem, ht]
  rw [this]; exact ht

section
variable {P : Program} {t e : TypeId} (ht : P.underlying t = some (.slice e)) (hinfo : (P.info? e).map (fun i => (i.zero, i.size, i.bytes)) = some (some (.agg #[.string ByteArray.empty, .string ByteArray.empty]), 2, 32))
include ht hinfo

/-- 'append(l, m...)': as an equation on the run. -/
theorem run_appPs (w : World) (base : Nat) (v x : Value) (l m : PairL) (hown : OwnPairs e w base v l) (hx : IsPairs w x m) (hlen : l.length + m.length ≤ 4194304) (hbase : base ≤ w.heap.size) :
    ∃ v' w', (Builtin.append_ #[t, t] t #[v, x]).run P w = .ok v' w' ∧ OwnPairs e w' base v' (l ++ m) ∧ w.grownBy w' v.ownBlock ∧ (v'.ownBlock = v.ownBlock ∨ v'.ownBlock = some w.heap.size) := by
  obtain ⟨i0, hi, hz0, hz1, hz2⟩ := info_parts hinfo
  obtain ⟨a, c, rfl, hcap, h0⟩ := hx
  cases a with
  | none =>
    obtain rfl : m = [] := by
      rcases h0 with e | ⟨g, off, e, _⟩
      · exact e
      · cases e
    refine ⟨v, w, ?_, by rw [List.append_nil]; exact hown, ⟨rfl, rfl, rfl, Nat.le_refl _, fun _ _ _ => rfl⟩, .inl rfl⟩
    rcases hown.2 with ⟨rfl, _⟩ | ⟨g, cap, cur, rfl, _, _, hnc, _⟩
    · simp [Builtin.append_, run_underlying ht, sizeOf, typeInfo, hi, Builtin.lenOf, Builtin.firstCells]
    · simp [Builtin.append_, run_underlying ht, sizeOf, typeInfo, hi, Builtin.lenOf, Builtin.firstCells, hnc, storeCells]
  | some a =>
    obtain ⟨v', w', hr, hown', hgr, hnil, hloc⟩ := run_append_own_at (P := P) w base t t e i0 (.agg #[.string ByteArray.empty, .string ByteArray.empty]) 2 32 ht hi hz0 hz1 hz2 rfl (by decide) v l.length (pairCells l) hown a m.length c (pairCells m) (by rw [pairCells_length]) (fun j u hu => by
      obtain ⟨i, hi, h3⟩ := pairCells_pair hu
      rcases h0 with e | ⟨g, off, e, hg, hc⟩
      · subst e; simp at hi
      · cases e
        rcases h3 with ⟨rfl, rfl⟩ | ⟨rfl, rfl⟩
        · have := (hc i hi).1
          by_cases hz : i * 2 = 0
          · rw [hz] at this ⊢; simpa [Addr.add] using this
          · simpa [Addr.add, hz] using this
        · have := (hc i hi).2
          simpa [Addr.add, Nat.add_assoc] using this) (fun u hu => by
      obtain ⟨j, hj⟩ := List.getElem?_of_mem hu
      obtain ⟨i, hi, h3⟩ := pairCells_pair hj
      rcases h3 with ⟨_, rfl⟩ | ⟨_, rfl⟩ <;> simp [Value.oneCell']) (by unfold maxLen; omega) (by omega) hbase
    refine ⟨v', w', hr, ?_, hgr, hloc⟩
    unfold OwnPairs
    rw [pairCells_append, List.length_append]
    exact hown'

theorem sizeOf_t (w : World) : (sizeOf (P.elem t)).run P w = .ok 2 w := by
  obtain ⟨i0, hi, hz0, hz1, hz2⟩ := info_parts hinfo
  have : P.elem t = e := by simp [Program.elem, ht]
  rw [this]
  simp [sizeOf, typeInfo, hi, hz1]

/-- 'l[:i]' -/
theorem run_slice_hi {w : World} {v : Value} {l : PairL} (h : IsPairs w v l) (i : Nat) (hi : i ≤ l.length) :
    ∃ v', (Instr.slice t v none (some (.int .i64 i)) none).run P w = .ok v' w ∧ IsPairs w v' (l.take i) := by
  obtain ⟨a, c, rfl, hcap, h0⟩ := h
  refine ⟨_, (run_slice_h w t a l.length c (elem_t ht) .i64 i (by omega) (by omega)).trans (by rw [sizeOf_t ht hinfo]; rfl), ?_⟩
  have hl : (l.take i).length = i := by rw [List.length_take]; omega
  show IsPairs w (.slice (if c = 0 then a else a.map (·.add (0 * 2))) (i - 0) (c - 0)) (l.take i)
  by_cases hc0 : c = 0
  · have : i = 0 := by omega
    subst this
    exact ⟨_, _, by rw [hl], by rw [hl]; omega, .inl (by simp)⟩
  · rw [if_neg hc0]
    refine ⟨_, _, by rw [hl]; rfl, by rw [hl]; omega, ?_⟩
    rcases h0 with e | ⟨g, off, rfl, hg, hc⟩
    · exact .inl (by rw [e]; simp)
    · refine .inr ⟨g, off, by simp [Addr.add], hg, fun j hj => ?_⟩
      rw [hl] at hj
      rw [List.getElem_take]
      exact hc j (by omega)

/-- 'l[i:]' -/
theorem run_slice_lo {w : World} {v : Value} {l : PairL} (h : IsPairs w v l) (i : Nat) (hi : i ≤ l.length) :
    ∃ v', (Instr.slice t v (some (.int .i64 i)) none none).run P w = .ok v' w ∧ IsPairs w v' (l.drop i) := by
  obtain ⟨a, c, rfl, hcap, h0⟩ := h
  refine ⟨_, (run_slice_l w t a l.length c (elem_t ht) .i64 i (by omega) (by omega)).trans (by rw [sizeOf_t ht hinfo]; rfl), ?_⟩
  have hl : (l.drop i).length = l.length - i := by rw [List.length_drop]
  show IsPairs w (.slice (if c = (i : Int).toNat then a else a.map (·.add ((i : Int).toNat * 2))) (l.length - (i : Int).toNat) (c - (i : Int).toNat)) (l.drop i)
  rw [show (i : Int).toNat = i from by omega]
  by_cases hc0 : c = i
  · have : i = l.length := by omega
    exact ⟨_, _, by rw [hl], by rw [hl]; omega, .inl (by rw [this]; simp)⟩
  · rw [if_neg hc0]
    refine ⟨_, _, by rw [hl], by rw [hl]; omega, ?_⟩
    rcases h0 with e | ⟨g, off, rfl, hg, hc⟩
    · exact .inl (by rw [e]; simp)
    · refine .inr ⟨g, off + i * 2, ?_, hg, fun j hj => ?_⟩
      · by_cases hi0 : i = 0
        · subst hi0; simp [Addr.add]
        · have h2 : i * 2 ≠ 0 := by omega
          simp [Addr.add, h2]
      · rw [hl] at hj
        rw [List.getElem_drop]
        have := hc (i + j) (by omega)
        rw [show off + i * 2 + j * 2 = off + (i + j) * 2 from by omega]
        exact this
end

end Go.Proofs.Ytejlekfnjhnklaa
