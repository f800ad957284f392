/-
  A law's arguments, opened: lists of texts, lists of edges.
-/
import Derived.Test.YtiinmmgknlnkaaaPost
import Derived.Test.YtiinmmgknlnkaaaBoth
import Derived.SliceStrings
import Derived.Deep.SlicePairs
namespace Go.Proofs.Ytiinmmgknlnkaaa
open Go.ChangeShapes Go.WideShapes Go.ChangeAt Go.RowKit

theorem cell_spot {w : World} {a : Addr} {v : Value} (h : w.cell? a = some v) : a.block < w.heap.size ∧ a.spot = none := by
  unfold World.cell? at h
  split at h
  · rename_i c e f hb
    refine ⟨(Array.getElem?_eq_some_iff.1 hb).1, ?_⟩
    cases hs : a.spot with
    | none => rfl
    | some _ => rw [hs] at h; simp at h
  · cases h

section
variable {H : Type} {enc : TypeId × Value → H} {W : World} {v : Value} {d : DataW H} {ps : List MemPlace} {base : Nat}

theorem arg_strs (hok : Value.okWide Try.prog W .any base 27 v) (h : DataW.Trod enc Try.prog W 0 (fun _ => true) true 27 v d ps) : ∃ l : List Str, IsStrs W v l ∧ ∀ x ∈ l, x.length ≤ maxLen := by
  obtain ⟨a, n, cap, rfl⟩ := okWide_slice Try.underlying27 hok
  obtain ⟨fuel, h⟩ := h
  rcases open_strings Try.underlying27 Try.underlying9 (by kernel_rfl) h with ⟨hcs, _⟩ | ⟨a', len, cap', ss, hcs, _, hl, hm, hz, _, hc, hss⟩
  · simp [Value.cells] at hcs
    obtain ⟨rfl, rfl, rfl⟩ := hcs
    exact ⟨[], ⟨none, 0, rfl, .inl rfl⟩, by simp⟩
  · simp [Value.cells] at hcs
    obtain ⟨rfl, rfl, rfl⟩ := hcs
    have hz' : ss.length = cap := by simpa using hz
    have hlen : ((ss.take n).map fun s => s.data.toList).length = n := by simp; omega
    refine ⟨(ss.take n).map fun s => s.data.toList, ⟨some a', cap, by rw [hlen], ?_⟩, fun x hx => ?_⟩
    · by_cases h0 : n = 0
      · exact .inl (by subst h0; simp)
      · have h1 := hc 0 (by omega)
        obtain ⟨hb, hs⟩ := cell_spot h1
        have hb' : a'.block < W.heap.size := by simpa [Addr.add] using hb
        have hs' : a'.spot = none := by simpa [Addr.add] using hs
        refine .inr ⟨a'.block, a'.off, ?_, hb', fun i hi => ?_⟩
        · cases a'; simp only at hs'; subst hs'; rfl
        · rw [hlen] at hi
          have h2 := hc i (by omega)
          have e : a'.add i = ⟨a'.block, a'.off + i, none⟩ := by
            cases a'
            simp only at hs'
            subst hs'
            by_cases h0 : i = 0
            · subst h0; simp [Addr.add]
            · simp [Addr.add, h0]
          rw [e] at h2
          rw [h2]
          have hi2 : i < ss.length := by omega
          simp [hi2]
    · obtain ⟨s, hs, rfl⟩ := List.mem_map.1 hx
      exact hss s (List.mem_of_mem_take hs)

def txt : Value → Str
  | .string s => s.data.toList
  | _ => []

theorem arg_edges (hok : Value.okWide Try.prog W .any base 25 v) (h : DataW.Trod enc Try.prog W 0 (fun _ => true) true 25 v d ps) : ∃ l : EdgeL, IsEdges W v l ∧ ∀ x ∈ l, x.1.length ≤ maxLen ∧ x.2.length ≤ maxLen := by
  obtain ⟨a, n, cap, rfl⟩ := okWide_slice Try.underlying25 hok
  obtain ⟨fuel, h⟩ := h
  rcases Deep.open_slice_pairs Try.underlying25 Try.underlying51 (by kernel_rfl) rfl rfl (by kernel_rfl) (by kernel_rfl) h with ⟨hcs, _⟩ | ⟨a', len, cap', m, k, V0, V1, D0, D1, P0, P1, hcs, _, hl, hm, hz, _, hall⟩
  · simp [Value.cells] at hcs
    obtain ⟨rfl, rfl, rfl⟩ := hcs
    exact ⟨[], ⟨none, 0, rfl, .inl rfl⟩, by simp⟩
  · simp [Value.cells] at hcs
    obtain ⟨rfl, rfl, rfl⟩ := hcs
    have hz' : m = cap := by simpa using hz
    have hv : ∀ i, i < n → V0 i = strV (txt (V0 i)) ∧ (txt (V0 i)).length ≤ maxLen ∧ V1 i = strV (txt (V1 i)) ∧ (txt (V1 i)).length ≤ maxLen := fun i hi => by
      obtain ⟨_, _, t0, t1⟩ := hall i (by omega)
      obtain ⟨s, e0, _, w0⟩ := DataW.trod_string Try.underlying9 t0
      obtain ⟨s1, e1, _, w1⟩ := DataW.trod_string Try.underlying9 t1
      simp only [List.cons.injEq, and_true] at e0 e1
      rw [e0, e1]
      exact ⟨rfl, w0, rfl, w1⟩
    have hlen : ((List.range n).map fun i => (txt (V0 i), txt (V1 i))).length = n := by simp
    refine ⟨(List.range n).map fun i => (txt (V0 i), txt (V1 i)), ⟨some a', cap, by rw [hlen], ?_⟩, fun x hx => ?_⟩
    · by_cases h0 : n = 0
      · exact .inl (by subst h0; simp)
      · have h1 := (hall 0 (by omega)).1
        obtain ⟨hb, hs⟩ := cell_spot h1
        have hb' : a'.block < W.heap.size := by simpa [Addr.add] using hb
        have hs' : a'.spot = none := by simpa [Addr.add] using hs
        have e : ∀ i, a'.add i = ⟨a'.block, a'.off + i, none⟩ := fun i => by
          cases a'
          simp only at hs'
          subst hs'
          by_cases h0 : i = 0
          · subst h0; simp [Addr.add]
          · simp [Addr.add, h0]
        refine .inr ⟨a'.block, a'.off, ?_, hb', fun i hi => ?_⟩
        · cases a'; simp only at hs'; subst hs'; rfl
        · rw [hlen] at hi
          obtain ⟨c0, c1, _, _⟩ := hall i (by omega)
          rw [e] at c0 c1
          obtain ⟨e0, _, e1, _⟩ := hv i hi
          rw [c0, e0, show a'.off + i * 2 + 1 = a'.off + (i * 2 + 1) from by omega, c1, e1]
          simp
    · obtain ⟨i, hi, rfl⟩ := List.mem_map.1 hx
      obtain ⟨_, l0, _, l1⟩ := hv i (List.mem_range.1 hi)
      exact ⟨l0, l1⟩
end

end Go.Proofs.Ytiinmmgknlnkaaa
