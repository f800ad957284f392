/-
  Lists that are told apart (slices.Equal); the closed examples' graphs; the law's 'works'.
-/
import Derived.Test.YtiinmmgknlnkaaaCycle
namespace Go.Proofs.Ytiinmmgknlnkaaa
open Go.RowKit Go.Maps

/-- v is a slice of the texts l. -/
def IsStrs (w : World) (v : Value) (l : List Str) : Prop := ∃ a cap, v = .slice a l.length cap ∧ (l = [] ∨ ∃ g off, a = some ⟨g, off, none⟩ ∧ g < w.heap.size ∧ ∀ i (h : i < l.length), w.cell? ⟨g, off + i, none⟩ = some (strV l[i]))

theorem IsStrs.below {w w' : World} {v : Value} {l : List Str} (h : IsStrs w v l) (hb : Below w.heap.size w w') : IsStrs w' v l := by
  obtain ⟨a, cap, hv, h0 | ⟨g, off, ha, hg, hc⟩⟩ := h
  · exact ⟨a, cap, hv, .inl h0⟩
  · exact ⟨a, cap, hv, .inr ⟨g, off, ha, Nat.lt_of_lt_of_le hg hb.size, fun i h => cell_block (hc i h) (hb.block _ hg)⟩⟩

theorem IsStrs.at {w : World} {v : Value} {l : List Str} (h : IsStrs w v l) : ∃ a cap, v = .slice a l.length cap ∧ StrsAt w a l := by
  obtain ⟨a, cap, hv, h0 | ⟨g, off, ha, hg, hc⟩⟩ := h
  · exact ⟨a, cap, hv, .inl h0⟩
  · exact ⟨a, cap, hv, .inr ⟨g, off, ha, hc⟩⟩

theorem OwnStrs.is {w : World} {b : Nat} {v : Value} {l : List Str} (h : OwnStrs w b v l) : IsStrs w v l := by
  rcases h.shape with ⟨rfl, rfl⟩ | ⟨g, cap, rfl, _, hg, hc⟩
  · exact ⟨none, 0, rfl, .inl rfl⟩
  · exact ⟨_, cap, rfl, .inr ⟨g, 0, rfl, hg, fun i hi => by simpa using hc i hi⟩⟩

theorem lit_is (w : World) (l : List Str) : IsStrs (w.alloc (.cells (l.map strV).toArray 9)) (.slice (some ⟨w.heap.size, 0, none⟩) l.length l.length) l :=
  ⟨_, _, rfl, .inr ⟨_, 0, rfl, by rw [World.size_alloc]; omega, fun i h => by
    simp only [World.cell?, heap_alloc_new, Nat.zero_add]
    simp [h]⟩⟩

theorem Below.drewN {w : World} (q : Nat) : Below w.heap.size w (w.drewN q) := ⟨rfl, rfl, rfl, Nat.le_refl _, fun _ _ => rfl⟩

theorem equal_is {w : World} {v1 v2 : Value} {l1 l2 : List Str} (h1 : IsStrs w v1 l1) (h2 : IsStrs w v2 l2) (hs1 : l1.length ≤ 1048576) (hs2 : l2.length ≤ 1048576) :
    Calls Try.prog 10 #[v1, v2] w fun e w' => e = .returned (.bool (decide (l1 = l2))) ∧ Below w.heap.size w w' := by
  obtain ⟨a1, c1, rfl, h1⟩ := h1
  obtain ⟨a2, c2, rfl, h2⟩ := h2
  by_cases hl : l1.length = l2.length
  · by_cases h0 : l1 = []
    · subst h0
      obtain rfl : l2 = [] := List.eq_nil_of_length_eq_zero (by simpa using hl.symm)
      refine (Try.slices_Equal_string_empty a1 a2 c1 0 c2 w (by omega)).mono ?_
      rintro e w' ⟨rfl, rfl⟩
      exact ⟨rfl, Below.refl _ _⟩
    · rcases h1 with e | ⟨g1, o1, rfl, _, hc1⟩
      · exact absurd e h0
      rcases h2 with e | ⟨g2, o2, rfl, _, hc2⟩
      · subst e; exact absurd (List.eq_nil_of_length_eq_zero (by simpa using hl)) h0
      refine (Try.slices_Equal_string g1 o1 l1.length c1 g2 o2 l2.length c2 (l1.map bs) (l2.map bs) w (by simp) (by simp) (by omega) (by omega) ?_ ?_).mono ?_
      · intro j hj
        simp only [List.length_map] at hj
        rw [hc1 j hj]
        simp [hj]
      · intro j hj
        simp only [List.length_map] at hj
        rw [hc2 j hj]
        simp [hj]
      · rintro e w' ⟨rfl, q, rfl⟩
        refine ⟨?_, Below.drewN q⟩
        rw [List.take_of_length_le (by simp), List.take_of_length_le (by simp)]
        have hi : (l1.map bs = l2.map bs) ↔ (l1 = l2) := ⟨fun h => List.map_inj_right (fun x y h => by simpa [bs] using h) |>.1 h, fun h => by rw [h]⟩
        simp only [hi]
  · refine (Try.slices_Equal_string_lens a1 a2 l1.length c1 l2.length c2 w hl).mono ?_
    rintro e w' ⟨rfl, rfl⟩
    refine ⟨?_, Below.refl _ _⟩
    rw [show decide (l1 = l2) = false from by simp; exact fun e => hl (by rw [e])]

/-- Is there a way of at most n steps? -/
def reachB (s : Str → Str → Bool) (ns : List Str) : Nat → Str → Str → Bool
  | 0, x, y => decide (x = y)
  | n + 1, x, y => decide (x = y) || ns.any fun z => s x z && reachB s ns n z y

theorem reachB_reach {s : Str → Str → Bool} {ns : List Str} : ∀ {n : Nat} {x y : Str}, reachB s ns n x y = true → Reach s x y
  | 0, x, y, h => by
    simp only [reachB, decide_eq_true_eq] at h
    exact h ▸ .refl _
  | n + 1, x, y, h => by
    simp only [reachB, Bool.or_eq_true, decide_eq_true_eq, List.any_eq_true, Bool.and_eq_true] at h
    rcases h with rfl | ⟨z, _, h1, h2⟩
    · exact .refl _
    · exact .step h1 (reachB_reach h2)

def closCheck (G : Gr) (s : Str → Str → Bool) (l r : List Str) (n : Nat) : Bool :=
  decide (G.ns.filter (fun y => decide (y ∈ r)) = r) && r.all (fun y => l.any fun x => decide (x ∈ G.ns) && reachB s G.ns n x y) && l.all (fun x => !decide (x ∈ G.ns) || decide (x ∈ r)) && r.all fun x => G.ns.all fun y => !s x y || decide (y ∈ r)

theorem clos_calc {G : Gr} {s : Str → Str → Bool} (hs : ∀ x y, s x y = true → y ∈ G.ns) {l r : List Str} (n : Nat) (h : closCheck G s l r n = true) : clos G s l = r := by
  simp only [closCheck, Bool.and_eq_true, decide_eq_true_eq, List.all_eq_true, List.any_eq_true, Bool.or_eq_true, Bool.not_eq_true', decide_eq_false_iff_not] at h
  obtain ⟨⟨⟨h1, h2⟩, h3⟩, h4⟩ := h
  rw [← h1]
  unfold clos
  refine List.filter_congr fun y hy => ?_
  have : (∃ x ∈ l, x ∈ G.ns ∧ Reach s x y) ↔ y ∈ r := by
    constructor
    · rintro ⟨x, hx, hxn, hr⟩
      have hxr : x ∈ r := (h3 x hx).resolve_left (fun h => h hxn)
      clear hx hxn hy
      induction hr with
      | refl => exact hxr
      | step hab _ ih => exact ih ((h4 _ hxr _ (hs _ _ hab)).resolve_left (by simp [hab]))
    · intro hyr
      obtain ⟨x, hx, hxn, hr⟩ := h2 y hyr
      exact ⟨x, hx, hxn, reachB_reach hr⟩
  simp only [this]

/-- The examples' graph, and what is made of it. -/
def la : Str := [97]
def lb : Str := [98]
def lc : Str := [99]
def ld : Str := [100]
def exPairs : List Str := [la, lb, la, lc, lb, ld, lc, ld]
def G0 : Gr := Gr.links (pairsN exPairs 4) Gr.empty
def G1 : Gr := G0.link ld lb
def G2 : Gr := G1.link lc lc

theorem G0_way : wayOf G0 la ld = some [la, lb, ld] := by decide +kernel
theorem G0_way2 : wayOf G0 ld la = none := by decide +kernel
theorem G0_way3 : wayOf G0 la la = some [la] := by decide +kernel
theorem G0_order : orderOf G0 = some [ld, lb, lc, la] := by decide +kernel
theorem G0_cycle : cycleOf G0 = none := by decide +kernel
theorem G0_ns : G0.ns = [la, lb, lc, ld] := by decide +kernel
theorem G0_out : G0.out la = [lb, lc] := by decide +kernel
theorem G0_into : G0.into ld = [lb, lc] := by decide +kernel
theorem G0_out2 : G0.out [122, 122] = [] := by decide +kernel
theorem G1_order : orderOf G1 = none := by decide +kernel
theorem G1_cycle : cycleOf G1 = some [lb, ld] := by decide +kernel
theorem G2_cycle : cycleOf G2 = some [lc] := by decide +kernel
theorem G0_below (h : G0.ok) : clos G0 G0.e [lb] = [lb, ld] := clos_calc (fun x y e => (h.ends x y e).2) 4 (by decide +kernel)
theorem G0_below2 (h : G0.ok) : clos G0 G0.e [[122, 122]] = [] := clos_calc (fun x y e => (h.ends x y e).2) 4 (by decide +kernel)
theorem G0_above (h : G0.ok) : clos G0 G0.turn.e [ld] = [la, lb, lc, ld] := clos_calc (fun x y e => (h.ends y x e).1) 4 (by decide +kernel)

end Go.Proofs.Ytiinmmgknlnkaaa
