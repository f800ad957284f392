/-
  Library functions at lists of texts and of edges: Contains, Clone, Grow, Concat, Sort and Compact.
-/
import Derived.Test.YtiinmmgknlnkaaaTurn
import Derived.Lib.AppendZerosOnto
import Derived.Lib.RowBridge
import Derived.Sort.OwnSorted
namespace Go.Proofs.Ytiinmmgknlnkaaa
open Go.RowKit Go.Maps Go.Sort

theorem cells_map {w : World} {g off : Nat} {l : List Str} (hc : ∀ i (h : i < l.length), w.cell? ⟨g, off + i, none⟩ = some (strV l[i])) : ∀ j, j < (l.map bs).length → w.cell? ⟨g, off + j, none⟩ = some (.string ((l.map bs).getD j ByteArray.empty)) := fun j hj => by
  simp only [List.length_map] at hj
  rw [hc j hj]
  simp [hj]

theorem contains_yes {w : World} {v : Value} {l : List Str} (h : IsStrs w v l) (hs : l.length ≤ 1048576) {x : Str} (hx : x ∈ l) : Calls Try.prog 24 #[v, strV x] w fun e w' => e = .returned (.bool true) ∧ w' = w := by
  obtain ⟨a, cap, rfl, h0 | ⟨g, off, rfl, hg, hc⟩⟩ := h
  · rw [h0] at hx; cases hx
  · refine (Try.slices_Contains_string g off l.length cap (l.map bs) (bs x) w (by simp) (by omega) (cells_map hc)).mono ?_
    rintro e w' ⟨rfl, rfl⟩
    refine ⟨?_, rfl⟩
    rw [List.take_of_length_le (by simp), (Lib.containsS_iff _ _).2 (List.mem_map_of_mem hx)]

theorem cloneS_is {w : World} {v : Value} {l : List Str} (h : IsStrs w v l) (hs : l.length ≤ 1048576) : Calls Try.prog 34 #[v] w (Strs l w) := by
  obtain ⟨a, cap, rfl, h0⟩ := h
  cases a with
  | none =>
    obtain rfl : l = [] := by
      rcases h0 with e | ⟨g, off, e, _⟩
      · exact e
      · cases e
    refine (Try.slices_Clone_string_nil 0 cap w).mono ?_
    rintro e w' ⟨rfl, rfl⟩
    exact ⟨_, rfl, OwnStrs.nil _ _, Below.refl _ _⟩
  | some a =>
    by_cases hl : l = []
    · subst hl
      refine (Try.slices_Clone_string_zero a cap w).mono ?_
      rintro e w' ⟨v', rfl, ho, _, hb⟩
      exact ⟨v', rfl, ho, hb⟩
    · rcases h0 with e | ⟨g, off, e, hg, hc⟩
      · exact absurd e hl
      · cases e
        refine (Try.slices_Clone_string g off l.length cap (l.map bs) w (by simp) (by omega) (cells_map hc)).mono ?_
        rintro e w' ⟨v', rfl, ho, _, hb⟩
        refine ⟨v', rfl, ?_, hb⟩
        rw [List.take_of_length_le (by simp), List.map_map] at ho
        exact ho

/-- v is a slice of the edges l. -/
def IsEdges (w : World) (v : Value) (l : EdgeL) : Prop := ∃ a cap, v = .slice a l.length cap ∧ (l = [] ∨ ∃ g off, a = some ⟨g, off, none⟩ ∧ g < w.heap.size ∧ ∀ i (h : i < l.length), w.cell? ⟨g, off + i * 2, none⟩ = some (strV l[i].1) ∧ w.cell? ⟨g, off + i * 2 + 1, none⟩ = some (strV l[i].2))

theorem IsEdges.below {w w' : World} {v : Value} {l : EdgeL} (h : IsEdges w v l) (hb : Below w.heap.size w w') : IsEdges w' v l := by
  obtain ⟨a, cap, hv, h0 | ⟨g, off, ha, hg, hc⟩⟩ := h
  · exact ⟨a, cap, hv, .inl h0⟩
  · exact ⟨a, cap, hv, .inr ⟨g, off, ha, Nat.lt_of_lt_of_le hg hb.size, fun i h => ⟨cell_block (hc i h).1 (hb.block _ hg), cell_block (hc i h).2 (hb.block _ hg)⟩⟩⟩

theorem edgeCells_pair : ∀ {l : EdgeL} {j : Nat} {u : Value}, (edgeCells l)[j]? = some u → ∃ i, ∃ h : i < l.length, (j = i * 2 ∧ u = strV l[i].1) ∨ (j = i * 2 + 1 ∧ u = strV l[i].2)
  | [], j, u, h => by simp [edgeCells] at h
  | a :: r, 0, u, h => ⟨0, by simp, .inl ⟨rfl, by have : some (strV a.1) = some u := h; simpa using this.symm⟩⟩
  | a :: r, 1, u, h => ⟨0, by simp, .inr ⟨rfl, by have : some (strV a.2) = some u := h; simpa using this.symm⟩⟩
  | a :: r, j + 2, u, h => by
    have h2 : (edgeCells r)[j]? = some u := h
    obtain ⟨i, hi, h3⟩ := edgeCells_pair h2
    refine ⟨i + 1, by simpa using hi, ?_⟩
    rcases h3 with ⟨e, e2⟩ | ⟨e, e2⟩
    · exact .inl ⟨by omega, e2⟩
    · exact .inr ⟨by omega, e2⟩

theorem run_appEL (w : World) (g0 : Nat) (hg0 : w.heap[g0]? = some (.cells #[] 51 (0, 0))) (a : Addr) (c : Nat) (l : EdgeL) (ha : l = [] ∨ ∃ g off, a = ⟨g, off, none⟩ ∧ ∀ i (h : i < l.length), w.cell? ⟨g, off + i * 2, none⟩ = some (strV l[i].1) ∧ w.cell? ⟨g, off + i * 2 + 1, none⟩ = some (strV l[i].2)) (hlen : l.length ≤ 1048576) :
    ∃ v' w', (Builtin.append_ #[25, 25] 25 #[.slice (some ⟨g0, 0, none⟩) 0 0, .slice (some a) l.length c]).run Try.prog w = .ok v' w' ∧ OwnEdges w' g0 v' l ∧ w.grownBy w' (some g0) := by
  obtain ⟨i0, hi, hz0, hz1, hz2⟩ := info_parts infoEdge
  have hlt := (Array.getElem?_eq_some_iff.1 hg0).1
  have hown : OwnEdges w g0 (.slice (some ⟨g0, 0, none⟩) 0 0) [] := ⟨rfl, .inr ⟨g0, 0, #[], rfl, Nat.le_refl _, hg0, Nat.le_refl _, by decide, rfl, rfl⟩⟩
  obtain ⟨v', w', hr, hown', hgr, hnil, hloc⟩ := run_append_own_at (P := Try.prog) w g0 25 25 51 i0 (.agg #[.string ByteArray.empty, .string ByteArray.empty]) 2 32 Try.underlying25 hi hz0 hz1 hz2 rfl (by decide) _ 0 [] hown a l.length c (edgeCells l) (by rw [edgeCells_length]) (fun j u hu => by
    obtain ⟨i, hi, h3⟩ := edgeCells_pair hu
    rcases ha with e | ⟨g, off, rfl, hc⟩
    · subst e; simp at hi
    · rcases h3 with ⟨rfl, rfl⟩ | ⟨rfl, rfl⟩
      · have := (hc i hi).1
        by_cases hz : i * 2 = 0
        · rw [hz] at this ⊢; simpa [Addr.add] using this
        · simpa [Addr.add, hz] using this
      · have := (hc i hi).2
        simpa [Addr.add, Nat.add_assoc] using this) (fun u hu => by
    obtain ⟨j, hj⟩ := List.getElem?_of_mem hu
    obtain ⟨i, hi, h3⟩ := edgeCells_pair hj
    rcases h3 with ⟨_, rfl⟩ | ⟨_, rfl⟩ <;> simp [Value.oneCell']) (by unfold maxLen; omega) (by omega) (by omega)
  refine ⟨v', w', hr, ?_, hgr⟩
  have e : 0 + l.length = l.length := by omega
  rw [e] at hown'
  exact hown'

set_option maxHeartbeats 1000000 in
theorem cloneE_is {w : World} {v : Value} {l : EdgeL} (h : IsEdges w v l) (hs : l.length ≤ 1048576) : Calls Try.prog 33 #[v] w (Edges l w) := by
  obtain ⟨a, cap, rfl, h0⟩ := h
  cases a with
  | none =>
    obtain rfl : l = [] := by
      rcases h0 with e | ⟨g, off, e, _⟩
      · exact e
      · cases e
    have heq := Lib.run_eql_slice_nil (P := Try.prog) w 25 51 none 0 cap 0 0 Try.underlying25
    have hfin := Hid.mk (show Edges [] w (.returned (.slice none 0 0)) w from ⟨_, rfl, OwnEdges.nil _ _, Below.refl _ _⟩)
    clear h0
    go_enter Try.func33, Try.ntmps33
    go_wp2
    go_ret
    exact hfin.out
  | some a =>
    have heq := Lib.run_eql_slice_nil (P := Try.prog) w 25 51 (some a) l.length cap 0 0 Try.underlying25
    obtain ⟨v', w', hr, hown, hgr⟩ := run_appEL (w.alloc (.cells #[] 51)) w.heap.size (heap_alloc_new _ _) a cap l (by
      rcases h0 with e | ⟨g, off, e, hg, hc⟩
      · exact .inl e
      · cases e
        exact .inr ⟨g, off, rfl, fun i hi => ⟨cell_alloc' _ (hc i hi).1, cell_alloc' _ (hc i hi).2⟩⟩) hs
    have hfin := Hid.mk (show Edges l w (.returned v') w' from ⟨_, rfl, hown, ⟨hgr.os, hgr.tape, hgr.output, by have := hgr.size; rw [World.size_alloc] at this; omega, fun k hk => (hgr.block k (by rw [World.size_alloc]; omega) (by simp; omega)).trans (Below.heap_alloc _ _ _ hk)⟩⟩)
    clear h0 hown hgr
    go_enter Try.func33, Try.ntmps33
    go_wp2_with (at_builtin; refine wpList_append_run rfl _ _ _ rfl rfl rfl rfl hr ?_)
    go_ret
    exact hfin.out

theorem run_app_none (w : World) (base c : Nat) (v : Value) (l : List Str) (hown : OwnStrs w base v l) : (Builtin.append_ #[27, 27] 27 #[v, .slice none 0 c]).run Try.prog w = .ok v w := by
  obtain ⟨i0, hi, _, hz1, _⟩ := info_parts infoStr
  have ht := Try.underlying27
  rcases hown.2 with ⟨rfl, _⟩ | ⟨g, cap, cur, rfl, _, _, hnc, _⟩
  · simp [Builtin.append_, run_underlying ht, sizeOf, typeInfo, hi, Builtin.lenOf, Builtin.firstCells]
  · simp [Builtin.append_, run_underlying ht, sizeOf, typeInfo, hi, Builtin.lenOf, Builtin.firstCells, hnc, storeCells]

/-- 'append(s, x)', of two types, whose run is known. -/
theorem wpList_append_run2 {P : Program} {ops : Array Oper} {rest : List Oper} {o : Oper} {a : Act} {Q : Exit → Act → World → Prop} {w : World} (hgd : o.guard = none) (s x : Operand) (t t2 : TypeId)
    (ho : o.op = .call { callee := .builtin .append, args := #[s, x], argTypes := #[t, t2] }) (hty : o.type = t) {v y : Value} (hs : a.eval s = v) (hx : a.eval x = y) {v' : Value} {w' : World}
    (hr : (Builtin.append_ #[t, t2] t #[v, y]).run P w = .ok v' w') (h : wpList P ops Q rest (a.put o.dst v') w') : wpList P ops Q (o :: rest) a w := by
  refine wpList_plain hgd fun K hK => ?_
  unfold Oper.wp execOp
  simp only [ho, resolve, invoke, builtin, Sem.run_bind, Sem.run_pure, Result.andThen_ok, List.map_toArray, List.map_cons, List.map_nil, hs, hx, hty, hr]
  exact hK _ _ h

/-- 'append(l, m...)', m any slice of texts. -/
theorem run_appIs (w : World) (base : Nat) (v x : Value) (l m : List Str) (hown : OwnStrs w base v l) (hx : IsStrs w x m) (hlen : l.length + m.length ≤ 8388608) (hbase : base ≤ w.heap.size) :
    ∃ v' w', (Builtin.append_ #[27, 27] 27 #[v, x]).run Try.prog w = .ok v' w' ∧ OwnStrs w' base v' (l ++ m) ∧ w.grownBy w' v.ownBlock := by
  obtain ⟨a, c, rfl, h0⟩ := hx
  cases a with
  | none =>
    obtain rfl : m = [] := by
      rcases h0 with e | ⟨g, off, e, _⟩
      · exact e
      · cases e
    exact ⟨v, w, run_app_none w base c v l hown, by rw [List.append_nil]; exact hown, ⟨rfl, rfl, rfl, Nat.le_refl _, fun _ _ _ => rfl⟩⟩
  | some a =>
    obtain ⟨i0, hi, hz0, hz1, hz2⟩ := info_parts infoStr
    obtain ⟨v', w', hr, hown', hgr, hnil, hloc⟩ := run_append_own_at (P := Try.prog) w base 27 27 9 i0 (.string ByteArray.empty) 1 16 Try.underlying27 hi hz0 hz1 hz2 rfl (by decide) v l.length (l.map strV) hown a m.length c (m.map strV) (by simp) (fun j u hu => by
      by_cases hj : j < m.length
      · rcases h0 with e | ⟨g, off, e, hg, hc⟩
        · subst e; simp at hj
        · cases e
          simp [hj] at hu
          subst hu
          by_cases hj0 : j = 0
          · subst hj0; simp [Addr.add]
          · simp [Addr.add, hj0, hc, hj]
      · simp [hj] at hu) (by simp [Value.oneCell']) (by unfold maxLen; omega) (by omega) hbase
    refine ⟨v', w', hr, ?_, hgr⟩
    unfold OwnStrs
    rw [List.map_append, List.length_append]
    exact hown'

set_option maxHeartbeats 1000000 in
set_option maxRecDepth 100000 in
theorem grow_nil (w : World) (n : Nat) (hn : n ≤ 1048576) : Calls Try.prog 36 #[.slice none 0 0, .int .i64 n] w (Strs [] w) := by
  by_cases h0 : n = 0
  · subst h0
    have hfin := Hid.mk (show Strs [] w (.returned (.slice none 0 0)) w from ⟨_, rfl, OwnStrs.nil _ _, Below.refl _ _⟩)
    go_enter Try.func36, Try.ntmps36
    go_wp2
    go_ret
    exact hfin.out
  · obtain ⟨i0, hi, hz0, hz1, hz2⟩ := info_parts infoStr
    have hcap := nextslicecap_zero (need := n) (by omega)
    have hr := Lib.run_append_grow_zeros (P := Try.prog) w 27 3 27 9 i0 (.string ByteArray.empty) .i64 .i64 Try.underlying27 Try.underlying3 hi hz0 none 0 0 [] (by simp [Builtin.firstCells]) n (by omega) (by rw [hz1]; omega) (by omega) (by omega) (by rw [hz2]; omega) (by rw [Nat.zero_add, hcap, hz2]; omega)
    have hge := grownCap_ge w n 0 9
    have hle := grownCap_le_maxLen w n 0 9 (by unfold maxLen; omega)
    rw [Nat.zero_add] at hr
    generalize grownCap w n 0 9 = cap at hr hge hle
    generalize hw' : w.drew.alloc _ = w' at hr
    have hfin := Hid.mk (show Strs [] w (.returned (.slice (some ⟨w.heap.size, 0, none⟩) 0 cap)) w' from by
      subst hw'
      refine ⟨_, rfl, ⟨rfl, .inr ⟨w.heap.size, cap, _, rfl, Nat.le_refl _, heap_alloc_new w.drew _, Nat.zero_le _, hle, ?_, rfl⟩⟩, (Below.refl _ _).drew.alloc (Nat.le_refl _) _⟩
      simp only [Array.size_append, size_zeroCells, List.size_toArray, List.length_nil]
      show 0 + n * 1 + (cap - n) * 1 = cap * 1
      omega)
    clear hw' hle hcap
    go_enter Try.func36, Try.ntmps36
    go_wp2_with (at_builtin; refine wpList_append_run2 rfl _ _ _ _ rfl rfl rfl rfl hr ?_)
    go_ret
    exact hfin.out

/-- Two lists, one behind the other. -/
theorem two_cells (w : World) (v1 v2 : Value) (t : TypeId) : (w.alloc (.cells #[v1, v2] t)).cell? ⟨w.heap.size, 0, none⟩ = some v1 ∧ (w.alloc (.cells #[v1, v2] t)).cell? ⟨w.heap.size, 1, none⟩ = some v2 := by
  simp only [World.cell?, heap_alloc_new]
  exact ⟨rfl, rfl⟩

set_option maxHeartbeats 2000000 in
set_option maxRecDepth 100000 in
theorem concat_is {w : World} {v1 v2 : Value} {l1 l2 : List Str} (h1 : IsStrs w v1 l1) (h2 : IsStrs w v2 l2) (hs1 : l1.length ≤ 131072) (hs2 : l2.length ≤ 131072) :
    Calls Try.prog 25 #[.slice (some ⟨w.heap.size, 0, none⟩) 2 2] (w.alloc (.cells #[v1, v2] 27)) (Strs (l1 ++ l2) w) := by
  have hbA : Below w.heap.size w (w.alloc (.cells #[v1, v2] 27)) := (Below.refl _ _).alloc (Nat.le_refl _) _
  have hc := two_cells w v1 v2 27
  have k1 := h1.below hbA
  have k2 := h2.below hbA
  have hsz : w.heap.size < (w.alloc (.cells #[v1, v2] 27)).heap.size := by rw [World.size_alloc]; omega
  generalize w.alloc (.cells #[v1, v2] 27) = wA at hbA hc k1 k2 hsz ⊢
  clear h1 h2
  obtain ⟨a1, p1, rfl, -⟩ := id k1
  obtain ⟨a2, p2, rfl, -⟩ := id k2
  obtain ⟨c1, c2⟩ := hc
  have hG := Hid.mk (grow_nil wA (l1.length + l2.length) (by omega))
  have K := Hid.mk (And.intro k1 k2)
  have HbA := Hid.mk hbA
  have Hs := Hid.mk hsz
  clear k1 k2 hbA hsz
  generalize hn1 : l1.length = n1 at *
  generalize hn2 : l2.length = n2 at *
  have f1 : ¬ ((n1 : Int) < 0) := by omega
  have f2 : ¬ ((n1 : Int) + (n2 : Int) < 0) := by omega
  have hG2 : Hid (Calls Try.prog 36 #[.slice none 0 0, .int .i64 ((n1 : Int) + (n2 : Int))] wA (Strs [] wA)) := by
    have h := hG.out
    rw [show ((n1 + n2 : Nat) : Int) = (n1 : Int) + (n2 : Int) from by omega] at h
    exact ⟨h⟩
  clear hG
  go_enter Try.func25, Try.ntmps25
  go_wp2
  refine wp_loop_rounds 3 ?_
  rw [rounds_succ]
  go_wp2
  rw [rounds_succ]
  go_wp2
  rw [rounds_succ]
  go_wp2_with fail
  refine hG2.out.mono ?_
  rintro e wB ⟨vg, rfl, hvg, hbB⟩
  have d1 : wB.cell? ⟨w.heap.size, 0, none⟩ = some (.slice a1 n1 p1) := cell_block c1 (hbB.block _ Hs.out)
  have d2 : wB.cell? ⟨w.heap.size, 1, none⟩ = some (.slice a2 n2 p2) := cell_block c2 (hbB.block _ Hs.out)
  obtain ⟨v3, wC, hr3, hown3, hgr3⟩ := run_appIs wB wA.heap.size vg _ [] l1 hvg ((K.out).1.below hbB) (by simp; omega) hbB.size
  have hbC : Below wA.heap.size wA wC := below_appS hbB hvg (Nat.le_refl _) hgr3
  have e2 : wC.cell? ⟨w.heap.size, 1, none⟩ = some (.slice a2 n2 p2) := cell_block c2 (hbC.block _ Hs.out)
  obtain ⟨v4, wD, hr4, hown4, hgr4⟩ := run_appIs wC wA.heap.size v3 _ ([] ++ l1) l2 hown3 ((K.out).2.below hbC) (by simp; omega) hbC.size
  have hbD : Below wA.heap.size wA wD := below_appS hbC hown3 (Nat.le_refl _) hgr4
  have hfin := Hid.mk (show Strs (l1 ++ l2) w (.returned v4) wD from ⟨v4, rfl, hown4.base HbA.out.size, HbA.out.trans (hbD.mono HbA.out.size)⟩)
  clear hvg hbB hown3 hgr3 hbC hown4 hgr4 hbD hG2 c1 c2
  go_wp2
  refine wp_loop_rounds 3 ?_
  rw [rounds_succ]
  go_wp2_with (at_builtin; refine wpList_append_run rfl _ _ _ rfl rfl rfl rfl hr3 ?_)
  rw [rounds_succ]
  go_wp2_with (at_builtin; refine wpList_append_run rfl _ _ _ rfl rfl rfl rfl hr4 ?_)
  rw [rounds_succ]
  go_wp2
  go_ret
  exact hfin.out

end Go.Proofs.Ytiinmmgknlnkaaa
