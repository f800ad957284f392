/-
  Copies of both trees.
-/
import Derived.Test.YtejlekfnjhnklaaPlays
import Derived.Shelf.SlMaps.Clone
import Derived.Deep.MidRow
namespace Go.Proofs.Ytejlekfnjhnklaa
open Go.RowKit Go.Maps

attribute [local go_sem ↓] Go.wp_at_zero Go.wp_at_succ

set_option maxHeartbeats 2000000 in
set_option maxRecDepth 100000 in
theorem clone_some (b : Nat) (es : Array MapEntry) (clock : Nat) (w : World) (hb : w.heap[b]? = some (.map es clock)) :
    Calls Try.prog 34 #[.map (some b)] w fun e w' => e = .returned (.map (some w.heap.size)) ∧ w' = w.alloc (.map es clock) := by
  have hq := fun w => run_eql_map_nil (P := Try.prog) w 30 _ _ (some b) Try.underlying30
  go_enter Try.func34, Try.ntmps34
  go_wp2
  rw [run_callFunc_extern Try.func43 (by kernel_rfl) (by kernel_rfl) (by kernel_rfl) (e := Extern.MapsClone.clone) (by kernel_rfl), run_maps_clone_sl w 30 hb]
  simp only [Result.andThen]
  rw [Oper.upon_value]
  go_wp2
  rw [run_typeAssert_map_sl _ 30 _ _ _ _ Try.underlying30]
  simp only [Result.andThen]
  rw [Oper.upon_value]
  go_wp2
  go_ret
  exact ⟨rfl, rfl⟩

theorem clone_none (w : World) : Calls Try.prog 34 #[.map none] w fun e w' => e = .returned (.map none) ∧ w' = w := by
  have hq := fun w => run_eql_map_nil (P := Try.prog) w 30 _ _ none Try.underlying30
  go_enter Try.func34, Try.ntmps34
  go_wp2
  go_ret
  exact ⟨rfl, rfl⟩

/-- The cells of a tree ahead of its map. -/
def jCells (last : Nat → Str) (n : Nat) : List Value := (List.range 32).map (fun i => strV (last i)) ++ [.int .i64 n]

theorem jCells_length (last : Nat → Str) (n : Nat) : (jCells last n).length = 33 := by simp [jCells]

theorem jCells_get (last : Nat → Str) (n : Nat) : (∀ i, i < 32 → (jCells last n)[i]? = some (strV (last i))) ∧ (jCells last n)[32]? = some (.int .i64 n) := by
  refine ⟨fun i hi => ?_, ?_⟩
  · unfold jCells
    rw [List.getElem?_append_left (by simpa using hi)]
    simp [hi]
  · simp [jCells]

theorem jCells_one (last : Nat → Str) (n : Nat) : ∀ v ∈ jCells last n, v.oneCell' = true := by
  intro v hv
  unfold jCells at hv
  rcases List.mem_append.1 hv with h | h
  · obtain ⟨i, _, rfl⟩ := List.mem_map.1 h
    rfl
  · obtain rfl : v = .int .i64 n := by simpa using h
    rfl

theorem IsTree.range {w : World} {b p : Nat} {m : Option Nat} {last : Nat → Str} {T : Tr} (h : IsTree w b p m last T) : w.rangeAt p 0 (jCells last T.ch.length) := by
  intro j v hj
  rw [Nat.zero_add]
  have hlt : j < 33 := by
    have := (List.getElem?_eq_some_iff.1 hj).1
    rwa [jCells_length] at this
  by_cases h32 : j = 32
  · subst h32
    rw [(jCells_get last _).2] at hj
    cases hj
    exact h.n
  · rw [(jCells_get last _).1 j (by omega)] at hj
    cases hj
    exact h.ring j (by omega)

/-- A tree of the cells c, its map in block m. -/
theorem tree_of {w : World} {p : Nat} {m : Option Nat} {last : Nat → Str} {T : Tr} (hb : w.heap[p]? = some (.cells ((jCells last T.ch.length) ++ [Value.map m]).toArray 32 (0, 0))) (hf : (m = none ∧ T.fs = []) ∨ ∃ q, m = some q ∧ MapG Try.prog 9 eS w q T.fs.length (look T.fs)) (hk : Ring T.ch last) : IsTree w 0 p m last T := by
  have hc : ∀ i, w.cell? ⟨p, i, none⟩ = (jCells last T.ch.length ++ [Value.map m])[i]? := fun i => by simp [World.cell?, hb]
  refine ⟨Nat.zero_le _, ⟨_, hb⟩, fun i hi => ?_, ?_, ?_, hf.imp id (fun ⟨q, h1, h2⟩ => ⟨q, h1, Nat.zero_le _, h2⟩), hk⟩
  · rw [hc, List.getElem?_append_left (by rw [jCells_length]; omega)]
    exact (jCells_get last _).1 i hi
  · rw [hc, List.getElem?_append_left (by rw [jCells_length]; omega)]
    exact (jCells_get last _).2
  · rw [hc, List.getElem?_append_right (by rw [jCells_length]; omega), jCells_length]
    rfl

/-- What a copy is: another tree with the same files, of the call's own. -/
def CopyPost (w : World) (T : Tr) (e : Ending) (w' : World) : Prop := ∃ p m last, e = .returned (.pointer (some ⟨p, 0, none⟩)) ∧ IsTree w' 0 p m last T ∧ w.heap.size ≤ p ∧ (∀ q, m = some q → w.heap.size ≤ q) ∧ Below w.heap.size w w'

theorem jCells_lit (last : Nat → Str) (n : Nat) : jCells last n = [strV (last 0), strV (last 1), strV (last 2), strV (last 3), strV (last 4), strV (last 5), strV (last 6), strV (last 7), strV (last 8), strV (last 9), strV (last 10), strV (last 11), strV (last 12), strV (last 13), strV (last 14), strV (last 15), strV (last 16), strV (last 17), strV (last 18), strV (last 19), strV (last 20), strV (last 21), strV (last 22), strV (last 23), strV (last 24), strV (last 25), strV (last 26), strV (last 27), strV (last 28), strV (last 29), strV (last 30), strV (last 31), .int .i64 n] := by
  unfold jCells
  simp [List.range, List.range.loop]

theorem CopyPost.drew {w w' : World} {T : Tr} {e : Ending} (h : CopyPost w T e w') : CopyPost w T e w'.drew := by
  obtain ⟨p, m, last, h1, h2, h3, h4, h5⟩ := h
  exact ⟨p, m, last, h1, h2.below ⟨rfl, rfl, rfl, Nat.le_refl _, fun _ _ => rfl⟩, h3, h4, h5.drew⟩

set_option maxHeartbeats 4000000 in
set_option maxRecDepth 100000 in
theorem copy_none {w : World} {p : Nat} {last : Nat → Str} {T : Tr} (h : IsTree w 0 p none last T) : Calls Try.prog 20 #[.pointer (some ⟨p, 0, none⟩)] w (CopyPost w T) := by
  have hr := h.range
  have hm := h.map
  have hl := jCells_length last T.ch.length
  have hu := Try.underlying29
  have hi : (Try.prog.info? 29).map (·.size) = some (jCells last T.ch.length).length := by rw [hl]; kernel_rfl
  have hfs : T.fs = [] := by
    rcases h.files with ⟨_, h1⟩ | ⟨q, h1, _⟩
    · exact h1
    · cases h1
  have hend : CopyPost w T (.returned (.pointer (some ⟨w.heap.size, 0, none⟩))) (w.alloc (.cells (jCells last T.ch.length ++ [Value.map none]).toArray 32)) := by
    refine ⟨w.heap.size, none, last, rfl, tree_of ?_ (.inl ⟨rfl, hfs⟩) h.keeps, Nat.le_refl _, (fun q e => by cases e), (Below.refl _ _).alloc (Nat.le_refl _) _⟩
    exact heap_alloc_new _ _
  rw [show (jCells last T.ch.length ++ [Value.map none]).toArray = #[strV (last 0), strV (last 1), strV (last 2), strV (last 3), strV (last 4), strV (last 5), strV (last 6), strV (last 7), strV (last 8), strV (last 9), strV (last 10), strV (last 11), strV (last 12), strV (last 13), strV (last 14), strV (last 15), strV (last 16), strV (last 17), strV (last 18), strV (last 19), strV (last 20), strV (last 21), strV (last 22), strV (last 23), strV (last 24), strV (last 25), strV (last 26), strV (last 27), strV (last 28), strV (last 29), strV (last 30), strV (last 31), .int .i64 T.ch.length, .map none] from by rw [jCells_lit]; rfl] at hend
  have Hend := Hid.mk hend
  clear hend hfs
  clear h
  generalize hcs : jCells last T.ch.length = cs at *
  rw [jCells_lit] at hcs
  have Hcs := Hid.mk hcs.symm
  clear hcs
  go_enter Try.func20, Try.ntmps20
  go_wp2
  refine wp_region_held_drew (S := fun w' => w'.rangeAt p 0 cs ∧ w'.cell? ⟨p, 33, none⟩ = some (.map none)) (by kernel_rfl) ?_ (fun hHeld => ?_)
  · exact ⟨hr, hm⟩
  · refine wpAnyH_take (i := 0) (oi := _) (v := .pointer (some ⟨p, 0, none⟩)) rfl (by kernel_rfl) (by kernel_rfl) (by kernel_rfl) (fun _ _ _ h => h) (Or.inl ⟨by rfl, by intro w hSw; go_simp⟩) (by assumption) ?_
    simp only [Act.put, List.getElem_toArray, List.getElem_cons_zero, List.getElem_cons_succ, List.setIfInBounds_toArray, List.set_cons_zero, List.set_cons_succ]
    refine wpAnyH_take (i := 1) (oi := _) (v := .pointer (some ⟨p, 0, none⟩)) rfl (by kernel_rfl) (by kernel_rfl) (by kernel_rfl) (fun _ _ _ h => h) (Or.inl ⟨by rfl, by intro w hSw; go_simp⟩) (by assumption) ?_
    simp only [Act.put, List.getElem_toArray, List.getElem_cons_zero, List.getElem_cons_succ, List.setIfInBounds_toArray, List.set_cons_zero, List.set_cons_succ]
    refine wpAnyH_take (i := 2) (oi := _) (v := .pointer (some ⟨p, 0, none⟩)) rfl (by kernel_rfl) (by kernel_rfl) (by kernel_rfl) (fun _ _ _ h => h) (Or.inl ⟨by rfl, by intro w hSw; go_simp⟩) (by assumption) ?_
    simp only [Act.put, List.getElem_toArray, List.getElem_cons_zero, List.getElem_cons_succ, List.setIfInBounds_toArray, List.set_cons_zero, List.set_cons_succ]
    refine' wpAnyH_take (i := 3) (oi := _) (v := _) rfl (by kernel_rfl) (by kernel_rfl) (by kernel_rfl) (fun _ _ _ h => h)
      (yieldsIf_load_mid (by rfl) 29 (.tmp 7) rfl p 0 rfl cs _ (fun w hw => hw.1) hu rfl hi) (by assumption) ?rest
    simp only [Act.put, List.getElem_toArray, List.getElem_cons_zero, List.getElem_cons_succ, List.setIfInBounds_toArray, List.set_cons_zero, List.set_cons_succ]
    refine wpAnyH_take (i := 4) (oi := _) (v := .pointer (some ⟨p, 0, none⟩)) rfl (by kernel_rfl) (by kernel_rfl) (by kernel_rfl) (fun _ _ _ h => h) (Or.inl ⟨by rfl, by intro w hSw; go_simp⟩) (by assumption) ?_
    simp only [Act.put, List.getElem_toArray, List.getElem_cons_zero, List.getElem_cons_succ, List.setIfInBounds_toArray, List.set_cons_zero, List.set_cons_succ]
    refine wpAnyH_take (i := 5) (oi := _) (v := .pointer (some ⟨p, 0, none⟩)) rfl (by kernel_rfl) (by kernel_rfl) (by kernel_rfl) (fun _ _ _ h => h) (Or.inl ⟨by rfl, by intro w hSw; go_simp⟩) (by assumption) ?_
    simp only [Act.put, List.getElem_toArray, List.getElem_cons_zero, List.getElem_cons_succ, List.setIfInBounds_toArray, List.set_cons_zero, List.set_cons_succ]
    refine wpAnyH_take (i := 6) (oi := _) (v := .pointer (some ⟨p, 33, none⟩)) rfl (by kernel_rfl) (by kernel_rfl) (by kernel_rfl) (fun _ _ _ h => h) (Or.inl ⟨by rfl, by intro w hSw; go_simp⟩) (by assumption) ?_
    simp only [Act.put, List.getElem_toArray, List.getElem_cons_zero, List.getElem_cons_succ, List.setIfInBounds_toArray, List.set_cons_zero, List.set_cons_succ]
    refine wpAnyH_take (i := 7) (oi := _) (v := .map none) rfl (by kernel_rfl) (by kernel_rfl) (by kernel_rfl) (fun _ _ _ h => h) (Or.inl ⟨by rfl, by intro w hSw; go_simp⟩) (by assumption) ?_
    simp only [Act.put, List.getElem_toArray, List.getElem_cons_zero, List.getElem_cons_succ, List.setIfInBounds_toArray, List.set_cons_zero, List.set_cons_succ]
    refine wpAnyH_ready (rs := [8]) (by kernel_rfl) (by simp) ?_
    refine AllReadyH.cons (o := _) rfl (fun K hK => ?_) AllReadyH.nil
    go_simp
    go_at_call 34
    refine (clone_none _).mono ?_
    rintro e w' ⟨rfl, rfl⟩
    go_wp2_with fail
    refine hK.out _ _ ⟨hr, hm⟩ (fun hHeld2 => ?_)
    clear hK K
    rw [show cs.toArray = #[strV (last 0), strV (last 1), strV (last 2), strV (last 3), strV (last 4), strV (last 5), strV (last 6), strV (last 7), strV (last 8), strV (last 9), strV (last 10), strV (last 11), strV (last 12), strV (last 13), strV (last 14), strV (last 15), strV (last 16), strV (last 17), strV (last 18), strV (last 19), strV (last 20), strV (last 21), strV (last 22), strV (last 23), strV (last 24), strV (last 25), strV (last 26), strV (last 27), strV (last 28), strV (last 29), strV (last 30), strV (last 31), .int .i64 T.ch.length] from by rw [← Hcs.out]]
    refine wpAnyH_ready (rs := [9]) (by kernel_rfl) (by simp) ?_
    refine AllReadyH.cons (o := _) rfl (fun K hK => ?_) AllReadyH.nil
    go_simp
    refine hK.out _ _ ⟨hr, hm⟩ (fun hHeld3 => ?_)
    clear hK K
    refine wpAnyH_ready (rs := [10]) (by kernel_rfl) (by simp) ?_
    refine AllReadyH.cons (o := _) rfl (fun K hK => ?_) AllReadyH.nil
    go_simp
    refine hK.out _ _ ⟨World.rangeAt_alloc hr _, cell_alloc' _ hm⟩ (fun hHeld4 => ?_)
    clear hK K
    refine wpAnyH_ready (rs := [11]) (by kernel_rfl) (by simp) ?_
    refine AllReadyH.cons (o := _) rfl (fun K hK => ?_) AllReadyH.nil
    go_simp
    refine hK.out _ _ ⟨World.rangeAt_alloc hr _, cell_alloc' _ hm⟩ (fun hHeld5 => ?_)
    clear hK K
    refine wpAnyH_done (by kernel_rfl) ?_ _
    go_wp2
    go_ret
    exact Hend.out.drew

set_option maxHeartbeats 4000000 in
set_option maxRecDepth 100000 in
theorem copy_some {w : World} {p q : Nat} {last : Nat → Str} {T : Tr} (h : IsTree w 0 p (some q) last T) : Calls Try.prog 20 #[.pointer (some ⟨p, 0, none⟩)] w (CopyPost w T) := by
  have hr := h.range
  have hm := h.map
  have hl := jCells_length last T.ch.length
  have hu := Try.underlying29
  have hi : (Try.prog.info? 29).map (·.size) = some (jCells last T.ch.length).length := by rw [hl]; kernel_rfl
  obtain ⟨q', e, _, hmg⟩ : ∃ q', some q = some q' ∧ 0 ≤ q' ∧ MapG Try.prog 9 eS w q' T.fs.length (look T.fs) := by
    rcases h.files with ⟨h1, _⟩ | h1
    · cases h1
    · exact h1
  obtain rfl : q = q' := by simpa using e
  obtain ⟨es, clock, hq⟩ := hmg.is_map
  have hend : CopyPost w T (.returned (.pointer (some ⟨w.heap.size + 1, 0, none⟩))) ((w.alloc (.map es clock)).alloc (.cells (jCells last T.ch.length ++ [Value.map (some w.heap.size)]).toArray 32)) := by
    have hs1 : (w.alloc (.map es clock)).heap.size = w.heap.size + 1 := World.size_alloc _ _
    refine ⟨w.heap.size + 1, some w.heap.size, last, rfl, tree_of ?_ (.inr ⟨_, rfl, hmg.same' ?_⟩) h.keeps, by omega, (fun q e => by cases e; exact Nat.le_refl _), ((Below.refl _ _).alloc (Nat.le_refl _) _).alloc (by rw [hs1]; omega) _⟩
    · rw [← hs1]
      exact heap_alloc_new _ _
    · rw [Below.heap_alloc _ _ _ (by rw [hs1]; omega), hq]
      exact heap_alloc_new _ _
  rw [show (jCells last T.ch.length ++ [Value.map (some w.heap.size)]).toArray = #[strV (last 0), strV (last 1), strV (last 2), strV (last 3), strV (last 4), strV (last 5), strV (last 6), strV (last 7), strV (last 8), strV (last 9), strV (last 10), strV (last 11), strV (last 12), strV (last 13), strV (last 14), strV (last 15), strV (last 16), strV (last 17), strV (last 18), strV (last 19), strV (last 20), strV (last 21), strV (last 22), strV (last 23), strV (last 24), strV (last 25), strV (last 26), strV (last 27), strV (last 28), strV (last 29), strV (last 30), strV (last 31), .int .i64 T.ch.length, .map (some w.heap.size)] from by rw [jCells_lit]; rfl] at hend
  have Hend := Hid.mk hend
  have Hcl := Hid.mk (clone_some q es clock w.drew hq)
  clear hend hmg hq e
  clear h
  generalize hcs : jCells last T.ch.length = cs at *
  rw [jCells_lit] at hcs
  have Hcs := Hid.mk hcs.symm
  clear hcs
  go_enter Try.func20, Try.ntmps20
  go_wp2
  refine wp_region_held_drew (S := fun w' => w'.rangeAt p 0 cs ∧ w'.cell? ⟨p, 33, none⟩ = some (.map (some q))) (by kernel_rfl) ?_ (fun hHeld => ?_)
  · exact ⟨hr, hm⟩
  · refine wpAnyH_take (i := 0) (oi := _) (v := .pointer (some ⟨p, 0, none⟩)) rfl (by kernel_rfl) (by kernel_rfl) (by kernel_rfl) (fun _ _ _ h => h) (Or.inl ⟨by rfl, by intro w hSw; go_simp⟩) (by assumption) ?_
    simp only [Act.put, List.getElem_toArray, List.getElem_cons_zero, List.getElem_cons_succ, List.setIfInBounds_toArray, List.set_cons_zero, List.set_cons_succ]
    refine wpAnyH_take (i := 1) (oi := _) (v := .pointer (some ⟨p, 0, none⟩)) rfl (by kernel_rfl) (by kernel_rfl) (by kernel_rfl) (fun _ _ _ h => h) (Or.inl ⟨by rfl, by intro w hSw; go_simp⟩) (by assumption) ?_
    simp only [Act.put, List.getElem_toArray, List.getElem_cons_zero, List.getElem_cons_succ, List.setIfInBounds_toArray, List.set_cons_zero, List.set_cons_succ]
    refine wpAnyH_take (i := 2) (oi := _) (v := .pointer (some ⟨p, 0, none⟩)) rfl (by kernel_rfl) (by kernel_rfl) (by kernel_rfl) (fun _ _ _ h => h) (Or.inl ⟨by rfl, by intro w hSw; go_simp⟩) (by assumption) ?_
    simp only [Act.put, List.getElem_toArray, List.getElem_cons_zero, List.getElem_cons_succ, List.setIfInBounds_toArray, List.set_cons_zero, List.set_cons_succ]
    refine' wpAnyH_take (i := 3) (oi := _) (v := _) rfl (by kernel_rfl) (by kernel_rfl) (by kernel_rfl) (fun _ _ _ h => h)
      (yieldsIf_load_mid (by rfl) 29 (.tmp 7) rfl p 0 rfl cs _ (fun w hw => hw.1) hu rfl hi) (by assumption) ?rest
    simp only [Act.put, List.getElem_toArray, List.getElem_cons_zero, List.getElem_cons_succ, List.setIfInBounds_toArray, List.set_cons_zero, List.set_cons_succ]
    refine wpAnyH_take (i := 4) (oi := _) (v := .pointer (some ⟨p, 0, none⟩)) rfl (by kernel_rfl) (by kernel_rfl) (by kernel_rfl) (fun _ _ _ h => h) (Or.inl ⟨by rfl, by intro w hSw; go_simp⟩) (by assumption) ?_
    simp only [Act.put, List.getElem_toArray, List.getElem_cons_zero, List.getElem_cons_succ, List.setIfInBounds_toArray, List.set_cons_zero, List.set_cons_succ]
    refine wpAnyH_take (i := 5) (oi := _) (v := .pointer (some ⟨p, 0, none⟩)) rfl (by kernel_rfl) (by kernel_rfl) (by kernel_rfl) (fun _ _ _ h => h) (Or.inl ⟨by rfl, by intro w hSw; go_simp⟩) (by assumption) ?_
    simp only [Act.put, List.getElem_toArray, List.getElem_cons_zero, List.getElem_cons_succ, List.setIfInBounds_toArray, List.set_cons_zero, List.set_cons_succ]
    refine wpAnyH_take (i := 6) (oi := _) (v := .pointer (some ⟨p, 33, none⟩)) rfl (by kernel_rfl) (by kernel_rfl) (by kernel_rfl) (fun _ _ _ h => h) (Or.inl ⟨by rfl, by intro w hSw; go_simp⟩) (by assumption) ?_
    simp only [Act.put, List.getElem_toArray, List.getElem_cons_zero, List.getElem_cons_succ, List.setIfInBounds_toArray, List.set_cons_zero, List.set_cons_succ]
    refine wpAnyH_take (i := 7) (oi := _) (v := .map (some q)) rfl (by kernel_rfl) (by kernel_rfl) (by kernel_rfl) (fun _ _ _ h => h) (Or.inl ⟨by rfl, by intro w hSw; go_simp⟩) (by assumption) ?_
    simp only [Act.put, List.getElem_toArray, List.getElem_cons_zero, List.getElem_cons_succ, List.setIfInBounds_toArray, List.set_cons_zero, List.set_cons_succ]
    refine wpAnyH_ready (rs := [8]) (by kernel_rfl) (by simp) ?_
    refine AllReadyH.cons (o := _) rfl (fun K hK => ?_) AllReadyH.nil
    go_simp
    go_at_call 34
    refine Hcl.out.mono ?_
    rintro e w' ⟨rfl, rfl⟩
    go_wp2_with fail
    refine hK.out _ _ ⟨World.rangeAt_alloc hr _, cell_alloc' _ hm⟩ (fun hHeld2 => ?_)
    clear hK K
    rw [show cs.toArray = #[strV (last 0), strV (last 1), strV (last 2), strV (last 3), strV (last 4), strV (last 5), strV (last 6), strV (last 7), strV (last 8), strV (last 9), strV (last 10), strV (last 11), strV (last 12), strV (last 13), strV (last 14), strV (last 15), strV (last 16), strV (last 17), strV (last 18), strV (last 19), strV (last 20), strV (last 21), strV (last 22), strV (last 23), strV (last 24), strV (last 25), strV (last 26), strV (last 27), strV (last 28), strV (last 29), strV (last 30), strV (last 31), .int .i64 T.ch.length] from by rw [← Hcs.out]]
    refine wpAnyH_ready (rs := [9]) (by kernel_rfl) (by simp) ?_
    refine AllReadyH.cons (o := _) rfl (fun K hK => ?_) AllReadyH.nil
    go_simp
    refine hK.out _ _ ⟨World.rangeAt_alloc hr _, cell_alloc' _ hm⟩ (fun hHeld3 => ?_)
    clear hK K
    refine wpAnyH_ready (rs := [10]) (by kernel_rfl) (by simp) ?_
    refine AllReadyH.cons (o := _) rfl (fun K hK => ?_) AllReadyH.nil
    go_simp
    refine hK.out _ _ ⟨World.rangeAt_alloc (World.rangeAt_alloc hr _) _, cell_alloc' _ (cell_alloc' _ hm)⟩ (fun hHeld4 => ?_)
    clear hK K
    refine wpAnyH_ready (rs := [11]) (by kernel_rfl) (by simp) ?_
    refine AllReadyH.cons (o := _) rfl (fun K hK => ?_) AllReadyH.nil
    go_simp
    refine hK.out _ _ ⟨World.rangeAt_alloc (World.rangeAt_alloc hr _) _, cell_alloc' _ (cell_alloc' _ hm)⟩ (fun hHeld5 => ?_)
    clear hK K
    refine wpAnyH_done (by kernel_rfl) ?_ _
    go_wp2
    go_ret
    exact Hend.out.drew

theorem copy_is {w : World} {p : Nat} {m : Option Nat} {last : Nat → Str} {T : Tr} (h : IsTree w 0 p m last T) : Calls Try.prog 20 #[.pointer (some ⟨p, 0, none⟩)] w (CopyPost w T) := by
  cases m with
  | none => exact copy_none h
  | some q => exact copy_some h

end Go.Proofs.Ytejlekfnjhnklaa
