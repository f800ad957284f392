/-
  The law's 'works' and its closed statement.
-/
import Derived.Test.YtiinmmgknlnkaaaWorks
namespace Go.Proofs.Ytiinmmgknlnkaaa
open Go.RowKit Go.Maps

/-- What comes back is a slice of l; nothing that was there has changed. -/
def Got (l : List Str) (w : World) (e : Ending) (w' : World) : Prop := ∃ v, e = .returned v ∧ IsStrs w' v l ∧ Below w.heap.size w w'
def GotOpt (r : Option (List Str)) (w : World) (e : Ending) (w' : World) : Prop := ∃ v, e = .returned (.tuple #[v, .bool r.isSome]) ∧ IsStrs w' v (r.getD []) ∧ Below w.heap.size w w'

theorem OptPost.got {r : Option (List Str)} {w : World} {e : Ending} {w' : World} (h : OptPost r w e w') : GotOpt r w e w' := by
  obtain ⟨v, he, hv, hb⟩ := h
  exact ⟨v, he, hv.is, hb⟩
theorem Strs.got {r : List Str} {w : World} {e : Ending} {w' : World} (h : Strs r w e w') : Got r w e w' := by
  obtain ⟨v, he, hv, hb⟩ := h
  exact ⟨v, he, hv.is, hb⟩

theorem exCells (w : World) : ∀ i (h : i < exPairs.length), (w.alloc (.cells (exPairs.map strV).toArray 9)).cell? ⟨w.heap.size, 0 + i, none⟩ = some (strV exPairs[i]) := fun i h => by
  simp only [World.cell?, heap_alloc_new, Nat.zero_add]
  simp [h]

theorem exShort : ∀ x ∈ pairsN exPairs 4, x.1.length ≤ maxLen ∧ x.2.length ≤ maxLen := by decide +kernel

/-- The examples' edges. -/
theorem ex_edges (w : World) : Calls Try.prog 7 #[.slice (some ⟨w.heap.size, 0, none⟩) 8 8] (w.alloc (.cells (exPairs.map strV).toArray 9)) fun e w' => ∃ a cap, e = .returned (.slice a 4 cap) ∧ EdgesAt w' a (pairsN exPairs 4) ∧ Below w.heap.size w w' := by
  refine (edges19_is (w.alloc (.cells (exPairs.map strV).toArray 9)) w.heap.size 0 8 8 4 exPairs rfl rfl (exCells w) (by decide)).mono ?_
  rintro e w' ⟨v, rfl, hv, hb⟩
  obtain ⟨a, cap, rfl, hat⟩ := hv.at
  rw [pairsN_length]
  exact ⟨a, cap, rfl, hat, ((Below.refl _ _).alloc (Nat.le_refl _) _).trans (hb.mono (by rw [World.size_alloc]; omega))⟩

theorem ex_new {w : World} {a : Option Addr} {cap : Nat} (h : EdgesAt w a (pairsN exPairs 4)) : Calls Try.prog 6 #[.slice a 4 cap] w (NewPost w G0) :=
  new_any w a cap 4 (pairsN exPairs 4) (by rw [pairsN_length]) h exShort (by rw [pairsN_length]; omega)

theorem equal_lit {w : World} {v : Value} (l : List Str) (h : IsStrs w v l) (hs : l.length ≤ 1048576) : Calls Try.prog 10 #[v, .slice (some ⟨w.heap.size, 0, none⟩) l.length l.length] (w.alloc (.cells (l.map strV).toArray 9)) fun e w' => e = .returned (.bool true) ∧ Below w.heap.size w w' := by
  have hb : Below w.heap.size w (w.alloc (.cells (l.map strV).toArray 9)) := (Below.refl _ _).alloc (Nat.le_refl _) _
  refine (equal_is (h.below hb) (lit_is w l) hs hs).mono ?_
  rintro e w' ⟨rfl, hb2⟩
  exact ⟨by simp, hb.trans (hb2.mono hb.size)⟩

set_option maxHeartbeats 4000000 in
set_option maxRecDepth 100000 in
theorem works_is (w : World) : Calls Try.prog 5 #[] w fun e w' => e = .returned (.bool true) ∧ Below w.heap.size w w' := by
  go_enter Try.func5, Try.ntmps5
  go_wp2_with fail
  refine (ex_edges w).mono ?_
  rintro e w1 ⟨a, cap, rfl, hat, hb1⟩
  have Hb1 := Hid.mk hb1
  have Hat := Hid.mk hat
  clear hb1 hat
  go_wp2_with fail
  refine (ex_new Hat.out).mono ?_
  rintro e w2 ⟨S, p, rfl, hg, hb, -, -⟩
  have Hb2 := Hid.mk (Hb1.out.trans (hb.mono Hb1.out.size))
  have Hg := Hid.mk hg
  clear Hb1 Hat hg hb
  go_wp2_with fail
  refine (way_is Hg.out la ld (by decide) (by decide)).mono ?_
  intro e w3 hp3
  have hp3 := hp3.got
  rw [G0_way] at hp3
  obtain ⟨v, rfl, hv, hb⟩ := hp3
  have Hb3 := Hid.mk (Hb2.out.trans (hb.mono Hb2.out.size))
  have Hg3 := Hid.mk (Hg.out.below hb)
  have Hv3 := Hid.mk hv
  clear Hb2 Hg hv hb
  go_wp2_with fail
  refine (order_is Hg3.out).mono ?_
  intro e w4 hp4
  have hp4 := hp4.got
  rw [G0_order] at hp4
  obtain ⟨v4, rfl, hv, hb⟩ := hp4
  have Hb4 := Hid.mk (Hb3.out.trans (hb.mono Hb3.out.size))
  have Hv3b := Hid.mk (Hv3.out.below hb)
  have Hv4 := Hid.mk hv
  clear Hb3 Hv3 hv hb Hg3
  go_wp2_with fail
  refine (equal_lit [la, lb, ld] Hv3b.out (by decide)).mono ?_
  rintro e w5 ⟨rfl, hb⟩
  have Hb5 := Hid.mk (Hb4.out.trans (hb.mono Hb4.out.size))
  have Hv5 := Hid.mk (Hv4.out.below hb)
  clear Hb4 Hv4 Hv3b hb
  go_wp2_with fail
  refine (equal_lit [ld, lb, lc, la] Hv5.out (by decide)).mono ?_
  rintro e w6 ⟨rfl, hb⟩
  have Hb6 := Hid.mk (Hb5.out.trans (hb.mono Hb5.out.size))
  clear Hb5 Hv5 hb
  go_wp2
  go_ret
  exact ⟨rfl, Hb6.out⟩

/-! the closed statement -/
def Got0 (w : World) (e : Ending) (w' : World) : Prop := ∃ an cn, e = .returned (.slice an 0 cn) ∧ Below w.heap.size w w'
def GotNo (w : World) (e : Ending) (w' : World) : Prop := ∃ an cn, e = .returned (.tuple #[.slice an 0 cn, .bool false]) ∧ Below w.heap.size w w'
def GotYes (l : List Str) (w : World) (e : Ending) (w' : World) : Prop := ∃ v, e = .returned (.tuple #[v, .bool true]) ∧ IsStrs w' v l ∧ Below w.heap.size w w'

theorem Got.zero {w : World} {e : Ending} {w' : World} (h : Got [] w e w') : Got0 w e w' := by
  obtain ⟨v, rfl, ⟨an, cn, rfl, _⟩, hb⟩ := h
  exact ⟨an, cn, rfl, hb⟩
theorem OptPost.no {w : World} {e : Ending} {w' : World} (h : OptPost none w e w') : GotNo w e w' := by
  obtain ⟨v, rfl, ⟨an, cn, rfl, _⟩, hb⟩ := h.got
  exact ⟨an, cn, rfl, hb⟩
theorem OptPost.yes {l : List Str} {w : World} {e : Ending} {w' : World} (h : OptPost (some l) w e w') : GotYes l w e w' := h.got

section
variable {S : Nat → Prop} {w : World} {p : Nat} {G : Gr} (h : IsGraph S w p G)
include h

theorem ex_way_none (a b : Str) (hw : wayOf G a b = none) (ha : a.length ≤ maxLen) (hb : b.length ≤ maxLen) : Calls Try.prog 8 #[ptr p, strV a, strV b] w (GotNo w) :=
  (way_is h a b ha hb).mono fun _ _ k => (hw ▸ k : OptPost none w _ _).no
theorem ex_way_some (a b : Str) {l : List Str} (hw : wayOf G a b = some l) (ha : a.length ≤ maxLen) (hb : b.length ≤ maxLen) : Calls Try.prog 8 #[ptr p, strV a, strV b] w (GotYes l w) :=
  (way_is h a b ha hb).mono fun _ _ k => (hw ▸ k : OptPost (some l) w _ _).yes
theorem ex_cycle_none (hw : cycleOf G = none) : Calls Try.prog 9 #[ptr p] w (GotNo w) :=
  (cycle_is h).mono fun _ _ k => (hw ▸ k : OptPost none w _ _).no
theorem ex_cycle_some {l : List Str} (hw : cycleOf G = some l) : Calls Try.prog 9 #[ptr p] w (GotYes l w) :=
  (cycle_is h).mono fun _ _ k => (hw ▸ k : OptPost (some l) w _ _).yes
theorem ex_order_none (hw : orderOf G = none) : Calls Try.prog 17 #[ptr p] w (GotNo w) :=
  (order_is h).mono fun _ _ k => (hw ▸ k : OptPost none w _ _).no
theorem ex_names {l : List Str} (hw : G.ns = l) : Calls Try.prog 11 #[ptr p] w (Got l w) :=
  (names_is h).mono fun _ _ k => hw ▸ k.got
theorem ex_out (a : Str) {l : List Str} (hw : G.out a = l) (ha : a.length ≤ maxLen) : Calls Try.prog 12 #[ptr p, strV a] w (Got l w) :=
  (out_is h a ha).mono fun _ _ k => hw ▸ k.got
theorem ex_out0 (a : Str) (hw : G.out a = []) (ha : a.length ≤ maxLen) : Calls Try.prog 12 #[ptr p, strV a] w (Got0 w) :=
  (ex_out h a hw ha).mono fun _ _ k => k.zero
theorem ex_in (a : Str) {l : List Str} (hw : G.into a = l) (ha : a.length ≤ maxLen) : Calls Try.prog 13 #[ptr p, strV a] w (Got l w) :=
  (in_is h a ha).mono fun _ _ k => hw ▸ k.got

theorem below_lit (l r : List Str) (hr : clos G G.e l = r) (hs : l.length ≤ 1048576 ∧ ∀ x ∈ l, x.length ≤ maxLen) : Calls Try.prog 14 #[ptr p, .slice (some ⟨w.heap.size, 0, none⟩) l.length l.length] (w.alloc (.cells (l.map strV).toArray 9)) (Got r w) := by
  have hb : Below w.heap.size w (w.alloc (.cells (l.map strV).toArray 9)) := (Below.refl _ _).alloc (Nat.le_refl _) _
  obtain ⟨a, cap, he, hat⟩ := (lit_is w l).at
  simp only [Value.slice.injEq] at he
  refine (below_is (h.below hb) (some ⟨w.heap.size, 0, none⟩) l.length l.length l rfl (he.1 ▸ hat) hs.2 (by have := hs.1; omega)).mono fun e w' k => ?_
  obtain ⟨v, rfl, hv, hb2⟩ := k.got
  exact ⟨v, rfl, hr ▸ hv, hb.trans (hb2.mono hb.size)⟩
theorem below_lit0 (l : List Str) (hr : clos G G.e l = []) (hs : l.length ≤ 1048576 ∧ ∀ x ∈ l, x.length ≤ maxLen) : Calls Try.prog 14 #[ptr p, .slice (some ⟨w.heap.size, 0, none⟩) l.length l.length] (w.alloc (.cells (l.map strV).toArray 9)) (Got0 w) :=
  (below_lit h l [] hr hs).mono fun _ _ k => k.zero
theorem above_lit (l r : List Str) (hr : clos G G.turn.e l = r) (hs : l.length ≤ 1048576 ∧ ∀ x ∈ l, x.length ≤ maxLen) : Calls Try.prog 15 #[ptr p, .slice (some ⟨w.heap.size, 0, none⟩) l.length l.length] (w.alloc (.cells (l.map strV).toArray 9)) (Got r w) := by
  have hb : Below w.heap.size w (w.alloc (.cells (l.map strV).toArray 9)) := (Below.refl _ _).alloc (Nat.le_refl _) _
  obtain ⟨a, cap, he, hat⟩ := (lit_is w l).at
  simp only [Value.slice.injEq] at he
  refine (above_is (h.below hb) (some ⟨w.heap.size, 0, none⟩) l.length l.length l rfl (he.1 ▸ hat) hs.2 (by have := hs.1; omega)).mono fun e w' k => ?_
  obtain ⟨v, rfl, hv, hb2⟩ := k.got
  exact ⟨v, rfl, hr ▸ hv, hb.trans (hb2.mono hb.size)⟩
end

theorem edges_nil0 (w : World) : Calls Try.prog 20 #[.pointer none] w fun e w' => ∃ a cap, e = .returned (.slice a 0 cap) ∧ Below w.heap.size w w' := by
  refine (edges_nil w).mono fun e w' k => ?_
  obtain ⟨v, rfl, hv, hb⟩ := k
  obtain ⟨a, cap, rfl, _⟩ := hv.at
  exact ⟨a, cap, rfl, hb⟩

theorem turn_nil (w : World) : Calls Try.prog 21 #[.pointer none] w fun e w' => e = .returned (.pointer none) ∧ w = w' := by
  go_enter Try.func21, Try.ntmps21
  go_wp2
  go_ret
  exact ⟨rfl, rfl⟩

theorem below_only {S : Nat → Prop} {w0 w w' : World} (hb : Below w0.heap.size w0 w) (ho : Only S w w') (hS : ∀ k, S k → w0.heap.size ≤ k) : Below w0.heap.size w0 w' :=
  ⟨ho.os.trans hb.os, ho.tape.trans hb.tape, ho.output.trans hb.output, Nat.le_trans hb.size ho.size, fun k hk => (ho.block k (Nat.lt_of_lt_of_le hk hb.size) (fun h => by have := hS k h; omega)).trans (hb.block k hk)⟩

theorem add_nil_lit {w : World} {n cap : Nat} (cs : Array Value) : Calls Try.prog 18 #[.pointer none, .slice (some ⟨w.heap.size, 0, none⟩) n cap] (w.alloc (.cells cs 9)) fun e w' => e = .returned (.int .i64 1) ∧ Below w.heap.size w w' :=
  (add_nil _ _ _ _).mono fun _ _ k => ⟨k.1, k.2 ▸ (Below.refl _ _).alloc (Nat.le_refl _) _⟩

theorem below_nil_lit {w : World} {n cap : Nat} (cs : Array Value) : Calls Try.prog 14 #[.pointer none, .slice (some ⟨w.heap.size, 0, none⟩) n cap] (w.alloc (.cells cs 9)) fun e w' => e = .returned (.slice none 0 0) ∧ Below w.heap.size w w' :=
  (below_nil _ _ _ _).mono fun _ _ k => ⟨k.1, k.2 ▸ (Below.refl _ _).alloc (Nat.le_refl _) _⟩

theorem above_nil_lit {w : World} {n cap : Nat} (cs : Array Value) : Calls Try.prog 15 #[.pointer none, .slice (some ⟨w.heap.size, 0, none⟩) n cap] (w.alloc (.cells cs 9)) fun e w' => e = .returned (.slice none 0 0) ∧ Below w.heap.size w w' :=
  (above_nil _ _ _ _).mono fun _ _ k => ⟨k.1, k.2 ▸ (Below.refl _ _).alloc (Nat.le_refl _) _⟩

set_option maxHeartbeats 16000000 in
set_option maxRecDepth 100000 in
theorem known_is (w : World) : Calls Try.prog 3 #[] w fun e w' => e = .returned (.bool true) ∧ Below w.heap.size w w' := by
  go_enter Try.func3, Try.ntmps3
  go_wp2_with fail
  refine (works_is w).mono ?_
  rintro e w1 ⟨rfl, hb⟩
  have Hb := Hid.mk hb
  clear hb
  go_wp2_with fail
  refine (ex_edges w1).mono ?_
  rintro e w2 ⟨a, cap, rfl, hat, hb⟩
  replace Hb := Hid.mk (Hb.out.trans (hb.mono Hb.out.size))
  have Hat := Hid.mk hat
  clear hat hb
  go_wp2_with fail
  refine (ex_new Hat.out).mono ?_
  rintro e w3 ⟨S, p, rfl, hg, hb, -, hS⟩
  have HS := Hid.mk (show ∀ k, S k → w.heap.size ≤ k from fun k hk => Nat.le_trans Hb.out.size (hS k hk))
  replace Hb := Hid.mk (Hb.out.trans (hb.mono Hb.out.size))
  have Hg := Hid.mk hg
  clear hg Hat hb hS
  go_wp2_with fail
  refine (ex_way_none Hg.out ld la G0_way2 (by decide) (by decide)).mono ?_
  rintro e w4 ⟨an, cn, rfl, hb⟩
  replace Hg := Hid.mk (Hg.out.below hb)
  replace Hb := Hid.mk (Hb.out.trans (hb.mono Hb.out.size))
  clear hb
  go_wp2_with fail
  refine (ex_way_some Hg.out la la G0_way3 (by decide) (by decide)).mono ?_
  rintro e w5 ⟨vy, rfl, hv, hb⟩
  replace Hg := Hid.mk (Hg.out.below hb)
  replace Hb := Hid.mk (Hb.out.trans (hb.mono Hb.out.size))
  have Hy := Hid.mk hv
  clear hv
  clear hb
  go_wp2_with fail
  refine (ex_cycle_none Hg.out G0_cycle).mono ?_
  rintro e w6 ⟨an, cn, rfl, hb⟩
  replace Hg := Hid.mk (Hg.out.below hb)
  replace Hb := Hid.mk (Hb.out.trans (hb.mono Hb.out.size))
  replace Hy := Hid.mk (Hy.out.below hb)
  clear hb
  go_wp2_with fail
  refine (ex_names Hg.out G0_ns).mono ?_
  rintro e w7 ⟨v, rfl, hv, hb⟩
  replace Hg := Hid.mk (Hg.out.below hb)
  replace Hb := Hid.mk (Hb.out.trans (hb.mono Hb.out.size))
  replace Hy := Hid.mk (Hy.out.below hb)
  have Hv := Hid.mk hv
  clear hv
  clear hb
  go_wp2_with fail
  refine (equal_lit [la, lb, lc, ld] Hv.out (by decide)).mono ?_
  rintro e w8 ⟨rfl, hb⟩
  replace Hg := Hid.mk (Hg.out.below hb)
  replace Hb := Hid.mk (Hb.out.trans (hb.mono Hb.out.size))
  replace Hy := Hid.mk (Hy.out.below hb)
  replace Hv := Hid.mk (Hv.out.below hb)
  clear hb
  clear Hv
  go_wp2_with fail
  refine (ex_out Hg.out la G0_out (by decide)).mono ?_
  rintro e w9 ⟨v, rfl, hv, hb⟩
  replace Hg := Hid.mk (Hg.out.below hb)
  replace Hb := Hid.mk (Hb.out.trans (hb.mono Hb.out.size))
  replace Hy := Hid.mk (Hy.out.below hb)
  have Hv := Hid.mk hv
  clear hv
  clear hb
  go_wp2_with fail
  refine (equal_lit [lb, lc] Hv.out (by decide)).mono ?_
  rintro e w10 ⟨rfl, hb⟩
  replace Hg := Hid.mk (Hg.out.below hb)
  replace Hb := Hid.mk (Hb.out.trans (hb.mono Hb.out.size))
  replace Hy := Hid.mk (Hy.out.below hb)
  replace Hv := Hid.mk (Hv.out.below hb)
  clear hb
  clear Hv
  go_wp2_with fail
  refine (ex_in Hg.out ld G0_into (by decide)).mono ?_
  rintro e w11 ⟨v, rfl, hv, hb⟩
  replace Hg := Hid.mk (Hg.out.below hb)
  replace Hb := Hid.mk (Hb.out.trans (hb.mono Hb.out.size))
  replace Hy := Hid.mk (Hy.out.below hb)
  have Hv := Hid.mk hv
  clear hv
  clear hb
  go_wp2_with fail
  refine (equal_lit [lb, lc] Hv.out (by decide)).mono ?_
  rintro e w12 ⟨rfl, hb⟩
  replace Hg := Hid.mk (Hg.out.below hb)
  replace Hb := Hid.mk (Hb.out.trans (hb.mono Hb.out.size))
  replace Hy := Hid.mk (Hy.out.below hb)
  replace Hv := Hid.mk (Hv.out.below hb)
  clear hb
  clear Hv
  go_wp2_with fail
  refine (ex_out0 Hg.out [122, 122] G0_out2 (by decide)).mono ?_
  rintro e w13 ⟨an, cn, rfl, hb⟩
  replace Hg := Hid.mk (Hg.out.below hb)
  replace Hb := Hid.mk (Hb.out.trans (hb.mono Hb.out.size))
  replace Hy := Hid.mk (Hy.out.below hb)
  clear hb
  go_wp2_with fail
  refine (below_lit Hg.out [lb] [lb, ld] (G0_below Hg.out.ok) (by decide)).mono ?_
  rintro e w14 ⟨v, rfl, hv, hb⟩
  replace Hg := Hid.mk (Hg.out.below hb)
  replace Hb := Hid.mk (Hb.out.trans (hb.mono Hb.out.size))
  replace Hy := Hid.mk (Hy.out.below hb)
  have Hv := Hid.mk hv
  clear hv
  clear hb
  go_wp2_with fail
  refine (equal_lit [lb, ld] Hv.out (by decide)).mono ?_
  rintro e w15 ⟨rfl, hb⟩
  replace Hg := Hid.mk (Hg.out.below hb)
  replace Hb := Hid.mk (Hb.out.trans (hb.mono Hb.out.size))
  replace Hy := Hid.mk (Hy.out.below hb)
  replace Hv := Hid.mk (Hv.out.below hb)
  clear hb
  clear Hv
  go_wp2_with fail
  refine (above_lit Hg.out [ld] [la, lb, lc, ld] (G0_above Hg.out.ok) (by decide)).mono ?_
  rintro e w16 ⟨v, rfl, hv, hb⟩
  replace Hg := Hid.mk (Hg.out.below hb)
  replace Hb := Hid.mk (Hb.out.trans (hb.mono Hb.out.size))
  replace Hy := Hid.mk (Hy.out.below hb)
  have Hv := Hid.mk hv
  clear hv
  clear hb
  go_wp2_with fail
  refine (equal_lit [la, lb, lc, ld] Hv.out (by decide)).mono ?_
  rintro e w17 ⟨rfl, hb⟩
  replace Hg := Hid.mk (Hg.out.below hb)
  replace Hb := Hid.mk (Hb.out.trans (hb.mono Hb.out.size))
  replace Hy := Hid.mk (Hy.out.below hb)
  replace Hv := Hid.mk (Hv.out.below hb)
  clear hb
  clear Hv
  go_wp2_with fail
  refine (below_lit0 Hg.out [[122, 122]] (G0_below2 Hg.out.ok) (by decide)).mono ?_
  rintro e w18 ⟨an, cn, rfl, hb⟩
  replace Hg := Hid.mk (Hg.out.below hb)
  replace Hb := Hid.mk (Hb.out.trans (hb.mono Hb.out.size))
  replace Hy := Hid.mk (Hy.out.below hb)
  clear hb
  go_wp2_with fail
  refine (equal_lit [la] Hy.out (by decide)).mono ?_
  rintro e w19 ⟨rfl, hb⟩
  replace Hg := Hid.mk (Hg.out.below hb)
  replace Hb := Hid.mk (Hb.out.trans (hb.mono Hb.out.size))
  replace Hy := Hid.mk (Hy.out.below hb)
  clear hb
  clear Hy
  have HS0 := HS
  go_wp2_with fail
  refine (link_is Hg.out ld lb (by decide) (by decide) (by rw [G0_ns]; decide)).mono ?_
  rintro e w20 ⟨rfl, S1, hg, ho, hS⟩
  replace HS := Hid.mk (show ∀ k, S1 k → w.heap.size ≤ k from fun k hk => (hS k hk).elim (HS.out k) (Nat.le_trans Hb.out.size))
  replace Hb := Hid.mk (below_only Hb.out ho HS0.out)
  replace Hg := Hid.mk (show IsGraph S1 w20 p G1 from hg)
  clear hg ho hS HS0
  go_wp2_with fail
  refine (ex_order_none Hg.out G1_order).mono ?_
  rintro e w21 ⟨an, cn, rfl, hb⟩
  replace Hg := Hid.mk (Hg.out.below hb)
  replace Hb := Hid.mk (Hb.out.trans (hb.mono Hb.out.size))
  clear hb
  go_wp2_with fail
  refine (ex_cycle_some Hg.out G1_cycle).mono ?_
  rintro e w22 ⟨vc, rfl, hv, hb⟩
  replace Hg := Hid.mk (Hg.out.below hb)
  replace Hb := Hid.mk (Hb.out.trans (hb.mono Hb.out.size))
  have Hc := Hid.mk hv
  clear hv
  clear hb
  go_wp2_with fail
  refine (equal_lit [lb, ld] Hc.out (by decide)).mono ?_
  rintro e w23 ⟨rfl, hb⟩
  replace Hg := Hid.mk (Hg.out.below hb)
  replace Hb := Hid.mk (Hb.out.trans (hb.mono Hb.out.size))
  replace Hc := Hid.mk (Hc.out.below hb)
  clear hb
  clear Hc
  have HS0 := HS
  go_wp2_with fail
  refine (link_is Hg.out lc lc (by decide) (by decide) (by decide +kernel)).mono ?_
  rintro e w24 ⟨rfl, S1, hg, ho, hS⟩
  replace HS := Hid.mk (show ∀ k, S1 k → w.heap.size ≤ k from fun k hk => (hS k hk).elim (HS.out k) (Nat.le_trans Hb.out.size))
  replace Hb := Hid.mk (below_only Hb.out ho HS0.out)
  replace Hg := Hid.mk (show IsGraph S1 w24 p G2 from hg)
  clear hg ho hS HS0
  go_wp2_with fail
  refine (ex_cycle_some Hg.out G2_cycle).mono ?_
  rintro e w25 ⟨vc2, rfl, hv, hb⟩
  replace Hg := Hid.mk (Hg.out.below hb)
  replace Hb := Hid.mk (Hb.out.trans (hb.mono Hb.out.size))
  have Hc := Hid.mk hv
  clear hv
  clear hb
  go_wp2_with fail
  refine (way_nil _ _ _).mono ?_
  rintro e w26 ⟨rfl, rfl⟩
  go_wp2_with fail
  refine (equal_lit [lc] Hc.out (by decide)).mono ?_
  rintro e w27 ⟨rfl, hb⟩
  replace Hg := Hid.mk (Hg.out.below hb)
  replace Hb := Hid.mk (Hb.out.trans (hb.mono Hb.out.size))
  replace Hc := Hid.mk (Hc.out.below hb)
  clear hb
  clear Hc
  go_wp2_with fail
  refine (add_nil_lit _).mono ?_
  rintro e w28 ⟨rfl, hb⟩
  replace Hg := Hid.mk (Hg.out.below hb)
  replace Hb := Hid.mk (Hb.out.trans (hb.mono Hb.out.size))
  clear hb
  go_wp2_with fail
  refine (link_nil _ _ _).mono ?_
  rintro e w29 ⟨rfl, hb⟩
  replace Hg := Hid.mk (Hg.out.below hb)
  replace Hb := Hid.mk (Hb.out.trans (hb.mono Hb.out.size))
  clear hb
  go_wp2_with fail
  refine (has_nil _ _).mono ?_
  rintro e w30 ⟨rfl, rfl⟩
  go_wp2_with fail
  refine (names_nil _).mono ?_
  rintro e w31 ⟨rfl, rfl⟩
  go_wp2_with fail
  refine (edges_nil0 _).mono ?_
  rintro e w32 ⟨an, cn, rfl, hb⟩
  replace Hg := Hid.mk (Hg.out.below hb)
  replace Hb := Hid.mk (Hb.out.trans (hb.mono Hb.out.size))
  clear hb
  go_wp2_with fail
  refine (out_nil _ _).mono ?_
  rintro e w33 ⟨rfl, rfl⟩
  go_wp2_with fail
  refine (in_nil _ _).mono ?_
  rintro e w34 ⟨rfl, rfl⟩
  go_wp2_with fail
  refine (below_nil_lit _).mono ?_
  rintro e w35 ⟨rfl, hb⟩
  replace Hg := Hid.mk (Hg.out.below hb)
  replace Hb := Hid.mk (Hb.out.trans (hb.mono Hb.out.size))
  clear hb
  go_wp2_with fail
  refine (above_nil_lit _).mono ?_
  rintro e w36 ⟨rfl, hb⟩
  replace Hg := Hid.mk (Hg.out.below hb)
  replace Hb := Hid.mk (Hb.out.trans (hb.mono Hb.out.size))
  clear hb
  go_wp2_with fail
  refine (turn_nil _).mono ?_
  rintro e w37 ⟨rfl, rfl⟩
  go_wp2
  go_ret
  exact ⟨rfl, Hb.out⟩

end Go.Proofs.Ytiinmmgknlnkaaa
