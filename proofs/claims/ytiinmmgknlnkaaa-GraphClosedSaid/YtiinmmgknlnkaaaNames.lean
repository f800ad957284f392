/-
  A map's keys, sorted; graph.Names, graph.Out, graph.In.
-/
import Derived.Test.YtiinmmgknlnkaaaNew
import Derived.Test.YtiinmmgknlnkaaaIter
namespace Go.Proofs.Ytiinmmgknlnkaaa
open Go.RowKit Go.Maps
open Go.ChangeMaps (setBlock)

/-- v is a slice of the call's own that holds the texts l. -/
def OwnStrs (w : World) (base : Nat) (v : Value) (l : List Str) : Prop := w.ownsRow base 9 1 v l.length (l.map strV)

theorem OwnStrs.base {w : World} {b b' : Nat} {v : Value} {l : List Str} (h : OwnStrs w b v l) (hb : b' ≤ b) : OwnStrs w b' v l := by
  obtain ⟨h1, h2 | ⟨g, cap, cur, hv, hg, h3⟩⟩ := h
  · exact ⟨h1, .inl h2⟩
  · exact ⟨h1, .inr ⟨g, cap, cur, hv, Nat.le_trans hb hg, h3⟩⟩

theorem OwnStrs.nil (w : World) (b : Nat) : OwnStrs w b (.slice none 0 0) [] := ⟨rfl, .inl ⟨rfl, rfl⟩⟩

theorem OwnStrs.shape {w : World} {b : Nat} {v : Value} {l : List Str} (h : OwnStrs w b v l) :
    (v = .slice none 0 0 ∧ l = []) ∨ ∃ g cap, v = .slice (some ⟨g, 0, none⟩) l.length cap ∧ b ≤ g ∧ g < w.heap.size ∧ ∀ i (h : i < l.length), w.cell? ⟨g, i, none⟩ = some (strV l[i]) := by
  obtain ⟨h1, ⟨hv, h2⟩ | ⟨g, cap, cur, hv, hg, hb, hn, hm, hs, ht⟩⟩ := h
  · exact .inl ⟨hv, List.eq_nil_of_length_eq_zero h2⟩
  · refine .inr ⟨g, cap, hv, hg, (Array.getElem?_eq_some_iff.1 hb).1, fun i hi => ?_⟩
    have h4 : (l.map strV)[i]? = some (strV l[i]) := by simp [hi]
    rw [← ht, List.getElem?_take_of_lt (by omega)] at h4
    have h5 : cur[i]? = some (strV l[i]) := by rw [← Array.getElem?_toList]; exact h4
    simp [World.cell?, hb, h5]

theorem OwnStrs.at {w : World} {b : Nat} {v : Value} {l : List Str} (h : OwnStrs w b v l) : ∃ a cap, v = .slice a l.length cap ∧ StrsAt w a l := by
  rcases h.shape with ⟨rfl, rfl⟩ | ⟨g, cap, rfl, _, _, hc⟩
  · exact ⟨none, 0, rfl, .inl rfl⟩
  · exact ⟨_, cap, rfl, .inr ⟨g, 0, rfl, fun i hi => by simpa using hc i hi⟩⟩

theorem OwnStrs.below {w w' : World} {b : Nat} {v : Value} {l : List Str} (h : OwnStrs w b v l) (hb : Below w.heap.size w w') : OwnStrs w' b v l := by
  obtain ⟨h1, h2 | ⟨g, cap, cur, hv, hg, hc, h3⟩⟩ := h
  · exact ⟨h1, .inl h2⟩
  · exact ⟨h1, .inr ⟨g, cap, cur, hv, hg, (hb.block g (Array.getElem?_eq_some_iff.1 hc).1).trans hc, h3⟩⟩

theorem OwnStrs.only {S : Nat → Prop} {w w' : World} {b : Nat} {v : Value} {l : List Str} (h : OwnStrs w b v l) (ho : Only S w w') (hS : ∀ k, S k → ∃ es c, w.heap[k]? = some (.map es c)) : OwnStrs w' b v l := by
  obtain ⟨h1, h2 | ⟨g, cap, cur, hv, hg, hc, h3⟩⟩ := h
  · exact ⟨h1, .inl h2⟩
  · refine ⟨h1, .inr ⟨g, cap, cur, hv, hg, (ho.block g (Array.getElem?_eq_some_iff.1 hc).1 fun hk => ?_).trans hc, h3⟩⟩
    obtain ⟨es, c, he⟩ := hS g hk
    rw [hc] at he
    cases he

/-- What comes back is a new slice of the texts l; nothing that was there has changed. -/
def Strs (l : List Str) (w : World) (e : Ending) (w' : World) : Prop := ∃ v, e = .returned v ∧ OwnStrs w' w.heap.size v l ∧ Below w.heap.size w w'

section
variable {α : Type} {E : Elem α} {w : World} {b n : Nat} {f : Str → Option α} {l : List Str}

theorem sorted_perm {D : DataW Unit} (ho : w.ownsMap Try.prog 9 E.R b n D) (h1 : ∀ x, Maps.has D (.string x) = (f x).isSome) (hl : KeysAre f l) (hr : Rising l) {ss : List Str} (hp : ss.Perm (strKeys D)) :
    ss.length = l.length ∧ ss.mergeSort (fun x y => decide (x ≤ y)) = l := by
  have h2 := perm_keys ho Try.underlying9 h1 hl
  have h3 : ss.Perm l := hp.trans h2.symm
  exact ⟨h3.length_eq, sort_rising hr h3⟩

theorem size_small {D : DataW Unit} (ho : w.ownsMap Try.prog 9 E.R b n D) (h1 : ∀ x, Maps.has D (.string x) = (f x).isSome) (hl : KeysAre f l) : Maps.size D = l.length := by
  rw [(perm_keys ho Try.underlying9 h1 hl).length_eq, size_strKeys]
end

set_option maxHeartbeats 1000000 in
theorem sortedM_is {α : Type} {E : Elem α} {w : World} {b n : Nat} {f : Str → Option α} {l : List Str} (h : MapG Try.prog 9 E w b n f) (hl : KeysAre f l) (hr : Rising l) (hs : l.length ≤ 1048576) :
    Calls Try.prog 29 #[.map (some b)] w (Strs l w) := by
  obtain ⟨D, ho, h1, h2⟩ := h
  have hsz := size_small ho h1 hl
  have hK := Hid.mk ((callsIn_wide (n := 5)).1 (Try.maps_Keys_41 (some b) w))
  have hS := Hid.mk ((callsIn_wide (n := 5)).1 (Try.slices_Sorted_keys_40_41 b n D E.R w ho (by rw [hsz]; unfold maxLen; omega) (by rw [hsz]; omega)))
  have hp := Hid.mk (fun (ss : List Str) (hp : ss.Perm (strKeys D)) => sorted_perm ho h1 hl hr hp)
  clear h1 h2 ho hsz hl hr hs
  go_enter Try.func29, Try.ntmps29
  go_wp2_with fail
  refine hK.out.mono ?_
  rintro e w' ⟨rfl, rfl⟩
  go_wp2_with fail
  refine hS.out.mono ?_
  rintro e w' ⟨v, ss, rfl, hperm, hrow, hnil, hb⟩
  have hrow2 : OwnStrs w' w.heap.size v l := by
    obtain ⟨e1, e2⟩ := hp.out ss hperm
    rw [e1, e2] at hrow
    exact OwnStrs.base hrow (by simp)
  have hfin := Hid.mk (show Strs l w (.returned v) w' from ⟨v, rfl, hrow2, ((Below.refl _ w).alloc (Nat.le_refl _) _).trans (hb.mono (by simp))⟩)
  clear hrow2 hrow hnil hb hperm hp hS hK
  go_wp2
  go_ret
  exact hfin.out

set_option maxHeartbeats 1000000 in
theorem sortedB_is {α : Type} {E : Elem α} {w : World} {b n : Nat} {f : Str → Option α} {l : List Str} (h : MapG Try.prog 9 E w b n f) (hl : KeysAre f l) (hr : Rising l) (hs : l.length ≤ 1048576) :
    Calls Try.prog 30 #[.map (some b)] w (Strs l w) := by
  obtain ⟨D, ho, h1, h2⟩ := h
  have hsz := size_small ho h1 hl
  have hK := Hid.mk ((callsIn_wide (n := 5)).1 (Try.maps_Keys_42 (some b) w))
  have hS := Hid.mk ((callsIn_wide (n := 5)).1 (Try.slices_Sorted_keys_40_42 b n D E.R w ho (by rw [hsz]; unfold maxLen; omega) (by rw [hsz]; omega)))
  have hp := Hid.mk (fun (ss : List Str) (hp : ss.Perm (strKeys D)) => sorted_perm ho h1 hl hr hp)
  clear h1 h2 ho hsz hl hr hs
  go_enter Try.func30, Try.ntmps30
  go_wp2_with fail
  refine hK.out.mono ?_
  rintro e w' ⟨rfl, rfl⟩
  go_wp2_with fail
  refine hS.out.mono ?_
  rintro e w' ⟨v, ss, rfl, hperm, hrow, hnil, hb⟩
  have hrow2 : OwnStrs w' w.heap.size v l := by
    obtain ⟨e1, e2⟩ := hp.out ss hperm
    rw [e1, e2] at hrow
    exact OwnStrs.base hrow (by simp)
  have hfin := Hid.mk (show Strs l w (.returned v) w' from ⟨v, rfl, hrow2, ((Below.refl _ w).alloc (Nat.le_refl _) _).trans (hb.mono (by simp))⟩)
  clear hrow2 hrow hnil hb hperm hp hS hK
  go_wp2
  go_ret
  exact hfin.out

set_option maxHeartbeats 1000000 in
theorem sortedB_nil {w : World} : Calls Try.prog 30 #[.map none] w (Strs [] w) := by
  have hK := Hid.mk ((callsIn_wide (n := 5)).1 (Try.maps_Keys_42 none w))
  have hS := Hid.mk ((callsIn_wide (n := 5)).1 (Try.slices_Sorted_keys_nil_40_42 w))
  go_enter Try.func30, Try.ntmps30
  go_wp2_with fail
  refine hK.out.mono ?_
  rintro e w' ⟨rfl, rfl⟩
  go_wp2_with fail
  refine hS.out.mono ?_
  rintro e w' ⟨v, ss, rfl, rfl, hrow, hnil, hb⟩
  have hfin := Hid.mk (show Strs [] w (.returned v) w' from ⟨v, rfl, OwnStrs.base (b := (w.alloc (.cells #[.map none] 57)).heap.size) (by rw [List.mergeSort_of_pairwise List.Pairwise.nil] at hrow; exact hrow) (by simp), ((Below.refl _ w).alloc (Nat.le_refl _) _).trans (hb.mono (by simp))⟩)
  clear hrow hnil hb hS hK
  go_wp2
  go_ret
  exact hfin.out

set_option maxHeartbeats 1000000 in
theorem sortedI_is {α : Type} {E : Elem α} {w : World} {b n : Nat} {f : Str → Option α} {l : List Str} (h : MapG Try.prog 9 E w b n f) (hl : KeysAre f l) (hr : Rising l) (hs : l.length ≤ 1048576) :
    Calls Try.prog 32 #[.map (some b)] w (Strs l w) := by
  obtain ⟨D, ho, h1, h2⟩ := h
  have hsz := size_small ho h1 hl
  have hK := Hid.mk ((callsIn_wide (n := 5)).1 (Try.maps_Keys_44 (some b) w))
  have hS := Hid.mk ((callsIn_wide (n := 5)).1 (Try.slices_Sorted_keys_40_44 b n D E.R w ho (by rw [hsz]; unfold maxLen; omega) (by rw [hsz]; omega)))
  have hp := Hid.mk (fun (ss : List Str) (hp : ss.Perm (strKeys D)) => sorted_perm ho h1 hl hr hp)
  clear h1 h2 ho hsz hl hr hs
  go_enter Try.func32, Try.ntmps32
  go_wp2_with fail
  refine hK.out.mono ?_
  rintro e w' ⟨rfl, rfl⟩
  go_wp2_with fail
  refine hS.out.mono ?_
  rintro e w' ⟨v, ss, rfl, hperm, hrow, hnil, hb⟩
  have hrow2 : OwnStrs w' w.heap.size v l := by
    obtain ⟨e1, e2⟩ := hp.out ss hperm
    rw [e1, e2] at hrow
    exact OwnStrs.base hrow (by simp)
  have hfin := Hid.mk (show Strs l w (.returned v) w' from ⟨v, rfl, hrow2, ((Below.refl _ w).alloc (Nat.le_refl _) _).trans (hb.mono (by simp))⟩)
  clear hrow2 hrow hnil hb hperm hp hS hK
  go_wp2
  go_ret
  exact hfin.out

theorem keys_nodes {G : Gr} (h : G.ok) (s : Str → Nat) : KeysAre (nodeMap G s) G.ns := ⟨h.rise.nodup, fun x => by simp only [nodeMap]; split <;> simp_all⟩
theorem keys_out {G : Gr} (h : G.ok) (x : Str) : KeysAre (outMap G x) (G.out x) := ⟨(h.out_rising x).nodup, fun y => by rw [h.mem_out]; simp only [outMap]; split <;> simp_all⟩
theorem keys_into {G : Gr} (h : G.ok) (x : Str) : KeysAre (inMap G x) (G.into x) := ⟨(h.into_rising x).nodup, fun y => by rw [h.mem_into]; simp only [inMap]; split <;> simp_all⟩
theorem few_out {G : Gr} (h : G.ok) (x : Str) : (G.out x).length ≤ 1048576 := Nat.le_trans (List.length_filter_le _ _) h.few
theorem few_into {G : Gr} (h : G.ok) (x : Str) : (G.into x).length ≤ 1048576 := Nat.le_trans (List.length_filter_le _ _) h.few
theorem out_none {G : Gr} (h : G.ok) {x : Str} (hx : x ∉ G.ns) : G.out x = [] := by
  refine List.filter_eq_nil_iff.2 fun y _ he => hx (h.ends x y he).1
theorem into_none {G : Gr} (h : G.ok) {x : Str} (hx : x ∉ G.ns) : G.into x = [] := by
  refine List.filter_eq_nil_iff.2 fun y _ he => hx (h.ends y x he).2

set_option maxHeartbeats 1000000 in
theorem names_is {S : Nat → Prop} {w : World} {p : Nat} {G : Gr} (h : IsGraph S w p G) : Calls Try.prog 11 #[ptr p] w (Strs G.ns w) := by
  obtain ⟨bo, bi, so, si, hg, hS⟩ := h
  have c0 := hg.cell0
  have hs := Hid.mk (sortedM_is hg.mo (keys_nodes hg.ok so) hg.ok.rise hg.ok.few)
  clear hS hg
  go_enter Try.func11, Try.ntmps11
  go_wp2_with fail
  refine hs.out.mono ?_
  rintro e w' ⟨v, rfl, hrow, hb⟩
  have hfin := Hid.mk (show Strs G.ns w (.returned v) w' from ⟨v, rfl, hrow, hb⟩)
  clear hrow hb hs
  go_wp2
  go_ret
  exact hfin.out

theorem names_nil (w : World) : Calls Try.prog 11 #[.pointer none] w fun e w' => e = .returned (.slice none 0 0) ∧ w = w' := by
  go_enter Try.func11, Try.ntmps11
  go_wp2
  go_ret
  exact ⟨rfl, rfl⟩

set_option maxHeartbeats 1000000 in
theorem out_is {S : Nat → Prop} {w : World} {p : Nat} {G : Gr} (h : IsGraph S w p G) (x : Str) (hx : x.length ≤ maxLen) : Calls Try.prog 12 #[ptr p, strV x] w (Strs (G.out x) w) := by
  obtain ⟨bo, bi, so, si, hg, hS⟩ := h
  have c0 := hg.cell0
  by_cases hm : x ∈ G.ns
  · have hl : (Instr.lookup 47 (.map (some bo)) (strV x) false).run Try.prog w = .ok (.map (some (so x))) w := hg.mo.look_some Try.underlying9 Try.underlying47 (zeroSet w) hx (a := so x) (by simp [nodeMap, hm])
    have hs := Hid.mk (sortedB_is (hg.eo x hm) (keys_out hg.ok x) (hg.ok.out_rising x) (few_out hg.ok x))
    clear hS hg hm
    go_enter Try.func12, Try.ntmps12
    go_wp2_with fail
    refine hs.out.mono ?_
    rintro e w' ⟨v, rfl, hrow, hb⟩
    have hfin := Hid.mk (show Strs (G.out x) w (.returned v) w' from ⟨v, rfl, hrow, hb⟩)
    clear hrow hb hs
    go_wp2
    go_ret
    exact hfin.out
  · have hl : (Instr.lookup 47 (.map (some bo)) (strV x) false).run Try.prog w = .ok (.map none) w := hg.mo.look_none Try.underlying9 Try.underlying47 (zeroSet w) hx (by simp [nodeMap, hm])
    have hs := Hid.mk (sortedB_nil (w := w))
    have ho := Hid.mk (out_none hg.ok hm)
    clear hS hg hm
    go_enter Try.func12, Try.ntmps12
    go_wp2_with fail
    refine hs.out.mono ?_
    rintro e w' ⟨v, rfl, hrow, hb⟩
    have hfin := Hid.mk (show Strs (G.out x) w (.returned v) w' from ⟨v, rfl, by rw [ho.out]; exact hrow, hb⟩)
    clear hrow hb hs
    go_wp2
    go_ret
    exact hfin.out

set_option maxHeartbeats 1000000 in
theorem in_is {S : Nat → Prop} {w : World} {p : Nat} {G : Gr} (h : IsGraph S w p G) (x : Str) (hx : x.length ≤ maxLen) : Calls Try.prog 13 #[ptr p, strV x] w (Strs (G.into x) w) := by
  obtain ⟨bo, bi, so, si, hg, hS⟩ := h
  have c0 := hg.cell1
  by_cases hm : x ∈ G.ns
  · have hl : (Instr.lookup 47 (.map (some bi)) (strV x) false).run Try.prog w = .ok (.map (some (si x))) w := hg.mi.look_some Try.underlying9 Try.underlying47 (zeroSet w) hx (a := si x) (by simp [nodeMap, hm])
    have hs := Hid.mk (sortedB_is (hg.ei x hm) (keys_into hg.ok x) (hg.ok.into_rising x) (few_into hg.ok x))
    clear hS hg hm
    go_enter Try.func13, Try.ntmps13
    go_wp2_with fail
    refine hs.out.mono ?_
    rintro e w' ⟨v, rfl, hrow, hb⟩
    have hfin := Hid.mk (show Strs (G.into x) w (.returned v) w' from ⟨v, rfl, hrow, hb⟩)
    clear hrow hb hs
    go_wp2
    go_ret
    exact hfin.out
  · have hl : (Instr.lookup 47 (.map (some bi)) (strV x) false).run Try.prog w = .ok (.map none) w := hg.mi.look_none Try.underlying9 Try.underlying47 (zeroSet w) hx (by simp [nodeMap, hm])
    have hs := Hid.mk (sortedB_nil (w := w))
    have ho := Hid.mk (into_none hg.ok hm)
    clear hS hg hm
    go_enter Try.func13, Try.ntmps13
    go_wp2_with fail
    refine hs.out.mono ?_
    rintro e w' ⟨v, rfl, hrow, hb⟩
    have hfin := Hid.mk (show Strs (G.into x) w (.returned v) w' from ⟨v, rfl, by rw [ho.out]; exact hrow, hb⟩)
    clear hrow hb hs
    go_wp2
    go_ret
    exact hfin.out

theorem out_nil (x : ByteArray) (w : World) : Calls Try.prog 12 #[.pointer none, .string x] w fun e w' => e = .returned (.slice none 0 0) ∧ w = w' := by
  go_enter Try.func12, Try.ntmps12
  go_wp2
  go_ret
  exact ⟨rfl, rfl⟩
theorem in_nil (x : ByteArray) (w : World) : Calls Try.prog 13 #[.pointer none, .string x] w fun e w' => e = .returned (.slice none 0 0) ∧ w = w' := by
  go_enter Try.func13, Try.ntmps13
  go_wp2
  go_ret
  exact ⟨rfl, rfl⟩

end Go.Proofs.Ytiinmmgknlnkaaa
