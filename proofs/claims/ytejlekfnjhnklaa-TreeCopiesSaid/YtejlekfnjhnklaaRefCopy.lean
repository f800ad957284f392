/-
  The document's tree: Copy, walked.
-/
import Derived.Test.YtejlekfnjhnklaaCopy
namespace Go.Proofs.Ytejlekfnjhnklaa
open Go.RowKit Go.Maps

/-- 'append([]File{}, files...)' -/
theorem appF_ex {w wc : World} {g : Nat} {x : Value} {fs : FileL} (hb : Below w.heap.size w wc) (hx : IsPairs w x fs) (hg : wc.heap[g]? = some (.cells #[] 62 (0, 0))) (hge : w.heap.size ≤ g) (hl : fs.length ≤ 100000) :
    ∃ v' w', (Builtin.append_ #[34, 34] 34 #[.slice (some ⟨g, 0, none⟩) 0 0, x]).run Try.prog wc = .ok v' w' ∧ OwnPairs 62 w' w.heap.size v' fs ∧ Below w.heap.size w w' ∧ wc.grownBy w' (some g) := by
  have hown : OwnPairs 62 wc w.heap.size (.slice (some ⟨g, 0, none⟩) 0 0) [] := ⟨rfl, .inr ⟨g, 0, #[], rfl, hge, hg, Nat.le_refl _, by decide, rfl, rfl⟩⟩
  obtain ⟨v', w', hr, ho, hgr, _⟩ := run_appPs Try.underlying34 infoFile wc w.heap.size _ x [] fs hown (hx.below hb) (by simp; omega) hb.size
  exact ⟨v', w', hr, by simpa using ho, below_appP (e := 62) hb hown (Nat.le_refl _) hgr, hgr⟩

/-- 'append([]string{}, changes...)' -/
theorem appC_ex {w wc : World} {g : Nat} {x : Value} {l : List Str} (hb : Below w.heap.size w wc) (hx : IsStrs w x l) (hg : wc.heap[g]? = some (.cells #[] 9 (0, 0))) (hge : w.heap.size ≤ g) (hl : l.length ≤ 1000000) :
    ∃ v' w', (Builtin.append_ #[35, 35] 35 #[.slice (some ⟨g, 0, none⟩) 0 0, x]).run Try.prog wc = .ok v' w' ∧ OwnStrs w' w.heap.size v' l ∧ Below w.heap.size w w' ∧ wc.grownBy w' (some g) := by
  have hown : OwnStrs wc w.heap.size (.slice (some ⟨g, 0, none⟩) 0 0) [] := ⟨rfl, .inr ⟨g, 0, #[], rfl, hge, hg, Nat.le_refl _, by decide, rfl, rfl⟩⟩
  obtain ⟨v', w', hr, ho, hgr⟩ := run_appIs wc w.heap.size _ x [] l hown (hx.below hb) (by simp; omega) hb.size
  exact ⟨v', w', hr, by simpa using ho, below_appS hb hown (Nat.le_refl _) hgr, hgr⟩

/-- What a copy of the document's tree is. -/
def RefCopyPost (w : World) (T : Tr) (e : Ending) (w' : World) : Prop := ∃ r vf vc, e = .returned (.pointer (some ⟨r, 0, none⟩)) ∧ IsRef w' 0 r vf vc T ∧ w.heap.size ≤ r ∧ (∀ k, vf.ownBlock = some k → w.heap.size ≤ k) ∧ (∀ k, vc.ownBlock = some k → w.heap.size ≤ k) ∧ Below w.heap.size w w'

theorem RefCopyPost.drew {w w' : World} {T : Tr} {e : Ending} (h : RefCopyPost w T e w') : RefCopyPost w T e w'.drew := by
  obtain ⟨r, vf, vc, h1, h2, h3, h4, h5, h6⟩ := h
  exact ⟨r, vf, vc, h1, h2.below ⟨rfl, rfl, rfl, Nat.le_refl _, fun _ _ => rfl⟩, h3, h4, h5, h6.drew⟩

/-- The files keep their row while the changes get theirs. -/
theorem ref_built {w wF wC : World} {vf vc : Value} {T : Tr} {gB : Nat} (hF : OwnPairs 62 wF w.heap.size vf T.fs) (hC : OwnStrs wC w.heap.size vc T.ch) (hb : Below w.heap.size w wC) (hgr : wF.grownBy wC (some gB)) (hne : vf.ownBlock ≠ some gB) :
    RefCopyPost w T (.returned (.pointer (some ⟨wC.heap.size, 0, none⟩))) (wC.alloc (.cells #[vf, vc] 37)) := by
  have hF2 : OwnPairs 62 wC w.heap.size vf T.fs := ownsRow_same hF fun k hk => by
    obtain ⟨_, c, hc⟩ := ownsRow_type hF hk
    exact hgr.block k (Array.getElem?_eq_some_iff.1 hc).1 (fun e => hne (by rw [hk, e]))
  refine ⟨wC.heap.size, vf, vc, rfl, ⟨Nat.zero_le _, heap_alloc_new _ _, (OwnPairs.base (World.ownsRow.alloc hF2 _) (Nat.zero_le _)), OwnStrs.base (World.ownsRow.alloc hC _) (Nat.zero_le _)⟩, hb.size, fun k hk => (ownsRow_type hF hk).1, fun k hk => (ownsRow_type hC hk).1, hb.alloc hb.size _⟩

theorem other_row {w : World} {b : Nat} {v : Value} {fs : FileL} {g : Nat} (h : OwnPairs 62 w b v fs) (hg : w.heap[g]? = some (.cells #[] 9 (0, 0))) : v.ownBlock ≠ some g := fun e => by
  obtain ⟨_, c, hc⟩ := ownsRow_type h e
  rw [hg] at hc
  simp at hc

abbrev bF : Obj := .cells #[] 62 (0, 0)
abbrev bC : Obj := .cells #[] 9 (0, 0)

set_option maxHeartbeats 8000000 in
set_option maxRecDepth 100000 in
theorem refCopy_is {w : World} {r : Nat} {vf vc : Value} {T : Tr} (h : IsRef w 0 r vf vc T) (hl : T.fs.length ≤ 100000) (hch : T.ch.length ≤ 1000000) : Calls Try.prog 21 #[.pointer (some ⟨r, 0, none⟩)] w (RefCopyPost w T) := by
  have c0 := h.cell0
  have c1 := h.cell1
  have hfi := h.files.is
  have hci := h.chs.is
  have hb1F : Below w.heap.size w (w.alloc bF) := (Below.refl _ _).alloc (Nat.le_refl _) _
  have hb2F : Below w.heap.size w ((w.alloc bF).alloc bC) := hb1F.alloc hb1F.size _
  have hb2C : Below w.heap.size w ((w.alloc bC).alloc bF) := ((Below.refl _ _).alloc (Nat.le_refl _) _).alloc (by simp) _
  have hnewC : ((w.alloc bF).alloc bC).drew.heap[w.heap.size + 1]? = some bC := by
    rw [← World.size_alloc w bF]
    exact heap_alloc_new _ _
  have hnewF : ((w.alloc bC).alloc bF).drew.heap[w.heap.size + 1]? = some bF := by
    rw [← World.size_alloc w bC]
    exact heap_alloc_new _ _
  clear h
  go_enter Try.func21, Try.ntmps21
  go_wp2
  refine wp_region_held_drew (S := fun w' => w'.cell? ⟨r, 0, none⟩ = some vf ∧ w'.cell? ⟨r, 1, none⟩ = some vc) (by kernel_rfl) ?_ (fun hHeld => ?_)
  · exact ⟨c0, c1⟩
  · refine wpAnyH_take (i := 1) (oi := _) (v := .pointer (some ⟨r, 0, none⟩)) rfl (by kernel_rfl) (by kernel_rfl) (by kernel_rfl) (fun _ _ _ h => h) (Or.inl ⟨by rfl, by intro w hSw; go_simp⟩) (by assumption) ?_
    simp only [Act.put, List.getElem_toArray, List.getElem_cons_zero, List.getElem_cons_succ, List.setIfInBounds_toArray, List.set_cons_zero, List.set_cons_succ]
    refine wpAnyH_take (i := 2) (oi := _) (v := .pointer (some ⟨r, 0, none⟩)) rfl (by kernel_rfl) (by kernel_rfl) (by kernel_rfl) (fun _ _ _ h => h) (Or.inl ⟨by rfl, by intro w hSw; go_simp⟩) (by assumption) ?_
    simp only [Act.put, List.getElem_toArray, List.getElem_cons_zero, List.getElem_cons_succ, List.setIfInBounds_toArray, List.set_cons_zero, List.set_cons_succ]
    refine wpAnyH_take (i := 3) (oi := _) (v := .pointer (some ⟨r, 0, none⟩)) rfl (by kernel_rfl) (by kernel_rfl) (by kernel_rfl) (fun _ _ _ h => h) (Or.inl ⟨by rfl, by intro w hSw; go_simp⟩) (by assumption) ?_
    simp only [Act.put, List.getElem_toArray, List.getElem_cons_zero, List.getElem_cons_succ, List.setIfInBounds_toArray, List.set_cons_zero, List.set_cons_succ]
    refine wpAnyH_take (i := 4) (oi := _) (v := vf) rfl (by kernel_rfl) (by kernel_rfl) (by kernel_rfl) (fun _ _ _ h => h) (Or.inl ⟨by rfl, by intro w hSw; go_simp⟩) (by assumption) ?_
    simp only [Act.put, List.getElem_toArray, List.getElem_cons_zero, List.getElem_cons_succ, List.setIfInBounds_toArray, List.set_cons_zero, List.set_cons_succ]
    refine wpAnyH_take (i := 7) (oi := _) (v := .pointer (some ⟨r, 0, none⟩)) rfl (by kernel_rfl) (by kernel_rfl) (by kernel_rfl) (fun _ _ _ h => h) (Or.inl ⟨by rfl, by intro w hSw; go_simp⟩) (by assumption) ?_
    simp only [Act.put, List.getElem_toArray, List.getElem_cons_zero, List.getElem_cons_succ, List.setIfInBounds_toArray, List.set_cons_zero, List.set_cons_succ]
    refine wpAnyH_take (i := 8) (oi := _) (v := .pointer (some ⟨r, 0, none⟩)) rfl (by kernel_rfl) (by kernel_rfl) (by kernel_rfl) (fun _ _ _ h => h) (Or.inl ⟨by rfl, by intro w hSw; go_simp⟩) (by assumption) ?_
    simp only [Act.put, List.getElem_toArray, List.getElem_cons_zero, List.getElem_cons_succ, List.setIfInBounds_toArray, List.set_cons_zero, List.set_cons_succ]
    refine wpAnyH_take (i := 9) (oi := _) (v := .pointer (some ⟨r, 1, none⟩)) rfl (by kernel_rfl) (by kernel_rfl) (by kernel_rfl) (fun _ _ _ h => h) (Or.inl ⟨by rfl, by intro w hSw; go_simp⟩) (by assumption) ?_
    simp only [Act.put, List.getElem_toArray, List.getElem_cons_zero, List.getElem_cons_succ, List.setIfInBounds_toArray, List.set_cons_zero, List.set_cons_succ]
    refine wpAnyH_take (i := 10) (oi := _) (v := vc) rfl (by kernel_rfl) (by kernel_rfl) (by kernel_rfl) (fun _ _ _ h => h) (Or.inl ⟨by rfl, by intro w hSw; go_simp⟩) (by assumption) ?_
    simp only [Act.put, List.getElem_toArray, List.getElem_cons_zero, List.getElem_cons_succ, List.setIfInBounds_toArray, List.set_cons_zero, List.set_cons_succ]
    refine wpAnyH_ready (rs := [0, 6]) (by kernel_rfl) (by simp) ?_
    refine AllReadyH.cons (o := _) rfl (fun K hK => ?_) (AllReadyH.cons (o := _) rfl (fun K hK => ?_) AllReadyH.nil)
    · go_simp
      refine hK.out _ _ ⟨cell_alloc' _ c0, cell_alloc' _ c1⟩ (fun hHeld => ?_)
      clear hK K
      refine wpAnyH_ready (rs := [5, 6]) (by kernel_rfl) (by simp) ?_
      refine AllReadyH.cons (o := _) rfl (fun K hK => ?_) (AllReadyH.cons (o := _) rfl (fun K hK => ?_) AllReadyH.nil)
      · skip
        obtain ⟨vF, wF, hrF, hF, hbF, hgF⟩ := appF_ex (w := w) (wc := (w.alloc bF).drew) (g := w.heap.size) (hb1F.drew) hfi (heap_alloc_new _ _) (by omega) hl
        obtain ⟨aF, cF, rfl, _⟩ := hF.is
        refine step_append_run rfl _ _ _ rfl rfl rfl rfl hrF ?_
        refine hK.out _ _ ⟨cell_block c0 (hbF.block _ (cell_lt c0)), cell_block c1 (hbF.block _ (cell_lt c1))⟩ (fun hHeld => ?_)
        clear hK K hrF
        simp only [Act.put, List.setIfInBounds_toArray, List.set_cons_zero, List.set_cons_succ]
        refine wpAnyH_ready (rs := [6]) (by kernel_rfl) (by simp) ?_
        refine AllReadyH.cons (o := _) rfl (fun K hK => ?_) AllReadyH.nil
        go_simp
        refine hK.out _ _ ⟨cell_alloc' _ (cell_block c0 (hbF.block _ (cell_lt c0))), cell_alloc' _ (cell_block c1 (hbF.block _ (cell_lt c1)))⟩ (fun hHeld => ?_)
        clear hK K
        have hszF := hbF.size
        have hgB : (wF.alloc bC).heap[wF.heap.size]? = some (.cells #[] 9 (0, 0)) := heap_alloc_new _ _
        have hbw : Below w.heap.size w (wF.alloc bC) := hbF.alloc hbF.size _
        have hFw : OwnPairs 62 (wF.alloc bC) w.heap.size (.slice aF T.fs.length cF) T.fs := World.ownsRow.alloc hF _
        obtain ⟨vC, wC, hrC, hC, hbC, hgC⟩ := appC_ex hbw hci hgB (by omega) hch
        obtain ⟨aC, cC, rfl, _⟩ := hC.open
        have hend := Hid.mk (ref_built hFw hC hbC hgC (other_row hFw hgB))
        refine wpAnyH_ready (rs := [11]) (by kernel_rfl) (by simp) ?_
        refine AllReadyH.cons (o := _) rfl (fun K hK => ?_) AllReadyH.nil
        refine step_append_run rfl _ _ _ rfl rfl rfl rfl hrC ?_
        refine hK.out _ _ ⟨cell_block c0 (hbC.block _ (cell_lt c0)), cell_block c1 (hbC.block _ (cell_lt c1))⟩ (fun hHeld => ?_)
        clear hK K hrC hgB hbw hFw hgC hC
        simp only [Act.put, List.setIfInBounds_toArray, List.set_cons_zero, List.set_cons_succ]
        refine wpAnyH_ready (rs := [12]) (by kernel_rfl) (by simp) ?_
        refine AllReadyH.cons (o := _) rfl (fun K hK => ?_) AllReadyH.nil
        go_simp
        refine hK.out _ _ ⟨cell_block c0 (hbC.block _ (cell_lt c0)), cell_block c1 (hbC.block _ (cell_lt c1))⟩ (fun hHeld => ?_)
        clear hK K
        refine wpAnyH_ready (rs := [13]) (by kernel_rfl) (by simp) ?_
        refine AllReadyH.cons (o := _) rfl (fun K hK => ?_) AllReadyH.nil
        go_simp
        refine hK.out _ _ ⟨cell_alloc' _ (cell_block c0 (hbC.block _ (cell_lt c0))), cell_alloc' _ (cell_block c1 (hbC.block _ (cell_lt c1)))⟩ (fun hHeld => ?_)
        clear hK K
        refine wpAnyH_ready (rs := [14]) (by kernel_rfl) (by simp) ?_
        refine AllReadyH.cons (o := _) rfl (fun K hK => ?_) AllReadyH.nil
        go_simp
        refine hK.out _ _ ⟨cell_alloc' _ (cell_block c0 (hbC.block _ (cell_lt c0))), cell_alloc' _ (cell_block c1 (hbC.block _ (cell_lt c1)))⟩ (fun hHeld => ?_)
        clear hK K
        refine wpAnyH_done (by kernel_rfl) ?_ _
        go_wp2
        go_ret
        exact hend.out
      · go_simp
        refine hK.out _ _ ⟨cell_alloc' _ (cell_alloc' _ c0), cell_alloc' _ (cell_alloc' _ c1)⟩ (fun hHeld => ?_)
        clear hK K
        refine wpAnyH_ready (rs := [5]) (by kernel_rfl) (by simp) ?_
        refine AllReadyH.cons (o := _) rfl (fun K hK => ?_) AllReadyH.nil
        obtain ⟨vF, wF, hrF, hF, hbF, hgF⟩ := appF_ex (w := w) (wc := ((w.alloc bF).alloc bC).drew) (g := w.heap.size) (hb2F.drew) hfi ((Below.heap_alloc _ _ _ (by simp)).trans (heap_alloc_new _ _)) (by omega) hl
        obtain ⟨aF, cF, rfl, _⟩ := hF.is
        refine step_append_run rfl _ _ _ rfl rfl rfl rfl hrF ?_
        refine hK.out _ _ ⟨cell_block c0 (hbF.block _ (cell_lt c0)), cell_block c1 (hbF.block _ (cell_lt c1))⟩ (fun hHeld => ?_)
        clear hK K hrF
        simp only [Act.put, List.setIfInBounds_toArray, List.set_cons_zero, List.set_cons_succ]
        have hgB : (wF).heap[w.heap.size + 1]? = some (.cells #[] 9 (0, 0)) := (hgF.block (w.heap.size + 1) (by simp) (by simp)).trans hnewC
        have hbw : Below w.heap.size w (wF) := hbF
        have hFw : OwnPairs 62 (wF) w.heap.size (.slice aF T.fs.length cF) T.fs := hF
        obtain ⟨vC, wC, hrC, hC, hbC, hgC⟩ := appC_ex hbw hci hgB (by omega) hch
        obtain ⟨aC, cC, rfl, _⟩ := hC.open
        have hend := Hid.mk (ref_built hFw hC hbC hgC (other_row hFw hgB))
        refine wpAnyH_ready (rs := [11]) (by kernel_rfl) (by simp) ?_
        refine AllReadyH.cons (o := _) rfl (fun K hK => ?_) AllReadyH.nil
        refine step_append_run rfl _ _ _ rfl rfl rfl rfl hrC ?_
        refine hK.out _ _ ⟨cell_block c0 (hbC.block _ (cell_lt c0)), cell_block c1 (hbC.block _ (cell_lt c1))⟩ (fun hHeld => ?_)
        clear hK K hrC hgB hbw hFw hgC hC
        simp only [Act.put, List.setIfInBounds_toArray, List.set_cons_zero, List.set_cons_succ]
        refine wpAnyH_ready (rs := [12]) (by kernel_rfl) (by simp) ?_
        refine AllReadyH.cons (o := _) rfl (fun K hK => ?_) AllReadyH.nil
        go_simp
        refine hK.out _ _ ⟨cell_block c0 (hbC.block _ (cell_lt c0)), cell_block c1 (hbC.block _ (cell_lt c1))⟩ (fun hHeld => ?_)
        clear hK K
        refine wpAnyH_ready (rs := [13]) (by kernel_rfl) (by simp) ?_
        refine AllReadyH.cons (o := _) rfl (fun K hK => ?_) AllReadyH.nil
        go_simp
        refine hK.out _ _ ⟨cell_alloc' _ (cell_block c0 (hbC.block _ (cell_lt c0))), cell_alloc' _ (cell_block c1 (hbC.block _ (cell_lt c1)))⟩ (fun hHeld => ?_)
        clear hK K
        refine wpAnyH_ready (rs := [14]) (by kernel_rfl) (by simp) ?_
        refine AllReadyH.cons (o := _) rfl (fun K hK => ?_) AllReadyH.nil
        go_simp
        refine hK.out _ _ ⟨cell_alloc' _ (cell_block c0 (hbC.block _ (cell_lt c0))), cell_alloc' _ (cell_block c1 (hbC.block _ (cell_lt c1)))⟩ (fun hHeld => ?_)
        clear hK K
        refine wpAnyH_done (by kernel_rfl) ?_ _
        go_wp2
        go_ret
        exact hend.out
    · go_simp
      refine hK.out _ _ ⟨cell_alloc' _ c0, cell_alloc' _ c1⟩ (fun hHeld => ?_)
      clear hK K
      refine wpAnyH_ready (rs := [0]) (by kernel_rfl) (by simp) ?_
      refine AllReadyH.cons (o := _) rfl (fun K hK => ?_) AllReadyH.nil
      go_simp
      refine hK.out _ _ ⟨cell_alloc' _ (cell_alloc' _ c0), cell_alloc' _ (cell_alloc' _ c1)⟩ (fun hHeld => ?_)
      clear hK K
      refine wpAnyH_ready (rs := [5]) (by kernel_rfl) (by simp) ?_
      refine AllReadyH.cons (o := _) rfl (fun K hK => ?_) AllReadyH.nil
      obtain ⟨vF, wF, hrF, hF, hbF, hgF⟩ := appF_ex (w := w) (wc := ((w.alloc bC).alloc bF).drew) (g := w.heap.size + 1) (hb2C.drew) hfi (hnewF) (by omega) hl
      obtain ⟨aF, cF, rfl, _⟩ := hF.is
      refine step_append_run rfl _ _ _ rfl rfl rfl rfl hrF ?_
      refine hK.out _ _ ⟨cell_block c0 (hbF.block _ (cell_lt c0)), cell_block c1 (hbF.block _ (cell_lt c1))⟩ (fun hHeld => ?_)
      clear hK K hrF
      simp only [Act.put, List.setIfInBounds_toArray, List.set_cons_zero, List.set_cons_succ]
      have hgB : (wF).heap[w.heap.size]? = some (.cells #[] 9 (0, 0)) := (hgF.block w.heap.size (by simp; omega) (by simp)).trans ((Below.heap_alloc _ _ _ (by simp)).trans (heap_alloc_new _ _))
      have hbw : Below w.heap.size w (wF) := hbF
      have hFw : OwnPairs 62 (wF) w.heap.size (.slice aF T.fs.length cF) T.fs := hF
      obtain ⟨vC, wC, hrC, hC, hbC, hgC⟩ := appC_ex hbw hci hgB (by omega) hch
      obtain ⟨aC, cC, rfl, _⟩ := hC.open
      have hend := Hid.mk (ref_built hFw hC hbC hgC (other_row hFw hgB))
      refine wpAnyH_ready (rs := [11]) (by kernel_rfl) (by simp) ?_
      refine AllReadyH.cons (o := _) rfl (fun K hK => ?_) AllReadyH.nil
      refine step_append_run rfl _ _ _ rfl rfl rfl rfl hrC ?_
      refine hK.out _ _ ⟨cell_block c0 (hbC.block _ (cell_lt c0)), cell_block c1 (hbC.block _ (cell_lt c1))⟩ (fun hHeld => ?_)
      clear hK K hrC hgB hbw hFw hgC hC
      simp only [Act.put, List.setIfInBounds_toArray, List.set_cons_zero, List.set_cons_succ]
      refine wpAnyH_ready (rs := [12]) (by kernel_rfl) (by simp) ?_
      refine AllReadyH.cons (o := _) rfl (fun K hK => ?_) AllReadyH.nil
      go_simp
      refine hK.out _ _ ⟨cell_block c0 (hbC.block _ (cell_lt c0)), cell_block c1 (hbC.block _ (cell_lt c1))⟩ (fun hHeld => ?_)
      clear hK K
      refine wpAnyH_ready (rs := [13]) (by kernel_rfl) (by simp) ?_
      refine AllReadyH.cons (o := _) rfl (fun K hK => ?_) AllReadyH.nil
      go_simp
      refine hK.out _ _ ⟨cell_alloc' _ (cell_block c0 (hbC.block _ (cell_lt c0))), cell_alloc' _ (cell_block c1 (hbC.block _ (cell_lt c1)))⟩ (fun hHeld => ?_)
      clear hK K
      refine wpAnyH_ready (rs := [14]) (by kernel_rfl) (by simp) ?_
      refine AllReadyH.cons (o := _) rfl (fun K hK => ?_) AllReadyH.nil
      go_simp
      refine hK.out _ _ ⟨cell_alloc' _ (cell_block c0 (hbC.block _ (cell_lt c0))), cell_alloc' _ (cell_block c1 (hbC.block _ (cell_lt c1)))⟩ (fun hHeld => ?_)
      clear hK K
      refine wpAnyH_done (by kernel_rfl) ?_ _
      go_wp2
      go_ret
      exact hend.out

end Go.Proofs.Ytejlekfnjhnklaa
