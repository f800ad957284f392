/-
  The law's 'texts': are two lists of texts one?
-/
import Derived.Test.YtejlekfnjhnklaaRefTree2
namespace Go.Proofs.Ytejlekfnjhnklaa
open Go.RowKit Go.Maps

set_option maxHeartbeats 2000000 in
set_option maxRecDepth 100000 in
theorem texts_is {w : World} {v1 v2 : Value} {l1 l2 : List Str} (h1 : IsStrs w v1 l1) (h2 : IsStrs w v2 l2) (hs1 : l1.length ≤ 1048576) : Calls Try.prog 24 #[v1, v2] w fun e w' => e = .returned (.bool (decide (l1 = l2))) ∧ Below w.heap.size w w' := by
  obtain ⟨a1, c1, rfl, h1⟩ := h1
  obtain ⟨a2, c2, rfl, h2⟩ := h2
  have H1 := Hid.mk h1
  have H2 := Hid.mk h2
  clear h1 h2
  by_cases hl : l1.length = l2.length
  · have hne : ((l1.length : Int) != l2.length) = false := by rw [hl]; simp
    go_enter Try.func24, Try.ntmps24
    go_wp2
    go_loopg [5] l1.length (fun g iv wr => ∃ k : Nat, k + g = l1.length ∧ iv = .int .i64 k ∧ Hid (∀ i (h : i < l1.length) (h2 : i < l2.length), i < k → l1[i] = l2[i]) ∧ Below w.heap.size w wr)
    case atStart => exact ⟨0, by omega, rfl, ⟨fun i _ _ h => by omega⟩, Below.refl _ _⟩
    case round =>
      rename World => wp
      obtain ⟨k, hkg, rfl, hall, hb⟩ := hrel
      cases gk with
      | zero =>
        obtain rfl : k = l1.length := by omega
        have hfin := Hid.mk (show decide (l1 = l2) = true by
          rw [decide_eq_true_eq]
          exact List.ext_getElem hl fun i h1 h2 => hall.out i h1 h2 h1)
        have Hb := Hid.mk hb
        clear hall hb
        go_wp2
        go_ret
        exact ⟨congrArg (fun z => Ending.returned (.bool z)) hfin.out.symm, Hb.out⟩
      | succ g =>
        have hlt : k < l1.length := by omega
        have hlt2 : k < l2.length := by omega
        obtain ⟨g1, o1, rfl, hg1, hc1⟩ : ∃ g1 o1, a1 = some ⟨g1, o1, none⟩ ∧ g1 < w.heap.size ∧ ∀ i (h : i < l1.length), w.cell? ⟨g1, o1 + i, none⟩ = some (strV l1[i]) := by
          rcases H1.out with e | h
          · rw [e] at hlt; simp at hlt
          · exact h
        obtain ⟨g2, o2, rfl, hg2, hc2⟩ : ∃ g2 o2, a2 = some ⟨g2, o2, none⟩ ∧ g2 < w.heap.size ∧ ∀ i (h : i < l2.length), w.cell? ⟨g2, o2 + i, none⟩ = some (strV l2[i]) := by
          rcases H2.out with e | h
          · rw [e] at hlt2; simp at hlt2
          · exact h
        have d1 : wp.cell? ⟨g1, o1 + k, none⟩ = some (strV l1[k]) := cell_block (hc1 k hlt) (hb.block _ hg1)
        have d2 : wp.cell? ⟨g2, o2 + k, none⟩ = some (strV l2[k]) := cell_block (hc2 k hlt2) (hb.block _ hg2)
        have hstep := Hid.mk (fun (h : l1[k] = l2[k]) i (h1 : i < l1.length) (h2 : i < l2.length) (hi : i < k + 1) => show l1[i] = l2[i] by
          by_cases e : i = k
          · subst e; exact h
          · exact hall.out i h1 h2 (by omega))
        have hno := Hid.mk (fun (h : ¬ l1[k] = l2[k]) => show decide (l1 = l2) = false by
          rw [decide_eq_false_iff_not]
          intro e
          subst e
          exact h rfl)
        have Hb := Hid.mk hb
        have hk2 : (k : Int) < l2.length := by omega
        generalize l1[k] = x at d1 hstep hno
        generalize l2[k] = y at d2 hstep hno
        clear hc1 hc2 hall hb
        by_cases hxy : x = y
        · have hn := Hid.mk (hstep.out hxy)
          subst hxy
          clear hstep hno
          go_wp2
          go_quiet (fail)
          go_wp2
          go_roundg g
          case measure => omega
          case rel => exact ⟨k + 1, by omega, by go_num, hn, Hb.out.trans (⟨rfl, rfl, rfl, Nat.le_refl _, fun _ _ => rfl⟩)⟩
        · have hn := Hid.mk (hno.out hxy)
          have hne2 : (x == y) = false := by simpa using hxy
          clear hstep hno hxy
          go_wp2
          go_quiet (fail)
          go_wp2
          go_ret
          exact ⟨congrArg (fun z => Ending.returned (.bool z)) hn.out.symm, Hb.out.trans (⟨rfl, rfl, rfl, Nat.le_refl _, fun _ _ => rfl⟩)⟩
  · have hne : ((l1.length : Int) != l2.length) = true := by rw [bne_iff_ne]; omega
    have hfin := Hid.mk (show decide (l1 = l2) = false by rw [decide_eq_false_iff_not]; exact fun e => hl (by rw [e]))
    go_enter Try.func24, Try.ntmps24
    go_wp2
    go_ret
    exact ⟨congrArg (fun z => Ending.returned (.bool z)) hfin.out.symm, Below.refl _ _⟩

end Go.Proofs.Ytejlekfnjhnklaa
