/-
  Two rising lists made one: Concat, Sort, Compact; the law's 'long', 'made', 'both'.
-/
import Derived.Test.YtiinmmgknlnkaaaLib
namespace Go.Proofs.Ytiinmmgknlnkaaa
open Go.RowKit Go.Maps Go.Sort

/-- Of a sorted list each once: rising, with the same members. -/
theorem compactUpTo_rising {d : Array Str} (hs : ∀ i j, i < j → j < d.size → d[i]! ≤ d[j]!) : ∀ m, m ≤ d.size → Rising (Lib.compactUpTo d m) ∧ (∀ y, y ∈ Lib.compactUpTo d m ↔ ∃ j, j < m ∧ d[j]! = y)
  | 0, _ => ⟨by simp [Lib.compactUpTo], fun y => by simp [Lib.compactUpTo]⟩
  | m + 1, hm => by
    obtain ⟨h1, h2⟩ := compactUpTo_rising hs m (by omega)
    rw [Lib.compactUpTo_succ]
    by_cases hk : Lib.keeps d m = true
    · rw [if_pos hk]
      constructor
      · refine List.pairwise_append.2 ⟨h1, List.pairwise_singleton _ _, fun a ha b hb => ?_⟩
        obtain rfl : b = d[m]! := by simpa using hb
        obtain ⟨j, hj, rfl⟩ := (h2 a).1 ha
        have hle := hs j m hj (by omega)
        simp only [Lib.keeps, decide_eq_true_eq] at hk
        rcases hk with h0 | hne
        · omega
        · have h3 : d[j]! ≤ d[m - 1]! := by
            by_cases e : j = m - 1
            · rw [e]; exact List.le_refl _
            · exact hs j (m - 1) (by omega) (by omega)
          have h4 := hs (m - 1) m (by omega) (by omega)
          have h5 : d[m - 1]! < d[m]! := by
            rcases str_tri d[m - 1]! d[m]! with h | h | h
            · exact h
            · exact absurd h.symm hne
            · exact absurd h (List.not_lt.2 h4)
          rcases str_tri d[j]! d[m]! with h | h | h
          · exact h
          · rw [h] at h3
            exact absurd h5 (List.not_lt.2 h3)
          · exact absurd h (List.not_lt.2 hle)
      · intro y
        rw [List.mem_append, h2]
        constructor
        · rintro (⟨j, hj, e⟩ | h)
          · exact ⟨j, by omega, e⟩
          · exact ⟨m, by omega, (List.mem_singleton.1 h).symm⟩
        · rintro ⟨j, hj, e⟩
          by_cases h : j = m
          · subst h; exact .inr (by simp [e])
          · exact .inl ⟨j, by omega, e⟩
    · rw [if_neg hk, List.append_nil]
      refine ⟨h1, fun y => ?_⟩
      rw [h2]
      constructor
      · rintro ⟨j, hj, e⟩
        exact ⟨j, by omega, e⟩
      · rintro ⟨j, hj, e⟩
        by_cases h : j = m
        · subst h
          simp only [Lib.keeps, decide_eq_true_eq, not_or, Classical.not_not] at hk
          exact ⟨j - 1, by omega, by rw [← hk.2]; exact e⟩
        · exact ⟨j, by omega, e⟩

def sortB (l : List Str) : List Str := l.mergeSort fun x y => decide (x ≤ y)

theorem compact_sorted (l : List Str) : Rising (Lib.compact (sortB l)) ∧ ∀ y, y ∈ Lib.compact (sortB l) ↔ y ∈ l := by
  have hp : (sortB l).Pairwise fun x y => decide (x ≤ y) = true := List.pairwise_mergeSort (fun a b c h1 h2 => by simp only [decide_eq_true_eq] at *; exact List.le_trans h1 h2) (fun a b => by
    simp only [Bool.or_eq_true, decide_eq_true_eq]
    exact List.le_total a b) l
  have hs : ∀ i j, i < j → j < (sortB l).toArray.size → (sortB l).toArray[i]! ≤ (sortB l).toArray[j]! := fun i j hij hj => by
    have hj' : j < (sortB l).length := by simpa using hj
    have h := List.pairwise_iff_getElem.1 hp i j (by omega) hj' hij
    rw [getElem!_pos _ i (by simp; omega), getElem!_pos _ j hj]
    simpa using h
  obtain ⟨h1, h2⟩ := compactUpTo_rising hs (sortB l).length (by simp)
  have hl : (sortB l).length = l.length := by simp [sortB]
  refine ⟨h1, fun y => (h2 y).trans ?_⟩
  rw [← (List.mergeSort_perm l (fun x y => decide (x ≤ y))).mem_iff]
  constructor
  · rintro ⟨j, hj, rfl⟩
    rw [getElem!_pos _ j (by rw [List.size_toArray]; exact hj)]
    exact List.getElem_mem hj
  · intro hy
    obtain ⟨j, hj, e⟩ := List.getElem_of_mem hy
    exact ⟨j, hj, by rw [getElem!_pos _ j (by rw [List.size_toArray]; exact hj)]; exact e⟩

/-- slices.Sort, then slices.Compact, at a list of the call's own. -/
theorem sort_is {w : World} {b : Nat} {v : Value} {l : List Str} (h : OwnStrs w b v l) (hs : l.length ≤ 1048576) : Calls Try.prog 37 #[v] w fun e w' => e = .returned (.tuple #[]) ∧ OwnStrs w' b v (sortB l) ∧ w.grownBy w' v.ownBlock := by
  by_cases h0 : l = []
  · subst h0
    obtain ⟨a, cap, rfl, _⟩ := h.open
    refine (Try.slices_Sort_string_none a cap w).mono ?_
    rintro e w' ⟨rfl, rfl⟩
    exact ⟨rfl, by simpa [sortB] using h, ⟨rfl, rfl, rfl, Nat.le_refl _, fun _ _ _ => rfl⟩⟩
  · obtain ⟨h1, ⟨hv, h2⟩ | ⟨g, cap, cur, rfl, hg, hb, hn, hm, hc, ht⟩⟩ := h
    · exact absurd (List.eq_nil_of_length_eq_zero h2) h0
    · refine (Try.slices_Sort_string g 0 cap l w (holds_of_block hb (by simpa using ht)) (Array.getElem?_eq_some_iff.1 hb).1 (by omega)).mono ?_
      rintro e w' ⟨rfl, n, os, rfl⟩
      have hl : (sortB l).length = l.length := by simp [sortB]
      refine ⟨rfl, ?_, grownBy_sorted _⟩
      have := ownsRow_sorted (n := n) (os := os) (ts := sortB l) hl hg hb hn hm hc
      unfold OwnStrs
      rw [hl]
      exact this

theorem compact_is {w : World} {b : Nat} {v : Value} {l : List Str} (h : OwnStrs w b v l) (hs : l.length ≤ 1048576) : Calls Try.prog 38 #[v] w fun e w' => ∃ v', e = .returned v' ∧ IsStrs w' v' (Lib.compact l) ∧ w.grownBy w' v.ownBlock := by
  by_cases h0 : l = []
  · subst h0
    obtain ⟨a, cap, rfl, _⟩ := h.open
    refine (Try.slices_Compact_string_empty a cap w).mono ?_
    rintro e w' ⟨rfl, rfl⟩
    exact ⟨_, rfl, ⟨a, cap, rfl, .inl rfl⟩, ⟨rfl, rfl, rfl, Nat.le_refl _, fun _ _ _ => rfl⟩⟩
  · obtain ⟨h1, ⟨hv, h2⟩ | ⟨g, cap, cur, rfl, hg, hb, hn, hm, hc, ht⟩⟩ := h
    · exact absurd (List.eq_nil_of_length_eq_zero h2) h0
    · have hh : Go.Sort.Holds encStr w g 0 l.toArray := holds_of_block hb (by simpa using ht)
      have hlt := (Array.getElem?_eq_some_iff.1 hb).1
      have hle : (Lib.compact l).length ≤ l.length := Lib.compact_length_le l
      refine (Try.slices_Compact_string g 0 cap l w hh (by omega) hn).mono ?_
      rintro e w' ⟨rfl, q, rfl⟩
      have hsz : (Lib.compact l ++ List.replicate (l.length - (Lib.compact l).length) []).toArray.size = l.toArray.size := by simp; omega
      refine ⟨_, rfl, ⟨_, cap, rfl, .inr ⟨g, 0, rfl, by simpa using hlt, fun i hi => ?_⟩⟩, ?_⟩
      · have hd : i < (Lib.compact l ++ List.replicate (l.length - (Lib.compact l).length) []).toArray.size := by rw [hsz]; simp; omega
        have := cell?_putRow encStr (Sort.ahead w q) g 0 l.toArray (Lib.compact l ++ List.replicate (l.length - (Lib.compact l).length) []).toArray (fun j hj => hh j hj) hsz i hd
        rw [this, getElem!_pos _ i hd]
        simp [List.getElem_append_left hi]
      · have := grownBy_sorted (w := w) (g := g) (n := q) (os := #[]) (Lib.compact l ++ List.replicate (l.length - (Lib.compact l).length) []).toArray
        rw [grow_empty] at this
        exact this

theorem IsStrs.slice {w : World} {v : Value} {l : List Str} (h : IsStrs w v l) : ∃ a cap, v = .slice a l.length cap := by
  obtain ⟨a, cap, hv, _⟩ := h
  exact ⟨a, cap, hv⟩

theorem Below.own {w0 w w' : World} {base : Nat} {v : Value} {l : List Str} (hb : Below w0.heap.size w0 w) (h : OwnStrs w base v l) (hbase : w0.heap.size ≤ base) (hg : w.grownBy w' v.ownBlock) : Below w0.heap.size w0 w' := below_appS hb h hbase hg

set_option maxHeartbeats 1000000 in
theorem both_is {w : World} {v1 v2 : Value} {l1 l2 : List Str} (h1 : IsStrs w v1 l1) (h2 : IsStrs w v2 l2) (hs1 : l1.length ≤ 131072) (hs2 : l2.length ≤ 131072) :
    Calls Try.prog 26 #[v1, v2] w (Got (Lib.compact (sortB (l1 ++ l2))) w) := by
  obtain ⟨a1, p1, rfl⟩ := h1.slice
  obtain ⟨a2, p2, rfl⟩ := h2.slice
  have hC := Hid.mk (concat_is h1 h2 hs1 hs2)
  have hlen : (l1 ++ l2).length ≤ 1048576 := by rw [List.length_append]; omega
  clear h1 h2
  go_enter Try.func26, Try.ntmps26
  go_wp2_with fail
  refine hC.out.mono ?_
  rintro e w1 ⟨v, rfl, hv, hb1⟩
  have Hv := Hid.mk hv
  have Hb1 := Hid.mk hb1
  clear hv hb1
  go_wp2_with fail
  refine (sort_is Hv.out hlen).mono ?_
  rintro e w2 ⟨rfl, hv2, hg2⟩
  have Hv2 := Hid.mk hv2
  have Hb2 := Hid.mk (below_appS Hb1.out Hv.out (Nat.le_refl _) hg2)
  clear hv2 hg2 Hv Hb1
  go_wp2_with fail
  refine (compact_is Hv2.out (by simpa [sortB] using hlen)).mono ?_
  rintro e w3 ⟨v', rfl, hv3, hg3⟩
  have Hfin := Hid.mk (show Got (Lib.compact (sortB (l1 ++ l2))) w (.returned v') w3 from ⟨v', rfl, hv3, below_appS Hb2.out Hv2.out (Nat.le_refl _) hg3⟩)
  clear hv3 hg3
  go_wp2
  go_ret
  exact Hfin.out

theorem long_far (a b : Option Addr) (n c m d : Nat) (w : World) (h : 40 < n ∨ 20 < m) : Calls Try.prog 22 #[.slice a n c, .slice b m d] w fun e w' => e = .returned (.bool true) ∧ w' = w := by
  by_cases h1 : (40 : Int) < n
  · clear h
    go_enter Try.func22, Try.ntmps22
    go_wp2
    go_ret
    exact ⟨rfl, rfl⟩
  · have h2 : (20 : Int) < m := by omega
    clear h
    go_enter Try.func22, Try.ntmps22
    go_wp2
    go_ret
    exact ⟨rfl, rfl⟩

theorem long_near (a b : Option Addr) (n c m d : Nat) (w : World) (h : n ≤ 40 ∧ m ≤ 20) : Calls Try.prog 22 #[.slice a n c, .slice b m d] w fun e w' => e = .returned (.bool false) ∧ w' = w := by
  have h1 : ¬ (40 : Int) < n := by omega
  have h2 : ¬ (20 : Int) < m := by omega
  clear h
  go_enter Try.func22, Try.ntmps22
  go_wp2
  go_ret
  exact ⟨rfl, rfl⟩

def madeOf (le : EdgeL) (ln : List Str) : Gr := ln.foldl Gr.add (Gr.links le Gr.empty)

theorem adds_few : ∀ (l : List Str) (G : Gr), (l.foldl Gr.add G).ns.length ≤ G.ns.length + l.length
  | [], G => by simp
  | a :: r, G => by
    have := adds_few r (G.add a)
    have h2 : (G.add a).ns.length ≤ G.ns.length + 1 := length_ins_le
    rw [List.foldl_cons, List.length_cons]
    omega

theorem made_few (le : EdgeL) (ln : List Str) : (madeOf le ln).ns.length ≤ 2 * le.length + ln.length := by
  have h1 := adds_few ln (Gr.links le Gr.empty)
  have h2 := few_links le Gr.empty
  have h3 : Gr.empty.ns.length = 0 := rfl
  unfold madeOf
  omega

set_option maxHeartbeats 1000000 in
theorem made_is {w : World} {ve vn : Value} {le : EdgeL} {ln : List Str} (h1 : IsEdges w ve le) (h2 : IsStrs w vn ln) (hs1 : ∀ x ∈ le, x.1.length ≤ maxLen ∧ x.2.length ≤ maxLen) (hs2 : ∀ x ∈ ln, x.length ≤ maxLen) (hl1 : le.length ≤ 1024) (hl2 : ln.length ≤ 1024) :
    Calls Try.prog 23 #[ve, vn] w (NewPost w (madeOf le ln)) := by
  have hC := Hid.mk (cloneE_is h1 (by omega))
  have H2 := Hid.mk h2
  have Hs := Hid.mk (And.intro hs1 hs2)
  clear h1 h2 hs1 hs2
  go_enter Try.func23, Try.ntmps23
  go_wp2_with fail
  refine hC.out.mono ?_
  rintro e w1 ⟨v, rfl, hv, hb1⟩
  obtain ⟨ae, ce, rfl, hat⟩ := hv.at
  have Hat := Hid.mk hat
  have Hb1 := Hid.mk hb1
  clear hv hat hb1 hC
  go_wp2_with fail
  refine (new_any w1 ae ce _ le rfl Hat.out (Hs.out).1 (by omega)).mono ?_
  rintro e w2 ⟨S, p, rfl, hg, hb2, hp, hS⟩
  have Hg := Hid.mk hg
  have Hb2 := Hid.mk (Hb1.out.trans (hb2.mono Hb1.out.size))
  have HS := Hid.mk (show w.heap.size ≤ p ∧ ∀ k, S k → w.heap.size ≤ k from ⟨Nat.le_trans Hb1.out.size hp, fun k hk => Nat.le_trans Hb1.out.size (hS k hk)⟩)
  clear hg hb2 hp hS Hat Hb1
  go_wp2_with fail
  refine (cloneS_is (H2.out.below Hb2.out) (by omega)).mono ?_
  rintro e w3 ⟨v, rfl, hv, hb3⟩
  obtain ⟨an, cn, rfl, hat⟩ := hv.at
  have Hat := Hid.mk hat
  have Hg3 := Hid.mk (Hg.out.below hb3)
  have Hb3 := Hid.mk (Hb2.out.trans (hb3.mono Hb2.out.size))
  clear hv hat hb3 Hg Hb2
  go_wp2_with fail
  refine (add_any Hg3.out an cn _ ln rfl Hat.out (Hs.out).2 (by have := few_links le Gr.empty; have h3 : Gr.empty.ns.length = 0 := rfl; omega)).mono ?_
  rintro e w4 ⟨rfl, S4, hg4, ho4, hS4⟩
  have Hfin := Hid.mk (show NewPost w (madeOf le ln) (.returned (ptr p)) w4 from ⟨S4, p, rfl, hg4, below_only Hb3.out ho4 (HS.out).2, (HS.out).1, fun k hk => (hS4 k hk).elim ((HS.out).2 k) (Nat.le_trans Hb3.out.size)⟩)
  clear hg4 ho4 hS4
  go_wp2
  go_ret
  exact Hfin.out

end Go.Proofs.Ytiinmmgknlnkaaa
