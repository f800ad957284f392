/-
  The program's tree: what changed behind a mark.
-/
import Derived.Test.YtejlekfnjhnklaaTree3
import Derived.Test.YtejlekfnjhnklaaSorts
namespace Go.Proofs.Ytejlekfnjhnklaa
open Go.RowKit Go.Maps

/-- What changed behind a mark; is it still known? -/
def Tr.since (T : Tr) (mark : Int) : List Str × Bool :=
  if mark < 0 ∨ (T.ch.length : Int) < mark ∨ 32 < (T.ch.length : Int) - mark then ([], false) else (insAll (T.ch.drop mark.toNat), true)

/-- What a call that asks for the changes answers. -/
def SincePost (w : World) (T : Tr) (mark : Int) (e : Ending) (w' : World) : Prop :=
  ∃ v, e = .returned (.tuple #[v, .bool (T.since mark).2]) ∧ IsStrs w' v (T.since mark).1 ∧ Below w.heap.size w w'

theorem since_no {T : Tr} {mark : Int} (h : mark < 0 ∨ (T.ch.length : Int) < mark ∨ 32 < (T.ch.length : Int) - mark) {w w' : World} (hb : Below w.heap.size w w') : SincePost w T mark (.returned (.tuple #[.slice none 0 0, .bool false])) w' := by
  have : T.since mark = ([], false) := by unfold Tr.since; rw [if_pos h]
  unfold SincePost
  rw [this]
  exact ⟨_, rfl, ⟨none, 0, rfl, .inl rfl⟩, hb⟩

theorem drop_take_succ {l : List Str} {m k : Nat} (hm : m ≤ k) (hk : k < l.length) : (l.take (k + 1)).drop m = (l.take k).drop m ++ [l[k]] := by
  rw [List.take_succ_eq_append_getElem hk, List.drop_append_of_le_length (by rw [List.length_take]; omega)]

def BeRel (w : World) (ch : List Str) (m g : Nat) (ou kv : Value) (wr : World) : Prop :=
  ∃ k : Nat, k + g = ch.length ∧ m ≤ k ∧ kv = .int .i64 k ∧ OwnStrs wr w.heap.size ou ((ch.take k).drop m) ∧ Below w.heap.size w wr

set_option maxHeartbeats 4000000 in
set_option maxRecDepth 100000 in
theorem behind_is {w : World} {p : Nat} {m : Option Nat} {last : Nat → Str} {T : Tr} (h : IsTree w 0 p m last T) (hch : T.ch.length ≤ 1048576) (mark : Int) (h1 : -9223372036854775808 ≤ mark) (h2 : mark ≤ 9223372036854775807) :
    Calls Try.prog 31 #[.pointer (some ⟨p, 0, none⟩), .int .i64 mark] w (SincePost w T mark) := by
  have hn := h.n
  by_cases ha : mark < 0
  · have hfin := Hid.mk (fun w' (hb : Below w.heap.size w w') => since_no (T := T) (mark := mark) (.inl ha) hb)
    clear h
    go_enter Try.func31, Try.ntmps31
    go_wp2
    go_ret2
    exact hfin.out _ (Below.refl _ _)
  · by_cases hb : (T.ch.length : Int) < mark
    · have hfin := Hid.mk (fun w' (hb2 : Below w.heap.size w w') => since_no (T := T) (mark := mark) (.inr (.inl hb)) hb2)
      clear h
      go_enter Try.func31, Try.ntmps31
      go_wp2
      go_ret2
      exact hfin.out _ (Below.refl _ _)
    · by_cases hc : 32 < (T.ch.length : Int) - mark
      · have hfin := Hid.mk (fun w' (hb2 : Below w.heap.size w w') => since_no (T := T) (mark := mark) (.inr (.inr hc)) hb2)
        clear h
        go_enter Try.func31, Try.ntmps31
        go_wp2
        go_ret2
        exact hfin.out _ (Below.refl _ _)
      · obtain ⟨k0, rfl⟩ : ∃ k0 : Nat, mark = k0 := ⟨mark.toNat, by omega⟩
        have hsi := Hid.mk (show T.since k0 = (insAll (T.ch.drop k0), true) by
          unfold Tr.since
          rw [if_neg (by omega)]
          rfl)
        have hstart := Hid.mk (show BeRel w T.ch k0 (T.ch.length - k0) (.slice none 0 0) (.int .i64 k0) w from ⟨k0, by omega, Nat.le_refl _, rfl, by rw [List.drop_eq_nil_of_le (by simp; omega)]; exact OwnStrs.nil _ _, Below.refl _ _⟩)
        have H := Hid.mk h
        clear h
        go_enter Try.func31, Try.ntmps31
        go_wp2
        go_loopg [6, 7] (T.ch.length - k0) (fun g ou kv wr => BeRel w T.ch k0 g ou kv wr)
        case atStart => exact hstart.out
        case round =>
          clear hstart
          rename World => wp
          obtain ⟨k, hkg, hmk, rfl, hown, hbel⟩ := hrel
          have H1 := Hid.mk (H.out.below hbel)
          have hn1 := H1.out.n
          cases gk with
          | zero =>
            obtain rfl : k = T.ch.length := by omega
            rw [List.take_length] at hown
            have Hown := Hid.mk hown
            have Hb := Hid.mk hbel
            have hll : (T.ch.drop k0).length ≤ 1048576 := by rw [List.length_drop]; omega
            clear hown hbel
            go_wp2_with fail
            refine (sort_is Hown.out hll).mono ?_
            rintro e w2 ⟨rfl, hv2, hg2⟩
            have Hv2 := Hid.mk hv2
            have Hb2 := Hid.mk (below_appS Hb.out Hown.out (Nat.le_refl _) hg2)
            clear hv2 hg2 Hown Hb H1 hn1
            go_wp2_with fail
            refine (compact_is Hv2.out (by simpa [sortB] using hll)).mono ?_
            rintro e w3 ⟨v', rfl, hv3, hg3⟩
            have Hfin := Hid.mk (show SincePost w T k0 (.returned (.tuple #[v', .bool true])) w3 by
              unfold SincePost
              rw [hsi.out]
              refine ⟨v', rfl, ?_, below_appS Hb2.out Hv2.out (Nat.le_refl _) hg3⟩
              rw [compact_insAll] at hv3
              exact hv3)
            clear hv3 hg3
            go_wp2
            go_ret2
            exact Hfin.out
          | succ g =>
            have hlt : k < T.ch.length := by omega
            have hring : wp.cell? ⟨p, k % 32, none⟩ = some (strV T.ch[k]) := by
              have := H1.out.ring (k % 32) (Nat.mod_lt _ (by decide))
              rw [H1.out.keeps k hlt (by omega)] at this
              exact this
            have hmod : (k : Int).tmod 32 = ((k % 32 : Nat) : Int) := by rw [Int.tmod_eq_emod_of_nonneg (by omega)]; omega
            have hlt2 : k % 32 < 32 := by omega
            have hlt3 : (k : Int) < T.ch.length := by omega
            have hstep := Hid.mk (drop_take_succ hmk hlt)
            have hll : ((T.ch.take k).drop k0).length ≤ k := by rw [List.length_drop, List.length_take]; omega
            generalize hL : (T.ch.take k).drop k0 = L at hown hstep hll
            generalize T.ch[k] = x at hring hstep
            obtain ⟨g', cap', w5, hr5, hown5, hgr5, _⟩ := run_appS wp w.heap.size _ L hown x (by omega) hbel.size
            have hb5 := below_appS (hbel.alloc hbel.size _) (World.ownsRow.alloc hown _) (Nat.le_refl _) hgr5
            have hrel5 := Hid.mk (show ∀ i : Int, i = (k : Int) + 1 → BeRel w T.ch k0 g (.slice (some ⟨g', 0, none⟩) (L.length + 1) cap') (.int .i64 i) w5 from fun i hi => ⟨k + 1, by omega, by omega, by subst hi; exact congrArg _ (by omega), by rw [hstep.out]; exact hown5, hb5⟩)
            clear hown hbel hown5 hgr5 hb5 hL H1
            go_wp2_with (at_builtin; refine wpList_append_run rfl _ _ _ rfl rfl rfl rfl hr5 ?_)
            go_roundg g
            case measure => omega
            case rel => exact hrel5.out _ rfl

theorem trSince_is {w : World} {p : Nat} {m : Option Nat} {last : Nat → Str} {T : Tr} (h : IsTree w 0 p m last T) (hch : T.ch.length ≤ 1048576) (mark : Int) (h1 : -9223372036854775808 ≤ mark) (h2 : mark ≤ 9223372036854775807) :
    Calls Try.prog 17 #[.pointer (some ⟨p, 0, none⟩), .int .i64 mark] w (SincePost w T mark) := by
  have H := Hid.mk (behind_is h hch mark h1 h2)
  clear h
  go_enter Try.func17, Try.ntmps17
  go_wp2_with fail
  refine H.out.mono ?_
  rintro e w1 ⟨v, rfl, hv⟩
  have Hv := Hid.mk hv
  clear hv
  go_wp2
  go_ret2
  exact ⟨v, rfl, Hv.out⟩

end Go.Proofs.Ytejlekfnjhnklaa
