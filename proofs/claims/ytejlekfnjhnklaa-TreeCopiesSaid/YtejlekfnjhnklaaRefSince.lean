/-
  The document's tree: Since, walked.
-/
import Derived.Test.YtejlekfnjhnklaaBehind
namespace Go.Proofs.Ytejlekfnjhnklaa
open Go.RowKit Go.Maps

/-- All runs by which a list gets a name in its place. -/
theorem ins_turn {w : World} {b : Nat} {v : Value} {L : List Str} (h : OwnStrs w b v L) (x : Str) (i : Nat) (hi : i ≤ L.length) (hl : L.length ≤ 1000000) :
    ∃ (v1 va : Value) (w3 : World) (vb : Value) (w4 : World) (v5 vd : Value) (w5 : World),
      (Instr.slice 35 v none (some (.int .i64 i)) none).run Try.prog w = .ok v1 w ∧
      (Builtin.append_ #[35, 35] 35 #[.slice none 0 0, v1]).run Try.prog w = .ok va w3 ∧
      (Builtin.append_ #[35, 35] 35 #[va, .slice (some ⟨w3.heap.size, 0, none⟩) 1 1]).run Try.prog (w3.alloc (.cells #[strV x] 9)) = .ok vb w4 ∧
      (Instr.slice 35 v (some (.int .i64 i)) none none).run Try.prog w4 = .ok v5 w4 ∧
      (Builtin.append_ #[35, 35] 35 #[vb, v5]).run Try.prog w4 = .ok vd w5 ∧
      OwnStrs w5 w.heap.size vd (L.take i ++ [x] ++ L.drop i) ∧ Below w.heap.size w w4 ∧ Below w.heap.size w w5 := by
  obtain ⟨v1, hr1, hv1⟩ := own_slice_hi h i hi
  have hl1 : (L.take i).length ≤ 1000000 := by rw [List.length_take]; omega
  obtain ⟨va, w3, hr2, hown2, hg2⟩ := run_appIs w w.heap.size (.slice none 0 0) v1 [] _ (OwnStrs.nil _ _) hv1 (by simp; omega) (Nat.le_refl _)
  have hb3 : Below w.heap.size w w3 := below_appS (Below.refl _ _) (OwnStrs.nil _ _) (Nat.le_refl _) hg2
  obtain ⟨gb, cb, w4, hr3, hown3, hg3, _⟩ := run_appS w3 w.heap.size va _ hown2 x (by simp; omega) hb3.size
  have hb4 : Below w.heap.size w w4 := below_appS (hb3.alloc hb3.size _) (World.ownsRow.alloc hown2 _) (Nat.le_refl _) hg3
  obtain ⟨v5, hr5, hv5⟩ := own_slice_lo (h.below hb4) i hi
  obtain ⟨vd, w5, hr6, hown5, hg5⟩ := run_appIs w4 w.heap.size _ v5 _ _ hown3 hv5 (by simp; omega) hb4.size
  have hb5 : Below w.heap.size w w5 := below_appS hb4 hown3 (Nat.le_refl _) hg5
  exact ⟨v1, va, w3, _, w4, v5, vd, w5, hr1, hr2, hr3, hr5, hr6, by simpa using hown5, hb4, hb5⟩

def SiRel (w : World) (ch : List Str) (m g : Nat) (ou kv : Value) (wr : World) : Prop :=
  ∃ k : Nat, k + g = ch.length ∧ m ≤ k ∧ kv = .int .i64 k ∧ OwnStrs wr w.heap.size ou (insAll ((ch.take k).drop m)) ∧ Below w.heap.size w wr

set_option maxHeartbeats 8000000 in
set_option maxRecDepth 100000 in
theorem refSince_is {w : World} {b r : Nat} {vf vc : Value} {T : Tr} (h : IsRef w b r vf vc T) (hch : T.ch.length ≤ 1000000) (mark : Int) (h1 : -9223372036854775808 ≤ mark) (h2 : mark ≤ 9223372036854775807) :
    Calls Try.prog 23 #[.pointer (some ⟨r, 0, none⟩), .int .i64 mark] w (SincePost w T mark) := by
  have c1 := h.cell1
  have H := Hid.mk h
  obtain ⟨ac, capc, rfl, hvc⟩ := h.chs.open
  have Hvc := Hid.mk hvc
  clear h hvc
  by_cases ha : mark < 0
  · have hfin := Hid.mk (fun w' (hb : Below w.heap.size w w') => since_no (T := T) (mark := mark) (.inl ha) hb)
    go_enter Try.func23, Try.ntmps23
    go_wp2
    go_ret2
    exact hfin.out _ (Below.refl _ _)
  · by_cases hb : (T.ch.length : Int) < mark
    · have hfin := Hid.mk (fun w' (hb2 : Below w.heap.size w w') => since_no (T := T) (mark := mark) (.inr (.inl hb)) hb2)
      go_enter Try.func23, Try.ntmps23
      go_wp2
      go_ret2
      exact hfin.out _ (Below.refl _ _)
    · by_cases hc : 32 < (T.ch.length : Int) - mark
      · have hfin := Hid.mk (fun w' (hb2 : Below w.heap.size w w') => since_no (T := T) (mark := mark) (.inr (.inr hc)) hb2)
        go_enter Try.func23, Try.ntmps23
        go_wp2
        go_ret2
        exact hfin.out _ (Below.refl _ _)
      · obtain ⟨k0, rfl⟩ : ∃ k0 : Nat, mark = k0 := ⟨mark.toNat, by omega⟩
        have hsi := Hid.mk (show T.since k0 = (insAll (T.ch.drop k0), true) by
          unfold Tr.since
          rw [if_neg (by omega)]
          rfl)
        have hstart := Hid.mk (show SiRel w T.ch k0 (T.ch.length - k0) (.slice none 0 0) (.int .i64 k0) w from ⟨k0, by omega, Nat.le_refl _, rfl, by rw [List.drop_eq_nil_of_le (by simp; omega)]; exact OwnStrs.nil _ _, Below.refl _ _⟩)
        go_enter Try.func23, Try.ntmps23
        go_wp2
        go_loopg [6, 7] (T.ch.length - k0) (fun g ou kv wr => SiRel w T.ch k0 g ou kv wr)
        case atStart => exact hstart.out
        case round =>
          clear hstart
          rename World => wp
          obtain ⟨k, hkg, hmk, rfl, hown, hbel⟩ := hrel
          have c1 := (H.out.below hbel).cell1
          have Hb := Hid.mk hbel
          cases gk with
          | zero =>
            obtain rfl : k = T.ch.length := by omega
            rw [List.take_length] at hown
            have Hfin := Hid.mk (show SincePost w T k0 (.returned (.tuple #[_, .bool true])) wp by
              unfold SincePost
              rw [hsi.out]
              exact ⟨_, rfl, hown.is, Hb.out⟩)
            clear hown hbel
            go_wp2
            go_ret2
            exact Hfin.out
          | succ g =>
            have hlt : k < T.ch.length := by omega
            obtain ⟨gc, rfl, _, hgc, hcc⟩ : ∃ gc, ac = some ⟨gc, 0, none⟩ ∧ b ≤ gc ∧ gc < w.heap.size ∧ ∀ i (h : i < T.ch.length), w.cell? ⟨gc, i, none⟩ = some (strV T.ch[i]) := by
              rcases Hvc.out with e | h
              · rw [e] at hlt; simp at hlt
              · exact h
            have hck : wp.cell? ⟨gc, k, none⟩ = some (strV T.ch[k]) := cell_block (hcc k hlt) (hbel.block _ hgc)
            have hlt3 : (k : Int) < T.ch.length := by omega
            have hstep := Hid.mk (show insAll ((T.ch.take (k + 1)).drop k0) = ins T.ch[k] (insAll ((T.ch.take k).drop k0)) by rw [drop_take_succ hmk hlt, insAll_snoc])
            have hll : (insAll ((T.ch.take k).drop k0)).length ≤ k := Nat.le_trans (insAll_length _) (by rw [List.length_drop, List.length_take]; omega)
            generalize hL : insAll ((T.ch.take k).drop k0) = L at hown hstep hll
            generalize T.ch[k] = x at hck hstep
            obtain ⟨ao, co, he, hoc⟩ := hown.open
            subst he
            have Hown := Hid.mk hown
            have Hoc := Hid.mk hoc
            clear hown hbel hL hcc hoc
            go_wp2
            go_loopg [9] L.length (fun g2 iv wr => ∃ i : Nat, i + g2 = L.length ∧ iv = .int .i64 i ∧ Hid (∀ j (h : j < L.length), j < i → L[j] < x) ∧ wp = wr)
            case atStart => exact ⟨0, by omega, rfl, ⟨fun j _ hj => by omega⟩, rfl⟩
            case round =>
              obtain ⟨i, hig, rfl, hlow, rfl⟩ := hrel
              cases gk with
              | zero =>
                obtain rfl : i = L.length := by omega
                obtain ⟨v1, va, w3, vb, w4, v5, vd, w5, hr1, hr2, hr3, hr5, hr6, hown5, hb4, hb5⟩ := ins_turn Hown.out x L.length (Nat.le_refl _) (by omega)
                have hins := ins_at (x := x) (l := L) (i := L.length) (Nat.le_refl _) hlow.out (fun h => absurd h (Nat.lt_irrefl _))
                have hrel5 := Hid.mk (show ∀ i : Int, i = (k : Int) + 1 → SiRel w T.ch k0 g vd (.int .i64 i) w5 from fun i hi => ⟨k + 1, by omega, by omega, by subst hi; exact congrArg _ (by omega), by rw [hstep.out, hins]; exact hown5.base Hb.out.size, Hb.out.trans (hb5.mono Hb.out.size)⟩)
                clear hown5 hb5 hb4 hins hlow
                go_wp2_with (at_builtin; first | refine wpList_append_run rfl _ _ _ rfl rfl rfl rfl hr2 ?_ | refine wpList_append_run rfl _ _ _ rfl rfl rfl rfl hr3 ?_ | refine wpList_append_run rfl _ _ _ rfl rfl rfl rfl hr6 ?_)
                go_roundg g
                case measure => omega
                case rel => exact hrel5.out _ rfl
              | succ g2 =>
                have hil : i < L.length := by omega
                have hil3 : (i : Int) < L.length := by omega
                obtain ⟨go, rfl, _, _, hco⟩ : ∃ go, ao = some ⟨go, 0, none⟩ ∧ w.heap.size ≤ go ∧ go < wp.heap.size ∧ ∀ i (h : i < L.length), wp.cell? ⟨go, i, none⟩ = some (strV L[i]) := by
                  rcases Hoc.out with e | h
                  · rw [e] at hil; simp at hil
                  · exact h
                have hci := hco i hil
                have hnext := Hid.mk (fun (h : L[i] < x) j (hj : j < L.length) (hji : j < i + 1) => show L[j] < x by
                  by_cases e : j = i
                  · subst e; exact h
                  · exact hlow.out j hj (by omega))
                have hhit := Hid.mk (fun (h : L[i] = x) => ins_hit hil hlow.out h)
                have hmiss := Hid.mk (fun (h : ¬ L[i] < x) (h2 : ¬ L[i] = x) => ins_at (Nat.le_of_lt hil) hlow.out (fun _ => ⟨h, h2⟩))
                clear hco hlow
                generalize L[i] = y at hci hnext hhit hmiss
                by_cases hx : y < x
                · have hb : Op.bytesLess y x = true := by rw [bytesLess_eq]; simp [hx]
                  have hn := Hid.mk (hnext.out hx)
                  clear hnext hhit hmiss hx
                  go_wp2
                  go_roundg g2
                  case measure => omega
                  case rel => exact ⟨i + 1, by omega, by go_num, hn, rfl⟩
                · have hb : Op.bytesLess y x = false := by rw [bytesLess_eq]; simp [hx]
                  by_cases hxe : y = x
                  · have hrel5 := Hid.mk (show ∀ i : Int, i = (k : Int) + 1 → SiRel w T.ch k0 g _ (.int .i64 i) wp from fun i hi => ⟨k + 1, by omega, by omega, by subst hi; exact congrArg _ (by omega), by rw [hstep.out, hhit.out hxe]; exact Hown.out, Hb.out⟩)
                    subst hxe
                    clear hnext hhit hmiss hx
                    go_wp2
                    go_roundg g
                    case measure => omega
                    case rel => exact hrel5.out _ rfl
                  · obtain ⟨v1, va, w3, vb, w4, v5, vd, w5, hr1, hr2, hr3, hr5, hr6, hown5, hb4, hb5⟩ := ins_turn Hown.out x i (by omega) (by omega)
                    have hins := hmiss.out hx hxe
                    have hrel5 := Hid.mk (show ∀ i : Int, i = (k : Int) + 1 → SiRel w T.ch k0 g vd (.int .i64 i) w5 from fun i hi => ⟨k + 1, by omega, by omega, by subst hi; exact congrArg _ (by omega), by rw [hstep.out, hins]; exact hown5.base Hb.out.size, Hb.out.trans (hb5.mono Hb.out.size)⟩)
                    have hne : (y == x) = false := by simpa using hxe
                    clear hown5 hb5 hb4 hins hnext hhit hmiss hx hxe
                    go_wp2_with (at_builtin; first | refine wpList_append_run rfl _ _ _ rfl rfl rfl rfl hr2 ?_ | refine wpList_append_run rfl _ _ _ rfl rfl rfl rfl hr3 ?_ | refine wpList_append_run rfl _ _ _ rfl rfl rfl rfl hr6 ?_)
                    go_roundg g
                    case measure => omega
                    case rel => exact hrel5.out _ rfl

end Go.Proofs.Ytejlekfnjhnklaa
