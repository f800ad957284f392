/-
  cmp.Compare of texts, slices.Compare of lists of texts.
-/
import Derived.Test.YtiinmmgknlnkaaaEdges
import Derived.Sort.Walk0
namespace Go.Proofs.Ytiinmmgknlnkaaa
open Go.RowKit Go.Maps

def cmpS (x y : Str) : Int := if x < y then -1 else if y < x then 1 else 0

def cmpL : List Str → List Str → Int
  | [], [] => 0
  | [], _ :: _ => -1
  | _ :: _, [] => 1
  | a :: r, b :: s => if cmpS a b = 0 then cmpL r s else cmpS a b

theorem isNaN_is (x : Str) (w : World) : Calls Try.prog 47 #[strV x] w fun e w' => e = .returned (.bool false) ∧ w = w' := by
  go_enter Try.func47, Try.ntmps47
  go_wp2
  go_ret
  exact ⟨rfl, rfl⟩

theorem cmpCompare_is (x y : Str) (w : World) : Calls Try.prog 39 #[strV x, strV y] w fun e w' => e = .returned (.int .i64 (cmpS x y)) ∧ w = w' := by
  have hless : ∀ a b : Str, Op.bytesLess a b = decide (a < b) := bytesLess_eq
  rcases str_tri x y with h | h | h
  · have hc : cmpS x y = -1 := by simp [cmpS, h]
    have h1 : Op.bytesLess x y = true := by rw [hless]; simp [h]
    rw [hc]
    clear hless hc
    go_enter Try.func39, Try.ntmps39
    go_wp2_with (go_at_call 47; refine (isNaN_is _ _).mono ?_; rintro e w' ⟨rfl, rfl⟩)
    go_ret
    exact ⟨rfl, rfl⟩
  · subst h
    have hc : cmpS x x = 0 := by simp [cmpS, str_lt_irrefl]
    have h1 : Op.bytesLess x x = false := by rw [hless]; simp [str_lt_irrefl]
    rw [hc]
    clear hless hc
    go_enter Try.func39, Try.ntmps39
    go_wp2_with (go_at_call 47; refine (isNaN_is _ _).mono ?_; rintro e w' ⟨rfl, rfl⟩)
    go_ret
    exact ⟨rfl, rfl⟩
  · have hc : cmpS x y = 1 := by simp [cmpS, h, str_lt_asymm h]
    have h1 : Op.bytesLess x y = false := by rw [hless]; simp [str_lt_asymm h]
    have h2 : (x == y) = false := by simp; rintro rfl; exact str_lt_irrefl _ h
    rw [hc]
    clear hless hc h
    go_enter Try.func39, Try.ntmps39
    go_wp2_with (go_at_call 47; refine (isNaN_is _ _).mono ?_; rintro e w' ⟨rfl, rfl⟩)
    go_ret
    exact ⟨rfl, rfl⟩

theorem cmpS_zero {x y : Str} : cmpS x y = 0 ↔ x = y := by
  unfold cmpS
  rcases str_tri x y with h | h | h
  · simp [h]; rintro rfl; exact str_lt_irrefl _ h
  · subst h; simp [str_lt_irrefl]
  · simp [h, str_lt_asymm h]; rintro rfl; exact str_lt_irrefl _ h

theorem cmpS_bounds (x y : Str) : -1 ≤ cmpS x y ∧ cmpS x y ≤ 1 := by
  unfold cmpS; split <;> (try split) <;> omega

set_option maxHeartbeats 1000000 in
theorem compare_is (w : World) (g1 g2 n m c1 c2 : Nat) (l1 l2 : List Str) (hn : n = l1.length) (hm : m = l2.length) (h1 : ∀ i (h : i < l1.length), w.cell? ⟨g1, i, none⟩ = some (strV l1[i])) (h2 : ∀ i (h : i < l2.length), w.cell? ⟨g2, i, none⟩ = some (strV l2[i])) (_hs1 : l1.length ≤ 1048576) (hs2 : l2.length ≤ 1048576) :
    Calls Try.prog 28 #[.slice (some ⟨g1, 0, none⟩) n c1, .slice (some ⟨g2, 0, none⟩) m c2] w fun e w' => e = .returned (.int .i64 (cmpL l1 l2)) ∧ w = w' := by
  have H1 := Hid.mk h1
  have H2 := Hid.mk h2
  subst hn
  subst hm
  clear h1 h2
  go_enter Try.func28, Try.ntmps28
  go_wp2
  go_loopg [11] l1.length (fun g iv wr => ∃ k : Nat, k + g = l1.length ∧ iv = .int .i64 k ∧ k ≤ l2.length ∧ Hid (cmpL (l1.drop k) (l2.drop k) = cmpL l1 l2) ∧ w = wr)
  case atStart => exact ⟨0, by omega, rfl, Nat.zero_le _, ⟨rfl⟩, rfl⟩
  case round =>
    obtain ⟨k, hkg, rfl, hk2, hc, rfl⟩ := hrel
    cases gk with
    | zero =>
      obtain rfl : k = l1.length := by omega
      have hd1 : l1.drop l1.length = [] := List.drop_eq_nil_of_le (by omega)
      by_cases hlt : l1.length < l2.length
      · have hres := Hid.mk (show cmpL l1 l2 = -1 by
          rw [← hc.out, hd1]
          rw [List.drop_eq_getElem_cons hlt]
          rfl)
        have hlt2 : l1.length < l2.length := by omega
        clear hd1 hc
        go_wp2
        go_ret
        exact ⟨congrArg (fun z => Ending.returned (.int .i64 z)) hres.out.symm, rfl⟩
      · have hres := Hid.mk (show cmpL l1 l2 = 0 by
          rw [← hc.out, hd1, List.drop_eq_nil_of_le (show l2.length ≤ l1.length by omega)]
          rfl)
        have hlt2 : ¬ l1.length < l2.length := by omega
        clear hd1 hc
        go_wp2
        go_ret
        exact ⟨congrArg (fun z => Ending.returned (.int .i64 z)) hres.out.symm, rfl⟩
    | succ g =>
      have hlt : k < l1.length := by omega
      have hc1 := H1.out k hlt
      by_cases hlt2 : k < l2.length
      · have hc2 := H2.out k hlt2
        have hdd := Hid.mk (show (if cmpS l1[k] l2[k] = 0 then cmpL (l1.drop (k + 1)) (l2.drop (k + 1)) else cmpS l1[k] l2[k]) = cmpL l1 l2 by
          rw [← hc.out, List.drop_eq_getElem_cons hlt, List.drop_eq_getElem_cons hlt2]
          rfl)
        have hb := cmpS_bounds l1[k] l2[k]
        generalize l1[k] = x at hc1 hdd hb
        generalize l2[k] = y at hc2 hdd hb
        by_cases he : cmpS x y = 0
        · have hd2 := Hid.mk (show cmpL (l1.drop (k + 1)) (l2.drop (k + 1)) = cmpL l1 l2 by have := hdd.out; rw [if_pos he] at this; exact this)
          have hcc := cmpCompare_is x y w
          rw [he] at hcc
          have Hcc := Hid.mk hcc
          clear hcc hdd hc he hb
          go_wp2_with (go_at_call 39; refine Hcc.out.mono ?_; rintro e w' ⟨rfl, rfl⟩)
          go_roundg g
          case measure => omega
          case rel => exact ⟨k + 1, by omega, by go_num, hlt2, hd2, rfl⟩
        · have hd2 := Hid.mk (show cmpS x y = cmpL l1 l2 by have := hdd.out; rw [if_neg he] at this; exact this)
          have Hcc := Hid.mk (cmpCompare_is x y w)
          have hne : (cmpS x y == 0) = false := by simp [he]
          generalize cmpS x y = z at Hcc hne hd2 hb
          clear hdd hc he
          go_wp2_with (go_at_call 39; refine Hcc.out.mono ?_; rintro e w' ⟨rfl, rfl⟩)
          go_ret
          exact ⟨congrArg (fun z => Ending.returned (.int .i64 z)) hd2.out, rfl⟩
      · have hres := Hid.mk (show cmpL l1 l2 = 1 by
          rw [← hc.out, List.drop_eq_getElem_cons hlt, List.drop_eq_nil_of_le (show l2.length ≤ k by omega)]
          rfl)
        have hle : l2.length ≤ k := by omega
        clear hc
        go_wp2
        go_ret
        exact ⟨congrArg (fun z => Ending.returned (.int .i64 z)) hres.out.symm, rfl⟩

end Go.Proofs.Ytiinmmgknlnkaaa
