/-
  The law's 'since': the number that an Op asks about.
-/
import Derived.Test.YtejlekfnjhnklaaTexts
namespace Go.Proofs.Ytejlekfnjhnklaa
open Go.RowKit Go.Maps

/-- An Op as a value. -/
def opV (k : Int) (p s : Str) (n : Int) : Value := .agg #[.int .i64 k, strV p, strV s, .int .i64 n]

def sinceN (n : Int) (mark : Nat) : Int := if n < 0 then (mark : Int) + n else n

set_option maxHeartbeats 1000000 in
theorem since_is (w : World) (k n : Int) (p s : Str) (mark : Nat) (hn : -9223372036854775808 ≤ n) (hm : mark ≤ 1048576) : Calls Try.prog 29 #[opV k p s n, .int .i64 mark] w fun e w' => e = .returned (.int .i64 (sinceN n mark)) ∧ Below w.heap.size w w' := by
  unfold opV
  by_cases h : n < 0
  · have hs := Hid.mk (show sinceN n mark = (mark : Int) + n by simp [sinceN, h])
    have hw : wrap64 ((mark : Int) + n) = (mark : Int) + n := by unfold wrap64; omega
    go_enter Try.func29, Try.ntmps29
    go_wp2
    go_ret
    rw [hs.out]
    exact ⟨rfl, (Below.refl _ _).alloc (Nat.le_refl _) _⟩
  · have hs := Hid.mk (show sinceN n mark = n by simp [sinceN, h])
    go_enter Try.func29, Try.ntmps29
    go_wp2
    go_ret
    rw [hs.out]
    exact ⟨rfl, (Below.refl _ _).alloc (Nat.le_refl _) _⟩

end Go.Proofs.Ytejlekfnjhnklaa
