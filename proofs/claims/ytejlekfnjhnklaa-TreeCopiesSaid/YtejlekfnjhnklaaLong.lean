/-
  Scripts in memory; the law's 'long'; 'works'.
-/
import Derived.Test.YtejlekfnjhnklaaDoes
import Derived.IntWalk
namespace Go.Proofs.Ytejlekfnjhnklaa
open Go.RowKit Go.Maps

/-- A call, as a script has it. -/
structure OpT where
  k : Int
  x : Str
  s : Str
  n : Int

/-- v is a slice of the calls l. -/
def IsOps (w : World) (v : Value) (l : List OpT) : Prop := ∃ a cap, v = .slice a l.length cap ∧ (l = [] ∨ ∃ g off, a = some ⟨g, off, none⟩ ∧ g < w.heap.size ∧ ∀ i (h : i < l.length),
  w.cell? ⟨g, off + i * 4, none⟩ = some (.int .i64 l[i].k) ∧ w.cell? ⟨g, off + i * 4 + 1, none⟩ = some (strV l[i].x) ∧ w.cell? ⟨g, off + i * 4 + 2, none⟩ = some (strV l[i].s) ∧ w.cell? ⟨g, off + i * 4 + 3, none⟩ = some (.int .i64 l[i].n))

theorem IsOps.below {w w' : World} {v : Value} {l : List OpT} (h : IsOps w v l) (hb : Below w.heap.size w w') : IsOps w' v l := by
  obtain ⟨a, cap, hv, h0 | ⟨g, off, ha, hg, hc⟩⟩ := h
  · exact ⟨a, cap, hv, .inl h0⟩
  · exact ⟨a, cap, hv, .inr ⟨g, off, ha, Nat.lt_of_lt_of_le hg hb.size, fun i h => ⟨cell_block (hc i h).1 (hb.block _ hg), cell_block (hc i h).2.1 (hb.block _ hg), cell_block (hc i h).2.2.1 (hb.block _ hg), cell_block (hc i h).2.2.2 (hb.block _ hg)⟩⟩⟩

def tot (l : List OpT) : Nat := (l.map fun o => o.x.length + o.s.length + 1).sum

theorem tot_succ {l : List OpT} {k : Nat} (h : k < l.length) : tot (l.take (k + 1)) = tot (l.take k) + (l[k].x.length + l[k].s.length + 1) := by
  unfold tot
  rw [List.take_succ_eq_append_getElem h, List.map_append, List.sum_append, List.map_cons, List.map_nil, List.sum_cons, List.sum_nil]
  omega

theorem tot_take (l : List OpT) (k : Nat) : tot (l.take k) ≤ tot l := by
  conv => rhs; rw [← List.take_append_drop k l]
  unfold tot
  rw [List.map_append, List.sum_append]
  omega

theorem len_tot (l : List OpT) : l.length ≤ tot l := by
  induction l with
  | nil => simp
  | cons a r ih =>
    have : tot (a :: r) = (a.x.length + a.s.length + 1) + tot r := by simp [tot]
    rw [this, List.length_cons]; omega

def longB (l : List OpT) : Bool := decide (1048576 ≤ tot l) || decide (2000 < l.length)

def LoRel (w : World) (l : List OpT) (g : Nat) (nv iv : Value) (wr : World) : Prop := ∃ k : Nat, k + g = l.length ∧ iv = .int .i64 k ∧ nv = .int .i64 (tot (l.take k) : Nat) ∧ (k = 0 ∨ tot (l.take (k - 1)) < 1048576) ∧ Below w.heap.size w wr

set_option maxHeartbeats 4000000 in
set_option maxRecDepth 100000 in
theorem long_is {w : World} {v : Value} {l : List OpT} (h : IsOps w v l) (hs : ∀ o ∈ l, o.x.length ≤ 140737488351232 ∧ o.s.length ≤ 140737488351232) (hl : l.length ≤ 140737488351232) : Calls Try.prog 8 #[v] w fun e w' => e = .returned (.bool (longB l)) ∧ Below w.heap.size w w' := by
  obtain ⟨a, cap, rfl, hc⟩ := h
  have Hc := Hid.mk hc
  have Hs := Hid.mk hs
  clear hc hs
  go_enter Try.func8, Try.ntmps8
  go_wp2
  go_loopg [3, 4] l.length (fun g nv iv wr => LoRel w l g nv iv wr)
  case atStart => exact ⟨0, by omega, rfl, by simp [tot], .inl rfl, Below.refl _ _⟩
  case round =>
    rename World => wp
    obtain ⟨k, hkg, rfl, rfl, hprev, hb⟩ := hrel
    have Hb := Hid.mk hb
    have Hprev := Hid.mk hprev
    clear hprev
    by_cases hbig : (1048576 : Int) ≤ (tot (l.take k) : Nat)
    · have hfin := Hid.mk (show longB l = true by
        have := tot_take l k
        simp only [longB, Bool.or_eq_true, decide_eq_true_eq]
        left; omega)
      have hn : ¬ ((tot (l.take k) : Nat) : Int) < 1048576 := by omega
      generalize tot (l.take k) = n at hbig hn
      by_cases hkl : (k : Int) < l.length
      · clear hb
        go_wp2
        go_ret
        exact ⟨congrArg (fun z => Ending.returned (.bool z)) hfin.out.symm, Hb.out⟩
      · clear hb
        go_wp2
        go_ret
        exact ⟨congrArg (fun z => Ending.returned (.bool z)) hfin.out.symm, Hb.out⟩
    · have hn : ((tot (l.take k) : Nat) : Int) < 1048576 := by omega
      cases gk with
      | zero =>
        obtain rfl : k = l.length := by omega
        rw [List.take_length] at hn hbig
        have hfin := Hid.mk (show longB l = decide (2000 < l.length) by
          simp only [longB]
          rw [show decide (1048576 ≤ tot l) = false by simp; omega]
          rfl)
        simp only [List.take_length]
        generalize tot l = n at hbig hn
        clear hb
        by_cases h2 : (2000 : Int) < l.length
        · have h3 := Hid.mk (show decide (2000 < l.length) = true by simp; omega)
          go_wp2
          go_ret
          exact ⟨congrArg (fun z => Ending.returned (.bool z)) (by rw [hfin.out, h3.out]), Hb.out⟩
        · have h3 := Hid.mk (show decide (2000 < l.length) = false by simp; omega)
          go_wp2
          go_ret
          exact ⟨congrArg (fun z => Ending.returned (.bool z)) (by rw [hfin.out, h3.out]), Hb.out⟩
      | succ g =>
        have hlt : k < l.length := by omega
        have hlt3 : (k : Int) < l.length := by omega
        obtain ⟨gl, off, rfl, hgl, hcl⟩ : ∃ gl off, a = some ⟨gl, off, none⟩ ∧ gl < w.heap.size ∧ ∀ i (h : i < l.length), w.cell? ⟨gl, off + i * 4, none⟩ = some (.int .i64 l[i].k) ∧ w.cell? ⟨gl, off + i * 4 + 1, none⟩ = some (strV l[i].x) ∧ w.cell? ⟨gl, off + i * 4 + 2, none⟩ = some (strV l[i].s) ∧ w.cell? ⟨gl, off + i * 4 + 3, none⟩ = some (.int .i64 l[i].n) := by
          rcases Hc.out with e | h
          · rw [e] at hlt; simp at hlt
          · exact h
        have d1 : wp.cell? ⟨gl, off + k * 4 + 1, none⟩ = some (strV l[k].x) := cell_block (hcl k hlt).2.1 (hb.block _ hgl)
        have d2 : wp.cell? ⟨gl, off + k * 4 + 2, none⟩ = some (strV l[k].s) := cell_block (hcl k hlt).2.2.1 (hb.block _ hgl)
        have hstep := Hid.mk (tot_succ hlt)
        obtain ⟨hx1, hx2⟩ := Hs.out _ (List.getElem_mem hlt)
        have hnn := Hid.mk (show tot (l.take k) < 1048576 by omega)
        generalize l[k].x = x at d1 hstep hx1
        generalize l[k].s = s at d2 hstep hx2
        have hz1 : (bs x).size = x.length := rfl
        have hz2 : (bs s).size = s.length := rfl
        have hrel5 := Hid.mk (show ∀ (i n : Int) (w' : World), i = (k : Int) + 1 → n = (tot (l.take k) : Nat) + ((x.length : Int) + s.length + 1) → Below w.heap.size w w' → LoRel w l g (.int .i64 n) (.int .i64 i) w' from fun i n w' hi hn hb => ⟨k + 1, by omega, by subst hi; exact congrArg _ (by omega), by rw [hstep.out]; subst hn; exact congrArg _ (by omega), .inr (by simpa using hnn.out), hb⟩)
        generalize tot (l.take k) = n at hn hbig hrel5
        have hn0 : (0 : Int) ≤ (n : Int) := by omega
        clear hcl hb hstep
        have q : IntKind.i64.wrap ((x.length : Int) + s.length) = (x.length : Int) + s.length ∧ IntKind.i64.wrap ((x.length : Int) + s.length + 1) = (x.length : Int) + s.length + 1 ∧ IntKind.i64.wrap ((n : Int) + ((x.length : Int) + s.length + 1)) = (n : Int) + ((x.length : Int) + s.length + 1) := ⟨IntWalk.i64_in _ (by omega), IntWalk.i64_in _ (by omega), IntWalk.i64_in _ (by omega)⟩
        obtain ⟨q1, q2, q3⟩ := q
        go_wp2
        go_quiet (fail)
        clear q1 q2 q3
        go_wp2
        go_roundg g
        case measure => omega
        case rel => exact hrel5.out _ _ _ rfl rfl (Hb.out.trans ((below_drewN _ _).mono Hb.out.size))

theorem IsTree.zero {w : World} {b p : Nat} {m : Option Nat} {last : Nat → Str} {T : Tr} (h : IsTree w b p m last T) : IsTree w 0 p m last T :=
  ⟨Nat.zero_le _, h.block, h.ring, h.n, h.map, h.files.imp id (fun ⟨q, h1, _, h2⟩ => ⟨q, h1, Nat.zero_le _, h2⟩), h.keeps⟩

/-- A tree of the call's own. -/
def NewTree (w : World) (e : Ending) (w' : World) : Prop := ∃ p q last, e = .returned (.pointer (some ⟨p, 0, none⟩)) ∧ IsTree w' 0 p (some q) last Tr.empty ∧ w.heap.size ≤ p ∧ w.heap.size ≤ q ∧ Below w.heap.size w w'

theorem newTree_is (w : World) : Calls Try.prog 9 #[] w (NewTree w) := by
  refine (new_is (b := w.heap.size) (Nat.le_refl _)).mono ?_
  rintro e w' ⟨p, q, last, rfl, h, hb⟩
  refine ⟨p, q, last, rfl, h.zero, h.here, ?_, hb⟩
  rcases h.files with ⟨h1, _⟩ | ⟨q', h1, h2, _⟩
  · cases h1
  · cases h1; exact h2

/-- A turned tree of the call's own. -/
theorem chg_own {w w1 w2 : World} {p : Nat} {m : Option Nat} (hb : Below w.heap.size w w1) (hp : w.heap.size ≤ p) (hm : ∀ q, m = some q → w.heap.size ≤ q) (h : Chg (fun k => k = p ∨ m = some k) w1 w2) : Below w.heap.size w w2 :=
  ⟨h.os.trans hb.os, h.tape.trans hb.tape, h.output.trans hb.output, Nat.le_trans hb.size h.size, fun k hk => (h.block k (Nat.lt_of_lt_of_le hk hb.size) (fun e => by
    rcases e with rfl | e
    · omega
    · have := hm k e; omega)).trans (hb.block k hk)⟩

set_option maxHeartbeats 4000000 in
set_option maxRecDepth 100000 in
theorem works10_is {w : World} (hg : Glob w) : Calls Try.prog 7 #[] w fun e w' => e = .returned (.bool true) ∧ Below w.heap.size w w' := by
  have Hg := Hid.mk hg
  have heqf : ∀ (w : World) (c : Array Value), (binOp .eql 59 (.func (.func 47) #[] c) Value.nilFunc).run Try.prog w = .ok (.bool false) w := fun w c => by kernel_rfl
  clear hg
  go_enter Try.func7, Try.ntmps7
  go_wp2_with fail
  refine (newTree_is w).mono ?_
  rintro e w1 ⟨p, q, last, rfl, ht, hp, hq, hb⟩
  have H := Hid.mk ht
  have Hb := Hid.mk hb
  have hw : Tr.empty.write [97] [120] = (⟨[([97], [120])], [[97]]⟩, 0) := rfl
  have hcall := (write_is ht (Hg.out.below hb) Tr.ok.empty (by simp [Tr.empty]) [97] [120])
  rw [hw] at hcall
  have Hcall := Hid.mk hcall
  clear ht hb hcall hw
  go_wp2_with fail
  refine Hcall.out.mono ?_
  rintro e w2 ⟨rfl, m2, last2, ht2, hm2, hc2⟩
  have H2 := Hid.mk ht2
  have Hb2 := Hid.mk (chg_own Hb.out hp (fun q' e => by cases e; exact hq) hc2)
  have hok : Tr.ok ⟨[([97], [120])], [[97]]⟩ := ⟨by decide, by decide, by decide, by decide, by decide⟩
  have Hok := Hid.mk hok
  clear ht2 hm2 hc2 Hcall hok
  go_wp2_with fail
  refine (list_is H2.out Hok.out []).mono ?_
  rintro e w3 ⟨B, v, rfl, _, _, _, hb⟩
  have H3 := Hid.mk (H2.out.below hb)
  have Hb3 := Hid.mk (Hb2.out.trans (hb.mono Hb2.out.size))
  have hr : Tr.read ⟨[([97], [120])], [[97]]⟩ [97] = ([120], 0) := rfl
  have hcall := read_is H3.out (Hg.out.below Hb3.out) [97]
  rw [hr] at hcall
  have Hcall := Hid.mk hcall
  clear hb hcall hr H2
  go_wp2_with fail
  refine Hcall.out.mono ?_
  rintro e w4 ⟨rfl, hb⟩
  have H4 := Hid.mk (H3.out.below hb)
  have Hb4 := Hid.mk (Hb3.out.trans (hb.mono Hb3.out.size))
  clear hb
  go_wp2_with fail
  refine (mark_is H4.out).mono ?_
  rintro e w5 ⟨rfl, rfl⟩
  go_wp2
  go_ret
  exact ⟨rfl, Hb4.out⟩

end Go.Proofs.Ytejlekfnjhnklaa
