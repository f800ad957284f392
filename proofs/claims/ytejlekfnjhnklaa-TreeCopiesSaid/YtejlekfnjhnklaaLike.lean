/-
  The law's 'like': both trees tell the same; both trees side by side.
-/
import Derived.Test.YtejlekfnjhnklaaListed
namespace Go.Proofs.Ytejlekfnjhnklaa
open Go.RowKit Go.Maps

/-- Both trees, side by side, with the same files and changes. -/
structure Duo (w : World) (p : Nat) (m : Option Nat) (last : Nat → Str) (r : Nat) (vf vc : Value) (T : Tr) : Prop where
  t : IsTree w 0 p m last T
  r : IsRef w 0 r vf vc T
  g : Glob w

theorem Duo.below {w w' : World} {p : Nat} {m : Option Nat} {last : Nat → Str} {r : Nat} {vf vc : Value} {T : Tr} (h : Duo w p m last r vf vc T) (hb : Below w.heap.size w w') : Duo w' p m last r vf vc T := ⟨h.t.below hb, h.r.below hb, h.g.below hb⟩

theorem below_drewN (w : World) (n : Nat) : Below w.heap.size w (w.drewN n) := drewN_below w n

theorem read_file {T : Tr} (hok : T.ok) {k : Nat} (h : k < T.fs.length) : T.read T.fs[k].1 = (T.fs[k].2, 0) := by
  have hm := List.getElem_mem h
  unfold Tr.read
  rw [hok.paths _ hm, (look_some hok.rise (p := T.fs[k].1) (s := T.fs[k].2)).2 hm]
  rfl

theorem keys_get {fs : FileL} {k : Nat} (h : k < fs.length) : (keys fs)[k]'(by simpa using h) = fs[k].1 := by simp

set_option maxHeartbeats 8000000 in
set_option maxRecDepth 100000 in
theorem like_is {w : World} {p : Nat} {m : Option Nat} {last : Nat → Str} {r : Nat} {vf vc : Value} {T : Tr} (h : Duo w p m last r vf vc T) (hok : T.ok) (hch : T.ch.length ≤ 1000000) :
    Calls Try.prog 10 #[.pointer (some ⟨p, 0, none⟩), .pointer (some ⟨r, 0, none⟩)] w fun e w' => e = .returned (.bool true) ∧ Below w.heap.size w w' := by
  obtain ⟨af, capf, rfl, hcapf, hf⟩ := h.r.files.is
  obtain ⟨ac, capc, rfl, _⟩ := h.r.chs.open
  have H := Hid.mk h
  have Hok := Hid.mk hok
  have Hf := Hid.mk hf
  have hkl : (keys T.fs).length = T.fs.length := by simp
  have hfew := hok.few
  clear h hok hf
  go_enter Try.func10, Try.ntmps10
  go_wp2_with fail
  refine (listed_is H.out.t Hok.out []).mono ?_
  rintro e w1 ⟨v, rfl, hown, hb⟩
  rw [listOf_nil] at hown
  obtain ⟨al, cl, rfl, hoc⟩ := hown.open
  rw [hkl]
  have Hoc := Hid.mk hoc
  have Hb := Hid.mk hb
  have D := Hid.mk (H.out.below hb)
  have c0 := D.out.r.cell0
  have c1 := D.out.r.cell1
  have hL := Hid.mk (fun n => (len_is (D.out.t.below (below_drewN w1 n)) Hok.out.rise).mono (R' := fun e w' => e = .returned (.int .i64 T.fs.length) ∧ w' = w1.drewN n) (fun _ _ h => ⟨h.1, h.2.symm⟩))
  have hM := Hid.mk (fun n => (mark_is (D.out.t.below (below_drewN w1 n))).mono (R' := fun e w' => e = .returned (.int .i64 T.ch.length) ∧ w' = w1.drewN n) (fun _ _ h => ⟨h.1, h.2.symm⟩))
  clear hown hoc hb
  have hHkl := Hid.mk hkl
  clear hkl
  go_wp2
  go_quiet ((first | (go_at_call 19; exact Calls.quiet_of_same (hL.out _)) | (go_at_call 14; exact Calls.quiet_of_same (hM.out _))))
  clear hL hM
  go_wp2
  go_loopg [7] T.fs.length (fun g iv wr => ∃ k : Nat, k + g = T.fs.length ∧ iv = .int .i64 k ∧ Below w1.heap.size w1 wr)
  case atStart => exact ⟨0, by omega, rfl, below_drewN _ _⟩
  case round =>
    rename World => wp
    obtain ⟨k, hkg, rfl, hbel⟩ := hrel
    have Hbel := Hid.mk hbel
    have Dp := Hid.mk (D.out.below hbel)
    have c0 := Dp.out.r.cell0
    have c1 := Dp.out.r.cell1
    cases gk with
    | zero =>
      obtain rfl : k = T.fs.length := by omega
      clear hbel
      go_wp2_with fail
      refine (trSince_is Dp.out.t (by omega) ((T.ch.length : Int) - 32) (by omega) (by omega)).mono ?_
      rintro e w2 ⟨va, rfl, hva, hb⟩
      have Hb2 := Hid.mk (Hb.out.trans ((Hbel.out.trans (hb.mono Hbel.out.size)).mono Hb.out.size))
      have D2 := Hid.mk (Dp.out.below hb)
      have Hva := Hid.mk hva
      have c0 := D2.out.r.cell0
      have c1 := D2.out.r.cell1
      clear hva hb Dp
      go_wp2_with fail
      refine (refSince_is D2.out.r hch ((T.ch.length : Int) - 32) (by omega) (by omega)).mono ?_
      rintro e w3 ⟨vb, rfl, hvb, hb⟩
      have Hb3 := Hid.mk (Hb2.out.trans (hb.mono Hb2.out.size))
      have Hva3 := Hid.mk (Hva.out.below hb)
      have Hvb := Hid.mk hvb
      have hlen : (T.since ((T.ch.length : Int) - 32)).1.length ≤ 1048576 := by
        unfold Tr.since
        split
        · simp
        · refine Nat.le_trans (insAll_length _) ?_
          rw [List.length_drop]; omega
      generalize T.since ((T.ch.length : Int) - 32) = SI at Hva3 Hvb hlen ⊢
      clear hvb hb D2 Hb2 Hva
      go_wp2_with fail
      refine (texts_is Hva3.out Hvb.out hlen).mono ?_
      rintro e w4 ⟨rfl, hb⟩
      have Hb4 := Hid.mk (Hb3.out.trans (hb.mono Hb3.out.size))
      clear hb
      go_wp2
      go_ret
      exact ⟨by simp, Hb4.out⟩
    | succ g =>
      have hlt : k < T.fs.length := by omega
      have hlt3 : (k : Int) < T.fs.length := by omega
      obtain ⟨gl, rfl, _, hgl, hcl⟩ : ∃ gl, al = some ⟨gl, 0, none⟩ ∧ w.heap.size ≤ gl ∧ gl < w1.heap.size ∧ ∀ i (h : i < (keys T.fs).length), w1.cell? ⟨gl, i, none⟩ = some (strV (keys T.fs)[i]) := by
        rcases Hoc.out with e | h
        · have := hHkl.out
          rw [e] at this
          simp at this; omega
        · exact h
      obtain ⟨gf, off, rfl, hgf, hcf⟩ : ∃ gf off, af = some ⟨gf, off, none⟩ ∧ gf < w.heap.size ∧ ∀ i (h : i < T.fs.length), w.cell? ⟨gf, off + i * 2, none⟩ = some (strV T.fs[i].1) ∧ w.cell? ⟨gf, off + i * 2 + 1, none⟩ = some (strV T.fs[i].2) := by
        rcases Hf.out with e | h
        · rw [e] at hlt; simp at hlt
        · exact h
      have hbw := Hb.out.trans (hbel.mono Hb.out.size)
      have d1 : wp.cell? ⟨gl, k, none⟩ = some (strV T.fs[k].1) := by
        have := cell_block (hcl k (by rw [hHkl.out]; exact hlt)) (hbel.block _ hgl)
        rwa [keys_get hlt] at this
      have d2 : wp.cell? ⟨gf, off + k * 2, none⟩ = some (strV T.fs[k].1) := cell_block (hcf k hlt).1 (hbw.block _ hgf)
      have d3 : wp.cell? ⟨gf, off + k * 2 + 1, none⟩ = some (strV T.fs[k].2) := cell_block (hcf k hlt).2 (hbw.block _ hgf)
      have hcall := read_is Dp.out.t Dp.out.g T.fs[k].1
      rw [read_file Hok.out hlt] at hcall
      have Hcall := Hid.mk hcall
      have hg1 := cell_lt d1
      have hg2 := cell_lt d2
      generalize T.fs[k].1 = x at d1 d2 Hcall
      generalize T.fs[k].2 = y at d3 Hcall
      clear hcl hcf hcall hbel hbw
      go_wp2_with fail
      refine Hcall.out.mono ?_
      rintro e w2 ⟨rfl, hb⟩
      have e1 : w2.cell? ⟨gl, k, none⟩ = some (strV x) := cell_block d1 (hb.block _ hg1)
      have e2 : w2.cell? ⟨gf, off + k * 2, none⟩ = some (strV x) := cell_block d2 (hb.block _ hg2)
      have e3 : w2.cell? ⟨gf, off + k * 2 + 1, none⟩ = some (strV y) := cell_block d3 (hb.block _ hg2)
      have e4 := (Dp.out.below hb).r.cell0
      have Hb2 := Hid.mk (Hbel.out.trans (hb.mono Hbel.out.size))
      clear hb Hcall d1 d2 d3
      go_wp2
      go_quiet (fail)
      go_wp2
      go_roundg g
      case measure => omega
      case rel => exact ⟨k + 1, by omega, by go_num, Hb2.out.trans ((below_drewN _ _).mono Hb2.out.size)⟩

end Go.Proofs.Ytejlekfnjhnklaa
