/-
  path.Is, walked.
-/
import Derived.Test.YtejlekfnjhnklaaPathP
import Derived.Test.YtejlekfnjhnklaaOwn
import Derived.Test.YtejlekfnjhnklaaShelf
import Derived.WalkKit
import Derived.ProofKit
namespace Go.Proofs.Ytejlekfnjhnklaa
open Go.RowKit

theorem drewN_below (w : World) (q : Nat) : Below w.heap.size w (w.drewN q) := ⟨rfl, rfl, rfl, Nat.le_refl _, fun _ _ => rfl⟩

set_option maxHeartbeats 1000000 in
theorem may_is (c : Nat) (w : World) : Calls Try.prog 42 #[.int .u8 c] w fun e w' => e = .returned (.bool (mayN c)) ∧ w = w' := by
  have hm := Hid.mk (mayN_iff c)
  go_enter Try.func42, Try.ntmps42
  go_wp2
  all_goals
    go_ret
    refine ⟨congrArg (fun z => Ending.returned (.bool z)) ?_, rfl⟩
    have hm := hm.out
    first
    | exact (hm.2 (by clear hm; (try simp only [beq_iff_eq, beq_eq_false_iff_ne, ne_eq] at *); omega)).symm
    | exact (Bool.eq_false_iff.2 (fun h0 => by have h := hm.1 h0; clear hm h0; (try simp only [beq_iff_eq, beq_eq_false_iff_ne, ne_eq] at *); omega)).symm

theorem may_at (s : Str) (k : Nat) (h : k < s.length) (hb : k < (bs s).size) (b : Bool) (hm : mayN s[k].toNat = b) (w : World) : Calls Try.prog 42 #[.int .u8 (((bs s)[k]'hb).toNat : Int)] w fun e w' => e = .returned (.bool b) ∧ w = w' := by
  have e : (bs s)[k]'hb = s[k] := by simp [bs, ByteArray.getElem_eq_getElem_data]
  rw [e, ← hm]
  exact may_is _ w

theorem all_take_succ {α : Type} (p : α → Bool) (l : List α) (k : Nat) (h : k < l.length) (hk : (l.take k).all p = true) (hp : p l[k] = true) : (l.take (k + 1)).all p = true := by
  rw [List.take_succ_eq_append_getElem h, List.all_append, hk]
  simp [hp]

set_option maxHeartbeats 2000000 in
theorem seg_is (s : Str) (hl : s.length ≤ 1000) (w : World) : Calls Try.prog 33 #[strV s] w fun e w' => e = .returned (.bool (segOk s)) ∧ w = w' := by
  by_cases hh : segHead s = true
  · have hh2 := hh
    simp only [segHead, Bool.and_eq_true, decide_eq_true_eq] at hh2
    obtain ⟨⟨⟨h1, h2⟩, h3⟩, h4⟩ := hh2
    have k1 : s.isEmpty = false := by simpa using h1
    have k3 : (s == [46]) = false := by simpa using h3
    have k4 : (s == [46, 46]) = false := by simpa using h4
    have hsz : (bs s).size = s.length := rfl
    have hok := Hid.mk (show segOk s = s.all (fun b => mayN b.toNat) by simp [segOk, hh])
    clear hh h1 h3 h4
    go_enter Try.func33, Try.ntmps33
    go_wp2
    go_loopg [21] s.length (fun g iv wr => ∃ k : Nat, k + g = s.length ∧ iv = .int .i64 k ∧ Hid ((s.take k).all (fun b => mayN b.toNat) = true) ∧ w = wr)
    case atStart => exact ⟨0, by omega, rfl, ⟨rfl⟩, rfl⟩
    case round =>
      obtain ⟨k, hkg, rfl, hall, rfl⟩ := hrel
      cases gk with
      | zero =>
        obtain rfl : k = s.length := by omega
        have hfin := Hid.mk (show segOk s = true by rw [hok.out]; have := hall.out; rwa [List.take_length] at this)
        clear hall hok
        go_wp2
        go_ret
        exact ⟨congrArg (fun z => Ending.returned (.bool z)) hfin.out.symm, rfl⟩
      | succ g =>
        have hlt : k < s.length := by omega
        cases hb : mayN s[k].toNat with
        | true =>
          have hnext := Hid.mk (all_take_succ _ s k hlt hall.out hb)
          have hc := Hid.mk (may_at s k hlt hlt true hb w)
          clear hb hall
          go_wp2_with (go_at_call 42; refine hc.out.mono ?_; rintro e w' ⟨rfl, rfl⟩)
          go_roundg g
          case measure => omega
          case rel => exact ⟨k + 1, by omega, by go_num, hnext, rfl⟩
        | false =>
          have hfin := Hid.mk (show segOk s = false by
            rw [hok.out]
            rw [Bool.eq_false_iff]
            intro h
            have := List.all_eq_true.1 h s[k] (List.getElem_mem hlt)
            rw [hb] at this
            cases this)
          have hc := Hid.mk (may_at s k hlt hlt false hb w)
          clear hb hall hok
          go_wp2_with (go_at_call 42; refine hc.out.mono ?_; rintro e w' ⟨rfl, rfl⟩)
          go_ret
          exact ⟨congrArg (fun z => Ending.returned (.bool z)) hfin.out.symm, rfl⟩
  · have hfin := Hid.mk (show segOk s = false by simp [segOk, hh])
    have hsz : (bs s).size = s.length := rfl
    cases k1 : s.isEmpty with
    | true =>
      clear hh
      go_enter Try.func33, Try.ntmps33
      go_wp2
      go_ret
      exact ⟨congrArg (fun z => Ending.returned (.bool z)) hfin.out.symm, rfl⟩
    | false =>
      by_cases k2 : (32 : Int) < s.length
      · clear hh
        go_enter Try.func33, Try.ntmps33
        go_wp2
        go_ret
        exact ⟨congrArg (fun z => Ending.returned (.bool z)) hfin.out.symm, rfl⟩
      · cases k3 : (s == [46]) with
        | true =>
          clear hh
          go_enter Try.func33, Try.ntmps33
          go_wp2
          go_ret
          exact ⟨congrArg (fun z => Ending.returned (.bool z)) hfin.out.symm, rfl⟩
        | false =>
          have k4 : (s == [46, 46]) = true := by
            by_cases h4 : s = [46, 46]
            · simp [h4]
            · refine absurd ?_ hh
              have h1 : s ≠ [] := by simpa using k1
              have h3 : s ≠ [46] := by simpa using k3
              have h2 : s.length ≤ 32 := by omega
              simp [segHead, h1, h2, h3, h4]
          clear hh
          go_enter Try.func33, Try.ntmps33
          go_wp2
          go_ret
          exact ⟨congrArg (fun z => Ending.returned (.bool z)) hfin.out.symm, rfl⟩

/-- The cell that the library reads: an integer. -/
def Glob (w : World) : Prop := ∃ m, w.cell? ⟨0, 0, none⟩ = some (.int .i64 m)

theorem Glob.lt {w : World} (h : Glob w) : 0 < w.heap.size := by
  obtain ⟨m, h⟩ := h
  unfold World.cell? at h
  split at h
  · rename_i hb
    exact (Array.getElem?_eq_some_iff.1 hb).1
  · cases h

theorem Glob.below {w w' : World} (h : Glob w) (hb : Below w.heap.size w w') : Glob w' := by
  obtain ⟨m, hm⟩ := h
  exact ⟨m, (hb.cell (p := ⟨0, 0, none⟩) (Glob.lt ⟨m, hm⟩)).trans hm⟩

theorem cut_none (s : Str) (hs : s.length ≤ 1000) (hc : cutS s = none) {w : World} (hg : Glob w) : Calls Try.prog 32 #[strV s, .string ⟨#[47]⟩] w fun e w' => e = .returned (.tuple #[strV s, strV [], .bool false]) ∧ Below w.heap.size w w' := by
  obtain ⟨m, hm⟩ := hg
  refine (Try.strings_Cut (bs s) ⟨#[47]⟩ m w (by show s.length < _; omega) hm).mono ?_
  rintro e w' ⟨rfl, n, rfl⟩
  refine ⟨?_, drewN_below w n⟩
  have := cut_eq s
  rw [hc] at this
  show Ending.returned (.tuple #[.string ⟨(Lib.cut s [47]).1.toArray⟩, .string ⟨(Lib.cut s [47]).2.1.toArray⟩, .bool (Lib.cut s [47]).2.2]) = _
  rw [this]

theorem cut_some (s a r : Str) (hs : s.length ≤ 1000) (hc : cutS s = some (a, r)) {w : World} (hg : Glob w) : Calls Try.prog 32 #[strV s, .string ⟨#[47]⟩] w fun e w' => e = .returned (.tuple #[strV a, strV r, .bool true]) ∧ Below w.heap.size w w' := by
  obtain ⟨m, hm⟩ := hg
  refine (Try.strings_Cut (bs s) ⟨#[47]⟩ m w (by show s.length < _; omega) hm).mono ?_
  rintro e w' ⟨rfl, n, rfl⟩
  refine ⟨?_, drewN_below w n⟩
  have := cut_eq s
  rw [hc] at this
  show Ending.returned (.tuple #[.string ⟨(Lib.cut s [47]).1.toArray⟩, .string ⟨(Lib.cut s [47]).2.1.toArray⟩, .bool (Lib.cut s [47]).2.2]) = _
  rw [this]

theorem cutS_head : ∀ {s a r : Str}, cutS s = some (a, r) → a.length ≤ s.length
  | [], _, _, h => by simp [cutS] at h
  | b :: l, a, r, h => by
    simp only [cutS] at h
    split at h
    · simp only [Option.some.injEq, Prod.mk.injEq] at h
      rw [← h.1]; simp
    · simp only [Option.map_eq_some_iff] at h
      obtain ⟨p, hp, e⟩ := h
      simp only [Prod.mk.injEq] at e
      have := cutS_head (s := l) (a := p.1) (r := p.2) hp
      rw [← e.1, List.length_cons, List.length_cons]; omega

set_option maxHeartbeats 2000000 in
theorem path_is (s : Str) {w : World} (hg : Glob w) : Calls Try.prog 18 #[strV s] w fun e w' => e = .returned (.bool (isPath s)) ∧ Below w.heap.size w w' := by
  have hsz : (bs s).size = s.length := rfl
  by_cases hl : (60 : Int) < s.length
  · have hfin := Hid.mk (isPath_long (s := s) (by omega))
    clear hg
    go_enter Try.func18, Try.ntmps18
    go_wp2
    go_ret
    exact ⟨congrArg (fun z => Ending.returned (.bool z)) hfin.out.symm, Below.refl _ _⟩
  · have hsl : s.length ≤ 60 := by omega
    have Hg := Hid.mk hg
    have hstart := Hid.mk (isPath_short hsl).symm
    clear hg
    go_enter Try.func18, Try.ntmps18
    go_wp2
    go_loopg [0] 60 (fun g v wr => ∃ x : Str, v = strV x ∧ x.length ≤ g ∧ x.length ≤ 60 ∧ Hid ((pieces x).all segOk = isPath s) ∧ Below w.heap.size w wr)
    case atStart => exact ⟨s, rfl, hsl, hsl, ⟨hstart.out⟩, Below.refl _ _⟩
    case round =>
      clear hstart
      rename World => wp
      obtain ⟨x, rfl, hxg, hx60, hp, hb⟩ := hrel
      have hpc := pieces_cut x
      have hgp := Hg.out.below hb
      have Hb := Hid.mk hb
      cases hc : cutS x with
      | none =>
        rw [hc] at hpc
        have hcall := Hid.mk (cut_none x (by omega) hc hgp)
        have hfin := Hid.mk (show segOk x = isPath s by rw [← hp.out, hpc]; simp)
        clear hpc hp hc hgp hb
        go_wp2_with fail
        refine hcall.out.mono ?_
        rintro e w1 ⟨rfl, hb⟩
        have Hb1 := Hid.mk (Hb.out.trans (hb.mono Hb.out.size))
        clear hb hcall
        go_wp2_with fail
        refine (seg_is x (by omega) w1).mono ?_
        rintro e w2 ⟨rfl, rfl⟩
        cases ho : segOk x with
        | true =>
          have hfin2 := Hid.mk (hfin.out.symm.trans ho)
          clear ho hfin
          go_wp2
          go_ret
          exact ⟨congrArg (fun z => Ending.returned (.bool z)) hfin2.out.symm, Hb1.out⟩
        | false =>
          have hfin2 := Hid.mk (hfin.out.symm.trans ho)
          clear ho hfin
          go_wp2
          go_ret
          exact ⟨congrArg (fun z => Ending.returned (.bool z)) hfin2.out.symm, Hb1.out⟩
      | some p =>
        obtain ⟨a, r⟩ := p
        rw [hc] at hpc
        have hcall := Hid.mk (cut_some x a r (by omega) hc hgp)
        have hsh := cutS_shorter hc
        have hah := cutS_head hc
        have hfin := Hid.mk (show (segOk a && (pieces r).all segOk) = isPath s by rw [← hp.out, hpc]; simp)
        clear hpc hp hc hgp hb
        go_wp2_with fail
        refine hcall.out.mono ?_
        rintro e w1 ⟨rfl, hb⟩
        have Hb1 := Hid.mk (Hb.out.trans (hb.mono Hb.out.size))
        clear hb hcall
        go_wp2_with fail
        refine (seg_is a (by omega) w1).mono ?_
        rintro e w2 ⟨rfl, rfl⟩
        cases ho : segOk a with
        | true =>
          have hfin2 := Hid.mk (show (pieces r).all segOk = isPath s by rw [← hfin.out, ho]; rfl)
          clear ho hfin
          cases gk with
          | zero => omega
          | succ g =>
            go_wp2
            go_roundg g
            case measure => omega
            case rel => exact ⟨r, rfl, by omega, by omega, hfin2, Hb1.out⟩
        | false =>
          have hfin2 := Hid.mk (show isPath s = false by rw [← hfin.out, ho]; rfl)
          clear ho hfin
          go_wp2
          go_ret
          exact ⟨congrArg (fun z => Ending.returned (.bool z)) hfin2.out.symm, Hb1.out⟩

end Go.Proofs.Ytejlekfnjhnklaa
