/-
  The program's tree in memory.
-/
import Derived.Test.YtejlekfnjhnklaaSince10
import Derived.Deep.RegionLaw
namespace Go.Proofs.Ytejlekfnjhnklaa
open Go.RowKit Go.Maps

/-- The ring holds the last 32 changes. -/
def Ring (ch : List Str) (last : Nat → Str) : Prop := ∀ k (h : k < ch.length), ch.length ≤ k + 32 → last (k % 32) = ch[k]

/-- The program's tree, in block p; its map (if any) in block m. -/
structure IsTree (w : World) (b p : Nat) (m : Option Nat) (last : Nat → Str) (T : Tr) : Prop where
  here : b ≤ p
  block : ∃ c, w.heap[p]? = some (.cells c 32 (0, 0))
  ring : ∀ i, i < 32 → w.cell? ⟨p, i, none⟩ = some (strV (last i))
  n : w.cell? ⟨p, 32, none⟩ = some (.int .i64 T.ch.length)
  map : w.cell? ⟨p, 33, none⟩ = some (.map m)
  files : (m = none ∧ T.fs = []) ∨ ∃ q, m = some q ∧ b ≤ q ∧ MapG Try.prog 9 eS w q T.fs.length (look T.fs)
  keeps : Ring T.ch last

theorem ring_step {ch : List Str} {last : Nat → Str} (h : Ring ch last) (x : Str) : Ring (ch ++ [x]) (fun i => if i = ch.length % 32 then x else last i) := by
  intro k hk hl
  rw [List.length_append, List.length_singleton] at hk hl
  by_cases he : k = ch.length
  · subst he; simp
  · have hk2 : k < ch.length := by omega
    have hm : k % 32 ≠ ch.length % 32 := by omega
    show (if k % 32 = ch.length % 32 then x else last (k % 32)) = _
    rw [if_neg hm, List.getElem_append_left hk2]
    exact h k hk2 (by omega)

theorem IsTree.frozen {w : World} {b p : Nat} {m : Option Nat} {last : Nat → Str} {T : Tr} (h : IsTree w b p m last T) (i : Nat) : w.frozen? ⟨p, i, none⟩ = false := by
  obtain ⟨c, hc⟩ := h.block
  simp [World.frozen?, hc]

set_option maxHeartbeats 2000000 in
set_option maxRecDepth 100000 in
theorem note_is {w : World} {p : Nat} (n : Nat) (x : Str) (hp : ∃ c, w.heap[p]? = some (.cells c 32 (0, 0))) (hr : ∀ i, i < 32 → ∃ y, w.cell? ⟨p, i, none⟩ = some (strV y)) (hn : w.cell? ⟨p, 32, none⟩ = some (.int .i64 n)) (hb : n ≤ 1048576) :
    Calls Try.prog 30 #[.pointer (some ⟨p, 0, none⟩), strV x] w fun e w' => (∃ v, e = .returned v) ∧ w' = ((w.setCell ⟨p, n % 32, none⟩ (strV x)).setCell ⟨p, 32, none⟩ (.int .i64 ((n : Int) + 1))).drew := by
  obtain ⟨c, hc⟩ := hp
  have hz : ∀ i, w.frozen? ⟨p, i, none⟩ = false := fun i => by simp [World.frozen?, hc]
  obtain ⟨y, hy⟩ := hr (n % 32) (by omega)
  have hmod : (n : Int).tmod 32 = ((n % 32 : Nat) : Int) := by rw [Int.tmod_eq_emod_of_nonneg (by omega)]; omega
  have hlt : n % 32 < 32 := by omega
  have hn2 : (w.setCell ⟨p, n % 32, none⟩ (strV x)).cell? ⟨p, 32, none⟩ = some (.int .i64 n) := (World.cell?_setCell_other _ _ _ _ (by simp)).trans hn
  clear hr hc
  go_enter Try.func30, Try.ntmps30
  go_wp2
  go_region
  go_wp2
  go_end0
  exact ⟨⟨_, rfl⟩, rfl⟩

theorem mark_is {w : World} {b p : Nat} {m : Option Nat} {last : Nat → Str} {T : Tr} (h : IsTree w b p m last T) : Calls Try.prog 14 #[.pointer (some ⟨p, 0, none⟩)] w fun e w' => e = .returned (.int .i64 T.ch.length) ∧ w = w' := by
  have hn := h.n
  clear h
  go_enter Try.func14, Try.ntmps14
  go_wp2
  go_ret
  exact ⟨rfl, rfl⟩

theorem keys_look {fs : FileL} (hr : Rising (keys fs)) : KeysAre (look fs) (keys fs) := by
  refine ⟨Rising.nodup hr, fun x => ?_⟩
  cases h : look fs x with
  | none => simp only [Option.isSome_none]; exact ⟨fun hm => absurd hm (look_none.1 h), fun h => by cases h⟩
  | some v => simp only [Option.isSome_some, iff_true]; exact List.mem_map.2 ⟨_, (look_some hr).1 h, rfl⟩

theorem len_is {w : World} {b p : Nat} {m : Option Nat} {last : Nat → Str} {T : Tr} (h : IsTree w b p m last T) (hr : Rising (keys T.fs)) : Calls Try.prog 19 #[.pointer (some ⟨p, 0, none⟩)] w fun e w' => e = .returned (.int .i64 T.fs.length) ∧ w = w' := by
  have hm := h.map
  rcases h.files with ⟨rfl, hf⟩ | ⟨q, rfl, _, hq⟩
  · have hl := Hid.mk (show T.fs.length = 0 by rw [hf]; rfl)
    clear h hf
    go_enter Try.func19, Try.ntmps19
    go_wp2
    go_ret
    rw [hl.out]
    exact ⟨rfl, rfl⟩
  · have hlen := fun ty => hq.len Try.underlying9 Try.underlying30 (keys_look hr) ty
    have hk : (keys T.fs).length = T.fs.length := by simp
    rw [hk] at hlen
    clear h hq hk
    go_enter Try.func19, Try.ntmps19
    go_wp2
    go_ret
    exact ⟨rfl, rfl⟩

theorem MapG.below {α : Type} {E : Elem α} {w w' : World} {q n : Nat} {f : Str → Option α} (h : MapG Try.prog 9 E w q n f) (hb : Below w.heap.size w w') : MapG Try.prog 9 E w' q n f := h.same (hb.block _ h.lt)

theorem IsTree.below {w w' : World} {b p : Nat} {m : Option Nat} {last : Nat → Str} {T : Tr} (h : IsTree w b p m last T) (hb : Below w.heap.size w w') : IsTree w' b p m last T := by
  obtain ⟨c, hc⟩ := h.block
  have hp : p < w.heap.size := (Array.getElem?_eq_some_iff.1 hc).1
  refine ⟨h.here, ⟨c, (hb.block _ hp).trans hc⟩, fun i hi => cell_block (h.ring i hi) (hb.block _ hp), cell_block h.n (hb.block _ hp), cell_block h.map (hb.block _ hp), ?_, h.keeps⟩
  rcases h.files with h1 | ⟨q, h1, h2, h3⟩
  · exact .inl h1
  · exact .inr ⟨q, h1, h2, h3.below hb⟩

theorem zeroStr (w : World) : (zeroValue 9).run Try.prog w = .ok (strV []) w := by kernel_rfl

/-- What a look-up answers. -/
theorem IsTree.look {w : World} {b p : Nat} {m : Option Nat} {last : Nat → Str} {T : Tr} (h : IsTree w b p m last T) (x : Str) (hx : x.length ≤ maxLen) :
    (Instr.lookup 30 (.map m) (strV x) true).run Try.prog w = .ok (.tuple #[strV ((look T.fs x).getD []), .bool (look T.fs x).isSome]) w := by
  rcases h.files with ⟨rfl, hf⟩ | ⟨q, rfl, _, hq⟩
  · have e : Go.Proofs.Ytejlekfnjhnklaa.look T.fs x = none := by rw [hf]; rfl
    rw [e]
    exact nil_look Try.underlying9 Try.underlying30 (zeroStr w) hx true
  · cases hk : Go.Proofs.Ytejlekfnjhnklaa.look T.fs x with
    | none => exact hq.look_ok_none Try.underlying9 Try.underlying30 (zeroStr w) hx hk
    | some s => exact hq.look_ok_some Try.underlying9 Try.underlying30 (zeroStr w) hx hk

set_option maxHeartbeats 2000000 in
set_option maxRecDepth 100000 in
theorem read_is {w : World} {b p : Nat} {m : Option Nat} {last : Nat → Str} {T : Tr} (h : IsTree w b p m last T) (hg : Glob w) (x : Str) : Calls Try.prog 13 #[.pointer (some ⟨p, 0, none⟩), strV x] w fun e w' => e = .returned (.tuple #[strV (T.read x).1, .int .i64 (T.read x).2]) ∧ Below w.heap.size w w' := by
  have H := Hid.mk h
  have hpi := Hid.mk (path_is x hg)
  clear h hg
  go_enter Try.func13, Try.ntmps13
  go_wp2_with fail
  refine hpi.out.mono ?_
  rintro e w1 ⟨rfl, hb⟩
  have Hb := Hid.mk hb
  have H1 := Hid.mk (H.out.below hb)
  clear hb H hpi
  cases hp : isPath x with
  | false =>
    have hfin := Hid.mk (show T.read x = ([], 2) by simp [Tr.read, hp])
    clear hp
    go_wp2
    go_ret2
    rw [hfin.out]
    exact ⟨rfl, Hb.out⟩
  | true =>
    have hx : x.length ≤ 60 := by
      simp only [isPath, Bool.and_eq_true, decide_eq_true_eq] at hp
      exact hp.1
    have hread := Hid.mk (show T.read x = (match look T.fs x with | some s => (s, 0) | none => ([], 4)) by
      unfold Tr.read
      rw [hp]
      rfl)
    have hm := H1.out.map
    have hl := H1.out.look x (by unfold maxLen; omega)
    clear hp
    cases hk : look T.fs x with
    | none =>
      have hfin := Hid.mk (show T.read x = ([], 4) by rw [hread.out, hk])
      rw [hk] at hl
      have hl2 : (Instr.lookup 30 (.map m) (strV x) true).run Try.prog w1 = .ok (.tuple #[strV [], .bool false]) w1 := hl
      clear hk hread hl
      go_wp2
      go_ret2
      rw [hfin.out]
      exact ⟨rfl, Hb.out⟩
    | some s =>
      have hfin := Hid.mk (show T.read x = (s, 0) by rw [hread.out, hk])
      rw [hk] at hl
      have hl2 : (Instr.lookup 30 (.map m) (strV x) true).run Try.prog w1 = .ok (.tuple #[strV s, .bool true]) w1 := hl
      clear hk hread hl
      go_wp2
      go_ret2
      rw [hfin.out]
      exact ⟨rfl, Hb.out⟩

end Go.Proofs.Ytejlekfnjhnklaa
