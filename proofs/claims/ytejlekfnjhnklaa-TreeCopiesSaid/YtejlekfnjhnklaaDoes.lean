/-
  The law's 'does': a call on both trees.
-/
import Derived.Test.YtejlekfnjhnklaaLike
import Derived.Deep.RegionHeld3
import Derived.Deep.DrawnRows
namespace Go.Proofs.Ytejlekfnjhnklaa
open Go.RowKit Go.Maps

attribute [local go_sem ↓] Go.wp_at_zero Go.wp_at_succ

theorem IsRef.same {w w' : World} {b r : Nat} {vf vc : Value} {T : Tr} (h : IsRef w b r vf vc T) (hr : w'.heap[r]? = w.heap[r]?) (hf : ∀ k, vf.ownBlock = some k → w'.heap[k]? = w.heap[k]?) (hc : ∀ k, vc.ownBlock = some k → w'.heap[k]? = w.heap[k]?) : IsRef w' b r vf vc T :=
  ⟨h.here, hr.trans h.cells, ownsRow_same h.files hf, ownsRow_same h.chs hc⟩

theorem IsRef.lt {w : World} {b r : Nat} {vf vc : Value} {T : Tr} (h : IsRef w b r vf vc T) : r < w.heap.size := (Array.getElem?_eq_some_iff.1 h.cells).1
theorem IsRef.lt_f {w : World} {b r : Nat} {vf vc : Value} {T : Tr} (h : IsRef w b r vf vc T) {k : Nat} (hk : vf.ownBlock = some k) : k < w.heap.size := by
  obtain ⟨_, c, hc⟩ := ownsRow_type h.files hk
  exact (Array.getElem?_eq_some_iff.1 hc).1
theorem IsRef.lt_c {w : World} {b r : Nat} {vf vc : Value} {T : Tr} (h : IsRef w b r vf vc T) {k : Nat} (hk : vc.ownBlock = some k) : k < w.heap.size := by
  obtain ⟨_, c, hc⟩ := ownsRow_type h.chs hk
  exact (Array.getElem?_eq_some_iff.1 hc).1
theorem IsTree.lt_m {w : World} {b p q : Nat} {last : Nat → Str} {T : Tr} (h : IsTree w b p (some q) last T) : q < w.heap.size := by
  rcases h.files with ⟨h1, _⟩ | ⟨q', h1, _, h2⟩
  · cases h1
  · cases h1; exact h2.lt

theorem Glob.chg {S : Nat → Prop} {w w' : World} (h : Glob w) (hc : Chg S w w') (h0 : ¬ S 0) : Glob w' := by
  obtain ⟨m, hm⟩ := h
  exact ⟨m, cell_block hm (hc.block 0 (Glob.lt ⟨m, hm⟩) h0)⟩

/-- What is no block of the tree's is a block of another kind. -/
theorem tree_apart {w : World} {p : Nat} {m : Option Nat} {last : Nat → Str} {T : Tr} (h : IsTree w 0 p m last T) {k : Nat} {c : Array Value} {t : TypeId} {f : Nat × Nat} (hk : w.heap[k]? = some (.cells c t f)) (ht : t ≠ 32) : ¬ (k = p ∨ m = some k) := by
  rintro (rfl | e)
  · obtain ⟨c2, h2⟩ := h.block
    rw [hk] at h2
    simp at h2
    exact ht h2.2.1
  · rcases h.files with ⟨h1, _⟩ | ⟨q, h1, _, h2⟩
    · rw [h1] at e; cases e
    · rw [h1] at e; cases e
      obtain ⟨es, cl, h3⟩ := h2.is_map
      rw [hk] at h3; cases h3

theorem ref_keep {w w' : World} {p : Nat} {m : Option Nat} {last : Nat → Str} {r : Nat} {vf vc : Value} {T T2 : Tr} (ht : IsTree w 0 p m last T) (hr : IsRef w 0 r vf vc T2) (hc : Chg (fun k => k = p ∨ m = some k) w w') : IsRef w' 0 r vf vc T2 := by
  refine hr.same (hc.block _ hr.lt (tree_apart ht hr.cells (by decide))) (fun k hk => ?_) (fun k hk => ?_)
  · obtain ⟨_, c, h2⟩ := ownsRow_type hr.files hk
    exact hc.block _ (hr.lt_f hk) (tree_apart ht h2 (by decide))
  · obtain ⟨_, c, h2⟩ := ownsRow_type hr.chs hk
    exact hc.block _ (hr.lt_c hk) (tree_apart ht h2 (by decide))

theorem tree_keep {w w' : World} {p : Nat} {m : Option Nat} {last : Nat → Str} {r : Nat} {vf vc : Value} {T T2 : Tr} (ht : IsTree w 0 p m last T) (hr : IsRef w 0 r vf vc T2) (hc : Chg (fun k => k = r ∨ vc.ownBlock = some k) w w') : IsTree w' 0 p m last T := by
  have hn : ∀ k, (k = p ∨ m = some k) → ¬ (k = r ∨ vc.ownBlock = some k) := fun k hk h => by
    rcases h with rfl | h
    · exact tree_apart ht hr.cells (by decide) hk
    · obtain ⟨_, c, h2⟩ := ownsRow_type hr.chs h
      exact tree_apart ht h2 (by decide) hk
  refine ht.same (hc.block _ ht.lt (hn _ (.inl rfl))) (fun q hq => ?_)
  subst hq
  exact hc.block _ ht.lt_m (hn _ (.inr rfl))

/-- Both trees, and the blocks in which they lie. -/
def DuoF (S : Nat → Prop) (w : World) (p r : Nat) (T : Tr) : Prop :=
  ∃ m last vf vc, Duo w p m last r vf vc T ∧ S p ∧ S r ∧ (∀ q, m = some q → S q) ∧ (∀ k, vf.ownBlock = some k → S k) ∧ (∀ k, vc.ownBlock = some k → S k)

/-- What a call on both leaves. -/
def DoesPost (S : Nat → Prop) (w : World) (p r : Nat) (T' : Tr) (w' : World) : Prop :=
  ∃ S' : Nat → Prop, DuoF S' w' p r T' ∧ (∀ k, S' k → S k ∨ w.heap.size ≤ k) ∧ Chg S w w'

theorem DuoF.below {S : Nat → Prop} {w w' : World} {p r : Nat} {T : Tr} (h : DuoF S w p r T) (hb : Below w.heap.size w w') : DuoF S w' p r T := by
  obtain ⟨m, last, vf, vc, h1, h2⟩ := h
  exact ⟨m, last, vf, vc, h1.below hb, h2⟩

theorem DoesPost.of_below {S : Nat → Prop} {w w' : World} {p r : Nat} {T : Tr} (h : DuoF S w p r T) (hb : Below w.heap.size w w') : DoesPost S w p r T w' := ⟨S, h.below hb, fun _ h => .inl h, Chg.of_below hb⟩

theorem DoesPost.behind {S : Nat → Prop} {w wa w' : World} {p r : Nat} {T : Tr} (hb : Below w.heap.size w wa) (h : DoesPost S wa p r T w') : DoesPost S w p r T w' := by
  obtain ⟨S', h1, h2, h3⟩ := h
  exact ⟨S', h1, fun k hk => (h2 k hk).imp id (fun h => Nat.le_trans hb.size h), (Chg.of_below hb : Chg S w wa).trans h3 (fun _ _ h => h)⟩

theorem DoesPost.ahead {S : Nat → Prop} {w wa w' : World} {p r : Nat} {T : Tr} (h : DoesPost S w p r T wa) (hb : Below wa.heap.size wa w') : DoesPost S w p r T w' := by
  obtain ⟨S', h1, h2, h3⟩ := h
  exact ⟨S', h1.below hb, h2, h3.trans (Chg.of_below hb : Chg (fun _ => False) wa w') (fun _ _ h => h.elim)⟩

/-- The tree has turned; the document's one not yet. -/
structure Mid (S : Nat → Prop) (w : World) (p r : Nat) (vf vc : Value) (T T' : Tr) (w1 : World) : Prop where
  t : ∃ m' last', IsTree w1 0 p m' last' T' ∧ ∀ q, m' = some q → S q ∨ w.heap.size ≤ q
  r : IsRef w1 0 r vf vc T
  g : Glob w1
  c : Chg S w w1

theorem Mid.mk' {S : Nat → Prop} {w wa w1 : World} {p : Nat} {m : Option Nat} {last : Nat → Str} {r : Nat} {vf vc : Value} {T T' : Tr} (hb : Below w.heap.size w wa) (hd : Duo wa p m last r vf vc T) (hS0 : ¬ S 0) (hp : S p) (hm : ∀ q, m = some q → S q) (h : TreePost wa p m T' w1) : Mid S w p r vf vc T T' w1 := by
  obtain ⟨m', last', h1, h2, h3⟩ := h
  have hc : Chg S wa w1 := h3.mono (fun k _ hk => hk.elim (fun e => e ▸ hp) (hm k))
  exact ⟨⟨m', last', h1, fun q hq => (h2 q hq).imp (hm q) (fun h => Nat.le_trans hb.size h)⟩, ref_keep hd.t hd.r h3, hd.g.chg hc hS0, (Chg.of_below hb : Chg S w wa).trans hc (fun _ _ h => h)⟩

theorem Mid.fin {S : Nat → Prop} {w w1 w2 : World} {p r : Nat} {vf vc : Value} {T T' : Tr} (h : Mid S w p r vf vc T T' w1) (hS0 : ¬ S 0) (hp : S p) (hr : S r) (hf : ∀ k, vf.ownBlock = some k → S k) (hc : ∀ k, vc.ownBlock = some k → S k) (h2 : RefPost w1 r vf vc T' w2) : DoesPost S w p r T' w2 := by
  obtain ⟨m', last', ht, hq⟩ := h.t
  obtain ⟨vf', vc', g1, g2, g3, g4⟩ := h2
  have ht2 := tree_keep ht h.r g4
  have hcs : Chg S w1 w2 := g4.mono (fun k _ hk => hk.elim (fun e => e ▸ hr) (hc k))
  have hsz := h.c.size
  refine ⟨fun k => S k ∨ w.heap.size ≤ k, ⟨m', last', vf', vc', ⟨ht2, g1, h.g.chg hcs hS0⟩, .inl hp, .inl hr, hq, fun k hk => (g2 k hk).imp (hf k) (fun h => Nat.le_trans hsz h), fun k hk => (g3 k hk).imp (hc k) (fun h => Nat.le_trans hsz h)⟩, fun _ h => h, h.c.trans hcs (fun _ _ h => h)⟩

def Tr.step (T : Tr) (k : Int) (x s : Str) : Tr := if k = 0 then (T.write x s).1 else if k = 1 then (T.remove x).1 else T

theorem Tr.ok.step {T : Tr} (h : T.ok) (k : Int) (x s : Str) : (T.step k x s).ok := by
  unfold Tr.step
  split
  · exact h.write x s
  · split
    · exact h.remove x
    · exact h

theorem write_ch (T : Tr) (x s : Str) : (T.write x s).1.ch.length ≤ T.ch.length + 1 := by
  unfold Tr.write
  split
  · split
    · simp
    · cases look T.fs x <;> simp only
      · split <;> simp
      · split <;> simp
  · simp

theorem remove_ch (T : Tr) (x : Str) : (T.remove x).1.ch.length ≤ T.ch.length + 1 := by
  unfold Tr.remove
  split
  · cases look T.fs x <;> simp
  · simp

theorem step_ch (T : Tr) (k : Int) (x s : Str) : (T.step k x s).ch.length ≤ T.ch.length + 1 := by
  unfold Tr.step
  split
  · exact write_ch T x s
  · split
    · exact remove_ch T x
    · simp

/-- A block of another kind than the document's tree's stays. -/
theorem ref_apart {w : World} {r : Nat} {vf vc : Value} {T : Tr} (h : IsRef w 0 r vf vc T) {k : Nat} {c : Array Value} {t : TypeId} {f : Nat × Nat} (hk : w.heap[k]? = some (.cells c t f)) (h1 : t ≠ 37) (h2 : t ≠ 9) : ¬ (k = r ∨ vc.ownBlock = some k) := by
  rintro (rfl | e)
  · rw [h.cells] at hk
    simp at hk
    exact h1 hk.2.1.symm
  · obtain ⟨_, c2, h3⟩ := ownsRow_type h.chs e
    rw [hk] at h3
    simp at h3
    exact h2 h3.2.1

abbrev opO (k : Int) (x s : Str) (n : Int) : Obj := .cells #[.int .i64 k, strV x, strV s, .int .i64 n] 41 (0, 0)

theorem opO_cells {w : World} {B : Nat} {k : Int} {x s : Str} {n : Int} (h : w.heap[B]? = some (opO k x s n)) : w.cell? ⟨B, 0, none⟩ = some (.int .i64 k) ∧ w.cell? ⟨B, 1, none⟩ = some (strV x) ∧ w.cell? ⟨B, 2, none⟩ = some (strV s) ∧ w.cell? ⟨B, 3, none⟩ = some (.int .i64 n) := by
  simp [World.cell?, h]

/-- The first of the two calls: the tree turns; the call's own variable stays. -/
def Step1 (S : Nat → Prop) (w : World) (p r : Nat) (vf vc : Value) (T T' : Tr) (k : Int) (x s : Str) (n : Int) (w1 : World) : Prop := Mid S w p r vf vc T T' w1 ∧ w1.heap[w.heap.size]? = some (opO k x s n)

theorem step1_of {S : Nat → Prop} {w wa w1 : World} {p : Nat} {m : Option Nat} {last : Nat → Str} {r : Nat} {vf vc : Value} {T T' : Tr} {k : Int} {x s : Str} {n : Int} (hwa : wa.heap = (w.alloc (opO k x s n)).heap ∧ Below w.heap.size w wa) (hd : Duo w p m last r vf vc T) (hS0 : ¬ S 0) (hp : S p) (hm : ∀ q, m = some q → S q) (h : TreePost wa p m T' w1) : Step1 S w p r vf vc T T' k x s n w1 := by
  have hblk : wa.heap[w.heap.size]? = some (opO k x s n) := by rw [hwa.1]; exact heap_alloc_new _ _
  refine ⟨Mid.mk' hwa.2 (hd.below hwa.2) hS0 hp hm h, ?_⟩
  obtain ⟨m', last', _, _, hch1⟩ := h
  rw [hch1.block w.heap.size (Array.getElem?_eq_some_iff.1 hblk).1 (tree_apart (hd.below hwa.2).t hblk (by decide))]
  exact hblk

def Step2 (S : Nat → Prop) (w : World) (p r : Nat) (T' : Tr) (k : Int) (x s : Str) (n : Int) (w2 : World) : Prop := DoesPost S w p r T' w2 ∧ w2.heap[w.heap.size]? = some (opO k x s n)

theorem step2_of {S : Nat → Prop} {w w1 w2 : World} {p r : Nat} {vf vc : Value} {T T' : Tr} {k : Int} {x s : Str} {n : Int} (h1 : Step1 S w p r vf vc T T' k x s n w1) (hS0 : ¬ S 0) (hp : S p) (hr : S r) (hf : ∀ k, vf.ownBlock = some k → S k) (hc : ∀ k, vc.ownBlock = some k → S k) (h : RefPost w1 r vf vc T' w2) : Step2 S w p r T' k x s n w2 := by
  refine ⟨h1.1.fin hS0 hp hr hf hc h, ?_⟩
  obtain ⟨_, _, _, _, _, h4⟩ := h
  rw [h4.block _ (Array.getElem?_eq_some_iff.1 h1.2).1 (ref_apart h1.1.r h1.2 (by decide) (by decide))]
  exact h1.2

abbrev opW (w : World) (k : Int) (x s : Str) (n : Int) : World := w.alloc (.cells #[.int .i64 k, strV x, strV s, .int .i64 n] 41)

set_option maxHeartbeats 8000000 in
set_option maxRecDepth 100000 in
theorem does0_is {S : Nat → Prop} {w : World} {p r : Nat} {T : Tr} (h : DuoF S w p r T) (hS0 : ¬ S 0) (hok : T.ok) (hch : T.ch.length ≤ 999999) (x s : Str) (n : Int) :
    Calls Try.prog 11 #[.pointer (some ⟨p, 0, none⟩), .pointer (some ⟨r, 0, none⟩), opV 0 x s n] w fun e w' => e = .returned (.bool true) ∧ DoesPost S w p r (T.write x s).1 w' := by
  obtain ⟨m, last, vf, vc, hd, hp, hr, hm, hf, hc⟩ := h
  have hbx : Below w.heap.size w (opW w 0 x s n) := (Below.refl _ _).alloc (Nat.le_refl _) _
  have K1 := Hid.mk (fun (wa : World) (hwa : wa.heap = (opW w 0 x s n).heap ∧ Below w.heap.size w wa) => (write_is (hd.below hwa.2).t (hd.below hwa.2).g hok (by omega) x s).mono (R' := fun e w1 => e = .returned (.int .i64 (T.write x s).2) ∧ Hid (Step1 S w p r vf vc T (T.write x s).1 0 x s n w1) ∧ w1.cell? ⟨w.heap.size, 1, none⟩ = some (strV x) ∧ w1.cell? ⟨w.heap.size, 2, none⟩ = some (strV s)) (by
    rintro e w1 ⟨rfl, hpost⟩
    have h1 := step1_of hwa hd hS0 hp hm hpost
    exact ⟨rfl, ⟨h1⟩, (opO_cells h1.2).2.1, (opO_cells h1.2).2.2.1⟩))
  have K2 := Hid.mk (fun (w1 : World) (h1 : Step1 S w p r vf vc T (T.write x s).1 0 x s n w1) => (refWrite_is h1.1.r hok.rise (by have := hok.few; omega) (by omega) x s).mono (R' := fun e w2 => e = .returned (.int .i64 (T.write x s).2) ∧ Hid (Step2 S w p r (T.write x s).1 0 x s n w2) ∧ w2.cell? ⟨w.heap.size, 1, none⟩ = some (strV x) ∧ w2.cell? ⟨w.heap.size, 2, none⟩ = some (strV s)) (by
    rintro e w2 ⟨rfl, hpost⟩
    have h2 := step2_of h1 hS0 hp hr hf hc hpost
    exact ⟨rfl, ⟨h2⟩, (opO_cells h2.2).2.1, (opO_cells h2.2).2.2.1⟩))
  generalize (T.write x s).2 = code at K1 K2
  generalize hT' : (T.write x s).1 = T' at K1 K2 ⊢
  unfold opV
  have Hbx := Hid.mk hbx
  clear hd hbx hok hch hp hr hm hf hc hT'
  go_enter Try.func11, Try.ntmps11
  go_wp2
  go_region_held3 (fun w' => w'.cell? ⟨w.heap.size, 1, none⟩ = some (strV x) ∧ w'.cell? ⟨w.heap.size, 2, none⟩ = some (strV s)) (go_keep)
    (first
      | (go_at_call 15; refine (K1.out _ ?_).mono ?_; (exact ⟨rfl, ⟨Hbx.out.os, Hbx.out.tape, Hbx.out.output, Hbx.out.size, Hbx.out.block⟩⟩); rintro e w1 ⟨rfl, Hmid, k1, k2⟩)
      | (go_at_call 25; refine (K2.out _ Hmid.out).mono ?_; rintro e w2 ⟨rfl, Hpost, k3, k4⟩))
  go_wp2
  go_ret
  exact ⟨by simp, Hpost.out.1⟩

set_option maxHeartbeats 8000000 in
set_option maxRecDepth 100000 in
theorem does1_is {S : Nat → Prop} {w : World} {p r : Nat} {T : Tr} (h : DuoF S w p r T) (hS0 : ¬ S 0) (hok : T.ok) (hch : T.ch.length ≤ 999999) (x s : Str) (n : Int) :
    Calls Try.prog 11 #[.pointer (some ⟨p, 0, none⟩), .pointer (some ⟨r, 0, none⟩), opV 1 x s n] w fun e w' => e = .returned (.bool true) ∧ DoesPost S w p r (T.remove x).1 w' := by
  obtain ⟨m, last, vf, vc, hd, hp, hr, hm, hf, hc⟩ := h
  have hbx : Below w.heap.size w (opW w 1 x s n) := (Below.refl _ _).alloc (Nat.le_refl _) _
  have K1 := Hid.mk (fun (wa : World) (hwa : wa.heap = (opW w 1 x s n).heap ∧ Below w.heap.size w wa) => (remove_is (hd.below hwa.2).t (hd.below hwa.2).g hok (by omega) x).mono (R' := fun e w1 => e = .returned (.int .i64 (T.remove x).2) ∧ Hid (Step1 S w p r vf vc T (T.remove x).1 1 x s n w1) ∧ w1.cell? ⟨w.heap.size, 1, none⟩ = some (strV x)) (by
    rintro e w1 ⟨rfl, hpost⟩
    have h1 := step1_of hwa hd hS0 hp hm hpost
    exact ⟨rfl, ⟨h1⟩, (opO_cells h1.2).2.1⟩))
  have K2 := Hid.mk (fun (w1 : World) (h1 : Step1 S w p r vf vc T (T.remove x).1 1 x s n w1) => (refRemove_is h1.1.r hok.rise (by have := hok.few; omega) (by omega) x).mono (R' := fun e w2 => e = .returned (.int .i64 (T.remove x).2) ∧ Hid (Step2 S w p r (T.remove x).1 1 x s n w2) ∧ w2.cell? ⟨w.heap.size, 1, none⟩ = some (strV x)) (by
    rintro e w2 ⟨rfl, hpost⟩
    have h2 := step2_of h1 hS0 hp hr hf hc hpost
    exact ⟨rfl, ⟨h2⟩, (opO_cells h2.2).2.1⟩))
  generalize (T.remove x).2 = code at K1 K2
  generalize hT' : (T.remove x).1 = T' at K1 K2 ⊢
  unfold opV
  have Hbx := Hid.mk hbx
  clear hd hbx hok hch hp hr hm hf hc hT'
  go_enter Try.func11, Try.ntmps11
  go_wp2
  go_region_held3 (fun w' => w'.cell? ⟨w.heap.size, 1, none⟩ = some (strV x)) (go_keep)
    (first
      | (go_at_call 16; refine (K1.out _ ?_).mono ?_; (exact ⟨rfl, ⟨Hbx.out.os, Hbx.out.tape, Hbx.out.output, Hbx.out.size, Hbx.out.block⟩⟩); rintro e w1 ⟨rfl, Hmid, k1⟩)
      | (go_at_call 26; refine (K2.out _ Hmid.out).mono ?_; rintro e w2 ⟨rfl, Hpost, k3⟩))
  go_wp2
  go_ret
  exact ⟨by simp, Hpost.out.1⟩

theorem DuoF.ref {S : Nat → Prop} {w : World} {p r : Nat} {T : Tr} (h : DuoF S w p r T) : ∃ vf vc, IsRef w 0 r vf vc T := by
  obtain ⟨m, last, vf, vc, hd, _⟩ := h
  exact ⟨vf, vc, hd.r⟩

set_option maxHeartbeats 8000000 in
set_option maxRecDepth 100000 in
theorem does2_is {S : Nat → Prop} {w : World} {p r : Nat} {T : Tr} (h : DuoF S w p r T) (hok : T.ok) (x s : Str) (n : Int) :
    Calls Try.prog 11 #[.pointer (some ⟨p, 0, none⟩), .pointer (some ⟨r, 0, none⟩), opV 2 x s n] w fun e w' => e = .returned (.bool true) ∧ Below w.heap.size w w' := by
  obtain ⟨m, last, vf, vc, hd, hp, hr, hm, hf, hc⟩ := h
  have hbx : Below w.heap.size w (opW w 2 x s n) := (Below.refl _ _).alloc (Nat.le_refl _) _
  have D := Hid.mk (hd.below hbx)
  have Hbx := Hid.mk hbx
  have Hok := Hid.mk hok
  have hblk : (opW w 2 x s n).heap[w.heap.size]? = some (opO 2 x s n) := heap_alloc_new _ _
  have Hblk := Hid.mk hblk
  unfold opV
  clear hd hbx hok hp hr hm hf hc hblk
  go_enter Try.func11, Try.ntmps11
  go_wp2_with fail
  refine (read_is D.out.t D.out.g x).mono ?_
  rintro e w1 ⟨rfl, hb⟩
  have D1 := Hid.mk (D.out.below hb)
  have Hb1 := Hid.mk (Hbx.out.trans (hb.mono Hbx.out.size))
  have hlt : w.heap.size < (opW w 2 x s n).heap.size := by simp
  have k1 := (opO_cells (x := x) (s := s) (k := 2) (n := n) ((hb.block _ hlt).trans Hblk.out)).2.1
  clear hb D hlt
  go_wp2_with fail
  refine (refRead_is D1.out.r Hok.out.rise (by have := Hok.out.few; omega) x).mono ?_
  rintro e w2 ⟨rfl, hb⟩
  have Hb2 := Hid.mk (Hb1.out.trans (hb.mono Hb1.out.size))
  clear hb D1
  go_wp2
  go_ret
  exact ⟨by simp, Hb2.out⟩

set_option maxHeartbeats 8000000 in
set_option maxRecDepth 100000 in
theorem does3_is {S : Nat → Prop} {w : World} {p r : Nat} {T : Tr} (h : DuoF S w p r T) (hok : T.ok) (x s : Str) (n : Int) (hx : x.length ≤ maxLen) :
    Calls Try.prog 11 #[.pointer (some ⟨p, 0, none⟩), .pointer (some ⟨r, 0, none⟩), opV 3 x s n] w fun e w' => e = .returned (.bool true) ∧ Below w.heap.size w w' := by
  obtain ⟨m, last, vf, vc, hd, hp, hr, hm, hf, hc⟩ := h
  have hbx : Below w.heap.size w (opW w 3 x s n) := (Below.refl _ _).alloc (Nat.le_refl _) _
  have D := Hid.mk (hd.below hbx)
  have Hbx := Hid.mk hbx
  have Hok := Hid.mk hok
  have hblk : (opW w 3 x s n).heap[w.heap.size]? = some (opO 3 x s n) := heap_alloc_new _ _
  have Hblk := Hid.mk hblk
  have hlen : (listOf T.fs x).length ≤ 1048576 := by
    unfold listOf
    rw [List.length_map]
    have := List.length_filter_le (fun f : Str × Str => hasPre x f.1) T.fs
    have := hok.few
    omega
  unfold opV
  clear hd hbx hok hp hr hm hf hc hblk
  go_enter Try.func11, Try.ntmps11
  go_wp2_with fail
  refine (listed_is D.out.t Hok.out x).mono ?_
  rintro e w1 ⟨v, rfl, hv, hb⟩
  have D1 := Hid.mk (D.out.below hb)
  have Hb1 := Hid.mk (Hbx.out.trans (hb.mono Hbx.out.size))
  have hlt : w.heap.size < (opW w 3 x s n).heap.size := by simp
  have k1 := (opO_cells (x := x) (s := s) (k := 3) (n := n) ((hb.block _ hlt).trans Hblk.out)).2.1
  have Hv := Hid.mk hv.is
  clear hb D hlt hv
  go_wp2_with fail
  refine (refList_is D1.out.r (by have := Hok.out.few; omega) x hx (fun f hf => by
    have := Hok.out.paths f hf
    simp only [isPath, Bool.and_eq_true, decide_eq_true_eq] at this
    omega)).mono ?_
  rintro e w2 ⟨v2, rfl, hv2, hb⟩
  have Hb2 := Hid.mk (Hb1.out.trans (hb.mono Hb1.out.size))
  have Hv1 := Hid.mk (Hv.out.below hb)
  have Hv2 := Hid.mk hv2.is
  clear hb D1 hv2 Hv
  go_wp2_with fail
  refine (texts_is Hv1.out Hv2.out hlen).mono ?_
  rintro e w3 ⟨rfl, hb⟩
  have Hb3 := Hid.mk (Hb2.out.trans (hb.mono Hb2.out.size))
  clear hb
  go_wp2
  go_ret
  exact ⟨by simp, Hb3.out⟩

set_option maxHeartbeats 8000000 in
set_option maxRecDepth 100000 in
theorem does4_is {S : Nat → Prop} {w : World} {p r : Nat} {T : Tr} (h : DuoF S w p r T) (hch : T.ch.length ≤ 999999) (k : Int) (hk : k ≠ 0 ∧ k ≠ 1 ∧ k ≠ 2 ∧ k ≠ 3) (x s : Str) (n : Int) (hn : -9223372036854775808 ≤ n) (hn2 : n ≤ 9223372036854775807) :
    Calls Try.prog 11 #[.pointer (some ⟨p, 0, none⟩), .pointer (some ⟨r, 0, none⟩), opV k x s n] w fun e w' => e = .returned (.bool true) ∧ Below w.heap.size w w' := by
  obtain ⟨m, last, vf, vc, hd, hp, hr, hm, hf, hc⟩ := h
  obtain ⟨ac, capc, rfl, _⟩ := hd.r.chs.open
  have hbx : Below w.heap.size w (opW w k x s n) := (Below.refl _ _).alloc (Nat.le_refl _) _
  have D := Hid.mk (hd.below hbx)
  have Hbx := Hid.mk hbx
  have hblk : (opW w k x s n).heap[w.heap.size]? = some (opO k x s n) := heap_alloc_new _ _
  have c1 := D.out.r.cell1
  have q0 : (k == 0) = false := by simpa using hk.1
  have q1 : (k == 1) = false := by simpa using hk.2.1
  have q2 : (k == 2) = false := by simpa using hk.2.2.1
  have q3 : (k == 3) = false := by simpa using hk.2.2.2
  have hcells := opO_cells hblk
  obtain ⟨o0, o1, o2, o3⟩ := hcells
  have hSi : -9223372036854775808 ≤ sinceN n T.ch.length ∧ sinceN n T.ch.length ≤ 9223372036854775807 := by
    unfold sinceN
    split <;> omega
  have HS := Hid.mk (fun (wa : World) (hwa : wa.heap = (opW w k x s n).heap ∧ Below w.heap.size w wa) => (since_is wa k n x s T.ch.length hn (by omega)).mono (R' := fun e w1 => e = .returned (.int .i64 (sinceN n T.ch.length)) ∧ Hid (Below w.heap.size w w1 ∧ Duo w1 p m last r (vf) (.slice ac T.ch.length capc) T) ∧ w1.cell? ⟨r, 1, none⟩ = some (.slice ac T.ch.length capc) ∧ w1.cell? ⟨w.heap.size, 0, none⟩ = some (.int .i64 k) ∧ w1.cell? ⟨w.heap.size, 1, none⟩ = some (strV x) ∧ w1.cell? ⟨w.heap.size, 2, none⟩ = some (strV s) ∧ w1.cell? ⟨w.heap.size, 3, none⟩ = some (.int .i64 n)) (by
    rintro e w1 ⟨rfl, hb⟩
    have hd1 := (hd.below hwa.2).below hb
    have hblk1 : w1.heap[w.heap.size]? = some (opO k x s n) := (hb.block _ (by rw [hwa.1]; simp)).trans (by rw [hwa.1]; exact hblk)
    obtain ⟨e0, e1, e2, e3⟩ := opO_cells hblk1
    exact ⟨rfl, ⟨hwa.2.trans (hb.mono hwa.2.size), hd1⟩, hd1.r.cell1, e0, e1, e2, e3⟩))
  generalize hM : sinceN n T.ch.length = M at HS hSi
  unfold opV
  clear hd hbx hp hr hm hf hc hblk hk hM
  go_enter Try.func11, Try.ntmps11
  go_wp2
  go_region_held3 (fun w' => w'.cell? ⟨r, 1, none⟩ = some (.slice ac T.ch.length capc) ∧ w'.cell? ⟨w.heap.size, 0, none⟩ = some (.int .i64 k) ∧ w'.cell? ⟨w.heap.size, 1, none⟩ = some (strV x) ∧ w'.cell? ⟨w.heap.size, 2, none⟩ = some (strV s) ∧ w'.cell? ⟨w.heap.size, 3, none⟩ = some (.int .i64 n)) (go_keep)
    (first
      | (go_at_call 29; refine (HS.out _ ?_).mono ?_; (exact ⟨rfl, ⟨Hbx.out.os, Hbx.out.tape, Hbx.out.output, Hbx.out.size, Hbx.out.block⟩⟩); rintro e w1 ⟨rfl, Hst, k1, k2, k3, k4, k5⟩))
  clear k1 k2 k3 k4 k5 HS
  go_wp2_with fail
  refine (trSince_is Hst.out.2.t (by omega) M hSi.1 hSi.2).mono ?_
  rintro e w2 ⟨va, rfl, hva, hb⟩
  have Hst2 := Hid.mk (And.intro (Hst.out.1.trans (hb.mono Hst.out.1.size)) (Hst.out.2.below hb))
  have Hva := Hid.mk hva
  clear hva hb Hst
  go_wp2_with fail
  refine (refSince_is Hst2.out.2.r (by omega) M hSi.1 hSi.2).mono ?_
  rintro e w3 ⟨vb, rfl, hvb, hb⟩
  have Hb3 := Hid.mk (Hst2.out.1.trans (hb.mono Hst2.out.1.size))
  have Hva3 := Hid.mk (Hva.out.below hb)
  have Hvb := Hid.mk hvb
  have hlen : (T.since M).1.length ≤ 1048576 := by
    unfold Tr.since
    split
    · simp
    · refine Nat.le_trans (insAll_length _) ?_
      rw [List.length_drop]; omega
  generalize T.since M = SI at Hva3 Hvb hlen ⊢
  clear hvb hb Hst2 Hva
  go_wp2_with fail
  refine (texts_is Hva3.out Hvb.out hlen).mono ?_
  rintro e w4 ⟨rfl, hb⟩
  have Hb4 := Hid.mk (Hb3.out.trans (hb.mono Hb3.out.size))
  clear hb
  go_wp2
  go_ret
  exact ⟨by simp, Hb4.out⟩

/-- A call on both trees: the answers are the same, and so are the trees behind it. -/
theorem does_is {S : Nat → Prop} {w : World} {p r : Nat} {T : Tr} (h : DuoF S w p r T) (hS0 : ¬ S 0) (hok : T.ok) (hch : T.ch.length ≤ 999999) (k : Int) (x s : Str) (n : Int) (hx : x.length ≤ maxLen) (hn : -9223372036854775808 ≤ n) (hn2 : n ≤ 9223372036854775807) :
    Calls Try.prog 11 #[.pointer (some ⟨p, 0, none⟩), .pointer (some ⟨r, 0, none⟩), opV k x s n] w fun e w' => e = .returned (.bool true) ∧ DoesPost S w p r (T.step k x s) w' := by
  by_cases h0 : k = 0
  · subst h0
    exact does0_is h hS0 hok hch x s n
  · by_cases h1 : k = 1
    · subst h1
      exact does1_is h hS0 hok hch x s n
    · have hst : T.step k x s = T := by unfold Tr.step; rw [if_neg h0, if_neg h1]
      rw [hst]
      by_cases h2 : k = 2
      · subst h2
        exact (does2_is h hok x s n).mono fun _ _ ⟨he, hb⟩ => ⟨he, .of_below h hb⟩
      · by_cases h3 : k = 3
        · subst h3
          exact (does3_is h hok x s n hx).mono fun _ _ ⟨he, hb⟩ => ⟨he, .of_below h hb⟩
        · exact (does4_is h hch k ⟨h0, h1, h2, h3⟩ x s n hn hn2).mono fun _ _ ⟨he, hb⟩ => ⟨he, .of_below h hb⟩

end Go.Proofs.Ytejlekfnjhnklaa
