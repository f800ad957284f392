/-
  graph.closed, whole; graph.Below, graph.Above.
-/
import Derived.Test.YtiinmmgknlnkaaaClosed
import Derived.Laws.EntriesVeiled
namespace Go.Proofs.Ytiinmmgknlnkaaa
open Go.RowKit Go.Maps
open Go.ChangeMaps (setBlock)

open Classical in
/-- What some names lead to. -/
noncomputable def clos (G : Gr) (s : Str → Str → Bool) (l : List Str) : List Str := G.ns.filter fun y => decide (∃ x ∈ l, x ∈ G.ns ∧ Reach s x y)

theorem mem_clos {G : Gr} {s : Str → Str → Bool} (hs : ∀ x y, s x y = true → y ∈ G.ns) {l : List Str} {y : Str} : y ∈ clos G s l ↔ ∃ x ∈ l, x ∈ G.ns ∧ Reach s x y := by
  unfold clos
  rw [List.mem_filter]
  constructor
  · rintro ⟨_, h⟩; simpa using h
  · rintro ⟨x, hx, hn, hr⟩
    refine ⟨?_, by simpa using ⟨x, hx, hn, hr⟩⟩
    clear hx
    induction hr with
    | refl => exact hn
    | step he _ ih => exact ih (hs _ _ he)

theorem clos_rising {G : Gr} (h : G.ok) (s : Str → Str → Bool) (l : List Str) : Rising (clos G s l) := h.rise.filter _

theorem cell_new (w : World) (v : Value) (t : TypeId) : (w.alloc (.cells #[v] t)).cell? ⟨w.heap.size, 0, none⟩ = some v := by
  simp only [World.cell?]
  rw [heap_alloc_new]
  rfl

abbrev fnV (w : World) : Value := .func (.func 43) #[] #[ptr (w.heap.size + 1 + 1 + 1), ptr w.heap.size, ptr (w.heap.size + 1), ptr (w.heap.size + 1 + 1 + 1 + 1)]
abbrev closedW (w : World) (p bm : Nat) : World :=
  ((((w.alloc (.cells #[ptr p] 23)).alloc (.cells #[.map (some bm)] 47)).alloc M0).alloc (.cells #[.map (some (w.heap.size + 1 + 1))] 58)).alloc (.cells #[fnV w] 74)

theorem closedW_below (w : World) (p bm : Nat) : Below w.heap.size w (closedW w p bm) :=
  (((((Below.refl _ w).alloc (Nat.le_refl _) _).alloc (by simp) _).alloc (by simp; omega) _).alloc (by simp; omega) _).alloc (by simp; omega) _

theorem closedW_vc {w : World} {p bm : Nat} {S : Nat → Prop} {G : Gr} {so : Str → Nat} {s : Str → Str → Bool} (h : IsGraph S w p G) (hmm : MapG Try.prog 9 eM w bm G.ns.length (nodeMap G so))
    (hms : ∀ x ∈ G.ns, MapG Try.prog 9 eB w (so x) G.ns.length (succMap s x)) (hse : ∀ x y, s x y = true → y ∈ G.ns) :
    VC (closedW w p bm) (w.heap.size + 1 + 1 + 1) w.heap.size (w.heap.size + 1) (w.heap.size + 1 + 1 + 1 + 1) (w.heap.size + 1 + 1) p bm S G so s (fun _ => false) := by
  have hb := closedW_below w p bm
  have e1 : (w.alloc (.cells #[ptr p] 23)).heap.size = w.heap.size + 1 := World.size_alloc _ _
  have e2 : ((w.alloc (.cells #[ptr p] 23)).alloc (.cells #[.map (some bm)] 47)).heap.size = w.heap.size + 1 + 1 := by rw [World.size_alloc, e1]
  have e3 : (((w.alloc (.cells #[ptr p] 23)).alloc (.cells #[.map (some bm)] 47)).alloc M0).heap.size = w.heap.size + 1 + 1 + 1 := by rw [World.size_alloc, e2]
  have e4 : ((((w.alloc (.cells #[ptr p] 23)).alloc (.cells #[.map (some bm)] 47)).alloc M0).alloc (.cells #[.map (some (w.heap.size + 1 + 1))] 58)).heap.size = w.heap.size + 1 + 1 + 1 + 1 := by rw [World.size_alloc, e3]
  have hsb : (closedW w p bm).heap[w.heap.size + 1 + 1]? = some M0 := by
    rw [heap_alloc_other _ _ (by omega), heap_alloc_other _ _ (by omega), ← e2, heap_alloc_new]
  refine ⟨?_, ?_, ?_, ?_, h.below hb, hmm.same (hb.block _ hmm.lt), fun x hx => (hms x hx).same (hb.block _ (hms x hx).lt), ?_, fun y hy => (by cases hy), fun e => ?_, fun e => ?_, fun x hx e => ?_, hse⟩
  · have := cell_new (((w.alloc (.cells #[ptr p] 23)).alloc (.cells #[.map (some bm)] 47)).alloc M0) (.map (some (w.heap.size + 1 + 1))) 58
    rw [e3] at this
    exact cell_alloc' _ this
  · exact cell_alloc' _ (cell_alloc' _ (cell_alloc' _ (cell_alloc' _ (cell_new w (ptr p) 23))))
  · have := cell_new (w.alloc (.cells #[ptr p] 23)) (.map (some bm)) 47
    rw [e1] at this
    exact cell_alloc' _ (cell_alloc' _ (cell_alloc' _ this))
  · have := cell_new ((((w.alloc (.cells #[ptr p] 23)).alloc (.cells #[.map (some bm)] 47)).alloc M0).alloc (.cells #[.map (some (w.heap.size + 1 + 1))] 58)) (fnV w) 74
    rw [e4] at this
    exact this
  · refine (MapG.congr ((MapG.made w Try.prog 9 eB).same' (w' := closedW w p bm) (b' := w.heap.size + 1 + 1) ?_) fun y => by simp [markMap]).mono (Nat.zero_le _)
    rw [hsb, heap_alloc_new]
  · have := h.lt.2 _ e; omega
  · have := hmm.lt; omega
  · have := (hms x hx).lt; omega

def CRel (w0 : World) (bs bg be bv sb p bm : Nat) (S : Nat → Prop) (G : Gr) (so : Str → Nat) (s : Str → Str → Bool) (l : List Str) (i : Value) (wr : World) : Prop :=
  ∃ (k : Nat) (V : Str → Bool), k ≤ l.length ∧ i = .int .i64 k ∧ VC wr bs bg be bv sb p bm S G so s V ∧ Only (· = sb) w0 wr ∧ VisitedAll G.ns s (fun _ => false) V (l.take k)

set_option maxHeartbeats 2000000 in
theorem closed_some {w : World} {p bm : Nat} {S : Nat → Prop} {G : Gr} {so : Str → Nat} {s : Str → Str → Bool} (h : IsGraph S w p G) (hmm : MapG Try.prog 9 eM w bm G.ns.length (nodeMap G so))
    (hms : ∀ x ∈ G.ns, MapG Try.prog 9 eB w (so x) G.ns.length (succMap s x)) (hse : ∀ x y, s x y = true → y ∈ G.ns) (a : Option Addr) (cap n : Nat) (l : List Str) (hn : n = l.length) (hl : StrsAt w a l) (hsl : ∀ x ∈ l, x.length ≤ maxLen) (hcap : l.length ≤ 9223372036854775807) :
    Calls Try.prog 31 #[ptr p, .map (some bm), .slice a n cap] w (Strs (clos G s l) w) := by
  subst hn
  have hmk : ∀ wx, (Instr.makeMap 58 none).run Try.prog wx = .ok (.map (some wx.heap.size)) (wx.alloc M0) := fun wx => run_makeMap (P := Try.prog) 58 wx
  have hvc := closedW_vc h hmm hms hse
  have hbel := closedW_below w p bm
  have hok := h.ok
  have hfin : ∀ V wr, VC wr (w.heap.size + 1 + 1 + 1) w.heap.size (w.heap.size + 1) (w.heap.size + 1 + 1 + 1 + 1) (w.heap.size + 1 + 1) p bm S G so s V → Only (· = w.heap.size + 1 + 1) (closedW w p bm) wr → VisitedAll G.ns s (fun _ => false) V l →
      Calls Try.prog 30 #[.map (some (w.heap.size + 1 + 1))] wr (Strs (clos G s l) w) := by
    intro V wr hv ho hall
    have hkeys : KeysAre (markMap V) (clos G s l) := ⟨(clos_rising hok s l).nodup, fun y => by
      rw [mem_clos hse, ← hall.all y]
      simp only [markMap]
      split <;> simp_all⟩
    refine (sortedB_is hv.mv hkeys (clos_rising hok s l) (Nat.le_trans (List.length_filter_le _ _) hok.few)).mono ?_
    rintro e w' ⟨v, rfl, hrow, hb⟩
    have hlow : Below w.heap.size w wr := ⟨ho.os.trans hbel.os, ho.tape.trans hbel.tape, ho.output.trans hbel.output, Nat.le_trans hbel.size ho.size, fun k hk => (ho.block k (Nat.lt_of_lt_of_le hk hbel.size) (by omega)).trans (hbel.block k hk)⟩
    exact ⟨v, rfl, hrow.base hlow.size, hlow.trans (hb.mono hlow.size)⟩
  have Hfin := Hid.mk hfin
  have hmaps : ∀ k, k = w.heap.size + 1 + 1 → ∃ es c, (closedW w p bm).heap[k]? = some (.map es c) := fun k hk => hk ▸ hvc.mv.is_map
  have hcells : ∀ i (hi : i < l.length), ∃ g off, a = some ⟨g, off, none⟩ ∧ (closedW w p bm).cell? ⟨g, off + i, none⟩ = some (strV l[i]) := fun i hi => by
    rcases hl with rfl | ⟨g, off, e, hl⟩
    · cases hi
    · refine ⟨g, off, e, ?_⟩
      exact cell_alloc' _ (cell_alloc' _ (cell_alloc' _ (cell_alloc' _ (cell_alloc' _ (hl i hi)))))
  have Hcells := Hid.mk hcells
  have Hstart := Hid.mk (show CRel (closedW w p bm) (w.heap.size + 1 + 1 + 1) w.heap.size (w.heap.size + 1) (w.heap.size + 1 + 1 + 1 + 1) (w.heap.size + 1 + 1) p bm S G so s l (.int .i64 (0 : Nat)) (closedW w p bm) from ⟨0, _, Nat.zero_le _, rfl, hvc, Only.refl _ _, VisitedAll.nil _ _ _⟩)
  clear hfin hcells hvc hbel hmm hms hl h
  go_enter Try.func31, Try.ntmps31
  go_wp2
  go_loopw [15] (fun i wr => CRel (closedW w p bm) (w.heap.size + 1 + 1 + 1) w.heap.size (w.heap.size + 1) (w.heap.size + 1 + 1 + 1 + 1) (w.heap.size + 1 + 1) p bm S G so s l i wr) (fun i _ => l.length - (intOf i).toNat)
  case atStart => exact Hstart.out
  case round =>
    obtain ⟨k, V, hk, rfl, hv, ho, hall⟩ := hrel
    by_cases hlt : k < l.length
    · obtain ⟨g, off, rfl, hc0⟩ := Hcells.out k hlt
      have hc : wr.cell? ⟨g, off + k, none⟩ = some (strV l[k]) := cell_only ho hmaps hc0
      have hx := hsl _ (List.getElem_mem hlt)
      have hcall := Hid.mk (visit_is _ _ _ _ _ p bm S G so s (unmarked G.ns V + 1) V wr l[k] (Nat.lt_succ_self _) hv hx)
      have cv := hv.cv
      have htk := Hid.mk (List.take_succ_eq_append_getElem hlt)
      generalize l[k] = x at hc hx hcall htk
      have hnext : ∀ (i : Int) w4, i = (k : Int) + 1 → VPost wr (w.heap.size + 1 + 1 + 1) w.heap.size (w.heap.size + 1) (w.heap.size + 1 + 1 + 1 + 1) (w.heap.size + 1 + 1) p bm S G so s V x (.returned (.tuple #[])) w4 → CRel (closedW w p bm) (w.heap.size + 1 + 1 + 1) w.heap.size (w.heap.size + 1) (w.heap.size + 1 + 1 + 1 + 1) (w.heap.size + 1 + 1) p bm S G so s l (.int .i64 i) w4 := by
        rintro i w4 hi ⟨_, V', hv', ho', hvis, hno⟩
        refine ⟨k + 1, V', hlt, by rw [hi]; rfl, hv', ho.trans ho' (fun _ _ e => e), ?_⟩
        rw [htk.out]
        exact hall.snoc hvis hno
      have Hnext := Hid.mk hnext
      clear hnext hall hv ho hc0 hsl hmaps
      go_wp2_with fail
      refine hcall.out.mono ?_
      rintro e w4 he
      have hp4 := Hnext.out ((k : Int) + 1) w4 rfl (by obtain ⟨rfl, h⟩ := he; exact ⟨rfl, h⟩)
      obtain ⟨rfl, _⟩ := he
      have Hp4 := Hid.mk hp4
      clear hp4
      go_wp2
      go_roundw
      case rel => exact Hp4.out
      case measure => simp [intOf]; omega
    · have hkl : k = l.length := by omega
      have hcs := hv.cs
      have hcall := Hid.mk (Hfin.out V wr hv ho (by rw [hkl, List.take_length] at hall; exact hall))
      clear hv ho hall hmaps
      go_wp2_with fail
      refine hcall.out.mono ?_
      rintro e w4 ⟨v, rfl, h⟩
      have Hp4 := Hid.mk (show Strs (clos G s l) w (.returned v) w4 from ⟨v, rfl, h⟩)
      clear h
      go_wp2
      go_ret
      exact Hp4.out

theorem IsG.outs {w : World} {p bo bi : Nat} {so si : Str → Nat} {G : Gr} (h : IsG w p bo bi so si G) : ∀ x ∈ G.ns, MapG Try.prog 9 eB w (so x) G.ns.length (succMap G.e x) := h.eo
theorem IsG.ins {w : World} {p bo bi : Nat} {so si : Str → Nat} {G : Gr} (h : IsG w p bo bi so si G) : ∀ x ∈ G.ns, MapG Try.prog 9 eB w (si x) G.ns.length (succMap G.turn.e x) := h.ei

set_option maxHeartbeats 1000000 in
theorem below_is {S : Nat → Prop} {w : World} {p : Nat} {G : Gr} (h : IsGraph S w p G) (a : Option Addr) (cap n : Nat) (l : List Str) (hn : n = l.length) (hl : StrsAt w a l) (hsl : ∀ x ∈ l, x.length ≤ maxLen) (hcap : l.length ≤ 9223372036854775807) :
    Calls Try.prog 14 #[ptr p, .slice a n cap] w (Strs (clos G G.e l) w) := by
  have h0 := h
  obtain ⟨bo, bi, so, si, hg, hS⟩ := h
  have c0 := hg.cell0
  have hc := Hid.mk (closed_some h0 hg.mo hg.outs (fun x y he => (hg.ok.ends x y he).2) a cap n l hn hl hsl hcap)
  clear hS hg h0 hl hsl hn
  go_enter Try.func14, Try.ntmps14
  go_wp2_with fail
  refine hc.out.mono ?_
  rintro e w4 ⟨v, rfl, h⟩
  have Hp4 := Hid.mk (show Strs (clos G G.e l) w (.returned v) w4 from ⟨v, rfl, h⟩)
  clear h
  go_wp2
  go_ret
  exact Hp4.out

set_option maxHeartbeats 1000000 in
theorem above_is {S : Nat → Prop} {w : World} {p : Nat} {G : Gr} (h : IsGraph S w p G) (a : Option Addr) (cap n : Nat) (l : List Str) (hn : n = l.length) (hl : StrsAt w a l) (hsl : ∀ x ∈ l, x.length ≤ maxLen) (hcap : l.length ≤ 9223372036854775807) :
    Calls Try.prog 15 #[ptr p, .slice a n cap] w (Strs (clos G G.turn.e l) w) := by
  have h0 := h
  obtain ⟨bo, bi, so, si, hg, hS⟩ := h
  have c0 := hg.cell1
  have hc := Hid.mk (closed_some h0 hg.mi hg.ins (fun x y he => (hg.ok.ends y x he).1) a cap n l hn hl hsl hcap)
  clear hS hg h0 hl hsl hn
  go_enter Try.func15, Try.ntmps15
  go_wp2_with fail
  refine hc.out.mono ?_
  rintro e w4 ⟨v, rfl, h⟩
  have Hp4 := Hid.mk (show Strs (clos G G.turn.e l) w (.returned v) w4 from ⟨v, rfl, h⟩)
  clear h
  go_wp2
  go_ret
  exact Hp4.out

theorem below_nil (a : Option Addr) (n cap : Nat) (w : World) : Calls Try.prog 14 #[.pointer none, .slice a n cap] w fun e w' => e = .returned (.slice none 0 0) ∧ w = w' := by
  go_enter Try.func14, Try.ntmps14
  go_wp2
  go_ret
  exact ⟨rfl, rfl⟩
theorem above_nil (a : Option Addr) (n cap : Nat) (w : World) : Calls Try.prog 15 #[.pointer none, .slice a n cap] w fun e w' => e = .returned (.slice none 0 0) ∧ w = w' := by
  go_enter Try.func15, Try.ntmps15
  go_wp2
  go_ret
  exact ⟨rfl, rfl⟩

end Go.Proofs.Ytiinmmgknlnkaaa
