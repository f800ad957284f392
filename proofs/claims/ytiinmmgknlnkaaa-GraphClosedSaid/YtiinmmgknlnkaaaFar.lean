/-
  graph.far: the table of distances, wave by wave.
-/
import Derived.Test.YtiinmmgknlnkaaaAppend
import Derived.Test.YtiinmmgknlnkaaaDist
import Derived.Deep.LoopGhost
import Derived.WalkMore
namespace Go.Proofs.Ytiinmmgknlnkaaa
open Go.RowKit Go.Maps
open Go.ChangeMaps (setBlock)

/-- The table: of each name from which a way leads to t, how far it is. -/
def FarPost (w : World) (G : Gr) (t : Str) (e : Ending) (w' : World) : Prop :=
  ∃ b f, e = .returned (.map (some b)) ∧ MapG Try.prog 9 eI w' b G.ns.length f ∧ (∀ x (k : Int), f x = some k ↔ ∃ j : Nat, k = j ∧ IsDist G.e t j x) ∧ w.heap.size ≤ b ∧ Below w.heap.size w w'

def FRel (w : World) (G : Gr) (t : Str) (g : Nat) (wave nv : Value) (wr : World) : Prop :=
  ∃ (m : Nat) (wl : List Str) (f : Str → Option Int) (gw cap : Nat), wave = .slice (some ⟨gw, 0, none⟩) wl.length cap ∧ nv = .int .i64 ((m : Int) + 1) ∧ OwnStrs wr w.heap.size wave wl ∧ (∀ x, x ∈ wl ↔ IsDist G.e t m x) ∧ wl.length ≤ 1048576 ∧
    Wave G.ns G.e t (m + 1) [] f ∧ MapG Try.prog 9 eI wr w.heap.size G.ns.length f ∧ unmarked G.ns (fun x => (f x).isSome) ≤ g ∧ m + 1 + unmarked G.ns (fun x => (f x).isSome) ≤ G.ns.length ∧ Below w.heap.size w wr

def MRel (wn : World) (B : Nat) (G : Gr) (t : Str) (m : Nat) (wl : List Str) (g : Nat) (nx iv : Value) (wr : World) : Prop :=
  ∃ (i : Nat) (nl : List Str) (f : Str → Option Int), i + g = wl.length ∧ iv = .int .i64 i ∧ OwnStrs wr wn.heap.size nx nl ∧ Wave G.ns G.e t (m + 1) nl f ∧ MapG Try.prog 9 eI wr B G.ns.length f ∧ Only (· = B) wn wr ∧
    (∀ x ∈ wl.take i, ∀ y, G.e y x = true → (f y).isSome = true) ∧ (nl = [] → nx = .slice none 0 0)

def IRel (wn : World) (B : Nat) (G : Gr) (t : Str) (m : Nat) (wl : List Str) (i : Nat) (x0 : Str) (sx r : Nat) (g : Nat) (nx : Value) (wr : World) : Prop :=
  ∃ (nl : List Str) (f : Str → Option Int) (left : Str → Bool), RangeG Try.prog 9 eB wr sx r G.ns.length (inMap G x0) left g ∧ OwnStrs wr wn.heap.size nx nl ∧ Wave G.ns G.e t (m + 1) nl f ∧ MapG Try.prog 9 eI wr B G.ns.length f ∧ Only (· = B) wn wr ∧
    (∀ x ∈ wl.take i, ∀ y, G.e y x = true → (f y).isSome = true) ∧ (∀ y, G.e y x0 = true → left y = false → (f y).isSome = true) ∧ (nl = [] → nx = .slice none 0 0)

theorem names_few {ns nl : List Str} (hn : nl.Nodup) (hs : ∀ x ∈ nl, x ∈ ns) : nl.length ≤ ns.length := by
  induction nl generalizing ns with
  | nil => exact Nat.zero_le _
  | cons x r ih =>
    obtain ⟨h1, h2⟩ := List.nodup_cons.1 hn
    have hx := hs x (by simp)
    have := ih (ns := ns.erase x) h2 fun y hy => (List.mem_erase_of_ne (fun e => h1 (by rw [← e]; exact hy))).2 (hs y (by simp [hy]))
    rw [List.length_erase_of_mem hx] at this
    have : 0 < ns.length := List.length_pos_of_mem hx
    simp only [List.length_cons]
    omega

theorem Wave.nl_names {G : Gr} {t : Str} {n : Nat} {nl : List Str} {f : Str → Option Int} (h : Wave G.ns G.e t n nl f) : ∀ x ∈ nl, x ∈ G.ns := fun x hx => h.names x n ((h.far x n).2 (.inr ⟨rfl, hx⟩))

theorem keys_wave {G : Gr} (hok : G.ok) {t : Str} {n : Nat} {nl : List Str} {f : Str → Option Int} (h : Wave G.ns G.e t n nl f) : KeysAre f (G.ns.filter fun x => (f x).isSome) :=
  ⟨Rising.nodup (hok.rise.filter _), fun x => by
    rw [List.mem_filter]
    refine ⟨fun h => h.2, fun hx => ⟨?_, hx⟩⟩
    obtain ⟨k, hk⟩ := Option.isSome_iff_exists.1 hx
    exact h.names x k hk⟩

theorem OwnStrs.changed {w w' : World} {base r : Nat} {v : Value} {l : List Str} (h : OwnStrs w base v l) (hg : w.grownBy w' (some r)) (hr : ∀ c t f, w.heap[r]? ≠ some (.cells c t f)) : OwnStrs w' base v l := by
  obtain ⟨h1, h2 | ⟨g, cap, cur, hv, hg0, hc, h3⟩⟩ := h
  · exact ⟨h1, .inl h2⟩
  · refine ⟨h1, .inr ⟨g, cap, cur, hv, hg0, (hg.block g (Array.getElem?_eq_some_iff.1 hc).1 fun e => ?_).trans hc, h3⟩⟩
    obtain rfl : g = r := by simpa using e
    exact hr _ _ _ hc

theorem OwnStrs.block {w : World} {base k : Nat} {v : Value} {l : List Str} (h : OwnStrs w base v l) (hk : v.ownBlock = some k) : base ≤ k ∧ k < w.heap.size ∧ ∃ c t f, w.heap[k]? = some (.cells c t f) := by
  obtain ⟨h1, ⟨rfl, _⟩ | ⟨g, cap, cur, rfl, hg0, hc, h3⟩⟩ := h
  · cases hk
  · simp only [Value.ownBlock, Option.some.injEq] at hk
    subst hk
    exact ⟨hg0, (Array.getElem?_eq_some_iff.1 hc).1, _, _, _, hc⟩

theorem own_other {w w' : World} {base k : Nat} {v : Value} {l : List Str} (h : OwnStrs w base v l) (hg : w.grownBy w' v.ownBlock) (hk : k < w.heap.size) (hn : ∀ c t f, w.heap[k]? ≠ some (.cells c t f)) : w'.heap[k]? = w.heap[k]? := by
  refine hg.block k hk fun e => ?_
  obtain ⟨_, _, c, t, f, hc⟩ := h.block e.symm
  exact hn _ _ _ hc

section
variable {wn wi w3 : World} {B : Nat} {G : Gr} {t : Str} {m : Nat} {wl : List Str} {i : Nat} {x0 : Str} {sx r g cnt' : Nat} {nx : Value} {nl : List Str} {f : Str → Option Int} {left : Str → Bool} {y : Str}

theorem iter_not_cells {α : Type} {P : Program} {k : TypeId} {E : Elem α} {w : World} {b r n : Nat} {f : Str → Option α} {left : Str → Bool} {cnt : Nat} (h : RangeG P k E w b r n f left cnt) : ∀ c t f, w.heap[r]? ≠ some (.cells c t f) := by
  obtain ⟨s, sn, c0, hr⟩ := h.iter
  intro c t f e
  rw [hr] at e
  cases e
theorem map_not_cells {α : Type} {P : Program} {k : TypeId} {E : Elem α} {w : World} {b n : Nat} {f : Str → Option α} (h : MapG P k E w b n f) : ∀ c t f, w.heap[b]? ≠ some (.cells c t f) := by
  obtain ⟨es, c0, hr⟩ := h.is_map
  intro c t f e
  rw [hr] at e
  cases e
theorem iter_ne_map {α β : Type} {P : Program} {k k' : TypeId} {E : Elem α} {E' : Elem β} {w : World} {b r n n' b' : Nat} {f : Str → Option α} {f' : Str → Option β} {left : Str → Bool} {cnt : Nat} (h : RangeG P k E w b r n f left cnt) (hm : MapG P k' E' w b' n' f') : r ≠ b' := by
  obtain ⟨s, sn, c0, hr⟩ := h.iter
  obtain ⟨es, c, hb⟩ := hm.is_map
  intro e
  rw [e, hb] at hr
  cases hr

/-- The name that has come is known already. -/
theorem IRel.seen (hrg : RangeG Try.prog 9 eB wi sx r G.ns.length (inMap G x0) left g) (hnx : OwnStrs wi wn.heap.size nx nl) (hwv : Wave G.ns G.e t (m + 1) nl f) (hmp : MapG Try.prog 9 eI wi B G.ns.length f) (ho : Only (· = B) wn wi)
    (hc1 : ∀ x ∈ wl.take i, ∀ y, G.e y x = true → (f y).isSome = true) (hc2 : ∀ y, G.e y x0 = true → left y = false → (f y).isSome = true) (hr0 : wn.heap.size ≤ r)
    (hrg3 : RangeG Try.prog 9 eB w3 sx r G.ns.length (inMap G x0) (fun z => left z && !decide (z = y)) cnt') (hgr : wi.grownBy w3 (some r)) (hy : (f y).isSome = true) (hnil : nl = [] → nx = .slice none 0 0) :
    IRel wn B G t m wl i x0 sx r cnt' nx w3 := by
  have hrB := iter_ne_map hrg hmp
  refine ⟨nl, f, _, hrg3, hnx.changed hgr (iter_not_cells hrg), hwv, hmp.same (hgr.block _ hmp.lt (by simpa using fun e => hrB e.symm)), ho.trans (Only.grown hgr) (fun z hz e => absurd hz (by omega)), hc1, fun z hz hl => ?_, hnil⟩
  by_cases e : z = y
  · subst e; exact hy
  · exact hc2 z hz (by simpa [e] using hl)

/-- It is new: it is put down, and behind the next wave. -/
theorem IRel.new {w4 w5 : World} {nx' : Value} (hrg : RangeG Try.prog 9 eB wi sx r G.ns.length (inMap G x0) left g) (hnx : OwnStrs wi wn.heap.size nx nl) (hwv : Wave G.ns G.e t (m + 1) nl f) (hmp : MapG Try.prog 9 eI wi B G.ns.length f) (ho : Only (· = B) wn wi) (hok : G.ok)
    (hc1 : ∀ x ∈ wl.take i, ∀ y, G.e y x = true → (f y).isSome = true) (hc2 : ∀ y, G.e y x0 = true → left y = false → (f y).isSome = true) (hr0 : wn.heap.size ≤ r) (hsx : sx ≠ B) (hx0 : IsDist G.e t m x0)
    (hrg3 : RangeG Try.prog 9 eB w3 sx r G.ns.length (inMap G x0) (fun z => left z && !decide (z = y)) cnt') (hgr : wi.grownBy w3 (some r)) (hyx : G.e y x0 = true) (hy : f y = none) {n4 : Nat}
    (hm4 : MapG Try.prog 9 eI w4 B n4 (upd f y (some ((m : Int) + 1)))) (ht4 : w3.mapTurned w4 B) (o : Obj) (hown5 : OwnStrs w5 wn.heap.size nx' (nl ++ [y])) (hgr5 : (w4.alloc o).grownBy w5 nx.ownBlock) :
    IRel wn B G t m wl i x0 sx r cnt' nx' w5 := by
  have hrB := iter_ne_map hrg hmp
  have hwv2 := hwv.put hx0 hyx (hok.ends y x0 hyx).1 hy
  have hnx3 := hnx.changed hgr (iter_not_cells hrg)
  have hmp3 := hmp.same (hgr.block _ hmp.lt (by simpa using fun e => hrB e.symm))
  have hnx4 := (hnx3.changed ht4.grown (map_not_cells hmp3))
  have hnx4' : OwnStrs (w4.alloc o) wn.heap.size nx nl := World.ownsRow.alloc hnx4 o
  have hb4 : ∀ k, k < w3.heap.size → k ≠ B → w4.heap[k]? = w3.heap[k]? := fun k hk hne => ht4.grown.block k hk (by simpa using hne)
  have hrg4 := hrg3.same (w' := w4) (hb4 _ hrg3.owns.lt hsx) (hb4 _ hrg3.lt hrB)
  have hrg4' := hrg4.same (w' := w4.alloc o) (Below.heap_alloc _ _ _ hrg4.owns.lt) (Below.heap_alloc _ _ _ hrg4.lt)
  have hm4' := hm4.alloc o
  have hkeys := keys_wave hok hwv2
  refine ⟨nl ++ [y], upd f y (some ((m : Int) + 1)), _, hrg4'.same (own_other hnx4' hgr5 hrg4'.owns.lt (map_not_cells hrg4'.owns)) (own_other hnx4' hgr5 hrg4'.lt (iter_not_cells hrg4')), hown5, hwv2, ?_, ?_, fun x hx z hz => ?_, fun z hz hl => ?_, fun e => by simp at e⟩
  · exact ((hm4'.same (own_other hnx4' hgr5 hm4'.lt (map_not_cells hm4'))).tight Try.underlying9 hkeys).mono (List.length_filter_le _ _)
  · have o3 := ho.trans (Only.grown hgr) (fun z hz e => absurd hz (by omega))
    have o4 := o3.trans (Only.of_turned ht4) (fun z _ e => e)
    have o4' := o4.trans (Only.alloc (fun _ => False) w4 o) (by simp)
    refine o4'.trans (S' := fun k => nx.ownBlock = some k) ⟨hgr5.os, hgr5.tape, hgr5.output, hgr5.size, fun k hk hn => hgr5.block k hk (fun e => hn e.symm)⟩ (fun z hz e => ?_)
    have := (hnx4'.block e).1
    omega
  · by_cases e : z = y
    · subst e; rw [upd_same]; rfl
    · rw [upd_other _ _ e]; exact hc1 x hx z hz
  · by_cases e : z = y
    · subst e; rw [upd_same]; rfl
    · rw [upd_other _ _ e]; exact hc2 z hz (by simpa [e] using hl)
end

set_option maxHeartbeats 4000000 in
theorem far_is {S : Nat → Prop} {w : World} {p : Nat} {G : Gr} (h : IsGraph S w p G) (t : Str) (ht : t ∈ G.ns) : Calls Try.prog 27 #[ptr p, strV t] w (FarPost w G t) := by
  have hok := h.ok
  have hlt := h.lt
  have htl := hok.short t ht
  have hmk : ∀ wx, (Instr.makeMap 52 none).run Try.prog wx = .ok (.map (some wx.heap.size)) (wx.alloc M0) := fun wx => run_makeMap (P := Try.prog) 52 wx
  have hfew := hok.few
  obtain ⟨w1, hr1, hm1, ht1⟩ := (MapG.made w Try.prog 9 eI).store Try.underlying9 Try.underlying52 (by decide) htl 0
  have hr1' : (Instr.mapUpdate 52 (.map (some w.heap.size)) (strV t) (.int .i64 0)).run Try.prog (w.alloc M0) = .ok () w1 := hr1
  have hb1 : Below w.heap.size w w1 := ⟨ht1.grown.os, ht1.grown.tape, ht1.grown.output, by have := ht1.grown.size; simp at this; omega, fun k hk => (ht1.grown.block k (by simp; omega) (by simp; omega)).trans (Below.heap_alloc w _ k hk)⟩
  have hsz1 : w.heap.size + 1 ≤ w1.heap.size := by have := ht1.grown.size; simpa using this
  have hw0 : Wave G.ns G.e t 1 [] (upd (fun _ => none) t (some 0)) := Wave.first ht
  have hpos : 0 < G.ns.length := List.length_pos_of_mem ht
  have hm1' : MapG Try.prog 9 eI (w1.alloc (.cells #[strV t] 9)) w.heap.size G.ns.length (upd (fun _ => none) t (some 0)) := (hm1.mono hpos).alloc _
  have hown0 : OwnStrs (w1.alloc (.cells #[strV t] 9)) w.heap.size (.slice (some ⟨w1.heap.size, 0, none⟩) 1 1) [t] := by
    refine ⟨rfl, .inr ⟨w1.heap.size, 1, #[strV t], rfl, by omega, heap_alloc_new _ _, Nat.le_refl _, by decide, rfl, rfl⟩⟩
  have hunm : 1 + unmarked G.ns (fun x => (upd (fun _ => none) t (some (0 : Int)) x).isSome) ≤ G.ns.length := by
    have h1 := unmarked_lt (ns := G.ns) (V := fun _ => false) (V' := fun x => (upd (fun _ => none) t (some (0 : Int)) x).isSome) (fun y hy => by cases hy) ht rfl (by simp [upd])
    have h2 : unmarked G.ns (fun _ => false) ≤ G.ns.length := List.length_filter_le _ _
    omega
  have hstart : FRel w G t G.ns.length (.slice (some ⟨w1.heap.size, 0, none⟩) 1 1) (.int .i64 1) (w1.alloc (.cells #[strV t] 9)) :=
    ⟨0, [t], _, w1.heap.size, 1, rfl, rfl, hown0, fun x => by
      simp only [List.mem_singleton]
      exact ⟨fun e => e ▸ dist_zero G.e t, fun hd => hd.zero_eq⟩, by simp, hw0, hm1', by omega, by omega, hb1.alloc (by omega) _⟩
  have Hstart := Hid.mk hstart
  have Hgr := Hid.mk h
  have Hok := Hid.mk hok
  have Hlt := Hid.mk hlt
  clear hstart hunm hown0 hm1' hw0 hb1 hm1 ht1 hr1 h hok hlt hpos hsz1 ht
  go_enter Try.func27, Try.ntmps27
  go_wp2
  go_step3
  go_wp2
  go_step3
  go_wp2
  go_loopg [6, 7] G.ns.length (fun g v n wr => FRel w G t g v n wr)
  case atStart => exact Hstart.out
  case round =>
    clear hr1' Hstart hmk
    rename World => wn
    obtain ⟨m, wl, f0, gw, capw, rfl, rfl, hown, hwl, hwlen, hwave, hmap, hunm, hbound, hbel⟩ := hrel
    have hm31 : m + 1 ≤ 1048576 := by omega
    have hsz : w.heap.size ≤ wn.heap.size := hbel.size
    have hgr := Hgr.out.below hbel
    have hBmap : ∀ k, k = w.heap.size → ∃ es c, wn.heap[k]? = some (.map es c) := fun k hk => hk ▸ hmap.is_map
    have hstartM : MRel wn w.heap.size G t m wl wl.length (.slice none 0 0) (.int .i64 (0 : Nat)) wn := ⟨0, [], f0, by omega, rfl, OwnStrs.nil _ _, hwave, hmap, Only.refl _ _, by simp, fun _ => rfl⟩
    have HstartM := Hid.mk hstartM
    have Hown := Hid.mk hown
    have Hwl := Hid.mk hwl
    have Hwave := Hid.mk hwave
    have Hmap := Hid.mk hmap
    have Hbel := Hid.mk hbel
    have HgrR := Hid.mk hgr
    have HBmap := Hid.mk hBmap
    have Hunm := Hid.mk (And.intro hunm hbound)
    clear hstartM hown hwl hwave hmap hbel hgr hunm hbound hBmap
    go_wp2
    go_loopg [8, 23] wl.length (fun g2 nx iv wm => MRel wn w.heap.size G t m wl g2 nx iv wm)
    case atStart => exact HstartM.out
    case round =>
      clear HstartM
      rename World => wm
      obtain ⟨i, nl, f, hig, rfl, hnx, hwv, hmp, honly, hcov, hnil⟩ := hrel
      have hnlen : nl.length ≤ G.ns.length := names_few hwv.nodup hwv.nl_names
      have hszm : wn.heap.size ≤ wm.heap.size := honly.size
      have hil : i ≤ wl.length := by omega
      cases gk with
      | zero =>
        have hdone : i = wl.length := by omega
        have hcov2 : ∀ x y, IsDist G.e t m x → G.e y x = true → (f y).isSome = true := fun x y hx he => hcov x (by rw [hdone, List.take_length]; exact (Hwl.out x).2 hx) y he
        have hmem := hwv.whole hcov2
        have hbelm : Below w.heap.size w wm := by
          have hb := Hbel.out
          exact ⟨honly.os.trans hb.os, honly.tape.trans hb.tape, honly.output.trans hb.output, by omega, fun k hk => (honly.block k (by omega) (by omega)).trans (hb.block k hk)⟩
        by_cases hnl0 : nl = []
        · obtain rfl := hnil hnl0
          subst hnl0
          have hfin : FarPost w G t (.returned (.map (some w.heap.size))) wm := ⟨_, f, rfl, hmp, fun x k => hwv.done (fun z hz => by have := (hmem z).2 hz; cases this) x k, Nat.le_refl _, hbelm⟩
          have Hfin := Hid.mk hfin
          clear hfin hbelm hmem hcov2 hcov hwv hmp honly hnx hnlen hig hnil
          subst hdone
          go_wp2
          rw [Exit.noGoto_ret]
          go_ret
          exact Hfin.out
        · obtain ⟨gn, capn, rfl⟩ : ∃ gn capn, u8 = .slice (some ⟨gn, 0, none⟩) nl.length capn := by
            rcases hnx.shape with ⟨_, e⟩ | ⟨gn, capn, e, _⟩
            · exact absurd e hnl0
            · exact ⟨gn, capn, e⟩
          have hne : ((nl.length : Int) == 0) = false := by
            have : nl.length ≠ 0 := fun e => hnl0 (List.eq_nil_of_length_eq_zero e)
            simp; exact hnl0
          obtain ⟨y0, hy0⟩ := List.exists_mem_of_ne_nil nl hnl0
          have hu0 := Hunm.out
          have hless : unmarked G.ns (fun x => (f x).isSome) < unmarked G.ns (fun x => (f0 x).isSome) := by
            refine unmarked_lt (fun y hy => ?_) (hwv.nl_names y0 hy0) ?_ (hwv.some_iff.2 (.inr hy0))
            · rcases (Hwave.out).some_iff.1 hy with h | h
              · exact hwv.some_iff.2 (.inl h)
              · cases h
            · cases hf : (f0 y0).isSome
              · rfl
              · rcases (Hwave.out).some_iff.1 hf with ⟨j, hj, hd⟩ | h
                · have := hd.unique ((hmem y0).1 hy0); omega
                · cases h
          have hnext : ∀ i : Int, i = (m : Int) + 1 + 1 → FRel w G t (unmarked G.ns (fun x => (f x).isSome)) (.slice (some ⟨gn, 0, none⟩) nl.length capn) (.int .i64 i) wm := fun i hi =>
            ⟨m + 1, nl, f, gn, capn, rfl, by rw [hi]; rfl, hnx.base hsz, hmem, by have := Hok.out.few; omega, hwv.on hmem, hmp, Nat.le_refl _, by omega, hbelm⟩
          have Hnext := Hid.mk hnext
          have Hless := Hid.mk (Nat.lt_of_lt_of_le hless hu0.1)
          clear hnext hless hu0 hy0 hbelm hmem hcov2 hcov hwv hmp honly hnx hnil hnl0 hig
          subst hdone
          go_wp2
          go_roundg (unmarked G.ns (fun x => (f x).isSome))
          case measure => exact Hless.out
          case rel => exact Hnext.out _ rfl
      | succ g3 =>
        have hlti : i < wl.length := by omega
        have hx0w : wl[i] ∈ wl := List.getElem_mem hlti
        have hx0 := (Hwl.out _).1 hx0w
        have hx0n : wl[i] ∈ G.ns := (Hwave.out).names _ m (((Hwave.out).far _ m).2 (.inl ⟨m, rfl, by omega, hx0⟩))
        have hx0l := Hok.out.short _ hx0n
        have hcw0 : wn.cell? ⟨gw, i, none⟩ = some (strV wl[i]) := by
          rcases Hown.out.shape with ⟨e, _⟩ | ⟨g', cap', e, _, _, hc⟩
          · cases e
          · have e2 : gw = g' := by simpa using (congrArg (fun v => match v with | .slice (some a) _ _ => a.block | _ => 0) e)
            rw [e2]; exact hc i hlti
        have hcw : wm.cell? ⟨gw, i, none⟩ = some (strV wl[i]) := cell_only honly HBmap.out hcw0
        have htake := Hid.mk (List.take_succ_eq_append_getElem hlti)
        generalize wl[i] = x0 at hx0w hx0 hx0n hx0l hcw htake
        have hgrm : IsGraph S wm p G := HgrR.out.only honly (by have := Hlt.out.1; omega) (fun k hk e => by have := Hlt.out.2 k hk; omega)
        obtain ⟨bo, bi, so, si, hg, hS⟩ := hgrm
        have c1 := hg.cell1
        have hl1 : (Instr.lookup 47 (.map (some bi)) (strV x0) false).run Try.prog wm = .ok (.map (some (si x0))) wm := hg.mi.look_some Try.underlying9 Try.underlying47 (zeroSet wm) hx0l (a := si x0) (by simp [nodeMap, hx0n])
        obtain ⟨w2, cnt, hr2, hrg2, hb2, hs2⟩ := (hg.ei x0 hx0n).range Try.underlying9 Try.underlying58
        have hr2' : (Instr.range 58 (.map (some (si x0)))).run Try.prog wm = .ok (.pointer (some ⟨wm.heap.size, 0, none⟩)) w2 := hr2
        have hsx : si x0 ≠ w.heap.size := fun e => by
          have h1 := Hlt.out.2 (si x0) ((hS _).2 (.inr (.inr ⟨x0, hx0n, .inr rfl⟩)))
          omega
        have hstartI : IRel wn w.heap.size G t m wl i x0 (si x0) wm.heap.size cnt u8 w2 := by
          refine ⟨nl, f, _, hrg2, hnx.below hb2, hwv, hmp.same (hb2.block _ hmp.lt), honly.trans (Only.of_below (S := fun _ => False) hb2) (by simp), hcov, fun y hy hl => ?_, hnil⟩
          simp only [inMap] at hl
          rw [if_pos hy] at hl
          cases hl
        have HstartI := Hid.mk hstartI
        have Hx0 := Hid.mk hx0
        have Hsx := Hid.mk hsx
        clear hstartI hb2 hs2 hrg2 hr2 hg hS hx0 hx0w hx0n hsx hwv hmp honly hcov hnil hnx hcw0
        go_wp2
        go_loopg [8] cnt (fun g4 nx wi => IRel wn w.heap.size G t m wl i x0 (si x0) wm.heap.size g4 nx wi)
        case atStart => exact HstartI.out
        case round =>
          clear HstartI
          rename World => wi
          obtain ⟨nl, f, left, hrg, hnx, hwv, hmp, ho, hc1, hc2, hnil⟩ := hrel
          have hnlen : nl.length ≤ G.ns.length := names_few hwv.nodup hwv.nl_names
          rcases hrg.next Try.underlying9 0 with ⟨hl0, hrun⟩ | ⟨y, a, w3, cnt3, hly, hyl, hfy, hrun, hrg3, hlt, hgr, hsz3, hen⟩
          · have hnext : ∀ k : Int, k = (i : Int) + 1 → MRel wn w.heap.size G t m wl g3 u8 (.int .i64 k) wi := fun k hk =>
              ⟨i + 1, nl, f, by omega, by rw [hk]; rfl, hnx, hwv, hmp, ho, fun x hx y hy => by
                rw [htake.out] at hx
                rcases List.mem_append.1 hx with hx | hx
                · exact hc1 x hx y hy
                · obtain rfl := List.mem_singleton.1 hx; exact hc2 y hy (hl0 y), hnil⟩
            have Hnext := Hid.mk hnext
            clear hnext hrg hnx hwv hmp ho hc1 hc2 hnil hl0 hr2' hl1 c1 hcw
            go_wp2
            go_roundg g3
            case measure => omega
            case rel => exact Hnext.out _ rfl
          · have hyx : G.e y x0 = true := by
              simp only [inMap] at hfy
              split at hfy
              · assumption
              · cases hfy
            obtain rfl : a = true := by
              simp only [inMap, hyx, if_true] at hfy
              simpa using hfy.symm
            have hen' : (Instr.entry (.pointer (some ⟨wm.heap.size, 0, none⟩))).run Try.prog w3 = .ok (.tuple #[strV y, .bool true]) w3 := hen
            have hrun' : (Instr.next (.pointer (some ⟨wm.heap.size, 0, none⟩)) false 0).run Try.prog wi = .ok (.tuple #[.bool true, strV y, .bool true]) w3 := hrun
            have hrB := iter_ne_map hrg hmp
            have hmp3 := hmp.same (hgr.block _ hmp.lt (by simpa using fun e => hrB e.symm))
            cases hfy2 : f y with
            | some k =>
              have hlk : (Instr.lookup 52 (.map (some w.heap.size)) (strV y) true).run Try.prog w3 = .ok (.tuple #[.int .i64 k, .bool true]) w3 := hmp3.look_ok_some Try.underlying9 Try.underlying52 (zeroInt w3) hyl hfy2
              have Hnext := Hid.mk (IRel.seen hrg hnx hwv hmp ho hc1 hc2 hszm hrg3 hgr (by rw [hfy2]; rfl) hnil)
              have Hlt3 := Hid.mk hlt
              clear hrg hnx hwv hmp ho hc1 hc2 hnil hr2' hl1 c1 hcw hmp3 hrB hrg3 hgr hlt hen hrun hfy hly hyl hyx hfy2 hsz3
              go_wp2
              go_roundg cnt3
              case measure => exact Hlt3.out
              case rel => exact Hnext.out
            | none =>
              have hlk : (Instr.lookup 52 (.map (some w.heap.size)) (strV y) true).run Try.prog w3 = .ok (.tuple #[.int .i64 0, .bool false]) w3 := hmp3.look_ok_none Try.underlying9 Try.underlying52 (zeroInt w3) hyl hfy2
              obtain ⟨w4, hr4, hm4, ht4⟩ := hmp3.store Try.underlying9 Try.underlying52 (by unfold maxLen; omega) hyl ((m : Int) + 1)
              have hr4' : (Instr.mapUpdate 52 (.map (some w.heap.size)) (strV y) (.int .i64 ((m : Int) + 1))).run Try.prog w3 = .ok () w4 := hr4
              have hnx4 : OwnStrs w4 wn.heap.size u8 nl := (hnx.changed hgr (iter_not_cells hrg)).changed ht4.grown (map_not_cells hmp3)
              have hbase : wn.heap.size ≤ (w4.alloc (.cells #[strV y] 9)).heap.size := by
                have := ht4.grown.size
                have := hgr.size
                have := ho.size
                rw [World.size_alloc]
                omega
              have hnx4' : OwnStrs (w4.alloc (.cells #[strV y] 9)) wn.heap.size u8 nl := World.ownsRow.alloc hnx4 _
              have hcn := cell_new w4 (strV y) 9
              have hnext := fun (w5 : World) (nx' : Value) (h5 : OwnStrs w5 wn.heap.size nx' (nl ++ [y])) (g5 : (w4.alloc (.cells #[strV y] 9)).grownBy w5 u8.ownBlock) => IRel.new hrg hnx hwv hmp ho Hok.out hc1 hc2 hszm Hsx.out Hx0.out hrg3 hgr hyx hfy2 hm4 ht4 _ h5 g5
              have Hnext := Hid.mk hnext
              have Hlt3 := Hid.mk hlt
              have Hnx4 := Hid.mk hnx4'
              have Hcn := Hid.mk hcn
              have Hbase := Hid.mk hbase
              clear hnext hrg hnx hwv hmp ho hc1 hc2 hnil hr2' hl1 c1 hcw hmp3 hrB hrg3 hgr hlt hen hrun hfy hly hyl hyx hfy2 hsz3 hm4 ht4 hr4 hnx4 hnx4' hcn hbase
              go_wp2_with (at_builtin; refine wpList_appS _ rfl _ _ rfl wn.heap.size u8 nl rfl Hnx4.out w4.heap.size y rfl Hcn.out (by omega) Hbase.out ?_; intro g' cap' w5 hown5 hgr5 hloc5; have Hown5 := Hid.mk hown5; have Hgr5 := Hid.mk hgr5; clear hown5 hgr5 hloc5)
              go_roundg cnt3
              case measure => exact Hlt3.out
              case rel => exact Hnext.out _ _ Hown5.out Hgr5.out

end Go.Proofs.Ytiinmmgknlnkaaa
