/-
  Slices of edges of the call's own; edges of pairs; graph.Edges, graph.Turn.
-/
import Derived.Test.YtiinmmgknlnkaaaOrder
import Derived.StillTailTactics
import Derived.Deep.RegionLaw
import Derived.IntWalk
namespace Go.Proofs.Ytiinmmgknlnkaaa
open Go.RowKit Go.Maps
open Go.ChangeMaps (setBlock)

def edgeCells (l : EdgeL) : List Value := l.flatMap fun e => [strV e.1, strV e.2]

theorem edgeCells_length (l : EdgeL) : (edgeCells l).length = l.length * 2 := by
  induction l with
  | nil => rfl
  | cons a r ih => simp only [edgeCells, List.flatMap_cons, List.length_append, List.length_cons, List.length_nil] at ih ⊢; omega

theorem edgeCells_append (l r : EdgeL) : edgeCells (l ++ r) = edgeCells l ++ edgeCells r := by simp [edgeCells]

theorem edgeCells_get : ∀ {l : EdgeL} {i : Nat} (h : i < l.length), (edgeCells l)[i * 2]? = some (strV l[i].1) ∧ (edgeCells l)[i * 2 + 1]? = some (strV l[i].2)
  | a :: r, 0, _ => ⟨rfl, rfl⟩
  | a :: r, i + 1, h => by
    have := edgeCells_get (l := r) (i := i) (by simpa using h)
    have e : edgeCells (a :: r) = strV a.1 :: strV a.2 :: edgeCells r := rfl
    rw [e, show (i + 1) * 2 = i * 2 + 1 + 1 from by omega, show i * 2 + 1 + 1 + 1 = (i * 2 + 1) + 1 + 1 from by omega]
    simpa using this

def OwnEdges (w : World) (base : Nat) (v : Value) (l : EdgeL) : Prop := w.ownsRow base 51 2 v l.length (edgeCells l)

theorem OwnEdges.base {w : World} {b b' : Nat} {v : Value} {l : EdgeL} (h : OwnEdges w b v l) (hb : b' ≤ b) : OwnEdges w b' v l := by
  obtain ⟨h1, h2 | ⟨g, cap, cur, hv, hg, h3⟩⟩ := h
  · exact ⟨h1, .inl h2⟩
  · exact ⟨h1, .inr ⟨g, cap, cur, hv, Nat.le_trans hb hg, h3⟩⟩
theorem OwnEdges.nil (w : World) (b : Nat) : OwnEdges w b (.slice none 0 0) [] := ⟨rfl, .inl ⟨rfl, rfl⟩⟩
theorem OwnEdges.below {w w' : World} {b : Nat} {v : Value} {l : EdgeL} (h : OwnEdges w b v l) (hb : Below w.heap.size w w') : OwnEdges w' b v l := by
  obtain ⟨h1, h2 | ⟨g, cap, cur, hv, hg, hc, h3⟩⟩ := h
  · exact ⟨h1, .inl h2⟩
  · exact ⟨h1, .inr ⟨g, cap, cur, hv, hg, (hb.block g (Array.getElem?_eq_some_iff.1 hc).1).trans hc, h3⟩⟩

theorem OwnEdges.at {w : World} {b : Nat} {v : Value} {l : EdgeL} (h : OwnEdges w b v l) : ∃ a cap, v = .slice a l.length cap ∧ EdgesAt w a l := by
  obtain ⟨h1, ⟨hv, h2⟩ | ⟨g, cap, cur, hv, hg, hb, hn, hm, hs, ht⟩⟩ := h
  · obtain rfl := List.eq_nil_of_length_eq_zero h2
    exact ⟨none, 0, hv, .inl rfl⟩
  · refine ⟨_, cap, hv, .inr ⟨g, 0, rfl, fun i hi => ?_⟩⟩
    have hcell : ∀ j u, (edgeCells l)[j]? = some u → w.cell? ⟨g, j, none⟩ = some u := fun j u hj => by
      have hjl : j < (edgeCells l).length := (List.getElem?_eq_some_iff.1 hj).1
      rw [← ht, List.getElem?_take_of_lt (by rw [edgeCells_length] at hjl; exact hjl)] at hj
      have h5 : cur[j]? = some u := by rw [← Array.getElem?_toList]; exact hj
      simp [World.cell?, hb, h5]
    have := edgeCells_get hi
    rw [show 0 + i * 2 = i * 2 from by omega]
    exact ⟨hcell _ _ this.1, hcell _ _ this.2⟩

theorem infoEdge : (Try.prog.info? 51).map (fun i => (i.zero, i.size, i.bytes)) = some (some (.agg #[.string ByteArray.empty, .string ByteArray.empty]), 2, 32) := by kernel_rfl

/-- 'append(l, e)', e in a new block: as an equation on the run. -/
theorem run_appE (w : World) (base : Nat) (v : Value) (l : EdgeL) (hown : OwnEdges w base v l) (a b : Str) (hlen : l.length + 1 ≤ 4194304) (hbase : base ≤ w.heap.size) :
    ∃ g' cap w', (Builtin.append_ #[25, 25] 25 #[v, .slice (some ⟨w.heap.size, 0, none⟩) 1 1]).run Try.prog (w.alloc (.cells #[strV a, strV b] 51)) = .ok (.slice (some ⟨g', 0, none⟩) (l.length + 1) cap) w' ∧
      OwnEdges w' base (.slice (some ⟨g', 0, none⟩) (l.length + 1) cap) (l ++ [(a, b)]) ∧ (w.alloc (.cells #[strV a, strV b] 51)).grownBy w' v.ownBlock := by
  obtain ⟨i0, hi, hz0, hz1, hz2⟩ := info_parts infoEdge
  have hcells : ∀ j u, [strV a, strV b][j]? = some u → (w.alloc (.cells #[strV a, strV b] 51)).cell? ⟨w.heap.size, j, none⟩ = some u := fun j u hu => by
    simp only [World.cell?]
    rw [heap_alloc_new]
    simpa using hu
  obtain ⟨v', w', hr, hown', hgr, hnil, hloc⟩ := run_append_own_at (P := Try.prog) (w.alloc (.cells #[strV a, strV b] 51)) base 25 25 51 i0 (.agg #[.string ByteArray.empty, .string ByteArray.empty]) 2 32 Try.underlying25 hi hz0 hz1 hz2 rfl (by decide) v l.length (edgeCells l) (World.ownsRow.alloc hown _) ⟨w.heap.size, 0, none⟩ 1 1 [strV a, strV b] rfl (fun j u hu => by
    have := hcells j u hu
    cases j with
    | zero => exact this
    | succ j =>
      rw [show (⟨w.heap.size, 0, none⟩ : Addr).add (j + 1) = ⟨w.heap.size, j + 1, none⟩ from by simp [Addr.add]]
      exact this) (by simp [Value.oneCell']) (by unfold maxLen; omega) (by omega) (by rw [World.size_alloc]; omega)
  have hown2 : OwnEdges w' base v' (l ++ [(a, b)]) := by
    unfold OwnEdges
    rw [edgeCells_append, List.length_append]
    exact hown'
  have hown3 := hown2
  obtain ⟨h1, ⟨rfl, h2⟩ | ⟨g, cap, cur, rfl, hg, hb, hn, hm, hs, ht⟩⟩ := hown2
  · simp at h2
  · have e1 : (l ++ [(a, b)]).length = l.length + 1 := by simp
    rw [e1] at hown3 hr
    exact ⟨g, cap, w', hr, hown3, hgr⟩

theorem OwnEdges.block {w : World} {base k : Nat} {v : Value} {l : EdgeL} (h : OwnEdges w base v l) (hk : v.ownBlock = some k) : base ≤ k ∧ k < w.heap.size ∧ ∃ c t f, w.heap[k]? = some (.cells c t f) := by
  obtain ⟨h1, ⟨rfl, _⟩ | ⟨g, cap, cur, rfl, hg0, hc, h3⟩⟩ := h
  · cases hk
  · simp only [Value.ownBlock, Option.some.injEq] at hk
    subst hk
    exact ⟨hg0, (Array.getElem?_eq_some_iff.1 hc).1, _, _, _, hc⟩

/-- All that was below stays below. -/
theorem below_app {w0 w w' : World} {base : Nat} {v : Value} {l : EdgeL} (hb : Below w0.heap.size w0 w) (h : OwnEdges w base v l) (hbase : w0.heap.size ≤ base) (hg : w.grownBy w' v.ownBlock) : Below w0.heap.size w0 w' :=
  ⟨hg.os.trans hb.os, hg.tape.trans hb.tape, hg.output.trans hb.output, Nat.le_trans hb.size hg.size, fun z hz => (hg.block z (Nat.lt_of_lt_of_le hz hb.size) (fun e => by
    have := (h.block e.symm).1
    omega)).trans (hb.block z hz)⟩

def Edges (l : EdgeL) (w : World) (e : Ending) (w' : World) : Prop := ∃ v, e = .returned v ∧ OwnEdges w' w.heap.size v l ∧ Below w.heap.size w w'

/-- The first k pairs of a list. -/
def pairsN (l : List Str) (k : Nat) : EdgeL := (List.range k).map fun i => (l.getD (2 * i) [], l.getD (2 * i + 1) [])

theorem pairsN_succ (l : List Str) (k : Nat) : pairsN l (k + 1) = pairsN l k ++ [(l.getD (2 * k) [], l.getD (2 * k + 1) [])] := by
  simp [pairsN, List.range_succ]

theorem pairsN_length (l : List Str) (k : Nat) : (pairsN l k).length = k := by simp [pairsN]

theorem cell_drew (w : World) (a : Addr) : w.drew.cell? a = w.cell? a := rfl

def ERel (w : World) (l : List Str) (m : Nat) (g : Nat) (ou iv : Value) (wr : World) : Prop :=
  ∃ k : Nat, k + g = m ∧ iv = .int .i64 (2 * (k : Int)) ∧ OwnEdges wr w.heap.size ou (pairsN l k) ∧ Below w.heap.size w wr

set_option maxHeartbeats 2000000 in
set_option maxRecDepth 100000 in
theorem edges19_is (w : World) (g0 off cap n m : Nat) (l : List Str) (hn : n = l.length) (hm : n = 2 * m) (hl : ∀ i (h : i < l.length), w.cell? ⟨g0, off + i, none⟩ = some (strV l[i])) (hsm : l.length ≤ 1048576) :
    Calls Try.prog 7 #[.slice (some ⟨g0, off, none⟩) n cap] w (Edges (pairsN l m) w) := by
  have Hl := Hid.mk hl
  have Hn := Hid.mk (And.intro hn hm)
  have hnb : n ≤ 1048576 := by omega
  have hmb : 2 * m ≤ n := by omega
  have hmb2 : n ≤ 2 * m := by omega
  have Hstart := Hid.mk (show ERel w l m m (.slice none 0 0) (.int .i64 0) w from ⟨0, by omega, rfl, OwnEdges.nil _ _, Below.refl _ _⟩)
  clear hl hn hm hsm
  go_enter Try.func7, Try.ntmps7
  go_wp2
  go_loopg [3, 4] m (fun g ou iv wr => ERel w l m g ou iv wr)
  case atStart => exact Hstart.out
  case round =>
    clear Hstart
    obtain ⟨k, hkg, rfl, hown, hbel⟩ := hrel
    have hkm : k ≤ m := by omega
    cases gk with
    | zero =>
      have hkm2 : m ≤ k := by omega
      have hend := Hid.mk (show Edges (pairsN l m) w (.returned u3) wr by
        obtain rfl : k = m := by omega
        exact ⟨_, rfl, hown, hbel⟩)
      clear hown hbel hkg
      go_wp2
      go_ret
      exact hend.out
    | succ g =>
      have hkm2 : k < m := by omega
      have hlen := (Hn.out).1
      have h2 := (Hn.out).2
      have hi1 : 2 * k < l.length := by omega
      have hi2 : 2 * k + 1 < l.length := by omega
      have hc : ∀ i (h : i < l.length), wr.cell? ⟨g0, off + i, none⟩ = some (strV l[i]) := fun i h => by
        have h0 := Hl.out i h
        exact cell_block h0 (hbel.block _ (cell_lt h0))
      have c1 := hc _ hi1
      have c2 := hc _ hi2
      have g1 : l.getD (2 * k) [] = l[2 * k] := by simp [hi1]
      have g2 : l.getD (2 * k + 1) [] = l[2 * k + 1] := by simp [hi2]
      have hps := Hid.mk (pairsN_succ l k)
      rw [g1, g2] at hps
      have hsz := hbel.size
      obtain ⟨g', cap', w5, hr5, hown5, hgr5⟩ := run_appE wr.drew w.heap.size u3 (pairsN l k) hown l[2 * k] l[2 * k + 1] (by rw [pairsN_length]; omega) hsz
      rw [pairsN_length] at hr5 hown5
      clear hc hlen h2
      generalize l[2 * k] = a at c1 hps hr5 hown5 hgr5
      generalize l[2 * k + 1] = b at c2 hps hr5 hown5 hgr5
      have hown1 : OwnEdges (wr.drew.alloc (.cells #[strV a, strV b] 51)) w.heap.size u3 (pairsN l k) := World.ownsRow.alloc hown _
      have hb5 : Below w.heap.size w w5 := below_app (w0 := w) (w := wr.drew.alloc (.cells #[strV a, strV b] 51)) ((show Below w.heap.size w wr.drew from ⟨hbel.os, hbel.tape, hbel.output, hbel.size, hbel.block⟩).alloc hsz _) hown1 (Nat.le_refl _) hgr5
      have Hrel := Hid.mk (show ∀ i : Int, i = 2 * (k : Int) + 2 → ERel w l m g (.slice (some ⟨g', 0, none⟩) (k + 1) cap') (.int .i64 i) w5 from fun i hi => ⟨k + 1, by omega, by subst hi; exact congrArg _ (by omega), by rw [hps.out]; exact hown5, hb5⟩)
      have hr5' : (Builtin.append_ #[25, 25] 25 #[u3, .slice (some ⟨wr.heap.size, 0, none⟩) 1 1]).run Try.prog (wr.alloc (.cells #[strV a, strV b] 51)).drew = .ok (.slice (some ⟨g', 0, none⟩) (k + 1) cap') w5 := hr5
      clear g1 g2 hi1 hi2 hr5 hown1 hown5 hgr5 hb5 hown hbel hps hkg
      go_wp2
      have b0 : 0 ≤ 2 * (k : Int) := by omega
      have b1 : 2 * (k : Int) < (n : Int) := by omega
      have b2 : 0 ≤ 2 * (k : Int) + 1 := by omega
      have b3 : 2 * (k : Int) + 1 < (n : Int) := by omega
      have b4 : IntKind.i64.wrap (2 * (k : Int) + 1) = 2 * (k : Int) + 1 := IntWalk.i64_in _ (by omega)
      have b5 : (2 * (k : Int)).toNat = 2 * k := by omega
      have b6 : (2 * (k : Int) + 1).toNat = 2 * k + 1 := by omega
      go_region_law (refine step_append_run rfl _ _ _ rfl rfl rfl rfl hr5' ?_)
      all_goals
        clear b0 b1 b2 b3 b4 b5 b6
        go_wp2
        go_roundg g
        case measure => omega
        case rel => exact Hrel.out _ rfl

/-- All edges of a graph, rising. -/
def Gr.edges (G : Gr) : EdgeL := G.ns.flatMap fun x => (G.out x).map fun y => (x, y)

theorem edges_nil (w : World) : Calls Try.prog 20 #[.pointer none] w (Edges [] w) := by
  go_enter Try.func20, Try.ntmps20
  go_wp2_with (go_at_call 11; refine (names_nil _).mono ?_; rintro e w' ⟨rfl, rfl⟩)
  refine wp_loop_rounds 1 ?_
  rw [rounds_succ]
  go_wp2
  go_ret
  exact ⟨_, rfl, OwnEdges.nil _ _, Below.refl _ _⟩

/-- Behind k names: their edges. -/
def G1Rel (w : World) (G : Gr) (gn _capn : Nat) (g : Nat) (ou iv : Value) (wr : World) : Prop :=
  ∃ k : Nat, k + g = G.ns.length ∧ iv = .int .i64 k ∧ OwnEdges wr w.heap.size ou ((G.ns.take k).flatMap fun x => (G.out x).map fun y => (x, y)) ∧ Below w.heap.size w wr ∧ (0 < G.ns.length → ∀ i (h : i < G.ns.length), wr.cell? ⟨gn, i, none⟩ = some (strV G.ns[i]))

end Go.Proofs.Ytiinmmgknlnkaaa
