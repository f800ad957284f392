/-
  graph.Edges and graph.Turn.
-/
import Derived.Test.YtiinmmgknlnkaaaKnown
namespace Go.Proofs.Ytiinmmgknlnkaaa
open Go.RowKit Go.Maps

/-- run_appE, and where the new slice lies. -/
theorem run_appE2 (w : World) (base : Nat) (v : Value) (l : EdgeL) (hown : OwnEdges w base v l) (a b : Str) (hlen : l.length + 1 ≤ 4194304) (hbase : base ≤ w.heap.size) :
    ∃ g' cap w', (Builtin.append_ #[25, 25] 25 #[v, .slice (some ⟨w.heap.size, 0, none⟩) 1 1]).run Try.prog (w.alloc (.cells #[strV a, strV b] 51)) = .ok (.slice (some ⟨g', 0, none⟩) (l.length + 1) cap) w' ∧
      OwnEdges w' base (.slice (some ⟨g', 0, none⟩) (l.length + 1) cap) (l ++ [(a, b)]) ∧ (w.alloc (.cells #[strV a, strV b] 51)).grownBy w' v.ownBlock ∧ (v.ownBlock = some g' ∨ w.heap.size ≤ g') := by
  obtain ⟨i0, hi, hz0, hz1, hz2⟩ := info_parts infoEdge
  have hcells : ∀ j u, [strV a, strV b][j]? = some u → (w.alloc (.cells #[strV a, strV b] 51)).cell? ⟨w.heap.size, j, none⟩ = some u := fun j u hu => by
    simp only [World.cell?]
    rw [heap_alloc_new]
    simpa using hu
  obtain ⟨v', w', hr, hown', hgr, hnil, hloc⟩ := run_append_own_at (P := Try.prog) (w.alloc (.cells #[strV a, strV b] 51)) base 25 25 51 i0 (.agg #[.string ByteArray.empty, .string ByteArray.empty]) 2 32 Try.underlying25 hi hz0 hz1 hz2 rfl (by decide) v l.length (edgeCells l) (World.ownsRow.alloc hown _) ⟨w.heap.size, 0, none⟩ 1 1 [strV a, strV b] rfl (fun j u hu => by
    have := hcells j u hu
    cases j with
    | zero => exact this
    | succ j =>
      rw [show (⟨w.heap.size, 0, none⟩ : Addr).add (j + 1) = ⟨w.heap.size, j + 1, none⟩ from by simp [Addr.add]]
      exact this) (by simp [Value.oneCell']) (by unfold maxLen; omega) (by omega) (by rw [World.size_alloc]; omega)
  have hown2 : OwnEdges w' base v' (l ++ [(a, b)]) := by
    unfold OwnEdges
    rw [edgeCells_append, List.length_append]
    exact hown'
  have hown3 := hown2
  obtain ⟨h1, ⟨rfl, h2⟩ | ⟨g, cap, cur, rfl, hg, hb, hn, hm, hs, ht⟩⟩ := hown2
  · simp at h2
  · have e1 : (l ++ [(a, b)]).length = l.length + 1 := by simp
    rw [e1] at hown3 hr hloc
    refine ⟨g, cap, w', hr, hown3, hgr, ?_⟩
    rcases hloc with hl | hl
    · exact .inl (by simpa [Value.ownBlock] using hl.symm)
    · simp [Value.ownBlock] at hl
      exact .inr (by omega)

def outEdges (G : Gr) (x : Str) : EdgeL := (G.out x).map fun y => (x, y)

theorem flat_take_succ (G : Gr) (l : List Str) (k : Nat) (h : k < l.length) : (l.take (k + 1)).flatMap (outEdges G) = (l.take k).flatMap (outEdges G) ++ outEdges G l[k] := by
  rw [List.take_succ_eq_append_getElem h, List.flatMap_append]
  simp

theorem flat_take_le (G : Gr) (l : List Str) (k : Nat) : ((l.take k).flatMap (outEdges G)).length ≤ (l.flatMap (outEdges G)).length := by
  conv => rhs; rw [← List.take_append_drop k l]
  rw [List.flatMap_append, List.length_append]
  omega

theorem edges_flat (G : Gr) : G.edges = G.ns.flatMap (outEdges G) := rfl

def EdRel (w1 : World) (G : Gr) (g : Nat) (ou iv : Value) (wr : World) : Prop :=
  ∃ k : Nat, k + g = G.ns.length ∧ iv = .int .i64 k ∧ OwnEdges wr w1.heap.size ou ((G.ns.take k).flatMap (outEdges G)) ∧ Below w1.heap.size w1 wr

def EdIn (w1 : World) (G : Gr) (x : Str) (pre : EdgeL) (ao : Option Addr) (g : Nat) (ou iv : Value) (wr : World) : Prop :=
  ∃ j : Nat, j + g = (G.out x).length ∧ iv = .int .i64 j ∧ OwnEdges wr w1.heap.size ou (pre ++ ((G.out x).take j).map fun y => (x, y)) ∧ Below w1.heap.size w1 wr ∧
    (0 < (G.out x).length → ∀ go, ao = some ⟨go, 0, none⟩ → ou.ownBlock ≠ some go ∧ go < wr.heap.size ∧ ∀ i (h : i < (G.out x).length), wr.cell? ⟨go, i, none⟩ = some (strV (G.out x)[i]))

set_option maxHeartbeats 4000000 in
set_option maxRecDepth 100000 in
theorem edges_is {S : Nat → Prop} {w : World} {p : Nat} {G : Gr} (h : IsGraph S w p G) (hed : G.edges.length ≤ 1048576) : Calls Try.prog 20 #[ptr p] w (Edges G.edges w) := by
  have hok := h.ok
  have Hgr := Hid.mk h
  have Hok := Hid.mk hok
  have Hed := Hid.mk hed
  have hfew := hok.few
  have hN := Hid.mk (names_is h)
  clear h hok hed
  go_enter Try.func20, Try.ntmps20
  go_wp2_with fail
  refine hN.out.mono ?_
  rintro e w1 ⟨vn, rfl, hvn, hb1⟩
  clear hN
  obtain ⟨an, capn, rfl, hcn⟩ := hvn.open
  have Hcn := Hid.mk hcn
  have Hb1 := Hid.mk hb1
  clear hvn hcn hb1
  go_wp2
  go_loopg [3, 11] G.ns.length (fun g ou iv wr => EdRel w1 G g ou iv wr)
  case atStart => exact ⟨0, by omega, rfl, OwnEdges.nil _ _, Below.refl _ _⟩
  case round =>
    rename World => wp
    obtain ⟨k, hkg, rfl, hown, hbel⟩ := hrel
    have hbelw := Hb1.out.trans (hbel.mono Hb1.out.size)
    cases gk with
    | zero =>
      obtain rfl : k = G.ns.length := by omega
      rw [List.take_length] at hown
      obtain ⟨ae, cape, he, hat⟩ := hown.at
      subst he
      have Hfin := Hid.mk (show Edges G.edges w (.returned (.slice ae (G.ns.flatMap (outEdges G)).length cape)) wp from ⟨_, rfl, hown.base Hb1.out.size, hbelw⟩)
      clear hown hbel hbelw hat
      go_wp2
      go_ret
      exact Hfin.out
    | succ g =>
      have hlt : k < G.ns.length := by omega
      obtain ⟨gn, rfl, hgn, hgs, hcells⟩ : ∃ gn, an = some ⟨gn, 0, none⟩ ∧ w.heap.size ≤ gn ∧ gn < w1.heap.size ∧ ∀ i (h : i < G.ns.length), w1.cell? ⟨gn, i, none⟩ = some (strV G.ns[i]) := by
        rcases Hcn.out with e | h
        · rw [e] at hlt; simp at hlt
        · exact h
      have hck : wp.cell? ⟨gn, k, none⟩ = some (strV G.ns[k]) := cell_block (hcells k hlt) (hbel.block _ hgs)
      have Hstep := Hid.mk (flat_take_succ G G.ns k hlt)
      have Hle := Hid.mk (flat_take_le G G.ns (k + 1))
      have hxl := Hok.out.short _ (List.getElem_mem hlt)
      generalize hB0 : (G.ns.take k).flatMap (outEdges G) = pre at hown Hstep
      generalize G.ns[k] = x at hck Hstep hxl
      have hgr := Hgr.out.below hbelw
      have hO := Hid.mk (out_is hgr x hxl)
      have hfO : (G.out x).length ≤ 1048576 := few_out Hok.out x
      have Hown := Hid.mk hown
      have Hbel := Hid.mk (And.intro hbel hbelw)
      clear hcells hown hbel hbelw hB0 hgr
      go_wp2_with fail
      refine hO.out.mono ?_
      rintro e w2 ⟨vo, rfl, hvo, hb2⟩
      clear hO
      obtain ⟨ao, capo, rfl, hco⟩ := hvo.open
      have Hstart := Hid.mk (show ∀ iv, iv = Value.int .i64 0 → EdIn w1 G x pre ao (G.out x).length _ iv w2 from fun iv hiv => ⟨0, by omega, hiv, by simpa using Hown.out.below hb2, (Hbel.out).1.trans (hb2.mono (Hbel.out).1.size), fun hpos go hgo => by
        rcases hco with e | ⟨g0, e, hb0, hl0, hc0⟩
        · rw [e] at hpos; simp at hpos
        · rw [e] at hgo
          obtain rfl : g0 = go := by simpa using hgo
          exact ⟨fun hk => by have := (Hown.out.block hk).2.1; omega, hl0, hc0⟩⟩)
      have Hco := Hid.mk (show 0 < (G.out x).length → ∃ go, ao = some ⟨go, 0, none⟩ from fun hpos => by
        rcases hco with e | ⟨g0, e, _⟩
        · rw [e] at hpos; simp at hpos
        · exact ⟨g0, e⟩)
      clear hvo hco hb2 Hown hck
      go_wp2
      go_loopg [3, 19] (G.out x).length (fun g ou iv wr => EdIn w1 G x pre ao g ou iv wr)
      case atStart => exact Hstart.out _ rfl
      case round =>
        clear Hstart
        rename World => wq
        obtain ⟨j, hjg, rfl, hown, hbel, hcell⟩ := hrel
        cases gk with
        | zero =>
          obtain rfl : j = (G.out x).length := by omega
          rw [List.take_length] at hown
          have Hrel := Hid.mk (show ∀ i : Int, i = (k : Int) + 1 → EdRel w1 G g _ (.int .i64 i) wq from fun i hi => ⟨k + 1, by omega, by subst hi; exact congrArg _ (by omega), by rw [Hstep.out]; exact hown, hbel⟩)
          clear hown hbel hcell
          go_wp2
          go_roundg g
          case measure => omega
          case rel => exact Hrel.out _ rfl
        | succ g2 =>
          have hjl : j < (G.out x).length := by omega
          obtain ⟨go, rfl⟩ := Hco.out (by omega)
          obtain ⟨hne, hgo, hcells⟩ := hcell (by omega) go rfl
          have hcj := hcells j hjl
          have hyl := Hok.out.short _ (Hok.out.ends _ _ (Hok.out.mem_out.1 (List.getElem_mem hjl))).2
          have hstep2 : pre ++ ((G.out x).take (j + 1)).map (fun y => (x, y)) = (pre ++ ((G.out x).take j).map fun y => (x, y)) ++ [(x, (G.out x)[j])] := by
            rw [List.take_succ_eq_append_getElem hjl, List.map_append, List.append_assoc]
            rfl
          have hlen : (pre ++ ((G.out x).take j).map fun y => (x, y)).length + 1 ≤ 4194304 := by
            have h1 := Hle.out
            rw [Hstep.out] at h1
            have h2 := Hed.out
            rw [edges_flat] at h2
            simp only [List.length_append, List.length_map, List.length_take, outEdges] at h1 ⊢
            omega
          generalize (pre ++ ((G.out x).take j).map fun y => (x, y)) = done at hown hstep2 hlen
          obtain ⟨g', cap', w5, hr5, hown5, hgr5, hloc5⟩ := run_appE2 wq w1.heap.size _ done hown x (G.out x)[j] hlen hbel.size
          have hown1 : OwnEdges (wq.alloc (.cells #[strV x, strV (G.out x)[j]] 51)) w1.heap.size _ done := World.ownsRow.alloc hown _
          have hb5 : Below w1.heap.size w1 w5 := below_app (hbel.alloc hbel.size _) hown1 (Nat.le_refl _) hgr5
          have Hrel := Hid.mk (show ∀ i : Int, i = (j : Int) + 1 → EdIn w1 G x pre (some ⟨go, 0, none⟩) g2 (.slice (some ⟨g', 0, none⟩) (done.length + 1) cap') (.int .i64 i) w5 from fun i hi => ⟨j + 1, by omega, by subst hi; exact congrArg _ (by omega), by rw [hstep2]; exact hown5, hb5, fun hpos g0 hg0 => by
            obtain rfl : go = g0 := by simpa using hg0
            refine ⟨fun e => ?_, ?_, fun i hi => ?_⟩
            · simp only [Value.ownBlock, Option.some.injEq] at e
              rcases hloc5 with h | h
              · rw [e] at h; exact hne h
              · omega
            · have := hgr5.size; rw [World.size_alloc] at this; omega
            · exact cell_block (cell_alloc' _ (hcells i hi)) (hgr5.block _ (by show go < _; rw [World.size_alloc]; omega) (fun e => hne e.symm))⟩)
          generalize (G.out x)[j] = y at hcj hr5 hyl
          clear hown1 hown5 hgr5 hloc5 hb5 hown hbel hcells hcell hne hstep2 hlen
          go_wp2_with (at_builtin; refine wpList_append_run rfl _ _ _ rfl rfl rfl rfl hr5 ?_)
          go_roundg g2
          case measure => omega
          case rel => exact Hrel.out _ rfl

theorem adds_e (l : List Str) (G : Gr) : (l.foldl Gr.add G).e = G.e := by
  induction l generalizing G with
  | nil => rfl
  | cons a r ih => exact ih (G.add a)

theorem adds_mem (l : List Str) (G : Gr) (y : Str) : y ∈ (l.foldl Gr.add G).ns ↔ y ∈ G.ns ∨ y ∈ l := by
  induction l generalizing G with
  | nil => simp
  | cons a r ih =>
    rw [List.foldl_cons, ih]
    show y ∈ ins a G.ns ∨ _ ↔ _
    rw [mem_ins, List.mem_cons]
    constructor
    · rintro ((h | h) | h) <;> simp [h]
    · rintro (h | h | h) <;> simp [h]

theorem adds_rising (l : List Str) (G : Gr) (h : Rising G.ns) : Rising (l.foldl Gr.add G).ns := by
  induction l generalizing G with
  | nil => exact h
  | cons a r ih => exact ih (G.add a) (rising_ins h)

theorem adds_empty {l : List Str} (h : Rising l) : l.foldl Gr.add Gr.empty = ⟨l, fun _ _ => false⟩ := by
  have h1 : (l.foldl Gr.add Gr.empty).ns = l := rising_ext (adds_rising l Gr.empty List.Pairwise.nil) h fun x => by rw [adds_mem]; simp [Gr.empty]
  have h2 : (l.foldl Gr.add Gr.empty).e = fun _ _ => false := adds_e l Gr.empty
  generalize l.foldl Gr.add Gr.empty = H at h1 h2
  cases H
  simp only at h1 h2
  rw [h1, h2]

def swapE (e : Str × Str) : Str × Str := (e.2, e.1)

theorem links_ns (l : EdgeL) (G : Gr) (hr : Rising G.ns) (h : ∀ x ∈ l, x.1 ∈ G.ns ∧ x.2 ∈ G.ns) : (Gr.links l G).ns = G.ns := by
  induction l generalizing G with
  | nil => rfl
  | cons a r ih =>
    have ha := h a (List.mem_cons_self ..)
    have hn : (G.link a.1 a.2).ns = G.ns := by
      show ins a.2 (ins a.1 G.ns) = G.ns
      rw [ins_of_mem hr ha.1, ins_of_mem hr ha.2]
    show (Gr.links r (G.link a.1 a.2)).ns = G.ns
    rw [ih (G.link a.1 a.2) (hn ▸ hr) (fun x hx => by rw [hn]; exact h x (List.mem_cons_of_mem _ hx)), hn]

theorem links_e (l : EdgeL) (G : Gr) (x y : Str) : (Gr.links l G).e x y = (G.e x y || decide ((x, y) ∈ l)) := by
  induction l generalizing G with
  | nil => simp [Gr.links]
  | cons a r ih =>
    show (Gr.links r (G.link a.1 a.2)).e x y = _
    rw [ih]
    show ((G.e x y || (decide (x = a.1) && decide (y = a.2))) || decide ((x, y) ∈ r)) = _
    have : decide ((x, y) ∈ a :: r) = ((decide (x = a.1) && decide (y = a.2)) || decide ((x, y) ∈ r)) := by
      rw [Bool.eq_iff_iff]
      simp only [decide_eq_true_eq, Bool.or_eq_true, Bool.and_eq_true, List.mem_cons, Prod.ext_iff]
    rw [this, Bool.or_assoc]

theorem mem_edges {G : Gr} (h : G.ok) {x y : Str} : (x, y) ∈ G.edges ↔ G.e x y = true := by
  simp only [Gr.edges, List.mem_flatMap, List.mem_map, Prod.mk.injEq]
  constructor
  · rintro ⟨a, _, b, hb, rfl, rfl⟩
    exact h.mem_out.1 hb
  · intro he
    exact ⟨x, (h.ends x y he).1, y, h.mem_out.2 he, rfl, rfl⟩

theorem gr_ext {G H : Gr} (h1 : G.ns = H.ns) (h2 : ∀ x y, G.e x y = H.e x y) : G = H := by
  cases G; cases H
  simp only at h1 h2
  rw [h1, show _ = _ from funext fun x => funext fun y => h2 x y]

theorem links_turn {G : Gr} (h : G.ok) : Gr.links (G.edges.map swapE) ⟨G.ns, fun _ _ => false⟩ = G.turn := by
  refine gr_ext ?_ fun x y => ?_
  · exact links_ns _ _ h.rise fun x hx => by
      obtain ⟨e, he, rfl⟩ := List.mem_map.1 hx
      have := h.ends _ _ ((mem_edges h).1 he)
      exact ⟨this.2, this.1⟩
  · rw [links_e]
    show (false || _) = G.e y x
    have : ((x, y) ∈ G.edges.map swapE) ↔ G.e y x = true := by
      rw [← mem_edges h, List.mem_map]
      constructor
      · rintro ⟨e, he, h2⟩
        simp only [swapE, Prod.mk.injEq] at h2
        obtain ⟨rfl, rfl⟩ := h2
        exact he
      · intro he
        exact ⟨_, he, rfl⟩
    by_cases he : G.e y x = true
    · rw [he, decide_eq_true (this.2 he)]; rfl
    · rw [Bool.not_eq_true] at he
      rw [he, decide_eq_false (fun hm => by have := this.1 hm; rw [he] at this; cases this)]; rfl

theorem take_links_swap (l : EdgeL) (G : Gr) (k : Nat) (h : k < l.length) : Gr.links ((l.take (k + 1)).map swapE) G = (Gr.links ((l.take k).map swapE) G).link l[k].2 l[k].1 := by
  unfold Gr.links
  rw [List.take_succ_eq_append_getElem h, List.map_append, List.foldl_append]
  rfl

def TuRel (w0 : World) (S : Nat → Prop) (p : Nat) (G : Gr) (l : EdgeL) (g : Nat) (i : Value) (wr : World) : Prop :=
  ∃ k : Nat, k + g = l.length ∧ i = .int .i64 k ∧ AddPost S w0 p (Gr.links ((l.take k).map swapE) G) wr

set_option maxHeartbeats 4000000 in
set_option maxRecDepth 100000 in
theorem turn_is {S : Nat → Prop} {w : World} {p : Nat} {G : Gr} (h : IsGraph S w p G) (hfew : G.ns.length + 2 ≤ 1048576) (hed : G.edges.length ≤ 1048576) : Calls Try.prog 21 #[ptr p] w (NewPost w G.turn) := by
  have hok := h.ok
  have Hgr := Hid.mk h
  have Hok := Hid.mk hok
  have Hed := Hid.mk hed
  have Hfew := Hid.mk hfew
  have hN := Hid.mk (new_none w none 0)
  clear h hok hfew
  go_enter Try.func21, Try.ntmps21
  go_wp2_with fail
  refine hN.out.mono ?_
  rintro e w1 ⟨S1, p1, rfl, hg1, hb1, hp1, hS1⟩
  have Hg1 := Hid.mk hg1
  have Hb1 := Hid.mk hb1
  have HS1 := Hid.mk (And.intro hp1 hS1)
  clear hN hg1 hb1 hp1 hS1
  go_wp2_with fail
  refine (names_is (Hgr.out.below Hb1.out)).mono ?_
  rintro e w2 ⟨vn, rfl, hvn, hb2⟩
  obtain ⟨an, capn, rfl, hat⟩ := hvn.at
  have Hat := Hid.mk hat
  have Hb2 := Hid.mk (Hb1.out.trans (hb2.mono Hb1.out.size))
  have Hg2 := Hid.mk (Hg1.out.below hb2)
  clear Hg1 Hb1 hat hb2 hvn
  go_wp2_with fail
  refine (add_any Hg2.out an capn _ G.ns rfl Hat.out Hok.out.short (by have := Hok.out.few; simp [Gr.empty]; omega)).mono ?_
  rintro e w3 ⟨rfl, S3, hg3, ho3, hS3⟩
  rw [adds_empty Hok.out.rise] at hg3
  have Hg3 := Hid.mk hg3
  have Hb3 := Hid.mk (below_only Hb2.out ho3 (HS1.out).2)
  have HS3 := Hid.mk (show ∀ k, S3 k → w.heap.size ≤ k from fun k hk => (hS3 k hk).elim ((HS1.out).2 k) (Nat.le_trans Hb2.out.size))
  clear Hat Hb2 Hg2 hg3 ho3 hS3
  go_wp2_with fail
  refine (edges_is (Hgr.out.below Hb3.out) hed).mono ?_
  rintro e w4 ⟨ve, rfl, hve, hb4⟩
  obtain ⟨ae, cape, rfl, hat⟩ := hve.at
  have Hat := Hid.mk hat
  have Hb4 := Hid.mk (Hb3.out.trans (hb4.mono Hb3.out.size))
  have Hg4 := Hid.mk (Hg3.out.below hb4)
  have Hmaps := Hid.mk Hg4.out.maps
  clear hat hb4 hve Hg3 Hb3
  go_wp2
  go_loopg [16] G.edges.length (fun g iv wr => TuRel w4 S3 p1 ⟨G.ns, fun _ _ => false⟩ G.edges g iv wr)
  case atStart => exact ⟨0, by omega, rfl, AddPost.refl Hg4.out⟩
  case round =>
    obtain ⟨k, hkg, rfl, S', hgr, ho, hS'⟩ := hrel
    cases gk with
    | zero =>
      obtain rfl : k = G.edges.length := by omega
      rw [List.take_length, links_turn Hok.out] at hgr
      have Hfin := Hid.mk (show NewPost w G.turn (.returned (ptr p1)) wr from ⟨S', p1, rfl, hgr, below_only Hb4.out ho HS3.out, (HS1.out).1, fun k hk => (hS' k hk).elim (HS3.out k) (Nat.le_trans Hb4.out.size)⟩)
      clear hgr ho hS'
      go_wp2
      go_ret
      exact Hfin.out
    | succ g =>
      have hlt : k < G.edges.length := by omega
      obtain ⟨ge, off, rfl, hcells⟩ : ∃ ge off, ae = some ⟨ge, off, none⟩ ∧ ∀ i (h : i < G.edges.length), w4.cell? ⟨ge, off + i * 2, none⟩ = some (strV G.edges[i].1) ∧ w4.cell? ⟨ge, off + i * 2 + 1, none⟩ = some (strV G.edges[i].2) := by
        rcases Hat.out with e | h
        · rw [e] at hlt; simp at hlt
        · exact h
      have c1 : wr.cell? ⟨ge, off + k * 2, none⟩ = some (strV G.edges[k].1) := cell_only ho Hmaps.out (hcells k hlt).1
      have c2 : wr.cell? ⟨ge, off + k * 2 + 1, none⟩ = some (strV G.edges[k].2) := cell_only ho Hmaps.out (hcells k hlt).2
      have hends : G.edges[k].1 ∈ G.ns ∧ G.edges[k].2 ∈ G.ns := Hok.out.ends _ _ ((mem_edges Hok.out).1 (List.getElem_mem hlt))
      have hx1 := Hok.out.short _ hends.1
      have hx2 := Hok.out.short _ hends.2
      have hstep := take_links_swap G.edges ⟨G.ns, fun _ _ => false⟩ k hlt
      have hns : (Gr.links ((G.edges.take k).map swapE) ⟨G.ns, fun _ _ => false⟩).ns = G.ns := links_ns _ _ Hok.out.rise fun x hx => by
        obtain ⟨e, he, rfl⟩ := List.mem_map.1 hx
        have := Hok.out.ends _ _ ((mem_edges Hok.out).1 (List.mem_of_mem_take he))
        exact ⟨this.2, this.1⟩
      generalize G.edges[k].1 = a at c1 hx1 hstep
      generalize G.edges[k].2 = b at c2 hx2 hstep
      generalize Gr.links ((G.edges.take k).map swapE) ⟨G.ns, fun _ _ => false⟩ = H at hgr hns hstep
      have hgr2 := hgr.below (w' := wr.alloc (.cells #[strV a, strV b] 51)) ((Below.refl _ _).alloc (Nat.le_refl _) _)
      have Hlink := Hid.mk (link_is hgr2 b a hx2 hx1 (by rw [hns]; exact Hfew.out))
      have Hnext := Hid.mk (show ∀ (i : Int) (w' : World), i = (k : Int) + 1 → AddPost S' (wr.alloc (.cells #[strV a, strV b] 51)) p1 (H.link b a) w' → TuRel w4 S3 p1 ⟨G.ns, fun _ _ => false⟩ G.edges g (.int .i64 i) w' from fun i w' hi hp =>
        ⟨k + 1, by omega, by rw [hi]; rfl, by rw [hstep]; exact AddPost.step ho hS' (AddPost.trans (Only.alloc _ _ _) hp)⟩)
      clear hgr2 hstep hcells hgr ho hS' hx1 hx2 hns hends
      go_wp2_with fail
      refine Hlink.out.mono ?_
      rintro e w5 ⟨rfl, hp1⟩
      have Hp1 := Hid.mk hp1
      clear hp1
      go_wp2
      go_roundg g
      case measure => omega
      case rel => exact Hnext.out _ _ rfl Hp1.out

end Go.Proofs.Ytiinmmgknlnkaaa
