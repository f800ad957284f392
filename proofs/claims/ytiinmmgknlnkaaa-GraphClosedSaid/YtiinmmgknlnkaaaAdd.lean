/-
  graph.Add: names that are not there yet get two empty sets each.
-/
import Derived.Test.YtiinmmgknlnkaaaGraph
import Derived.RegionTactic
import Derived.BigRegion
import Derived.LoopTactic
namespace Go.Proofs.Ytiinmmgknlnkaaa
open Go.RowKit Go.Maps
open Go.ChangeMaps (setBlock)

/-- A list of texts lies in a slice's cells. -/
def StrsAt (w : World) (a : Option Addr) (l : List Str) : Prop :=
  l = [] ∨ ∃ g off, a = some ⟨g, off, none⟩ ∧ ∀ i (h : i < l.length), w.cell? ⟨g, off + i, none⟩ = some (strV l[i])

theorem cell_only {S : Nat → Prop} {w w' : World} (ho : Only S w w') (hS : ∀ k, S k → ∃ es c, w.heap[k]? = some (.map es c)) {a : Addr} {v : Value} (hc : w.cell? a = some v) : w'.cell? a = some v := by
  have h1 : a.block < w.heap.size := by
    rcases Nat.lt_or_ge a.block w.heap.size with h | h
    · exact h
    · simp [World.cell?, Array.getElem?_eq_none h] at hc
  have h2 : ¬ S a.block := fun h => by
    obtain ⟨es, c, h3⟩ := hS _ h
    simp [World.cell?, h3] at hc
  rw [← hc]
  simp [World.cell?, ho.block _ h1 h2]

theorem IsGraph.maps {S : Nat → Prop} {w : World} {p : Nat} {G : Gr} (h : IsGraph S w p G) : ∀ k, S k → ∃ es c, w.heap[k]? = some (.map es c) := by
  obtain ⟨bo, bi, so, si, hg, hS⟩ := h
  intro k hk
  rcases (hS k).1 hk with rfl | rfl | ⟨x, hx, rfl | rfl⟩
  · exact hg.mo.is_map
  · exact hg.mi.is_map
  · exact (hg.eo x hx).is_map
  · exact (hg.ei x hx).is_map

theorem StrsAt.only {S : Nat → Prop} {w w' : World} {a : Option Addr} {l : List Str} (h : StrsAt w a l) (ho : Only S w w') (hS : ∀ k, S k → ∃ es c, w.heap[k]? = some (.map es c)) : StrsAt w' a l := by
  rcases h with h | ⟨g, off, rfl, h⟩
  · exact .inl h
  · exact .inr ⟨g, off, rfl, fun i hi => cell_only ho hS (h i hi)⟩

theorem cell_lt {w : World} {a : Addr} {v : Value} (h : w.cell? a = some v) : a.block < w.heap.size := by
  rcases Nat.lt_or_ge a.block w.heap.size with h' | h'
  · exact h'
  · simp [World.cell?, Array.getElem?_eq_none h'] at h
theorem cell_alloc' {w : World} {a : Addr} {v : Value} (o : Obj) (h : w.cell? a = some v) : (w.alloc o).cell? a = some v := by
  rw [← h]
  simp [World.cell?, Below.heap_alloc w o a.block (cell_lt h)]

abbrev M0 : Obj := .map #[] 0

/-- What the two maps and the two new blocks hold, when the region is done. -/
structure Added (w w' : World) (bo bi : Nat) (x1 x2 : Obj) : Prop where
  os : w'.os = w.os
  tape : w'.tape = w.tape
  output : w'.output = w.output
  size : w'.heap.size = w.heap.size + 2
  ho : w'.heap[bo]? = some x1
  hi : w'.heap[bi]? = some x2
  n0 : w'.heap[w.heap.size]? = some M0
  n1 : w'.heap[w.heap.size + 1]? = some M0
  rest : ∀ k, k < w.heap.size → k ≠ bo → k ≠ bi → w'.heap[k]? = w.heap[k]?

theorem heap_alloc_other (w : World) (o : Obj) {k : Nat} (h : k ≠ w.heap.size) : (w.alloc o).heap[k]? = w.heap[k]? := by
  show (w.heap.push o)[k]? = _
  rw [Array.getElem?_push]; simp [h]
theorem heap_alloc_new (w : World) (o : Obj) : (w.alloc o).heap[w.heap.size]? = some o := by
  show (w.heap.push o)[w.heap.size]? = _
  simp
theorem size_setBlock (w : World) (b : Nat) (o : Obj) : (setBlock w b o).heap.size = w.heap.size := by simp [setBlock]
theorem heap_setBlock_other (w : World) {b : Nat} (o : Obj) {k : Nat} (h : k ≠ b) : (setBlock w b o).heap[k]? = w.heap[k]? := by
  simp only [setBlock, Array.getElem?_setIfInBounds]
  rw [if_neg (fun e => h e.symm)]
theorem heap_setBlock_same (w : World) {b : Nat} (o : Obj) (h : b < w.heap.size) : (setBlock w b o).heap[b]? = some o := by
  simp [setBlock, h]
theorem heap_drew (w : World) : w.drew.heap = w.heap := rfl

/-- On the way there: n new blocks so far. -/
structure Stage (w W : World) (bo bi n : Nat) (x1 x2 : Obj) : Prop where
  lo : bo < w.heap.size
  li : bi < w.heap.size
  ne : bi ≠ bo
  os : W.os = w.os
  tape : W.tape = w.tape
  output : W.output = w.output
  size : W.heap.size = w.heap.size + n
  ho : W.heap[bo]? = some x1
  hi : W.heap[bi]? = some x2
  new : ∀ j, j < n → W.heap[w.heap.size + j]? = some M0
  rest : ∀ k, k < w.heap.size → k ≠ bo → k ≠ bi → W.heap[k]? = w.heap[k]?

section
variable {w W : World} {bo bi n : Nat} {x1 x2 : Obj}
theorem Stage.start (lo : bo < w.heap.size) (li : bi < w.heap.size) (ne : bi ≠ bo) (h1 : w.heap[bo]? = some x1) (h2 : w.heap[bi]? = some x2) : Stage w w bo bi 0 x1 x2 :=
  ⟨lo, li, ne, rfl, rfl, rfl, rfl, h1, h2, fun j hj => by omega, fun _ _ _ _ => rfl⟩
theorem Stage.drew (h : Stage w W bo bi n x1 x2) : Stage w W.drew bo bi n x1 x2 := ⟨h.lo, h.li, h.ne, h.os, h.tape, h.output, h.size, h.ho, h.hi, h.new, h.rest⟩
theorem Stage.alloc (h : Stage w W bo bi n x1 x2) : Stage w (W.alloc M0) bo bi (n + 1) x1 x2 := by
  have hlo := h.lo
  have hli := h.li
  have hsz := h.size
  refine ⟨h.lo, h.li, h.ne, h.os, h.tape, h.output, by rw [World.size_alloc, h.size]; omega, (heap_alloc_other W M0 (by omega)).trans h.ho, (heap_alloc_other W M0 (by omega)).trans h.hi, fun j hj => ?_, fun k hk k1 k2 => (heap_alloc_other W M0 (by omega)).trans (h.rest k hk k1 k2)⟩
  by_cases e : j = n
  · subst e; rw [← h.size]; exact heap_alloc_new W M0
  · exact (heap_alloc_other W M0 (by omega)).trans (h.new j (by omega))
theorem Stage.setO (h : Stage w W bo bi n x1 x2) (o : Obj) : Stage w (setBlock W bo o) bo bi n o x2 := by
  have hlo := h.lo
  have hsz := h.size
  exact ⟨h.lo, h.li, h.ne, h.os, h.tape, h.output, by rw [size_setBlock, h.size], heap_setBlock_same W o (by omega), (heap_setBlock_other W o h.ne).trans h.hi, fun j hj => (heap_setBlock_other W o (by omega)).trans (h.new j hj), fun k hk k1 k2 => (heap_setBlock_other W o k1).trans (h.rest k hk k1 k2)⟩
theorem Stage.setI (h : Stage w W bo bi n x1 x2) (o : Obj) : Stage w (setBlock W bi o) bo bi n x1 o := by
  have hli := h.li
  have hsz := h.size
  exact ⟨h.lo, h.li, h.ne, h.os, h.tape, h.output, by rw [size_setBlock, h.size], (heap_setBlock_other W o (fun e => h.ne e.symm)).trans h.ho, heap_setBlock_same W o (by omega), fun j hj => (heap_setBlock_other W o (by omega)).trans (h.new j hj), fun k hk k1 k2 => (heap_setBlock_other W o k2).trans (h.rest k hk k1 k2)⟩
theorem Stage.done (h : Stage w W bo bi 2 x1 x2) : Added w W bo bi x1 x2 := ⟨h.os, h.tape, h.output, h.size, h.ho, h.hi, h.new 0 (by omega), h.new 1 (by omega), h.rest⟩
end

def updN (s : Str → Nat) (x : Str) (b : Nat) : Str → Nat := fun y => if y = x then b else s y

theorem IsG.add {w w' : World} {p bo bi : Nat} {so si : Str → Nat} {G : Gr} (h : IsG w p bo bi so si G) {x : Str} (hx : x ∉ G.ns) (hl : x.length ≤ maxLen) (hf : G.ns.length + 1 ≤ 1048576) {x1 x2 : Obj} {b1 b2 : Nat}
    (hA : Added w w' bo bi x1 x2) (hb : b1 = w.heap.size ∧ b2 = w.heap.size + 1 ∨ b1 = w.heap.size + 1 ∧ b2 = w.heap.size)
    (h1 : MapG Try.prog 9 eM w' bo (G.ns.length + 1) (upd (nodeMap G so) x (some b1))) (h2 : MapG Try.prog 9 eM w' bi (G.ns.length + 1) (upd (nodeMap G si) x (some b2))) :
    IsG w' p bo bi (updN so x b1) (updN si x b2) (G.add x) := by
  have lts := h.lt
  have hlen : (ins x G.ns).length = G.ns.length + 1 := length_ins hx
  have hp1 : p ≠ bo := fun e => h.p_not (.inl e)
  have hp2 : p ≠ bi := fun e => h.p_not (.inr (.inl e))
  have hlo : ∀ y ∈ G.ns, so y < w.heap.size := fun y hy => (h.eo y hy).lt
  have hli : ∀ y ∈ G.ns, si y < w.heap.size := fun y hy => (h.ei y hy).lt
  have hbo := h.mo.lt
  have hbi := h.mi.lt
  have hM : ∀ b, (b = w.heap.size ∨ b = w.heap.size + 1) → w'.heap[b]? = some M0 := fun b hb => by rcases hb with rfl | rfl; exact hA.n0; exact hA.n1
  have hm0 : ∀ b, w'.heap[b]? = some M0 → MapG Try.prog 9 eB w' b (G.ns.length + 1) (fun _ => none) := fun b hb => by
    refine ((MapG.made w' Try.prog 9 eB).mono (Nat.zero_le _)).same' ?_
    rw [hb, heap_alloc_new]
  have hno : ∀ y ∈ G.ns, y ≠ x := fun y hy e => hx (e ▸ hy)
  have hb1 : b1 = w.heap.size ∨ b1 = w.heap.size + 1 := by omega
  have hb2 : b2 = w.heap.size ∨ b2 = w.heap.size + 1 := by omega
  have gso : ∀ y, y ≠ x → updN so x b1 y = so y := fun y hy => by simp [updN, hy]
  have gsi : ∀ y, y ≠ x → updN si x b2 y = si y := fun y hy => by simp [updN, hy]
  have gsx : updN so x b1 x = b1 := by simp [updN]
  have gix : updN si x b2 x = b2 := by simp [updN]
  have hmem : ∀ y, y ∈ (G.add x).ns ↔ y = x ∨ y ∈ G.ns := fun y => mem_ins
  have hnl : (G.add x).ns.length = G.ns.length + 1 := hlen
  exact {
    hp := (hA.rest p lts.1 hp1 hp2).trans h.hp
    ok := h.ok.add hl hf
    mo := by
      rw [hnl]
      refine h1.congr fun y => ?_
      by_cases e : y = x
      · subst e; rw [upd_same]; unfold nodeMap; rw [if_pos ((hmem y).2 (.inl rfl)), gsx]
      · rw [upd_other _ _ e]; unfold nodeMap
        by_cases hy : y ∈ G.ns
        · rw [if_pos hy, if_pos ((hmem y).2 (.inr hy)), gso y e]
        · rw [if_neg hy, if_neg (fun h' => ((hmem y).1 h').elim e hy)]
    mi := by
      rw [hnl]
      refine h2.congr fun y => ?_
      by_cases e : y = x
      · subst e; rw [upd_same]; unfold nodeMap; rw [if_pos ((hmem y).2 (.inl rfl)), gix]
      · rw [upd_other _ _ e]; unfold nodeMap
        by_cases hy : y ∈ G.ns
        · rw [if_pos hy, if_pos ((hmem y).2 (.inr hy)), gsi y e]
        · rw [if_neg hy, if_neg (fun h' => ((hmem y).1 h').elim e hy)]
    eo := fun y hy => by
      rw [hnl]
      rcases (hmem y).1 hy with rfl | hy
      · rw [gsx]
        refine (hm0 b1 (hM b1 hb1)).congr fun z => ?_
        have : (G.add y).e y z = false := by
          cases he : (G.add y).e y z
          · rfl
          · exact absurd (h.ok.ends y z he).1 hx
        simp [outMap, this]
      · rw [gso y (hno y hy)]
        exact ((h.eo y hy).mono (Nat.le_succ _)).same (hA.rest _ (hlo y hy) (h.oso y hy).1 (h.oso y hy).2)
    ei := fun y hy => by
      rw [hnl]
      rcases (hmem y).1 hy with rfl | hy
      · rw [gix]
        refine (hm0 b2 (hM b2 hb2)).congr fun z => ?_
        have : (G.add y).e z y = false := by
          cases he : (G.add y).e z y
          · rfl
          · exact absurd (h.ok.ends z y he).2 hx
        simp [inMap, this]
      · rw [gsi y (hno y hy)]
        exact ((h.ei y hy).mono (Nat.le_succ _)).same (hA.rest _ (hli y hy) (h.osi y hy).1 (h.osi y hy).2)
    oi := h.oi
    oso := fun y hy => by
      rcases (hmem y).1 hy with rfl | hy
      · rw [gsx]; omega
      · rw [gso y (hno y hy)]; exact h.oso y hy
    osi := fun y hy => by
      rcases (hmem y).1 hy with rfl | hy
      · rw [gix]; omega
      · rw [gsi y (hno y hy)]; exact h.osi y hy
    soso := fun y hy z hz e => by
      rcases (hmem y).1 hy with ey | hy' <;> rcases (hmem z).1 hz with ez | hz'
      · rw [ey, ez]
      · rw [ey, gsx, gso z (hno z hz')] at e; have := hlo z hz'; omega
      · rw [ez, gsx, gso y (hno y hy')] at e; have := hlo y hy'; omega
      · rw [gso y (hno y hy'), gso z (hno z hz')] at e; exact h.soso y hy' z hz' e
    sisi := fun y hy z hz e => by
      rcases (hmem y).1 hy with ey | hy' <;> rcases (hmem z).1 hz with ez | hz'
      · rw [ey, ez]
      · rw [ey, gix, gsi z (hno z hz')] at e; have := hli z hz'; omega
      · rw [ez, gix, gsi y (hno y hy')] at e; have := hli y hy'; omega
      · rw [gsi y (hno y hy'), gsi z (hno z hz')] at e; exact h.sisi y hy' z hz' e
    sosi := fun y hy z hz e => by
      rcases (hmem y).1 hy with ey | hy' <;> rcases (hmem z).1 hz with ez | hz'
      · rw [ey, ez, gsx, gix] at e; omega
      · rw [ey, gsx, gsi z (hno z hz')] at e; have := hli z hz'; omega
      · rw [ez, gix, gso y (hno y hy')] at e; have := hlo y hy'; omega
      · rw [gso y (hno y hy'), gsi z (hno z hz')] at e; exact h.sosi y hy' z hz' e }

def AddPost (S : Nat → Prop) (w : World) (p : Nat) (G : Gr) (w' : World) : Prop :=
  ∃ S', IsGraph S' w' p G ∧ Only S w w' ∧ ∀ k, S' k → S k ∨ w.heap.size ≤ k

def AddRel (S : Nat → Prop) (w : World) (p : Nat) (G : Gr) (l : List Str) (i : Value) (wr : World) : Prop :=
  ∃ k : Nat, k ≤ l.length ∧ i = .int .i64 k ∧ AddPost S w p ((l.take k).foldl Gr.add G) wr

theorem AddPost.refl {S : Nat → Prop} {w : World} {p : Nat} {G : Gr} (h : IsGraph S w p G) : AddPost S w p G w := ⟨S, h, Only.refl _ _, fun _ h => .inl h⟩

theorem AddPost.step {S S' : Nat → Prop} {w wr w' : World} {p : Nat} {G' : Gr} (ho : Only S w wr) (hS : ∀ k, S' k → S k ∨ w.heap.size ≤ k) (h : AddPost S' wr p G' w') : AddPost S w p G' w' := by
  obtain ⟨S2, hg, ho2, hS2⟩ := h
  refine ⟨S2, hg, ho.trans ho2 (fun x hx hS' => (hS x hS').elim id (fun h => absurd h (by omega))), fun k hk => ?_⟩
  rcases hS2 k hk with h | h
  · exact hS k h
  · exact .inr (Nat.le_trans ho.size h)

theorem AddPost.of_added {w w' : World} {p bo bi : Nat} {so si : Str → Nat} {G : Gr} {S : Nat → Prop} (h : IsG w p bo bi so si G) (hS : ∀ k, S k ↔ foot bo bi so si G k) {x : Str} (hx : x ∉ G.ns) (hl : x.length ≤ maxLen) (hf : G.ns.length + 1 ≤ 1048576) {x1 x2 : Obj} {b1 b2 : Nat}
    (hA : Added w w' bo bi x1 x2) (hb : b1 = w.heap.size ∧ b2 = w.heap.size + 1 ∨ b1 = w.heap.size + 1 ∧ b2 = w.heap.size)
    (h1 : ∀ wx, Holds wx bo x1 → MapG Try.prog 9 eM wx bo (G.ns.length + 1) (upd (nodeMap G so) x (some b1))) (h2 : ∀ wx, Holds wx bi x2 → MapG Try.prog 9 eM wx bi (G.ns.length + 1) (upd (nodeMap G si) x (some b2))) :
    AddPost S w p (G.add x) w' := by
  refine ⟨foot bo bi (updN so x b1) (updN si x b2) (G.add x), ⟨_, _, _, _, h.add hx hl hf hA hb (h1 w' hA.ho) (h2 w' hA.hi), fun k => Iff.rfl⟩, ⟨hA.os, hA.tape, hA.output, by rw [hA.size]; omega, fun k hk hn => ?_⟩, fun k hk => ?_⟩
  · exact hA.rest k hk (fun e => hn ((hS k).2 (.inl e))) (fun e => hn ((hS k).2 (.inr (.inl e))))
  · rcases hk with rfl | rfl | ⟨y, hy, e⟩
    · exact .inl ((hS _).2 (.inl rfl))
    · exact .inl ((hS _).2 (.inr (.inl rfl)))
    · rcases mem_ins.1 hy with rfl | hy
      · refine .inr ?_
        rcases e with rfl | rfl <;> simp [updN] <;> omega
      · have hne : y ≠ x := fun e => hx (e ▸ hy)
        refine .inl ((hS k).2 (.inr (.inr ⟨y, hy, ?_⟩)))
        simpa [updN, hne] using e

theorem few_add : ∀ (l : List Str) (G : Gr), (l.foldl Gr.add G).ns.length ≤ G.ns.length + l.length
  | [], G => by simp
  | x :: r, G => by
    have := few_add r (G.add x)
    have h2 : (G.add x).ns.length ≤ G.ns.length + 1 := length_ins_le
    simp only [List.foldl_cons, List.length_cons]
    omega

theorem take_fold (l : List Str) (G : Gr) (k : Nat) (h : k < l.length) : (l.take (k + 1)).foldl Gr.add G = ((l.take k).foldl Gr.add G).add l[k] := by
  rw [List.take_succ_eq_append_getElem h, List.foldl_append]
  rfl

set_option maxHeartbeats 4000000 in
theorem add_some {S : Nat → Prop} {w : World} {p : Nat} {G : Gr} (h : IsGraph S w p G) (g off cap : Nat) (l : List Str) (hl : ∀ i (h : i < l.length), w.cell? ⟨g, off + i, none⟩ = some (strV l[i])) (hs : ∀ x ∈ l, x.length ≤ maxLen) (few : G.ns.length + l.length ≤ 1048576) :
    Calls Try.prog 18 #[ptr p, .slice (some ⟨g, off, none⟩) l.length cap] w fun e w' => e = .returned (.int .i64 0) ∧ AddPost S w p (l.foldl Gr.add G) w' := by
  have hmm : ∀ wx, (Instr.makeMap 58 none).run Try.prog wx = .ok (.map (some wx.heap.size)) (wx.alloc M0) := fun wx => run_makeMap (P := Try.prog) 58 wx
  have hsb := size_setBlock
  have hmaps := h.maps
  have hlen : l.length ≤ 1048576 := by omega
  go_enter Try.func18, Try.ntmps18
  go_wp2
  go_loopw [11] (fun i wr => AddRel S w p G l i wr) (fun i _ => l.length - (intOf i).toNat)
  case atStart => exact ⟨0, Nat.zero_le _, rfl, AddPost.refl h⟩
  case round =>
    obtain ⟨k, hk, rfl, S', hgr, ho, hS'⟩ := hrel
    by_cases hlt : k < l.length
    · have hc : wr.cell? ⟨g, off + k, none⟩ = some (strV l[k]) := cell_only ho hmaps (hl k hlt)
      have hxl : l[k].length ≤ maxLen := hs _ (List.getElem_mem hlt)
      have hfew := few_add (l.take k) G
      have hfew2 : ((l.take k).foldl Gr.add G).ns.length + 1 ≤ 1048576 := by
        have : (l.take k).length ≤ k := List.length_take_le _ _
        omega
      have hstep := Hid.mk (take_fold l G k hlt)
      generalize l[k] = x at hc hxl hstep
      generalize (l.take k).foldl Gr.add G = G1 at hgr hfew hfew2 hstep
      obtain ⟨bo, bi, so, si, hg, hS⟩ := hgr
      have c0 := hg.cell0
      have c1 := hg.cell1
      have hnext : ∀ (i : Int) (w' : World), i = (k : Int) + 1 → AddPost S' wr p (G1.add x) w' → AddRel S w p G l (.int .i64 i) w' := fun i w' hi hp =>
        ⟨k + 1, hlt, by rw [hi]; rfl, by rw [hstep.out]; exact AddPost.step ho hS' hp⟩
      have Hnext := Hid.mk hnext
      clear hnext hstep hl hs few hfew hmaps
      by_cases hm : x ∈ G1.ns
      · have hlk : (Instr.lookup 47 (.map (some bo)) (strV x) false).run Try.prog wr = .ok (.map (some (so x))) wr := hg.mo.look_some Try.underlying9 Try.underlying47 (zeroSet wr) hxl (a := so x) (by simp [nodeMap, hm])
        have hnq := run_eql_map_nil (P := Try.prog) wr 58 9 4 (some (so x)) Try.underlying58
        have hend := Hid.mk (show AddPost S' wr p (G1.add x) wr by rw [Gr.add_of_mem hg.ok hm]; exact AddPost.refl ⟨_, _, _, _, hg, hS⟩)
        clear h ho hS' hm hg hS
        go_wp2
        go_roundw
        case rel => exact Hnext.out _ _ rfl hend.out
        case measure => simp [intOf]; omega
      · have hlk : (Instr.lookup 47 (.map (some bo)) (strV x) false).run Try.prog wr = .ok (.map none) wr := hg.mo.look_none Try.underlying9 Try.underlying47 (zeroSet wr) hxl (by simp [nodeMap, hm])
        have hnq := run_eql_map_nil (P := Try.prog) wr 58 9 4 none Try.underlying58
        have lbo := hg.mo.lt
        have lbi := hg.mi.lt
        have hne : bi ≠ bo := fun e => hg.oi e.symm
        have lp := hg.lt.1
        obtain ⟨o0, o1, v0, e0, o2, hbo, hv0, h12, h14, hm1⟩ := hg.mo.entry (z := .map none) Try.underlying9 Try.underlying47 (by unfold maxLen; omega) zeroSet hxl
        obtain ⟨q0, q1, u0, e1, q2, hbi, hu0, h15, h17, hm2⟩ := hg.mi.entry (z := .map none) Try.underlying9 Try.underlying47 (by unfold maxLen; omega) zeroSet hxl
        obtain rfl : v0 = .map none := by rw [hv0]; simp [nodeMap, hm]
        obtain rfl : u0 = .map none := by rw [hu0]; simp [nodeMap, hm]
        have hend : ∀ (i : Int) (w' : World) (b1 b2 : Nat), i = (k : Int) + 1 → (b1 = wr.heap.size ∧ b2 = wr.heap.size + 1 ∨ b1 = wr.heap.size + 1 ∧ b2 = wr.heap.size) → Added wr w' bo bi (o2 b1) (q2 b2) → AddRel S w p G l (.int .i64 i) w' := fun i w' b1 b2 hi hb hA =>
          Hnext.out i w' hi (AddPost.of_added hg hS hm hxl hfew2 hA hb (fun wx hwx => hm1 wx b1 hwx) (fun wx hwx => hm2 wx b2 hwx))
        have Hend := Hid.mk hend
        have G0 : ∀ (wx : World) o, wx.cell? ⟨p, 0, none⟩ = some (.map (some bo)) → (wx.alloc o).cell? ⟨p, 0, none⟩ = some (.map (some bo)) := fun wx o hc => cell_alloc' _ hc
        have G1' : ∀ (wx : World) o, wx.cell? ⟨p, 1, none⟩ = some (.map (some bi)) → (wx.alloc o).cell? ⟨p, 1, none⟩ = some (.map (some bi)) := fun wx o hc => cell_alloc' _ hc
        have h14' : ∀ (wx : World) (b : Nat), Holds wx bo o1 → (Instr.entryStore 47 (.map (some bo)) (.int .i64 e0) (.map (some b))).run Try.prog wx = .ok () (setBlock wx bo (o2 b)) := fun wx b hw => h14 wx b hw
        have h17' : ∀ (wx : World) (b : Nat), Holds wx bi q1 → (Instr.entryStore 47 (.map (some bi)) (.int .i64 e1) (.map (some b))).run Try.prog wx = .ok () (setBlock wx bi (q2 b)) := fun wx b hw => h17 wx b hw
        have HB := Hid.mk (Stage.start lbo lbi hne hbo hbi)
        have f1 : Holds wr.drew bo o0 := (hbo.drew)
        have f2 : Holds ((setBlock wr.drew bo o1).alloc M0) bo o1 := (((hbo.drew).put o1).alloc)
        have f3 : Holds (setBlock ((setBlock wr.drew bo o1).alloc M0) bo (o2 (wr.heap.size))) bi q0 := ((((hbi.drew).set_other hne o1).alloc).set_other hne _)
        have f4 : Holds ((setBlock (setBlock ((setBlock wr.drew bo o1).alloc M0) bo (o2 (wr.heap.size))) bi q1).alloc M0) bi q1 := ((((((hbi.drew).set_other hne o1).alloc).set_other hne _).put q1).alloc)
        have f5 : Holds (setBlock ((setBlock wr.drew bo o1).alloc M0) bo (o2 (wr.heap.size + 1))) bi q0 := ((((hbi.drew).set_other hne o1).alloc).set_other hne _)
        have f6 : Holds ((setBlock (setBlock ((setBlock wr.drew bo o1).alloc M0) bo (o2 (wr.heap.size + 1))) bi q1).alloc M0) bi q1 := ((((((hbi.drew).set_other hne o1).alloc).set_other hne _).put q1).alloc)
        have f7 : Holds ((setBlock ((setBlock wr.drew bo o1).alloc M0) bo (o2 (wr.heap.size))).alloc M0) bi q0 := (((((hbi.drew).set_other hne o1).alloc).set_other hne _).alloc)
        have f8 : Holds (setBlock ((setBlock ((setBlock wr.drew bo o1).alloc M0) bo (o2 (wr.heap.size))).alloc M0) bi q1) bi q1 := ((((((hbi.drew).set_other hne o1).alloc).set_other hne _).alloc).put q1)
        have f9 : Holds ((setBlock ((setBlock wr.drew bo o1).alloc M0) bo (o2 (wr.heap.size + 1))).alloc M0) bi q0 := (((((hbi.drew).set_other hne o1).alloc).set_other hne _).alloc)
        have f10 : Holds (setBlock ((setBlock ((setBlock wr.drew bo o1).alloc M0) bo (o2 (wr.heap.size + 1))).alloc M0) bi q1) bi q1 := ((((((hbi.drew).set_other hne o1).alloc).set_other hne _).alloc).put q1)
        have f11 : Holds (((setBlock wr.drew bo o1).alloc M0).alloc M0) bo o1 := ((((hbo.drew).put o1).alloc).alloc)
        have f12 : Holds (setBlock (((setBlock wr.drew bo o1).alloc M0).alloc M0) bo (o2 (wr.heap.size))) bi q0 := (((((hbi.drew).set_other hne o1).alloc).alloc).set_other hne _)
        have f13 : Holds (setBlock (setBlock (((setBlock wr.drew bo o1).alloc M0).alloc M0) bo (o2 (wr.heap.size))) bi q1) bi q1 := ((((((hbi.drew).set_other hne o1).alloc).alloc).set_other hne _).put q1)
        have f14 : Holds (setBlock (((setBlock wr.drew bo o1).alloc M0).alloc M0) bo (o2 (wr.heap.size + 1))) bi q0 := (((((hbi.drew).set_other hne o1).alloc).alloc).set_other hne _)
        have f15 : Holds (setBlock (setBlock (((setBlock wr.drew bo o1).alloc M0).alloc M0) bo (o2 (wr.heap.size + 1))) bi q1) bi q1 := ((((((hbi.drew).set_other hne o1).alloc).alloc).set_other hne _).put q1)
        have f16 : Holds (wr.alloc M0).drew bo o0 := ((hbo.alloc).drew)
        have f17 : Holds (setBlock (wr.alloc M0).drew bo o1) bo o1 := (((hbo.alloc).drew).put o1)
        have f18 : Holds (setBlock (setBlock (wr.alloc M0).drew bo o1) bo (o2 (wr.heap.size))) bi q0 := ((((hbi.alloc).drew).set_other hne o1).set_other hne _)
        have f19 : Holds ((setBlock (setBlock (setBlock (wr.alloc M0).drew bo o1) bo (o2 (wr.heap.size))) bi q1).alloc M0) bi q1 := ((((((hbi.alloc).drew).set_other hne o1).set_other hne _).put q1).alloc)
        have f20 : Holds (setBlock (setBlock (wr.alloc M0).drew bo o1) bo (o2 (wr.heap.size + 1))) bi q0 := ((((hbi.alloc).drew).set_other hne o1).set_other hne _)
        have f21 : Holds ((setBlock (setBlock (setBlock (wr.alloc M0).drew bo o1) bo (o2 (wr.heap.size + 1))) bi q1).alloc M0) bi q1 := ((((((hbi.alloc).drew).set_other hne o1).set_other hne _).put q1).alloc)
        have f22 : Holds ((setBlock (setBlock (wr.alloc M0).drew bo o1) bo (o2 (wr.heap.size))).alloc M0) bi q0 := (((((hbi.alloc).drew).set_other hne o1).set_other hne _).alloc)
        have f23 : Holds (setBlock ((setBlock (setBlock (wr.alloc M0).drew bo o1) bo (o2 (wr.heap.size))).alloc M0) bi q1) bi q1 := ((((((hbi.alloc).drew).set_other hne o1).set_other hne _).alloc).put q1)
        have f24 : Holds ((setBlock (setBlock (wr.alloc M0).drew bo o1) bo (o2 (wr.heap.size + 1))).alloc M0) bi q0 := (((((hbi.alloc).drew).set_other hne o1).set_other hne _).alloc)
        have f25 : Holds (setBlock ((setBlock (setBlock (wr.alloc M0).drew bo o1) bo (o2 (wr.heap.size + 1))).alloc M0) bi q1) bi q1 := ((((((hbi.alloc).drew).set_other hne o1).set_other hne _).alloc).put q1)
        have f26 : Holds ((setBlock (wr.alloc M0).drew bo o1).alloc M0) bo o1 := ((((hbo.alloc).drew).put o1).alloc)
        have f27 : Holds (setBlock ((setBlock (wr.alloc M0).drew bo o1).alloc M0) bo (o2 (wr.heap.size))) bi q0 := (((((hbi.alloc).drew).set_other hne o1).alloc).set_other hne _)
        have f28 : Holds (setBlock (setBlock ((setBlock (wr.alloc M0).drew bo o1).alloc M0) bo (o2 (wr.heap.size))) bi q1) bi q1 := ((((((hbi.alloc).drew).set_other hne o1).alloc).set_other hne _).put q1)
        have f29 : Holds (setBlock ((setBlock (wr.alloc M0).drew bo o1).alloc M0) bo (o2 (wr.heap.size + 1))) bi q0 := (((((hbi.alloc).drew).set_other hne o1).alloc).set_other hne _)
        have f30 : Holds (setBlock (setBlock ((setBlock (wr.alloc M0).drew bo o1).alloc M0) bo (o2 (wr.heap.size + 1))) bi q1) bi q1 := ((((((hbi.alloc).drew).set_other hne o1).alloc).set_other hne _).put q1)
        have f31 : Holds ((wr.alloc M0).alloc M0).drew bo o0 := (((hbo.alloc).alloc).drew)
        have f32 : Holds (setBlock ((wr.alloc M0).alloc M0).drew bo o1) bo o1 := ((((hbo.alloc).alloc).drew).put o1)
        have f33 : Holds (setBlock (setBlock ((wr.alloc M0).alloc M0).drew bo o1) bo (o2 (wr.heap.size))) bi q0 := (((((hbi.alloc).alloc).drew).set_other hne o1).set_other hne _)
        have f34 : Holds (setBlock (setBlock (setBlock ((wr.alloc M0).alloc M0).drew bo o1) bo (o2 (wr.heap.size))) bi q1) bi q1 := ((((((hbi.alloc).alloc).drew).set_other hne o1).set_other hne _).put q1)
        have f35 : Holds (setBlock (setBlock ((wr.alloc M0).alloc M0).drew bo o1) bo (o2 (wr.heap.size + 1))) bi q0 := (((((hbi.alloc).alloc).drew).set_other hne o1).set_other hne _)
        have f36 : Holds (setBlock (setBlock (setBlock ((wr.alloc M0).alloc M0).drew bo o1) bo (o2 (wr.heap.size + 1))) bi q1) bi q1 := ((((((hbi.alloc).alloc).drew).set_other hne o1).set_other hne _).put q1)
        clear h ho hS' hm hg hS hend Hnext h14 h17 hm1 hm2 hv0 hu0 lbo lbi hne lp hbo hbi
        go_wp2
        go_region
        all_goals (go_wp2; go_roundw)
        all_goals first
          | (simp only [intOf]; omega)
          | (apply Hend.out
             · rfl
             rotate_left
             · apply Stage.done
               repeat (first | with_reducible exact HB.out | with_reducible apply Stage.setO | with_reducible apply Stage.setI | with_reducible apply Stage.alloc | with_reducible apply Stage.drew)
             · omega)
    · have hkl : k = l.length := by omega
      have hend := Hid.mk (show AddPost S w p (l.foldl Gr.add G) wr by have := AddPost.step ho hS' (AddPost.refl hgr); rw [hkl, List.take_length] at this; exact this)
      clear hgr h ho hS' hl hs few hmaps
      go_wp2
      go_ret
      exact ⟨rfl, hend.out⟩

end Go.Proofs.Ytiinmmgknlnkaaa
