/-
  graph.New.
-/
import Derived.Test.YtiinmmgknlnkaaaLink
namespace Go.Proofs.Ytiinmmgknlnkaaa
open Go.RowKit Go.Maps
open Go.ChangeMaps (setBlock)

abbrev EdgeL := List (Str × Str)

/-- A list of edges lies in a slice's cells. -/
def EdgesAt (w : World) (a : Option Addr) (l : EdgeL) : Prop :=
  l = [] ∨ ∃ g off, a = some ⟨g, off, none⟩ ∧ ∀ i (h : i < l.length), w.cell? ⟨g, off + i * 2, none⟩ = some (strV l[i].1) ∧ w.cell? ⟨g, off + i * 2 + 1, none⟩ = some (strV l[i].2)

def Gr.links (l : EdgeL) (G : Gr) : Gr := l.foldl (fun G e => G.link e.1 e.2) G

def NewPost (w : World) (G : Gr) (e : Ending) (w' : World) : Prop :=
  ∃ S p, e = .returned (ptr p) ∧ IsGraph S w' p G ∧ Below w.heap.size w w' ∧ w.heap.size ≤ p ∧ ∀ k, S k → w.heap.size ≤ k

abbrev newW (w : World) : World := ((w.alloc M0).alloc M0).alloc (.cells #[.map (some w.heap.size), .map (some (w.heap.size + 1))] 49)

theorem new_empty (w : World) : IsGraph (fun k => k = w.heap.size ∨ k = w.heap.size + 1) (newW w) (w.heap.size + 1 + 1) Gr.empty := by
  refine ⟨w.heap.size, w.heap.size + 1, fun _ => 0, fun _ => 0, ?_, fun k => ?_⟩
  · have e1 : (w.alloc M0).heap.size = w.heap.size + 1 := World.size_alloc _ _
    have e2 : ((w.alloc M0).alloc M0).heap.size = w.heap.size + 2 := by rw [World.size_alloc, e1]
    have b0 : (newW w).heap[w.heap.size]? = some M0 := by
      rw [heap_alloc_other _ _ (by omega), heap_alloc_other _ _ (by omega), heap_alloc_new]
    have b1 : (newW w).heap[w.heap.size + 1]? = some M0 := by
      rw [heap_alloc_other _ _ (by omega), ← e1, heap_alloc_new]
    have b2 : (newW w).heap[w.heap.size + 1 + 1]? = some (.cells #[.map (some w.heap.size), .map (some (w.heap.size + 1))] 49 (0, 0)) := by
      rw [← e2, heap_alloc_new]
    have hm0 : ∀ b, (newW w).heap[b]? = some M0 → MapG Try.prog 9 eM (newW w) b 0 (fun _ => none) := fun b hb => by
      refine (MapG.made w Try.prog 9 eM).same' ?_
      rw [hb, heap_alloc_new]
    exact { hp := b2, ok := Gr.ok.empty, mo := (hm0 _ b0).congr fun x => by simp [nodeMap, Gr.empty], mi := (hm0 _ b1).congr fun x => by simp [nodeMap, Gr.empty], eo := fun x hx => (by cases hx), ei := fun x hx => (by cases hx), oi := (by omega), oso := fun x hx => (by cases hx), osi := fun x hx => (by cases hx), soso := fun x hx => (by cases hx), sisi := fun x hx => (by cases hx), sosi := fun x hx => (by cases hx) }
  · simp [foot, Gr.empty]

theorem few_links : ∀ (l : EdgeL) (G : Gr), (Gr.links l G).ns.length ≤ G.ns.length + 2 * l.length
  | [], G => by simp [Gr.links]
  | x :: r, G => by
    have := few_links r (G.link x.1 x.2)
    have h2 : (G.link x.1 x.2).ns.length ≤ G.ns.length + 2 := Nat.le_trans length_ins_le (Nat.succ_le_succ length_ins_le)
    simp only [Gr.links, List.foldl_cons, List.length_cons] at this ⊢
    omega

theorem take_links (l : EdgeL) (G : Gr) (k : Nat) (h : k < l.length) : Gr.links (l.take (k + 1)) G = (Gr.links (l.take k) G).link l[k].1 l[k].2 := by
  unfold Gr.links
  rw [List.take_succ_eq_append_getElem h, List.foldl_append]
  rfl

def NewRel (w0 : World) (S : Nat → Prop) (p : Nat) (G : Gr) (l : EdgeL) (i : Value) (wr : World) : Prop :=
  ∃ k : Nat, k ≤ l.length ∧ i = .int .i64 k ∧ AddPost S w0 p (Gr.links (l.take k) G) wr

theorem AddPost.newPost {w w' : World} {G : Gr} (h : AddPost (fun k => k = w.heap.size ∨ k = w.heap.size + 1) (newW w) (w.heap.size + 1 + 1) G w') : NewPost w G (.returned (ptr (w.heap.size + 1 + 1))) w' := by
  obtain ⟨S, hg, ho, hS⟩ := h
  have e3 : (newW w).heap.size = w.heap.size + 3 := by simp [newW]
  have hb : Below w.heap.size w (newW w) := (((Below.refl _ _).alloc (Nat.le_refl _) _).alloc (by simp) _).alloc (by simp; omega) _
  refine ⟨S, _, rfl, hg, ⟨ho.os.trans hb.os, ho.tape.trans hb.tape, ho.output.trans hb.output, by have := ho.size; omega, fun k hk => (ho.block k (by omega) (by omega)).trans (hb.block k hk)⟩, by omega, fun k hk => ?_⟩
  rcases hS k hk with h | h <;> omega

set_option maxHeartbeats 1000000 in
theorem new_some (w : World) (g off cap : Nat) (l : EdgeL) (hl : ∀ i (h : i < l.length), w.cell? ⟨g, off + i * 2, none⟩ = some (strV l[i].1) ∧ w.cell? ⟨g, off + i * 2 + 1, none⟩ = some (strV l[i].2)) (hs : ∀ x ∈ l, x.1.length ≤ maxLen ∧ x.2.length ≤ maxLen) (few : 2 * l.length ≤ 1048576) :
    Calls Try.prog 6 #[.slice (some ⟨g, off, none⟩) l.length cap] w (NewPost w (Gr.links l Gr.empty)) := by
  have hmm : ∀ wx, (Instr.makeMap 47 none).run Try.prog wx = .ok (.map (some wx.heap.size)) (wx.alloc M0) := fun wx => run_makeMap (P := Try.prog) 47 wx
  have hlen : l.length ≤ 1048576 := by omega
  have h0 := new_empty w
  have hmaps := h0.maps
  have hbel : Below w.heap.size w (newW w) := (((Below.refl _ _).alloc (Nat.le_refl _) _).alloc (by simp) _).alloc (by simp; omega) _
  go_enter Try.func6, Try.ntmps6
  go_wp2
  go_loopw [12] (fun i wr => NewRel (newW w) (fun k => k = w.heap.size ∨ k = w.heap.size + 1) (w.heap.size + 1 + 1) Gr.empty l i wr) (fun i _ => l.length - (intOf i).toNat)
  case atStart => exact ⟨0, Nat.zero_le _, rfl, AddPost.refl h0⟩
  case round =>
    obtain ⟨k, hk, rfl, S', hgr, ho, hS'⟩ := hrel
    by_cases hlt : k < l.length
    · have c1 : wr.cell? ⟨g, off + k * 2, none⟩ = some (strV l[k].1) := cell_only ho hmaps (cell_alloc' _ (cell_alloc' _ (cell_alloc' _ (hl k hlt).1)))
      have c2 : wr.cell? ⟨g, off + k * 2 + 1, none⟩ = some (strV l[k].2) := cell_only ho hmaps (cell_alloc' _ (cell_alloc' _ (cell_alloc' _ (hl k hlt).2)))
      have hx := hs _ (List.getElem_mem hlt)
      have hfew := few_links (l.take k) Gr.empty
      have hfew2 : (Gr.links (l.take k) Gr.empty).ns.length + 2 ≤ 1048576 := by
        have : (l.take k).length ≤ k := List.length_take_le _ _
        have h3 : Gr.empty.ns.length = 0 := rfl
        omega
      have hstep := take_links l Gr.empty k hlt
      generalize l[k].1 = a at c1 hx hstep
      generalize l[k].2 = b at c2 hx hstep
      generalize Gr.links (l.take k) Gr.empty = G1 at hgr hfew hfew2 hstep
      have hgr2 := hgr.below (w' := wr.alloc (.cells #[strV a, strV b] 51)) ((Below.refl _ _).alloc (Nat.le_refl _) _)
      have hlink := link_is hgr2 a b hx.1 hx.2 hfew2
      have Hlink := Hid.mk hlink
      have hnext : ∀ (i : Int) (w' : World), i = (k : Int) + 1 → AddPost S' (wr.alloc (.cells #[strV a, strV b] 51)) (w.heap.size + 1 + 1) (G1.link a b) w' → NewRel (newW w) (fun k => k = w.heap.size ∨ k = w.heap.size + 1) (w.heap.size + 1 + 1) Gr.empty l (.int .i64 i) w' := fun i w' hi hp =>
        ⟨k + 1, hlt, by rw [hi]; rfl, by rw [hstep]; exact AddPost.step ho hS' (AddPost.trans (Only.alloc _ _ _) hp)⟩
      have Hnext := Hid.mk hnext
      clear hnext hlink hgr2 hstep hl hs few hfew hmaps hgr ho hS' hx hfew2 h0 hbel
      go_wp2_with fail
      refine Hlink.out.mono ?_
      rintro e w1 ⟨rfl, hp1⟩
      have Hp1 := Hid.mk hp1
      clear hp1
      go_wp2
      go_roundw
      case rel => exact Hnext.out _ _ rfl Hp1.out
      case measure => simp [intOf]; omega
    · have hkl : k = l.length := by omega
      have hend := Hid.mk (show NewPost w (Gr.links l Gr.empty) (.returned (ptr (w.heap.size + 1 + 1))) wr by have := AddPost.step ho hS' (AddPost.refl hgr); rw [hkl, List.take_length] at this; exact this.newPost)
      clear hgr h0 ho hS' hl hs few hmaps hbel
      go_wp2
      go_ret
      exact hend.out

set_option maxHeartbeats 1000000 in
theorem new_none (w : World) (a : Option Addr) (cap : Nat) : Calls Try.prog 6 #[.slice a 0 cap] w (NewPost w Gr.empty) := by
  have hmm : ∀ wx, (Instr.makeMap 47 none).run Try.prog wx = .ok (.map (some wx.heap.size)) (wx.alloc M0) := fun wx => run_makeMap (P := Try.prog) 47 wx
  have h0 := Hid.mk (AddPost.newPost (AddPost.refl (new_empty w)))
  go_enter Try.func6, Try.ntmps6
  go_wp2
  refine wp_loop_rounds 1 ?_
  rw [rounds_succ]
  go_wp2
  go_ret
  exact h0.out

theorem new_any (w : World) (a : Option Addr) (cap n : Nat) (l : EdgeL) (hn : n = l.length) (hl : EdgesAt w a l) (hs : ∀ x ∈ l, x.1.length ≤ maxLen ∧ x.2.length ≤ maxLen) (few : 2 * l.length ≤ 1048576) :
    Calls Try.prog 6 #[.slice a n cap] w (NewPost w (Gr.links l Gr.empty)) := by
  subst hn
  rcases hl with rfl | ⟨g, off, rfl, hl⟩
  · exact new_none w a cap
  · exact new_some w g off cap l hl hs few

end Go.Proofs.Ytiinmmgknlnkaaa
