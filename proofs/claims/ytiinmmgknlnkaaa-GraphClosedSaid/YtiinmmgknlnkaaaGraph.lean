/-
  A graph in memory: two maps of sets behind one pointer; and what Has, Add and Link do to it.
-/
import Derived.Test.YtiinmmgknlnkaaaProg
import Derived.Test.YtiinmmgknlnkaaaGr
import Derived.Outline
import Derived.Deep.QuietTactic
import Derived.BigQuiet
import Derived.WalkLawsBesides
import Derived.WalkSpells
namespace Go.Proofs.Ytiinmmgknlnkaaa
open Go.RowKit Go.Maps


def nodeMap (G : Gr) (s : Str → Nat) : Str → Option Nat := fun x => if x ∈ G.ns then some (s x) else none
def outMap (G : Gr) (x : Str) : Str → Option Bool := fun y => if G.e x y then some true else none
def inMap (G : Gr) (x : Str) : Str → Option Bool := fun y => if G.e y x then some true else none

structure IsG (w : World) (p bo bi : Nat) (so si : Str → Nat) (G : Gr) : Prop where
  hp : w.heap[p]? = some (.cells #[.map (some bo), .map (some bi)] 49 (0, 0))
  ok : G.ok
  mo : MapG Try.prog 9 eM w bo G.ns.length (nodeMap G so)
  mi : MapG Try.prog 9 eM w bi G.ns.length (nodeMap G si)
  eo : ∀ x ∈ G.ns, MapG Try.prog 9 eB w (so x) G.ns.length (outMap G x)
  ei : ∀ x ∈ G.ns, MapG Try.prog 9 eB w (si x) G.ns.length (inMap G x)
  oi : bo ≠ bi
  oso : ∀ x ∈ G.ns, so x ≠ bo ∧ so x ≠ bi
  osi : ∀ x ∈ G.ns, si x ≠ bo ∧ si x ≠ bi
  soso : ∀ x ∈ G.ns, ∀ y ∈ G.ns, so x = so y → x = y
  sisi : ∀ x ∈ G.ns, ∀ y ∈ G.ns, si x = si y → x = y
  sosi : ∀ x ∈ G.ns, ∀ y ∈ G.ns, so x ≠ si y

def foot (bo bi : Nat) (so si : Str → Nat) (G : Gr) (k : Nat) : Prop := k = bo ∨ k = bi ∨ ∃ x ∈ G.ns, k = so x ∨ k = si x

/-- Only the blocks of S, and new ones, may have changed. -/
structure Only (S : Nat → Prop) (w w' : World) : Prop where
  os : w'.os = w.os
  tape : w'.tape = w.tape
  output : w'.output = w.output
  size : w.heap.size ≤ w'.heap.size
  block : ∀ k, k < w.heap.size → ¬ S k → w'.heap[k]? = w.heap[k]?

theorem Only.refl (S : Nat → Prop) (w : World) : Only S w w := ⟨rfl, rfl, rfl, Nat.le_refl _, fun _ _ _ => rfl⟩
theorem Only.trans {S S' : Nat → Prop} {a b c : World} (h : Only S a b) (k : Only S' b c) (hs : ∀ x, x < a.heap.size → S' x → S x) : Only S a c :=
  ⟨k.os.trans h.os, k.tape.trans h.tape, k.output.trans h.output, Nat.le_trans h.size k.size, fun i hi hn => (k.block i (Nat.lt_of_lt_of_le hi h.size) (fun h' => hn (hs i hi h'))).trans (h.block i hi hn)⟩
theorem Only.of_below {S : Nat → Prop} {w w' : World} (h : Below w.heap.size w w') : Only S w w' :=
  ⟨h.os, h.tape, h.output, h.size, fun k hk _ => h.block k hk⟩
theorem Only.of_turned {b : Nat} {w w' : World} (h : w.mapTurned w' b) : Only (· = b) w w' :=
  ⟨h.grown.os, h.grown.tape, h.grown.output, h.grown.size, fun k hk hn => h.grown.block k hk (by simpa using hn)⟩
theorem Only.mono {S S' : Nat → Prop} {w w' : World} (h : Only S w w') (hs : ∀ x, x < w.heap.size → S x → S' x) : Only S' w w' :=
  ⟨h.os, h.tape, h.output, h.size, fun k hk hn => h.block k hk (fun h' => hn (hs k hk h'))⟩
theorem Only.alloc (S : Nat → Prop) (w : World) (o : Obj) : Only S w (w.alloc o) := Only.of_below ((Below.refl _ _).alloc (Nat.le_refl _) _)
theorem Only.drew {S : Nat → Prop} {w w' : World} (h : Only S w w') : Only S w w'.drew := ⟨h.os, h.tape, h.output, h.size, h.block⟩

theorem IsG.cell0 {w : World} {p bo bi : Nat} {so si : Str → Nat} {G : Gr} (h : IsG w p bo bi so si G) : w.cell? ⟨p, 0, none⟩ = some (.map (some bo)) := by simp [World.cell?, h.hp]
theorem IsG.cell1 {w : World} {p bo bi : Nat} {so si : Str → Nat} {G : Gr} (h : IsG w p bo bi so si G) : w.cell? ⟨p, 1, none⟩ = some (.map (some bi)) := by simp [World.cell?, h.hp]

theorem IsG.same {w w' : World} {p bo bi : Nat} {so si : Str → Nat} {G : Gr} (h : IsG w p bo bi so si G) (hp : w'.heap[p]? = w.heap[p]?) (hs : ∀ k, foot bo bi so si G k → w'.heap[k]? = w.heap[k]?) : IsG w' p bo bi so si G where
  hp := hp.trans h.hp
  ok := h.ok
  mo := h.mo.same (hs _ (.inl rfl))
  mi := h.mi.same (hs _ (.inr (.inl rfl)))
  eo x hx := (h.eo x hx).same (hs _ (.inr (.inr ⟨x, hx, .inl rfl⟩)))
  ei x hx := (h.ei x hx).same (hs _ (.inr (.inr ⟨x, hx, .inr rfl⟩)))
  oi := h.oi
  oso := h.oso
  osi := h.osi
  soso := h.soso
  sisi := h.sisi
  sosi := h.sosi

theorem IsG.lt {w : World} {p bo bi : Nat} {so si : Str → Nat} {G : Gr} (h : IsG w p bo bi so si G) : p < w.heap.size ∧ ∀ k, foot bo bi so si G k → k < w.heap.size := by
  refine ⟨(Array.getElem?_eq_some_iff.1 h.hp).1, fun k hk => ?_⟩
  rcases hk with rfl | rfl | ⟨x, hx, rfl | rfl⟩
  · exact h.mo.lt
  · exact h.mi.lt
  · exact (h.eo x hx).lt
  · exact (h.ei x hx).lt

theorem IsG.p_not {w : World} {p bo bi : Nat} {so si : Str → Nat} {G : Gr} (h : IsG w p bo bi so si G) : ¬ foot bo bi so si G p := by
  rintro (e | e | ⟨x, hx, e | e⟩)
  · obtain ⟨es, c, hc⟩ := h.mo.is_map; rw [← e, h.hp] at hc; cases hc
  · obtain ⟨es, c, hc⟩ := h.mi.is_map; rw [← e, h.hp] at hc; cases hc
  · obtain ⟨es, c, hc⟩ := (h.eo x hx).is_map; rw [← e, h.hp] at hc; cases hc
  · obtain ⟨es, c, hc⟩ := (h.ei x hx).is_map; rw [← e, h.hp] at hc; cases hc

theorem IsG.below_w {w w' : World} {p bo bi : Nat} {so si : Str → Nat} {G : Gr} (h : IsG w p bo bi so si G) (hb : Below w.heap.size w w') : IsG w' p bo bi so si G :=
  h.same (hb.block _ h.lt.1) (fun k hk => hb.block _ (h.lt.2 k hk))

/-- The graph G lies behind the pointer to block p, its maps in the blocks S. -/
def IsGraph (S : Nat → Prop) (w : World) (p : Nat) (G : Gr) : Prop := ∃ bo bi so si, IsG w p bo bi so si G ∧ ∀ k, S k ↔ foot bo bi so si G k

theorem IsGraph.only {S S' : Nat → Prop} {w w' : World} {p : Nat} {G : Gr} (h : IsGraph S w p G) (ho : Only S' w w') (hp : ¬ S' p) (hs : ∀ k, S k → ¬ S' k) : IsGraph S w' p G := by
  obtain ⟨bo, bi, so, si, hg, hS⟩ := h
  exact ⟨bo, bi, so, si, hg.same (ho.block _ hg.lt.1 hp) (fun k hk => ho.block _ (hg.lt.2 k hk) (hs k ((hS k).2 hk))), hS⟩
theorem IsGraph.below {S : Nat → Prop} {w w' : World} {p : Nat} {G : Gr} (h : IsGraph S w p G) (ho : Below w.heap.size w w') : IsGraph S w' p G :=
  h.only (S' := fun _ => False) (Only.of_below ho) (by simp) (by simp)
theorem IsGraph.lt {S : Nat → Prop} {w : World} {p : Nat} {G : Gr} (h : IsGraph S w p G) : p < w.heap.size ∧ ∀ k, S k → k < w.heap.size := by
  obtain ⟨bo, bi, so, si, hg, hS⟩ := h
  exact ⟨hg.lt.1, fun k hk => hg.lt.2 k ((hS k).1 hk)⟩
theorem IsGraph.p_not {S : Nat → Prop} {w : World} {p : Nat} {G : Gr} (h : IsGraph S w p G) : ¬ S p := by
  obtain ⟨bo, bi, so, si, hg, hS⟩ := h
  exact fun hk => hg.p_not ((hS p).1 hk)
theorem IsGraph.ok {S : Nat → Prop} {w : World} {p : Nat} {G : Gr} (h : IsGraph S w p G) : G.ok := by
  obtain ⟨bo, bi, so, si, hg, hS⟩ := h
  exact hg.ok

theorem zeroSet (w : World) : (zeroValue 58).run Try.prog w = .ok (.map none) w := by kernel_rfl
theorem zeroBool (w : World) : (zeroValue 4).run Try.prog w = .ok (.bool false) w := by kernel_rfl
theorem zeroInt (w : World) : (zeroValue 3).run Try.prog w = .ok (.int .i64 0) w := by kernel_rfl

abbrev ptr (p : Nat) : Value := .pointer (some ⟨p, 0, none⟩)
abbrev strV (x : Str) : Value := .string (bs x)

/-- Has, of a graph that is not there. -/
theorem has_nil (nm : ByteArray) (w : World) : Calls Try.prog 19 #[.pointer none, .string nm] w fun e w' => e = .returned (.bool false) ∧ w = w' := by
  go_enter Try.func19, Try.ntmps19
  go_wp2
  go_ret
  exact ⟨rfl, rfl⟩

theorem has_is {S : Nat → Prop} {w : World} {p : Nat} {G : Gr} (h : IsGraph S w p G) (x : Str) (hx : x.length ≤ maxLen) :
    Calls Try.prog 19 #[ptr p, strV x] w fun e w' => e = .returned (.bool (decide (x ∈ G.ns))) ∧ w = w' := by
  obtain ⟨bo, bi, so, si, hg, hS⟩ := h
  have c0 := hg.cell0
  by_cases hm : x ∈ G.ns
  · have hl : (Instr.lookup 47 (.map (some bo)) (strV x) false).run Try.prog w = .ok (.map (some (so x))) w := hg.mo.look_some Try.underlying9 Try.underlying47 (zeroSet w) hx (a := so x) (by simp [nodeMap, hm])
    have hnq := run_neq_map_nil (P := Try.prog) w 58 9 4 (some (so x)) Try.underlying58
    have hd : decide (x ∈ G.ns) = true := by simp [hm]
    rw [hd]
    clear hS hg hm hd
    go_enter Try.func19, Try.ntmps19
    go_wp2
    go_ret
    exact ⟨rfl, rfl⟩
  · have hl : (Instr.lookup 47 (.map (some bo)) (strV x) false).run Try.prog w = .ok (.map none) w := hg.mo.look_none Try.underlying9 Try.underlying47 (zeroSet w) hx (by simp [nodeMap, hm])
    have hnq := run_neq_map_nil (P := Try.prog) w 58 9 4 none Try.underlying58
    have hd : decide (x ∈ G.ns) = false := by simp [hm]
    rw [hd]
    clear hS hg hm hd
    go_enter Try.func19, Try.ntmps19
    go_wp2
    go_ret
    exact ⟨rfl, rfl⟩

end Go.Proofs.Ytiinmmgknlnkaaa
