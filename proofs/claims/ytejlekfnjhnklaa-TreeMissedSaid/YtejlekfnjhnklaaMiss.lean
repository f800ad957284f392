/-
  A tree of the call's own beside a map of its own.
-/
import Derived.Test.YtejlekfnjhnklaaMissP
import Derived.Test.YtejlekfnjhnklaaNames10
namespace Go.Proofs.Ytejlekfnjhnklaa
open Go.RowKit Go.Maps

/-- The tree, and what was kept. -/
structure Miss (w : World) (p kb : Nat) (T : Tr) (n : Nat) (f : Str → Option Str) (wr : World) : Prop where
  t : ∃ m last, IsTree wr 0 p m last T ∧ ∀ q, m = some q → w.heap.size ≤ q ∧ q ≠ kb
  hp : w.heap.size ≤ p
  b : Below w.heap.size w wr
  hk : w.heap.size ≤ kb
  kept : MapG Try.prog 9 eS wr kb n f

theorem Miss.own {w wr : World} {p kb n : Nat} {T : Tr} {f : Str → Option Str} (h : Miss w p kb T n f wr) : TreeOwn w p T wr := by
  obtain ⟨⟨m, last, h1, h2⟩, h3, h4, _, _⟩ := h
  exact ⟨⟨m, last, h1, fun q hq => (h2 q hq).1⟩, h3, h4⟩

theorem Miss.below {w wr w' : World} {p kb n : Nat} {T : Tr} {f : Str → Option Str} (h : Miss w p kb T n f wr) (hb : Below wr.heap.size wr w') : Miss w p kb T n f w' := by
  obtain ⟨⟨m, last, h1, h2⟩, h3, h4, h5, h6⟩ := h
  exact ⟨⟨m, last, h1.below hb, h2⟩, h3, h4.trans (hb.mono h4.size), h5, h6.below hb⟩

theorem Miss.post {w wr w' : World} {p kb n : Nat} {T T' : Tr} {f : Str → Option Str} (h : Miss w p kb T n f wr) {m : Option Nat} {last : Nat → Str} (h1 : IsTree wr 0 p m last T) (h2 : ∀ q, m = some q → w.heap.size ≤ q ∧ q ≠ kb) (hp : TreePost wr p m T' w') : Miss w p kb T' n f w' := by
  obtain ⟨m', last', g1, g2, g3⟩ := hp
  have hlt := h.kept.lt
  refine ⟨⟨m', last', g1, fun q hq => ?_⟩, h.hp, chg_own h.b h.hp (fun q hq => (h2 q hq).1) g3, h.hk, h.kept.same (g3.block _ hlt ?_)⟩
  · rcases g2 q hq with e | e
    · exact h2 q e
    · have := h.b.size
      exact ⟨by omega, by omega⟩
  · rintro (e | e)
    · obtain ⟨c, hc⟩ := h1.block
      obtain ⟨es, cl, hm⟩ := h.kept.is_map
      rw [e, hc] at hm; cases hm
    · exact (h2 _ e).2 rfl

theorem Miss.write {w wr : World} {p kb n : Nat} {T : Tr} {f : Str → Option Str} (h : Miss w p kb T n f wr) (hg : Glob w) (hok : T.ok) (hch : T.ch.length ≤ 1000000) (x s : Str) :
    Calls Try.prog 15 #[.pointer (some ⟨p, 0, none⟩), strV x, strV s] wr fun e w' => (∃ v, e = .returned v) ∧ Miss w p kb (T.write x s).1 n f w' := by
  obtain ⟨m, last, h1, h2⟩ := h.t
  exact (write_is h1 (hg.below h.b) hok hch x s).mono fun _ _ ⟨he, hp⟩ => ⟨⟨_, he⟩, h.post h1 h2 hp⟩

theorem Miss.remove {w wr : World} {p kb n : Nat} {T : Tr} {f : Str → Option Str} (h : Miss w p kb T n f wr) (hg : Glob w) (hok : T.ok) (hch : T.ch.length ≤ 1000000) (x : Str) :
    Calls Try.prog 16 #[.pointer (some ⟨p, 0, none⟩), strV x] wr fun e w' => (∃ v, e = .returned v) ∧ Miss w p kb (T.remove x).1 n f w' := by
  obtain ⟨m, last, h1, h2⟩ := h.t
  exact (remove_is h1 (hg.below h.b) hok hch x).mono fun _ _ ⟨he, hp⟩ => ⟨⟨_, he⟩, h.post h1 h2 hp⟩

theorem Miss.read {w wr : World} {p kb n : Nat} {T : Tr} {f : Str → Option Str} (h : Miss w p kb T n f wr) (hg : Glob w) (x : Str) :
    Calls Try.prog 13 #[.pointer (some ⟨p, 0, none⟩), strV x] wr fun e w' => e = .returned (.tuple #[strV (T.read x).1, .int .i64 (T.read x).2]) ∧ Below wr.heap.size wr w' := by
  obtain ⟨m, last, h1, h2⟩ := h.t
  exact read_is h1 (hg.below h.b) x

theorem Miss.since {w wr : World} {p kb n : Nat} {T : Tr} {f : Str → Option Str} (h : Miss w p kb T n f wr) (hch : T.ch.length ≤ 1000000) (mark : Int) (h1 : -9223372036854775808 ≤ mark) (h2 : mark ≤ 9223372036854775807) :
    Calls Try.prog 17 #[.pointer (some ⟨p, 0, none⟩), .int .i64 mark] wr (SincePost wr T mark) := by
  obtain ⟨m, last, g1, g2⟩ := h.t
  exact trSince_is g1 (by omega) mark h1 h2

theorem Miss.listed {w wr : World} {p kb n : Nat} {T : Tr} {f : Str → Option Str} (h : Miss w p kb T n f wr) (hok : T.ok) : Calls Try.prog 12 #[.pointer (some ⟨p, 0, none⟩), strV []] wr (ListedPost wr (keys T.fs)) := by
  obtain ⟨m, last, g1, g2⟩ := h.t
  have := listed_is g1 hok []
  rwa [listOf_nil] at this

theorem Miss.turned {w wr w' : World} {p kb n n' : Nat} {T : Tr} {f f' : Str → Option Str} (h : Miss w p kb T n f wr) (hm : MapG Try.prog 9 eS w' kb n' f') (ht : wr.mapTurned w' kb) : Miss w p kb T n' f' w' := by
  obtain ⟨⟨m, last, h1, h2⟩, h3, h4, h5, h6⟩ := h
  have hg := ht.grown
  refine ⟨⟨m, last, h1.same (hg.block p h1.lt ?_) (fun q hq => ?_), h2⟩, h3, ⟨hg.os.trans h4.os, hg.tape.trans h4.tape, hg.output.trans h4.output, Nat.le_trans h4.size hg.size, fun k hk => (hg.block k (Nat.lt_of_lt_of_le hk h4.size) (by simp; omega)).trans (h4.block k hk)⟩, h5, hm⟩
  · intro e
    have e2 : p = kb := by simpa using e
    obtain ⟨c, hc⟩ := h1.block
    obtain ⟨es, cl, hm0⟩ := h6.is_map
    rw [e2, hm0] at hc; cases hc
  · subst hq
    exact hg.block q h1.lt_m (by simpa using (h2 q rfl).2)

theorem Miss.put {w wr : World} {p kb n : Nat} {T : Tr} {f : Str → Option Str} (h : Miss w p kb T n f wr) (hn : n < 1000000) {x : Str} (hx : x.length ≤ 60) (s : Str) :
    ∃ w', (Instr.mapUpdate 30 (.map (some kb)) (strV x) (strV s)).run Try.prog wr = .ok () w' ∧ Miss w p kb T (n + 1) (upd f x (some s)) w' ∧ wr.mapTurned w' kb := by
  obtain ⟨w', hr, hm, ht⟩ := h.kept.store Try.underlying9 Try.underlying30 (by unfold maxLen; omega) (x := x) (by unfold maxLen; omega) s
  exact ⟨w', hr, h.turned hm ht, ht⟩

theorem Miss.del {w wr : World} {p kb n : Nat} {T : Tr} {f : Str → Option Str} (h : Miss w p kb T n f wr) {x : Str} (hx : x.length ≤ 60) :
    ∃ w', (Builtin.delete_ #[30, 9] 0 #[.map (some kb), strV x]).run Try.prog wr = .ok (.tuple #[]) w' ∧ Miss w p kb T n (upd f x none) w' ∧ wr.mapTurned w' kb := by
  obtain ⟨w', hr, hm, ht⟩ := h.kept.delete Try.underlying9 Try.underlying30 (x := x) (by unfold maxLen; omega) 0
  exact ⟨w', hr, h.turned hm ht, ht⟩

theorem IsStrs.turned {w w' : World} {v : Value} {l : List Str} {b : Nat} (h : IsStrs w v l) (ht : w.mapTurned w' b) (hm : ∃ es c, w.heap[b]? = some (.map es c)) : IsStrs w' v l := by
  obtain ⟨a, cap, hv, h0 | ⟨g, off, ha, hg, hc⟩⟩ := h
  · exact ⟨a, cap, hv, .inl h0⟩
  · refine ⟨a, cap, hv, .inr ⟨g, off, ha, Nat.lt_of_lt_of_le hg ht.grown.size, fun i h => cell_block (hc i h) (ht.grown.block _ hg ?_)⟩⟩
    intro e
    have e2 : g = b := by simpa using e
    obtain ⟨es, c, hb⟩ := hm
    have := hc i h
    simp [World.cell?, e2, hb] at this

theorem path_len {x : Str} (h : isPath x = true) : x.length ≤ 60 := by
  simp only [isPath, Bool.and_eq_true, decide_eq_true_eq] at h
  exact h.1

/-- The kept map is made. -/
theorem Miss.made {w wr : World} {p : Nat} {T : Tr} (h : TreeOwn w p T wr) : Miss w p wr.heap.size T 0 (fun _ => none) (wr.alloc (.map #[] 0)) := by
  obtain ⟨⟨m, last, h1, h2⟩, h3, h4⟩ := h
  have hb : Below wr.heap.size wr (wr.alloc (.map #[] 0)) := (Below.refl _ _).alloc (Nat.le_refl _) _
  refine ⟨⟨m, last, h1.below hb, fun q hq => ⟨h2 q hq, ?_⟩⟩, h3, h4.trans (hb.mono h4.size), h4.size, MapG.made wr Try.prog 9 eS⟩
  subst hq
  have := h1.lt_m
  omega

end Go.Proofs.Ytejlekfnjhnklaa
