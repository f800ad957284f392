/-
  The program's tree: Write and Remove, walked.
-/
import Derived.Test.YtejlekfnjhnklaaTree2
namespace Go.Proofs.Ytejlekfnjhnklaa
open Go.RowKit Go.Maps

/-- What holds of a tree as plain data. -/
structure Tr.ok (T : Tr) : Prop where
  rise : Rising (keys T.fs)
  few : T.fs.length ≤ 256
  paths : ∀ f ∈ T.fs, isPath f.1 = true
  chs : ∀ x ∈ T.ch, isPath x = true
  texts : ∀ f ∈ T.fs, f.2.length ≤ 4096

theorem Tr.ok.empty : Tr.empty.ok := ⟨List.Pairwise.nil, by simp [Tr.empty], by simp [Tr.empty], by simp [Tr.empty], by simp [Tr.empty]⟩

theorem Tr.ok.put {T : Tr} (h : T.ok) {p s : Str} (hp : isPath p = true) (hs : s.length ≤ 4096) (hf : look T.fs p = none → T.fs.length ≠ 256) : Tr.ok ⟨put T.fs p s, T.ch ++ [p]⟩ where
  rise := rising_put h.rise p s
  few := by
    show (Go.Proofs.Ytejlekfnjhnklaa.put T.fs p s).length ≤ 256
    have := h.few
    cases hk : look T.fs p with
    | none =>
      have h2 := hf hk
      rw [put_len_miss h.rise p s hk]; omega
    | some v => rw [put_len_hit h.rise p s hk]; omega
  paths f hf := by
    rcases (mem_put h.rise p s f).1 hf with rfl | ⟨h1, _⟩
    · exact hp
    · exact h.paths f h1
  chs x hx := by
    rcases List.mem_append.1 hx with h1 | h1
    · exact h.chs x h1
    · obtain rfl : x = p := by simpa using h1
      exact hp
  texts f hf := by
    rcases (mem_put h.rise p s f).1 hf with rfl | ⟨h1, _⟩
    · exact hs
    · exact h.texts f h1

theorem Tr.ok.write {T : Tr} (h : T.ok) (p s : Str) : (T.write p s).1.ok := by
  unfold Tr.write
  split
  · rename_i hp
    split
    · exact h
    · cases hk : look T.fs p with
      | some v =>
        simp only
        split
        · exact h
        · exact h.put hp (by omega) (fun e => by rw [hk] at e; cases e)
      | none =>
        simp only
        split
        · exact h
        · exact h.put hp (by omega) (fun _ => by assumption)
  · exact h

theorem Tr.ok.del {T : Tr} (h : T.ok) {p : Str} (hp : isPath p = true) : Tr.ok ⟨del T.fs p, T.ch ++ [p]⟩ where
  rise := rising_del h.rise p
  few := Nat.le_trans (List.length_filter_le _ _) h.few
  paths f hf := h.paths f (List.mem_filter.1 hf).1
  chs x hx := by
    rcases List.mem_append.1 hx with h1 | h1
    · exact h.chs x h1
    · obtain rfl : x = p := by simpa using h1
      exact hp
  texts f hf := h.texts f (List.mem_filter.1 hf).1

theorem Tr.ok.remove {T : Tr} (h : T.ok) (p : Str) : (T.remove p).1.ok := by
  unfold Tr.remove
  split
  · rename_i hp
    cases hk : look T.fs p with
    | some v => exact h.del hp
    | none => exact h
  · exact h

/-- It stays while its blocks stay. -/
theorem IsTree.same {w w' : World} {b p : Nat} {m : Option Nat} {last : Nat → Str} {T : Tr} (h : IsTree w b p m last T) (hp : w'.heap[p]? = w.heap[p]?) (hm : ∀ q, m = some q → w'.heap[q]? = w.heap[q]?) : IsTree w' b p m last T := by
  obtain ⟨c, hc⟩ := h.block
  refine ⟨h.here, ⟨c, hp.trans hc⟩, fun i hi => cell_block (h.ring i hi) hp, cell_block h.n hp, cell_block h.map hp, ?_, h.keeps⟩
  rcases h.files with h1 | ⟨q, h1, h2, h3⟩
  · exact .inl h1
  · exact .inr ⟨q, h1, h2, h3.same (hm q h1)⟩

theorem IsTree.ne {w : World} {b p q : Nat} {last : Nat → Str} {T : Tr} (h : IsTree w b p (some q) last T) : p ≠ q := by
  intro e
  obtain ⟨c, hc⟩ := h.block
  rcases h.files with ⟨h1, _⟩ | ⟨q', h1, h2, h3⟩
  · cases h1
  · cases h1
    obtain ⟨es, cl, hm⟩ := h3.is_map
    rw [← e, hc] at hm
    cases hm

theorem IsTree.lt {w : World} {b p : Nat} {m : Option Nat} {last : Nat → Str} {T : Tr} (h : IsTree w b p m last T) : p < w.heap.size := by
  obtain ⟨c, hc⟩ := h.block
  exact (Array.getElem?_eq_some_iff.1 hc).1

/-- What a call that may write has made of the program's tree. -/
def TreePost (w : World) (p : Nat) (m : Option Nat) (T' : Tr) (w' : World) : Prop :=
  ∃ m' last', IsTree w' 0 p m' last' T' ∧ (∀ q, m' = some q → m = some q ∨ w.heap.size ≤ q) ∧ Chg (fun k => k = p ∨ m = some k) w w'

theorem TreePost.of_below {w w' : World} {p : Nat} {m : Option Nat} {last : Nat → Str} {T : Tr} (h : IsTree w' 0 p m last T) (hb : Below w.heap.size w w') : TreePost w p m T w' := ⟨m, last, h, fun _ h => .inl h, Chg.of_below hb⟩

theorem IsTree.noted {w : World} {p : Nat} {m : Option Nat} {last : Nat → Str} {T : Tr} (h : IsTree w 0 p m last T) (x : Str) :
    IsTree (((w.setCell ⟨p, T.ch.length % 32, none⟩ (strV x)).setCell ⟨p, 32, none⟩ (.int .i64 ((T.ch.length : Int) + 1))).drew) 0 p m (fun i => if i = T.ch.length % 32 then x else last i) ⟨T.fs, T.ch ++ [x]⟩ := by
  obtain ⟨c, hc⟩ := h.block
  have hcell : ∀ i, w.cell? ⟨p, i, none⟩ = c[i]? := fun i => by simp [World.cell?, hc]
  have h1 := heap_setCell_same (i := T.ch.length % 32) (u := strV x) hc
  have h2 := heap_setCell_same (i := 32) (u := .int .i64 ((T.ch.length : Int) + 1)) h1
  have h3 : (((w.setCell ⟨p, T.ch.length % 32, none⟩ (strV x)).setCell ⟨p, 32, none⟩ (.int .i64 ((T.ch.length : Int) + 1))).drew).heap[p]? = some (.cells ((c.setIfInBounds (T.ch.length % 32) (strV x)).setIfInBounds 32 (.int .i64 ((T.ch.length : Int) + 1))) 32 (0, 0)) := h2
  have hcell3 : ∀ i, (((w.setCell ⟨p, T.ch.length % 32, none⟩ (strV x)).setCell ⟨p, 32, none⟩ (.int .i64 ((T.ch.length : Int) + 1))).drew).cell? ⟨p, i, none⟩ = ((c.setIfInBounds (T.ch.length % 32) (strV x)).setIfInBounds 32 (.int .i64 ((T.ch.length : Int) + 1)))[i]? := fun i => by simp only [World.cell?, h3]; rfl
  have hsz : 32 < c.size := by
    have := h.n
    rw [hcell] at this
    exact (Array.getElem?_eq_some_iff.1 this).1
  have hmod : T.ch.length % 32 < 32 := Nat.mod_lt _ (by decide)
  refine ⟨Nat.zero_le _, ⟨_, h3⟩, fun i hi => ?_, ?_, ?_, ?_, ring_step h.keeps x⟩
  · rw [hcell3, Array.getElem?_setIfInBounds, if_neg (by omega), Array.getElem?_setIfInBounds]
    by_cases e : T.ch.length % 32 = i
    · rw [if_pos e, if_pos (by omega), if_pos e.symm]
    · rw [if_neg e, if_neg (fun e2 => e e2.symm), ← hcell]
      exact h.ring i hi
  · rw [hcell3, Array.getElem?_setIfInBounds, if_pos rfl, if_pos (by simp; omega)]
    simp
  · rw [hcell3, Array.getElem?_setIfInBounds, if_neg (by decide), Array.getElem?_setIfInBounds, if_neg (by omega), ← hcell]
    exact h.map
  · rcases h.files with h1 | ⟨q, rfl, _, h4⟩
    · exact .inl h1
    · refine .inr ⟨q, rfl, Nat.zero_le _, h4.same ?_⟩
      have hne := h.ne.symm
      show ((w.setCell ⟨p, T.ch.length % 32, none⟩ (strV x)).setCell ⟨p, 32, none⟩ (.int .i64 ((T.ch.length : Int) + 1))).heap[q]? = _
      rw [Below.heap_setCell _ _ _ _ hne, Below.heap_setCell _ _ _ _ hne]

theorem chg_noted (w : World) (p i : Nat) (u v : Value) : Chg (· = p) w (((w.setCell ⟨p, i, none⟩ u).setCell ⟨p, 32, none⟩ v).drew) :=
  ((Chg.of_set w ⟨p, i, none⟩ u).trans (Chg.of_set _ ⟨p, 32, none⟩ v) (fun _ _ h => h)).drew

/-- The map gets a text. -/
theorem IsTree.stored {w w' : World} {p q n : Nat} {last : Nat → Str} {T : Tr} (h : IsTree w 0 p (some q) last T) (hr : Rising (keys T.fs)) (x s : Str) (hm : MapG Try.prog 9 eS w' q n (upd (Go.Proofs.Ytejlekfnjhnklaa.look T.fs) x (some s))) (ht : w.mapTurned w' q) :
    IsTree w' 0 p (some q) last ⟨put T.fs x s, T.ch⟩ := by
  have hg := ht.grown
  have hp := hg.block p h.lt (by simpa using h.ne)
  obtain ⟨c, hc⟩ := h.block
  refine ⟨h.here, ⟨c, hp.trans hc⟩, fun i hi => cell_block (h.ring i hi) hp, cell_block h.n hp, cell_block h.map hp, .inr ⟨q, rfl, Nat.zero_le _, ?_⟩, h.keeps⟩
  have h2 : MapG Try.prog 9 eS w' q n (Go.Proofs.Ytejlekfnjhnklaa.look (put T.fs x s)) := hm.congr fun y => by rw [look_put hr]; rfl
  have h3 := h2.tight Try.underlying9 (keys_look (rising_put hr x s))
  rw [show (keys (put T.fs x s)).length = (put T.fs x s).length by simp] at h3
  exact h3

/-- The map loses a text. -/
theorem IsTree.struck {w w' : World} {p q n : Nat} {last : Nat → Str} {T : Tr} (h : IsTree w 0 p (some q) last T) (hr : Rising (keys T.fs)) (x : Str) (hm : MapG Try.prog 9 eS w' q n (upd (Go.Proofs.Ytejlekfnjhnklaa.look T.fs) x none)) (ht : w.mapTurned w' q) :
    IsTree w' 0 p (some q) last ⟨del T.fs x, T.ch⟩ := by
  have hg := ht.grown
  have hp := hg.block p h.lt (by simpa using h.ne)
  obtain ⟨c, hc⟩ := h.block
  refine ⟨h.here, ⟨c, hp.trans hc⟩, fun i hi => cell_block (h.ring i hi) hp, cell_block h.n hp, cell_block h.map hp, .inr ⟨q, rfl, Nat.zero_le _, ?_⟩, h.keeps⟩
  have h2 : MapG Try.prog 9 eS w' q n (Go.Proofs.Ytejlekfnjhnklaa.look (del T.fs x)) := hm.congr fun y => by rw [look_del hr]; rfl
  have h3 := h2.tight Try.underlying9 (keys_look (rising_del hr x))
  rw [show (keys (del T.fs x)).length = (del T.fs x).length by simp] at h3
  exact h3

/-- A tree without a map gets one. -/
theorem IsTree.mapped {w : World} {p : Nat} {last : Nat → Str} {T : Tr} (h : IsTree w 0 p none last T) : IsTree ((w.setCell ⟨p, 33, none⟩ (.map (some w.heap.size))).alloc (.map #[] 0)) 0 p (some w.heap.size) last T := by
  obtain ⟨c, hc⟩ := h.block
  have hlt := h.lt
  have hs1 : (w.setCell ⟨p, 33, none⟩ (.map (some w.heap.size))).heap.size = w.heap.size := by simp [World.setCell]
  have h0 := heap_setCell_same (i := 33) (u := .map (some w.heap.size)) hc
  have h1 : ((w.setCell ⟨p, 33, none⟩ (.map (some w.heap.size))).alloc (.map #[] 0)).heap[p]? = some (.cells (c.setIfInBounds 33 (.map (some w.heap.size))) 32 (0, 0)) := (Below.heap_alloc _ _ _ (by rw [hs1]; exact hlt)).trans h0
  have hcell : ∀ i, w.cell? ⟨p, i, none⟩ = c[i]? := fun i => by simp [World.cell?, hc]
  have hcell3 : ∀ i, ((w.setCell ⟨p, 33, none⟩ (.map (some w.heap.size))).alloc (.map #[] 0)).cell? ⟨p, i, none⟩ = (c.setIfInBounds 33 (.map (some w.heap.size)))[i]? := fun i => by simp only [World.cell?, h1]; rfl
  have hsz : 33 < c.size := by
    have := h.map
    rw [hcell] at this
    exact (Array.getElem?_eq_some_iff.1 this).1
  refine ⟨Nat.zero_le _, ⟨_, h1⟩, fun i hi => ?_, ?_, ?_, .inr ⟨_, rfl, Nat.zero_le _, ?_⟩, h.keeps⟩
  · rw [hcell3, Array.getElem?_setIfInBounds, if_neg (by omega), ← hcell]; exact h.ring i hi
  · rw [hcell3, Array.getElem?_setIfInBounds, if_neg (by decide), ← hcell]; exact h.n
  · rw [hcell3, Array.getElem?_setIfInBounds, if_pos rfl, if_pos hsz]
  · have hfs : T.fs = [] := by
      rcases h.files with ⟨_, h1⟩ | ⟨q, h1, _⟩
      · exact h1
      · cases h1
    rw [hfs]
    have := MapG.made (w.setCell ⟨p, 33, none⟩ (.map (some w.heap.size))) Try.prog 9 eS
    rw [hs1] at this
    exact this.congr fun _ => rfl

/-- How Write ends: the map gets the text, the change is noted. -/
theorem tree_wrote {w w1 w2 w3 : World} {p q n : Nat} {m : Option Nat} {last : Nat → Str} {T : Tr} (x s : Str) (h : IsTree w2 0 p (some q) last T) (hr : Rising (keys T.fs)) (hb : Below w.heap.size w w1) (hp : p < w.heap.size)
    (h2 : Chg (· = p) w1 w2) (hq : m = some q ∨ w.heap.size ≤ q) (hm : MapG Try.prog 9 eS w3 q n (upd (Go.Proofs.Ytejlekfnjhnklaa.look T.fs) x (some s))) (ht : w2.mapTurned w3 q) :
    TreePost w p m ⟨put T.fs x s, T.ch ++ [x]⟩ (((w3.setCell ⟨p, T.ch.length % 32, none⟩ (strV x)).setCell ⟨p, 32, none⟩ (.int .i64 ((T.ch.length : Int) + 1))).drew) := by
  have h3 := (h.stored hr x s hm ht).noted x
  refine ⟨some q, _, h3, fun q' e => ?_, ?_⟩
  · cases e; exact hq
  · have c1 : Chg (fun k => k = p ∨ m = some k) w w1 := Chg.of_below hb
    have c2 := c1.trans h2 (fun _ _ e => .inl e)
    have c3 := c2.trans (Chg.of_turned ht) (fun k hk e => by
      have e : k = q := e
      subst e
      rcases hq with e | e
      · exact .inr e
      · omega)
    exact c3.trans (chg_noted w3 p _ _ _) (fun _ _ e => .inl e)

set_option maxHeartbeats 4000000 in
set_option maxRecDepth 100000 in
theorem write_is {w : World} {p : Nat} {m : Option Nat} {last : Nat → Str} {T : Tr} (h : IsTree w 0 p m last T) (hg : Glob w) (hok : T.ok) (hch : T.ch.length ≤ 1000000) (x s : Str) :
    Calls Try.prog 15 #[.pointer (some ⟨p, 0, none⟩), strV x, strV s] w fun e w' => e = .returned (.int .i64 (T.write x s).2) ∧ TreePost w p m (T.write x s).1 w' := by
  have hsz : (bs s).size = s.length := rfl
  have H := Hid.mk h
  have Hp := Hid.mk h.lt
  have Hok := Hid.mk hok
  have hpi := Hid.mk (path_is x hg)
  have hq30 : ∀ (w : World) (r : Option Nat), (binOp .eql 30 (.map r) (.map none)).run Try.prog w = .ok (.bool r.isNone) w := fun w r => run_eql_map_nil w _ _ _ r Try.underlying30
  clear h hg hok
  go_enter Try.func15, Try.ntmps15
  go_wp2_with fail
  refine hpi.out.mono ?_
  rintro e w1 ⟨rfl, hb⟩
  have Hb := Hid.mk hb
  have H1 := Hid.mk (H.out.below hb)
  clear hb H hpi
  cases hp : isPath x with
  | false =>
    have hw := Hid.mk (show T.write x s = (T, 2) by simp [Tr.write, hp])
    clear hp
    go_wp2
    go_ret
    rw [hw.out]
    exact ⟨rfl, .of_below H1.out Hb.out⟩
  | true =>
    have hx : x.length ≤ 60 := by
      simp only [isPath, Bool.and_eq_true, decide_eq_true_eq] at hp
      exact hp.1
    have Hx := Hid.mk (show x.length ≤ maxLen by unfold maxLen; omega)
    by_cases hl : (4096 : Int) < s.length
    · have hw := Hid.mk (show T.write x s = (T, 3) by simp [Tr.write, hp, show 4096 < s.length by omega])
      clear hp
      go_wp2
      go_ret
      rw [hw.out]
      exact ⟨rfl, .of_below H1.out Hb.out⟩
    · have hwr := Hid.mk (show T.write x s = (match look T.fs x with
        | some v => if v = s then (T, 0) else (⟨put T.fs x s, T.ch ++ [x]⟩, 0)
        | none => if T.fs.length = 256 then (T, 8) else (⟨put T.fs x s, T.ch ++ [x]⟩, 0)) by unfold Tr.write; rw [if_pos hp, if_neg (show ¬ 4096 < s.length by omega)] <;> rfl)
      clear hp
      have hmap := H1.out.map
      have hlk := H1.out.look x Hx.out
      have hfr := H1.out.frozen 33
      have h256 := Hok.out.few
      -- the end of every way that writes
      have fin : (T.write x s = (⟨put T.fs x s, T.ch ++ [x]⟩, 0)) → ∀ (w2 : World) (q : Nat), IsTree w2 0 p (some q) last T → Chg (· = p) w1 w2 → (m = some q ∨ w.heap.size ≤ q) → ∃ w3, (Instr.mapUpdate 30 (.map (some q)) (strV x) (strV s)).run Try.prog w2 = .ok () w3 ∧
          Calls Try.prog 30 #[.pointer (some ⟨p, 0, none⟩), strV x] w3 fun e w' => (∃ v, e = .returned v) ∧ TreePost w p m (T.write x s).1 w' := by
        intro hw w2 q h2 hc hq
        obtain ⟨q', e, _, hmg⟩ : ∃ q', some q = some q' ∧ 0 ≤ q' ∧ MapG Try.prog 9 eS w2 q' T.fs.length (Go.Proofs.Ytejlekfnjhnklaa.look T.fs) := by
          rcases h2.files with ⟨h1, _⟩ | h1
          · cases h1
          · exact h1
        obtain rfl : q = q' := by simpa using e
        obtain ⟨w3, hr3, hm3, ht3⟩ := hmg.store Try.underlying9 Try.underlying30 (by unfold maxLen; omega) Hx.out s
        refine ⟨w3, hr3, ?_⟩
        have h3 := h2.stored Hok.out.rise x s hm3 ht3
        obtain ⟨c, hc3⟩ := h3.block
        refine (note_is T.ch.length x ⟨c, hc3⟩ (fun i hi => ⟨_, h3.ring i hi⟩) h3.n (by omega)).mono ?_
        rintro e w' ⟨⟨v, rfl⟩, rfl⟩
        refine ⟨⟨v, rfl⟩, ?_⟩
        rw [hw]
        exact tree_wrote x s h2 Hok.out.rise Hb.out Hp.out hc hq hm3 ht3
      have Fin := Hid.mk fin
      clear fin h256
      cases hk : look T.fs x with
      | some v =>
        rw [hk] at hlk
        have hlk2 : (Instr.lookup 30 (.map m) (strV x) true).run Try.prog w1 = .ok (.tuple #[strV v, .bool true]) w1 := hlk
        clear hlk
        by_cases hvs : v = s
        · subst hvs
          have hw := Hid.mk (show T.write x v = (T, 0) by rw [hwr.out, hk]; simp)
          clear hk hwr Fin
          go_wp2
          go_ret
          rw [hw.out]
          exact ⟨rfl, .of_below H1.out Hb.out⟩
        · have hw := Hid.mk (show T.write x s = (⟨put T.fs x s, T.ch ++ [x]⟩, 0) by rw [hwr.out, hk]; simp [hvs])
          have hne : (v == s) = false := by simpa using hvs
          obtain ⟨q, hmq⟩ : ∃ q, m = some q := by
            rcases H1.out.files with ⟨_, h1⟩ | ⟨q, h1, _⟩
            · rw [h1] at hk; cases hk
            · exact ⟨q, h1⟩
          subst hmq
          obtain ⟨w3, hr3, hcall⟩ := Fin.out hw.out w1 q H1.out (Chg.refl _ _) (.inl rfl)
          have Hcall := Hid.mk hcall
          clear hk hwr hvs hcall
          go_wp2_with fail
          refine Hcall.out.mono ?_
          rintro e w' ⟨⟨rv, rfl⟩, hpost⟩
          have Hpost := Hid.mk hpost
          clear hpost Hcall
          go_wp2
          go_ret
          refine ⟨?_, Hpost.out⟩
          rw [hw.out]
          rfl
      | none =>
        rw [hk] at hlk
        have hlk2 : (Instr.lookup 30 (.map m) (strV x) true).run Try.prog w1 = .ok (.tuple #[strV [], .bool false]) w1 := hlk
        clear hlk
        have hlen0 : ∀ q, m = some q → ∀ ty, (Builtin.len_ #[30] ty #[.map (some q)]).run Try.prog w1 = .ok (.int .i64 T.fs.length) w1 := fun q hq ty => by
          rcases H1.out.files with ⟨h1, _⟩ | ⟨q', h1, _, hmg⟩
          · rw [h1] at hq; cases hq
          · rw [h1] at hq
            cases hq
            have := hmg.len Try.underlying9 Try.underlying30 (keys_look Hok.out.rise) ty
            rwa [show (keys T.fs).length = T.fs.length by simp] at this
        cases m with
        | some q =>
          have hlen := hlen0 q rfl
          clear hlen0
          by_cases h256 : T.fs.length = 256
          · have hw := Hid.mk (show T.write x s = (T, 8) by rw [hwr.out, hk]; simp [h256])
            have hq : ((T.fs.length : Int) == 256) = true := by rw [h256]; rfl
            clear hk hwr h256 Fin
            go_wp2
            go_ret
            rw [hw.out]
            exact ⟨rfl, .of_below H1.out Hb.out⟩
          · have hw := Hid.mk (show T.write x s = (⟨put T.fs x s, T.ch ++ [x]⟩, 0) by rw [hwr.out, hk]; simp [h256])
            have hq : ((T.fs.length : Int) == 256) = false := by rw [beq_eq_false_iff_ne]; omega
            obtain ⟨w3, hr3, hcall⟩ := Fin.out hw.out w1 q H1.out (Chg.refl _ _) (.inl rfl)
            have Hcall := Hid.mk hcall
            clear hk hwr h256 hcall
            go_wp2_with fail
            refine Hcall.out.mono ?_
            rintro e w' ⟨⟨rv, rfl⟩, hpost⟩
            have Hpost := Hid.mk hpost
            clear hpost Hcall
            go_wp2
            go_ret
            refine ⟨?_, Hpost.out⟩
            rw [hw.out]
            rfl
        | none =>
          have hfs : T.fs = [] := by
            rcases H1.out.files with ⟨_, h1⟩ | ⟨q, h1, _⟩
            · exact h1
            · cases h1
          have hw := Hid.mk (show T.write x s = (⟨put T.fs x s, T.ch ++ [x]⟩, 0) by rw [hwr.out, hk]; simp [hfs])
          have hmm : ∀ wx, (Instr.makeMap 30 none).run Try.prog wx = .ok (.map (some wx.heap.size)) (wx.alloc (.map #[] 0)) := fun wx => run_makeMap (P := Try.prog) 30 wx
          have hpw1 := Nat.lt_of_lt_of_le Hp.out Hb.out.size
          obtain ⟨w3, hr3, hcall⟩ := Fin.out hw.out _ w1.heap.size H1.out.mapped (((Chg.of_set w1 ⟨p, 33, none⟩ (.map (some w1.heap.size))).trans (Chg.of_below ((Below.refl _ _).alloc (Nat.le_refl _) (.map #[] 0)) : Chg (· = p) _ _) (fun _ _ h => h))) (.inr Hb.out.size)
          have Hcall := Hid.mk hcall
          clear hk hwr hcall hfs hlen0
          go_wp2_with fail
          refine Hcall.out.mono ?_
          rintro e w' ⟨⟨rv, rfl⟩, hpost⟩
          have Hpost := Hid.mk hpost
          clear hpost Hcall
          go_wp2
          go_ret
          refine ⟨?_, Hpost.out⟩
          rw [hw.out]
          rfl

set_option maxHeartbeats 4000000 in
set_option maxRecDepth 100000 in
theorem remove_is {w : World} {p : Nat} {m : Option Nat} {last : Nat → Str} {T : Tr} (h : IsTree w 0 p m last T) (hg : Glob w) (hok : T.ok) (hch : T.ch.length ≤ 1000000) (x : Str) :
    Calls Try.prog 16 #[.pointer (some ⟨p, 0, none⟩), strV x] w fun e w' => e = .returned (.int .i64 (T.remove x).2) ∧ TreePost w p m (T.remove x).1 w' := by
  have H := Hid.mk h
  have Hp := Hid.mk h.lt
  have Hok := Hid.mk hok
  have hpi := Hid.mk (read_is h hg x)
  clear h hg hok
  go_enter Try.func16, Try.ntmps16
  go_wp2_with fail
  refine hpi.out.mono ?_
  rintro e w1 ⟨rfl, hb⟩
  have Hb := Hid.mk hb
  have H1 := Hid.mk (H.out.below hb)
  clear hb H hpi
  by_cases hz : (T.read x).2 = 0
  · obtain ⟨v, hk, hip⟩ : ∃ v, look T.fs x = some v ∧ isPath x = true := by
      unfold Tr.read at hz
      split at hz
      · rename_i hp
        cases hk : look T.fs x with
        | none => rw [hk] at hz; simp at hz
        | some v => exact ⟨v, rfl, hp⟩
      · simp at hz
    have hw := Hid.mk (show T.remove x = (⟨del T.fs x, T.ch ++ [x]⟩, 0) by simp [Tr.remove, hip, hk])
    have hx : x.length ≤ maxLen := by
      simp only [isPath, Bool.and_eq_true, decide_eq_true_eq] at hip
      unfold maxLen; omega
    have hq : ((T.read x).2 != 0) = false := by rw [hz]; rfl
    clear hip
    rw [hz]
    obtain ⟨q, hmq⟩ : ∃ q, m = some q := by
      rcases H1.out.files with ⟨_, h1⟩ | ⟨q, h1, _⟩
      · rw [h1] at hk; cases hk
      · exact ⟨q, h1⟩
    subst hmq
    obtain ⟨q', e, _, hmg⟩ : ∃ q', some q = some q' ∧ 0 ≤ q' ∧ MapG Try.prog 9 eS w1 q' T.fs.length (Go.Proofs.Ytejlekfnjhnklaa.look T.fs) := by
      rcases H1.out.files with ⟨h1, _⟩ | h1
      · cases h1
      · exact h1
    obtain rfl : q = q' := by simpa using e
    have hdel := fun ty => hmg.delete Try.underlying9 Try.underlying30 hx ty
    clear e hk hz hq hmg hx
    have hmap := H1.out.map
    obtain ⟨w2, hr2, hm2, ht2⟩ := hdel 0
    have h2 := H1.out.struck Hok.out.rise x hm2 ht2
    obtain ⟨c, hc2⟩ := h2.block
    have Hcall := Hid.mk ((note_is T.ch.length x ⟨c, hc2⟩ (fun i hi => ⟨_, h2.ring i hi⟩) h2.n (by omega)).mono (R' := fun e w' => (∃ v, e = .returned v) ∧ TreePost w p (some q) (T.remove x).1 w') (by
      rintro e w' ⟨⟨v, rfl⟩, rfl⟩
      refine ⟨⟨v, rfl⟩, ?_⟩
      rw [hw.out]
      refine ⟨some q, _, h2.noted x, fun _ h => .inl h, ?_⟩
      have c1 : Chg (fun k => k = p ∨ some q = some k) w w1 := Chg.of_below Hb.out
      have c3 := c1.trans (Chg.of_turned ht2) (fun k hk e => .inr (by rw [show k = q from e]))
      exact c3.trans (chg_noted w2 p _ _ _) (fun _ _ e => .inl e)))
    clear hdel hm2 ht2 h2 hc2
    go_wp2_with fail
    refine Hcall.out.mono ?_
    rintro e w' ⟨⟨rv, rfl⟩, hpost⟩
    have Hpost := Hid.mk hpost
    clear hpost Hcall
    go_wp2
    go_ret
    refine ⟨?_, Hpost.out⟩
    rw [hw.out]
    rfl
  · have hw := Hid.mk (show (T.remove x).1 = T ∧ (T.remove x).2 = (T.read x).2 from ⟨by
      unfold Tr.read at hz
      unfold Tr.remove
      split
      · rename_i hp
        rw [if_pos hp] at hz
        cases hk : look T.fs x with
        | none => rfl
        | some v => rw [hk] at hz; simp at hz
      · rfl, remove_read T x⟩)
    have hq : ((T.read x).2 != 0) = true := by rw [bne_iff_ne]; exact hz
    generalize (T.read x).2 = z at hq hw
    clear hz
    go_wp2
    go_ret
    rw [hw.out.1, hw.out.2]
    exact ⟨rfl, .of_below H1.out Hb.out⟩

end Go.Proofs.Ytejlekfnjhnklaa
