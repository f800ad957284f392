/-
  The document's tree in memory; At and Read, walked.
-/
import Derived.Test.YtejlekfnjhnklaaTreeP
import Derived.Test.YtejlekfnjhnklaaPairs
import Derived.Test.YtejlekfnjhnklaaRefPath
import Derived.Deep.QuietTactic
import Derived.BigQuiet
import Derived.WalkLawsBesides
import Derived.WalkSpells
namespace Go.Proofs.Ytejlekfnjhnklaa
open Go.RowKit Go.Maps

/-- What a call may have turned: the blocks S and new ones. -/
structure Chg (S : Nat → Prop) (w w' : World) : Prop where
  os : w'.os = w.os
  tape : w'.tape = w.tape
  output : w'.output = w.output
  size : w.heap.size ≤ w'.heap.size
  block : ∀ k, k < w.heap.size → ¬ S k → w'.heap[k]? = w.heap[k]?

theorem Chg.of_below {S : Nat → Prop} {w w' : World} (h : Below w.heap.size w w') : Chg S w w' := ⟨h.os, h.tape, h.output, h.size, fun k hk _ => h.block k hk⟩

theorem Chg.refl (S : Nat → Prop) (w : World) : Chg S w w := ⟨rfl, rfl, rfl, Nat.le_refl _, fun _ _ _ => rfl⟩
theorem Chg.trans {S S' : Nat → Prop} {a b c : World} (h : Chg S a b) (k : Chg S' b c) (hs : ∀ x, x < a.heap.size → S' x → S x) : Chg S a c :=
  ⟨k.os.trans h.os, k.tape.trans h.tape, k.output.trans h.output, Nat.le_trans h.size k.size, fun i hi hn => (k.block i (Nat.lt_of_lt_of_le hi h.size) (fun h' => hn (hs i hi h'))).trans (h.block i hi hn)⟩
theorem Chg.mono {S S' : Nat → Prop} {w w' : World} (h : Chg S w w') (hs : ∀ x, x < w.heap.size → S x → S' x) : Chg S' w w' :=
  ⟨h.os, h.tape, h.output, h.size, fun k hk hn => h.block k hk (fun h' => hn (hs k hk h'))⟩
theorem Chg.of_turned {b : Nat} {w w' : World} (h : w.mapTurned w' b) : Chg (· = b) w w' :=
  ⟨h.grown.os, h.grown.tape, h.grown.output, h.grown.size, fun k hk hn => h.grown.block k hk (by simpa using hn)⟩
theorem Chg.of_set (w : World) (a : Addr) (v : Value) : Chg (· = a.block) w (w.setCell a v) :=
  ⟨rfl, rfl, rfl, by simp [World.setCell], fun k _ hn => Below.heap_setCell _ _ _ _ hn⟩
theorem Chg.drew {S : Nat → Prop} {w w' : World} (h : Chg S w w') : Chg S w w'.drew := ⟨h.os, h.tape, h.output, h.size, h.block⟩
theorem Chg.below {S : Nat → Prop} {w w' : World} (h : Chg S w w') (hs : ∀ k, k < w.heap.size → ¬ S k) : Below w.heap.size w w' := ⟨h.os, h.tape, h.output, h.size, fun k hk => h.block k hk (hs k hk)⟩

/-- The document's tree, in block r. -/
structure IsRef (w : World) (b r : Nat) (vf vc : Value) (T : Tr) : Prop where
  here : b ≤ r
  cells : w.heap[r]? = some (.cells #[vf, vc] 37 (0, 0))
  files : OwnPairs 62 w b vf T.fs
  chs : OwnStrs w b vc T.ch

theorem IsRef.cell0 {w : World} {b r : Nat} {vf vc : Value} {T : Tr} (h : IsRef w b r vf vc T) : w.cell? ⟨r, 0, none⟩ = some vf := by simp [World.cell?, h.cells]
theorem IsRef.cell1 {w : World} {b r : Nat} {vf vc : Value} {T : Tr} (h : IsRef w b r vf vc T) : w.cell? ⟨r, 1, none⟩ = some vc := by simp [World.cell?, h.cells]

theorem IsRef.below {w w' : World} {b r : Nat} {vf vc : Value} {T : Tr} (h : IsRef w b r vf vc T) (hb : Below w.heap.size w w') : IsRef w' b r vf vc T :=
  ⟨h.here, (hb.block _ (Array.getElem?_eq_some_iff.1 h.cells).1).trans h.cells, h.files.below hb, h.chs.below hb⟩

theorem infoFile : (Try.prog.info? 62).map (fun i => (i.zero, i.size, i.bytes)) = some (some (.agg #[.string ByteArray.empty, .string ByteArray.empty]), 2, 32) := by kernel_rfl

/-- A file's place: the first that is not below. -/
theorem pos_step {fs : FileL} {p : Str} {i : Nat} (hi : i < fs.length) (hb : ∀ j (h : j < fs.length), j < i → fs[j].1 < p) (hn : ¬ fs[i].1 < p) : pos fs p = i := by
  unfold pos
  have h1 : fs = fs.take i ++ fs.drop i := (List.take_append_drop i fs).symm
  conv => lhs; rw [h1]
  rw [List.takeWhile_append_of_pos (fun a ha => by
    obtain ⟨j, hj, e⟩ := List.getElem_of_mem ha
    rw [List.length_take] at hj
    rw [List.getElem_take] at e
    have := hb j (by omega) (by omega)
    rw [e] at this
    simpa using this)]
  rw [List.drop_eq_getElem_cons hi, List.takeWhile_cons]
  simp [hn]
  omega

theorem pos_end {fs : FileL} {p : Str} (hb : ∀ j (h : j < fs.length), fs[j].1 < p) : pos fs p = fs.length := by
  unfold pos
  have h1 := List.takeWhile_append_of_pos (p := fun f : Str × Str => decide (f.1 < p)) (l₁ := fs) (l₂ := []) (fun a ha => by
    obtain ⟨j, hj, e⟩ := List.getElem_of_mem ha
    have := hb j hj
    rw [e] at this
    simpa using this)
  simp only [List.append_nil, List.takeWhile_nil] at h1
  rw [h1]

def hitB (fs : FileL) (p : Str) : Bool := (look fs p).isSome

set_option maxHeartbeats 2000000 in
set_option maxRecDepth 100000 in
theorem at_is {w : World} {b r : Nat} {vf vc : Value} {T : Tr} (h : IsRef w b r vf vc T) (hr : Rising (keys T.fs)) (hlen : T.fs.length ≤ 1048576) (p : Str) :
    Calls Try.prog 39 #[.pointer (some ⟨r, 0, none⟩), strV p] w fun e w' => e = .returned (.tuple #[.int .i64 (pos T.fs p), .bool (hitB T.fs p)]) ∧ Below w.heap.size w w' := by
  have c0 := h.cell0
  obtain ⟨af, capf, rfl, hcap, hf⟩ := h.files.is
  have Hf := Hid.mk hf
  have Hr := Hid.mk hr
  clear h hf hr
  generalize T.fs = fs at *
  go_enter Try.func39, Try.ntmps39
  go_wp2
  go_loopg [6] fs.length (fun g iv wr => ∃ i : Nat, i + g = fs.length ∧ iv = .int .i64 i ∧ Hid (∀ j (h : j < fs.length), j < i → fs[j].1 < p) ∧ w = wr)
  case atStart => exact ⟨0, by omega, rfl, ⟨fun j _ hj => by omega⟩, rfl⟩
  case round =>
    obtain ⟨i, hig, rfl, hlow, rfl⟩ := hrel
    cases gk with
    | zero =>
      obtain rfl : i = fs.length := by omega
      have hpos := Hid.mk (pos_end (fs := fs) (p := p) fun j h => hlow.out j h h)
      have hmiss := Hid.mk (show hitB fs p = false by
        unfold hitB
        rw [look_none.2]
        · rfl
        · intro hm
          obtain ⟨f, hf, e⟩ := List.mem_map.1 hm
          obtain ⟨j, hj, e2⟩ := List.getElem_of_mem hf
          have := hlow.out j hj hj
          rw [e2, e] at this
          exact str_lt_irrefl _ this)
      clear hlow
      go_wp2
      go_quiet (fail)
      go_wp2
      go_ret2
      rw [hpos.out, hmiss.out]
      exact ⟨rfl, drewN_below _ _⟩
    | succ g =>
      have hlt : i < fs.length := by omega
      obtain ⟨gf, off, rfl, hgf, hc⟩ : ∃ gf off, af = some ⟨gf, off, none⟩ ∧ gf < w.heap.size ∧ ∀ i (h : i < fs.length), w.cell? ⟨gf, off + i * 2, none⟩ = some (strV fs[i].1) ∧ w.cell? ⟨gf, off + i * 2 + 1, none⟩ = some (strV fs[i].2) := by
        rcases Hf.out with e | h
        · rw [e] at hlt; simp at hlt
        · exact h
      have hci := (hc i hlt).1
      have hstep := Hid.mk (fun (h : fs[i].1 < p) j (hj : j < fs.length) (hji : j < i + 1) => show fs[j].1 < p by
        by_cases e : j = i
        · subst e; exact h
        · exact hlow.out j hj (by omega))
      have hfin := Hid.mk (fun h => pos_step (p := p) hlt (fun j hj hji => hlow.out j hj hji) h)
      have heq := Hid.mk (fun (h : fs[i].1 = p) => show hitB fs p = true by
        unfold hitB
        rw [(look_some Hr.out).2 (show (p, fs[i].2) ∈ fs by rw [← h]; exact List.getElem_mem hlt)]
        rfl)
      have hneq := Hid.mk (fun (h : ¬ fs[i].1 < p) (h2 : ¬ fs[i].1 = p) => show hitB fs p = false by
        unfold hitB
        have hpos := pos_step (p := p) hlt (fun j hj hji => hlow.out j hj hji) h
        cases hk : look fs p with
        | none => rfl
        | some v =>
          obtain ⟨hl, e⟩ := at_hit Hr.out p hk
          simp only [hpos] at e
          exact absurd (by rw [e]) h2)
      generalize fs[i].1 = x at hci hstep hfin heq hneq
      clear hc hlow
      by_cases hx : x < p
      · have hb : Op.bytesLess x p = true := by rw [bytesLess_eq]; simp [hx]
        have hn := Hid.mk (hstep.out hx)
        clear hstep hfin heq hneq hx
        go_wp2
        go_roundg g
        case measure => omega
        case rel => exact ⟨i + 1, by omega, by go_num, hn, rfl⟩
      · have hb : Op.bytesLess x p = false := by rw [bytesLess_eq]; simp [hx]
        have hp := Hid.mk (hfin.out hx)
        by_cases hxe : x = p
        · subst hxe
          have hh := Hid.mk (heq.out rfl)
          clear hstep hfin heq hneq hx
          go_wp2
          go_quiet (fail)
          go_wp2
          go_ret2
          rw [hp.out, hh.out]
          exact ⟨rfl, drewN_below _ _⟩
        · have hh := Hid.mk (hneq.out hx hxe)
          have hne : (x == p) = false := by simpa using hxe
          clear hstep hfin heq hneq hx hxe
          go_wp2
          go_quiet (fail)
          go_wp2
          go_ret2
          rw [hp.out, hh.out]
          exact ⟨rfl, drewN_below _ _⟩

def Tr.read (T : Tr) (p : Str) : Str × Int := if isPath p then (match look T.fs p with | some s => (s, 0) | none => ([], 4)) else ([], 2)

set_option maxHeartbeats 2000000 in
set_option maxRecDepth 100000 in
theorem refRead_is {w : World} {b r : Nat} {vf vc : Value} {T : Tr} (h : IsRef w b r vf vc T) (hr : Rising (keys T.fs)) (hlen : T.fs.length ≤ 1048576) (p : Str) :
    Calls Try.prog 27 #[.pointer (some ⟨r, 0, none⟩), strV p] w fun e w' => e = .returned (.tuple #[strV (T.read p).1, .int .i64 (T.read p).2]) ∧ Below w.heap.size w w' := by
  have H := Hid.mk h
  have Hr := Hid.mk hr
  clear h hr
  go_enter Try.func27, Try.ntmps27
  go_wp2_with fail
  refine (refIs_is p w).mono ?_
  rintro e w1 ⟨rfl, hb⟩
  have Hb := Hid.mk hb
  have H1 := Hid.mk (H.out.below hb)
  clear hb H
  cases hp : isPath p with
  | false =>
    have hfin := Hid.mk (show T.read p = ([], 2) by simp [Tr.read, hp])
    clear hp
    go_wp2
    go_ret2
    rw [hfin.out]
    exact ⟨rfl, Hb.out⟩
  | true =>
    have hread := Hid.mk (show T.read p = (match look T.fs p with | some s => (s, 0) | none => ([], 4)) by simp [Tr.read, hp])
    clear hp
    go_wp2_with fail
    refine (at_is H1.out Hr.out hlen p).mono ?_
    rintro e w2 ⟨rfl, hb⟩
    have Hb2 := Hid.mk (Hb.out.trans (hb.mono Hb.out.size))
    have H2 := Hid.mk (H1.out.below hb)
    clear hb H1 Hb
    cases hk : look T.fs p with
    | none =>
      have hh : hitB T.fs p = false := by simp [hitB, hk]
      have hfin := Hid.mk (show T.read p = ([], 4) by rw [hread.out, hk])
      clear hk hread
      go_wp2
      go_ret2
      rw [hfin.out]
      exact ⟨rfl, Hb2.out⟩
    | some s =>
      have hh : hitB T.fs p = true := by simp [hitB, hk]
      have hfin := Hid.mk (show T.read p = (s, 0) by rw [hread.out, hk])
      obtain ⟨hl, he⟩ := at_hit Hr.out p hk
      have c0 := H2.out.cell0
      obtain ⟨af, capf, hvf, _, hf⟩ := H2.out.files.is
      subst hvf
      obtain ⟨gf, off, rfl, _, hc⟩ : ∃ gf off, af = some ⟨gf, off, none⟩ ∧ gf < w2.heap.size ∧ ∀ i (h : i < T.fs.length), w2.cell? ⟨gf, off + i * 2, none⟩ = some (strV T.fs[i].1) ∧ w2.cell? ⟨gf, off + i * 2 + 1, none⟩ = some (strV T.fs[i].2) := by
        rcases hf with e | h
        · rw [e] at hl; simp at hl
        · exact h
      have hci := (hc _ hl).2
      simp only [he] at hci
      clear hc he hf hk hread
      generalize pos T.fs p = i at hl hci
      go_wp2
      go_ret2
      rw [hfin.out]
      exact ⟨rfl, Hb2.out⟩

theorem ownsRow_same {w w' : World} {b : Nat} {e : TypeId} {sz : Nat} {v : Value} {n : Nat} {xs : List Value} (h : w.ownsRow b e sz v n xs) (hs : ∀ k, v.ownBlock = some k → w'.heap[k]? = w.heap[k]?) : w'.ownsRow b e sz v n xs := by
  obtain ⟨h1, h2 | ⟨g, cap, cur, hv, hg, hc, h3⟩⟩ := h
  · exact ⟨h1, .inl h2⟩
  · exact ⟨h1, .inr ⟨g, cap, cur, hv, hg, (hs g (by rw [hv]; rfl)).trans hc, h3⟩⟩

theorem ownsRow_type {w : World} {b : Nat} {e : TypeId} {sz : Nat} {v : Value} {n : Nat} {xs : List Value} (h : w.ownsRow b e sz v n xs) {k : Nat} (hk : v.ownBlock = some k) : b ≤ k ∧ ∃ c, w.heap[k]? = some (.cells c e (0, 0)) := by
  obtain ⟨h1, ⟨rfl, _⟩ | ⟨g, cap, cur, rfl, hg0, hc, h3⟩⟩ := h
  · cases hk
  · simp only [Value.ownBlock, Option.some.injEq] at hk
    subst hk
    exact ⟨hg0, _, hc⟩

theorem heap_setCell_same {w : World} {r i : Nat} {u : Value} {c : Array Value} {t : TypeId} {f : Nat × Nat} (h : w.heap[r]? = some (.cells c t f)) : (w.setCell ⟨r, i, none⟩ u).heap[r]? = some (.cells (c.setIfInBounds i u) t f) := by
  simp [World.setCell, Array.getElem?_modify, h]

/-- What a call that may write has made of the document's tree. -/
def RefPost (w : World) (r : Nat) (vf vc : Value) (T' : Tr) (w' : World) : Prop :=
  ∃ vf' vc', IsRef w' 0 r vf' vc' T' ∧ (∀ k, vf'.ownBlock = some k → vf.ownBlock = some k ∨ w.heap.size ≤ k) ∧ (∀ k, vc'.ownBlock = some k → vc.ownBlock = some k ∨ w.heap.size ≤ k) ∧ Chg (fun k => k = r ∨ vc.ownBlock = some k) w w'

theorem RefPost.of_below {w w' : World} {r : Nat} {vf vc : Value} {T : Tr} (h : IsRef w' 0 r vf vc T) (hb : Below w.heap.size w w') : RefPost w r vf vc T w' := ⟨vf, vc, h, fun _ h => .inl h, fun _ h => .inl h, Chg.of_below hb⟩

def Tr.write (T : Tr) (p s : Str) : Tr × Int :=
  if isPath p then (if 4096 < s.length then (T, 3) else match look T.fs p with
    | some v => if v = s then (T, 0) else (⟨put T.fs p s, T.ch ++ [p]⟩, 0)
    | none => if T.fs.length = 256 then (T, 8) else (⟨put T.fs p s, T.ch ++ [p]⟩, 0)) else (T, 2)

/-- The two stores that end a call: first the files, then the changes. -/
theorem ref_stored {w w5 w7 : World} {r : Nat} {vf vc vd : Value} {T : Tr} {fs' : FileL} {p : Str} {gc nc cc : Nat} (h : IsRef w5 0 r vf vc T) (hb5 : Below w.heap.size w w5) (hd : OwnPairs 62 w5 w.heap.size vd fs')
    (hc : OwnStrs w7 0 (.slice (some ⟨gc, 0, none⟩) nc cc) (T.ch ++ [p])) (hg : ((w5.setCell ⟨r, 0, none⟩ vd).alloc (.cells #[strV p] 9)).grownBy w7 vc.ownBlock) (hl : vc.ownBlock = some gc ∨ w5.heap.size ≤ gc) :
    w7.heap[r]? = some (.cells #[vd, vc] 37 (0, 0)) ∧ RefPost w r vf vc ⟨fs', T.ch ++ [p]⟩ (w7.setCell ⟨r, 1, none⟩ (.slice (some ⟨gc, 0, none⟩) nc cc)) := by
  have hrlt := (Array.getElem?_eq_some_iff.1 h.cells).1
  have hs6 : (w5.setCell ⟨r, 0, none⟩ vd).heap.size = w5.heap.size := by simp [World.setCell]
  have hvc : vc.ownBlock ≠ some r := fun e => by
    obtain ⟨_, c, hc⟩ := ownsRow_type h.chs e
    rw [h.cells] at hc
    simp at hc
  -- a block other than r and vc's
  have keep : ∀ k, k < w5.heap.size → k ≠ r → vc.ownBlock ≠ some k → (w7.setCell ⟨r, 1, none⟩ (.slice (some ⟨gc, 0, none⟩) nc cc)).heap[k]? = w5.heap[k]? := fun k hk hkr hkc => by
    rw [Below.heap_setCell _ _ _ _ hkr, hg.block k (by rw [World.size_alloc, hs6]; omega) (fun e => hkc e.symm), Below.heap_alloc _ _ _ (by rw [hs6]; exact hk), Below.heap_setCell _ _ _ _ hkr]
  have h7 : w7.heap[r]? = some (.cells #[vd, vc] 37 (0, 0)) := by
    rw [hg.block r (by rw [World.size_alloc, hs6]; omega) (fun e => hvc e.symm), Below.heap_alloc _ _ _ (by rw [hs6]; exact hrlt), heap_setCell_same h.cells]
    rfl
  refine ⟨h7, vd, .slice (some ⟨gc, 0, none⟩) nc cc, ⟨h.here, ?_, ?_, ?_⟩, fun k hk => .inr (ownsRow_type hd hk).1, fun k hk => ?_, ?_⟩
  · rw [heap_setCell_same h7]; rfl
  · refine ownsRow_same (hd.base (Nat.zero_le _)) fun k hk => ?_
    obtain ⟨_, c, hck⟩ := ownsRow_type hd hk
    refine keep k (Array.getElem?_eq_some_iff.1 hck).1 (fun e => ?_) (fun e => ?_)
    · subst e; rw [h.cells] at hck; simp at hck
    · obtain ⟨_, c2, hc2⟩ := ownsRow_type h.chs e
      rw [hck] at hc2; simp at hc2
  · refine ownsRow_same hc fun k hk => Below.heap_setCell _ _ _ _ (fun e => ?_)
    obtain ⟨_, c, hck⟩ := ownsRow_type hc hk
    have e2 : k = r := e
    subst e2; rw [h7] at hck; simp at hck
  · simp only [Value.ownBlock, Option.some.injEq] at hk
    subst hk
    rcases hl with h | h
    · exact .inl h
    · exact .inr (Nat.le_trans hb5.size h)
  · have hos := hg.os
    have htp := hg.tape
    have hou := hg.output
    have hsz := hg.size
    rw [World.size_alloc, hs6] at hsz
    refine ⟨hos.trans hb5.os, htp.trans hb5.tape, hou.trans hb5.output, ?_, fun k hk hS => ?_⟩
    · have := hb5.size
      simp only [World.setCell, Array.size_modify]
      omega
    · have hk5 : k < w5.heap.size := Nat.lt_of_lt_of_le hk hb5.size
      rw [keep k hk5 (fun e => hS (.inl e)) (fun e => hS (.inr e)), hb5.block k hk]

/-- All runs by which the files turn to 'the first i, then m, then those from j on', and the changes get p. -/
theorem ref_turn {w w2 : World} {r : Nat} {vf vc : Value} {T : Tr} (h : IsRef w2 0 r vf vc T) (hb2 : Below w.heap.size w w2) (hlen : T.fs.length ≤ 100000) (hch : T.ch.length ≤ 1000000) (p s : Str) (i j : Nat) (hi : i ≤ T.fs.length) (hj : j ≤ T.fs.length) :
    ∃ (v1 va : Value) (w3 : World) (vb : Value) (w4 : World) (v5 : Value) (ad : Option Addr) (nd cd : Nat) (w5 : World) (gc cc : Nat) (w7 : World),
      (Instr.slice 34 vf none (some (.int .i64 i)) none).run Try.prog w2 = .ok v1 w2 ∧
      (Builtin.append_ #[34, 34] 34 #[.slice none 0 0, v1]).run Try.prog w2 = .ok va w3 ∧
      (Builtin.append_ #[34, 34] 34 #[va, .slice (some ⟨w3.heap.size, 0, none⟩) 1 1]).run Try.prog (w3.alloc (.cells #[strV p, strV s] 62)) = .ok vb w4 ∧
      w4.cell? ⟨r, 0, none⟩ = some vf ∧
      (Instr.slice 34 vf (some (.int .i64 j)) none none).run Try.prog w4 = .ok v5 w4 ∧
      (Builtin.append_ #[34, 34] 34 #[vb, v5]).run Try.prog w4 = .ok (.slice ad nd cd) w5 ∧
      w5.cell? ⟨r, 0, none⟩ = some vf ∧ w5.frozen? ⟨r, 0, none⟩ = false ∧ (w5.setCell ⟨r, 0, none⟩ (.slice ad nd cd)).cell? ⟨r, 1, none⟩ = some vc ∧
      (Builtin.append_ #[35, 35] 35 #[vc, .slice (some ⟨w5.heap.size, 0, none⟩) 1 1]).run Try.prog ((w5.setCell ⟨r, 0, none⟩ (.slice ad nd cd)).alloc (.cells #[strV p] 9)) = .ok (.slice (some ⟨gc, 0, none⟩) (T.ch.length + 1) cc) w7 ∧
      w7.cell? ⟨r, 1, none⟩ = some vc ∧ w7.frozen? ⟨r, 1, none⟩ = false ∧
      RefPost w r vf vc ⟨T.fs.take i ++ [(p, s)] ++ T.fs.drop j, T.ch ++ [p]⟩ (w7.setCell ⟨r, 1, none⟩ (.slice (some ⟨gc, 0, none⟩) (T.ch.length + 1) cc)) := by
  have hfi := h.files.is
  obtain ⟨v1, hr1, hv1⟩ := run_slice_hi Try.underlying34 infoFile hfi i hi
  obtain ⟨va, w3, hr2, hown2, hg2, _⟩ := run_appPs Try.underlying34 infoFile w2 w2.heap.size (.slice none 0 0) v1 [] _ (OwnPairs.nil _ _ _) hv1 (by simp; omega) (Nat.le_refl _)
  have hb3 : Below w2.heap.size w2 w3 := below_appP (e := 62) (Below.refl _ _) (OwnPairs.nil _ _ _) (Nat.le_refl _) hg2
  obtain ⟨vb, w4, hr3, hown3, hg3, _⟩ := run_appPs Try.underlying34 infoFile (w3.alloc (.cells #[strV p, strV s] 62)) w2.heap.size va _ _ [(p, s)] (World.ownsRow.alloc hown2 _) (one_pair _ _ p s) (by simp; omega) (by rw [World.size_alloc]; have := hb3.size; omega)
  have hb4 : Below w2.heap.size w2 w4 := below_appP (e := 62) (hb3.alloc hb3.size _) (World.ownsRow.alloc hown2 _) (Nat.le_refl _) hg3
  obtain ⟨v5, hr5, hv5⟩ := run_slice_lo Try.underlying34 infoFile (hfi.below hb4) j hj
  obtain ⟨vd, w5, hr6, hown5, hg5, _⟩ := run_appPs Try.underlying34 infoFile w4 w2.heap.size vb v5 _ _ hown3 hv5 (by simp; omega) hb4.size
  have hb5 : Below w2.heap.size w2 w5 := below_appP (e := 62) hb4 hown3 (Nat.le_refl _) hg5
  have hownd : OwnPairs 62 w5 w.heap.size vd (T.fs.take i ++ [(p, s)] ++ T.fs.drop j) := by
    have := hown5.base (b' := w.heap.size) hb2.size
    simpa using this
  obtain ⟨ad, cd, hvd, _⟩ := hownd.is
  generalize hnd : (T.fs.take i ++ [(p, s)] ++ T.fs.drop j).length = nd at hvd
  subst hvd
  have h5 := h.below hb5
  have hs6 : (w5.setCell ⟨r, 0, none⟩ (.slice ad nd cd)).heap.size = w5.heap.size := by simp [World.setCell]
  have hvcr : ∀ k, vc.ownBlock = some k → k ≠ r := fun k hk e => by
    obtain ⟨_, c, hc⟩ := ownsRow_type h5.chs hk
    rw [e, h5.cells] at hc; simp at hc
  have hch6 : OwnStrs (w5.setCell ⟨r, 0, none⟩ (.slice ad nd cd)) 0 vc T.ch := ownsRow_same h5.chs fun k hk => Below.heap_setCell _ _ _ _ (hvcr k hk)
  obtain ⟨gc, cc, w7, hr7, hown7, hg7, hl7⟩ := run_appS (w5.setCell ⟨r, 0, none⟩ (.slice ad nd cd)) 0 vc T.ch hch6 p (by omega) (Nat.zero_le _)
  rw [hs6] at hr7 hl7
  obtain ⟨h7, hpost⟩ := ref_stored h5 (hb2.trans (hb5.mono hb2.size)) hownd hown7 hg7 hl7
  have h4 := h.below hb4
  refine ⟨v1, va, w3, vb, w4, v5, ad, nd, cd, w5, gc, cc, w7, hr1, hr2, hr3, h4.cell0, hr5, hr6, h5.cell0, by simp [World.frozen?, h5.cells], ?_, hr7, by simp [World.cell?, h7], by simp [World.frozen?, h7], hpost⟩
  simp only [World.cell?]
  rw [heap_setCell_same h5.cells]
  rfl

set_option maxHeartbeats 8000000 in
set_option maxRecDepth 100000 in
/-- The part of Write that turns the tree: i: the place; j: where the rest begins. -/
theorem refWrite_is {w : World} {r : Nat} {vf vc : Value} {T : Tr} (h : IsRef w 0 r vf vc T) (hr : Rising (keys T.fs)) (hlen : T.fs.length ≤ 100000) (hch : T.ch.length ≤ 1000000) (p s : Str) :
    Calls Try.prog 25 #[.pointer (some ⟨r, 0, none⟩), strV p, strV s] w fun e w' => e = .returned (.int .i64 (T.write p s).2) ∧ RefPost w r vf vc (T.write p s).1 w' := by
  have hsz : (bs s).size = s.length := rfl
  have H := Hid.mk h
  have Hr := Hid.mk hr
  clear h hr
  go_enter Try.func25, Try.ntmps25
  go_wp2_with fail
  refine (refIs_is p w).mono ?_
  rintro e w1 ⟨rfl, hb⟩
  have Hb := Hid.mk hb
  have H1 := Hid.mk (H.out.below hb)
  clear hb H
  cases hp : isPath p with
  | false =>
    have hw := Hid.mk (show T.write p s = (T, 2) by simp [Tr.write, hp])
    clear hp
    go_wp2
    go_ret
    rw [hw.out]
    exact ⟨rfl, .of_below H1.out Hb.out⟩
  | true =>
    by_cases hl : (4096 : Int) < s.length
    · have hw := Hid.mk (show T.write p s = (T, 3) by simp [Tr.write, hp, show 4096 < s.length by omega])
      clear hp
      go_wp2
      go_ret
      rw [hw.out]
      exact ⟨rfl, .of_below H1.out Hb.out⟩
    · have hwr := Hid.mk (show T.write p s = (match look T.fs p with
        | some v => if v = s then (T, 0) else (⟨put T.fs p s, T.ch ++ [p]⟩, 0)
        | none => if T.fs.length = 256 then (T, 8) else (⟨put T.fs p s, T.ch ++ [p]⟩, 0)) by simp [Tr.write, hp, show ¬ 4096 < s.length by omega])
      clear hp
      go_wp2_with fail
      refine (at_is H1.out Hr.out (by omega) p).mono ?_
      rintro e w2 ⟨rfl, hb⟩
      have Hb2 := Hid.mk (Hb.out.trans (hb.mono Hb.out.size))
      have H2 := Hid.mk (H1.out.below hb)
      clear hb H1 Hb
      have hple := pos_le T.fs p
      have c0 := H2.out.cell0
      have c1 := H2.out.cell1
      have hfl : w2.frozen? ⟨r, 0, none⟩ = false := by simp [World.frozen?, H2.out.cells]
      cases hk : look T.fs p with
      | some v =>
        have hh : hitB T.fs p = true := by simp [hitB, hk]
        obtain ⟨hlt, he⟩ := at_hit Hr.out p hk
        have hph := Hid.mk (put_hit Hr.out p s hk)
        have hfi := H2.out.files.is
        obtain ⟨af, capf, rfl, hcapf, hf⟩ := id hfi
        obtain ⟨gf, off, rfl, _, hc⟩ : ∃ gf off, af = some ⟨gf, off, none⟩ ∧ gf < w2.heap.size ∧ ∀ i (h : i < T.fs.length), w2.cell? ⟨gf, off + i * 2, none⟩ = some (strV T.fs[i].1) ∧ w2.cell? ⟨gf, off + i * 2 + 1, none⟩ = some (strV T.fs[i].2) := by
          rcases hf with e | h
          · rw [e] at hlt; simp at hlt
          · exact h
        have hci := (hc _ hlt).2
        simp only [he] at hci
        by_cases hvs : v = s
        · subst hvs
          have hw := Hid.mk (show T.write p v = (T, 0) by rw [hwr.out, hk]; simp)
          clear hc he hf hk hph hfi
          generalize pos T.fs p = i at hlt hci hple
          go_wp2
          go_ret
          rw [hw.out]
          exact ⟨rfl, .of_below H2.out Hb2.out⟩
        · have hw := Hid.mk (show T.write p s = (⟨put T.fs p s, T.ch ++ [p]⟩, 0) by rw [hwr.out, hk]; simp [hvs])
          have hne : (v == s) = false := by simpa using hvs
          have hput := put_hit Hr.out p s hk
          obtain ⟨v1, va, w3, vb, w4, v5, ad, nd, cd, w5, gc, cc, w7, hr1, hr2, hr3, d4, hr5, hr6, d5, z5, d6, hr7, d7, z7, hpost⟩ := ref_turn H2.out Hb2.out hlen hch p s (pos T.fs p) (pos T.fs p + 1) (by omega) (by omega)
          rw [hput] at hpost
          have Hpost := Hid.mk hpost
          clear hpost hput hc he hf hk hfi hwr hvs hfl
          generalize pos T.fs p = i at hlt hci hple hr1 hr5
          rw [show ((i + 1 : Nat) : Int) = (i : Int) + 1 from by omega] at hr5
          go_wp2_with (at_builtin; first | refine wpList_append_run rfl _ _ _ rfl rfl rfl rfl hr2 ?_ | refine wpList_append_run rfl _ _ _ rfl rfl rfl rfl hr3 ?_ | refine wpList_append_run rfl _ _ _ rfl rfl rfl rfl hr6 ?_ | refine wpList_append_run rfl _ _ _ rfl rfl rfl rfl hr7 ?_)
          go_ret
          rw [hw.out]
          exact ⟨rfl, Hpost.out⟩
      | none =>
        have hh : hitB T.fs p = false := by simp [hitB, hk]
        have hput := put_miss Hr.out p s hk
        obtain ⟨af, capf, rfl, hcapf, _⟩ := H2.out.files.is
        by_cases h256 : T.fs.length = 256
        · have hw := Hid.mk (show T.write p s = (T, 8) by rw [hwr.out, hk]; simp [h256])
          have hq : ((T.fs.length : Int) == 256) = true := by rw [h256]; rfl
          clear hk hwr hput hfl h256
          generalize pos T.fs p = i at hple
          go_wp2
          go_ret
          rw [hw.out]
          exact ⟨rfl, .of_below H2.out Hb2.out⟩
        · have hw := Hid.mk (show T.write p s = (⟨put T.fs p s, T.ch ++ [p]⟩, 0) by rw [hwr.out, hk]; simp [h256])
          have hq : ((T.fs.length : Int) == 256) = false := by rw [beq_eq_false_iff_ne]; omega
          obtain ⟨v1, va, w3, vb, w4, v5, ad, nd, cd, w5, gc, cc, w7, hr1, hr2, hr3, d4, hr5, hr6, d5, z5, d6, hr7, d7, z7, hpost⟩ := ref_turn H2.out Hb2.out hlen hch p s (pos T.fs p) (pos T.fs p) (by omega) (by omega)
          rw [hput] at hpost
          have Hpost := Hid.mk hpost
          clear hpost hput hk hwr hfl h256
          generalize pos T.fs p = i at hple hr1 hr5
          go_wp2_with (at_builtin; first | refine wpList_append_run rfl _ _ _ rfl rfl rfl rfl hr2 ?_ | refine wpList_append_run rfl _ _ _ rfl rfl rfl rfl hr3 ?_ | refine wpList_append_run rfl _ _ _ rfl rfl rfl rfl hr6 ?_ | refine wpList_append_run rfl _ _ _ rfl rfl rfl rfl hr7 ?_)
          go_ret
          rw [hw.out]
          exact ⟨rfl, Hpost.out⟩

end Go.Proofs.Ytejlekfnjhnklaa
