/-
  The document's tree: Remove and List, walked.
-/
import Derived.Test.YtejlekfnjhnklaaRefTree
namespace Go.Proofs.Ytejlekfnjhnklaa
open Go.RowKit Go.Maps

/-- All runs by which the files turn to 'the first i, then those from j on', and the changes get p. -/
theorem ref_cut {w w2 : World} {r : Nat} {vf vc : Value} {T : Tr} (h : IsRef w2 0 r vf vc T) (hb2 : Below w.heap.size w w2) (hlen : T.fs.length ≤ 100000) (hch : T.ch.length ≤ 1000000) (p : Str) (i j : Nat) (hi : i ≤ T.fs.length) (hj : j ≤ T.fs.length) :
    ∃ (v1 va : Value) (w3 : World) (v5 : Value) (ad : Option Addr) (nd cd : Nat) (w5 : World) (gc cc : Nat) (w7 : World),
      (Instr.slice 34 vf none (some (.int .i64 i)) none).run Try.prog w2 = .ok v1 w2 ∧
      (Builtin.append_ #[34, 34] 34 #[.slice none 0 0, v1]).run Try.prog w2 = .ok va w3 ∧
      w3.cell? ⟨r, 0, none⟩ = some vf ∧
      (Instr.slice 34 vf (some (.int .i64 j)) none none).run Try.prog w3 = .ok v5 w3 ∧
      (Builtin.append_ #[34, 34] 34 #[va, v5]).run Try.prog w3 = .ok (.slice ad nd cd) w5 ∧
      w5.cell? ⟨r, 0, none⟩ = some vf ∧ w5.frozen? ⟨r, 0, none⟩ = false ∧ (w5.setCell ⟨r, 0, none⟩ (.slice ad nd cd)).cell? ⟨r, 1, none⟩ = some vc ∧
      (Builtin.append_ #[35, 35] 35 #[vc, .slice (some ⟨w5.heap.size, 0, none⟩) 1 1]).run Try.prog ((w5.setCell ⟨r, 0, none⟩ (.slice ad nd cd)).alloc (.cells #[strV p] 9)) = .ok (.slice (some ⟨gc, 0, none⟩) (T.ch.length + 1) cc) w7 ∧
      w7.cell? ⟨r, 1, none⟩ = some vc ∧ w7.frozen? ⟨r, 1, none⟩ = false ∧
      RefPost w r vf vc ⟨T.fs.take i ++ T.fs.drop j, T.ch ++ [p]⟩ (w7.setCell ⟨r, 1, none⟩ (.slice (some ⟨gc, 0, none⟩) (T.ch.length + 1) cc)) := by
  have hfi := h.files.is
  obtain ⟨v1, hr1, hv1⟩ := run_slice_hi Try.underlying34 infoFile hfi i hi
  obtain ⟨va, w3, hr2, hown2, hg2, _⟩ := run_appPs Try.underlying34 infoFile w2 w2.heap.size (.slice none 0 0) v1 [] _ (OwnPairs.nil _ _ _) hv1 (by simp; omega) (Nat.le_refl _)
  have hb3 : Below w2.heap.size w2 w3 := below_appP (e := 62) (Below.refl _ _) (OwnPairs.nil _ _ _) (Nat.le_refl _) hg2
  obtain ⟨v5, hr5, hv5⟩ := run_slice_lo Try.underlying34 infoFile (hfi.below hb3) j hj
  obtain ⟨vd, w5, hr6, hown5, hg5, _⟩ := run_appPs Try.underlying34 infoFile w3 w2.heap.size va v5 _ _ hown2 hv5 (by simp; omega) hb3.size
  have hb5 : Below w2.heap.size w2 w5 := below_appP (e := 62) hb3 hown2 (Nat.le_refl _) hg5
  have hownd : OwnPairs 62 w5 w.heap.size vd (T.fs.take i ++ T.fs.drop j) := by
    have := hown5.base (b' := w.heap.size) hb2.size
    simpa using this
  obtain ⟨ad, cd, hvd, _⟩ := hownd.is
  generalize hnd : (T.fs.take i ++ T.fs.drop j).length = nd at hvd
  subst hvd
  have h5 := h.below hb5
  have hs6 : (w5.setCell ⟨r, 0, none⟩ (.slice ad nd cd)).heap.size = w5.heap.size := by simp [World.setCell]
  have hvcr : ∀ k, vc.ownBlock = some k → k ≠ r := fun k hk e => by
    obtain ⟨_, c, hc⟩ := ownsRow_type h5.chs hk
    rw [e, h5.cells] at hc; simp at hc
  have hch6 : OwnStrs (w5.setCell ⟨r, 0, none⟩ (.slice ad nd cd)) 0 vc T.ch := ownsRow_same h5.chs fun k hk => Below.heap_setCell _ _ _ _ (hvcr k hk)
  obtain ⟨gc, cc, w7, hr7, hown7, hg7, hl7⟩ := run_appS (w5.setCell ⟨r, 0, none⟩ (.slice ad nd cd)) 0 vc T.ch hch6 p (by omega) (Nat.zero_le _)
  rw [hs6] at hr7 hl7
  obtain ⟨h7, hpost⟩ := ref_stored h5 (hb2.trans (hb5.mono hb2.size)) hownd hown7 hg7 hl7
  have h3 := h.below hb3
  refine ⟨v1, va, w3, v5, ad, nd, cd, w5, gc, cc, w7, hr1, hr2, h3.cell0, hr5, hr6, h5.cell0, by simp [World.frozen?, h5.cells], ?_, hr7, by simp [World.cell?, h7], by simp [World.frozen?, h7], hpost⟩
  simp only [World.cell?]
  rw [heap_setCell_same h5.cells]
  rfl

def Tr.remove (T : Tr) (p : Str) : Tr × Int :=
  if isPath p then (match look T.fs p with
    | some _ => (⟨del T.fs p, T.ch ++ [p]⟩, 0)
    | none => (T, 4)) else (T, 2)

theorem remove_read (T : Tr) (p : Str) : (T.remove p).2 = (T.read p).2 := by
  unfold Tr.remove Tr.read
  split
  · cases look T.fs p <;> rfl
  · rfl

set_option maxHeartbeats 8000000 in
set_option maxRecDepth 100000 in
theorem refRemove_is {w : World} {r : Nat} {vf vc : Value} {T : Tr} (h : IsRef w 0 r vf vc T) (hr : Rising (keys T.fs)) (hlen : T.fs.length ≤ 100000) (hch : T.ch.length ≤ 1000000) (p : Str) :
    Calls Try.prog 26 #[.pointer (some ⟨r, 0, none⟩), strV p] w fun e w' => e = .returned (.int .i64 (T.remove p).2) ∧ RefPost w r vf vc (T.remove p).1 w' := by
  have H := Hid.mk h
  have Hr := Hid.mk hr
  clear h hr
  go_enter Try.func26, Try.ntmps26
  go_wp2_with fail
  refine (refRead_is H.out Hr.out (by omega) p).mono ?_
  rintro e w1 ⟨rfl, hb⟩
  have Hb := Hid.mk hb
  have H1 := Hid.mk (H.out.below hb)
  clear hb H
  by_cases hz : (T.read p).2 = 0
  · obtain ⟨v, hk, hip⟩ : ∃ v, look T.fs p = some v ∧ isPath p = true := by
      unfold Tr.read at hz
      split at hz
      · rename_i hp
        cases hk : look T.fs p with
        | none => rw [hk] at hz; simp at hz
        | some v => exact ⟨v, rfl, hp⟩
      · simp at hz
    have hw := Hid.mk (show T.remove p = (⟨del T.fs p, T.ch ++ [p]⟩, 0) by simp [Tr.remove, hip, hk])
    have hq : ((T.read p).2 != 0) = false := by rw [hz]; rfl
    clear hip
    rw [hz]
    go_wp2_with fail
    refine (at_is H1.out Hr.out (by omega) p).mono ?_
    rintro e w2 ⟨rfl, hb⟩
    have Hb2 := Hid.mk (Hb.out.trans (hb.mono Hb.out.size))
    have H2 := Hid.mk (H1.out.below hb)
    clear hb H1 Hb
    obtain ⟨hlt, _⟩ := at_hit Hr.out p hk
    have hdel := del_hit Hr.out p hk
    have c0 := H2.out.cell0
    obtain ⟨v1, va, w3, v5, ad, nd, cd, w5, gc, cc, w7, hr1, hr2, d4, hr5, hr6, d5, z5, d6, hr7, d7, z7, hpost⟩ := ref_cut H2.out Hb2.out hlen hch p (pos T.fs p) (pos T.fs p + 1) (by omega) (by omega)
    rw [hdel] at hpost
    have Hpost := Hid.mk hpost
    clear hpost hdel hk hz hq
    generalize pos T.fs p = i at hlt hr1 hr5
    rw [show ((i + 1 : Nat) : Int) = (i : Int) + 1 from by omega] at hr5
    go_wp2_with (at_builtin; first | refine wpList_append_run rfl _ _ _ rfl rfl rfl rfl hr2 ?_ | refine wpList_append_run rfl _ _ _ rfl rfl rfl rfl hr6 ?_ | refine wpList_append_run rfl _ _ _ rfl rfl rfl rfl hr7 ?_)
    go_ret
    rw [hw.out]
    exact ⟨rfl, Hpost.out⟩
  · have hw := Hid.mk (show (T.remove p).1 = T ∧ (T.remove p).2 = (T.read p).2 from ⟨by
      unfold Tr.read at hz
      unfold Tr.remove
      split
      · rename_i hp
        rw [if_pos hp] at hz
        cases hk : look T.fs p with
        | none => rfl
        | some v => rw [hk] at hz; simp at hz
      · rfl, remove_read T p⟩)
    have hq : ((T.read p).2 != 0) = true := by rw [bne_iff_ne]; exact hz
    generalize (T.read p).2 = z at hq hw
    clear hz
    go_wp2
    go_ret
    rw [hw.out.1, hw.out.2]
    exact ⟨rfl, .of_below H1.out Hb.out⟩

def hasPre (q x : Str) : Bool := decide (q.length ≤ x.length) && (x.take q.length == q)

def listOf (fs : FileL) (q : Str) : List Str := (fs.filter fun f => hasPre q f.1).map (·.1)

theorem listOf_succ {fs : FileL} {q : Str} {k : Nat} (h : k < fs.length) : listOf (fs.take (k + 1)) q = listOf (fs.take k) q ++ (if hasPre q fs[k].1 then [fs[k].1] else []) := by
  unfold listOf
  rw [List.take_succ_eq_append_getElem h, List.filter_append, List.map_append]
  congr 1
  by_cases hp : hasPre q fs[k].1 = true
  · simp [hp]
  · simp [hp]

def LiRel (w : World) (fs : FileL) (q : Str) (g : Nat) (ou iv : Value) (wr : World) : Prop :=
  ∃ k : Nat, k + g = fs.length ∧ iv = .int .i64 k ∧ OwnStrs wr w.heap.size ou (listOf (fs.take k) q) ∧ Below w.heap.size w wr

set_option maxHeartbeats 4000000 in
set_option maxRecDepth 100000 in
theorem refList_is {w : World} {b r : Nat} {vf vc : Value} {T : Tr} (h : IsRef w b r vf vc T) (hlen : T.fs.length ≤ 100000) (q : Str) (_hq : q.length ≤ maxLen) (hshort : ∀ f ∈ T.fs, f.1.length ≤ 1000) :
    Calls Try.prog 28 #[.pointer (some ⟨r, 0, none⟩), strV q] w (Strs (listOf T.fs q) w) := by
  have hszq : (bs q).size = q.length := rfl
  have hstart := Hid.mk (show LiRel w T.fs q T.fs.length (.slice none 0 0) (.int .i64 0) w from ⟨0, by omega, rfl, OwnStrs.nil _ _, Below.refl _ _⟩)
  have H := Hid.mk h
  obtain ⟨af, capf, rfl, hcapf, hf⟩ := h.files.is
  have Hf := Hid.mk hf
  have Hsh := Hid.mk hshort
  clear h hf hshort
  go_enter Try.func28, Try.ntmps28
  go_wp2
  go_loopg [5, 6] T.fs.length (fun g ou iv wr => LiRel w T.fs q g ou iv wr)
  case atStart => exact hstart.out
  case round =>
    clear hstart
    rename World => wp
    obtain ⟨k, hkg, rfl, hown, hb⟩ := hrel
    have c0 := (H.out.below hb).cell0
    cases gk with
    | zero =>
      obtain rfl : k = T.fs.length := by omega
      rw [List.take_length] at hown
      obtain ⟨an, cn, he, _⟩ := hown.open
      subst he
      have hfin := Hid.mk (show Strs (listOf T.fs q) w (.returned (.slice an (listOf T.fs q).length cn)) wp from ⟨_, rfl, hown, hb⟩)
      clear hown hb
      go_wp2
      go_ret
      exact hfin.out
    | succ g =>
      have hlt : k < T.fs.length := by omega
      obtain ⟨gf, off, rfl, hgf, hc⟩ : ∃ gf off, af = some ⟨gf, off, none⟩ ∧ gf < w.heap.size ∧ ∀ i (h : i < T.fs.length), w.cell? ⟨gf, off + i * 2, none⟩ = some (strV T.fs[i].1) ∧ w.cell? ⟨gf, off + i * 2 + 1, none⟩ = some (strV T.fs[i].2) := by
        rcases Hf.out with e | h
        · rw [e] at hlt; simp at hlt
        · exact h
      have hck : wp.cell? ⟨gf, off + k * 2, none⟩ = some (strV T.fs[k].1) := cell_block (hc k hlt).1 (hb.block _ hgf)
      have hxl := Hsh.out _ (List.getElem_mem hlt)
      have hstep := Hid.mk (listOf_succ (q := q) hlt)
      have hll : (listOf (T.fs.take k) q).length ≤ k := by
        unfold listOf
        rw [List.length_map]
        exact Nat.le_trans (List.length_filter_le _ _) (List.length_take_le _ _)
      generalize T.fs[k].1 = x at hck hxl hstep
      have hszx : (bs x).size = x.length := rfl
      generalize hL : listOf (T.fs.take k) q = L at hown hstep hll
      clear hc hL
      by_cases hp : hasPre q x = true
      · have hp2 := hp
        simp only [hasPre, Bool.and_eq_true, decide_eq_true_eq] at hp2
        obtain ⟨h1, h2⟩ := hp2
        have hge : (q.length : Int) ≤ x.length := by omega
        have hex : (bs x).extract 0 q.length = bs q := by
          rw [extract_cur x 0 q.length]
          simp only [curAt, List.drop_zero, Nat.sub_zero]
          rw [show x.take q.length = q by simpa using h2]
        obtain ⟨g', cap', w5, hr5, hown5, hgr5, _⟩ := run_appS wp w.heap.size _ L hown x (by omega) hb.size
        have hb5 := below_appS (hb.alloc hb.size _) (World.ownsRow.alloc hown _) (Nat.le_refl _) hgr5
        have hrel5 := Hid.mk (show ∀ i : Int, i = (k : Int) + 1 → LiRel w T.fs q g (.slice (some ⟨g', 0, none⟩) (L.length + 1) cap') (.int .i64 i) w5 from fun i hi => ⟨k + 1, by omega, by subst hi; exact congrArg _ (by omega), by rw [hstep.out, if_pos hp]; exact hown5, hb5⟩)
        clear hown hb hown5 hgr5 hb5 hp h1 h2
        go_wp2_with (at_builtin; refine wpList_append_run rfl _ _ _ rfl rfl rfl rfl hr5 ?_)
        go_roundg g
        case measure => omega
        case rel => exact hrel5.out _ rfl
      · have hrel5 := Hid.mk (show ∀ i : Int, i = (k : Int) + 1 → LiRel w T.fs q g _ (.int .i64 i) wp from fun i hi => ⟨k + 1, by omega, by subst hi; exact congrArg _ (by omega), by rw [hstep.out, if_neg hp, List.append_nil]; exact hown, hb⟩)
        by_cases hge : (q.length : Int) ≤ x.length
        · have hex : (bs x).extract 0 q.length = bs (x.take q.length) := by
            rw [extract_cur x 0 q.length]
            simp [curAt]
          have hne : (x.take q.length == q) = false := by
            cases h2 : (x.take q.length == q) with
            | false => rfl
            | true => exact absurd (by simp only [hasPre, h2, Bool.and_true, decide_eq_true_eq]; omega) hp
          clear hown hb hp
          generalize x.take q.length = y at hex hne
          go_wp2
          go_roundg g
          case measure => omega
          case rel => exact hrel5.out _ rfl
        · clear hown hb hp
          go_wp2
          go_roundg g
          case measure => omega
          case rel => exact hrel5.out _ rfl

end Go.Proofs.Ytejlekfnjhnklaa
