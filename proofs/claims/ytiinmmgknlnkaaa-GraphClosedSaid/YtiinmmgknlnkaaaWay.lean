/-
  graph.Way.
-/
import Derived.Test.YtiinmmgknlnkaaaFar
import Derived.Test.YtiinmmgknlnkaaaWayP
namespace Go.Proofs.Ytiinmmgknlnkaaa
open Go.RowKit Go.Maps
open Go.ChangeMaps (setBlock)

/-- A list, or nothing and false. -/
def OptPost (r : Option (List Str)) (w : World) (e : Ending) (w' : World) : Prop :=
  ∃ v, e = .returned (.tuple #[v, .bool r.isSome]) ∧ OwnStrs w' w.heap.size v (r.getD []) ∧ Below w.heap.size w w'

theorem way_no {w : World} (r : Option (List Str)) (hr : r = none) : OptPost r w (.returned (.tuple #[.slice none 0 0, .bool false])) w := by
  subst hr
  exact ⟨_, rfl, OwnStrs.nil _ _, Below.refl _ _⟩

theorem way_nil (a b : ByteArray) (w : World) : Calls Try.prog 8 #[.pointer none, .string a, .string b] w fun e w' => e = .returned (.tuple #[.slice none 0 0, .bool false]) ∧ w = w' := by
  go_enter Try.func8, Try.ntmps8
  go_wp2
  go_step3
  go_wp2_with (go_at_call 19; refine (has_nil _ _).mono ?_; rintro e w' ⟨rfl, rfl⟩)
  rw [Exit.noGoto_ret]
  go_ret2
  exact ⟨rfl, rfl⟩

def WRel (w : World) (G : Gr) (t : Str) (fb : Nat) (W : List Str) (g : Nat) (fr le ou : Value) (wr : World) : Prop :=
  ∃ (x : Str) (l0 : List Str) (go cap : Nat), fr = strV x ∧ le = .int .i64 g ∧ ou = .slice (some ⟨go, 0, none⟩) (l0.length + 1) cap ∧ OwnStrs wr w.heap.size ou (l0 ++ [x]) ∧ l0 ++ wayFrom G t g x = W ∧ IsDist G.e t g x ∧ (fb < wr.heap.size) ∧
    Below w.heap.size w wr ∧ ∃ f, MapG Try.prog 9 eI wr fb G.ns.length f ∧ ∀ x (k : Int), f x = some k ↔ ∃ j : Nat, k = j ∧ IsDist G.e t j x

set_option maxHeartbeats 4000000 in
theorem way_is {S : Nat → Prop} {w : World} {p : Nat} {G : Gr} (h : IsGraph S w p G) (a b : Str) (ha : a.length ≤ maxLen) (hb : b.length ≤ maxLen) : Calls Try.prog 8 #[ptr p, strV a, strV b] w (OptPost (wayOf G a b) w) := by
  have hok := h.ok
  have hA := Hid.mk (has_is h a ha)
  have hB := Hid.mk (has_is h b hb)
  by_cases ma : a ∈ G.ns
  case neg =>
    have hd : decide (a ∈ G.ns) = false := by simp [ma]
    rw [hd] at hA
    have hfin := Hid.mk (way_no (w := w) (wayOf G a b) (by simp [wayOf, ma]))
    clear h hok ma hd hB
    go_enter Try.func8, Try.ntmps8
    go_wp2
    go_step3
    go_wp2_with fail
    refine hA.out.mono ?_
    rintro e w' ⟨rfl, rfl⟩
    go_wp2
    rw [Exit.noGoto_ret]
    go_ret2
    exact hfin.out
  have hd : decide (a ∈ G.ns) = true := by simp [ma]
  rw [hd] at hA
  by_cases mb : b ∈ G.ns
  case neg =>
    have hd2 : decide (b ∈ G.ns) = false := by simp [mb]
    rw [hd2] at hB
    have hfin := Hid.mk (way_no (w := w) (wayOf G a b) (by simp [wayOf, mb]))
    clear h hok ma hd hd2 mb
    go_enter Try.func8, Try.ntmps8
    go_wp2
    go_step3
    go_wp2_with fail
    refine hA.out.mono ?_
    rintro e w' ⟨rfl, rfl⟩
    clear hA
    go_wp2_with fail
    refine hB.out.mono ?_
    rintro e w' ⟨rfl, rfl⟩
    go_wp2
    rw [Exit.noGoto_ret]
    go_ret2
    exact hfin.out
  have hd2 : decide (b ∈ G.ns) = true := by simp [mb]
  rw [hd2] at hB
  have hF := Hid.mk (far_is h b mb)
  have Hgr := Hid.mk h
  have Hok := Hid.mk hok
  have Hm := Hid.mk (And.intro ma mb)
  clear h hok hd hd2 ma mb
  go_enter Try.func8, Try.ntmps8
  go_wp2
  go_step3
  go_wp2_with fail
  refine hA.out.mono ?_
  rintro e w' ⟨rfl, rfl⟩
  clear hA
  go_wp2_with fail
  refine hB.out.mono ?_
  rintro e w' ⟨rfl, rfl⟩
  clear hB
  go_wp2_with fail
  refine hF.out.mono ?_
  rintro e w1 ⟨fb, f, rfl, hm, hf, hfb, hb1⟩
  clear hF
  cases hfa : f a with
  | none =>
    have hl : (Instr.lookup 52 (.map (some fb)) (strV a) true).run Try.prog w1 = .ok (.tuple #[.int .i64 0, .bool false]) w1 := hm.look_ok_none Try.underlying9 Try.underlying52 (zeroInt w1) ha hfa
    have hw0 : wayOf G a b = none := by
      have := distOf_none Hok.out (Hm.out).2 (x := a) fun k hd => by
        rw [(hf a k).2 ⟨k, rfl, hd⟩] at hfa; cases hfa
      simp [wayOf, this]
    have hfin := Hid.mk (show OptPost (wayOf G a b) w (.returned (.tuple #[.slice none 0 0, .bool false])) w1 by rw [hw0]; exact ⟨_, rfl, OwnStrs.nil _ _, hb1⟩)
    clear hm hf hfb hb1 hfa hw0 Hgr Hok Hm
    go_wp2
    rw [Exit.noGoto_ret]
    go_ret2
    exact hfin.out
  | some k0 =>
    obtain ⟨k, rfl, hda⟩ := (hf a k0).1 hfa
    have hl : (Instr.lookup 52 (.map (some fb)) (strV a) true).run Try.prog w1 = .ok (.tuple #[.int .i64 (k : Int), .bool true]) w1 := hm.look_ok_some Try.underlying9 Try.underlying52 (zeroInt w1) ha hfa
    have hkl := dist_lt Hok.out (Hm.out).2 hda
    have hfew := Hok.out.few
    have hway : wayOf G a b = some (wayFrom G b k a) := by
      have := (distOf_some Hok.out (Hm.out).2).2 hda
      simp [wayOf, this, (Hm.out).1, (Hm.out).2]
    have hsz1 : w.heap.size ≤ w1.heap.size := hb1.size
    have hstart : WRel w G b fb (wayFrom G b k a) k (strV a) (.int .i64 (k : Int)) (.slice (some ⟨w1.heap.size, 0, none⟩) 1 1) (w1.alloc (.cells #[strV a] 9)) :=
      ⟨a, [], w1.heap.size, 1, rfl, rfl, rfl, ⟨rfl, .inr ⟨w1.heap.size, 1, #[strV a], rfl, hsz1, heap_alloc_new _ _, Nat.le_refl _, by decide, rfl, rfl⟩⟩, rfl, hda, by have := hm.lt; rw [World.size_alloc]; omega, hb1.alloc hsz1 _, f, hm.alloc _, hf⟩
    have Hstart := Hid.mk hstart
    have Hway := Hid.mk hway
    clear hstart hway hm hf hfb hb1 hda hsz1
    go_wp2
    go_step3
    go_wp2
    go_loopg [1, 9, 11] k (fun g fr le ou wr => WRel w G b fb (wayFrom G b k a) g fr le ou wr)
    case atStart => exact Hstart.out
    case round =>
      clear Hstart
      obtain ⟨x, l0, go, cap, rfl, rfl, rfl, hown, hW, hdx, hfb, hbel, f, hm, hf⟩ := hrel
      cases gk with
      | zero =>
        have hlen0 : l0.length + 1 = (l0 ++ [x]).length := by simp
        have hfin := Hid.mk (show OptPost (wayOf G a b) w (.returned (.tuple #[.slice (some ⟨go, 0, none⟩) (l0.length + 1) cap, .bool true])) wr by
          rw [Hway.out, ← hW]
          exact ⟨_, rfl, hown, hbel⟩)
        clear hown hW hdx hbel hm hf hfb hlen0 hl hfa
        go_wp2
        rw [Exit.noGoto_ret]
        go_ret2
        exact hfin.out
      | succ g =>
        have hgl := dist_lt Hok.out (Hm.out).2 hdx
        have hgfew := Hok.out.few
        have hxn : x ∈ G.ns := by
          obtain ⟨y0, hey0, _⟩ := hdx.pred
          exact (Hok.out.ends x y0 hey0).1
        have hxl := Hok.out.short x hxn
        have hnext := nextOn_dist Hok.out hdx
        have hgr := Hgr.out.below hbel
        have hO := Hid.mk (out_is hgr x hxl)
        have hszw : w.heap.size ≤ wr.heap.size := hbel.size
        clear hl hfa
        go_wp2_with fail
        refine hO.out.mono ?_
        rintro e w2 ⟨v, rfl, hL, hb2⟩
        clear hO
        have hmem := Hok.out.mem_out.2 hnext.2
        have hLn : (G.out x).length ≤ 1048576 := few_out Hok.out x
        obtain ⟨gl, capl, rfl, hgl1, hgl2, hcl⟩ : ∃ gl capl, v = .slice (some ⟨gl, 0, none⟩) (G.out x).length capl ∧ wr.heap.size ≤ gl ∧ gl < w2.heap.size ∧ ∀ i (h : i < (G.out x).length), w2.cell? ⟨gl, i, none⟩ = some (strV (G.out x)[i]) := by
          rcases hL.shape with ⟨_, e⟩ | h
          · rw [e] at hmem; cases hmem
          · exact h
        have hm2 := hm.same (hb2.block _ hm.lt)
        have hown2 : OwnStrs w2 w.heap.size (.slice (some ⟨go, 0, none⟩) (l0.length + 1) cap) (l0 ++ [x]) := hown.below hb2
        have hbel2 := hbel.trans (hb2.mono hszw)
        have hl0 : l0.length ≤ k := by
          have := congrArg List.length hW
          simp only [List.length_append, wayFrom_length] at this
          omega
        have Hcl := Hid.mk hcl
        have Hm2 := Hid.mk (And.intro hm2 hf)
        have Hown2 := Hid.mk hown2
        have Hbel2 := Hid.mk hbel2
        have HW := Hid.mk hW
        have Hnext := Hid.mk (And.intro hnext hmem)
        have Hsz2 := Hid.mk (And.intro hb2.size hfb)
        clear hm hf hfb hcl hown2 hown hm2 hbel hbel2 hW hnext hmem hL hb2 hgr hdx
        go_wp2
        go_loopg [1, 11, 47] (G.out x).length (fun g2 fr ou j wj => ∃ jj : Nat, jj + g2 = (G.out x).length ∧ fr = strV x ∧ ou = .slice (some ⟨go, 0, none⟩) (l0.length + 1) cap ∧ j = .int .i64 jj ∧ Hid (∀ i (hi : i < jj) (h : i < (G.out x).length), distB G b g (G.out x)[i] = false) ∧ w2 = wj)
        case atStart => exact ⟨0, by omega, rfl, rfl, rfl, ⟨fun i hi => by omega⟩, rfl⟩
        case round =>
          obtain ⟨j, hjg, rfl, rfl, rfl, hno, rfl⟩ := hrel
          cases gk with
          | zero =>
            exfalso
            obtain ⟨i, hi, e⟩ := List.getElem_of_mem (Hnext.out).2
            have h1 := hno.out i (by omega) hi
            rw [e, (distB_iff Hok.out b g _).2 (Hnext.out).1.1] at h1
            cases h1
          | succ g3 =>
            have hlt : j < (G.out x).length := by omega
            have hcj : w2.cell? ⟨gl, j, none⟩ = some (strV (G.out x)[j]) := Hcl.out j hlt
            have hyl := Hok.out.short _ (Hok.out.ends _ _ (Hok.out.mem_out.1 (List.getElem_mem hlt))).2
            have hfind := Hid.mk (fun hp => find_at (p := distB G b g) hlt hp (fun i hi => hno.out i hi (by omega)))
            have hdist := Hid.mk (distB_iff Hok.out b g (G.out x)[j])
            have hstepno := Hid.mk (fun (hd : distB G b g (G.out x)[j] = false) i (hi : i < j + 1) (h : i < (G.out x).length) => show distB G b g (G.out x)[i] = false by
              by_cases e : i = j
              · subst e; exact hd
              · exact hno.out i (by omega) h)
            generalize hy : (G.out x)[j] = y at hcj hyl hfind hdist hstepno
            have Hy := Hid.mk hy
            clear hy hno
            cases hfy : f y with
            | none =>
              have hlk : (Instr.lookup 52 (.map (some fb)) (strV y) true).run Try.prog w2 = .ok (.tuple #[.int .i64 0, .bool false]) w2 := (Hm2.out).1.look_ok_none Try.underlying9 Try.underlying52 (zeroInt w2) hyl hfy
              have hnd : distB G b g y = false := by
                cases hd : distB G b g y
                · rfl
                · rw [((Hm2.out).2 y g).2 ⟨g, rfl, hdist.out.1 hd⟩] at hfy; cases hfy
              have Hrel := Hid.mk (hstepno.out hnd)
              clear hfy hnd hdist hfind hstepno
              go_wp2
              go_roundg g3
              case measure => omega
              case rel => exact ⟨j + 1, by omega, rfl, rfl, by go_num, ⟨Hrel.out⟩, rfl⟩
            | some d0 =>
              obtain ⟨d, rfl, hdd⟩ := ((Hm2.out).2 y d0).1 hfy
              have hlk : (Instr.lookup 52 (.map (some fb)) (strV y) true).run Try.prog w2 = .ok (.tuple #[.int .i64 (d : Int), .bool true]) w2 := (Hm2.out).1.look_ok_some Try.underlying9 Try.underlying52 (zeroInt w2) hyl hfy
              by_cases hdg : d = g
              · subst hdg
                have hdlt := dist_lt Hok.out (Hm.out).2 hdd
                have hyx : nextOn G b d x = y := by
                  unfold nextOn
                  rw [hfind.out (hdist.out.2 hdd)]
                  rfl
                have hOw : OwnStrs (w2.alloc (.cells #[strV y] 9)) w.heap.size (.slice (some ⟨go, 0, none⟩) (l0.length + 1) cap) (l0 ++ [x]) := World.ownsRow.alloc Hown2.out _
                have hszz : w.heap.size ≤ (w2.alloc (.cells #[strV y] 9)).heap.size := by have := (Hsz2.out).1; rw [World.size_alloc]; omega
                have hlenx : (l0 ++ [x]).length = l0.length + 1 := by simp
                have hnextR : ∀ (go' cap' : Nat) w5 (n : Nat), n = (l0 ++ [x]).length + 1 → OwnStrs w5 w.heap.size (.slice (some ⟨go', 0, none⟩) n cap') (l0 ++ [x] ++ [y]) → (w2.alloc (.cells #[strV y] 9)).grownBy w5 (some go) → WRel w G b fb (wayFrom G b k a) d (strV y) (.int .i64 (d : Int)) (.slice (some ⟨go', 0, none⟩) n cap') w5 := by
                  intro go' cap' w5 n hn h5 g5
                  subst hn
                  have hmm := (Hm2.out).1.alloc (.cells #[strV y] 9)
                  have hm5 := hmm.same (own_other hOw g5 hmm.lt (map_not_cells hmm))
                  refine ⟨y, l0 ++ [x], go', cap', rfl, rfl, rfl, h5, ?_, hdd, hm5.lt, ?_, f, hm5, (Hm2.out).2⟩
                  · rw [← HW.out]
                    simp only [wayFrom, hyx, List.append_assoc, List.singleton_append]
                  · have hb := (Hbel2.out).alloc (by have := (Hsz2.out).1; omega) (.cells #[strV y] 9)
                    exact ⟨g5.os.trans hb.os, g5.tape.trans hb.tape, g5.output.trans hb.output, Nat.le_trans hb.size g5.size, fun z hz => (g5.block z (Nat.lt_of_lt_of_le hz hb.size) (fun e => by
                      have := (hOw.block (k := go) rfl).1
                      have : z = go := by simpa using e
                      omega)).trans (hb.block z hz)⟩
                have HnextR := Hid.mk hnextR
                have HOw := Hid.mk hOw
                have Hcn := Hid.mk (cell_new w2 (strV y) 9)
                have Hszz := Hid.mk hszz
                have Hlenx := Hid.mk hlenx
                clear hnextR hOw hszz hlenx hyx hdd hfy hdist hfind hstepno
                go_wp2_with (at_builtin; refine wpList_appS _ rfl _ _ rfl w.heap.size _ (l0 ++ [x]) rfl HOw.out w2.heap.size y rfl Hcn.out (by rw [Hlenx.out]; omega) Hszz.out ?_; intro g' cap' w5 hown5 hgr5 hloc5; have Hown5 := Hid.mk hown5; have Hgr5 := Hid.mk hgr5; clear hown5 hgr5 hloc5)
                go_roundg d
                case measure => omega
                case rel =>
                  have h5 := Hown5.out
                  rw [Hlenx.out] at h5
                  exact HnextR.out _ _ _ _ (by rw [Hlenx.out]) h5 Hgr5.out
              · have hnd : distB G b g y = false := by
                  cases hd : distB G b g y
                  · rfl
                  · exact absurd (hdd.unique (hdist.out.1 hd)) hdg
                have hdn : ((d : Int) == (g : Int)) = false := by simp; omega
                have Hrel := Hid.mk (hstepno.out hnd)
                have hdlt := dist_lt Hok.out (Hm.out).2 hdd
                clear hfy hnd hdist hfind hstepno hdd hdg
                go_wp2
                go_roundg g3
                case measure => omega
                case rel => exact ⟨j + 1, by omega, rfl, rfl, by go_num, ⟨Hrel.out⟩, rfl⟩

end Go.Proofs.Ytiinmmgknlnkaaa
