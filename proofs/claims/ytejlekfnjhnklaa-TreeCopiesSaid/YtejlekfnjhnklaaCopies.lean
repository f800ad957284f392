/-
  The law TreeCopies, walked.
-/
import Derived.Test.YtejlekfnjhnklaaRefCopy
namespace Go.Proofs.Ytejlekfnjhnklaa
open Go.RowKit Go.Maps

theorem DuoF.in {S : Nat → Prop} {w : World} {p r : Nat} {T : Tr} (h : DuoF S w p r T) : DuoF (fun k => S k ∧ k < w.heap.size) w p r T := by
  obtain ⟨m, last, vf, vc, hd, hp, hr, hm, hf, hc⟩ := h
  exact ⟨m, last, vf, vc, hd, ⟨hp, hd.t.lt⟩, ⟨hr, hd.r.lt⟩, fun q e => ⟨hm q e, by subst e; exact hd.t.lt_m⟩, fun k e => ⟨hf k e, hd.r.lt_f e⟩, fun k e => ⟨hc k e, hd.r.lt_c e⟩⟩

/-- What a change of other blocks leaves. -/
theorem DuoF.keep {S C : Nat → Prop} {w w' : World} {p r : Nat} {T : Tr} (h : DuoF S w p r T) (hc : Chg C w w') (hd : ∀ k, S k → ¬ C k) (h0 : ¬ C 0) : DuoF S w' p r T := by
  obtain ⟨m, last, vf, vc, hdu, hp, hr, hm, hf, hcc⟩ := h
  refine ⟨m, last, vf, vc, ⟨hdu.t.same (hc.block _ hdu.t.lt (hd _ hp)) (fun q e => ?_), hdu.r.same (hc.block _ hdu.r.lt (hd _ hr)) (fun k e => hc.block _ (hdu.r.lt_f e) (hd _ (hf k e))) (fun k e => hc.block _ (hdu.r.lt_c e) (hd _ (hcc k e))), hdu.g.chg hc h0⟩, hp, hr, hm, hf, hcc⟩
  subst e
  exact hc.block _ hdu.t.lt_m (hd _ (hm _ rfl))

/-- Two pairs of trees, each in blocks of its own. -/
structure Pair (w : World) (p r : Nat) (T : Tr) (u q : Nat) (U : Tr) (wr : World) : Prop where
  ex : ∃ S1 S2 : Nat → Prop, DuoF S1 wr p r T ∧ DuoF S2 wr u q U ∧ (∀ k, S1 k → w.heap.size ≤ k) ∧ (∀ k, S2 k → w.heap.size ≤ k) ∧ (∀ k, S1 k → ¬ S2 k)
  b : Below w.heap.size w wr

theorem Pair.symm {w wr : World} {p r u q : Nat} {T U : Tr} (h : Pair w p r T u q U wr) : Pair w u q U p r T wr := by
  obtain ⟨⟨S1, S2, h1, h2, h3, h4, h5⟩, hb⟩ := h
  exact ⟨⟨S2, S1, h2, h1, h4, h3, fun k a b => h5 k b a⟩, hb⟩

theorem Pair.below {w wr w' : World} {p r u q : Nat} {T U : Tr} (h : Pair w p r T u q U wr) (hb : Below wr.heap.size wr w') : Pair w p r T u q U w' := by
  obtain ⟨⟨S1, S2, h1, h2, h3⟩, hb0⟩ := h
  exact ⟨⟨S1, S2, h1.below hb, h2.below hb, h3⟩, hb0.trans (hb.mono hb0.size)⟩

theorem Pair.does {w wr : World} {p r u q : Nat} {T U : Tr} (h : Pair w p r T u q U wr) (hw : 0 < w.heap.size) (hok : T.ok) (hch : T.ch.length ≤ 999999) (k : Int) (x s : Str) (n : Int) (hx : x.length ≤ maxLen) (hn : -9223372036854775808 ≤ n) (hn2 : n ≤ 9223372036854775807) :
    Calls Try.prog 11 #[.pointer (some ⟨p, 0, none⟩), .pointer (some ⟨r, 0, none⟩), opV k x s n] wr fun e w' => e = .returned (.bool true) ∧ Pair w p r (T.step k x s) u q U w' := by
  obtain ⟨⟨S1, S2, h1, h2, h3, h4, h5⟩, hb⟩ := h
  have h2 := h2.in
  have h0 : ¬ S1 0 := fun e => by have := h3 0 e; omega
  refine (does_is h1 h0 hok hch k x s n hx hn hn2).mono ?_
  rintro e w' ⟨rfl, S', g1, g2, g3⟩
  have hsz := hb.size
  refine ⟨rfl, ⟨S', _, g1, h2.keep g3 (fun k a b => h5 k b a.1) h0, fun k hk => (g2 k hk).elim (h3 k) (fun h => Nat.le_trans hsz h), fun k hk => h4 k hk.1, fun k hk a => ?_⟩, g3.os.trans hb.os, g3.tape.trans hb.tape, g3.output.trans hb.output, Nat.le_trans hsz g3.size, fun k hk => (g3.block k (Nat.lt_of_lt_of_le hk hsz) (fun e => by have := h3 k e; omega)).trans (hb.block k hk)⟩
  rcases g2 k hk with e | e
  · exact h5 k e a.1
  · have := a.2; omega

theorem Pair.like {w wr : World} {p r u q : Nat} {T U : Tr} (h : Pair w p r T u q U wr) (hok : T.ok) (hch : T.ch.length ≤ 1000000) : Calls Try.prog 10 #[.pointer (some ⟨p, 0, none⟩), .pointer (some ⟨r, 0, none⟩)] wr fun e w' => e = .returned (.bool true) ∧ Pair w p r T u q U w' := by
  obtain ⟨S1, S2, h1, _⟩ := h.ex
  exact (h1.like hok hch).mono fun _ _ ⟨he, hb⟩ => ⟨he, h.below hb⟩

/-- Both copies. -/
theorem Pair.made {w w5 w6 w7 : World} {p r u q : Nat} {m : Option Nat} {last : Nat → Str} {vf vc : Value} {T : Tr} (hd : DuoF (fun k => w.heap.size ≤ k) w5 p r T) (hb : Below w.heap.size w w5)
    (ht : IsTree w6 0 u m last T) (hu : w5.heap.size ≤ u) (hm : ∀ k, m = some k → w5.heap.size ≤ k) (hb6 : Below w5.heap.size w5 w6)
    (hr : IsRef w7 0 q vf vc T) (hq : w6.heap.size ≤ q) (hf : ∀ k, vf.ownBlock = some k → w6.heap.size ≤ k) (hc : ∀ k, vc.ownBlock = some k → w6.heap.size ≤ k) (hb7 : Below w6.heap.size w6 w7) : Pair w p r T u q T w7 := by
  have hb57 := hb6.trans (hb7.mono hb6.size)
  have h6 := hb6.size
  have h5 := hb.size
  have hd7 := hd.in.below hb57
  obtain ⟨_, _, _, _, hdu, _⟩ := hd7
  refine ⟨⟨_, fun k => w5.heap.size ≤ k, hd.in.below hb57, ⟨m, last, vf, vc, ⟨ht.below hb7, hr, hdu.g⟩, hu, Nat.le_trans h6 hq, hm, fun k e => Nat.le_trans h6 (hf k e), fun k e => Nat.le_trans h6 (hc k e)⟩, fun k h => h.1, fun k h => Nat.le_trans h5 h, fun k h a => ?_⟩, hb.trans (hb57.mono h5)⟩
  have := h.2
  omega

/-- What a slice of calls holds, at a place. -/
theorem ops_at {w : World} {a : Option Addr} {l : List OpT} {k : Nat} (h : l = [] ∨ ∃ g off, a = some ⟨g, off, none⟩ ∧ g < w.heap.size ∧ ∀ i (h : i < l.length),
    w.cell? ⟨g, off + i * 4, none⟩ = some (.int .i64 l[i].k) ∧ w.cell? ⟨g, off + i * 4 + 1, none⟩ = some (strV l[i].x) ∧ w.cell? ⟨g, off + i * 4 + 2, none⟩ = some (strV l[i].s) ∧ w.cell? ⟨g, off + i * 4 + 3, none⟩ = some (.int .i64 l[i].n))
    (hk : k < l.length) : ∃ g off, a = some ⟨g, off, none⟩ ∧ ∀ wr, Below w.heap.size w wr → wr.cell? ⟨g, off + k * 4, none⟩ = some (.int .i64 l[k].k) ∧ wr.cell? ⟨g, off + k * 4 + 1, none⟩ = some (strV l[k].x) ∧ wr.cell? ⟨g, off + k * 4 + 2, none⟩ = some (strV l[k].s) ∧ wr.cell? ⟨g, off + k * 4 + 3, none⟩ = some (.int .i64 l[k].n) := by
  rcases h with e | ⟨g, off, rfl, hg, hc⟩
  · rw [e] at hk; simp at hk
  · obtain ⟨c0, c1, c2, c3⟩ := hc k hk
    exact ⟨g, off, rfl, fun wr hb => ⟨cell_block c0 (hb.block _ hg), cell_block c1 (hb.block _ hg), cell_block c2 (hb.block _ hg), cell_block c3 (hb.block _ hg)⟩⟩

def CpRel (w : World) (p r : Nat) (l : List OpT) (g : Nat) (iv : Value) (wr : World) : Prop :=
  ∃ k : Nat, k + g = l.length ∧ iv = .int .i64 k ∧ ∃ T, DuoF (fun k => w.heap.size ≤ k) wr p r T ∧ T.ok ∧ T.ch.length ≤ k ∧ Below w.heap.size w wr

def PaRel (w : World) (p r u q N : Nat) (g : Nat) (iv : Value) (wr : World) : Prop :=
  ∃ i : Nat, i + g = N ∧ iv = .int .i64 i ∧ ∃ T U, Pair w p r T u q U wr ∧ T.ok ∧ U.ok ∧ T.ch.length ≤ 600 + i ∧ U.ch.length ≤ 600 + i

/-- A call of a script on one of the pairs, with what it reads. -/
theorem Pair.round {w wr : World} {p r u q : Nat} {T U : Tr} {l : List OpT} {k : Nat} (h : Pair w p r T u q U wr) (hw : 0 < w.heap.size) (hok : T.ok) (hch : T.ch.length ≤ 999999) (hl : OpsOk l) (hk : k < l.length) :
    Calls Try.prog 11 #[.pointer (some ⟨p, 0, none⟩), .pointer (some ⟨r, 0, none⟩), opV l[k].k l[k].x l[k].s l[k].n] wr fun e w' => e = .returned (.bool true) ∧ Hid (∃ T2 : Tr, Pair w p r T2 u q U w' ∧ T2.ok ∧ T2.ch.length ≤ T.ch.length + 1) := by
  obtain ⟨hx1, hx2⟩ := hl.texts _ (List.getElem_mem hk)
  obtain ⟨hn1, hn2⟩ := hl.nums _ (List.getElem_mem hk)
  exact (h.does hw hok hch _ _ _ _ (by unfold maxLen; omega) hn1 hn2).mono fun _ _ ⟨he, hp⟩ => ⟨he, ⟨_, hp, hok.step _ _ _, step_ch _ _ _ _⟩⟩

set_option maxHeartbeats 16000000 in
set_option maxRecDepth 100000 in
theorem copies_is {w : World} {v v1 v2 : Value} {l l1 l2 : List OpT} (h : IsOps w v l) (hok : OpsOk l) (h1 : IsOps w v1 l1) (hok1 : OpsOk l1) (h2 : IsOps w v2 l2) (hok2 : OpsOk l2) (hg : Glob w) :
    Calls Try.prog 6 #[v, v1, v2] w fun e w' => e = .returned (.bool true) ∧ Below w.heap.size w w' := by
  obtain ⟨a, cap, rfl, hc⟩ := id h
  obtain ⟨a1, cap1, rfl, hc1⟩ := id h1
  obtain ⟨a2, cap2, rfl, hc2⟩ := id h2
  have H := Hid.mk h
  have Hc := Hid.mk hc
  have Hok := Hid.mk hok
  have H1 := Hid.mk h1
  have Hc1 := Hid.mk hc1
  have Hok1 := Hid.mk hok1
  have H2 := Hid.mk h2
  have Hc2 := Hid.mk hc2
  have Hok2 := Hid.mk hok2
  have Hg := Hid.mk hg
  have Hw := Hid.mk hg.lt
  clear h hc hok hg h1 hc1 hok1 h2 hc2 hok2
  go_enter Try.func6, Try.ntmps6
  go_wp2_with fail
  refine (works10_is Hg.out).mono ?_
  rintro e w1 ⟨rfl, hb⟩
  have Hb := Hid.mk hb
  clear hb
  go_wp2_with fail
  refine (long_is (H.out.below Hb.out) Hok.out.texts Hok.out.few).mono ?_
  rintro e w2 ⟨rfl, hb⟩
  replace Hb := Hid.mk (Hb.out.trans (hb.mono Hb.out.size))
  clear hb
  cases hL : longB l with
  | true =>
    go_wp2
    go_ret
    exact ⟨rfl, Hb.out⟩
  | false =>
    have hs := short_of hL
    clear hL
    go_wp2_with fail
    refine (long_is (H1.out.below Hb.out) Hok1.out.texts Hok1.out.few).mono ?_
    rintro e w3 ⟨rfl, hb⟩
    replace Hb := Hid.mk (Hb.out.trans (hb.mono Hb.out.size))
    clear hb
    cases hL : longB l1 with
    | true =>
      go_wp2
      go_ret
      exact ⟨rfl, Hb.out⟩
    | false =>
      have hs1 := short_of hL
      clear hL
      go_wp2_with fail
      refine (long_is (H2.out.below Hb.out) Hok2.out.texts Hok2.out.few).mono ?_
      rintro e w4 ⟨rfl, hb⟩
      replace Hb := Hid.mk (Hb.out.trans (hb.mono Hb.out.size))
      clear hb
      cases hL : longB l2 with
      | true =>
        go_wp2
        go_ret
        exact ⟨rfl, Hb.out⟩
      | false =>
        have hs2 := short_of hL
        clear hL
        by_cases hsum : (600 : Int) < (l.length : Int) + l1.length + l2.length
        · go_wp2
          go_ret
          exact ⟨rfl, Hb.out⟩
        · go_wp2_with fail
          refine (newTree_is w4).mono ?_
          rintro e w5 ⟨p, q, last, rfl, ht, hp, hq, hb⟩
          have Ht := Hid.mk ht
          have Hpq := Hid.mk (show w.heap.size ≤ p ∧ w.heap.size ≤ q from ⟨Nat.le_trans Hb.out.size hp, Nat.le_trans Hb.out.size hq⟩)
          replace Hb := Hid.mk (Hb.out.trans (hb.mono Hb.out.size))
          clear ht hp hq hb
          have D0 := Hid.mk (duo_new (S := fun k => w.heap.size ≤ k) Ht.out (Hg.out.below Hb.out) Hpq.out.1 (fun q' e => by cases e; exact Hpq.out.2) Hb.out.size)
          have B0 := Hid.mk (Hb.out.alloc Hb.out.size (.cells #[.slice none 0 0, .slice none 0 0] 37))
          have hstart := Hid.mk (show CpRel w p w5.heap.size l l.length (.int .i64 0) (w5.alloc (.cells #[.slice none 0 0, .slice none 0 0] 37)) from ⟨0, by omega, rfl, _, D0.out, Tr.ok.empty, by simp [Tr.empty], B0.out⟩)
          clear D0 B0 Ht Hpq Hb
          go_wp2
          generalize w5.heap.size = rr at *
          go_loopg [9] l.length (fun g iv wr => CpRel w p rr l g iv wr)
          case atStart => exact hstart.out
          case round =>
            clear hstart
            rename World => wp
            obtain ⟨k, hkg, rfl, T, hd, hok, hch, hb⟩ := hrel
            have Hd := Hid.mk hd
            have HT := Hid.mk hok
            have Hbp := Hid.mk hb
            cases gk with
            | zero =>
              obtain rfl : k = l.length := by omega
              clear hb hok
              have hfew := HT.out.few
              obtain ⟨m, last, vf, vc, hdu, _⟩ := hd
              have Hdu := Hid.mk hdu
              clear hdu
              go_wp2_with fail
              refine (copy_is Hdu.out.t).mono ?_
              rintro e w6 ⟨u, mu, lastu, rfl, ht, hu, hmu, hb⟩
              have Hr := Hid.mk (Hdu.out.r.below hb)
              have Hmade := Hid.mk (fun (w7 : World) (q : Nat) (vf vc : Value) (hr : IsRef w7 0 q vf vc T) (hq : w6.heap.size ≤ q) (hf : ∀ k, vf.ownBlock = some k → w6.heap.size ≤ k) (hc : ∀ k, vc.ownBlock = some k → w6.heap.size ≤ k) (hb7 : Below w6.heap.size w6 w7) => Pair.made Hd.out Hbp.out ht hu hmu hb hr hq hf hc hb7)
              clear ht hu hmu hb Hdu Hd Hbp
              go_wp2_with fail
              refine (refCopy_is Hr.out (by omega) (by omega)).mono ?_
              rintro e w7 ⟨q, vfq, vcq, rfl, hr, hq, hf, hc, hb7⟩
              have Hp := Hid.mk (Hmade.out w7 q _ _ hr hq hf hc hb7)
              clear hr hq hf hc hb7 Hmade Hr
              go_wp2_with fail
              refine (Hp.out.symm.like HT.out (by omega)).mono ?_
              rintro e w8 ⟨rfl, hp⟩
              replace Hp := Hid.mk hp.symm
              clear hp
              obtain ⟨N, hN⟩ : ∃ N, max l1.length l2.length = N := ⟨_, rfl⟩
              have hstart := Hid.mk (show PaRel w p rr u q N N (.int .i64 0) w8 from ⟨0, by omega, rfl, T, T, Hp.out, HT.out, HT.out, by omega, by omega⟩)
              clear Hp HT hch hfew
              go_wp2
              go_loopg [12] N (fun g iv wr => PaRel w p rr u q N g iv wr)
              case atStart => exact hstart.out
              case round =>
                clear hstart
                rename World => wq
                obtain ⟨i, hig, rfl, T, U, hp, hT, hU, hTl, hUl⟩ := hrel
                have Hp := Hid.mk hp
                have HT := Hid.mk hT
                have HU := Hid.mk hU
                clear hp hT hU
                cases gk with
                | zero =>
                  have hi1 : ¬ (i : Int) < l1.length := by omega
                  have hi2 : ¬ (i : Int) < l2.length := by omega
                  go_wp2_with fail
                  refine (Hp.out.like HT.out (by omega)).mono ?_
                  rintro e w9 ⟨rfl, hp⟩
                  replace Hp := Hid.mk hp
                  clear hp
                  go_wp2_with fail
                  refine (Hp.out.symm.like HU.out (by omega)).mono ?_
                  rintro e w10 ⟨rfl, hp⟩
                  have Hb := Hid.mk hp.b
                  clear hp
                  go_wp2
                  go_ret
                  exact ⟨rfl, Hb.out⟩
                | succ g =>
                  by_cases hi1 : (i : Int) < l1.length
                  · have hlt1 : i < l1.length := by omega
                    obtain ⟨gl1, off1, rfl, hcells1⟩ := ops_at Hc1.out hlt1
                    obtain ⟨d0, d1, d2, d3⟩ := hcells1 _ Hp.out.b
                    have hcall := Hp.out.round Hw.out HT.out (by omega) Hok1.out hlt1
                    generalize l1[i].k = ok at d0 hcall
                    generalize l1[i].x = ox at d1 hcall
                    generalize l1[i].s = os at d2 hcall
                    generalize l1[i].n = on at d3 hcall
                    have Hcall := Hid.mk hcall
                    unfold opV at Hcall
                    clear hcells1 hcall
                    by_cases hi2 : (i : Int) < l2.length
                    · have hlt2 : i < l2.length := by omega
                      obtain ⟨gl2, off2, rfl, hcells2⟩ := ops_at Hc2.out hlt2
                      have Hcells2 := Hid.mk hcells2
                      clear hcells2
                      go_wp2_with fail
                      refine Hcall.out.mono ?_
                      rintro e w9 ⟨rfl, hp⟩
                      clear d0 d1 d2 d3 Hcall
                      obtain ⟨T2, hp2, hT2, hT2l⟩ := hp.out
                      replace Hp := Hid.mk hp2
                      replace HT := Hid.mk hT2
                      clear hp hp2 hT2
                      obtain ⟨d0, d1, d2, d3⟩ := Hcells2.out _ Hp.out.b
                      have hcall := Hp.out.symm.round Hw.out HU.out (by omega) Hok2.out hlt2
                      generalize l2[i].k = ok at d0 hcall
                      generalize l2[i].x = ox at d1 hcall
                      generalize l2[i].s = os at d2 hcall
                      generalize l2[i].n = on at d3 hcall
                      have Hcall := Hid.mk hcall
                      unfold opV at Hcall
                      clear Hcells2 hcall
                      go_wp2_with fail
                      refine Hcall.out.mono ?_
                      rintro e w10 ⟨rfl, hp⟩
                      have hnext := Hid.mk (show PaRel w p rr u q N g (.int .i64 ((i : Int) + 1)) w10 from by
                        obtain ⟨U2, hp2, hU2, hU2l⟩ := hp.out
                        exact ⟨i + 1, by omega, by go_num, T2, U2, hp2.symm, HT.out, hU2, by omega, by omega⟩)
                      clear d0 d1 d2 d3 Hcall hp
                      go_wp2
                      go_roundg g
                      case measure => omega
                      case rel => exact hnext.out
                    · go_wp2_with fail
                      refine Hcall.out.mono ?_
                      rintro e w9 ⟨rfl, hp⟩
                      have hnext := Hid.mk (show PaRel w p rr u q N g (.int .i64 ((i : Int) + 1)) w9 from by
                        obtain ⟨T2, hp2, hT2, hT2l⟩ := hp.out
                        exact ⟨i + 1, by omega, by go_num, T2, U, hp2, hT2, HU.out, by omega, by omega⟩)
                      clear d0 d1 d2 d3 Hcall hp
                      go_wp2
                      go_roundg g
                      case measure => omega
                      case rel => exact hnext.out
                  · have hi2 : (i : Int) < l2.length := by omega
                    have hlt2 : i < l2.length := by omega
                    obtain ⟨gl2, off2, rfl, hcells2⟩ := ops_at Hc2.out hlt2
                    obtain ⟨d0, d1, d2, d3⟩ := hcells2 _ Hp.out.b
                    have hcall := Hp.out.symm.round Hw.out HU.out (by omega) Hok2.out hlt2
                    generalize l2[i].k = ok at d0 hcall
                    generalize l2[i].x = ox at d1 hcall
                    generalize l2[i].s = os at d2 hcall
                    generalize l2[i].n = on at d3 hcall
                    have Hcall := Hid.mk hcall
                    unfold opV at Hcall
                    clear hcells2 hcall
                    go_wp2_with fail
                    refine Hcall.out.mono ?_
                    rintro e w9 ⟨rfl, hp⟩
                    have hnext := Hid.mk (show PaRel w p rr u q N g (.int .i64 ((i : Int) + 1)) w9 from by
                      obtain ⟨U2, hp2, hU2, hU2l⟩ := hp.out
                      exact ⟨i + 1, by omega, by go_num, T, U2, hp2.symm, HT.out, hU2, by omega, by omega⟩)
                    clear d0 d1 d2 d3 Hcall hp
                    go_wp2
                    go_roundg g
                    case measure => omega
                    case rel => exact hnext.out
            | succ g =>
              have hlt : k < l.length := by omega
              have hlt3 : (k : Int) < l.length := by omega
              obtain ⟨gl, off, rfl, d0, d1, d2, d3⟩ := ops_cells Hc.out hb hlt
              obtain ⟨hx1, hx2⟩ := Hok.out.texts _ (List.getElem_mem hlt)
              obtain ⟨hn1, hn2⟩ := Hok.out.nums _ (List.getElem_mem hlt)
              have hcall := does_is hd (by have := Hw.out; omega) hok (by omega) l[k].k l[k].x l[k].s l[k].n (by unfold maxLen; omega) hn1 hn2
              have hT2 := hok.step l[k].k l[k].x l[k].s
              have hC2 := step_ch T l[k].k l[k].x l[k].s
              have hpost := Hid.mk (fun w' (h : DoesPost (fun k => w.heap.size ≤ k) wp p rr (T.step l[k].k l[k].x l[k].s) w') => h.own hb)
              generalize l[k].k = ok at d0 hcall hT2 hC2 hpost
              generalize l[k].x = ox at d1 hcall hT2 hC2 hpost
              generalize l[k].s = os at d2 hcall hT2 hC2 hpost
              generalize l[k].n = on at d3 hcall
              generalize T.step ok ox os = T2 at hcall hT2 hC2 hpost
              have Hcall := Hid.mk hcall
              have HT2 := Hid.mk hT2
              unfold opV at Hcall
              clear hx1 hx2 hn1 hn2 hcall hT2 hd hok hb Hd HT
              go_wp2_with fail
              refine Hcall.out.mono ?_
              rintro e w6 ⟨rfl, hp⟩
              have Hp := Hid.mk (hpost.out _ hp)
              have hnext := Hid.mk (show CpRel w p rr l g (.int .i64 ((k : Int) + 1)) w6 from ⟨k + 1, by omega, by go_num, T2, Hp.out.1, HT2.out, by omega, Hp.out.2⟩)
              clear hp Hcall d0 d1 d2 d3 Hp hpost
              go_wp2
              go_roundg g
              case measure => omega
              case rel => exact hnext.out

end Go.Proofs.Ytejlekfnjhnklaa
