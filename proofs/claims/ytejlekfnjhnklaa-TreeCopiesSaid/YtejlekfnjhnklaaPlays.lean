/-
  The law TreePlays, walked.
-/
import Derived.Test.YtejlekfnjhnklaaLong
namespace Go.Proofs.Ytejlekfnjhnklaa
open Go.RowKit Go.Maps

theorem DuoF.mono {S S' : Nat → Prop} {w : World} {p r : Nat} {T : Tr} (h : DuoF S w p r T) (hs : ∀ k, S k → S' k) : DuoF S' w p r T := by
  obtain ⟨m, last, vf, vc, h1, h2, h3, h4, h5, h6⟩ := h
  exact ⟨m, last, vf, vc, h1, hs _ h2, hs _ h3, fun q hq => hs _ (h4 q hq), fun k hk => hs _ (h5 k hk), fun k hk => hs _ (h6 k hk)⟩

/-- What a call on both leaves, where both are the call's own. -/
theorem DoesPost.own {w wr w' : World} {p r : Nat} {T' : Tr} (hb : Below w.heap.size w wr) (h : DoesPost (fun k => w.heap.size ≤ k) wr p r T' w') : DuoF (fun k => w.heap.size ≤ k) w' p r T' ∧ Below w.heap.size w w' := by
  obtain ⟨S', h1, h2, h3⟩ := h
  refine ⟨h1.mono fun k hk => (h2 k hk).elim id (fun h => Nat.le_trans hb.size h), ?_⟩
  exact ⟨h3.os.trans hb.os, h3.tape.trans hb.tape, h3.output.trans hb.output, Nat.le_trans hb.size h3.size, fun k hk => (h3.block k (Nat.lt_of_lt_of_le hk hb.size) (by omega)).trans (hb.block k hk)⟩

/-- The document's tree, new. -/
theorem ref_new (w : World) : IsRef (w.alloc (.cells #[.slice none 0 0, .slice none 0 0] 37)) 0 w.heap.size (.slice none 0 0) (.slice none 0 0) Tr.empty :=
  ⟨Nat.zero_le _, heap_alloc_new _ _, OwnPairs.nil _ _ _, OwnStrs.nil _ _⟩

theorem duo_new {S : Nat → Prop} {w : World} {p : Nat} {m : Option Nat} {last : Nat → Str} (h : IsTree w 0 p m last Tr.empty) (hg : Glob w) (hp : S p) (hm : ∀ q, m = some q → S q) (hr : S w.heap.size) : DuoF S (w.alloc (.cells #[.slice none 0 0, .slice none 0 0] 37)) p w.heap.size Tr.empty := by
  have hb : Below w.heap.size w (w.alloc (.cells #[.slice none 0 0, .slice none 0 0] 37)) := (Below.refl _ _).alloc (Nat.le_refl _) _
  exact ⟨m, last, _, _, ⟨h.below hb, ref_new w, hg.below hb⟩, hp, hr, hm, fun k hk => (by cases hk), fun k hk => (by cases hk)⟩

/-- The zero tree. -/
theorem zero_tree (w : World) (c : Array Value) (hc : c = (List.replicate 32 (strV []) ++ [Value.int .i64 0, Value.map none]).toArray) : IsTree (w.alloc (.cells c 32)) 0 w.heap.size none (fun _ => []) Tr.empty := by
  have hblk : (w.alloc (.cells c 32)).heap[w.heap.size]? = some (.cells c 32 (0, 0)) := heap_alloc_new _ _
  refine ⟨Nat.zero_le _, ⟨_, hblk⟩, fun i hi => ?_, ?_, ?_, .inl ⟨rfl, rfl⟩, fun k hk => absurd hk (by simp [Tr.empty])⟩
  · simp only [World.cell?, hblk]
    rw [hc]
    show (List.replicate 32 (strV []) ++ [Value.int .i64 0, Value.map none]).toArray[i]? = some (strV [])
    rw [List.getElem?_toArray, List.getElem?_append_left (by rw [List.length_replicate]; exact hi), List.getElem?_replicate, if_pos hi]
  · simp only [World.cell?, hblk]
    rw [hc]
    rfl
  · simp only [World.cell?, hblk]
    rw [hc]
    rfl

def PlRel (w : World) (p r : Nat) (l : List OpT) (g : Nat) (iv : Value) (wr : World) : Prop :=
  ∃ k : Nat, k + g = l.length ∧ iv = .int .i64 k ∧ ∃ T, DuoF (fun k => w.heap.size ≤ k) wr p r T ∧ T.ok ∧ T.ch.length ≤ k ∧ Below w.heap.size w wr

/-- What a slice of calls holds at a place. -/
theorem ops_cells {w wr : World} {a : Option Addr} {l : List OpT} {k : Nat} (h : l = [] ∨ ∃ g off, a = some ⟨g, off, none⟩ ∧ g < w.heap.size ∧ ∀ i (h : i < l.length),
    w.cell? ⟨g, off + i * 4, none⟩ = some (.int .i64 l[i].k) ∧ w.cell? ⟨g, off + i * 4 + 1, none⟩ = some (strV l[i].x) ∧ w.cell? ⟨g, off + i * 4 + 2, none⟩ = some (strV l[i].s) ∧ w.cell? ⟨g, off + i * 4 + 3, none⟩ = some (.int .i64 l[i].n))
    (hb : Below w.heap.size w wr) (hk : k < l.length) : ∃ g off, a = some ⟨g, off, none⟩ ∧ wr.cell? ⟨g, off + k * 4, none⟩ = some (.int .i64 l[k].k) ∧ wr.cell? ⟨g, off + k * 4 + 1, none⟩ = some (strV l[k].x) ∧ wr.cell? ⟨g, off + k * 4 + 2, none⟩ = some (strV l[k].s) ∧ wr.cell? ⟨g, off + k * 4 + 3, none⟩ = some (.int .i64 l[k].n) := by
  rcases h with e | ⟨g, off, rfl, hg, hc⟩
  · rw [e] at hk; simp at hk
  · obtain ⟨c0, c1, c2, c3⟩ := hc k hk
    exact ⟨g, off, rfl, cell_block c0 (hb.block _ hg), cell_block c1 (hb.block _ hg), cell_block c2 (hb.block _ hg), cell_block c3 (hb.block _ hg)⟩

/-- Of what the law's arguments hold. -/
structure OpsOk (l : List OpT) : Prop where
  texts : ∀ o ∈ l, o.x.length ≤ 140737488351232 ∧ o.s.length ≤ 140737488351232
  nums : ∀ o ∈ l, -9223372036854775808 ≤ o.n ∧ o.n ≤ 9223372036854775807
  few : l.length ≤ 140737488351232

theorem DuoF.like {S : Nat → Prop} {w : World} {p r : Nat} {T : Tr} (h : DuoF S w p r T) (hok : T.ok) (hch : T.ch.length ≤ 1000000) : Calls Try.prog 10 #[.pointer (some ⟨p, 0, none⟩), .pointer (some ⟨r, 0, none⟩)] w fun e w' => e = .returned (.bool true) ∧ Below w.heap.size w w' := by
  obtain ⟨m, last, vf, vc, hd, _⟩ := h
  exact like_is hd hok hch

theorem short_of {l : List OpT} (h : longB l = false) : l.length ≤ 2000 := by
  simp only [longB, Bool.or_eq_false_iff, decide_eq_false_iff_not] at h
  omega

set_option maxHeartbeats 8000000 in
set_option maxRecDepth 100000 in
theorem plays_is {w : World} {v : Value} {l : List OpT} (h : IsOps w v l) (hok : OpsOk l) (hg : Glob w) (zero : Bool) : Calls Try.prog 3 #[v, .bool zero] w fun e w' => e = .returned (.bool true) ∧ Below w.heap.size w w' := by
  obtain ⟨a, cap, rfl, hc⟩ := id h
  have H := Hid.mk h
  have Hc := Hid.mk hc
  have Hok := Hid.mk hok
  have Hg := Hid.mk hg
  clear h hc hok hg
  go_enter Try.func3, Try.ntmps3
  go_wp2_with fail
  refine (works10_is Hg.out).mono ?_
  rintro e w1 ⟨rfl, hb⟩
  have Hb := Hid.mk hb
  clear hb
  go_wp2_with fail
  refine (long_is (H.out.below Hb.out) Hok.out.texts Hok.out.few).mono ?_
  rintro e w2 ⟨rfl, hb⟩
  replace Hb := Hid.mk (Hb.out.trans (hb.mono Hb.out.size))
  clear hb
  cases hL : longB l with
  | true =>
    go_wp2
    go_ret
    exact ⟨rfl, Hb.out⟩
  | false =>
    have hs := short_of hL
    clear hL
    go_wp2_with fail
    refine (newTree_is w2).mono ?_
    rintro e w3 ⟨p, q, last, rfl, ht, hp, hq, hb⟩
    have Ht := Hid.mk ht
    have Hpq := Hid.mk (show w.heap.size ≤ p ∧ w.heap.size ≤ q from ⟨Nat.le_trans Hb.out.size hp, Nat.le_trans Hb.out.size hq⟩)
    replace Hb := Hid.mk (Hb.out.trans (hb.mono Hb.out.size))
    clear ht hp hq hb
    have D0 := Hid.mk (duo_new (S := fun k => w.heap.size ≤ k) Ht.out (Hg.out.below Hb.out) Hpq.out.1 (fun q' e => by cases e; exact Hpq.out.2) Hb.out.size)
    have B0 := Hid.mk (Hb.out.alloc Hb.out.size (.cells #[.slice none 0 0, .slice none 0 0] 37))
    have hbz := Hb.out.alloc Hb.out.size (.cells (List.replicate 32 (strV []) ++ [Value.int .i64 0, Value.map none]).toArray 32)
    have hd1 := duo_new (S := fun k => w.heap.size ≤ k) (zero_tree w3 _ rfl) (Hg.out.below hbz) Hb.out.size (fun q' e => by cases e) hbz.size
    rw [World.size_alloc] at hd1
    have D1 := Hid.mk hd1
    have B1 := Hid.mk (hbz.alloc hbz.size (.cells #[.slice none 0 0, .slice none 0 0] 37))
    clear hd1 hbz
    cases zero with
    | false =>
      clear D1 B1
      go_wp2_with fail
      refine (D0.out.like Tr.ok.empty (by simp [Tr.empty])).mono ?_
      rintro e w4 ⟨rfl, hb⟩
      have D := Hid.mk (D0.out.below hb)
      replace Hb := Hid.mk (B0.out.trans (hb.mono B0.out.size))
      clear hb D0 B0 Ht Hpq
      generalize w3.heap.size = rr at *
      have hstart := Hid.mk (show PlRel w p rr l l.length (.int .i64 0) w4 from ⟨0, by omega, rfl, _, D.out, Tr.ok.empty, by simp [Tr.empty], Hb.out⟩)
      clear D
      go_wp2
      go_loopg [7] l.length (fun g iv wr => PlRel w p rr l g iv wr)
      case atStart => exact hstart.out
      case round =>
        clear hstart
        rename World => wp
        obtain ⟨k, hkg, rfl, T, hd, hok, hch, hb⟩ := hrel
        have Hd := Hid.mk hd
        have HT := Hid.mk hok
        have Hbp := Hid.mk hb
        cases gk with
        | zero =>
          obtain rfl : k = l.length := by omega
          clear hd hok hb
          go_wp2_with fail
          refine (Hd.out.like HT.out (by omega)).mono ?_
          rintro e w5 ⟨rfl, hb⟩
          have Hb5 := Hid.mk (Hbp.out.trans (hb.mono Hbp.out.size))
          clear hb
          go_wp2
          go_ret
          exact ⟨rfl, Hb5.out⟩
        | succ g =>
          have hlt : k < l.length := by omega
          have hlt3 : (k : Int) < l.length := by omega
          obtain ⟨gl, off, rfl, d0, d1, d2, d3⟩ := ops_cells Hc.out hb hlt
          obtain ⟨hx1, hx2⟩ := Hok.out.texts _ (List.getElem_mem hlt)
          obtain ⟨hn1, hn2⟩ := Hok.out.nums _ (List.getElem_mem hlt)
          have hcall := does_is hd (by have := Hg.out.lt; omega) hok (by omega) l[k].k l[k].x l[k].s l[k].n (by unfold maxLen; omega) hn1 hn2
          have hT2 := hok.step l[k].k l[k].x l[k].s
          have hC2 := step_ch T l[k].k l[k].x l[k].s
          have hpost := Hid.mk (fun w' (h : DoesPost (fun k => w.heap.size ≤ k) wp p rr (T.step l[k].k l[k].x l[k].s) w') => h.own hb)
          generalize l[k].k = ok at d0 hcall hT2 hC2 hpost
          generalize l[k].x = ox at d1 hcall hT2 hC2 hpost
          generalize l[k].s = os at d2 hcall hT2 hC2 hpost
          generalize l[k].n = on at d3 hcall
          generalize T.step ok ox os = T2 at hcall hT2 hC2 hpost
          have Hcall := Hid.mk hcall
          have HT2 := Hid.mk hT2
          unfold opV at Hcall
          clear hx1 hx2 hn1 hn2 hcall hT2 hd hok hb Hd HT
          by_cases hle : (l.length : Int) ≤ 100
          · go_wp2_with fail
            refine Hcall.out.mono ?_
            rintro e w5 ⟨rfl, hp⟩
            have Hp := Hid.mk (hpost.out _ hp)
            clear hp Hcall d0 d1 d2 d3
            go_wp2_with fail
            refine (Hp.out.1.like HT2.out (by omega)).mono ?_
            rintro e w6 ⟨rfl, hb⟩
            have hnext := Hid.mk (show PlRel w p rr l g (.int .i64 ((k : Int) + 1)) w6 from ⟨k + 1, by omega, by go_num, T2, Hp.out.1.below hb, HT2.out, by omega, Hp.out.2.trans (hb.mono Hp.out.2.size)⟩)
            clear hb Hp hpost
            go_wp2
            go_roundg g
            case measure => omega
            case rel => exact hnext.out
          · go_wp2_with fail
            refine Hcall.out.mono ?_
            rintro e w5 ⟨rfl, hp⟩
            have Hp := Hid.mk (hpost.out _ hp)
            have hnext := Hid.mk (show PlRel w p rr l g (.int .i64 ((k : Int) + 1)) w5 from ⟨k + 1, by omega, by go_num, T2, Hp.out.1, HT2.out, by omega, Hp.out.2⟩)
            clear hp Hcall d0 d1 d2 d3 Hp hpost
            go_wp2
            go_roundg g
            case measure => omega
            case rel => exact hnext.out
    | true =>
      clear D0 B0
      go_wp2_with fail
      refine (D1.out.like Tr.ok.empty (by simp [Tr.empty])).mono ?_
      rintro e w4 ⟨rfl, hb⟩
      have D := Hid.mk (D1.out.below hb)
      replace Hb := Hid.mk (B1.out.trans (hb.mono B1.out.size))
      clear hb D1 B1 Ht Hpq
      generalize w3.heap.size + 1 = rr at *
      generalize w3.heap.size = pt at *
      have hstart := Hid.mk (show PlRel w pt rr l l.length (.int .i64 0) w4 from ⟨0, by omega, rfl, _, D.out, Tr.ok.empty, by simp [Tr.empty], Hb.out⟩)
      clear D
      go_wp2
      go_loopg [7] l.length (fun g iv wr => PlRel w pt rr l g iv wr)
      case atStart => exact hstart.out
      case round =>
        clear hstart
        rename World => wp
        obtain ⟨k, hkg, rfl, T, hd, hok, hch, hb⟩ := hrel
        have Hd := Hid.mk hd
        have HT := Hid.mk hok
        have Hbp := Hid.mk hb
        cases gk with
        | zero =>
          obtain rfl : k = l.length := by omega
          clear hd hok hb
          go_wp2_with fail
          refine (Hd.out.like HT.out (by omega)).mono ?_
          rintro e w5 ⟨rfl, hb⟩
          have Hb5 := Hid.mk (Hbp.out.trans (hb.mono Hbp.out.size))
          clear hb
          go_wp2
          go_ret
          exact ⟨rfl, Hb5.out⟩
        | succ g =>
          have hlt : k < l.length := by omega
          have hlt3 : (k : Int) < l.length := by omega
          obtain ⟨gl, off, rfl, d0, d1, d2, d3⟩ := ops_cells Hc.out hb hlt
          obtain ⟨hx1, hx2⟩ := Hok.out.texts _ (List.getElem_mem hlt)
          obtain ⟨hn1, hn2⟩ := Hok.out.nums _ (List.getElem_mem hlt)
          have hcall := does_is hd (by have := Hg.out.lt; omega) hok (by omega) l[k].k l[k].x l[k].s l[k].n (by unfold maxLen; omega) hn1 hn2
          have hT2 := hok.step l[k].k l[k].x l[k].s
          have hC2 := step_ch T l[k].k l[k].x l[k].s
          have hpost := Hid.mk (fun w' (h : DoesPost (fun k => w.heap.size ≤ k) wp pt rr (T.step l[k].k l[k].x l[k].s) w') => h.own hb)
          generalize l[k].k = ok at d0 hcall hT2 hC2 hpost
          generalize l[k].x = ox at d1 hcall hT2 hC2 hpost
          generalize l[k].s = os at d2 hcall hT2 hC2 hpost
          generalize l[k].n = on at d3 hcall
          generalize T.step ok ox os = T2 at hcall hT2 hC2 hpost
          have Hcall := Hid.mk hcall
          have HT2 := Hid.mk hT2
          unfold opV at Hcall
          clear hx1 hx2 hn1 hn2 hcall hT2 hd hok hb Hd HT
          by_cases hle : (l.length : Int) ≤ 100
          · go_wp2_with fail
            refine Hcall.out.mono ?_
            rintro e w5 ⟨rfl, hp⟩
            have Hp := Hid.mk (hpost.out _ hp)
            clear hp Hcall d0 d1 d2 d3
            go_wp2_with fail
            refine (Hp.out.1.like HT2.out (by omega)).mono ?_
            rintro e w6 ⟨rfl, hb⟩
            have hnext := Hid.mk (show PlRel w pt rr l g (.int .i64 ((k : Int) + 1)) w6 from ⟨k + 1, by omega, by go_num, T2, Hp.out.1.below hb, HT2.out, by omega, Hp.out.2.trans (hb.mono Hp.out.2.size)⟩)
            clear hb Hp hpost
            go_wp2
            go_roundg g
            case measure => omega
            case rel => exact hnext.out
          · go_wp2_with fail
            refine Hcall.out.mono ?_
            rintro e w5 ⟨rfl, hp⟩
            have Hp := Hid.mk (hpost.out _ hp)
            have hnext := Hid.mk (show PlRel w pt rr l g (.int .i64 ((k : Int) + 1)) w5 from ⟨k + 1, by omega, by go_num, T2, Hp.out.1, HT2.out, by omega, Hp.out.2⟩)
            clear hp Hcall d0 d1 d2 d3 Hp hpost
            go_wp2
            go_roundg g
            case measure => omega
            case rel => exact hnext.out

end Go.Proofs.Ytejlekfnjhnklaa
