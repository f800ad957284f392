/-
  The law GraphClosed, walked.
-/
import Derived.Test.YtiinmmgknlnkaaaBoth
namespace Go.Proofs.Ytiinmmgknlnkaaa
open Go.RowKit Go.Maps

theorem clos_mem_ns {G : Gr} {l : List Str} {x : Str} (hx : x ∈ clos G G.e l) : x ∈ G.ns := (List.mem_filter.1 hx).1

section
variable {G : Gr} (h : G.ok)
include h

theorem ends2 : ∀ x y, G.e x y = true → y ∈ G.ns := fun x y e => (h.ends x y e).2

theorem clos_shut {l : List Str} {x y : Str} (hx : x ∈ clos G G.e l) (he : G.e x y = true) : y ∈ clos G G.e l := by
  rw [mem_clos (ends2 h)] at hx ⊢
  obtain ⟨a, ha, hn, hr⟩ := hx
  exact ⟨a, ha, hn, hr.snoc he⟩

theorem clos_clos (l : List Str) : clos G G.e (clos G G.e l) = clos G G.e l :=
  rising_ext (clos_rising h _ _) (clos_rising h _ _) fun y => by
    rw [mem_clos (ends2 h), mem_clos (ends2 h)]
    constructor
    · rintro ⟨x, hx, _, hr⟩
      obtain ⟨a, ha, hn, hr2⟩ := (mem_clos (ends2 h)).1 hx
      exact ⟨a, ha, hn, hr2.trans hr⟩
    · rintro ⟨a, ha, hn, hr⟩
      exact ⟨a, (mem_clos (ends2 h)).2 ⟨a, ha, hn, .refl _⟩, hn, hr⟩

theorem clos_append (l m : List Str) : clos G G.e (l ++ m) = Lib.compact (sortB (clos G G.e l ++ clos G G.e m)) :=
  rising_ext (clos_rising h _ _) (compact_sorted _).1 fun y => by
    rw [(compact_sorted _).2, List.mem_append, mem_clos (ends2 h), mem_clos (ends2 h), mem_clos (ends2 h)]
    constructor
    · rintro ⟨x, hx, hn, hr⟩
      rcases List.mem_append.1 hx with hx | hx
      · exact .inl ⟨x, hx, hn, hr⟩
      · exact .inr ⟨x, hx, hn, hr⟩
    · rintro (⟨x, hx, hn, hr⟩ | ⟨x, hx, hn, hr⟩)
      · exact ⟨x, List.mem_append_left _ hx, hn, hr⟩
      · exact ⟨x, List.mem_append_right _ hx, hn, hr⟩
end

theorem edges_few {G : Gr} (h : G.ns.length ≤ 1000) : G.edges.length ≤ 1048576 := by
  have : ∀ (l : List Str), (l.flatMap (outEdges G)).length ≤ l.length * G.ns.length := by
    intro l
    induction l with
    | nil => simp
    | cons a r ih =>
      have h1 : (outEdges G a).length ≤ G.ns.length := by
        simp only [outEdges, List.length_map]
        exact List.length_filter_le _ _
      rw [List.flatMap_cons, List.length_append, List.length_cons, Nat.add_mul]
      omega
  have h1 := this G.ns
  rw [edges_flat]
  have h2 : G.ns.length * G.ns.length ≤ 1000 * 1000 := Nat.mul_le_mul h h
  omega

/-- Equal at two slices that hold one list. -/
theorem equal_one {w : World} {v1 v2 : Value} {l : List Str} (h1 : IsStrs w v1 l) (h2 : IsStrs w v2 l) (hs : l.length ≤ 1048576) : Calls Try.prog 10 #[v1, v2] w fun e w' => e = .returned (.bool true) ∧ Below w.heap.size w w' := by
  refine (equal_is h1 h2 hs hs).mono ?_
  rintro e w' ⟨rfl, hb⟩
  exact ⟨by simp, hb⟩

theorem below_got {S : Nat → Prop} {w : World} {p : Nat} {G : Gr} {v : Value} {l : List Str} (h : IsGraph S w p G) (hv : IsStrs w v l) (hsl : ∀ x ∈ l, x.length ≤ maxLen) (hl : l.length ≤ 1048576) : Calls Try.prog 14 #[ptr p, v] w (Got (clos G G.e l) w) := by
  obtain ⟨a, cap, rfl, hat⟩ := hv.at
  exact (below_is h a cap _ l rfl hat hsl (by omega)).mono fun _ _ k => k.got
theorem above_got {S : Nat → Prop} {w : World} {p : Nat} {G : Gr} {v : Value} {l : List Str} (h : IsGraph S w p G) (hv : IsStrs w v l) (hsl : ∀ x ∈ l, x.length ≤ maxLen) (hl : l.length ≤ 1048576) : Calls Try.prog 15 #[ptr p, v] w (Got (clos G G.turn.e l) w) := by
  obtain ⟨a, cap, rfl, hat⟩ := hv.at
  exact (above_is h a cap _ l rfl hat hsl (by omega)).mono fun _ _ k => k.got

theorem below_one {S : Nat → Prop} {w : World} {p : Nat} {G : Gr} {v : Value} {l : List Str} (h : IsGraph S w p G) (hok : G.ok) (hv : IsStrs w v (clos G G.e l)) (hsl : ∀ x ∈ clos G G.e l, x.length ≤ maxLen) (hl : (clos G G.e l).length ≤ 100) : Calls Try.prog 14 #[ptr p, v] w (Got (clos G G.e l) w) := by
  have := below_got h hv hsl (by omega)
  rw [clos_clos hok] at this
  exact this
theorem above_turn {S : Nat → Prop} {w : World} {p : Nat} {G : Gr} {v : Value} {l : List Str} (h : IsGraph S w p G.turn) (hv : IsStrs w v l) (hsl : ∀ x ∈ l, x.length ≤ maxLen) (hl : l.length ≤ 1048576) : Calls Try.prog 15 #[ptr p, v] w (Got (clos G G.e l) w) := above_got h hv hsl hl
theorem below_turn {S : Nat → Prop} {w : World} {p : Nat} {G : Gr} {v : Value} {l : List Str} (h : IsGraph S w p G.turn) (hv : IsStrs w v l) (hsl : ∀ x ∈ l, x.length ≤ maxLen) (hl : l.length ≤ 1048576) : Calls Try.prog 14 #[ptr p, v] w (Got (clos G G.turn.e l) w) := below_got h hv hsl hl

/-- What is held while the law runs. -/
structure GCx (w : World) (S : Nat → Prop) (p : Nat) (G : Gr) (va vb vx vy : Value) (la lb : List Str) (wi : World) : Prop where
  below : Below w.heap.size w wi
  gr : IsGraph S wi p G
  a : IsStrs wi va la
  b : IsStrs wi vb lb
  x : IsStrs wi vx (clos G G.e la)
  y : IsStrs wi vy (clos G G.e lb)

theorem GCx.go {w : World} {S : Nat → Prop} {p : Nat} {G : Gr} {va vb vx vy : Value} {la lb : List Str} {wi wj : World} (h : GCx w S p G va vb vx vy la lb wi) (hb : Below wi.heap.size wi wj) : GCx w S p G va vb vx vy la lb wj :=
  ⟨h.below.trans (hb.mono h.below.size), h.gr.below hb, h.a.below hb, h.b.below hb, h.x.below hb, h.y.below hb⟩

def ClRel (w6 : World) (n : Nat) (g : Nat) (iv : Value) (wr : World) : Prop := ∃ k : Nat, k + g = n ∧ iv = .int .i64 k ∧ Below w6.heap.size w6 wr

set_option maxHeartbeats 8000000 in
set_option maxRecDepth 100000 in
theorem gclosed_near {w : World} {ve vn va vb : Value} {le : EdgeL} {ln la lb : List Str} (he : IsEdges w ve le) (hn : IsStrs w vn ln) (ha : IsStrs w va la) (hb : IsStrs w vb lb)
    (se : ∀ x ∈ le, x.1.length ≤ maxLen ∧ x.2.length ≤ maxLen) (sn : ∀ x ∈ ln, x.length ≤ maxLen) (sa : ∀ x ∈ la, x.length ≤ maxLen) (sb : ∀ x ∈ lb, x.length ≤ maxLen)
    (le40 : le.length ≤ 40) (ln20 : ln.length ≤ 20) (la10 : la.length ≤ 10) (lb10 : lb.length ≤ 10) :
    Calls Try.prog 4 #[ve, vn, va, vb] w fun e w' => e = .returned (.bool true) ∧ Below w.heap.size w w' := by
  obtain ⟨ae, ce, rfl, -⟩ := id he
  obtain ⟨an, cn, rfl, -⟩ := id hn
  obtain ⟨aa, ca, rfl, -⟩ := id ha
  obtain ⟨ab, cb, rfl, -⟩ := id hb
  have H := Hid.mk (And.intro he (And.intro hn (And.intro ha hb)))
  have Hs := Hid.mk (And.intro se (And.intro sn (And.intro sa sb)))
  have t1 : ¬ (10 : Int) < la.length := by omega
  have t2 : ¬ (10 : Int) < lb.length := by omega
  have Hl := Hid.mk (And.intro le40 ln20)
  clear he hn ha hb se sn sa sb
  go_enter Try.func4, Try.ntmps4
  go_wp2_with fail
  refine (works_is w).mono ?_
  rintro e w1 ⟨rfl, hb⟩
  have Hb1 := Hid.mk hb
  clear hb
  go_wp2_with fail
  refine (long_near _ _ _ _ _ _ w1 Hl.out).mono ?_
  rintro e w2 ⟨rfl, rfl⟩
  go_wp2_with fail
  refine (made_is (H.out.1.below Hb1.out) (H.out.2.1.below Hb1.out) Hs.out.1 Hs.out.2.1 (by omega) (by omega)).mono ?_
  rintro e w3 ⟨S, p, rfl, hg, hb, hp, hS⟩
  have Hb3 := Hid.mk (Hb1.out.trans (hb.mono Hb1.out.size))
  have Hg := Hid.mk hg
  have hfew := made_few le ln
  generalize madeOf le ln = G at Hg hfew hg
  have Hok := Hid.mk hg.ok
  have Hfew := Hid.mk (show G.ns.length ≤ 100 by omega)
  clear hb hp hS hg hfew Hb1
  go_wp2_with fail
  refine (below_got Hg.out (H.out.2.2.1.below Hb3.out) Hs.out.2.2.1 (by omega)).mono ?_
  rintro e w4 ⟨vx, rfl, hx, hb⟩
  have Hb4 := Hid.mk (Hb3.out.trans (hb.mono Hb3.out.size))
  have Hg4 := Hid.mk (Hg.out.below hb)
  have Hx := Hid.mk hx
  clear hb hx Hg Hb3
  go_wp2_with fail
  refine (below_got Hg4.out (H.out.2.2.2.below Hb4.out) Hs.out.2.2.2 (by omega)).mono ?_
  rintro e w5 ⟨vy, rfl, hy, hb⟩
  have hb5 := Hb4.out.trans (hb.mono Hb4.out.size)
  have C := Hid.mk (show GCx w S p G _ _ vx vy la lb w5 from ⟨hb5, Hg4.out.below hb, H.out.2.2.1.below hb5, H.out.2.2.2.below hb5, Hx.out.below hb, hy⟩)
  clear hb hb5 hy Hx Hg4 Hb4 H
  obtain ⟨ax, cx, rfl, hxc⟩ := C.out.x
  have Hxc := Hid.mk hxc
  have lx : (clos G G.e la).length ≤ 100 := Nat.le_trans (List.length_filter_le _ _) Hfew.out
  have ly : (clos G G.e lb).length ≤ 100 := Nat.le_trans (List.length_filter_le _ _) Hfew.out
  have Sx := Hid.mk (show ∀ x ∈ clos G G.e la, x.length ≤ maxLen from fun x hx => Hok.out.short x (clos_mem_ns hx))
  have Sab := Hid.mk (show ∀ x ∈ la ++ lb, x.length ≤ maxLen from fun x hx => (List.mem_append.1 hx).elim (Hs.out.2.2.1 x) (Hs.out.2.2.2 x))
  have Lab := Hid.mk (show (clos G G.e (la ++ lb)).length ≤ 100 from Nat.le_trans (List.length_filter_le _ _) Hfew.out)
  have Lt := Hid.mk (show (clos G G.turn.e la).length ≤ 100 from Nat.le_trans (List.length_filter_le _ _) Hfew.out)
  have Hed := Hid.mk (edges_few (G := G) (by have := Hfew.out; omega))
  have hfew := Hfew.out
  clear hxc
  go_wp2
  go_loopg [44] (clos G G.e la).length (fun g iv wr => ClRel w5 (clos G G.e la).length g iv wr)
  case atStart => exact ⟨0, by omega, rfl, Below.refl _ _⟩
  case round =>
    rename World => wp
    obtain ⟨k, hkg, rfl, hbel⟩ := hrel
    cases gk with
    | zero =>
      obtain rfl : k = (clos G G.e la).length := by omega
      replace C := Hid.mk (C.out.go hbel)
      clear hbel Hxc
      go_wp2_with fail
      refine (below_one C.out.gr Hok.out C.out.x Sx.out lx).mono ?_
      rintro e wn ⟨v, rfl, hv, hb⟩
      replace C := Hid.mk (C.out.go hb)
      have Hv := Hid.mk hv
      clear hv
      clear hb
      go_wp2_with fail
      refine (equal_one Hv.out C.out.x (by omega)).mono ?_
      rintro e wn ⟨rfl, hb⟩
      replace C := Hid.mk (C.out.go hb)
      clear Hv
      clear hb
      go_wp2_with fail
      refine (concat_is C.out.a C.out.b (by omega) (by omega)).mono ?_
      rintro e wn ⟨v, rfl, hv, hb⟩
      replace C := Hid.mk (C.out.go hb)
      have Hv := Hid.mk hv.is
      clear hv
      clear hb
      go_wp2_with fail
      refine (below_got C.out.gr Hv.out Sab.out (by rw [List.length_append]; omega)).mono ?_
      rintro e wn ⟨v, rfl, hv, hb⟩
      replace C := Hid.mk (C.out.go hb)
      replace Hv := Hid.mk hv
      clear hv
      clear hb
      go_wp2_with fail
      refine (both_is C.out.x C.out.y (by omega) (by omega)).mono ?_
      rintro e wn ⟨v, rfl, hv, hb⟩
      replace C := Hid.mk (C.out.go hb)
      replace Hv := Hid.mk (Hv.out.below hb)
      rw [← clos_append Hok.out] at hv
      have Hv2 := Hid.mk hv
      clear hv
      clear hb
      go_wp2_with fail
      refine (equal_one Hv.out Hv2.out (by have := Lab.out; omega)).mono ?_
      rintro e wn ⟨rfl, hb⟩
      replace C := Hid.mk (C.out.go hb)
      clear Hv Hv2
      clear hb
      go_wp2_with fail
      refine (turn_is C.out.gr (by omega) Hed.out).mono ?_
      rintro e wn ⟨S2, p2, rfl, hg, hb, -, -⟩
      replace C := Hid.mk (C.out.go hb)
      have Hg := Hid.mk hg
      clear hg
      clear hb
      go_wp2_with fail
      refine (above_turn Hg.out C.out.a Hs.out.2.2.1 (by omega)).mono ?_
      rintro e wn ⟨v, rfl, hv, hb⟩
      replace C := Hid.mk (C.out.go hb)
      have Hv := Hid.mk hv
      clear hv Hg
      clear hb
      go_wp2_with fail
      refine (equal_one Hv.out C.out.x (by omega)).mono ?_
      rintro e wn ⟨rfl, hb⟩
      replace C := Hid.mk (C.out.go hb)
      clear Hv
      clear hb
      go_wp2_with fail
      refine (turn_is C.out.gr (by omega) Hed.out).mono ?_
      rintro e wn ⟨S3, p3, rfl, hg, hb, -, -⟩
      replace C := Hid.mk (C.out.go hb)
      have Hg := Hid.mk hg
      clear hg
      clear hb
      go_wp2_with fail
      refine (below_turn Hg.out C.out.a Hs.out.2.2.1 (by omega)).mono ?_
      rintro e wn ⟨v, rfl, hv, hb⟩
      replace C := Hid.mk (C.out.go hb)
      have Hv := Hid.mk hv
      clear hv Hg
      clear hb
      go_wp2_with fail
      refine (above_got C.out.gr C.out.a Hs.out.2.2.1 (by omega)).mono ?_
      rintro e wn ⟨v, rfl, hv, hb⟩
      replace C := Hid.mk (C.out.go hb)
      replace Hv := Hid.mk (Hv.out.below hb)
      have Hv2 := Hid.mk hv
      clear hv
      clear hb
      go_wp2_with fail
      refine (equal_one Hv.out Hv2.out (by have := Lt.out; omega)).mono ?_
      rintro e wn ⟨rfl, hb⟩
      replace C := Hid.mk (C.out.go hb)
      clear Hv Hv2
      clear hb
      go_wp2
      go_ret
      exact ⟨rfl, C.out.below⟩
    | succ g =>
      have hlt : k < (clos G G.e la).length := by omega
      obtain ⟨gx, off, rfl, hgx, hcells⟩ : ∃ gx off, ax = some ⟨gx, off, none⟩ ∧ gx < w5.heap.size ∧ ∀ i (h : i < (clos G G.e la).length), w5.cell? ⟨gx, off + i, none⟩ = some (strV (clos G G.e la)[i]) := by
        rcases Hxc.out with e | h
        · rw [e] at hlt; simp at hlt
        · exact h
      have hck : wp.cell? ⟨gx, off + k, none⟩ = some (strV (clos G G.e la)[k]) := cell_block (hcells k hlt) (hbel.block _ hgx)
      have hmem := List.getElem_mem hlt
      generalize (clos G G.e la)[k] = x at hck hmem
      have hxn := clos_mem_ns hmem
      have hxl := Hok.out.short x hxn
      have hC := C.out.go hbel
      have Hhas := Hid.mk (has_is hC.gr x hxl)
      rw [show decide (x ∈ G.ns) = true from by simpa using hxn] at Hhas
      have Hout := Hid.mk (out_is hC.gr x hxl)
      have Hbel := Hid.mk hbel
      have Hmem := Hid.mk hmem
      have lo : (G.out x).length ≤ 100 := Nat.le_trans (List.length_filter_le _ _) Hfew.out
      clear hcells hmem hxn hC hbel
      go_wp2_with fail
      refine Hhas.out.mono ?_
      rintro e wn ⟨rfl, rfl⟩
      clear Hhas
      go_wp2_with fail
      refine Hout.out.mono ?_
      rintro e w7 ⟨vo, rfl, hvo, hb⟩
      have Hbel7 := Hid.mk (Hbel.out.trans (hb.mono Hbel.out.size))
      obtain ⟨ao, co, rfl, hco⟩ := hvo.open
      have Hco := Hid.mk hco
      clear Hout hb hvo hco Hbel hck
      go_wp2
      go_loopg [56] (G.out x).length (fun g iv wr => ∃ j : Nat, j + g = (G.out x).length ∧ iv = .int .i64 j ∧ w7 = wr)
      case atStart => exact ⟨0, by omega, rfl, rfl⟩
      case round =>
        obtain ⟨j, hjg, rfl, rfl⟩ := hrel
        cases gk with
        | zero =>
          obtain rfl : j = (G.out x).length := by omega
          go_wp2
          go_roundg g
          case measure => omega
          case rel => exact ⟨k + 1, by omega, by go_num, Hbel7.out⟩
        | succ g2 =>
          have hjl : j < (G.out x).length := by omega
          obtain ⟨go, rfl, _, _, hc2⟩ : ∃ go, ao = some ⟨go, 0, none⟩ ∧ wp.heap.size ≤ go ∧ go < w7.heap.size ∧ ∀ i (h : i < (G.out x).length), w7.cell? ⟨go, i, none⟩ = some (strV (G.out x)[i]) := by
            rcases Hco.out with e | h
            · rw [e] at hjl; simp at hjl
            · exact h
          have hcj := hc2 j hjl
          have hym := clos_shut Hok.out Hmem.out (Hok.out.mem_out.1 (List.getElem_mem hjl))
          have hcon := contains_yes (C.out.go Hbel7.out).x (by omega) hym
          generalize (G.out x)[j] = y at hcj hcon
          have Hcon := Hid.mk hcon
          clear hc2 hym hcon
          go_wp2_with (go_at_call 24; refine Hcon.out.mono ?_; rintro e wn ⟨rfl, rfl⟩)
          go_roundg g2
          case measure => omega
          case rel => exact ⟨j + 1, by omega, by go_num, rfl⟩

set_option maxHeartbeats 2000000 in
set_option maxRecDepth 100000 in
theorem gclosed_far {w : World} (ae an aa ab : Option Addr) (ne ce nn cn na ca nb cb : Nat) (hfar : ¬ (ne ≤ 40 ∧ nn ≤ 20 ∧ na ≤ 10 ∧ nb ≤ 10)) :
    Calls Try.prog 4 #[.slice ae ne ce, .slice an nn cn, .slice aa na ca, .slice ab nb cb] w fun e w' => e = .returned (.bool true) ∧ Below w.heap.size w w' := by
  by_cases h1 : 40 < ne ∨ 20 < nn
  · have Hl := Hid.mk h1
    clear hfar h1
    go_enter Try.func4, Try.ntmps4
    go_wp2_with fail
    refine (works_is w).mono ?_
    rintro e w1 ⟨rfl, hb⟩
    have Hb1 := Hid.mk hb
    clear hb
    go_wp2_with fail
    refine (long_far _ _ _ _ _ _ w1 Hl.out).mono ?_
    rintro e w2 ⟨rfl, rfl⟩
    go_wp2
    go_ret
    exact ⟨rfl, Hb1.out⟩
  · have Hl := Hid.mk (show ne ≤ 40 ∧ nn ≤ 20 by omega)
    by_cases h2 : (10 : Int) < na
    · clear hfar h1
      go_enter Try.func4, Try.ntmps4
      go_wp2_with fail
      refine (works_is w).mono ?_
      rintro e w1 ⟨rfl, hb⟩
      have Hb1 := Hid.mk hb
      clear hb
      go_wp2_with fail
      refine (long_near _ _ _ _ _ _ w1 Hl.out).mono ?_
      rintro e w2 ⟨rfl, rfl⟩
      go_wp2
      go_ret
      exact ⟨rfl, Hb1.out⟩
    · have h3 : (10 : Int) < nb := by omega
      clear hfar h1
      go_enter Try.func4, Try.ntmps4
      go_wp2_with fail
      refine (works_is w).mono ?_
      rintro e w1 ⟨rfl, hb⟩
      have Hb1 := Hid.mk hb
      clear hb
      go_wp2_with fail
      refine (long_near _ _ _ _ _ _ w1 Hl.out).mono ?_
      rintro e w2 ⟨rfl, rfl⟩
      go_wp2
      go_ret
      exact ⟨rfl, Hb1.out⟩

theorem gclosed_any {w : World} {ve vn va vb : Value} {le : EdgeL} {ln la lb : List Str} (he : IsEdges w ve le) (hn : IsStrs w vn ln) (ha : IsStrs w va la) (hb : IsStrs w vb lb)
    (se : ∀ x ∈ le, x.1.length ≤ maxLen ∧ x.2.length ≤ maxLen) (sn : ∀ x ∈ ln, x.length ≤ maxLen) (sa : ∀ x ∈ la, x.length ≤ maxLen) (sb : ∀ x ∈ lb, x.length ≤ maxLen) :
    Calls Try.prog 4 #[ve, vn, va, vb] w fun e w' => e = .returned (.bool true) ∧ Below w.heap.size w w' := by
  by_cases h : le.length ≤ 40 ∧ ln.length ≤ 20 ∧ la.length ≤ 10 ∧ lb.length ≤ 10
  · exact gclosed_near he hn ha hb se sn sa sb h.1 h.2.1 h.2.2.1 h.2.2.2
  · obtain ⟨_, _, rfl, -⟩ := he
    obtain ⟨_, _, rfl, -⟩ := hn
    obtain ⟨_, _, rfl, -⟩ := ha
    obtain ⟨_, _, rfl, -⟩ := hb
    exact gclosed_far _ _ _ _ _ _ _ _ _ _ _ _ h

end Go.Proofs.Ytiinmmgknlnkaaa
