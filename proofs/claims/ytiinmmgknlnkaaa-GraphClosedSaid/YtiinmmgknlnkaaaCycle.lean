/-
  graph.Cycle.
-/
import Derived.Test.YtiinmmgknlnkaaaCompare
namespace Go.Proofs.Ytiinmmgknlnkaaa
open Go.RowKit Go.Maps

def better (c best : List Str) : Bool := decide (c.length < best.length) || (decide (c.length = best.length) && decide (cmpL c best < 0))

def cycStep (G : Gr) (name : Str) (b : Option (List Str)) (n : Str) : Option (List Str) :=
  match wayOf G n name with
  | none => b
  | some w => match b with
    | none => some (name :: w.dropLast)
    | some best => if better (name :: w.dropLast) best then some (name :: w.dropLast) else b

def cycName (G : Gr) (b : Option (List Str)) (name : Str) : Option (List Str) := (G.out name).foldl (cycStep G name) b
def cycleOf (G : Gr) : Option (List Str) := G.ns.foldl (cycName G) none

/-- A list in a slice of its own; nothing: nil. -/
def BestIs (w : World) (B : Nat) (v : Value) (b : Option (List Str)) : Prop :=
  match b with
  | none => v = .slice none 0 0
  | some c => ∃ g cap, v = .slice (some ⟨g, 0, none⟩) c.length cap ∧ OwnStrs w B v c ∧ c ≠ [] ∧ c.length ≤ 1048576

theorem BestIs.below {w w' : World} {B : Nat} {v : Value} {b : Option (List Str)} (h : BestIs w B v b) (hb : Below w.heap.size w w') : BestIs w' B v b := by
  cases b with
  | none => exact h
  | some c =>
    obtain ⟨g, cap, hv, ho, hc, hl⟩ := h
    exact ⟨g, cap, hv, ho.below hb, hc, hl⟩

theorem OwnStrs.caps {w : World} {B g n cap : Nat} {l : List Str} (h : OwnStrs w B (.slice (some ⟨g, 0, none⟩) n cap) l) : n = l.length ∧ n ≤ cap ∧ cap ≤ maxLen := by
  obtain ⟨h1, ⟨hv, _⟩ | ⟨g', cap', cur, hv, hg, hb, hn, hm, hs, ht⟩⟩ := h
  · cases hv
  · simp only [Value.slice.injEq] at hv
    obtain ⟨_, h2, h3⟩ := hv
    omega

theorem OwnStrs.open {w : World} {b : Nat} {v : Value} {l : List Str} (h : OwnStrs w b v l) :
    ∃ an cap, v = .slice an l.length cap ∧ (l = [] ∨ ∃ g, an = some ⟨g, 0, none⟩ ∧ b ≤ g ∧ g < w.heap.size ∧ ∀ i (h : i < l.length), w.cell? ⟨g, i, none⟩ = some (strV l[i])) := by
  rcases h.shape with ⟨rfl, rfl⟩ | ⟨g, cap, rfl, hb, hg, hc⟩
  · exact ⟨none, 0, rfl, .inl rfl⟩
  · exact ⟨_, cap, rfl, .inr ⟨g, rfl, hb, hg, hc⟩⟩

theorem below_appS {w0 w w' : World} {base : Nat} {v : Value} {l : List Str} (hb : Below w0.heap.size w0 w) (h : OwnStrs w base v l) (hbase : w0.heap.size ≤ base) (hg : w.grownBy w' v.ownBlock) : Below w0.heap.size w0 w' :=
  ⟨hg.os.trans hb.os, hg.tape.trans hb.tape, hg.output.trans hb.output, Nat.le_trans hb.size hg.size, fun z hz => (hg.block z (Nat.lt_of_lt_of_le hz hb.size) (fun e => by
    have := (h.block e.symm).1
    omega)).trans (hb.block z hz)⟩

/-- 'append(l, m...)': as an equation on the run. -/
theorem run_appL (w : World) (base : Nat) (v : Value) (l : List Str) (hown : OwnStrs w base v l) (g c : Nat) (m : List Str) (hm : ∀ i (h : i < m.length), w.cell? ⟨g, i, none⟩ = some (strV m[i])) (hlen : l.length + m.length ≤ 8388608) (hbase : base ≤ w.heap.size) :
    ∃ v' w', (Builtin.append_ #[27, 27] 27 #[v, .slice (some ⟨g, 0, none⟩) m.length c]).run Try.prog w = .ok v' w' ∧ OwnStrs w' base v' (l ++ m) ∧ w.grownBy w' v.ownBlock := by
  obtain ⟨i0, hi, hz0, hz1, hz2⟩ := info_parts infoStr
  obtain ⟨v', w', hr, hown', hgr, hnil, hloc⟩ := run_append_own_at (P := Try.prog) w base 27 27 9 i0 (.string ByteArray.empty) 1 16 Try.underlying27 hi hz0 hz1 hz2 rfl (by decide) v l.length (l.map strV) hown ⟨g, 0, none⟩ m.length c (m.map strV) (by simp) (fun j u hu => by
    by_cases hj : j < m.length
    · simp [hj] at hu
      subst hu
      have h0 := hm j hj
      by_cases hj0 : j = 0
      · subst hj0; simpa [Addr.add] using h0
      · simpa [Addr.add, hj0] using h0
    · simp [hj] at hu) (by simp [Value.oneCell']) (by unfold maxLen; omega) (by omega) hbase
  refine ⟨v', w', hr, ?_, hgr⟩
  unfold OwnStrs
  rw [List.map_append, List.length_append]
  exact hown'

theorem foldl_take_succ {α β : Type} (f : β → α → β) (b : β) (l : List α) (k : Nat) (h : k < l.length) : (l.take (k + 1)).foldl f b = f ((l.take k).foldl f b) l[k] := by
  rw [List.take_succ_eq_append_getElem h, List.foldl_append]
  rfl

def CyRel (w w1 : World) (G : Gr) (g : Nat) (bv iv : Value) (wr : World) : Prop :=
  ∃ k : Nat, k + g = G.ns.length ∧ iv = .int .i64 k ∧ BestIs wr w.heap.size bv ((G.ns.take k).foldl (cycName G) none) ∧ Below w1.heap.size w1 wr

def CxRel (w w2 : World) (G : Gr) (name : Str) (b0 : Option (List Str)) (g : Nat) (bv iv : Value) (wr : World) : Prop :=
  ∃ j : Nat, j + g = (G.out name).length ∧ iv = .int .i64 j ∧ BestIs wr w.heap.size bv (((G.out name).take j).foldl (cycStep G name) b0) ∧ Below w2.heap.size w2 wr

theorem cycle_nil (w : World) : Calls Try.prog 9 #[.pointer none] w fun e w' => e = .returned (.tuple #[.slice none 0 0, .bool false]) ∧ w = w' := by
  have hnq := fun wx => run_neq_slice_nil_any (P := Try.prog) wx 27 9 none 0 0 0 0 Try.underlying27
  go_enter Try.func9, Try.ntmps9
  go_wp2_with (go_at_call 11; refine (names_nil _).mono ?_; rintro e w' ⟨rfl, rfl⟩)
  refine wp_loop_rounds 1 ?_
  rw [rounds_succ]
  go_wp2
  go_ret2
  exact ⟨rfl, rfl⟩

theorem cyc_fin {w wr : World} {G : Gr} {bv : Value} (hb : BestIs wr w.heap.size bv (cycleOf G)) (hbel : Below w.heap.size w wr) :
    (cycleOf G = none ∧ bv = .slice none 0 0 ∧ OptPost (cycleOf G) w (.returned (.tuple #[.slice none 0 0, .bool false])) wr) ∨ ∃ g n cap, bv = .slice (some ⟨g, 0, none⟩) n cap ∧ OptPost (cycleOf G) w (.returned (.tuple #[.slice (some ⟨g, 0, none⟩) n cap, .bool true])) wr := by
  cases he : cycleOf G with
  | none =>
    rw [he] at hb
    exact .inl ⟨rfl, hb, _, rfl, OwnStrs.nil _ _, hbel⟩
  | some c =>
    rw [he] at hb
    obtain ⟨g, cap, rfl, ho, _, _⟩ := hb
    exact .inr ⟨g, c.length, cap, rfl, _, rfl, ho, hbel⟩

theorem wayOf_length {G : Gr} (h : G.ok) {a b : Str} {l : List Str} (hw : wayOf G a b = some l) : ∃ k, l.length = k + 1 ∧ k < 1048576 := by
  unfold wayOf at hw
  split at hw
  · rename_i hab
    simp only [Option.map_eq_some_iff] at hw
    obtain ⟨k, hk, rfl⟩ := hw
    have := dist_lt h (by simp_all) ((distOf_some h (by simp_all)).1 hk)
    have := h.few
    exact ⟨k, wayFrom_length _ _ _ _, by omega⟩
  · cases hw

set_option maxHeartbeats 4000000 in
set_option maxRecDepth 100000 in
theorem cycle_is {S : Nat → Prop} {w : World} {p : Nat} {G : Gr} (h : IsGraph S w p G) : Calls Try.prog 9 #[ptr p] w (OptPost (cycleOf G) w) := by
  have hok := h.ok
  have Hgr := Hid.mk h
  have Hok := Hid.mk hok
  have hfew := hok.few
  have hN := Hid.mk (names_is h)
  clear h hok
  go_enter Try.func9, Try.ntmps9
  go_wp2_with fail
  refine hN.out.mono ?_
  rintro e w1 ⟨vn, rfl, hvn, hb1⟩
  clear hN
  obtain ⟨an, capn, rfl, hcn⟩ := hvn.open
  have Hcn := Hid.mk hcn
  have Hb1 := Hid.mk hb1
  clear hvn hcn hb1
  go_wp2
  go_loopg [4, 15] G.ns.length (fun g bv iv wr => CyRel w w1 G g bv iv wr)
  case atStart => exact ⟨0, by omega, rfl, rfl, Below.refl _ _⟩
  case round =>
    rename World => wp
    obtain ⟨k, hkg, rfl, hbest, hbel⟩ := hrel
    have hbelw := Hb1.out.trans (hbel.mono Hb1.out.size)
    cases gk with
    | zero =>
      obtain rfl : k = G.ns.length := by omega
      rw [List.take_length] at hbest
      rcases cyc_fin hbest hbelw with ⟨_, rfl, hfin⟩ | ⟨gb, nb, cb, rfl, hfin⟩
      · have Hfin := Hid.mk hfin
        have hnq := run_neq_slice_nil_any (P := Try.prog) wp 27 9 none 0 0 0 0 Try.underlying27
        clear hfin hbest hbel hbelw
        go_wp2
        go_ret2
        exact Hfin.out
      · have Hfin := Hid.mk hfin
        have hnq := run_neq_slice_nil_any (P := Try.prog) wp 27 9 (some ⟨gb, 0, none⟩) nb cb 0 0 Try.underlying27
        clear hfin hbest hbel hbelw
        go_wp2
        go_ret2
        exact Hfin.out
    | succ g =>
      have hlt : k < G.ns.length := by omega
      obtain ⟨gn, rfl, hgn, hgs, hcells⟩ : ∃ gn, an = some ⟨gn, 0, none⟩ ∧ w.heap.size ≤ gn ∧ gn < w1.heap.size ∧ ∀ i (h : i < G.ns.length), w1.cell? ⟨gn, i, none⟩ = some (strV G.ns[i]) := by
        rcases Hcn.out with e | h
        · rw [e] at hlt; simp at hlt
        · exact h
      have hck : wp.cell? ⟨gn, k, none⟩ = some (strV G.ns[k]) := cell_block (hcells k hlt) (hbel.block _ hgs)
      have Hstep := Hid.mk (foldl_take_succ (cycName G) none G.ns k hlt)
      have hxl := Hok.out.short _ (List.getElem_mem hlt)
      have hxn : G.ns[k] ∈ G.ns := List.getElem_mem hlt
      generalize hB0 : (G.ns.take k).foldl (cycName G) none = b0 at hbest Hstep
      generalize G.ns[k] = name at hck Hstep hxl hxn
      have hgr := Hgr.out.below hbelw
      have hO := Hid.mk (out_is hgr name hxl)
      have hfO : (G.out name).length ≤ 1048576 := few_out Hok.out name
      have Hbest := Hid.mk hbest
      have Hbel := Hid.mk (And.intro hbel hbelw)
      clear hcells hbest hbel hbelw hB0 hgr
      go_wp2_with fail
      refine hO.out.mono ?_
      rintro e w2 ⟨vo, rfl, hvo, hb2⟩
      clear hO
      obtain ⟨ao, capo, rfl, hco⟩ := hvo.open
      have Hco := Hid.mk hco
      have Hbest2 := Hid.mk (Hbest.out.below hb2)
      have Hb2 := Hid.mk hb2
      clear hvo hco hb2 Hbest hck
      go_wp2
      go_loopg [4, 23] (G.out name).length (fun g bv iv wr => CxRel w w2 G name b0 g bv iv wr)
      case atStart => exact ⟨0, by omega, rfl, Hbest2.out, Below.refl _ _⟩
      case round =>
        clear Hbest2
        rename World => wq
        obtain ⟨j, hjg, rfl, hbest, hbel⟩ := hrel
        have hbw2 : Below w.heap.size w w2 := (Hbel.out).2.trans (Hb2.out.mono (Hbel.out).2.size)
        have hb12 : Below w1.heap.size w1 w2 := (Hbel.out).1.trans (Hb2.out.mono (Hbel.out).1.size)
        have hbwq : Below w.heap.size w wq := hbw2.trans (hbel.mono hbw2.size)
        have hb1q : Below w1.heap.size w1 wq := hb12.trans (hbel.mono hb12.size)
        cases gk with
        | zero =>
          obtain rfl : j = (G.out name).length := by omega
          rw [List.take_length] at hbest
          have Hrel := Hid.mk (show ∀ i : Int, i = (k : Int) + 1 → CyRel w w1 G g _ (.int .i64 i) wq from fun i hi => ⟨k + 1, by omega, by subst hi; exact congrArg _ (by omega), by rw [Hstep.out]; exact hbest, hb1q⟩)
          clear hbest hbel hbw2 hb12 hbwq hb1q
          go_wp2
          go_roundg g
          case measure => omega
          case rel => exact Hrel.out _ rfl
        | succ g2 =>
          have hjl : j < (G.out name).length := by omega
          obtain ⟨go, rfl, hgo, hgs2, hcells2⟩ : ∃ go, ao = some ⟨go, 0, none⟩ ∧ wp.heap.size ≤ go ∧ go < w2.heap.size ∧ ∀ i (h : i < (G.out name).length), w2.cell? ⟨go, i, none⟩ = some (strV (G.out name)[i]) := by
            rcases Hco.out with e | h
            · rw [e] at hjl; simp at hjl
            · exact h
          have hcj : wq.cell? ⟨go, j, none⟩ = some (strV (G.out name)[j]) := cell_block (hcells2 j hjl) (hbel.block _ hgs2)
          have hstep2 := foldl_take_succ (cycStep G name) b0 (G.out name) j hjl
          have hyl := Hok.out.short _ (Hok.out.ends _ _ (Hok.out.mem_out.1 (List.getElem_mem hjl))).2
          generalize (G.out name)[j] = y at hcj hstep2 hyl
          generalize ((G.out name).take j).foldl (cycStep G name) b0 = bc at hbest hstep2
          have hgrq := Hgr.out.below hbwq
          have hW := Hid.mk (way_is hgrq y name hyl hxl)
          have Hbest := Hid.mk hbest
          have Hq := Hid.mk (And.intro hbel (And.intro hbwq hb1q))
          have Hstep2 := Hid.mk hstep2
          clear hcells2 hbest hbel hbw2 hb12 hbwq hb1q hgrq hstep2
          go_wp2_with fail
          refine hW.out.mono ?_
          rintro e w3 ⟨vw, rfl, hvw, hb3⟩
          clear hW
          have hb23 : Below w2.heap.size w2 w3 := (Hq.out).1.trans (hb3.mono (Hq.out).1.size)
          have hbw3 : Below w.heap.size w w3 := (Hq.out).2.1.trans (hb3.mono (Hq.out).2.1.size)
          have hbest3 := Hbest.out.below hb3
          cases hway : wayOf G y name with
          | none =>
            have Hrel := Hid.mk (show ∀ i : Int, i = (j : Int) + 1 → CxRel w w2 G name b0 g2 _ (.int .i64 i) w3 from fun i hi => ⟨j + 1, by omega, by subst hi; exact congrArg _ (by omega), by rw [Hstep2.out]; simp only [cycStep, hway]; exact hbest3, hb23⟩)
            clear hvw hb3 hb23 hbw3 hbest3 Hbest hway
            go_wp2
            go_roundg g2
            case measure => omega
            case rel => exact Hrel.out _ rfl
          | some l =>
            obtain ⟨m, hml, hm2⟩ := wayOf_length Hok.out hway
            rw [hway] at hvw
            obtain ⟨gw, capw, rfl, hgw, hgw2, hcw⟩ : ∃ g cap, vw = .slice (some ⟨g, 0, none⟩) (m + 1) cap ∧ wq.heap.size ≤ g ∧ g < w3.heap.size ∧ ∀ i (h : i < l.length), w3.cell? ⟨g, i, none⟩ = some (strV l[i]) := by
              rcases OwnStrs.shape hvw with ⟨_, e⟩ | ⟨g, cap, e, h1, h2, h3⟩
              · simp only [Option.getD_some] at e; rw [e] at hml; simp at hml
              · simp only [Option.getD_some] at e h3; rw [hml] at e; exact ⟨g, cap, e, h1, h2, h3⟩
            have hcap := hvw.caps
            obtain ⟨-, hc1, hc2⟩ := hcap
            have hdl : l.dropLast.length = m := by simp [hml]
            have hown1 : OwnStrs (w3.alloc (.cells #[strV name] 9)) w3.heap.size (.slice (some ⟨w3.heap.size, 0, none⟩) 1 1) [name] := ⟨rfl, .inr ⟨w3.heap.size, 1, #[strV name], rfl, Nat.le_refl _, heap_alloc_new _ _, Nat.le_refl _, by decide, rfl, rfl⟩⟩
            obtain ⟨v5, w5, hr5, hown5, hgr5⟩ := run_appL (w3.alloc (.cells #[strV name] 9)) w3.heap.size _ [name] hown1 gw capw l.dropLast (fun i hi => by
              rw [List.getElem_dropLast]
              exact cell_alloc' _ (hcw i (by rw [hdl] at hi; omega))) (by rw [hdl]; simp; omega) (by rw [World.size_alloc]; omega)
            rw [hdl] at hr5
            have hb5 : Below w3.heap.size w3 w5 := below_appS ((Below.refl w3.heap.size w3).alloc (Nat.le_refl _) _) hown1 (Nat.le_refl _) hgr5
            have hstep3 := Hstep2.out
            simp only [cycStep, hway] at hstep3
            have hcne : name :: l.dropLast ≠ [] := by simp
            have hclen : (name :: l.dropLast).length = m + 1 := by simp [hml]
            have hown5' : OwnStrs w5 w3.heap.size v5 (name :: l.dropLast) := hown5
            generalize name :: l.dropLast = c at hown5' hstep3 hcne hclen
            obtain ⟨gc, capc, rfl, hgc, hgc2, hcc⟩ : ∃ g cap, v5 = .slice (some ⟨g, 0, none⟩) (m + 1) cap ∧ w3.heap.size ≤ g ∧ g < w5.heap.size ∧ ∀ i (h : i < c.length), w5.cell? ⟨g, i, none⟩ = some (strV c[i]) := by
              rcases OwnStrs.shape hown5' with ⟨_, e⟩ | ⟨g, cap, e, h1, h2, h3⟩
              · exact absurd e hcne
              · rw [hclen] at e; exact ⟨g, cap, e, h1, h2, h3⟩
            have hb25 : Below w2.heap.size w2 w5 := hb23.trans (hb5.mono hb23.size)
            have hbest5 := hbest3.below hb5
            have hnew : BestIs w5 w.heap.size (.slice (some ⟨gc, 0, none⟩) (m + 1) capc) (some c) := ⟨gc, capc, by rw [hclen], hown5'.base hbw3.size, hcne, by omega⟩
            have Hnew := Hid.mk hnew
            have Hrel := Hid.mk (show ∀ (i : Int) (bv : Value), i = (j : Int) + 1 → BestIs w5 w.heap.size bv (((G.out name).take (j + 1)).foldl (cycStep G name) b0) → CxRel w w2 G name b0 g2 bv (.int .i64 i) w5 from fun i bv hi hb => ⟨j + 1, by omega, by subst hi; exact congrArg _ (by omega), hb, hb25⟩)
            have Hcc := Hid.mk hcc
            have Hstep3 := Hid.mk hstep3
            have Hclen := Hid.mk hclen
            clear hml hvw hcw hdl hown1 hown5 hgr5 hstep3 hcne hown5' hcc hb25 hnew hclen hb5 hb23 hb3 hbw3 hway hbest3 Hbest Hstep2
            cases bc with
            | none =>
              obtain rfl := hbest5
              have heq := Lib.run_eql_slice_nil (P := Try.prog) w5 27 9 none 0 0 0 0 Try.underlying27
              have Hfin := Hid.mk (fun (i : Int) (hi : i = (j : Int) + 1) => Hrel.out i _ hi (by rw [Hstep3.out]; exact Hnew.out))
              go_wp2_with (at_builtin; refine wpList_append_run rfl _ _ _ rfl rfl rfl rfl hr5 ?_)
              go_roundg g2
              case measure => omega
              case rel => exact Hfin.out _ rfl
            | some best =>
              obtain ⟨gb, capb, rfl, hownb, hbne, hbl⟩ := hbest5
              obtain ⟨hgb, hcb⟩ : w.heap.size ≤ gb ∧ ∀ i (h : i < best.length), w5.cell? ⟨gb, i, none⟩ = some (strV best[i]) := by
                rcases OwnStrs.shape hownb with ⟨_, e⟩ | ⟨g, cap, e, h1, h2, h3⟩
                · exact absurd e hbne
                · cases e; exact ⟨h1, h3⟩
              have heq := Lib.run_eql_slice_nil (P := Try.prog) w5 27 9 (some ⟨gb, 0, none⟩) best.length capb 0 0 Try.underlying27
              have Hcmp := Hid.mk (compare_is w5 gc gb (m + 1) best.length capc capb c best Hclen.out.symm rfl Hcc.out hcb (by rw [Hclen.out]; omega) hbl)
              have hold : BestIs w5 w.heap.size (.slice (some ⟨gb, 0, none⟩) best.length capb) (some best) := ⟨gb, capb, rfl, hownb, hbne, hbl⟩
              have hbdef := show better c best = (decide (m + 1 < best.length) || (decide (m + 1 = best.length) && decide (cmpL c best < 0))) by rw [← Hclen.out]; rfl
              have Hyes := Hid.mk (fun (hbt : better c best = true) (i : Int) (hi : i = (j : Int) + 1) => Hrel.out i _ hi (by rw [Hstep3.out]; simp only [hbt, if_true]; exact Hnew.out))
              have Hno := Hid.mk (fun (hbt : better c best = false) (i : Int) (hi : i = (j : Int) + 1) => Hrel.out i _ hi (by rw [Hstep3.out]; simp only [hbt]; exact hold))
              have Hbdef := Hid.mk hbdef
              clear hbdef hold hcb hownb hbne hgb Hrel Hnew Hstep3 Hcc Hclen
              generalize best.length = nb at heq Hcmp Hyes Hno Hbdef hbl
              generalize cmpL c best = z at Hcmp Hbdef
              generalize better c best = bt at Hyes Hno Hbdef
              by_cases hlt3 : m + 1 < nb
              · have Hfin := Hid.mk (Hyes.out (by rw [Hbdef.out]; simp [hlt3]))
                clear Hyes Hno Hcmp Hbdef
                go_wp2_with (at_builtin; refine wpList_append_run rfl _ _ _ rfl rfl rfl rfl hr5 ?_)
                go_roundg g2
                case measure => omega
                case rel => exact Hfin.out _ rfl
              · by_cases heq3 : m + 1 = nb
                · subst heq3
                  by_cases hz : z < 0
                  · have Hfin := Hid.mk (Hyes.out (by rw [Hbdef.out]; simp [hz]))
                    clear Hyes Hno Hbdef
                    go_wp2_with (first | (at_builtin; refine wpList_append_run rfl _ _ _ rfl rfl rfl rfl hr5 ?_) | (go_at_call 28; refine Hcmp.out.mono ?_; rintro e w' ⟨rfl, rfl⟩))
                    go_roundg g2
                    case measure => omega
                    case rel => exact Hfin.out _ rfl
                  · have Hfin := Hid.mk (Hno.out (by rw [Hbdef.out]; simp [hz]))
                    clear Hyes Hno Hbdef
                    go_wp2_with (first | (at_builtin; refine wpList_append_run rfl _ _ _ rfl rfl rfl rfl hr5 ?_) | (go_at_call 28; refine Hcmp.out.mono ?_; rintro e w' ⟨rfl, rfl⟩))
                    go_roundg g2
                    case measure => omega
                    case rel => exact Hfin.out _ rfl
                · have Hfin := Hid.mk (Hno.out (by rw [Hbdef.out]; simp [hlt3, heq3]))
                  clear Hyes Hno Hcmp Hbdef
                  go_wp2_with (at_builtin; refine wpList_append_run rfl _ _ _ rfl rfl rfl rfl hr5 ?_)
                  go_roundg g2
                  case measure => omega
                  case rel => exact Hfin.out _ rfl

end Go.Proofs.Ytiinmmgknlnkaaa
