/-
  graph.closed: its function that calls itself; Below and Above.
-/
import Derived.Test.YtiinmmgknlnkaaaNames
import Derived.Test.YtiinmmgknlnkaaaRange
import Derived.Test.YtiinmmgknlnkaaaReach
namespace Go.Proofs.Ytiinmmgknlnkaaa
open Go.RowKit Go.Maps
open Go.ChangeMaps (setBlock)

def succMap (s : Str → Str → Bool) (x : Str) : Str → Option Bool := fun y => if s x y then some true else none
def markMap (V : Str → Bool) : Str → Option Bool := fun y => if V y then some true else none

structure VC (w : World) (bs bg be bv sb p bm : Nat) (S : Nat → Prop) (G : Gr) (so : Str → Nat) (s : Str → Str → Bool) (V : Str → Bool) : Prop where
  cs : w.cell? ⟨bs, 0, none⟩ = some (.map (some sb))
  cg : w.cell? ⟨bg, 0, none⟩ = some (ptr p)
  ce : w.cell? ⟨be, 0, none⟩ = some (.map (some bm))
  cv : w.cell? ⟨bv, 0, none⟩ = some (.func (.func 43) #[] #[ptr bs, ptr bg, ptr be, ptr bv])
  gr : IsGraph S w p G
  mm : MapG Try.prog 9 eM w bm G.ns.length (nodeMap G so)
  ms : ∀ x ∈ G.ns, MapG Try.prog 9 eB w (so x) G.ns.length (succMap s x)
  mv : MapG Try.prog 9 eB w sb G.ns.length (markMap V)
  vs : ∀ y, V y = true → y ∈ G.ns
  sS : ¬ S sb
  sm : sb ≠ bm
  ss : ∀ x ∈ G.ns, sb ≠ so x
  se : ∀ x y, s x y = true → y ∈ G.ns

theorem cell_block {w w' : World} {a : Addr} {v : Value} (h : w.cell? a = some v) (hb : w'.heap[a.block]? = w.heap[a.block]?) : w'.cell? a = some v := by
  rw [← h]; simp [World.cell?, hb]

theorem cell_is_cells {w : World} {a : Addr} {v : Value} (h : w.cell? a = some v) : ∃ c t f, w.heap[a.block]? = some (.cells c t f) := by
  unfold World.cell? at h
  split at h
  · rename_i c t f hc; exact ⟨c, t, f, hc⟩
  · cases h

/-- What the walk stands on stays, while all but the blocks that range stay. -/
theorem VC.keep {w w' : World} {bs bg be bv sb p bm : Nat} {S : Nat → Prop} {G : Gr} {so : Str → Nat} {s : Str → Str → Bool} {V : Str → Bool} (h : VC w bs bg be bv sb p bm S G so s V)
    (hk : ∀ k, k < w.heap.size → (∀ m a b c, w.heap[k]? ≠ some (.mapIter m a b c)) → w'.heap[k]? = w.heap[k]?) : VC w' bs bg be bv sb p bm S G so s V := by
  have hc : ∀ {a : Addr} {v : Value}, w.cell? a = some v → w'.cell? a = some v := fun {a v} hc => by
    obtain ⟨c, t, f, hb⟩ := cell_is_cells hc
    exact cell_block hc (hk _ (cell_lt hc) (fun m a b d e => by rw [hb] at e; cases e))
  have hm : ∀ {α : Type} {E : Elem α} {b n : Nat} {f : Str → Option α}, MapG Try.prog 9 E w b n f → MapG Try.prog 9 E w' b n f := fun {α E b n f} hm => by
    obtain ⟨es, c, hb⟩ := hm.is_map
    exact hm.same (hk _ hm.lt (fun m a b d e => by rw [hb] at e; cases e))
  refine ⟨hc h.cs, hc h.cg, hc h.ce, hc h.cv, ?_, hm h.mm, fun x hx => hm (h.ms x hx), hm h.mv, h.vs, h.sS, h.sm, h.ss, h.se⟩
  obtain ⟨bo, bi, so', si, hg, hS⟩ := h.gr
  refine ⟨bo, bi, so', si, hg.same (hk _ hg.lt.1 (fun m a b d e => by rw [hg.hp] at e; cases e)) (fun k hk' => hk _ (hg.lt.2 k hk') (fun m a b d e => ?_)), hS⟩
  obtain ⟨es, c, hb⟩ := h.gr.maps k ((hS k).2 hk')
  rw [hb] at e; cases e

theorem VC.below {w w' : World} {bs bg be bv sb p bm : Nat} {S : Nat → Prop} {G : Gr} {so : Str → Nat} {s : Str → Str → Bool} {V : Str → Bool} (h : VC w bs bg be bv sb p bm S G so s V)
    (hb : Below w.heap.size w w') : VC w' bs bg be bv sb p bm S G so s V := h.keep fun k hk _ => hb.block k hk

/-- A mark more. -/
theorem VC.mark {w w' : World} {bs bg be bv sb p bm n : Nat} {S : Nat → Prop} {G : Gr} {so : Str → Nat} {s : Str → Str → Bool} {V : Str → Bool} (h : VC w bs bg be bv sb p bm S G so s V) {x : Str} (hx : x ∈ G.ns)
    (hm : MapG Try.prog 9 eB w' sb n (upd (markMap V) x (some true))) (ht : w.mapTurned w' sb) : VC w' bs bg be bv sb p bm S G so s (fun y => V y || decide (y = x)) := by
  have hb : ∀ k, k < w.heap.size → k ≠ sb → w'.heap[k]? = w.heap[k]? := fun k hk hne => ht.grown.block k hk (by simpa using hne)
  obtain ⟨es, c, hsb⟩ := h.mv.is_map
  have hc : ∀ {a : Addr} {v : Value}, w.cell? a = some v → w'.cell? a = some v := fun {a v} hc => by
    obtain ⟨c, t, f, hb'⟩ := cell_is_cells hc
    exact cell_block hc (hb _ (cell_lt hc) (fun e => by rw [e, hsb] at hb'; cases hb'))
  have hvs : ∀ y, (V y || decide (y = x)) = true → y ∈ G.ns := fun y hy => by
    simp only [Bool.or_eq_true, decide_eq_true_eq] at hy
    rcases hy with hy | rfl
    · exact h.vs y hy
    · exact hx
  refine ⟨hc h.cs, hc h.cg, hc h.ce, hc h.cv, ?_, h.mm.same (hb _ h.mm.lt (fun e => h.sm e.symm)), fun y hy => (h.ms y hy).same (hb _ (h.ms y hy).lt (fun e => h.ss y hy e.symm)), ?_, hvs, h.sS, h.sm, h.ss, h.se⟩
  · refine h.gr.only (Only.of_turned ht) (fun e => ?_) (fun k hk e => h.sS (e ▸ hk))
    obtain ⟨bo, bi, so', si, hg, hS⟩ := h.gr
    have e' := hg.hp
    rw [e, hsb] at e'
    cases e'
  · have hf : ∀ y, upd (markMap V) x (some true) y = markMap (fun y => V y || decide (y = x)) y := fun y => by
      by_cases e : y = x
      · subst e; simp [upd, markMap]
      · simp [upd, markMap, e]
    have hm2 := hm.congr hf
    have hkeys : KeysAre (markMap (fun y => V y || decide (y = x))) (G.ns.filter fun y => V y || decide (y = x)) := ⟨Rising.nodup (h.gr.ok.rise.filter _), fun y => by
      rw [List.mem_filter]
      constructor
      · rintro ⟨_, h2⟩; simp only [markMap]; rw [if_pos h2]; rfl
      · intro h2
        have h3 : (V y || decide (y = x)) = true := by
          simp only [markMap] at h2
          split at h2
          · assumption
          · cases h2
        exact ⟨hvs y h3, h3⟩⟩
    exact (hm2.tight Try.underlying9 hkeys).mono (List.length_filter_le _ _)

def VPost (w : World) (bs bg be bv sb p bm : Nat) (S : Nat → Prop) (G : Gr) (so : Str → Nat) (s : Str → Str → Bool) (V : Str → Bool) (x : Str) (e : Ending) (w' : World) : Prop :=
  e = .returned (.tuple #[]) ∧ ∃ V', VC w' bs bg be bv sb p bm S G so s V' ∧ Only (· = sb) w w' ∧ Visited G.ns s V V' x ∧ (x ∉ G.ns → V' = V)

/-- Between two rounds: w1 is the world behind the mark, r ranges. -/
def VRel (w : World) (bs bg be bv sb p bm : Nat) (S : Nat → Prop) (G : Gr) (so : Str → Nat) (s : Str → Str → Bool) (V1 : Str → Bool) (x : Str) (r : Nat) (wr : World) : Prop :=
  ∃ V2 left cnt, VC wr bs bg be bv sb p bm S G so s V2 ∧ RangeG Try.prog 9 eB wr (so x) r G.ns.length (succMap s x) left cnt ∧ Only (· = sb) w wr ∧ w.heap.size ≤ r ∧
    (∀ y, V1 y = true → V2 y = true) ∧ (∀ y, V2 y = true → V1 y = true ∨ Reach s x y) ∧ (∀ u, V2 u = true → V1 u = true ∨ ∀ v, s u v = true → V2 v = true) ∧ (∀ v, s x v = true → left v = false → V2 v = true)

theorem Only.grown {w w' : World} {r : Nat} (h : w.grownBy w' (some r)) : Only (· = r) w w' :=
  ⟨h.os, h.tape, h.output, h.size, fun k hk hne => h.block k hk (by simpa using hne)⟩

set_option maxHeartbeats 2000000 in
theorem visit_is (bs bg be bv sb p bm : Nat) (S : Nat → Prop) (G : Gr) (so : Str → Nat) (s : Str → Str → Bool) (m : Nat) : ∀ (V : Str → Bool) (w : World) (x : Str), unmarked G.ns V < m → VC w bs bg be bv sb p bm S G so s V → x.length ≤ maxLen →
    Calls Try.prog 43 #[strV x, ptr bs, ptr bg, ptr be, ptr bv] w (VPost w bs bg be bv sb p bm S G so s V x) := by
  induction m with
  | zero => intro V w x h; omega
  | succ m ih =>
    intro V w x hm h hx
    have cs := h.cs
    by_cases hV : V x = true
    · have hl : (Instr.lookup 58 (.map (some sb)) (strV x) false).run Try.prog w = .ok (.bool true) w := h.mv.look_some Try.underlying9 Try.underlying58 (zeroBool w) hx (a := true) (by simp [markMap, hV])
      have hfin := Hid.mk (show VPost w bs bg be bv sb p bm S G so s V x (.returned (.tuple #[])) w from ⟨rfl, V, h, Only.refl _ _, ⟨fun _ h => h, fun _ => hV, fun _ h => .inl h, fun _ h => .inl h⟩, fun _ => rfl⟩)
      clear h hV ih
      go_enter Try.func43, Try.ntmps43
      go_wp2
      go_end0
      exact hfin.out
    · have hV0 : V x = false := by simpa using hV
      have hl : (Instr.lookup 58 (.map (some sb)) (strV x) false).run Try.prog w = .ok (.bool false) w := h.mv.look_none Try.underlying9 Try.underlying58 (zeroBool w) hx (by simp [markMap, hV0])
      have cg := h.cg
      have hhas := Hid.mk (has_is h.gr x hx)
      by_cases hn : x ∈ G.ns
      · have hd : decide (x ∈ G.ns) = true := by simp [hn]
        rw [hd] at hhas
        have hfew := h.gr.ok.few
        obtain ⟨w1, hr1, hm1, ht1⟩ := h.mv.store Try.underlying9 Try.underlying58 (by unfold maxLen; omega) hx true
        have hr1' : (Instr.mapUpdate 58 (.map (some sb)) (strV x) (.bool true)).run Try.prog w = .ok () w1 := hr1
        have h1 := h.mark hn hm1 ht1
        have o1 : Only (· = sb) w w1 := Only.of_turned ht1
        have ce1 := h1.ce
        have hl1 : (Instr.lookup 47 (.map (some bm)) (strV x) false).run Try.prog w1 = .ok (.map (some (so x))) w1 := h1.mm.look_some Try.underlying9 Try.underlying47 (zeroSet w1) hx (a := so x) (by simp [nodeMap, hn])
        obtain ⟨w2, cnt, hr2, hrg2, hb2, hs2⟩ := (h1.ms x hn).range Try.underlying9 Try.underlying58
        have h2 := h1.below hb2
        have o2 : Only (· = sb) w w2 := o1.trans (Only.of_below (S := fun _ => False) hb2) (by simp)
        have hsz : w.heap.size ≤ w1.heap.size := o1.size
        have hstart : VRel w bs bg be bv sb p bm S G so s (fun y => V y || decide (y = x)) x w1.heap.size w2 := by
          refine ⟨_, _, cnt, h2, hrg2, o2, hsz, fun _ h => h, fun _ h => .inl h, fun _ h => .inl h, fun v hv hl => ?_⟩
          simp only [succMap] at hl
          rw [if_pos hv] at hl
          cases hl
        have hless : unmarked G.ns (fun y => V y || decide (y = x)) < m := by
          have := unmarked_lt (ns := G.ns) (V := V) (V' := fun y => V y || decide (y = x)) (fun y hy => by simp [hy]) hn hV0 (by simp)
          omega
        have hdone : ∀ V2 wr, VC wr bs bg be bv sb p bm S G so s V2 → Only (· = sb) w wr → (∀ y, (V y || decide (y = x)) = true → V2 y = true) → (∀ y, V2 y = true → (V y || decide (y = x)) = true ∨ Reach s x y) → (∀ u, V2 u = true → (V u || decide (u = x)) = true ∨ ∀ v, s u v = true → V2 v = true) → (∀ v, s x v = true → V2 v = true) →
            VPost w bs bg be bv sb p bm S G so s V x (.returned (.tuple #[])) wr := by
          intro V2 wr hc ho g1 g2 g3 g4
          refine ⟨rfl, V2, hc, ho, ⟨fun y hy => g1 y (by simp [hy]), fun _ => g1 x (by simp), fun y hy => ?_, fun u hu => ?_⟩, fun h => absurd hn h⟩
          · rcases g2 y hy with h | h
            · simp only [Bool.or_eq_true, decide_eq_true_eq] at h
              rcases h with h | rfl
              · exact .inl h
              · exact .inr (.refl _)
            · exact .inr h
          · rcases g3 u hu with h | h
            · simp only [Bool.or_eq_true, decide_eq_true_eq] at h
              rcases h with h | rfl
              · exact .inl h
              · exact .inr g4
            · exact .inr h
        have Hdone := Hid.mk hdone
        have Hless := Hid.mk hless
        have Hih := Hid.mk ih
        have Hse := Hid.mk h.se
        have hr2' : (Instr.range 58 (.map (some (so x)))).run Try.prog w1 = .ok (.pointer (some ⟨w1.heap.size, 0, none⟩)) w2 := hr2
        clear hdone hless ih h1 h2 o1 o2 hrg2 hb2 hs2 hm1 ht1 hr1 hm h hV hV0 hfew hd hr2
        generalize hV1 : (fun y => V y || decide (y = x)) = V1 at hstart Hless
        have HV1 := Hid.mk hV1
        clear hV1
        go_enter Try.func43, Try.ntmps43
        go_wp2_with fail
        refine hhas.out.mono ?_
        rintro e w0 ⟨rfl, rfl⟩
        clear hhas
        go_wp2
        go_loopw [6] (fun _ wr => VRel w bs bg be bv sb p bm S G so s V1 x w1.heap.size wr) (fun _ wr => wr.rangeLeft (so x) w1.heap.size)
        case atStart => exact hstart
        case round =>
          obtain ⟨V2, left, cnt2, hc, hrg, ho, hszr, g1, g2, g3, g4⟩ := hrel
          rcases hrg.next Try.underlying9 0 with ⟨hl0, hrun⟩ | ⟨y, a, w3, cnt3, hly, hyl, hfy, hrun, hrg3, hlt, hgr, hsz3, hen⟩
          · have hfin := Hid.mk (Hdone.out V2 wr hc ho (by have e := HV1.out; subst e; exact g1) (by have e := HV1.out; subst e; exact g2) (by have e := HV1.out; subst e; exact g3) (fun v hv => g4 v hv (hl0 v)))
            clear hc hrg ho g1 g2 g3 g4 hl0
            go_wp2
            go_end0
            exact hfin.out
          · have hsxy : s x y = true := by
              simp only [succMap] at hfy
              split at hfy
              · assumption
              · cases hfy
            obtain rfl : a = true := by
              simp only [succMap, hsxy, if_true] at hfy
              simpa using hfy.symm
            have hyn := Hse.out x y hsxy
            obtain ⟨i1, i2, i3, hri⟩ := hrg.iter
            have hc3 : VC w3 bs bg be bv sb p bm S G so s V2 := hc.keep fun k hk hni => (Only.grown hgr).block k hk (fun e => absurd (e.symm ▸ hri) (hni _ _ _ _))
            have cv3 := hc3.cv
            have hrsb : w1.heap.size ≠ sb := fun e => by
              obtain ⟨es, c, hb⟩ := hc.mv.is_map
              rw [← e, hri] at hb
              cases hb
            have hcall := Hih.out V2 w3 y (Nat.lt_of_le_of_lt (unmarked_le _ g1) Hless.out) hc3 hyl
            have Hcall := Hid.mk hcall
            have hen' : (Instr.entry (.pointer (some ⟨w1.heap.size, 0, none⟩))).run Try.prog w3 = .ok (.tuple #[strV y, .bool true]) w3 := hen
            have hrun' : (Instr.next (.pointer (some ⟨w1.heap.size, 0, none⟩)) false 0).run Try.prog wr = .ok (.tuple #[.bool true, strV y, .bool true]) w3 := hrun
            have hnext : ∀ w4, VPost w3 bs bg be bv sb p bm S G so s V2 y (.returned (.tuple #[])) w4 → VRel w bs bg be bv sb p bm S G so s V1 x w1.heap.size w4 ∧ w4.rangeLeft (so x) w1.heap.size < wr.rangeLeft (so x) w1.heap.size := by
              rintro w4 ⟨_, V3, hc4, ho4, hv4, _⟩
              have hr4 := hrg3.same (w' := w4) (ho4.block _ hrg3.owns.lt (fun e => hc3.ss x hn e.symm)) (ho4.block _ hrg3.lt hrsb)
              refine ⟨⟨V3, _, cnt3, hc4, hr4, (ho.trans (Only.grown hgr) (fun z hz e => absurd hz (by omega))).trans ho4 (fun _ _ e => e), hszr, fun z hz => hv4.mono z (g1 z hz), fun z hz => ?_, fun u hu => ?_, fun v hv hl => ?_⟩, ?_⟩
              · rcases hv4.only z hz with h | h
                · exact g2 z h
                · exact .inr (.step hsxy h)
              · rcases hv4.shut u hu with h | h
                · rcases g3 u h with h' | h'
                  · exact .inl h'
                  · exact .inr fun v hv => hv4.mono v (h' v hv)
                · exact .inr h
              · by_cases e : v = y
                · subst e; exact hv4.got hyn
                · have : left v = false := by simpa [e] using hl
                  exact hv4.mono v (g4 v hv this)
              · rw [hr4.left_eq, hrg.left_eq]; exact hlt
            have Hnext := Hid.mk hnext
            clear hnext hcall hc hrg ho g1 g2 g3 g4 hrg3 hgr hsz3 hly hyl hfy hsxy hyn hc3 hri hen hrun hstart hrsb hlt hszr cs cg
            go_wp2_with fail
            refine Hcall.out.mono ?_
            rintro e w4 he
            have hx4 := Hnext.out w4 (by obtain ⟨rfl, h⟩ := he; exact ⟨rfl, h⟩)
            obtain ⟨rfl, _⟩ := he
            have Hx4 := Hid.mk hx4
            clear hx4
            go_wp2
            go_roundw
            case rel => exact Hx4.out.1
            case measure => exact Hx4.out.2
      · have hd : decide (x ∈ G.ns) = false := by simp [hn]
        rw [hd] at hhas
        have hfin := Hid.mk (show VPost w bs bg be bv sb p bm S G so s V x (.returned (.tuple #[])) w from ⟨rfl, V, h, Only.refl _ _, ⟨fun _ h => h, fun h => absurd h hn, fun _ h => .inl h, fun _ h => .inl h⟩, fun _ => rfl⟩)
        clear h hV hV0 ih hn hd
        go_enter Try.func43, Try.ntmps43
        go_wp2_with fail
        refine hhas.out.mono ?_
        rintro e w' ⟨rfl, rfl⟩
        go_wp2
        go_end0
        exact hfin.out

end Go.Proofs.Ytiinmmgknlnkaaa
