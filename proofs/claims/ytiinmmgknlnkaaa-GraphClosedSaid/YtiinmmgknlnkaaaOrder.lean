/-
  graph.Order.
-/
import Derived.Test.YtiinmmgknlnkaaaWay
import Derived.Test.YtiinmmgknlnkaaaOrderP
namespace Go.Proofs.Ytiinmmgknlnkaaa
open Go.RowKit Go.Maps
open Go.ChangeMaps (setBlock)

theorem order_nil (w : World) : Calls Try.prog 17 #[.pointer none] w fun e w' => e = .returned (.tuple #[.slice none 0 0, .bool false]) ∧ w = w' := by
  go_enter Try.func17, Try.ntmps17
  go_wp2
  go_step3
  go_wp2
  rw [Exit.noGoto_ret]
  go_ret2
  exact ⟨rfl, rfl⟩

/-- While the counts are laid down. -/
def O1Rel (w wn : World) (G : Gr) (so : Str → Nat) (bo r : Nat) (g : Nat) (wr : World) : Prop :=
  ∃ left, RangeG Try.prog 9 eM wr bo r G.ns.length (nodeMap G so) left g ∧ MapG Try.prog 9 eI wr w.heap.size G.ns.length (fun x => if x ∈ G.ns ∧ left x = false then some ((G.out x).length : Int) else none) ∧ Below w.heap.size wn wr

/-- Ahead of a round: rem are still to come. -/
def O2Rel (w : World) (G : Gr) (g : Nat) (ou : Value) (wr : World) : Prop :=
  ∃ (rem l : List Str), rem.length = g ∧ Rising rem ∧ (∀ x ∈ rem, x ∈ G.ns) ∧ Settled G rem ∧ OwnStrs wr w.heap.size ou l ∧ l.length + g = G.ns.length ∧ (orderFrom G g rem).map (l ++ ·) = orderOf G ∧ MapG Try.prog 9 eI wr w.heap.size G.ns.length (leftMap G rem) ∧ Below w.heap.size w wr

/-- While those that ask x are told. -/
def O3Rel (w wn : World) (G : Gr) (rem : List Str) (x : Str) (sx r : Nat) (g : Nat) (wr : World) : Prop :=
  ∃ left, RangeG Try.prog 9 eB wr sx r G.ns.length (inMap G x) left g ∧ MapG Try.prog 9 eI wr w.heap.size G.ns.length (tellMap G rem x left) ∧ Only (· = w.heap.size) wn wr

theorem keys_left {G : Gr} {rem : List Str} (hr : Rising rem) : KeysAre (leftMap G rem) rem := ⟨hr.nodup, fun x => by simp only [leftMap]; split <;> simp_all⟩

theorem keys_sub {α : Type} {G : Gr} (hok : G.ok) {f : Str → Option α} (hf : ∀ x, (f x).isSome = true → x ∈ G.ns) : KeysAre f (G.ns.filter fun x => (f x).isSome) :=
  ⟨Rising.nodup (hok.rise.filter _), fun x => by
    rw [List.mem_filter]
    exact ⟨fun h => h.2, fun hx => ⟨hf x hx, hx⟩⟩⟩

theorem MapG.fit {α : Type} {E : Elem α} {w : World} {b n : Nat} {f : Str → Option α} {G : Gr} (h : MapG Try.prog 9 E w b n f) (hok : G.ok) (hf : ∀ x, (f x).isSome = true → x ∈ G.ns) : MapG Try.prog 9 E w b G.ns.length f :=
  (h.tight Try.underlying9 (keys_sub hok hf)).mono (List.length_filter_le _ _)

set_option maxHeartbeats 4000000 in
set_option maxRecDepth 100000 in
theorem order_is {S : Nat → Prop} {w : World} {p : Nat} {G : Gr} (h : IsGraph S w p G) : Calls Try.prog 17 #[ptr p] w (OptPost (orderOf G) w) := by
  have hmk : ∀ wx, (Instr.makeMap 52 none).run Try.prog wx = .ok (.map (some wx.heap.size)) (wx.alloc M0) := fun wx => run_makeMap (P := Try.prog) 52 wx
  have hok := h.ok
  have hfew := hok.few
  have hb1 : Below w.heap.size w (w.alloc M0) := (Below.refl _ _).alloc (Nat.le_refl _) _
  have Hgr := Hid.mk h
  have Hok := Hid.mk hok
  have h1 := h.below hb1
  obtain ⟨bo, bi, so, si, hg, hS⟩ := h1
  have c0 := hg.cell0
  have hlt := h.lt
  have hbo : bo < w.heap.size := hlt.2 bo ((hS bo).2 (.inl rfl))
  obtain ⟨w2, cnt, hr2, hrg2, hb2, hs2⟩ := hg.mo.range Try.underlying9 Try.underlying47
  have hr2' : (Instr.range 47 (.map (some bo))).run Try.prog (w.alloc M0) = .ok (.pointer (some ⟨w.heap.size + 1, 0, none⟩)) w2 := by simpa using hr2
  have hrg2' : RangeG Try.prog 9 eM w2 bo (w.heap.size + 1) G.ns.length (nodeMap G so) (fun x => (nodeMap G so x).isSome) cnt := by simpa using hrg2
  have hm1 : MapG Try.prog 9 eI w2 w.heap.size G.ns.length (fun x => if x ∈ G.ns ∧ (nodeMap G so x).isSome = false then some ((G.out x).length : Int) else none) := by
    refine MapG.congr (((MapG.made w Try.prog 9 eI).mono (Nat.zero_le _)).same (hb2.block _ (by simp))) fun x => ?_
    rw [if_neg]
    rintro ⟨h1, h2⟩
    simp [nodeMap, h1] at h2
  have Hstart1 := Hid.mk (show O1Rel w w2 G so bo (w.heap.size + 1) cnt w2 from ⟨_, hrg2', hm1, Below.refl _ _⟩)
  have Hg := Hid.mk (And.intro (hg.below_w hb2) hS)
  have Hbel2 := Hid.mk (show Below w.heap.size w w2 from hb1.trans (hb2.mono (by simp)))
  have Hlt := Hid.mk (And.intro hlt hbo)
  clear hr2 hrg2 hrg2' hm1 hb2 hs2 hg hS hlt hbo h hok hb1
  go_enter Try.func17, Try.ntmps17
  go_wp2
  go_step3
  go_wp2
  go_loopg [5] cnt (fun g _ wr => O1Rel w w2 G so bo (w.heap.size + 1) g wr)
  case atStart => exact Hstart1.out
  case round =>
    clear Hstart1
    obtain ⟨left, hrg, hm, ho⟩ := hrel
    rcases hrg.next Try.underlying9 0 with ⟨hl0, hrun⟩ | ⟨x, bx, w3, cnt3, hlx, hxl, hfx, hrun, hrg3, hlt, hgr, hsz3, hen⟩
    · have hend : O2Rel w G G.ns.length (.slice none 0 0) wr := by
        have hb := Hbel2.out
        refine ⟨G.ns, [], rfl, Hok.out.rise, fun _ h => h, Settled.start G, OwnStrs.nil _ _, by simp, by simp [orderOf], hm.congr fun x => ?_, hb.trans ho⟩
        simp only [leftMap, hl0, and_true, leftOf_all Hok.out]
      have Hend := Hid.mk hend
      clear hend hrg hm ho hl0 hr2'
      go_wp2
      go_step3
      go_wp2
      go_loopg [7] G.ns.length (fun g ou wr => O2Rel w G g ou wr)
      case atStart => exact Hend.out
      case round =>
        clear Hend
        rename World => wn
        obtain ⟨rem, l, hrl, hris, hsub, hset, hown, hll, hord, hm, hbel⟩ := hrel
        have hsz : w.heap.size ≤ wn.heap.size := hbel.size
        have hglen : gk ≤ 1048576 := by omega
        have hlen := fun ty => hm.len Try.underlying9 Try.underlying52 (keys_left hris) ty
        cases gk with
        | zero =>
          obtain rfl : rem = [] := List.eq_nil_of_length_eq_zero hrl
          have hfin := Hid.mk (show OptPost (orderOf G) w (.returned (.tuple #[u7, .bool true])) wn by
            rw [← hord]
            refine ⟨_, rfl, ?_, hbel⟩
            simpa [orderFrom] using hown)
          clear hris hsub hset hown hll hord hm hbel hrl
          go_wp2
          rw [Exit.noGoto_ret]
          go_ret2
          exact hfin.out
        | succ g =>
          have hsort := Hid.mk (sortedI_is hm (keys_left hris) hris (by rw [hrl]; exact hglen))
          rw [hrl] at hlen
          go_wp2_with fail
          refine hsort.out.mono ?_
          rintro e w3 ⟨v, rfl, hv, hb3⟩
          clear hsort
          have hne : rem ≠ [] := fun e => by rw [e] at hrl; cases hrl
          obtain ⟨gv, capv, rfl, _, _, hcv⟩ : ∃ gv capv, v = .slice (some ⟨gv, 0, none⟩) rem.length capv ∧ wn.heap.size ≤ gv ∧ gv < w3.heap.size ∧ ∀ i (h : i < rem.length), w3.cell? ⟨gv, i, none⟩ = some (strV rem[i]) := by
            rcases hv.shape with ⟨_, e⟩ | h
            · exact absurd e hne
            · exact h
          have hm3 := hm.same (hb3.block _ hm.lt)
          have hown3 : OwnStrs w3 w.heap.size u7 l := hown.below hb3
          have hbel3 := hbel.trans (hb3.mono hsz)
          have hlenr : rem.length ≤ 1048576 := by omega
          have hll2 : l.length ≤ 1048576 := by omega
          have hsz3 : w.heap.size ≤ w3.heap.size := Nat.le_trans hsz hb3.size
          have Hfacts := Hid.mk (And.intro hris (And.intro hsub (And.intro hset (And.intro hord (And.intro hll (And.intro hrl hne))))))
          have Hcv := Hid.mk hcv
          have Hm3 := Hid.mk hm3
          have Hown3 := Hid.mk hown3
          have Hbel3 := Hid.mk hbel3
          clear hris hsub hset hord hll hrl hne hcv hm3 hown3 hbel3 hm hown hbel hv hb3 hlen
          go_wp2
          go_loopg [7, 34] rem.length (fun g2 ou j wj => ∃ jj : Nat, jj + g2 = rem.length ∧ ou = u7 ∧ j = .int .i64 jj ∧ Hid (∀ i (hi : i < jj) (h : i < rem.length), leftOf G rem rem[i] ≠ 0) ∧ w3 = wj)
          case atStart => exact ⟨0, by omega, rfl, rfl, ⟨fun i hi => by omega⟩, rfl⟩
          case round =>
            obtain ⟨j, hjg, rfl, rfl, hno, rfl⟩ := hrel
            cases gk with
            | zero =>
              have hstuck := order_stuck (G := G) (n := g + 1) (Hfacts.out).2.2.2.2.2.2 fun i hi => hno.out i (by omega) hi
              have hfin := Hid.mk (show OptPost (orderOf G) w (.returned (.tuple #[.slice none 0 0, .bool false])) w3 by
                rw [← (Hfacts.out).2.2.2.1, hstuck]
                exact ⟨_, rfl, OwnStrs.nil _ _, Hbel3.out⟩)
              clear hstuck hno
              go_wp2
              rw [Exit.noGoto_ret]
              go_ret2
              exact hfin.out
            | succ g3 =>
              have hlt : j < rem.length := by omega
              have hcj : w3.cell? ⟨gv, j, none⟩ = some (strV rem[j]) := Hcv.out j hlt
              have hxr : rem[j] ∈ rem := List.getElem_mem hlt
              have hxn := (Hfacts.out).2.1 _ hxr
              have hxl := Hok.out.short _ hxn
              have hstep := Hid.mk (fun h0 => order_step (G := G) (Hfacts.out).1 (Hfacts.out).2.2.2.2.2.1 hlt h0 (fun i hi => hno.out i hi (by omega)))
              have hstepno := Hid.mk (fun (hd : leftOf G rem rem[j] ≠ 0) i (hi : i < j + 1) (h : i < rem.length) => show leftOf G rem rem[i] ≠ 0 by
                by_cases e : i = j
                · subst e; exact hd
                · exact hno.out i (by omega) h)
              generalize rem[j] = x at hcj hxr hxn hxl hstep hstepno
              have hlk : (Instr.lookup 52 (.map (some w.heap.size)) (strV x) false).run Try.prog w3 = .ok (.int .i64 (leftOf G rem x : Int)) w3 := Hm3.out.look_some Try.underlying9 Try.underlying52 (zeroInt w3) hxl (a := (leftOf G rem x : Int)) (by simp [leftMap, hxr])
              clear hno
              by_cases h0 : leftOf G rem x = 0
              · rw [h0] at hlk
                have hlk0 : (Instr.lookup 52 (.map (some w.heap.size)) (strV x) false).run Try.prog w3 = .ok (.int .i64 0) w3 := hlk
                clear hlk
                obtain ⟨go', cap', w5, hr5, hown5, hgr5, hloc5⟩ := run_appS w3 w.heap.size u7 l Hown3.out x (by omega) hsz3
                have hown4 : OwnStrs (w3.alloc (.cells #[strV x] 9)) w.heap.size u7 l := World.ownsRow.alloc Hown3.out _
                have hm4 := Hm3.out.alloc (.cells #[strV x] 9)
                have hm5 := hm4.same (own_other hown4 hgr5 hm4.lt (map_not_cells hm4))
                have hbel4 := Hbel3.out.alloc hsz3 (.cells #[strV x] 9)
                have hbel5 : Below w.heap.size w w5 := ⟨hgr5.os.trans hbel4.os, hgr5.tape.trans hbel4.tape, hgr5.output.trans hbel4.output, Nat.le_trans hbel4.size hgr5.size, fun z hz => (hgr5.block z (Nat.lt_of_lt_of_le hz hbel4.size) (fun e => by
                  have := (hown4.block e.symm).1
                  omega)).trans (hbel4.block z hz)⟩
                obtain ⟨w6, hr6, hm6, ht6⟩ := hm5.delete Try.underlying9 Try.underlying52 hxl 0
                have hbel6 : Below w.heap.size w w6 := ⟨ht6.grown.os.trans hbel5.os, ht6.grown.tape.trans hbel5.tape, ht6.grown.output.trans hbel5.output, Nat.le_trans hbel5.size ht6.grown.size, fun z hz => (ht6.grown.block z (Nat.lt_of_lt_of_le hz hbel5.size) (by simp; omega)).trans (hbel5.block z hz)⟩
                have hown6 := hown5.changed ht6.grown (map_not_cells hm5)
                have hgr6 := Hgr.out.below hbel6
                obtain ⟨bo6, bi6, so6, si6, hg6, hS6⟩ := hgr6
                have c16 := hg6.cell1
                have hl6 : (Instr.lookup 47 (.map (some bi6)) (strV x) false).run Try.prog w6 = .ok (.map (some (si6 x))) w6 := hg6.mi.look_some Try.underlying9 Try.underlying47 (zeroSet w6) hxl (a := si6 x) (by simp [nodeMap, hxn])
                obtain ⟨w7, cnt7, hr7, hrg7, hb7, hs7⟩ := (hg6.ei x hxn).range Try.underlying9 Try.underlying58
                have hsx : si6 x ≠ w.heap.size := fun e => by
                  have := (Hlt.out).1.2 (si6 x) ((hS6 _).2 (.inr (.inr ⟨x, hxn, .inr rfl⟩)))
                  omega
                have hask := fun z (he : G.e z x = true) => asks_rem Hok.out (Hfacts.out).2.2.1 hxr h0 he
                have hm7 : MapG Try.prog 9 eI w7 w.heap.size G.ns.length (tellMap G rem x (fun z => (inMap G x z).isSome)) :=
                  MapG.congr (hm6.same (hb7.block _ hm6.lt)) fun z => tell_start rem x z _ (fun z he => by simp [inMap, he])
                have HstartT := Hid.mk (show O3Rel w w6 G rem x (si6 x) w6.heap.size cnt7 w7 from ⟨_, hrg7, hm7, Only.of_below hb7⟩)
                have hr5' : (Builtin.append_ #[27, 27] 27 #[u7, .slice (some ⟨w3.heap.size, 0, none⟩) 1 1]).run Try.prog (w3.alloc (.cells #[strV x] 9)) = .ok (.slice (some ⟨go', 0, none⟩) (l.length + 1) cap') w5 := hr5
                have hr6' : (Builtin.delete_ #[52, 9] 0 #[.map (some w.heap.size), strV x]).run Try.prog w5 = .ok (.tuple #[]) w6 := hr6
                have hr7' : (Instr.range 58 (.map (some (si6 x)))).run Try.prog w6 = .ok (.pointer (some ⟨w6.heap.size, 0, none⟩)) w7 := hr7
                have hend : ∀ w8 left, (∀ z, left z = false) → MapG Try.prog 9 eI w8 w.heap.size G.ns.length (tellMap G rem x left) → Only (· = w.heap.size) w6 w8 → O2Rel w G g (.slice (some ⟨go', 0, none⟩) (l.length + 1) cap') w8 := by
                  intro w8 left hl8 hm8 ho8
                  obtain ⟨hris, hsub, hset, hord, hll, hrl, hne⟩ := Hfacts.out
                  have hwl := without_length hris hxr
                  refine ⟨without rem x, l ++ [x], by omega, hris.filter _, fun z hz => hsub z (mem_without.1 hz).1, hset.step Hok.out h0, hown6.only ho8 (fun k hk => ?_), by simp; omega, ?_, MapG.congr hm8 (fun z => tell_end Hok.out rem x z hxr left hl8), ?_⟩
                  · obtain rfl : k = w.heap.size := hk
                    exact hm6.is_map
                  · rw [← hord, hstep.out h0]
                    cases orderFrom G g (without rem x) <;> simp
                  · exact ⟨ho8.os.trans hbel6.os, ho8.tape.trans hbel6.tape, ho8.output.trans hbel6.output, Nat.le_trans hbel6.size ho8.size, fun z hz => (ho8.block z (Nat.lt_of_lt_of_le hz hbel6.size) (by omega)).trans (hbel6.block z hz)⟩
                have Hend := Hid.mk hend
                have Hask := Hid.mk hask
                have Hsx := Hid.mk hsx
                have Hfew := Hid.mk hfew
                clear hend hask hsx hm7 hs7 hb7 hrg7 hr7 hg6 hS6 hown6 hbel6 ht6 hm6 hr6 hbel5 hbel4 hm5 hm4 hown4 hgr5 hown5 hr5 h0 hloc5 hxn hstep hstepno hfew
                go_wp2_with (at_builtin; refine wpList_append_run rfl _ _ _ rfl rfl rfl rfl hr5' ?_)
                go_loopg [10] cnt7 (fun g4 _ wt => O3Rel w w6 G rem x (si6 x) w6.heap.size g4 wt)
                case atStart => exact HstartT.out
                case round =>
                  clear HstartT
                  rename World => wt
                  obtain ⟨left, hrg, hm, ho⟩ := hrel
                  rcases hrg.next Try.underlying9 0 with ⟨hl0, hrun⟩ | ⟨y, by0, w8, cnt8, hly, hyl, hfy, hrun, hrg8, hlt8, hgr8, hsz8, hen⟩
                  · have Hrel := Hid.mk (Hend.out wt left hl0 hm ho)
                    clear hrg hm ho hl0 hr5' hr6' hr7' hl6 c16 hlk0 hcj
                    go_wp2
                    go_roundg g
                    case measure => omega
                    case rel => exact Hrel.out
                  · have hyx : G.e y x = true := by
                      simp only [inMap] at hfy
                      split at hfy
                      · assumption
                      · cases hfy
                    obtain rfl : by0 = true := by
                      simp only [inMap, hyx, if_true] at hfy
                      simpa using hfy.symm
                    have hyr := Hask.out y hyx
                    have hen' : (Instr.entry (.pointer (some ⟨w6.heap.size, 0, none⟩))).run Try.prog w8 = .ok (.tuple #[strV y, .bool true]) w8 := hen
                    have hrun' : (Instr.next (.pointer (some ⟨w6.heap.size, 0, none⟩)) false 0).run Try.prog wt = .ok (.tuple #[.bool true, strV y, .bool true]) w8 := hrun
                    have hrB := iter_ne_map hrg hm
                    have hm8 := hm.same (hgr8.block _ hm.lt (by simpa using fun e => hrB e.symm))
                    have hlk8 : (Instr.lookup 52 (.map (some w.heap.size)) (strV y) false).run Try.prog w8 = .ok (.int .i64 (leftOf G rem y : Int)) w8 := hm8.look_some Try.underlying9 Try.underlying52 (zeroInt w8) hyl (tell_at rem x y left hyr hly)
                    obtain ⟨w9, hr9, hm9, ht9⟩ := hm8.store Try.underlying9 Try.underlying52 (by have := Hfew.out; unfold maxLen; omega) hyl ((leftOf G rem y : Int) - 1)
                    have hr9' : (Instr.mapUpdate 52 (.map (some w.heap.size)) (strV y) (.int .i64 ((leftOf G rem y : Int) - 1))).run Try.prog w8 = .ok () w9 := hr9
                    have hlb : leftOf G rem y ≤ 1048576 := Nat.le_trans (List.length_filter_le _ _) (few_out Hok.out y)
                    have hrel9 : O3Rel w w6 G rem x (si6 x) w6.heap.size cnt8 w9 := by
                      have hb9 : ∀ k, k < w8.heap.size → k ≠ w.heap.size → w9.heap[k]? = w8.heap[k]? := fun k hk hne => ht9.grown.block k hk (by simpa using hne)
                      refine ⟨_, hrg8.same (hb9 _ hrg8.owns.lt Hsx.out) (hb9 _ hrg8.lt hrB), MapG.congr (hm9.fit Hok.out fun z hz => ?_) (fun z => tell_step rem x y left hyr hyx hly z), (ho.trans (Only.grown hgr8) (fun z hz e => absurd hz (by omega))).trans (Only.of_turned ht9) (fun z _ e => e)⟩
                      by_cases e : z = y
                      · exact e ▸ (Hok.out.ends y x hyx).1
                      · rw [upd_other _ _ e] at hz
                        simp only [tellMap] at hz
                        split at hz
                        · rename_i h; exact (Hfacts.out).2.1 z (mem_without.1 h).1
                        · cases hz
                    have Hrel9 := Hid.mk hrel9
                    have Hlt8 := Hid.mk hlt8
                    clear hrel9 hr9 hm9 ht9 hm8 hrB hen hrun hyr hyx hfy hyl hly hrg8 hgr8 hsz8 hlt8 hrg hm ho hr5' hr6' hr7' hl6 c16 hlk0 hcj
                    go_wp2
                    go_roundg cnt8
                    case measure => exact Hlt8.out
                    case rel => exact Hrel9.out
              · have hpos : 0 < leftOf G rem x := by omega
                have Hrel := Hid.mk (hstepno.out h0)
                clear h0 hstep hstepno hxr hxn
                go_wp2
                go_roundg g3
                case measure => omega
                case rel => exact ⟨j + 1, by omega, rfl, by go_num, ⟨Hrel.out⟩, rfl⟩
    · have hxn : x ∈ G.ns := by
        simp only [nodeMap] at hfx
        split at hfx
        · assumption
        · cases hfx
      obtain rfl : so x = bx := by
        simp only [nodeMap, hxn, if_true] at hfx
        simpa using hfx
      have hrun' : (Instr.next (.pointer (some ⟨w.heap.size + 1, 0, none⟩)) false 0).run Try.prog wr = .ok (.tuple #[.bool true, strV x, .map (some (so x))]) w3 := hrun
      have hen' : (Instr.entry (.pointer (some ⟨w.heap.size + 1, 0, none⟩))).run Try.prog w3 = .ok (.tuple #[strV x, .map (some (so x))]) w3 := hen
      have hrB := iter_ne_map hrg hm
      have hset : MapG Try.prog 9 eB w3 (so x) G.ns.length (outMap G x) := by
        have h0 := (Hg.out).1.eo x hxn
        have hlt0 : so x < w.heap.size := (Hlt.out).1.2 _ (((Hg.out).2 _).2 (.inr (.inr ⟨x, hxn, .inl rfl⟩)))
        have h1 := h0.same (w' := wr) (ho.block _ hlt0)
        exact h1.same (hgr.block _ h1.lt (by simpa using fun e => iter_ne_map hrg h1 e.symm))
      have hlen := fun ty => hset.len Try.underlying9 Try.underlying58 (keys_out Hok.out x) ty
      have hm3 := hm.same (hgr.block _ hm.lt (by simp))
      obtain ⟨w4, hr4, hm4, ht4⟩ := hm3.store Try.underlying9 Try.underlying52 (by unfold maxLen; omega) hxl ((G.out x).length : Int)
      have hr4' : (Instr.mapUpdate 52 (.map (some w.heap.size)) (strV x) (.int .i64 ((G.out x).length : Int))).run Try.prog w3 = .ok () w4 := hr4
      have hnext : O1Rel w w2 G so bo (w.heap.size + 1) cnt3 w4 := by
        have hbo : bo ≠ w.heap.size := by have := (Hlt.out).2; omega
        have hb4 : ∀ k, k < w3.heap.size → k ≠ w.heap.size → w4.heap[k]? = w3.heap[k]? := fun k hk hne => ht4.grown.block k hk (by simpa using hne)
        refine ⟨_, hrg3.same (hb4 _ hrg3.owns.lt hbo) (hb4 _ hrg3.lt hrB), ?_, (ho.trans ⟨hgr.os, hgr.tape, hgr.output, hgr.size, fun k hk => hgr.block k (by have := (Hbel2.out).size; have := ho.size; omega) (by simp; omega)⟩).trans ⟨ht4.grown.os, ht4.grown.tape, ht4.grown.output, ht4.grown.size, fun k hk => ht4.grown.block k (by have := (Hbel2.out).size; have := ho.size; have := hgr.size; omega) (by simp; omega)⟩⟩
        refine MapG.congr (hm4.fit Hok.out fun z hz => ?_) fun z => ?_
        · by_cases e : z = x
          · exact e ▸ hxn
          · rw [upd_other _ _ e] at hz
            split at hz
            · rename_i h; exact h.1
            · cases hz
        · by_cases e : z = x
          · subst e; rw [upd_same]; simp [hxn]
          · rw [upd_other _ _ e]; simp [e]
      have Hnext := Hid.mk hnext
      have Hlt3 := Hid.mk hlt
      clear hnext hm4 ht4 hr4 hm3 hset hrB hen hrun hfx hrg3 hgr hsz3 hlx hrg hm ho hlt hxn hr2'
      go_wp2
      go_roundg cnt3
      case measure => exact Hlt3.out
      case rel => exact Hnext.out

end Go.Proofs.Ytiinmmgknlnkaaa
