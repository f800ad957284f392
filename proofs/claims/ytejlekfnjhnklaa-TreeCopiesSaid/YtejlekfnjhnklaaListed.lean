/-
  The law's 'listed': a loop over what List hands out; slices.Values's iterator over texts.
-/
import Derived.Test.YtejlekfnjhnklaaList
import Derived.RangeFuncBox
import Derived.RangeFuncNested
import Derived.RangeFuncLeaves
import Derived.Shelf.Abstract
import Derived.OwnWalkIn
import Derived.TacticsInMore
import Derived.LoopNIn
import Derived.LoopIn
namespace Go.Proofs.Ytejlekfnjhnklaa
open Go.RowKit Go.Maps Go.Shelf

attribute [local go_sem] Oper.semAt_some

/-- What has come when k rounds are over. -/
def upto (zs : List Str) (k : Nat) : List Str := (List.range k).map fun j => zs[j]?.getD []
theorem upto_succ (zs : List Str) (k : Nat) : upto zs (k + 1) = upto zs k ++ [zs[k]?.getD []] := by simp [upto, List.range_succ]
theorem upto_length (zs : List Str) (k : Nat) : (upto zs k).length = k := by simp [upto]
theorem upto_take (zs : List Str) {k : Nat} (hk : k ≤ zs.length) : upto zs k = zs.take k := by
  apply List.ext_getElem
  · simp [upto, hk]
  · intro i h1 h2
    have : i < zs.length := by simp [upto] at h1; omega
    simp [upto, this]

/-- What a round keeps: the block of the slice's cells. -/
def KpB (g : Nat) (W W' : World) : Prop := W'.heap[g]? = W.heap[g]?

set_option maxRecDepth 100000 in
set_option maxHeartbeats 2000000 in
theorem values1_in (F : Fence) (n : Nat) (h7 : F.fn 47) (hro : F.round = none) (hn : 1 ≤ n) (l Bs g len cap : Nat) (zs : List Str) (hreach : len * 16 ≤ 140737488351232) (J Jx : List Str → World → Prop)
    (hY : ∀ pre x W, J pre W → pre.length < len → YieldAt F (n - 1) Try.prog l #[strV x] W fun e W' =>
      (e = .returned (.bool true) ∧ J (pre ++ [x]) W' ∧ KpB g W W') ∨ (e = .returned (.bool false) ∧ Jx (pre ++ [x]) W'))
    (W : World) (hBs : W.cell? ⟨Bs, 0, none⟩ = some (.slice (some ⟨g, 0, none⟩) len cap)) (hc : ∀ j, j < len → W.cell? ⟨g, j, none⟩ = some (strV (zs[j]?.getD []))) (h0 : J [] W) :
    CallsIn F n Try.prog 47 #[.func (.yield l) #[] #[], .pointer (some ⟨Bs, 0, none⟩)] W fun e W' => (∃ v, e = .returned v) ∧
      ((∃ ys, ys = upto zs len ∧ J ys W') ∨ (∃ pre, (∃ k, k ≤ len ∧ pre = upto zs k) ∧ Jx pre W')) := by
  refine callsIn_of_wp Try.func47 rfl h7 ?_ hro
  simp only [Try.ntmps47, List.size_toArray, List.length_cons, List.length_nil, Nat.reduceAdd, Nat.reduceSub, Array.replicate_succ, Array.replicate_zero, List.push_toArray, List.append_toArray, List.nil_append, List.cons_append]
  gi_wp2
  gi_loopw [7] (fun i wr => ∃ k : Nat, k ≤ len ∧ i = .int .i64 k ∧ J (upto zs k) wr ∧ KpB g W wr)
    (fun i _ => len - (intOf i).toNat)
  case atStart => exact ⟨0, Nat.zero_le _, rfl, h0, rfl⟩
  case round =>
    obtain ⟨k, hk, rfl, hJs, hnx⟩ := hrel
    have hcx : k < len → wr.cell? ⟨g, k, none⟩ = some (strV (zs[k]?.getD [])) := fun h => cell_block (hc k h) hnx
    by_cases hlt : k < len
    · obtain ⟨fn, tmps, assign, body, hy, hR⟩ := hY _ (zs[k]?.getD []) wr hJs (by rw [upto_length]; exact hlt)
      have hcx' := hcx hlt
      gi_wp2
      refine hR.mono ?_
      rintro e W3 (⟨rfl, hJ3, hk3⟩ | ⟨rfl, hJx3⟩)
      · gi_wp2
        go_roundw
        case rel => exact ⟨k + 1, by omega, by simp, by rw [upto_succ]; exact hJ3, hk3.trans hnx⟩
        case measure => simp [intOf]; omega
      · gi_wp2
        refine bodyPost_ret (results_none rfl _ _ _) rfl ?_
        exact ⟨⟨_, rfl⟩, .inr ⟨_, ⟨k + 1, by omega, (upto_succ _ _).symm⟩, hJx3⟩⟩
    · obtain rfl : k = len := by omega
      gi_wp2
      go_end0
      exact ⟨⟨_, rfl⟩, .inl ⟨_, rfl, hJs⟩⟩

set_option maxRecDepth 100000 in
set_option maxHeartbeats 1000000 in
theorem values1_nil_in (F : Fence) (n : Nat) (h7 : F.fn 47) (hro : F.round = none) (l Bs : Nat) (J : List Str → World → Prop) (W : World) (hBs : W.cell? ⟨Bs, 0, none⟩ = some (.slice none 0 0)) (h0 : J [] W) :
    CallsIn F n Try.prog 47 #[.func (.yield l) #[] #[], .pointer (some ⟨Bs, 0, none⟩)] W fun e W' => (∃ v, e = .returned v) ∧ J [] W' := by
  refine callsIn_of_wp Try.func47 rfl h7 ?_ hro
  simp only [Try.ntmps47, List.size_toArray, List.length_cons, List.length_nil, Nat.reduceAdd, Nat.reduceSub, Array.replicate_succ, Array.replicate_zero, List.push_toArray, List.append_toArray, List.nil_append, List.cons_append]
  gi_wp2
  gi_loopw [7] (fun i wr => i = .int .i64 0 ∧ J [] wr) (fun _ _ => 0)
  case atStart => exact ⟨rfl, h0⟩
  case round =>
    obtain ⟨rfl, hJs⟩ := hrel
    gi_wp2
    go_end0
    exact ⟨⟨_, rfl⟩, hJs⟩

/-- The block that holds a slice's cells; no block at a nil one. -/
def blockOf (v : Value) : Nat := match v with
  | .slice (some a) _ _ => a.block
  | _ => 0

/-- slices.Values over a slice of the call's own: all its texts, in order. -/
theorem values_stops (F : Fence) (n : Nat) (h7 : F.fn 47) (hro : F.round = none) (hn : 1 ≤ n) (Bs B : Nat) (sv : Value) (zs : List Str) (hreach : zs.length * 16 ≤ 140737488351232) (w : World) (hBs : Bs < w.heap.size)
    (hc : w.cell? ⟨Bs, 0, none⟩ = some sv) (hown : OwnStrs w B sv zs) :
    SeqStopsK F n Try.prog 47 #[.pointer (some ⟨Bs, 0, none⟩)] (fun x : Str => #[strV x]) (KpB (blockOf sv)) (fun ys => ys = zs) (fun pre => pre <+: zs) zs.length w := fun l J Jx W hW _ _ hY h0 => by
  have hc' := (hW.cell (p := ⟨Bs, 0, none⟩) hBs).trans hc
  rcases (hown.below hW).shape with ⟨rfl, rfl⟩ | ⟨g, cap, rfl, hb, hg, hcs⟩
  · exact (values1_nil_in F n h7 hro l Bs J W hc' h0).mono fun e W' ⟨he, hj⟩ => ⟨he, .inl ⟨_, rfl, hj⟩⟩
  · refine (values1_in F n h7 hro hn l Bs g zs.length cap zs hreach J Jx hY W hc' (fun j hj => by rw [hcs j hj]; simp [hj]) h0).mono ?_
    rintro e W' ⟨he, ⟨ys, rfl, hj⟩ | ⟨pre, ⟨k, hk, rfl⟩, hj⟩⟩
    · exact ⟨he, .inl ⟨_, by rw [upto_take zs (Nat.le_refl _), List.take_length], hj⟩⟩
    · exact ⟨he, .inr ⟨_, by rw [upto_take zs hk]; exact List.take_prefix _ _, hj⟩⟩

theorem KpB_t {g : Nat} {A B C : World} (h : KpB g A B) (k : KpB g B C) : KpB g A C := k.trans h
theorem KpB_b {g : Nat} {w : World} (hg : g < w.heap.size) (W : World) (l : Nat) (o o' : Obj) (hl : w.heap.size ≤ l) (h : W.heap[l]? = some o) (_ : o.isCells = false) (_ : o.isWalk = false) : KpB g W (W.putObj l o') :=
  World.putObj_heap_other (by omega)

theorem ownsRow_base {w : World} {b b' : Nat} {e : TypeId} {sz : Nat} {v : Value} {n : Nat} {xs : List Value} (h : w.ownsRow b e sz v n xs) (hb : b' ≤ b) : w.ownsRow b' e sz v n xs := by
  obtain ⟨h1, h2 | ⟨g, cap, cur, hv, hg, h3⟩⟩ := h
  · exact ⟨h1, .inl h2⟩
  · exact ⟨h1, .inr ⟨g, cap, cur, hv, Nat.le_trans hb hg, h3⟩⟩

/-- What 'listed' answers. -/
def ListedPost (w : World) (l : List Str) (e : Ending) (w' : World) : Prop :=
  ∃ v, e = .returned (.tuple #[v, .bool true]) ∧ OwnStrs w' w.heap.size v l ∧ Below w.heap.size w w'

/-- Between two rounds: the texts that have come; the results' variables. -/
def LI (w w1 : World) (pre : List Str) (W : World) : Prop :=
  ((((∃ v, Boxed W (w.heap.size + 1 + 1) 35 v ∧ W.ownsRow w1.heap.size 9 1 v pre.length (pre.map strV) ∧ True) ∧ Boxed W w.heap.size 35 (.slice none 0 0)) ∧ Boxed W (w.heap.size + 1) 4 (.bool false)) ∧ Below w.heap.size w W) ∧ w1.heap.size ≤ W.heap.size

theorem LI_own {w w1 : World} (h1 : w.heap.size ≤ w1.heap.size) : OwnFrom w1.heap.size (LI w w1) :=
  OwnFrom.and (OwnFrom.and (OwnFrom.and (OwnFrom.and (Own.from (holdsRow_own w1.heap.size (w.heap.size + 1 + 1) 35 9 1 (fun (pre : List Str) => pre.length) (fun (pre : List Str) => pre.map strV) (fun _ _ => True)) _) (Own.from (boxed_own w.heap.size 35 (fun _ => .slice none 0 0)) _)) (Own.from (boxed_own (w.heap.size + 1) 4 (fun _ => .bool false)) _)) (ownFrom_below (Nat.le_refl _) h1)) (fun _ _ _ _ hs hg _ => Nat.le_trans hs hg.size)

/-- A round: behind the append and the store. -/
theorem LI_step {w w1 W w2 : World} {pre : List Str} {x : Str} {v v' : Value} {g : Nat} (hw1 : w.heap.size + 1 + 1 < w1.heap.size) (hg1 : g < w1.heap.size) (hg2 : g ≠ w.heap.size + 1 + 1) (hW : w1.heap.size ≤ W.heap.size)
    (hv : Boxed W (w.heap.size + 1 + 1) 35 v) (hrow : W.ownsRow w1.heap.size 9 1 v pre.length (pre.map strV)) (hb1 : Boxed W w.heap.size 35 (.slice none 0 0)) (hb2 : Boxed W (w.heap.size + 1) 4 (.bool false)) (hB : Below w.heap.size w W)
    (hown' : w2.ownsRow w1.heap.size 9 1 v' (pre.length + 1) (pre.map strV ++ [strV x])) (hgrow : (W.alloc (.cells #[strV x] 9)).grownBy w2 v.ownBlock) :
    Boxed w2 (w.heap.size + 1 + 1) 35 v ∧ Boxed (w2.setCell ⟨w.heap.size + 1 + 1, 0, none⟩ v') (w.heap.size + 1 + 1) 35 v' ∧ KeepsOthers W (w2.setCell ⟨w.heap.size + 1 + 1, 0, none⟩ v') ∧ KpB g W (w2.setCell ⟨w.heap.size + 1 + 1, 0, none⟩ v') ∧ LI w w1 (pre ++ [x]) (w2.setCell ⟨w.heap.size + 1 + 1, 0, none⟩ v') := by
  have hszB := hB.size
  have hsz1 : w.heap.size ≤ w1.heap.size := by omega
  obtain ⟨hv1, hv2, hr2, hk2, hbw⟩ := hv.appended (by decide) (ownsRow_base hrow hsz1) hszB (by omega) (ownsRow_base hown' hsz1) hgrow
  have hown3 := hown'.kept (grownBy_setCell' w2 (w.heap.size + 1 + 1) v') (.inr (hv1.not_row (by decide) hown').symm)
  have key : ∀ {B : Nat} {t : TypeId} {u : Value}, Boxed W B t u → t ≠ 9 → B ≠ w.heap.size + 1 + 1 → Boxed (w2.setCell ⟨w.heap.size + 1 + 1, 0, none⟩ v') B t u := fun hbx ht hne =>
    ((hbx.alloc _).kept hgrow (hbx.not_row ht hrow)).other hne v'
  refine ⟨hv1, hv2, hk2, ?_, ⟨⟨⟨⟨v', hv2, by simpa using hown3, trivial⟩, key hb1 (by decide) (by omega)⟩, key hb2 (by decide) (by omega)⟩, hB.trans hbw⟩, Nat.le_trans hW hbw.size⟩
  show (w2.setCell ⟨w.heap.size + 1 + 1, 0, none⟩ v').heap[g]? = W.heap[g]?
  rw [Below.heap_setCell _ _ _ _ (by exact hg2), hgrow.block g (by rw [World.size_alloc]; omega) (fun e => ?_), Below.heap_alloc _ _ _ (by omega)]
  obtain ⟨h1, _⟩ := ownsRow_type hrow e.symm
  omega

set_option maxRecDepth 100000 in
set_option maxHeartbeats 4000000 in
theorem listed_is {w : World} {p : Nat} {m : Option Nat} {last : Nat → Str} {T : Tr} (h : IsTree w 0 p m last T) (hok : T.ok) (q : Str) :
    Calls Try.prog 12 #[.pointer (some ⟨p, 0, none⟩), strV q] w (ListedPost w (listOf T.fs q)) := by
  obtain ⟨i0, hi, hz0, hz1, hz2⟩ := info_parts infoStr
  refine (callsIn_wide (n := 5)).1 ?_
  have h1 : 1 ≤ 5 := by decide
  refine callsIn_of_wp_marks Try.func12 rfl trivial ?_ rfl
  simp only [Try.ntmps12, List.size_toArray, List.length_cons, List.length_nil, Nat.reduceAdd, Nat.reduceSub, Array.replicate_succ, Array.replicate_zero, List.push_toArray, List.append_toArray, List.nil_append, List.cons_append]
  have hbA : Below w.heap.size w (((w.alloc (.cells #[.slice none 0 0] 35)).alloc (.cells #[.bool false] 4)).alloc (.cells #[.slice none 0 0] 35)) := (((Below.refl _ w).alloc (Nat.le_refl _) _).alloc (by simp) _).alloc (by simp; omega) _
  have hL := Hid.mk (list_is (h.below hbA) hok q)
  have hlen : (listOf T.fs q).length ≤ 256 := by
    unfold listOf
    rw [List.length_map]
    exact Nat.le_trans (List.length_filter_le _ _) hok.few
  have heqf : ∀ (w : World) (c : Array Value), (binOp .eql 59 (.func (.func 47) #[] c) Value.nilFunc).run Try.prog w = .ok (.bool false) w := fun w c => by kernel_rfl
  have b4 := Boxed.new w 35 (.slice none 0 0)
  have b5 := Boxed.new (w.alloc (.cells #[.slice none 0 0] 35)) 4 (.bool false)
  have b6 := Boxed.new ((w.alloc (.cells #[.slice none 0 0] 35)).alloc (.cells #[.bool false] 4)) 35 (.slice none 0 0)
  simp only [World.size_alloc] at b5 b6
  have bb := Hid.mk (And.intro ((b4.alloc (.cells #[.bool false] 4)).alloc (.cells #[.slice none 0 0] 35)) (And.intro (b5.alloc (.cells #[.slice none 0 0] 35)) b6))
  have hszA : (((w.alloc (.cells #[.slice none 0 0] 35)).alloc (.cells #[.bool false] 4)).alloc (.cells #[.slice none 0 0] 35)).heap.size = w.heap.size + 1 + 1 + 1 := by simp
  have HszA := Hid.mk hszA
  have HbA := Hid.mk hbA
  clear h hok b4 b5 b6 hszA hbA
  generalize listOf T.fs q = zs at hL hlen ⊢
  gi_wp2_with fail
  refine ⟨trivial, ?_⟩
  gi_at_call 22
  refine (callsIn_wide.2 hL.out).mono ?_
  rintro e w1 ⟨B, v, rfl, hB, hcB, hown, hb⟩
  rw [HszA.out] at hb hB hown
  have hb3 : Below (w.heap.size + 1 + 1 + 1) (((w.alloc (.cells #[.slice none 0 0] 35)).alloc (.cells #[.bool false] 4)).alloc (.cells #[.slice none 0 0] 35)) w1 := hb
  have hsz1 : w.heap.size + 1 + 1 + 1 ≤ w1.heap.size := by
    have := hb.size
    rw [HszA.out] at this
    exact this
  have hB1 := cell_lt hcB
  have hg1 : blockOf v < w1.heap.size ∧ blockOf v ≠ w.heap.size + 1 + 1 := by
    rcases hown.shape with ⟨rfl, _⟩ | ⟨g, cap, rfl, hg0, hg, _⟩
    · exact ⟨by show 0 < _; omega, by show 0 ≠ _; omega⟩
    · exact ⟨hg, by show g ≠ _; omega⟩
  have hbw : Below w.heap.size w w1 := HbA.out.trans (hb.mono (by omega))
  have k4 : Boxed w1 w.heap.size 35 (.slice none 0 0) := (hb.block _ (by omega)).trans bb.out.1
  have k5 : Boxed w1 (w.heap.size + 1) 4 (.bool false) := (hb.block _ (by omega)).trans bb.out.2.1
  have k6 : Boxed w1 (w.heap.size + 1 + 1) 35 (.slice none 0 0) := (hb.block _ (by omega)).trans bb.out.2.2
  have h0 : LI w w1 [] w1 := ⟨⟨⟨⟨⟨_, k6, World.ownsRow_nil _ _ _ _, trivial⟩, k4⟩, k5⟩, hbw⟩, Nat.le_refl _⟩
  have hstops := values_stops Fence.wide 4 trivial rfl (by decide) B (w.heap.size + 1 + 1 + 1) v zs (by omega) w1 hB1 hcB hown
  have H := Hid.mk (And.intro hstops (And.intro h0 hg1))
  clear hstops h0 hg1 hbw k4 k5 k6 hb hb3 hcB hown hL bb HbA HszA
  gi_wp2
  refine wpIn_rangeFunc_ownG rfl h1 (gf := 47) (lb := #[.pointer (some ⟨B, 0, none⟩)]) rfl trivial (enters_of Try.func47 (by kernel_rfl) rfl)
    H.out.1 KpB_t (KpB_b H.out.2.2.1) (Below.refl _ _) (fun _ => rfl) (LI w w1) (fun _ _ _ => False) (LI_own (by omega)) (fun _ _ _ _ _ hs _ _ => hs) H.out.2.1
    (fun x => { tmps := #[.pointer (some ⟨p, 0, none⟩), strV q, undef, undef, .pointer (some ⟨w.heap.size, 0, none⟩), .pointer (some ⟨w.heap.size + 1, 0, none⟩), .pointer (some ⟨w.heap.size + 1 + 1, 0, none⟩), .func (.func 47) #[] #[.pointer (some ⟨B, 0, none⟩)], strV x, .pointer (some ⟨p, 0, none⟩), strV q,
      .func (.func 47) #[] #[.pointer (some ⟨B, 0, none⟩)], .func (.func 47) #[] #[.pointer (some ⟨B, 0, none⟩)], .bool false, .func (.func 47) #[] #[.pointer (some ⟨B, 0, none⟩)], strV x, undef, undef, undef, undef, undef, undef, undef, undef, undef], defers := [] }) ?assign ?body ?done ?stop
  case assign =>
    intro l x W K hK
    gi_wp2
    exact hK
  case body =>
    rintro l pre x W ⟨⟨⟨⟨⟨v', hv', hrow, _⟩, hb4⟩, hb5⟩, hB⟩, hW⟩ hlt
    have hc := hv'.cell
    have hlt3 : ¬ (256 : Int) < (pre.length : Int) + 1 := by omega
    gi_wp2_with (gi_at_builtin; refine wpListIn_append_own _ rfl _ _ 35 rfl w1.heap.size 9 i0 (.string ByteArray.empty) 1 16 Try.underlying35 hi hz0 hz1 hz2 rfl (by decide) _ _ _ rfl (hrow.alloc _) ⟨W.heap.size, 0, none⟩ 1 1 [strV x] rfl rfl (cell_one_new _ _ _) (by simp [Value.oneCell']) (by unfold maxLen; omega) (by omega) (by simp; omega) ?_; intro v2 w2 hown' hgrow _; obtain ⟨g', cap', rfl⟩ := ownsRow_succ hown'; obtain ⟨hv1, hv2, hk2, hkp, hli⟩ := LI_step (by omega) H.out.2.2.1 H.out.2.2.2 hW hv' hrow hb4 hb5 hB hown' hgrow; have hc1 := hv1.cell; have hf1 := hv1.frozen; have hc2 := hv2.cell)
    exact ⟨hk2.from _, hkp, hli⟩
  case done =>
    rintro D ys W hD rfl ⟨⟨⟨⟨⟨v', hv', hrow, _⟩, hb4⟩, hb5⟩, hB⟩, hW⟩ hK
    have hrow2 : OwnStrs W w1.heap.size v' ys := hrow
    obtain ⟨av, cv, rfl, _⟩ := hrow2.open
    have hc := hv'.cell
    have hc4 := hb4.cell
    have hc5 := hb5.cell
    have hf4 := hb4.frozen
    have hf5 := hb5.frozen
    gi_wp2
    generalize hV : Value.slice av ys.length cv = V at *
    have hne1 : w.heap.size ≠ w.heap.size + 1 := by omega
    have hKa := (KeepsOthers.setCell W ⟨w.heap.size, 0, none⟩ V).same D _ hK rfl
    have hK' := (KeepsOthers.setCell (W.setCell ⟨w.heap.size, 0, none⟩ V) ⟨w.heap.size + 1, 0, none⟩ (.bool true)).same D _ hKa rfl
    refine ⟨by simp, .inl ⟨_, _, rfl, run_takeDeferred hK', ?_⟩⟩
    have g4 : Boxed ((W.setCell ⟨w.heap.size, 0, none⟩ V).setCell ⟨w.heap.size + 1, 0, none⟩ (.bool true)) w.heap.size 35 V := (hb4.set V).other hne1 _
    have g5 : Boxed ((W.setCell ⟨w.heap.size, 0, none⟩ V).setCell ⟨w.heap.size + 1, 0, none⟩ (.bool true)) (w.heap.size + 1) 4 (.bool true) := (hb5.other hne1.symm V).set _
    have hr4 := (hrow.kept (grownBy_setCell' W w.heap.size V) (.inr (hb4.not_row (by decide) hrow).symm)).kept (grownBy_setCell' _ (w.heap.size + 1) (.bool true)) (.inr ((hb5.other hne1.symm V).not_row (t := 4) (by decide) (hrow.kept (grownBy_setCell' W w.heap.size V) (.inr (hb4.not_row (by decide) hrow).symm))).symm)
    have hBW := (hB.setCell (p := ⟨w.heap.size, 0, none⟩) (Nat.le_refl _) V).setCell (p := ⟨w.heap.size + 1, 0, none⟩) (by show w.heap.size ≤ w.heap.size + 1; omega) (.bool true)
    generalize (W.setCell ⟨w.heap.size, 0, none⟩ V).setCell ⟨w.heap.size + 1, 0, none⟩ (.bool true) = WZ at *
    have hc6 := cell_kept g4.cell (grownBy_putObj' WZ D (.deferred none)) (fun r e => by cases e; exact ⟨_, hK', rfl⟩)
    have hc7 := cell_kept g5.cell (grownBy_putObj' WZ D (.deferred none)) (fun r e => by cases e; exact ⟨_, hK', rfl⟩)
    have hown9 : OwnStrs (WZ.putObj D (.deferred none)) w.heap.size V ys := ownsRow_base (ownsRow_putObj hr4 _ hK' rfl) (by omega)
    have hbel9 := hBW.trans (belowK_b (w := w) (Nat.le_refl _) WZ D (.deferred (some [])) (.deferred none) (by omega) hK' rfl rfl)
    refine ⟨.tuple #[V, .bool true], ?_, V, rfl, hown9, hbel9⟩
    simp [results, Try.f12, go_sem, hc6, hc7]
  case stop =>
    rintro D c pre W _ _ h _
    exact h.elim

end Go.Proofs.Ytejlekfnjhnklaa
