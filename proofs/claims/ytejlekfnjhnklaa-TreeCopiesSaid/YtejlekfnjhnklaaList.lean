/-
  The program's tree: List, walked; slices.Values over texts.
-/
import Derived.Test.YtejlekfnjhnklaaRefSince
import Derived.Test.YtejlekfnjhnklaaRange
namespace Go.Proofs.Ytejlekfnjhnklaa
open Go.RowKit Go.Maps

theorem values_is (a : Option Addr) (n c : Nat) (w : World) : Calls Try.prog 37 #[.slice a n c] w fun e w' => e = .returned (.func (.func 47) #[] #[.pointer (some ⟨w.heap.size, 0, none⟩)]) ∧ w' = w.alloc (.cells #[.slice a n c] 35) := by
  go_enter Try.func37, Try.ntmps37
  go_wp2
  go_ret
  exact ⟨rfl, rfl⟩

/-- What List answers: a function that goes over the texts of a slice of the call's own. -/
def ListPost (w : World) (l : List Str) (e : Ending) (w' : World) : Prop :=
  ∃ B v, e = .returned (.func (.func 47) #[] #[.pointer (some ⟨B, 0, none⟩)]) ∧ w.heap.size ≤ B ∧ w'.cell? ⟨B, 0, none⟩ = some v ∧ OwnStrs w' w.heap.size v l ∧ Below w.heap.size w w'

theorem hasPre_eq (q x : Str) : Lib.hasPrefix x q = hasPre q x := by
  unfold Lib.hasPrefix hasPre
  rw [Bool.eq_iff_iff, List.isPrefixOf_iff_prefix, Bool.and_eq_true, decide_eq_true_eq, beq_iff_eq]
  constructor
  · rintro ⟨r, rfl⟩
    simp
  · rintro ⟨_, h⟩
    rw [← h]
    exact List.take_prefix _ _

theorem nodup_le {l m : List Str} (hn : l.Nodup) (hs : ∀ x ∈ l, x ∈ m) : l.length ≤ m.length := by
  induction l generalizing m with
  | nil => exact Nat.zero_le _
  | cons x r ih =>
    obtain ⟨h1, h2⟩ := List.nodup_cons.1 hn
    have hx := hs x (by simp)
    have := ih (m := m.erase x) h2 fun y hy => (List.mem_erase_of_ne (fun e => h1 (by rw [← e]; exact hy))).2 (hs y (by simp [hy]))
    rw [List.length_erase_of_mem hx] at this
    have : 0 < m.length := List.length_pos_of_mem hx
    simp only [List.length_cons]
    omega

theorem sortB_rising {l r : List Str} (hr : Rising r) (hn : l.Nodup) (hm : ∀ x, x ∈ l ↔ x ∈ r) : sortB l = r := by
  have hp : (sortB l).Perm r := (List.mergeSort_perm l _).trans ((List.perm_ext_iff_of_nodup hn hr.nodup).2 hm)
  have hs : (sortB l).Pairwise fun x y => decide (x ≤ y) = true := List.pairwise_mergeSort (fun a b c h1 h2 => by simp only [decide_eq_true_eq] at *; exact List.le_trans h1 h2) (fun a b => by
    simp only [Bool.or_eq_true, decide_eq_true_eq]
    exact List.le_total a b) l
  refine List.Perm.eq_of_pairwise (le := fun a b : Str => decide (a ≤ b) = true) (fun a b _ _ h1 h2 => ?_) hs (hr.imp fun h => by simpa using List.le_of_lt h) hp
  simp only [decide_eq_true_eq] at h1 h2
  exact List.le_antisymm h1 h2

theorem mem_listOf {fs : FileL} {q x : Str} : x ∈ listOf fs q ↔ x ∈ keys fs ∧ hasPre q x = true := by
  unfold listOf keys
  simp only [List.mem_map, List.mem_filter]
  constructor
  · rintro ⟨f, ⟨h1, h2⟩, rfl⟩
    exact ⟨⟨f, h1, rfl⟩, h2⟩
  · rintro ⟨⟨f, h1, rfl⟩, h2⟩
    exact ⟨f, ⟨h1, h2⟩, rfl⟩

theorem listOf_rising {fs : FileL} (hr : Rising (keys fs)) (q : Str) : Rising (listOf fs q) := hr.sublist ((List.filter_sublist).map _)

theorem listOf_nil {fs : FileL} : listOf fs [] = keys fs := by
  unfold listOf keys
  rw [List.filter_eq_self.2]
  intro f _
  simp [hasPre]

def LRel (w : World) (q : Str) (T : Tr) (sx r g : Nat) (ou : Value) (wr : World) : Prop :=
  ∃ (L : List Str) (left : Str → Bool), RangeG Try.prog 9 eS wr sx r T.fs.length (look T.fs) left g ∧ OwnStrs wr w.heap.size ou L ∧ L.Nodup ∧ (∀ x, x ∈ L ↔ (look T.fs x).isSome = true ∧ left x = false ∧ hasPre q x = true) ∧ w.heap.size ≤ r ∧ Below w.heap.size w wr

/-- The end of List: sorted, and handed out. -/
theorem list_end {w wr : World} {v : Value} {L l : List Str} (hown : OwnStrs wr w.heap.size v L) (hb : Below w.heap.size w wr) (hl : L.length ≤ 1048576) (hs : sortB L = l) :
    Calls Try.prog 36 #[v] wr fun e w' => e = .returned (.tuple #[]) ∧ OwnStrs w' w.heap.size v l ∧ Below w.heap.size w w' := by
  refine (sort_is hown hl).mono ?_
  rintro e w' ⟨rfl, h1, h2⟩
  rw [hs] at h1
  exact ⟨rfl, h1, below_appS hb hown (Nat.le_refl _) h2⟩

set_option maxHeartbeats 8000000 in
set_option maxRecDepth 100000 in
theorem list_is {w : World} {p : Nat} {m : Option Nat} {last : Nat → Str} {T : Tr} (h : IsTree w 0 p m last T) (hok : T.ok) (q : Str) :
    Calls Try.prog 22 #[.pointer (some ⟨p, 0, none⟩), strV q] w (ListPost w (listOf T.fs q)) := by
  have hmap := h.map
  have hkl := keys_look hok.rise
  cases m with
  | none =>
    have hfs : T.fs = [] := by
      rcases h.files with ⟨_, h1⟩ | ⟨q, h1, _⟩
      · exact h1
      · cases h1
    have hrg := run_range_nilMap (P := Try.prog) w 30 9 9 Try.underlying30
    have hnx : ∀ ty, (Instr.next (.pointer (some ⟨w.heap.size, 0, none⟩)) false ty).run Try.prog (w.alloc (.mapIter none 0 #[] 0)) = _ := fun ty => run_next_nilMap w ty 0 0 #[]
    have hE := Hid.mk (list_end (w := w) (wr := w.alloc (.mapIter none 0 #[] 0)) (v := .slice none 0 0) (L := []) (l := listOf T.fs q) (OwnStrs.nil _ _) ((Below.refl _ _).alloc (Nat.le_refl _) _) (by simp) (by rw [hfs]; simp [sortB, listOf]))
    clear h hok hkl hfs
    go_enter Try.func22, Try.ntmps22
    go_wp2
    refine wp_loop_rounds 1 ?_
    rw [rounds_succ]
    go_wp2_with fail
    refine hE.out.mono ?_
    rintro e w1 ⟨rfl, hown, hb⟩
    have Hown := Hid.mk hown
    have Hb := Hid.mk hb
    clear hown hb hE hrg hnx
    go_wp2_with fail
    refine (values_is _ _ _ w1).mono ?_
    rintro e w2 ⟨rfl, rfl⟩
    go_wp2
    go_ret
    exact ⟨w1.heap.size, _, rfl, Hb.out.size, cell_new w1 _ _, World.ownsRow.alloc Hown.out _, Hb.out.alloc Hb.out.size _⟩
  | some sx =>
    obtain ⟨q', e, _, hmg⟩ : ∃ q', some sx = some q' ∧ 0 ≤ q' ∧ MapG Try.prog 9 eS w q' T.fs.length (Go.Proofs.Ytejlekfnjhnklaa.look T.fs) := by
      rcases h.files with ⟨h1, _⟩ | h1
      · cases h1
      · exact h1
    obtain rfl : sx = q' := by simpa using e
    obtain ⟨w2, cnt, hr2, hrg2, hb2, hs2⟩ := hmg.range Try.underlying9 Try.underlying30
    have Hok := Hid.mk hok
    have Hkl := Hid.mk hkl
    have hst0 : ∀ x : Str, x ∈ ([] : List Str) ↔ (look T.fs x).isSome = true ∧ (look T.fs x).isSome = false ∧ hasPre q x = true := fun x => by
      constructor
      · intro h; cases h
      · rintro ⟨h1, h2, _⟩
        rw [h1] at h2; cases h2
    have hstart := Hid.mk (show LRel w q T sx w.heap.size cnt (.slice none 0 0) w2 from ⟨[], _, hrg2, OwnStrs.nil _ _, List.nodup_nil, hst0, Nat.le_refl _, hb2⟩)
    clear hst0
    clear h hok hkl hmg hrg2 hb2 hs2 e
    go_enter Try.func22, Try.ntmps22
    go_wp2
    go_loopg [5] cnt (fun g ou wr => LRel w q T sx w.heap.size g ou wr)
    case atStart => exact hstart.out
    case round =>
      clear hstart hr2 hmap
      rename World => wi
      obtain ⟨L, left, hrg, hown, hnd, hmem, hbr, hbel⟩ := hrel
      have hLlen : L.length ≤ 256 := by
        refine Nat.le_trans (nodup_le hnd (m := keys T.fs) fun x hx => (Hkl.out.2 x).2 ((hmem x).1 hx).1) ?_
        have := Hok.out.few
        simpa using this
      rcases hrg.next Try.underlying9 0 with ⟨hl0, hrun⟩ | ⟨y, a, w3, cnt3, hly, hyl, hfy, hrun, hrg3, hlt, hgr, hsz3, hen⟩
      · have hs : sortB L = listOf T.fs q := sortB_rising (listOf_rising Hok.out.rise q) hnd fun x => by
          rw [hmem, mem_listOf, ← Hkl.out.2 x, hl0 x]
          simp
        obtain ⟨ao, co, rfl, _⟩ := hown.open
        have hE := Hid.mk (list_end hown hbel (by omega) hs)
        clear hrg hown hnd hmem hbel hl0 hs
        go_wp2_with fail
        refine hE.out.mono ?_
        rintro e w1 ⟨rfl, hown, hb⟩
        have Hown := Hid.mk hown
        have Hb := Hid.mk hb
        clear hown hb hE
        go_wp2_with fail
        refine (values_is _ _ _ w1).mono ?_
        rintro e w2 ⟨rfl, rfl⟩
        go_wp2
        go_ret
        exact ⟨w1.heap.size, _, rfl, Hb.out.size, cell_new w1 _ _, World.ownsRow.alloc Hown.out _, Hb.out.alloc Hb.out.size _⟩
      · have hrun' : (Instr.next (.pointer (some ⟨w.heap.size, 0, none⟩)) false 0).run Try.prog wi = .ok (.tuple #[.bool true, strV y, strV a]) w3 := hrun
        have hen' : (Instr.entry (.pointer (some ⟨w.heap.size, 0, none⟩))).run Try.prog w3 = .ok (.tuple #[strV y, strV a]) w3 := hen
        have hit := hrg.iter
        obtain ⟨ao, co, hu5, _⟩ := hown.open
        subst hu5
        have hown3 : OwnStrs w3 w.heap.size (.slice ao L.length co) L := ownsRow_same hown fun k hk => by
          obtain ⟨_, c, hc⟩ := ownsRow_type hown hk
          refine hgr.block k (Array.getElem?_eq_some_iff.1 hc).1 (fun e => ?_)
          have e2 : k = w.heap.size := by simpa using e
          obtain ⟨s, seen, c2, h2⟩ := hit
          rw [← e2, hc] at h2
          cases h2
        have hbel3 : Below w.heap.size w w3 := ⟨hgr.os.trans hbel.os, hgr.tape.trans hbel.tape, hgr.output.trans hbel.output, Nat.le_trans hbel.size hgr.size, fun k hk => (hgr.block k (Nat.lt_of_lt_of_le hk hbel.size) (by simp; omega)).trans (hbel.block k hk)⟩
        have hcall := Hid.mk (Try.strings_HasPrefix (bs y) (bs q) w3)
        have hnotin : y ∉ L := fun hy => by
          have := ((hmem y).1 hy).2.1
          rw [hly] at this; cases this
        have Hlt := Hid.mk hlt
        cases hp : hasPre q y with
        | false =>
          have hp2 : Lib.hasPrefix (bs y).data.toList (bs q).data.toList = false := by rw [← hp, ← hasPre_eq]
          have hnext := Hid.mk (show LRel w q T sx w.heap.size cnt3 (.slice ao L.length co) w3 from ⟨L, _, hrg3, hown3, hnd, fun x => by
            rw [hmem]
            by_cases e : x = y
            · subst e; simp [hp, hly]
            · simp [e], hbr, hbel3⟩)
          clear hrg hrg3 hown hown3 hnd hmem hbel hbel3 hgr hit hnotin hp hen hrun hlt hsz3
          go_wp2_with fail
          refine hcall.out.mono ?_
          rw [hp2]
          rintro e wn ⟨rfl, rfl⟩
          go_wp2
          go_roundg cnt3
          case measure => exact Hlt.out
          case rel => exact hnext.out
        | true =>
          have hp2 : Lib.hasPrefix (bs y).data.toList (bs q).data.toList = true := by rw [← hp, ← hasPre_eq]
          obtain ⟨g', cap', w5, hr5, hown5, hgr5, _⟩ := run_appS w3 w.heap.size _ L hown3 y (by omega) hbel3.size
          have hb5 := below_appS (hbel3.alloc hbel3.size _) (World.ownsRow.alloc hown3 _) (Nat.le_refl _) hgr5
          have hk5 : ∀ k, k < w3.heap.size → (∀ c t f, w3.heap[k]? ≠ some (.cells c t f)) → w5.heap[k]? = w3.heap[k]? := fun k hk hn => by
            rw [own_other (World.ownsRow.alloc hown3 _) hgr5 (by rw [World.size_alloc]; omega) (fun c t f => by rw [Below.heap_alloc _ _ _ hk]; exact hn c t f), Below.heap_alloc _ _ _ hk]
          have hrg5 : RangeG Try.prog 9 eS w5 sx w.heap.size T.fs.length (look T.fs) (fun z => left z && !decide (z = y)) cnt3 := by
            refine hrg3.same (hk5 sx hrg3.owns.lt fun c t f => ?_) (hk5 _ hrg3.lt fun c t f => ?_)
            · obtain ⟨es, cl, h2⟩ := hrg3.owns.is_map
              rw [h2]; simp
            · obtain ⟨s, seen, c2, h2⟩ := hrg3.iter
              rw [h2]; simp
          have hnext := Hid.mk (show LRel w q T sx w.heap.size cnt3 (.slice (some ⟨g', 0, none⟩) (L.length + 1) cap') w5 from ⟨L ++ [y], _, hrg5, hown5, List.nodup_append.2 ⟨hnd, by simp, fun a ha b hb e => by
            obtain rfl : b = y := by simpa using hb
            exact hnotin (e ▸ ha)⟩, fun x => by
            rw [List.mem_append, hmem]
            by_cases e : x = y
            · subst e; simp [hp, hfy]
            · simp [e], hbr, hb5⟩)
          clear hrg hrg3 hrg5 hown hown3 hown5 hnd hmem hbel hbel3 hgr hgr5 hb5 hit hnotin hp hen hrun hlt hk5 hsz3
          go_wp2_with fail
          refine hcall.out.mono ?_
          rw [hp2]
          rintro e wn ⟨rfl, rfl⟩
          go_wp2_with (at_builtin; refine wpList_append_run rfl _ _ _ rfl rfl rfl rfl hr5 ?_)
          go_roundg cnt3
          case measure => exact Hlt.out
          case rel => exact hnext.out

end Go.Proofs.Ytejlekfnjhnklaa
