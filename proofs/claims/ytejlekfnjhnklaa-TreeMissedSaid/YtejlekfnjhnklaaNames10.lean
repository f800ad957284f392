/-
  The law TreeNames, walked.
-/
import Derived.Test.YtejlekfnjhnklaaLong
import Derived.Test.YtejlekfnjhnklaaNamesP10
import Derived.Laws.IdiomStrings
import Derived.Laws.OwnMore
import Derived.Test.YtejlekfnjhnklaaRead
namespace Go.Proofs.Ytejlekfnjhnklaa
open Go.RowKit Go.Maps

/-- A tree of the call's own. -/
structure TreeOwn (w : World) (p : Nat) (T : Tr) (wr : World) : Prop where
  t : ∃ m last, IsTree wr 0 p m last T ∧ ∀ q, m = some q → w.heap.size ≤ q
  p : w.heap.size ≤ p
  b : Below w.heap.size w wr

theorem TreeOwn.below {w wr w' : World} {p : Nat} {T : Tr} (h : TreeOwn w p T wr) (hb : Below wr.heap.size wr w') : TreeOwn w p T w' := by
  obtain ⟨⟨m, last, h1, h2⟩, h3, h4⟩ := h
  exact ⟨⟨m, last, h1.below hb, h2⟩, h3, h4.trans (hb.mono h4.size)⟩

theorem TreeOwn.post {w wr w' : World} {p : Nat} {m : Option Nat} {T' : Tr} (hp : w.heap.size ≤ p) (hm : ∀ q, m = some q → w.heap.size ≤ q) (hb : Below w.heap.size w wr) (h : TreePost wr p m T' w') : TreeOwn w p T' w' := by
  obtain ⟨m', last', h1, h2, h3⟩ := h
  exact ⟨⟨m', last', h1, fun q hq => (h2 q hq).elim (hm q) (fun h => Nat.le_trans hb.size h)⟩, hp, chg_own hb hp hm h3⟩

theorem TreeOwn.write {w wr : World} {p : Nat} {T : Tr} (h : TreeOwn w p T wr) (hg : Glob w) (hok : T.ok) (hch : T.ch.length ≤ 1000000) (x s : Str) :
    Calls Try.prog 15 #[.pointer (some ⟨p, 0, none⟩), strV x, strV s] wr fun e w' => e = .returned (.int .i64 (T.write x s).2) ∧ TreeOwn w p (T.write x s).1 w' := by
  obtain ⟨⟨m, last, h1, h2⟩, h3, h4⟩ := h
  exact (write_is h1 (hg.below h4) hok hch x s).mono fun _ _ ⟨he, hp⟩ => ⟨he, TreeOwn.post h3 h2 h4 hp⟩

theorem TreeOwn.remove {w wr : World} {p : Nat} {T : Tr} (h : TreeOwn w p T wr) (hg : Glob w) (hok : T.ok) (hch : T.ch.length ≤ 1000000) (x : Str) :
    Calls Try.prog 16 #[.pointer (some ⟨p, 0, none⟩), strV x] wr fun e w' => e = .returned (.int .i64 (T.remove x).2) ∧ TreeOwn w p (T.remove x).1 w' := by
  obtain ⟨⟨m, last, h1, h2⟩, h3, h4⟩ := h
  exact (remove_is h1 (hg.below h4) hok hch x).mono fun _ _ ⟨he, hp⟩ => ⟨he, TreeOwn.post h3 h2 h4 hp⟩

theorem TreeOwn.since {w wr : World} {p : Nat} {T : Tr} (h : TreeOwn w p T wr) (hch : T.ch.length ≤ 1000000) (mark : Int) (h1 : -9223372036854775808 ≤ mark) (h2 : mark ≤ 9223372036854775807) :
    Calls Try.prog 17 #[.pointer (some ⟨p, 0, none⟩), .int .i64 mark] wr fun e w' => ∃ a n c, e = .returned (.tuple #[.slice a n c, .bool (T.since mark).2]) ∧ n = (T.since mark).1.length ∧ IsStrs w' (.slice a n c) (T.since mark).1 ∧ TreeOwn w p T w' := by
  obtain ⟨m, last, g1, g2⟩ := h.t
  refine (trSince_is g1 (by omega) mark h1 h2).mono fun e w' ⟨v, he, hv, hb⟩ => ?_
  obtain ⟨a, c, rfl, hx⟩ := id hv
  exact ⟨a, _, c, he, rfl, hv, h.below hb⟩

theorem TreeOwn.len {w wr : World} {p : Nat} {T : Tr} (h : TreeOwn w p T wr) (hok : T.ok) : Calls Try.prog 19 #[.pointer (some ⟨p, 0, none⟩)] wr fun e w' => e = .returned (.int .i64 T.fs.length) ∧ wr = w' := by
  obtain ⟨m, last, g1, g2⟩ := h.t
  exact len_is g1 hok.rise
theorem TreeOwn.mark {w wr : World} {p : Nat} {T : Tr} (h : TreeOwn w p T wr) : Calls Try.prog 14 #[.pointer (some ⟨p, 0, none⟩)] wr fun e w' => e = .returned (.int .i64 T.ch.length) ∧ wr = w' := by
  obtain ⟨m, last, g1, g2⟩ := h.t
  exact mark_is g1

theorem TreeOwn.new (w wr : World) (hb : Below w.heap.size w wr) : Calls Try.prog 9 #[] wr fun e w' => ∃ p, e = .returned (.pointer (some ⟨p, 0, none⟩)) ∧ TreeOwn w p Tr.empty w' := by
  refine (newTree_is wr).mono fun e w' ⟨p, q, last, he, ht, hp, hq, hb2⟩ => ?_
  exact ⟨p, he, ⟨⟨some q, last, ht, fun q' e => by cases e; exact Nat.le_trans hb.size hq⟩, Nat.le_trans hb.size hp, hb.trans (hb2.mono hb.size)⟩⟩

theorem strV_app (a b : Str) : strV (a ++ b) = .string (bs a ++ bs b) := by
  refine congrArg Value.string ?_
  apply ByteArray.ext
  simp [ByteArray.data_append, bs]

theorem infoU8 : (Try.prog.info? 5).map (fun i => (i.zero, i.size, i.bytes)) = some (some (.int .u8 0), 1, 1) := by kernel_rfl

/-- 'string(make([]byte, n))'. -/
theorem zeros_made (w : World) (n : Nat) (hn : n ≤ 1000000) : ∃ w', (Instr.makeSlice 55 (.int .i64 (n : Int)) (.int .i64 (n : Int))).run Try.prog w = .ok (.slice (some ⟨w.heap.size, 0, none⟩) n n) w' ∧
    (convert 55 9 (.slice (some ⟨w.heap.size, 0, none⟩) n n)).run Try.prog w' = .ok (strV (List.replicate n 0)) w' ∧ Below w.heap.size w w' := by
  obtain ⟨i0, hi, hz0, hz1, hz2⟩ := info_parts infoU8
  have h := run_make (P := Try.prog) w 55 5 i0 (.int .u8 0) Try.underlying55 hi hz0 .i64 .i64 (n : Int) (n : Int) (by omega) (by omega) (by rw [hz2]; omega) (by omega)
  rw [hz1, Int.toNat_natCast, Nat.mul_one] at h
  refine ⟨_, h, ?_, (Below.refl _ _).alloc (Nat.le_refl _) _⟩
  have := run_convert_bytes_back (P := Try.prog) (w.alloc (.cells (madeCells (Value.int .u8 0).cells n) 5)) 55 9 5 ⟨w.heap.size, 0, none⟩ n (List.replicate n 0) Try.underlying55 Try.underlying5 Try.underlying9 (fun j hj => by
    rw [List.length_replicate] at hj
    rw [List.getElem_replicate, add_plain rfl]
    simp only [World.cell?, heap_alloc_new]
    have h2 : (madeCells (Value.int .u8 0).cells n).toList = List.replicate n (.int .u8 0) := toList_madeCells_one _ _
    show (madeCells (Value.int .u8 0).cells n)[0 + j]? = _
    rw [← Array.getElem?_toList, h2, List.getElem?_replicate, if_pos (by omega)]
    rfl)
  rw [List.length_replicate] at this
  exact this

theorem full_made (w : World) : ∃ w', (Instr.makeSlice 55 (.int .i64 4096) (.int .i64 4096)).run Try.prog w = .ok (.slice (some ⟨w.heap.size, 0, none⟩) 4096 4096) w' ∧
    (convert 55 9 (.slice (some ⟨w.heap.size, 0, none⟩) 4096 4096)).run Try.prog w' = .ok (strV full) w' ∧ Below w.heap.size w w' := zeros_made w 4096 (by decide)

def NmRel (w : World) (p g : Nat) (iv : Value) (wr : World) : Prop := ∃ (i : Nat) (T : Tr), i + g = 256 ∧ iv = .int .i64 i ∧ Has T i ∧ TreeOwn w p T wr

/-- A name, of its three digits. -/
theorem nm_digits (i : Nat) (hi : i < 256) (w : World) :
    (convert 55 9 (.slice (some ⟨w.heap.size, 0, none⟩) 3 3)).run Try.prog (w.alloc (.cells #[.int .u8 (48 + (i : Int) / 100), .int .u8 (48 + (i : Int) / 10 % 10), .int .u8 (48 + (i : Int) % 10)] 5)) =
      .ok (.string ⟨#[UInt8.ofNat (48 + i / 100), UInt8.ofNat (48 + i / 10 % 10), UInt8.ofNat (48 + i % 10)]⟩) (w.alloc (.cells #[.int .u8 (48 + (i : Int) / 100), .int .u8 (48 + (i : Int) / 10 % 10), .int .u8 (48 + (i : Int) % 10)] 5)) := by
  refine run_convert_bytes_back (P := Try.prog) _ 55 9 5 ⟨w.heap.size, 0, none⟩ 3 [UInt8.ofNat (48 + i / 100), UInt8.ofNat (48 + i / 10 % 10), UInt8.ofNat (48 + i % 10)] Try.underlying55 Try.underlying5 Try.underlying9 ?_
  intro j hj
  have e : (⟨w.heap.size, 0, none⟩ : Addr).add j = ⟨w.heap.size, j, none⟩ := by
    by_cases h0 : j = 0
    · subst h0; simp [Addr.add]
    · simp [Addr.add, h0]
  rw [e]
  simp only [World.cell?, heap_alloc_new]
  have h3 : j = 0 ∨ j = 1 ∨ j = 2 := by simp at hj; omega
  rcases h3 with rfl | rfl | rfl
  · simp; omega
  · simp; omega
  · simp; omega

set_option maxHeartbeats 8000000 in
set_option maxRecDepth 100000 in
theorem names_is {w : World} (hg : Glob w) : Calls Try.prog 5 #[] w fun e w' => e = .returned (.bool true) ∧ Below w.heap.size w w' := by
  have Hg := Hid.mk hg
  clear hg
  go_enter Try.func5, Try.ntmps5
  go_wp2_with fail
  refine (works10_is Hg.out).mono ?_
  rintro e w1 ⟨rfl, hb⟩
  have Hb := Hid.mk hb
  clear hb
  go_wp2_with fail
  refine (TreeOwn.new w w1 Hb.out).mono ?_
  rintro e w2 ⟨p, rfl, ht⟩
  have Ht := Hid.mk ht
  clear ht Hb
  go_wp2
  go_loopg [2] 256 (fun g iv wr => NmRel w p g iv wr)
  case atStart => exact ⟨0, Tr.empty, by omega, rfl, Has.none, Ht.out⟩
  case round =>
    clear Ht
    rename World => wp
    obtain ⟨i, T, hig, rfl, hT, ht⟩ := hrel
    have HT := Hid.mk hT
    have Ht := Hid.mk ht
    clear hT ht
    cases gk with
    | zero =>
      obtain rfl : i = 256 := by omega
      have hch : T.ch.length ≤ 1000000 := by rw [HT.out.ch]; simp
      have hc1 := Ht.out.write Hg.out HT.out.ok hch [103] []
      rw [ta_g HT.out] at hc1
      have Hc1 := Hid.mk hc1
      clear hc1
      go_wp2_with fail
      refine Hc1.out.mono ?_
      rintro e w3 ⟨rfl, ht3⟩
      have hc2 := ht3.write Hg.out HT.out.ok hch [102, 48, 48, 48] [120]
      have H2 := Hid.mk HT.out.two
      have hcode : (T.write [102, 48, 48, 48] [120]).2 = 0 := by rw [ta_f0 HT.out]
      rw [hcode] at hc2
      generalize (T.write [102, 48, 48, 48] [120]).1 = TB at H2 hc2
      have Hc2 := Hid.mk hc2
      clear hc2 ht3 Hc1 hch HT Ht hcode
      go_wp2_with fail
      refine Hc2.out.mono ?_
      rintro e w4 ⟨rfl, ht4⟩
      have Ht4 := Hid.mk ht4
      have hlen := ht4.len H2.out.ok
      rw [H2.out.len] at hlen
      have hmark := ht4.mark
      rw [H2.out.chlen] at hmark
      have Hl := Hid.mk (And.intro hlen hmark)
      clear ht4 Hc2 hlen hmark
      go_wp2_with fail
      refine Hl.out.1.mono ?_
      rintro e w5 ⟨rfl, rfl⟩
      go_wp2_with fail
      refine Hl.out.2.mono ?_
      rintro e w5 ⟨rfl, rfl⟩
      clear Hl
      go_wp2_with fail
      refine (Ht4.out.since (by rw [H2.out.chlen]; decide) 225 (by decide) (by decide)).mono ?_
      rw [H2.out.since32.1, H2.out.since32.2]
      rintro e w5 ⟨a1, n1, c1, rfl, rfl, _, ht5⟩
      have Ht5 := Hid.mk ht5
      clear ht5 Ht4
      go_wp2_with fail
      refine (Ht5.out.since (by rw [H2.out.chlen]; decide) 224 (by decide) (by decide)).mono ?_
      rw [H2.out.since33]
      rintro e w6 ⟨a2, n2, c2, rfl, rfl, _, ht6⟩
      have Ht6 := Hid.mk ht6
      clear ht6 Ht5
      go_wp2_with fail
      refine (Ht6.out.since (by rw [H2.out.chlen]; decide) 257 (by decide) (by decide)).mono ?_
      rw [H2.out.since0]
      rintro e w7 ⟨a3, n3, c3, rfl, rfl, _, ht7⟩
      have Ht7 := Hid.mk ht7
      clear ht7 Ht6
      go_wp2_with fail
      refine (Ht7.out.since (by rw [H2.out.chlen]; decide) 258 (by decide) (by decide)).mono ?_
      rw [H2.out.past]
      rintro e w8 ⟨a4, n4, c4, rfl, rfl, _, ht8⟩
      have Ht8 := Hid.mk ht8
      clear ht8 Ht7
      obtain ⟨w9, hmk, hcv, hb9⟩ := full_made w8
      have ht9 := Ht8.out.below hb9
      have hc3 := ht9.write Hg.out H2.out.ok (by rw [H2.out.chlen]; decide) [102, 48, 48, 49] full
      have hcode : (TB.write [102, 48, 48, 49] full).2 = 0 := by rw [H2.out.full]
      have H3 := Hid.mk H2.out.three
      have hfl := strV_app full [120]
      rw [hcode] at hc3
      generalize (TB.write [102, 48, 48, 49] full).1 = TC at H3 hc3
      have hn1 := write_long (T := TC) (p := [102, 48, 48, 49]) (nm_path 1 (by decide))
      have hn2 := write_F (T := TC) (full ++ [120])
      have hn3 := write_long (T := TC) (p := [103]) g_path
      have HN := Hid.mk (And.intro hn1 (And.intro hn2 hn3))
      have Hfl := Hid.mk hfl
      clear hn1 hn2 hn3 hfl
      have hff : full.length ≤ 4096 := by rw [full_len]; exact Nat.le_refl _
      generalize full ++ [120] = fx at HN Hfl
      generalize full = ff at hc3 hcv Hfl hff
      have hfs : (bs ff).size = ff.length := rfl
      have Hc3 := Hid.mk hc3
      clear hc3 ht9 hb9 Ht8 H2 hcode
      go_wp2_with fail
      refine Hc3.out.mono ?_
      rintro e w10 ⟨rfl, ht10⟩
      have hc4 := ht10.write Hg.out H3.out.ok (by rw [H3.out.ch]; decide) [102, 48, 48, 49] fx
      rw [HN.out.1, Hfl.out] at hc4
      have Hc4 := Hid.mk hc4
      clear hc4 ht10 Hc3 hmk hcv
      go_wp2_with fail
      refine Hc4.out.mono ?_
      rintro e w11 ⟨rfl, ht11⟩
      have hc5 := ht11.write Hg.out H3.out.ok (by rw [H3.out.ch]; decide) [70] fx
      rw [HN.out.2.1, Hfl.out] at hc5
      have Hc5 := Hid.mk hc5
      clear hc5 ht11 Hc4
      go_wp2_with fail
      refine Hc5.out.mono ?_
      rintro e w12 ⟨rfl, ht12⟩
      have hc6 := ht12.write Hg.out H3.out.ok (by rw [H3.out.ch]; decide) [103] fx
      rw [HN.out.2.2, Hfl.out] at hc6
      have Hc6 := Hid.mk hc6
      clear hc6 ht12 Hc5
      go_wp2_with fail
      refine Hc6.out.mono ?_
      rintro e w13 ⟨rfl, ht13⟩
      have hc7 := ht13.remove Hg.out H3.out.ok (by rw [H3.out.ch]; decide) [102, 48, 48, 50]
      have hcode : (TC.remove [102, 48, 48, 50]).2 = 0 := by rw [H3.out.rm]
      have hL := H3.out.last
      rw [hcode] at hc7
      generalize (TC.remove [102, 48, 48, 50]).1 = TD at hL hc7
      have HL := Hid.mk hL
      have Hc7 := Hid.mk hc7
      clear hc7 ht13 Hc6 hL hcode H3 HN Hfl hff hfs
      go_wp2_with fail
      refine Hc7.out.mono ?_
      rintro e w14 ⟨rfl, ht14⟩
      have hc8 := ht14.write Hg.out HL.out.2.1 (by rw [HL.out.2.2]; decide) [103] []
      rw [HL.out.1] at hc8
      have Hc8 := Hid.mk hc8
      clear hc8 ht14 Hc7
      go_wp2_with fail
      refine Hc8.out.mono ?_
      rintro e w15 ⟨rfl, ht15⟩
      have Hb := Hid.mk ht15.b
      clear ht15 Hc8
      go_wp2
      go_ret
      exact ⟨rfl, Hb.out⟩
    | succ g =>
      have hi : i < 256 := by omega
      have hi3 : (i : Int) < 256 := by omega
      have hconv0 := nm_digits i hi wp
      have hlen : T.ch.length ≤ 1000000 := by rw [HT.out.ch]; simp; omega
      obtain ⟨da, db, dc, hnm, hconv⟩ : ∃ da db dc : UInt8, nm i = [102, da, db, dc] ∧ (convert 55 9 (.slice (some ⟨wp.heap.size, 0, none⟩) 3 3)).run Try.prog (wp.alloc (.cells #[.int .u8 (48 + (i : Int) / 100), .int .u8 (48 + (i : Int) / 10 % 10), .int .u8 (48 + (i : Int) % 10)] 5)) =
          .ok (.string ⟨#[da, db, dc]⟩) (wp.alloc (.cells #[.int .u8 (48 + (i : Int) / 100), .int .u8 (48 + (i : Int) / 10 % 10), .int .u8 (48 + (i : Int) % 10)] 5)) := ⟨_, _, _, rfl, hconv0⟩
      clear hconv0
      have hcall := (Ht.out.below ((Below.refl _ wp).alloc (Nat.le_refl _) (.cells #[.int .u8 (48 + (i : Int) / 100), .int .u8 (48 + (i : Int) / 10 % 10), .int .u8 (48 + (i : Int) % 10)] 5))).write Hg.out HT.out.ok hlen (nm i) []
      have hnext := HT.out.next hi
      rw [HT.out.write hi] at hcall hnext
      have hsv : strV (nm i) = .string (⟨#[102]⟩ ++ ⟨#[da, db, dc]⟩) := by rw [hnm]; exact strV_app [102] [da, db, dc]
      rw [hsv] at hcall
      generalize hT2 : (⟨put T.fs (nm i) [], T.ch ++ [nm i]⟩ : Tr) = T2 at hcall hnext
      have Hcall := Hid.mk hcall
      have Hnext := Hid.mk hnext
      clear hcall hnext hT2 Ht HT hnm hsv
      go_wp2_with fail
      refine Hcall.out.mono ?_
      rintro e w3 ⟨rfl, ht3⟩
      have Hend := Hid.mk (show NmRel w p g (.int .i64 ((i : Int) + 1)) w3 from ⟨i + 1, T2, by omega, by go_num, Hnext.out, ht3⟩)
      clear Hcall ht3 hconv
      go_wp2
      go_roundg g
      case measure => omega
      case rel => exact Hend.out

end Go.Proofs.Ytejlekfnjhnklaa
