/-
  The law TreeMissed, walked.
-/
import Derived.Test.YtejlekfnjhnklaaMiss
import Derived.Test.YtejlekfnjhnklaaPlays
import Derived.Deep.DeepCutAuto
import Derived.Deep.CutRange
namespace Go.Proofs.Ytejlekfnjhnklaa
open Go.RowKit Go.Maps

/-- What is kept: nothing yet; or the files at the mark. -/
def Kept (k i : Nat) (T : Tr) (n : Nat) (f : Str → Option Str) (mark : Value) : Prop :=
  (i < k ∧ f = (fun _ => none) ∧ n = 0 ∧ mark = .int .i64 0) ∨ (k ≤ i ∧ ∃ T0, f = look T0.fs ∧ From T0 T ∧ mark = .int .i64 T0.ch.length ∧ T0.ch.length ≤ T.ch.length)

def MiRel (w : World) (l : List OpT) (k p kb g : Nat) (mark iv : Value) (wr : World) : Prop :=
  ∃ i : Nat, i + g = l.length ∧ iv = .int .i64 i ∧ ∃ T n f, Miss w p kb T n f wr ∧ T.ok ∧ T.ch.length ≤ i ∧ n ≤ 256 ∧ (i = 0 ∨ Kept k (i - 1) T n f mark) ∧ (i = 0 → f = (fun _ => none) ∧ n = 0 ∧ mark = .int .i64 0)

def MiMid (w : World) (k i p kb : Nat) (T : Tr) (mark : Value) (wx : World) : Prop := ∃ n f, Miss w p kb T n f wx ∧ n ≤ 256 ∧ Kept k i T n f mark

def LiRel2 (w : World) (p kb : Nat) (T : Tr) (vl : Value) (g : Nat) (jv : Value) (wr : World) : Prop :=
  ∃ j : Nat, j + g = T.fs.length ∧ jv = .int .i64 j ∧ Miss w p kb T j (look (T.fs.take j)) wr ∧ IsStrs wr vl (keys T.fs)

def SiRel3 (w : World) (p kb : Nat) (T : Tr) (f0 : Str → Option Str) (L : List Str) (vl : Value) (g : Nat) (jv : Value) (wr : World) : Prop :=
  ∃ j n : Nat, j + g = L.length ∧ jv = .int .i64 j ∧ n ≤ 256 + j ∧ Miss w p kb T n (anew f0 (look T.fs) (L.take j)) wr ∧ IsStrs wr vl L

def FiRel4 (w : World) (p kb n : Nat) (T : Tr) (vl : Value) (g : Nat) (jv : Value) (wr : World) : Prop :=
  ∃ j : Nat, j + g = T.fs.length ∧ jv = .int .i64 j ∧ Miss w p kb T n (look T.fs) wr ∧ IsStrs wr vl (keys T.fs)

theorem IsStrs.cells {w : World} {a : Option Addr} {n c : Nat} {l : List Str} (h : IsStrs w (.slice a n c) l) {j : Nat} (hj : j < l.length) : ∃ g off, a = some ⟨g, off, none⟩ ∧ ∀ i (h : i < l.length), w.cell? ⟨g, off + i, none⟩ = some (strV l[i]) := by
  obtain ⟨a2, c2, e, h2⟩ := h
  cases e
  rcases h2 with e | ⟨g, off, rfl, _, hc⟩
  · rw [e] at hj; simp at hj
  · exact ⟨g, off, rfl, hc⟩

theorem rising_lt {l : List Str} (h : Rising l) {i j : Nat} (hi : i < l.length) (hj : j < l.length) (hij : i < j) : l[i] < l[j] := List.pairwise_iff_getElem.1 h i j hi hj hij

set_option maxHeartbeats 16000000 in
set_option maxRecDepth 100000 in
theorem missed_is {w : World} {v : Value} {l : List OpT} (h : IsOps w v l) (hok : OpsOk l) (hg : Glob w) (cut : Int) (hc1 : -9223372036854775808 ≤ cut) (hc2 : cut ≤ 9223372036854775807) :
    Calls Try.prog 4 #[v, .int .i64 cut] w fun e w' => e = .returned (.bool true) ∧ Below w.heap.size w w' := by
  obtain ⟨a, cap, rfl, hc⟩ := id h
  have H := Hid.mk h
  have Hc := Hid.mk hc
  have Hok := Hid.mk hok
  have Hg := Hid.mk hg
  clear h hc hok hg
  go_enter Try.func4, Try.ntmps4
  go_wp2_with fail
  refine (works10_is Hg.out).mono ?_
  rintro e w1 ⟨rfl, hb⟩
  have Hb := Hid.mk hb
  clear hb
  go_wp2_with fail
  refine (long_is (H.out.below Hb.out) Hok.out.texts Hok.out.few).mono ?_
  rintro e w2 ⟨rfl, hb⟩
  replace Hb := Hid.mk (Hb.out.trans (hb.mono Hb.out.size))
  clear hb
  cases hL : longB l with
  | true =>
    go_wp2
    go_ret
    exact ⟨rfl, Hb.out⟩
  | false =>
    clear hL
    by_cases h400 : (400 : Int) < l.length
    · go_wp2
      go_ret
      exact ⟨rfl, Hb.out⟩
    · have hrem : -((l.length : Int) + 1) < cut.tmod ((l.length : Int) + 1) ∧ cut.tmod ((l.length : Int) + 1) < (l.length : Int) + 1 := by
        have h1 := Int.tmod_lt_of_pos cut (b := (l.length : Int) + 1) (by omega)
        have h2 := Int.tmod_lt_of_pos (-cut) (b := (l.length : Int) + 1) (by omega)
        rw [Int.neg_tmod] at h2
        omega
      obtain ⟨k0, hk0⟩ : ∃ k0, cut.tmod ((l.length : Int) + 1) = k0 := ⟨_, rfl⟩
      rw [hk0] at hrem
      go_upto_if 45 with fail
      go_cut [5] (fun s5 wx => ∃ k : Nat, s5 = .int .i64 k ∧ k ≤ l.length ∧ wx = w2)
      case first =>
        by_cases hneg : k0 < 0
        · go_wp2
          go_meet
          case rel => exact ⟨(k0 + ((l.length : Int) + 1)).toNat, by rw [show (((k0 + ((l.length : Int) + 1)).toNat : Nat) : Int) = k0 + ((l.length : Int) + 1) by omega], by omega, rfl⟩
        · go_wp2
          go_meet
          case rel => exact ⟨k0.toNat, by rw [show ((k0.toNat : Nat) : Int) = k0 by omega], by omega, rfl⟩
      case rest =>
        clear hrem hk0
        obtain ⟨k, rfl, hkl, rfl⟩ := hcut
        have hmm : ∀ wx, (Instr.makeMap 30 none).run Try.prog wx = .ok (.map (some wx.heap.size)) (wx.alloc (.map #[] 0)) := fun wx => run_makeMap (P := Try.prog) 30 wx
        go_wp2_with fail
        refine (TreeOwn.new w wc Hb.out).mono ?_
        rintro e w3 ⟨p, rfl, ht⟩
        have Hm := Hid.mk (Miss.made ht)
        clear ht Hb
        go_wp2
        generalize w3.heap.size = kb at *
        go_loopg [8, 9] l.length (fun g mv iv wr => MiRel w l k p kb g mv iv wr)
        case atStart => exact ⟨0, by omega, rfl, Tr.empty, 0, _, Hm.out, Tr.ok.empty, by simp [Tr.empty], by omega, .inl rfl, fun _ => ⟨rfl, rfl, rfl⟩⟩
        case round =>
          clear Hm hmm
          rename World => wp
          obtain ⟨i, hig, rfl, T, n, f, hm, hT, hTi, hn, hK, hK0⟩ := hrel
          have HT := Hid.mk hT
          have Hm := Hid.mk hm
          have HK := Hid.mk (And.intro hK hK0)
          have hfew := hT.few
          clear hT hm hK hK0
          have hile : (i : Int) ≤ l.length := by omega
          go_upto_if 61 with fail
          go_cut [8] (fun s8 wx => MiMid w k i p kb T s8 wx)
          case first =>
            by_cases hik : i = k
            · subst hik
              have hf0 : f = (fun _ => none) ∧ n = 0 := by
                rcases HK.out.1 with h0 | h0
                · exact ⟨(HK.out.2 h0).1, (HK.out.2 h0).2.1⟩
                · by_cases hz : i = 0
                  · exact ⟨(HK.out.2 hz).1, (HK.out.2 hz).2.1⟩
                  · rcases h0 with ⟨_, h1, h2, _⟩ | ⟨h1, _⟩
                    · exact ⟨h1, h2⟩
                    · omega
              obtain ⟨rfl, rfl⟩ := hf0
              go_wp2_with fail
              refine (Hm.out.listed HT.out).mono ?_
              rintro e w4 ⟨vl, rfl, hvl, hb⟩
              have hvs := hvl.is
              obtain ⟨al, cl, rfl, _⟩ := id hvs
              have hkl : (keys T.fs).length = T.fs.length := by simp
              have hstart := Hid.mk (show LiRel2 w p kb T (.slice al (keys T.fs).length cl) T.fs.length (.int .i64 0) w4 from ⟨0, by omega, rfl, Hm.out.below hb, hvs⟩)
              have Hkl := Hid.mk hkl
              rw [hkl] at hstart
              rw [hkl]
              clear hvl hvs hb hkl
              go_wp2
              go_loopg [71] T.fs.length (fun g2 jv wr => LiRel2 w p kb T (.slice al T.fs.length cl) g2 jv wr)
              case atStart => exact hstart.out
              case round =>
                clear hstart
                rename World => wi
                obtain ⟨j, hjg, rfl, hmj, hvs⟩ := hrel
                have Hmj := Hid.mk hmj
                cases gk with
                | zero =>
                  obtain rfl : j = T.fs.length := by omega
                  clear hmj hvs
                  go_wp2_with fail
                  refine (Hmj.out.own.mark).mono ?_
                  rintro e w5 ⟨rfl, rfl⟩
                  have Hmid := Hid.mk (show MiMid w i i p kb T (.int .i64 T.ch.length) wi from ⟨_, _, Hmj.out, hfew, .inr ⟨Nat.le_refl _, T, by rw [List.take_length], From.refl T, rfl, Nat.le_refl _⟩⟩)
                  clear Hmj
                  go_wp2
                  go_meet
                  case rel => exact Hmid.out
                | succ g2 =>
                  have hlt : j < T.fs.length := by omega
                  have hlt3 : (j : Int) < T.fs.length := by omega
                  obtain ⟨gl, off, rfl, hgl, hcl⟩ : ∃ gl off, al = some ⟨gl, off, none⟩ ∧ gl < wi.heap.size ∧ ∀ i (h : i < (keys T.fs).length), wi.cell? ⟨gl, off + i, none⟩ = some (strV (keys T.fs)[i]) := by
                    obtain ⟨a2, c2, e2, h2⟩ := hvs
                    rw [Hkl.out] at e2
                    cases e2
                    rcases h2 with e | h
                    · have := Hkl.out
                      rw [e] at this
                      simp at this; omega
                    · exact h
                  have d1 : wi.cell? ⟨gl, off + j, none⟩ = some (strV T.fs[j].1) := by
                    have := hcl j (by rw [Hkl.out]; exact hlt)
                    rwa [keys_get hlt] at this
                  have hcall := Hmj.out.read Hg.out T.fs[j].1
                  rw [read_file HT.out hlt] at hcall
                  have hpl := path_len (HT.out.paths _ (List.getElem_mem hlt))
                  have hts := look_take_succ HT.out.rise hlt
                  have Hvs := Hid.mk hvs
                  have hstep : ∀ w5 : World, Below wi.heap.size wi w5 → ∃ w6, (Instr.mapUpdate 30 (.map (some kb)) (strV T.fs[j].1) (strV T.fs[j].2)).run Try.prog w5 = .ok () w6 ∧ LiRel2 w p kb T (.slice (some ⟨gl, off, none⟩) T.fs.length cl) g2 (.int .i64 ((j : Int) + 1)) w6 := fun w5 hb => by
                    have hm5 := Hmj.out.below hb
                    obtain ⟨w6, hr, hm6, ht⟩ := hm5.put (by omega) hpl T.fs[j].2
                    rw [hts] at hm6
                    exact ⟨w6, hr, j + 1, by omega, by go_num, hm6, (Hvs.out.below hb).turned ht hm5.kept.is_map⟩
                  have Hstep := Hid.mk hstep
                  have Hcall := Hid.mk hcall
                  generalize T.fs[j].1 = x at d1 Hcall Hstep
                  generalize T.fs[j].2 = y at Hcall Hstep
                  clear hmj hvs hcl hcall hpl hts hstep Hmj Hvs
                  go_wp2_with fail
                  refine Hcall.out.mono ?_
                  rintro e w5 ⟨rfl, hb⟩
                  obtain ⟨w6, hr6, hrel6⟩ := Hstep.out w5 hb
                  have Hrel6 := Hid.mk hrel6
                  clear hrel6 hb Hstep Hcall
                  go_wp2
                  go_roundg g2
                  case measure => omega
                  case rel => exact Hrel6.out
            · have hne : ((i : Int) == (k : Int)) = false := by rw [beq_eq_false_iff_ne]; omega
              have hmid : MiMid w k i p kb T u8 wp := by
                refine ⟨n, f, Hm.out, hn, ?_⟩
                rcases HK.out.1 with h0 | h0
                · obtain ⟨h1, h2, h3⟩ := HK.out.2 h0
                  exact .inl ⟨by omega, h1, h2, h3⟩
                · by_cases hz : i = 0
                  · obtain ⟨h1, h2, h3⟩ := HK.out.2 hz
                    exact .inl ⟨by omega, h1, h2, h3⟩
                  · rcases h0 with ⟨h1, h2⟩ | ⟨h1, h2⟩
                    · exact .inl ⟨by omega, h2⟩
                    · exact .inr ⟨by omega, h2⟩
              have Hmid := Hid.mk hmid
              clear hmid HK Hm hik
              go_wp2
              go_meet
              case rel => exact Hmid.out
          case rest =>
            clear HK Hm hn
            obtain ⟨n, f, hm2, hn2, hK2⟩ := hcut
            have Hm2 := Hid.mk hm2
            have HK2 := Hid.mk hK2
            clear hm2 hK2
            rename World => wc2
            cases gk with
            | zero =>
              obtain rfl : i = l.length := by omega
              obtain ⟨T0, rfl, hfr, hmk, hmle⟩ : ∃ T0 : Tr, f = look T0.fs ∧ From T0 T ∧ u8 = .int .i64 T0.ch.length ∧ T0.ch.length ≤ T.ch.length := by
                rcases HK2.out with ⟨h1, _⟩ | ⟨_, h⟩
                · omega
                · exact h
              subst hmk
              have Hfr := Hid.mk hfr
              clear hfr HK2
              by_cases h32 : 32 < (T.ch.length : Int) - T0.ch.length
              · have hsi := Hid.mk (show T.since T0.ch.length = ([], false) by unfold Tr.since; rw [if_pos (.inr (.inr h32))])
                go_wp2_with fail
                refine (Hm2.out.since (by omega) T0.ch.length (by omega) (by omega)).mono ?_
                rintro e w5 ⟨vs, rfl, hvs, hb⟩
                rw [hsi.out] at hvs
                rw [hsi.out]
                obtain ⟨aS, cs, rfl, _⟩ := hvs
                have Hm5 := Hid.mk (Hm2.out.below hb)
                clear hb Hm2 hsi
                go_wp2_with fail
                refine (Hm5.out.own.mark).mono ?_
                rintro e w6 ⟨rfl, rfl⟩
                have Hb5 := Hid.mk Hm5.out.b
                clear Hm5
                go_wp2
                go_ret
                exact ⟨rfl, Hb5.out⟩
              · have hsi := Hid.mk (show T.since T0.ch.length = (insAll (T.ch.drop T0.ch.length), true) by
                  unfold Tr.since
                  rw [if_neg (by omega)]
                  rfl)
                have hLr := insAll_rising (T.ch.drop T0.ch.length)
                have hLl : (insAll (T.ch.drop T0.ch.length)).length ≤ 32 := Nat.le_trans (insAll_length _) (by rw [List.length_drop]; omega)
                have hLp : ∀ x ∈ insAll (T.ch.drop T0.ch.length), isPath x = true := fun x hx => HT.out.chs x (List.mem_of_mem_drop (mem_insAll.1 hx))
                have hall := anew_all Hfr.out
                go_wp2_with fail
                refine (Hm2.out.since (by omega) T0.ch.length (by omega) (by omega)).mono ?_
                rintro e w5 ⟨vs, rfl, hvs, hb⟩
                rw [hsi.out] at hvs
                rw [hsi.out]
                have Hm5 := Hid.mk (Hm2.out.below hb)
                clear hb Hm2 hsi
                simp only at hvs
                generalize insAll (T.ch.drop T0.ch.length) = L at hvs hLr hLl hLp hall
                generalize look T0.fs = f0 at hall Hm5
                obtain ⟨aS, cs, rfl, _⟩ := id hvs
                have HL := Hid.mk (And.intro hLr (And.intro hLp hall))
                have hstart := Hid.mk (show SiRel3 w p kb T f0 L (.slice aS L.length cs) L.length (.int .i64 0) w5 from ⟨0, n, by omega, rfl, by omega, Hm5.out, hvs⟩)
                clear hvs Hm5 hLr hLp hall
                go_wp2
                go_loopg [133] L.length (fun g jv wr => SiRel3 w p kb T f0 L (.slice aS L.length cs) g jv wr)
                case atStart => exact hstart.out
                case round =>
                  clear hstart
                  rename World => wi
                  obtain ⟨j, n3, hjg, rfl, hn3, hmj, hvs⟩ := hrel
                  have Hmj := Hid.mk hmj
                  have Hvs := Hid.mk hvs
                  clear hmj hvs
                  cases gk with
                  | zero =>
                    obtain rfl : j = L.length := by omega
                    have hm6 := Hmj.out
                    rw [List.take_length, HL.out.2.2] at hm6
                    have Hm6 := Hid.mk hm6
                    clear hm6 Hmj Hvs
                    go_wp2_with fail
                    refine (Hm6.out.listed HT.out).mono ?_
                    rintro e w7 ⟨vl, rfl, hvl, hb⟩
                    have hvs := hvl.is
                    obtain ⟨al, cl, rfl, _⟩ := id hvs
                    have hkl : (keys T.fs).length = T.fs.length := by simp
                    have hm7 := Hm6.out.below hb
                    have hlen := fun ty => hm7.kept.len Try.underlying9 Try.underlying30 (keys_look HT.out.rise) ty
                    have hstart := Hid.mk (show FiRel4 w p kb n3 T (.slice al (keys T.fs).length cl) T.fs.length (.int .i64 0) w7 from ⟨0, by omega, rfl, hm7, hvs⟩)
                    have Hkl := Hid.mk hkl
                    rw [hkl] at hstart hlen
                    rw [hkl]
                    have HLen := Hid.mk (hm7.own.len HT.out)
                    clear hvl hvs hb hkl hm7 Hm6
                    go_wp2_with fail
                    refine HLen.out.mono ?_
                    rintro e w8 ⟨rfl, rfl⟩
                    go_wp2
                    clear HLen hlen
                    go_loopg [191] T.fs.length (fun g2 jv wr => FiRel4 w p kb n3 T (.slice al T.fs.length cl) g2 jv wr)
                    case atStart => exact hstart.out
                    case round =>
                      clear hstart
                      rename World => wf
                      obtain ⟨j, hjg, rfl, hmj, hvs⟩ := hrel
                      have Hmj := Hid.mk hmj
                      have Hvs := Hid.mk hvs
                      clear hmj hvs
                      cases gk with
                      | zero =>
                        have Hb := Hid.mk Hmj.out.b
                        obtain rfl : j = T.fs.length := by omega
                        clear Hmj Hvs
                        go_wp2
                        go_ret
                        exact ⟨rfl, Hb.out⟩
                      | succ g2 =>
                        have hlt : j < T.fs.length := by omega
                        have hlt3 : (j : Int) < T.fs.length := by omega
                        obtain ⟨gl, off, rfl, hcl⟩ := Hvs.out.cells (j := j) (by rw [Hkl.out]; exact hlt)
                        have d1 : wf.cell? ⟨gl, off + j, none⟩ = some (strV T.fs[j].1) := by
                          have := hcl j (by rw [Hkl.out]; exact hlt)
                          rwa [keys_get hlt] at this
                        have hcall := Hmj.out.read Hg.out T.fs[j].1
                        rw [read_file HT.out hlt] at hcall
                        have hpl := path_len (HT.out.paths _ (List.getElem_mem hlt))
                        have hlk := (look_some HT.out.rise (p := T.fs[j].1) (s := T.fs[j].2)).2 (List.getElem_mem hlt)
                        have hstep : ∀ w5 : World, Below wf.heap.size wf w5 → (Instr.lookup 30 (.map (some kb)) (strV T.fs[j].1) true).run Try.prog w5 = .ok (.tuple #[strV T.fs[j].2, .bool true]) w5 ∧ FiRel4 w p kb n3 T (.slice (some ⟨gl, off, none⟩) T.fs.length cl) g2 (.int .i64 ((j : Int) + 1)) w5 := fun w5 hb => by
                          have hm5 := Hmj.out.below hb
                          exact ⟨hm5.kept.look_ok_some Try.underlying9 Try.underlying30 (zeroStr w5) (by unfold maxLen; omega) hlk, j + 1, by omega, by go_num, hm5, Hvs.out.below hb⟩
                        have Hstep := Hid.mk hstep
                        have Hcall := Hid.mk hcall
                        generalize T.fs[j].1 = x at d1 Hcall Hstep
                        generalize T.fs[j].2 = y at Hcall Hstep
                        clear hcl hcall hpl hlk hstep Hmj Hvs
                        go_wp2_with fail
                        refine Hcall.out.mono ?_
                        rintro e w5 ⟨rfl, hb⟩
                        obtain ⟨hr6, hrel6⟩ := Hstep.out w5 hb
                        have Hrel6 := Hid.mk hrel6
                        clear hrel6 hb Hstep Hcall
                        go_wp2
                        go_roundg g2
                        case measure => omega
                        case rel => exact Hrel6.out
                  | succ g2 =>
                    have hlt : j < L.length := by omega
                    have hlt3 : (j : Int) < L.length := by omega
                    obtain ⟨gl, off, rfl, hcl⟩ := Hvs.out.cells hlt
                    have d1 : wi.cell? ⟨gl, off + j, none⟩ = some (strV L[j]) := hcl j hlt
                    have hip := HL.out.2.1 _ (List.getElem_mem hlt)
                    have hpl := path_len hip
                    have hcall := Hmj.out.read Hg.out L[j]
                    have hsucc := anew_succ f0 (look T.fs) hlt
                    -- the cell ahead, where there is one
                    have hprev : ∀ j0, j = j0 + 1 → ∃ z, z < L[j] ∧ ∀ w5 : World, Below wi.heap.size wi w5 → w5.cell? ⟨gl, off + j0, none⟩ = some (strV z) := fun j0 e => by
                      refine ⟨L[j0]'(by omega), rising_lt HL.out.1 (by omega) hlt (by omega), fun w5 hb => ?_⟩
                      have hc := hcl j0 (by omega)
                      exact cell_block hc (hb.block _ (cell_lt hc))
                    have hput : ∀ (s : Str) (w5 : World), look T.fs L[j] = some s → Below wi.heap.size wi w5 → ∃ w6, (Instr.mapUpdate 30 (.map (some kb)) (strV L[j]) (strV s)).run Try.prog w5 = .ok () w6 ∧ SiRel3 w p kb T f0 L (.slice (some ⟨gl, off, none⟩) L.length cs) g2 (.int .i64 ((j : Int) + 1)) w6 := fun s w5 hlk hb => by
                      have hm5 := Hmj.out.below hb
                      obtain ⟨w6, hr, hm6, ht⟩ := hm5.put (by omega) hpl s
                      rw [← hlk, hsucc] at hm6
                      exact ⟨w6, hr, j + 1, _, by omega, by go_num, by omega, hm6, (Hvs.out.below hb).turned ht hm5.kept.is_map⟩
                    have hdel : ∀ (w5 : World), look T.fs L[j] = none → Below wi.heap.size wi w5 → ∃ w6, (Builtin.delete_ #[30, 9] 0 #[.map (some kb), strV L[j]]).run Try.prog w5 = .ok (.tuple #[]) w6 ∧ SiRel3 w p kb T f0 L (.slice (some ⟨gl, off, none⟩) L.length cs) g2 (.int .i64 ((j : Int) + 1)) w6 := fun w5 hlk hb => by
                      have hm5 := Hmj.out.below hb
                      obtain ⟨w6, hr, hm6, ht⟩ := hm5.del hpl
                      rw [← hlk, hsucc] at hm6
                      exact ⟨w6, hr, j + 1, _, by omega, by go_num, by omega, hm6, (Hvs.out.below hb).turned ht hm5.kept.is_map⟩
                    have hpath : ∀ (w5 : World), Below wi.heap.size wi w5 → Calls Try.prog 18 #[strV L[j]] w5 fun e w' => e = .returned (.bool true) ∧ Below w5.heap.size w5 w' := fun w5 hb => by
                      have := path_is L[j] (Hg.out.below (Hmj.out.b.trans (hb.mono Hmj.out.b.size)))
                      rwa [hip] at this
                    rw [read_of hip] at hcall
                    have Hput := Hid.mk hput
                    have Hdel := Hid.mk hdel
                    have Hpath := Hid.mk hpath
                    have Hprev := Hid.mk hprev
                    generalize L[j] = x at d1 hcall Hput Hdel Hpath Hprev
                    clear hcl hip hpl hsucc hput hdel hpath hprev Hvs Hmj hn3
                    cases hlk : look T.fs x with
                    | some s =>
                      rw [hlk] at hcall
                      have Hcall := Hid.mk hcall
                      have Hlk := Hid.mk hlk
                      clear hcall hlk
                      go_wp2_with fail
                      refine Hcall.out.mono ?_
                      rintro e w6 ⟨rfl, hb⟩
                      have Hb6 := Hid.mk hb
                      clear hb Hcall d1
                      cases j with
                      | zero =>
                        clear Hprev
                        go_wp2_with fail
                        refine (Hpath.out w6 Hb6.out).mono ?_
                        rintro e w7 ⟨rfl, hb⟩
                        have Hb7 := Hid.mk (Hb6.out.trans (hb.mono Hb6.out.size))
                        clear hb Hpath Hb6
                        obtain ⟨w8, hr8, hrel8⟩ := Hput.out s w7 Hlk.out Hb7.out
                        have Hrel8 := Hid.mk hrel8
                        clear hrel8 Hput Hdel Hb7
                        go_wp2
                        go_roundg g2
                        case measure => omega
                        case rel => exact Hrel8.out
                      | succ j0 =>
                        obtain ⟨z, hz, hcz⟩ := Hprev.out j0 rfl
                        have dz := hcz w6 Hb6.out
                        have hnz : Op.bytesLess z x = true := by rw [bytesLess_eq]; simp [hz]
                        have hsub : ((j0 + 1 : Nat) : Int) - 1 = (j0 : Int) := by omega
                        clear hcz
                        clear Hprev
                        go_wp2_with fail
                        refine (Hpath.out w6 Hb6.out).mono ?_
                        rintro e w7 ⟨rfl, hb⟩
                        have Hb7 := Hid.mk (Hb6.out.trans (hb.mono Hb6.out.size))
                        clear hb Hpath Hb6
                        obtain ⟨w8, hr8, hrel8⟩ := Hput.out s w7 Hlk.out Hb7.out
                        have Hrel8 := Hid.mk hrel8
                        clear hrel8 Hput Hdel Hb7
                        go_wp2
                        go_roundg g2
                        case measure => omega
                        case rel => exact Hrel8.out
                    | none =>
                      rw [hlk] at hcall
                      have Hcall := Hid.mk hcall
                      have Hlk := Hid.mk hlk
                      clear hcall hlk
                      go_wp2_with fail
                      refine Hcall.out.mono ?_
                      rintro e w6 ⟨rfl, hb⟩
                      have Hb6 := Hid.mk hb
                      clear hb Hcall d1
                      cases j with
                      | zero =>
                        clear Hprev
                        go_wp2_with fail
                        refine (Hpath.out w6 Hb6.out).mono ?_
                        rintro e w7 ⟨rfl, hb⟩
                        have Hb7 := Hid.mk (Hb6.out.trans (hb.mono Hb6.out.size))
                        clear hb Hpath Hb6
                        obtain ⟨w8, hr8, hrel8⟩ := Hdel.out w7 Hlk.out Hb7.out
                        have Hrel8 := Hid.mk hrel8
                        clear hrel8 Hput Hdel Hb7
                        go_wp2
                        go_roundg g2
                        case measure => omega
                        case rel => exact Hrel8.out
                      | succ j0 =>
                        obtain ⟨z, hz, hcz⟩ := Hprev.out j0 rfl
                        have dz := hcz w6 Hb6.out
                        have hnz : Op.bytesLess z x = true := by rw [bytesLess_eq]; simp [hz]
                        have hsub : ((j0 + 1 : Nat) : Int) - 1 = (j0 : Int) := by omega
                        clear hcz
                        clear Hprev
                        go_wp2_with fail
                        refine (Hpath.out w6 Hb6.out).mono ?_
                        rintro e w7 ⟨rfl, hb⟩
                        have Hb7 := Hid.mk (Hb6.out.trans (hb.mono Hb6.out.size))
                        clear hb Hpath Hb6
                        obtain ⟨w8, hr8, hrel8⟩ := Hdel.out w7 Hlk.out Hb7.out
                        have Hrel8 := Hid.mk hrel8
                        clear hrel8 Hput Hdel Hb7
                        go_wp2
                        go_roundg g2
                        case measure => omega
                        case rel => exact Hrel8.out
            | succ g =>
              have hlt : i < l.length := by omega
              have hlt3 : (i : Int) < l.length := by omega
              have hne : ((i : Int) == (l.length : Int)) = false := by rw [beq_eq_false_iff_ne]; omega
              obtain ⟨gl, off, rfl, d0, d1, d2, d3⟩ := ops_cells Hc.out Hm2.out.b hlt
              obtain ⟨hx1, hx2⟩ := Hok.out.texts _ (List.getElem_mem hlt)
              have hbx : Below wc2.heap.size wc2 (opW wc2 l[i].k l[i].x l[i].s l[i].n) := (Below.refl _ _).alloc (Nat.le_refl _) _
              have hm3 := Hm2.out.below hbx
              have hnext : ∀ (T2 : Tr) (w' : World), Miss w p kb T2 n f w' → T2.ok → T2.ch.length ≤ T.ch.length + 1 → (∀ T0, From T0 T → From T0 T2) → T.ch.length ≤ T2.ch.length → MiRel w l k p kb g u8 (.int .i64 ((i : Int) + 1)) w' := fun T2 w' hm' hok' hch' hfr hle =>
                ⟨i + 1, by omega, by go_num, T2, n, f, hm', hok', by omega, hn2, .inr (by
                  rw [Nat.add_sub_cancel]
                  rcases HK2.out with h | ⟨h1, T0, h2, h3, h4, h5⟩
                  · exact .inl h
                  · exact .inr ⟨h1, T0, h2, hfr T0 h3, h4, by omega⟩), fun h0 => by omega⟩
              have Hnext := Hid.mk hnext
              have Hm3 := Hid.mk hm3
              clear hnext hm3 hbx Hm2 HK2
              generalize l[i].k = ok at d0 Hm3
              generalize l[i].x = ox at d1 Hm3 hx1
              generalize l[i].s = os at d2 Hm3 hx2
              generalize l[i].n = on at d3 Hm3
              by_cases hk0 : ok = 0
              · subst hk0
                go_wp2_with fail
                refine (Hm3.out.write Hg.out HT.out (by omega) ox os).mono ?_
                rintro e w5 ⟨⟨rv, rfl⟩, hm5⟩
                have Hend := Hid.mk (Hnext.out _ _ hm5 (HT.out.write ox os) (write_ch T ox os) (fun T0 h => h.write HT.out.rise ox os) (write_ch_le T ox os))
                clear hm5 Hnext Hm3
                go_wp2
                go_roundg g
                case measure => omega
                case rel => exact Hend.out
              · have q0 : (ok == 0) = false := by simpa using hk0
                by_cases hk1 : ok = 1
                · subst hk1
                  go_wp2_with fail
                  refine (Hm3.out.remove Hg.out HT.out (by omega) ox).mono ?_
                  rintro e w5 ⟨⟨rv, rfl⟩, hm5⟩
                  have Hend := Hid.mk (Hnext.out _ _ hm5 (HT.out.remove ox) (remove_ch T ox) (fun T0 h => h.remove HT.out.rise ox) (remove_ch_le T ox))
                  clear hm5 Hnext Hm3
                  go_wp2
                  go_roundg g
                  case measure => omega
                  case rel => exact Hend.out
                · have q1 : (ok == 1) = false := by simpa using hk1
                  have Hend := Hid.mk (Hnext.out _ _ Hm3.out HT.out (by omega) (fun T0 h => h) (Nat.le_refl _))
                  clear Hnext Hm3 hk0 hk1
                  go_wp2
                  go_roundg g
                  case measure => omega
                  case rel => exact Hend.out

end Go.Proofs.Ytejlekfnjhnklaa
