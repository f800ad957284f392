/-
  The document's own predicate on paths, walked.
-/
import Derived.Test.YtejlekfnjhnklaaPath
namespace Go.Proofs.Ytejlekfnjhnklaa
open Go.RowKit

theorem not_all {α : Type} {p : α → Bool} {l : List α} {k : Nat} (h : k < l.length) (hp : p l[k] = false) : l.all p = false := by
  rw [Bool.eq_false_iff]
  intro ha
  have := List.all_eq_true.1 ha l[k] (List.getElem_mem h)
  rw [hp] at this
  cases this

set_option maxHeartbeats 4000000 in
theorem refSeg_is (s : Str) (_hl : s.length ≤ 1000) (w : World) : Calls Try.prog 49 #[strV s] w fun e w' => e = .returned (.bool (segOk s)) ∧ w = w' := by
  have hsz : (bs s).size = s.length := rfl
  by_cases hh : segHead s = true
  · have hh2 := hh
    simp only [segHead, Bool.and_eq_true, decide_eq_true_eq] at hh2
    obtain ⟨⟨⟨h1, h2⟩, h3⟩, h4⟩ := hh2
    have k1 : ¬ (s.length : Int) < 1 := by
      have : 0 < s.length := List.length_pos_iff.2 h1
      omega
    have k3 : (s == [46]) = false := by simpa using h3
    have k4 : (s == [46, 46]) = false := by simpa using h4
    have hok := Hid.mk (show segOk s = s.all (fun b => mayN b.toNat) by simp [segOk, hh])
    clear hh h1 h3 h4
    go_enter Try.func49, Try.ntmps49
    go_wp2
    go_loopg [3] s.length (fun g iv wr => ∃ k : Nat, k + g = s.length ∧ iv = .int .i64 k ∧ Hid ((s.take k).all (fun b => mayN b.toNat) = true) ∧ w = wr)
    case atStart => exact ⟨0, by omega, rfl, ⟨rfl⟩, rfl⟩
    case round =>
      obtain ⟨k, hkg, rfl, hall, rfl⟩ := hrel
      cases gk with
      | zero =>
        obtain rfl : k = s.length := by omega
        have hfin := Hid.mk (show segOk s = true by rw [hok.out]; have := hall.out; rwa [List.take_length] at this)
        clear hall hok
        go_wp2
        go_ret
        exact ⟨congrArg (fun z => Ending.returned (.bool z)) hfin.out.symm, rfl⟩
      | succ g =>
        have hlt : k < s.length := by omega
        obtain ⟨c, hc⟩ : ∃ c, c = s[k].toNat := ⟨_, rfl⟩
        have hby : ((bs s)[k]'hlt).toNat = c := by rw [hc]; simp [bs, ByteArray.getElem_eq_getElem_data]
        have hyes := Hid.mk (fun h : mayN c = true => all_take_succ (fun b => mayN b.toNat) s k hlt hall.out (hc ▸ h))
        have hno := Hid.mk (fun h : mayN c = false => show segOk s = false from hok.out.trans (not_all (p := fun b => mayN b.toNat) hlt (hc ▸ h)))
        clear hall hok hc
        have hcase : (c < 45) ∨ (c = 45) ∨ (c = 46) ∨ (c = 47) ∨ (48 ≤ c ∧ c ≤ 57) ∨ (58 ≤ c ∧ c ≤ 94) ∨ (c = 95) ∨ (c = 96) ∨ (97 ≤ c ∧ c ≤ 122) ∨ (122 < c) := by omega
        rcases hcase with hq | hq | hq | hq | hq | hq | hq | hq | hq | hq
        · have hv := Hid.mk (hno.out (Bool.eq_false_iff.2 (fun h => by have := (mayN_iff c).1 h; omega)))
          have q5 : ((c : Int) != 95) = true := by rw [bne_iff_ne]; omega
          have q6 : ((c : Int) != 46) = true := by rw [bne_iff_ne]; omega
          have q7 : ((c : Int) != 45) = true := by rw [bne_iff_ne]; omega
          clear hyes hno
          go_wp2
          go_ret
          exact ⟨congrArg (fun z => Ending.returned (.bool z)) hv.out.symm, rfl⟩
        · have hv := Hid.mk (hyes.out ((mayN_iff c).2 (by omega)))
          subst hq
          clear hyes hno
          go_wp2
          go_roundg g
          case measure => omega
          case rel => exact ⟨k + 1, by omega, by go_num, ⟨hv.out⟩, rfl⟩
        · have hv := Hid.mk (hyes.out ((mayN_iff c).2 (by omega)))
          subst hq
          clear hyes hno
          go_wp2
          go_roundg g
          case measure => omega
          case rel => exact ⟨k + 1, by omega, by go_num, ⟨hv.out⟩, rfl⟩
        · have hv := Hid.mk (hno.out (Bool.eq_false_iff.2 (fun h => by have := (mayN_iff c).1 h; omega)))
          subst hq
          clear hyes hno
          go_wp2
          go_ret
          exact ⟨congrArg (fun z => Ending.returned (.bool z)) hv.out.symm, rfl⟩
        · have hv := Hid.mk (hyes.out ((mayN_iff c).2 (by omega)))
          have q5 : ((c : Int) != 95) = true := by rw [bne_iff_ne]; omega
          have q6 : ((c : Int) != 46) = true := by rw [bne_iff_ne]; omega
          have q7 : ((c : Int) != 45) = true := by rw [bne_iff_ne]; omega
          clear hyes hno
          go_wp2
          go_roundg g
          case measure => omega
          case rel => exact ⟨k + 1, by omega, by go_num, ⟨hv.out⟩, rfl⟩
        · have hv := Hid.mk (hno.out (Bool.eq_false_iff.2 (fun h => by have := (mayN_iff c).1 h; omega)))
          have q5 : ((c : Int) != 95) = true := by rw [bne_iff_ne]; omega
          have q6 : ((c : Int) != 46) = true := by rw [bne_iff_ne]; omega
          have q7 : ((c : Int) != 45) = true := by rw [bne_iff_ne]; omega
          clear hyes hno
          go_wp2
          go_ret
          exact ⟨congrArg (fun z => Ending.returned (.bool z)) hv.out.symm, rfl⟩
        · have hv := Hid.mk (hyes.out ((mayN_iff c).2 (by omega)))
          subst hq
          clear hyes hno
          go_wp2
          go_roundg g
          case measure => omega
          case rel => exact ⟨k + 1, by omega, by go_num, ⟨hv.out⟩, rfl⟩
        · have hv := Hid.mk (hno.out (Bool.eq_false_iff.2 (fun h => by have := (mayN_iff c).1 h; omega)))
          subst hq
          clear hyes hno
          go_wp2
          go_ret
          exact ⟨congrArg (fun z => Ending.returned (.bool z)) hv.out.symm, rfl⟩
        · have hv := Hid.mk (hyes.out ((mayN_iff c).2 (by omega)))
          have q5 : ((c : Int) != 95) = true := by rw [bne_iff_ne]; omega
          have q6 : ((c : Int) != 46) = true := by rw [bne_iff_ne]; omega
          have q7 : ((c : Int) != 45) = true := by rw [bne_iff_ne]; omega
          clear hyes hno
          go_wp2
          go_roundg g
          case measure => omega
          case rel => exact ⟨k + 1, by omega, by go_num, ⟨hv.out⟩, rfl⟩
        · have hv := Hid.mk (hno.out (Bool.eq_false_iff.2 (fun h => by have := (mayN_iff c).1 h; omega)))
          have q5 : ((c : Int) != 95) = true := by rw [bne_iff_ne]; omega
          have q6 : ((c : Int) != 46) = true := by rw [bne_iff_ne]; omega
          have q7 : ((c : Int) != 45) = true := by rw [bne_iff_ne]; omega
          clear hyes hno
          go_wp2
          go_ret
          exact ⟨congrArg (fun z => Ending.returned (.bool z)) hv.out.symm, rfl⟩
  · have hfin := Hid.mk (show segOk s = false by simp [segOk, hh])
    by_cases k1 : (s.length : Int) < 1
    · clear hh
      go_enter Try.func49, Try.ntmps49
      go_wp2
      go_ret
      exact ⟨congrArg (fun z => Ending.returned (.bool z)) hfin.out.symm, rfl⟩
    · by_cases k2 : (32 : Int) < s.length
      · clear hh
        go_enter Try.func49, Try.ntmps49
        go_wp2
        go_ret
        exact ⟨congrArg (fun z => Ending.returned (.bool z)) hfin.out.symm, rfl⟩
      · cases k3 : (s == [46]) with
        | true =>
          clear hh
          go_enter Try.func49, Try.ntmps49
          go_wp2
          go_ret
          exact ⟨congrArg (fun z => Ending.returned (.bool z)) hfin.out.symm, rfl⟩
        | false =>
          have k4 : (s == [46, 46]) = true := by
            by_cases h4 : s = [46, 46]
            · simp [h4]
            · refine absurd ?_ hh
              have h1 : s ≠ [] := fun e => by subst e; simp at k1
              have h3 : s ≠ [46] := by simpa using k3
              have h2 : s.length ≤ 32 := by omega
              simp [segHead, h1, h2, h3, h4]
          clear hh
          go_enter Try.func49, Try.ntmps49
          go_wp2
          go_ret
          exact ⟨congrArg (fun z => Ending.returned (.bool z)) hfin.out.symm, rfl⟩

def attach (cur : Str) : List Str → List Str
  | [] => [cur]
  | h :: t => (cur ++ h) :: t

theorem attach_nil : ∀ {P : List Str}, P ≠ [] → attach [] P = P
  | [], h => absurd rfl h
  | _ :: _, _ => rfl

theorem pieces_ne : ∀ s : Str, pieces s ≠ []
  | [] => by simp [pieces]
  | b :: l => by
    unfold pieces
    split
    · simp
    · cases pieces l <;> simp [consHead]

theorem attach_cons (cur : Str) (b : UInt8) : ∀ P : List Str, attach cur (consHead b P) = attach (cur ++ [b]) P
  | [] => rfl
  | h :: t => by simp [attach, consHead]

theorem pieces_slash (l : Str) : pieces (47 :: l) = [] :: pieces l := rfl
theorem pieces_other {b : UInt8} (h : b ≠ 47) (l : Str) : pieces (b :: l) = consHead b (pieces l) := by
  simp [pieces, h]

def curAt (s : Str) (fr i : Nat) : Str := (s.drop fr).take (i - fr)

theorem curAt_succ {s : Str} {fr i : Nat} (h : fr ≤ i) (hi : i < s.length) : curAt s fr (i + 1) = curAt s fr i ++ [s[i]] := by
  unfold curAt
  have hk : i - fr < (s.drop fr).length := by rw [List.length_drop]; omega
  rw [show i + 1 - fr = (i - fr) + 1 from by omega, List.take_succ_eq_append_getElem hk, List.getElem_drop]
  congr 2
  simp only [show fr + (i - fr) = i from by omega]

theorem extract_cur (s : Str) (fr i : Nat) : (bs s).extract fr i = bs (curAt s fr i) := by
  apply ByteArray.ext
  apply Array.toList_inj.1
  simp [bs, curAt, ByteArray.data_extract, List.extract_toArray]

def CutRel (w : World) (s : Str) (g : Nat) (ou fr iv : Value) (wr : World) : Prop :=
  ∃ (i f : Nat) (done : List Str), i + g = s.length + 1 ∧ f ≤ i ∧ fr = .int .i64 f ∧ iv = .int .i64 i ∧ OwnStrs wr w.heap.size ou done ∧ done.length ≤ i ∧ Below w.heap.size w wr ∧
    Hid (if i ≤ s.length then pieces s = done ++ attach (curAt s f i) (pieces (s.drop i)) else pieces s = done)

set_option maxHeartbeats 4000000 in
set_option maxRecDepth 100000 in
theorem refCut_is (s : Str) (hl : s.length ≤ 60) (w : World) : Calls Try.prog 48 #[strV s] w (Strs (pieces s) w) := by
  have hsz : (bs s).size = s.length := rfl
  have hstart := Hid.mk (show CutRel w s (s.length + 1) (.slice none 0 0) (.int .i64 0) (.int .i64 0) w from ⟨0, 0, [], by omega, Nat.le_refl _, rfl, rfl, OwnStrs.nil _ _, Nat.le_refl _, Below.refl _ _, ⟨by
    rw [if_pos (Nat.zero_le _)]
    simp only [curAt, List.drop_zero, Nat.sub_self, List.take_zero, List.nil_append]
    exact (attach_nil (pieces_ne s)).symm⟩⟩)
  go_enter Try.func48, Try.ntmps48
  go_wp2
  go_loopg [3, 4, 5] (s.length + 1) (fun g ou fr iv wr => CutRel w s g ou fr iv wr)
  case atStart => exact hstart.out
  case round =>
    clear hstart
    rename World => wp
    obtain ⟨i, f, done, hig, hfi, rfl, rfl, hown, hdl, hb, hp⟩ := hrel
    cases gk with
    | zero =>
      obtain rfl : i = s.length + 1 := by omega
      have hp2 := hp.out
      rw [if_neg (by omega)] at hp2
      obtain ⟨an, cn, he, _⟩ := hown.open
      subst he
      have hfin := Hid.mk (show Strs (pieces s) w (.returned (.slice an done.length cn)) wp from ⟨_, rfl, by rw [hp2]; exact hown, hb⟩)
      have hgt : ¬ ((s.length : Int) + 1 ≤ s.length) := by omega
      clear hown hp hp2 hb
      go_wp2
      go_ret
      exact hfin.out
    | succ g =>
      have hp2 := hp.out
      rw [if_pos (by omega)] at hp2
      by_cases hend : i = s.length
      · subst hend
        obtain ⟨g', cap', w5, hr5, hown5, hgr5, hloc5⟩ := run_appS wp w.heap.size _ done hown (curAt s f s.length) (by omega) hb.size
        have hb5 := below_appS (hb.alloc hb.size _) (World.ownsRow.alloc hown _) (Nat.le_refl _) hgr5
        have hrel5 := Hid.mk (show ∀ a b : Int, a = (s.length : Int) + 1 → b = (s.length : Int) + 1 → CutRel w s g (.slice (some ⟨g', 0, none⟩) (done.length + 1) cap') (.int .i64 a) (.int .i64 b) w5 from fun a b ha hb' => ⟨s.length + 1, s.length + 1, done ++ [curAt s f s.length], by omega, Nat.le_refl _, by subst ha; rfl, by subst hb'; rfl, hown5, by simp; omega, hb5, ⟨by
          rw [if_neg (by omega), hp2, List.drop_length]
          simp [pieces, attach]⟩⟩)
        have hx := extract_cur s f s.length
        have hfl : (f : Int) ≤ s.length := by omega
        generalize curAt s f s.length = y at hx hr5
        clear hown hp hp2 hb hown5 hgr5 hloc5 hb5
        go_wp2_with (at_builtin; refine wpList_append_run rfl _ _ _ rfl rfl rfl rfl hr5 ?_)
        go_roundg g
        case measure => omega
        case rel => exact hrel5.out _ _ (by omega) (by omega)
      · have hlt : i < s.length := by omega
        have hdrop : s.drop i = s[i] :: s.drop (i + 1) := List.drop_eq_getElem_cons hlt
        rw [hdrop] at hp2
        obtain ⟨c, hc⟩ : ∃ c, c = s[i].toNat := ⟨_, rfl⟩
        have hby : ((bs s)[i]'hlt).toNat = c := by rw [hc]; simp [bs, ByteArray.getElem_eq_getElem_data]
        have hne : ((i : Int) == s.length) = false := by rw [beq_eq_false_iff_ne]; omega
        by_cases h47 : s[i] = 47
        · have hcv : c = 47 := by rw [hc, h47]; rfl
          subst hcv
          rw [h47, pieces_slash] at hp2
          obtain ⟨g', cap', w5, hr5, hown5, hgr5, hloc5⟩ := run_appS wp w.heap.size _ done hown (curAt s f i) (by omega) hb.size
          have hb5 := below_appS (hb.alloc hb.size _) (World.ownsRow.alloc hown _) (Nat.le_refl _) hgr5
          have hrel5 := Hid.mk (show ∀ a b : Int, a = (i : Int) + 1 → b = (i : Int) + 1 → CutRel w s g (.slice (some ⟨g', 0, none⟩) (done.length + 1) cap') (.int .i64 a) (.int .i64 b) w5 from fun a b ha hb' => ⟨i + 1, i + 1, done ++ [curAt s f i], by omega, Nat.le_refl _, by subst ha; rfl, by subst hb'; rfl, hown5, by simp; omega, hb5, ⟨by
            rw [if_pos (by omega), hp2]
            simp only [curAt, Nat.sub_self, List.take_zero]
            rw [attach_nil (pieces_ne _)]
            simp [attach]⟩⟩)
          have hx := extract_cur s f i
          have hfl : (f : Int) ≤ i := by omega
          have hil : (i : Int) ≤ s.length := by omega
          generalize curAt s f i = y at hx hr5
          clear hown hp hp2 hb hown5 hgr5 hloc5 hb5 hc h47 hdrop hend
          go_wp2_with (at_builtin; refine wpList_append_run rfl _ _ _ rfl rfl rfl rfl hr5 ?_)
          go_roundg g
          case measure => omega
          case rel => exact hrel5.out _ _ (by omega) (by omega)
        · have hcv : ((c : Int) == 47) = false := by
            rw [beq_eq_false_iff_ne]
            intro h
            apply h47
            have : s[i].toNat = 47 := by rw [← hc]; omega
            exact UInt8.toNat_inj.1 this
          rw [pieces_other h47, attach_cons, ← curAt_succ hfi hlt] at hp2
          have hrel5 := Hid.mk (show ∀ b : Int, b = (i : Int) + 1 → CutRel w s g _ (.int .i64 f) (.int .i64 b) wp from fun b hb' => ⟨i + 1, f, done, by omega, by omega, rfl, by subst hb'; rfl, hown, by omega, hb, ⟨by
            rw [if_pos (by omega)]; exact hp2⟩⟩)
          clear hown hp hp2 hb hc h47 hdrop hend
          go_wp2
          go_roundg g
          case measure => omega
          case rel => exact hrel5.out _ (by omega)

theorem consHead_len {b : UInt8} {n : Nat} : ∀ {P : List Str}, (∀ x ∈ P, x.length ≤ n) → ∀ x ∈ consHead b P, x.length ≤ n + 1
  | [], _, x, hx => by simp [consHead] at hx; subst hx; simp
  | h :: t, hP, x, hx => by
    simp only [consHead, List.mem_cons] at hx
    rcases hx with rfl | hx
    · have := hP h (List.mem_cons_self ..); simp; exact this
    · have := hP x (List.mem_cons_of_mem _ hx); omega

theorem pieces_len : ∀ (s : Str), ∀ x ∈ pieces s, x.length ≤ s.length
  | [], x, hx => by simp [pieces] at hx; subst hx; simp
  | b :: l, x, hx => by
    unfold pieces at hx
    split at hx
    · simp only [List.mem_cons] at hx
      rcases hx with rfl | hx
      · simp
      · have := pieces_len l x hx; simp; omega
    · exact consHead_len (pieces_len l) x hx

theorem pieces_count : ∀ (s : Str), (pieces s).length ≤ s.length + 1
  | [] => by simp [pieces]
  | b :: l => by
    have := pieces_count l
    unfold pieces
    split
    · simp; omega
    · cases h : pieces l with
      | nil => simp [consHead]
      | cons a t => rw [h] at this; simp [consHead] at this ⊢; omega

set_option maxHeartbeats 2000000 in
theorem refIs_is (s : Str) (w : World) : Calls Try.prog 38 #[strV s] w fun e w' => e = .returned (.bool (isPath s)) ∧ Below w.heap.size w w' := by
  have hsz : (bs s).size = s.length := rfl
  by_cases hl : (60 : Int) < s.length
  · have hfin := Hid.mk (isPath_long (s := s) (by omega))
    go_enter Try.func38, Try.ntmps38
    go_wp2
    go_ret
    exact ⟨congrArg (fun z => Ending.returned (.bool z)) hfin.out.symm, Below.refl _ _⟩
  · have hsl : s.length ≤ 60 := by omega
    have hok := Hid.mk (isPath_short hsl)
    have hcut := Hid.mk (refCut_is s hsl w)
    have hlens := Hid.mk (pieces_len s)
    have hcnt := pieces_count s
    go_enter Try.func38, Try.ntmps38
    go_wp2_with fail
    refine hcut.out.mono ?_
    rintro e w1 ⟨v, rfl, hv, hb⟩
    obtain ⟨av, cv, rfl, hcv⟩ := hv.open
    have Hcv := Hid.mk hcv
    have Hb := Hid.mk hb
    clear hcut hv hcv hb
    generalize pieces s = P at hok hlens hcnt Hcv
    go_wp2
    go_loopg [4] P.length (fun g iv wr => ∃ k : Nat, k + g = P.length ∧ iv = .int .i64 k ∧ Hid ((P.take k).all segOk = true) ∧ w1 = wr)
    case atStart => exact ⟨0, by omega, rfl, ⟨rfl⟩, rfl⟩
    case round =>
      obtain ⟨k, hkg, rfl, hall, rfl⟩ := hrel
      cases gk with
      | zero =>
        obtain rfl : k = P.length := by omega
        have hfin := Hid.mk (show isPath s = true by rw [hok.out]; have := hall.out; rwa [List.take_length] at this)
        clear hall hok
        go_wp2
        go_ret
        exact ⟨congrArg (fun z => Ending.returned (.bool z)) hfin.out.symm, Hb.out⟩
      | succ g =>
        have hlt : k < P.length := by omega
        obtain ⟨gp, rfl, _, _, hc⟩ : ∃ gp, av = some ⟨gp, 0, none⟩ ∧ w.heap.size ≤ gp ∧ gp < w1.heap.size ∧ ∀ i (h : i < P.length), w1.cell? ⟨gp, i, none⟩ = some (strV P[i]) := by
          rcases Hcv.out with e | h
          · rw [e] at hlt; simp at hlt
          · exact h
        have hck := hc k hlt
        have hlx := hlens.out _ (List.getElem_mem hlt)
        have hnext := Hid.mk (all_take_succ segOk P k hlt hall.out)
        have hno := Hid.mk (fun h => hok.out.trans (not_all (p := segOk) hlt h))
        generalize P[k] = x at hck hnext hno hlx
        have hseg := Hid.mk (refSeg_is x (by omega) w1)
        clear hc hall hok hlx
        cases ho : segOk x with
        | true =>
          have hn := Hid.mk (hnext.out ho)
          rw [ho] at hseg
          clear ho hno hnext
          go_wp2_with (go_at_call 49; refine hseg.out.mono ?_; rintro e w' ⟨rfl, rfl⟩)
          go_roundg g
          case measure => omega
          case rel => exact ⟨k + 1, by omega, by go_num, hn, rfl⟩
        | false =>
          have hn := Hid.mk (hno.out ho)
          rw [ho] at hseg
          clear ho hno hnext
          go_wp2_with (go_at_call 49; refine hseg.out.mono ?_; rintro e w' ⟨rfl, rfl⟩)
          go_ret
          exact ⟨congrArg (fun z => Ending.returned (.bool z)) hn.out.symm, Hb.out⟩

end Go.Proofs.Ytejlekfnjhnklaa
