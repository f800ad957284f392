/-
  The law TreeNames as plain data: the tree of 256 files.
-/
import Derived.Test.YtejlekfnjhnklaaTree3
import Derived.Test.YtejlekfnjhnklaaBehind
namespace Go.Proofs.Ytejlekfnjhnklaa

def nm (i : Nat) : Str := [102, UInt8.ofNat (48 + i / 100), UInt8.ofNat (48 + i / 10 % 10), UInt8.ofNat (48 + i % 10)]

theorem nm_path : ∀ i, i < 256 → isPath (nm i) = true := by decide +kernel

def nmDec (s : Str) : Nat := match s with
  | [_, a, b, c] => (a.toNat - 48) * 100 + (b.toNat - 48) * 10 + (c.toNat - 48)
  | _ => 1000
theorem nm_dec : ∀ i, i < 256 → nmDec (nm i) = i := by decide +kernel
theorem nm_inj {i j : Nat} (hi : i < 256) (hj : j < 256) (h : nm i = nm j) : i = j := by
  rw [← nm_dec i hi, ← nm_dec j hj, h]

structure Has (T : Tr) (i : Nat) : Prop where
  ok : T.ok
  files : ∀ f, f ∈ T.fs ↔ ∃ j, j < i ∧ f = (nm j, [])
  len : T.fs.length = i
  ch : T.ch = (List.range i).map nm

theorem Has.miss {T : Tr} {i : Nat} (h : Has T i) {p : Str} (hp : ∀ j, j < i → nm j ≠ p) : look T.fs p = none := by
  rw [look_none]
  intro hm
  obtain ⟨f, hf, rfl⟩ := List.mem_map.1 hm
  obtain ⟨j, hj, rfl⟩ := (h.files f).1 hf
  exact hp j hj rfl

theorem Has.write {T : Tr} {i : Nat} (h : Has T i) (hi : i < 256) : T.write (nm i) [] = (⟨put T.fs (nm i) [], T.ch ++ [nm i]⟩, 0) := by
  have hl := h.miss (p := nm i) fun j hj e => by
    have := nm_inj (by omega) hi e
    omega
  unfold Tr.write
  rw [if_pos (nm_path i hi), if_neg (by simp), hl]
  simp only
  rw [if_neg (by rw [h.len]; omega)]

theorem Has.next {T : Tr} {i : Nat} (h : Has T i) (hi : i < 256) : Has (T.write (nm i) []).1 (i + 1) := by
    have hw := h.write hi
    have hl := h.miss (p := nm i) fun j hj e => by
      have := nm_inj (by omega) (by omega) e
      omega
    have e : (T.write (nm i) []).1 = ⟨put T.fs (nm i) [], T.ch ++ [nm i]⟩ := by rw [hw]
    refine ⟨h.ok.write _ _, fun f => ?_, ?_, ?_⟩
    · rw [e, mem_put h.ok.rise, h.files]
      constructor
      · rintro (rfl | ⟨⟨j, hj, rfl⟩, _⟩)
        · exact ⟨i, by omega, rfl⟩
        · exact ⟨j, by omega, rfl⟩
      · rintro ⟨j, hj, rfl⟩
        by_cases hji : j = i
        · subst hji; exact .inl rfl
        · refine .inr ⟨⟨j, by omega, rfl⟩, fun e => hji (nm_inj (by omega) (by omega) e)⟩
    · rw [e, put_len_miss h.ok.rise _ _ hl, h.len]
    · rw [e, h.ch, List.range_succ]
      simp

theorem Has.none : Has Tr.empty 0 := ⟨Tr.ok.empty, fun f => by simp [Tr.empty], rfl, rfl⟩

theorem write_hit {T : Tr} {p s v : Str} (hp : isPath p = true) (hs : s.length ≤ 4096) (h : look T.fs p = some v) (hv : v ≠ s) : T.write p s = (⟨put T.fs p s, T.ch ++ [p]⟩, 0) := by
  unfold Tr.write
  rw [if_pos hp, if_neg (by omega), h]
  simp only
  rw [if_neg hv]

def full : Str := List.replicate 4096 0
theorem full_len : full.length = 4096 := List.length_replicate
theorem long_len : 4096 < (full ++ [120]).length := by
  rw [List.length_append, full_len]
  exact Nat.lt_succ_self _

theorem g_path : isPath [103] = true := by decide
theorem F_path : isPath [70] = false := by decide
theorem nm_g (i : Nat) : nm i ≠ [103] := fun e => by simp [nm] at e

section
variable {TA : Tr} (h : Has TA 256)
include h

theorem ta_g : TA.write [103] [] = (TA, 8) := by
  have hl : look TA.fs [103] = none := h.miss fun j _ => nm_g j
  unfold Tr.write
  rw [if_pos g_path, if_neg (by simp), hl]
  simp only
  rw [if_pos h.len]

theorem ta_get {i : Nat} (hi : i < 256) : look TA.fs (nm i) = some [] := (look_some h.ok.rise).2 ((h.files _).2 ⟨i, hi, rfl⟩)

theorem ta_f0 : TA.write [102, 48, 48, 48] [120] = (⟨put TA.fs (nm 0) [120], TA.ch ++ [nm 0]⟩, 0) :=
  write_hit (T := TA) (p := nm 0) (s := [120]) (nm_path 0 (by decide)) (by simp) (ta_get h (by decide)) (by simp)
end

/-- What is behind the change of the first file's content. -/
structure Has2 (T : Tr) : Prop where
  ok : T.ok
  get : ∀ i, i ≠ 0 → i < 256 → look T.fs (nm i) = some []
  g : look T.fs [103] = none
  len : T.fs.length = 256
  ch : T.ch = (List.range 256).map nm ++ [nm 0]

theorem Has.two {TA : Tr} (h : Has TA 256) : Has2 (TA.write [102, 48, 48, 48] [120]).1 := by
  have hok := h.ok.write [102, 48, 48, 48] [120]
  rw [ta_f0 h] at hok ⊢
  refine ⟨hok, fun i h0 hi => ?_, ?_, ?_, ?_⟩
  · show look (put TA.fs (nm 0) [120]) (nm i) = _
    rw [look_put h.ok.rise, if_neg (fun e => h0 (nm_inj hi (by decide) e)), ta_get h hi]
  · show look (put TA.fs (nm 0) [120]) [103] = _
    rw [look_put h.ok.rise, if_neg (nm_g 0).symm]
    exact h.miss fun j _ => nm_g j
  · show (put TA.fs (nm 0) [120]).length = 256
    rw [put_len_hit h.ok.rise _ _ (ta_get h (by decide))]
    exact h.len
  · show TA.ch ++ [nm 0] = _
    rw [h.ch]

theorem ins32 : (insAll (((List.range 256).map nm ++ [nm 0]).drop 225)).length = 32 := by decide +kernel

section
variable {TB : Tr} (h : Has2 TB)
include h

theorem Has2.chlen : TB.ch.length = 257 := by rw [h.ch]; simp

theorem Has2.since32 : (TB.since 225).1.length = 32 ∧ (TB.since 225).2 = true := by
  have e : TB.since 225 = (insAll (TB.ch.drop 225), true) := by
    unfold Tr.since
    rw [if_neg (by rw [h.chlen]; omega)]
    rfl
  rw [e]
  refine ⟨?_, rfl⟩
  show (insAll (TB.ch.drop 225)).length = 32
  rw [h.ch]
  exact ins32
theorem Has2.since33 : TB.since 224 = ([], false) := by
  unfold Tr.since
  rw [if_pos (by rw [h.chlen]; omega)]
theorem Has2.since0 : TB.since 257 = ([], true) := by
  have e : TB.since 257 = (insAll (TB.ch.drop 257), true) := by
    unfold Tr.since
    rw [if_neg (by rw [h.chlen]; omega)]
    rfl
  rw [e, List.drop_eq_nil_of_le (by rw [h.chlen]; omega)]
  rfl
theorem Has2.past : TB.since 258 = ([], false) := by
  unfold Tr.since
  rw [if_pos (by rw [h.chlen]; omega)]
theorem Has2.full : TB.write [102, 48, 48, 49] full = (⟨put TB.fs (nm 1) Go.Proofs.Ytejlekfnjhnklaa.full, TB.ch ++ [nm 1]⟩, 0) :=
  write_hit (T := TB) (p := nm 1) (s := Go.Proofs.Ytejlekfnjhnklaa.full) (nm_path 1 (by decide)) (by rw [full_len]; omega) (h.get 1 (by decide) (by decide)) (fun e => by have := congrArg List.length e; rw [full_len] at this; simp at this)
end

/-- What is behind the great content. -/
structure Has3 (T : Tr) : Prop where
  ok : T.ok
  get : look T.fs (nm 2) = some []
  g : look T.fs [103] = none
  len : T.fs.length = 256
  ch : T.ch.length = 258

theorem Has2.three {TB : Tr} (h : Has2 TB) : Has3 (TB.write [102, 48, 48, 49] Go.Proofs.Ytejlekfnjhnklaa.full).1 := by
  have hok := h.ok.write [102, 48, 48, 49] Go.Proofs.Ytejlekfnjhnklaa.full
  rw [h.full] at hok ⊢
  refine ⟨hok, ?_, ?_, ?_, ?_⟩
  · show look (put TB.fs (nm 1) Go.Proofs.Ytejlekfnjhnklaa.full) (nm 2) = _
    rw [look_put h.ok.rise, if_neg (fun e => absurd (nm_inj (by decide) (by decide) e) (by decide)), h.get 2 (by decide) (by decide)]
  · show look (put TB.fs (nm 1) Go.Proofs.Ytejlekfnjhnklaa.full) [103] = _
    rw [look_put h.ok.rise, if_neg (nm_g 1).symm, h.g]
  · show (put TB.fs (nm 1) Go.Proofs.Ytejlekfnjhnklaa.full).length = 256
    rw [put_len_hit h.ok.rise _ _ (h.get 1 (by decide) (by decide)), h.len]
  · show (TB.ch ++ [nm 1]).length = 258
    rw [List.length_append, h.chlen]; rfl

theorem write_long {T : Tr} {p : Str} (hp : isPath p = true) : T.write p (full ++ [120]) = (T, 3) := by
  unfold Tr.write
  rw [if_pos hp, if_pos long_len]
theorem write_F {T : Tr} (s : Str) : T.write [70] s = (T, 2) := by
  unfold Tr.write
  rw [F_path]
  rfl

section
variable {TC : Tr} (h : Has3 TC)
include h

theorem Has3.rm : TC.remove [102, 48, 48, 50] = (⟨del TC.fs (nm 2), TC.ch ++ [nm 2]⟩, 0) := by
  have : TC.remove (nm 2) = (⟨del TC.fs (nm 2), TC.ch ++ [nm 2]⟩, 0) := by
    unfold Tr.remove
    rw [if_pos (nm_path 2 (by decide)), h.get]
  exact this

theorem Has3.last : ((TC.remove [102, 48, 48, 50]).1.write [103] []).2 = 0 ∧ (TC.remove [102, 48, 48, 50]).1.ok ∧ (TC.remove [102, 48, 48, 50]).1.ch.length = 259 := by
  have hok := h.ok.remove [102, 48, 48, 50]
  rw [h.rm] at hok ⊢
  refine ⟨?_, hok, ?_⟩
  · have hn : look (del TC.fs (nm 2)) [103] = none := by rw [look_del h.ok.rise, if_neg (nm_g 2).symm, h.g]
    have hl : (del TC.fs (nm 2)).length = 255 := by
      have := del_len h.ok.rise _ h.get
      rw [h.len] at this
      omega
    unfold Tr.write
    rw [if_pos g_path, if_neg (by simp)]
    simp only [hn]
    rw [if_neg (by rw [hl]; decide)]
  · show (TC.ch ++ [nm 2]).length = 259
    rw [List.length_append, h.ch]; rfl
end

end Go.Proofs.Ytejlekfnjhnklaa
