/-
  Graphs as plain data: rising lists of names, and a relation. No program in sight.
-/
import Derived.Test.YtejlekfnjhnklaaMap
namespace Go.Proofs.Ytejlekfnjhnklaa

theorem str_lt_irrefl (a : Str) : ¬ a < a := List.lt_irrefl a
theorem str_lt_trans {a b c : Str} (h : a < b) (k : b < c) : a < c := List.lt_trans h k
theorem str_lt_asymm {a b : Str} (h : a < b) : ¬ b < a := List.lt_asymm h
theorem str_tri (a b : Str) : a < b ∨ a = b ∨ b < a := by
  by_cases h : a < b
  · exact .inl h
  · by_cases k : b < a
    · exact .inr (.inr k)
    · exact .inr (.inl (List.le_antisymm k h))

/-- A rising list: no name twice. -/
abbrev Rising (l : List Str) : Prop := l.Pairwise (· < ·)

theorem Rising.nodup {l : List Str} (h : Rising l) : l.Nodup := by
  refine List.Pairwise.imp ?_ h
  intro a b hab e
  subst e
  exact str_lt_irrefl _ hab

/-- Two rising lists with the same names are one. -/
theorem rising_ext {l l' : List Str} (h : Rising l) (h' : Rising l') (hm : ∀ x, x ∈ l ↔ x ∈ l') : l = l' :=
  List.Perm.eq_of_pairwise (le := fun a b : Str => a < b) (fun a b _ _ h1 h2 => absurd h2 (str_lt_asymm h1)) h h' ((List.perm_ext_iff_of_nodup h.nodup h'.nodup).2 hm)

theorem sort_rising {l ss : List Str} (h : Rising l) (hp : ss.Perm l) : ss.mergeSort leB = l := by
  rw [mergeSort_of_perm hp]
  exact List.mergeSort_of_pairwise (List.Pairwise.imp (fun {a b} hab => by simpa [leB] using List.le_of_lt hab) h)

/-- A name in its place. -/
def ins (x : Str) : List Str → List Str
  | [] => [x]
  | y :: r => if x < y then x :: y :: r else if x = y then y :: r else y :: ins x r

theorem mem_ins {x y : Str} : ∀ {l : List Str}, y ∈ ins x l ↔ y = x ∨ y ∈ l
  | [] => by simp [ins]
  | z :: r => by
    unfold ins
    split
    · simp
    · split
      · rename_i h; subst h; simp
      · simp [mem_ins (l := r)]
        constructor
        · rintro (h | h | h) <;> simp [h]
        · rintro (h | h | h) <;> simp [h]

theorem rising_ins {x : Str} : ∀ {l : List Str}, Rising l → Rising (ins x l)
  | [], _ => by simp [ins, Rising]
  | y :: r, h => by
    unfold ins
    obtain ⟨h1, h2⟩ := List.pairwise_cons.1 h
    split
    · rename_i hxy
      refine List.pairwise_cons.2 ⟨fun z hz => ?_, h⟩
      rcases List.mem_cons.1 hz with rfl | hz
      · exact hxy
      · exact str_lt_trans hxy (h1 z hz)
    · split
      · exact h
      · rename_i g1 g2
        refine List.pairwise_cons.2 ⟨fun z hz => ?_, rising_ins h2⟩
        rcases mem_ins.1 hz with rfl | hz
        · rcases str_tri z y with h | h | h
          · exact absurd h g1
          · exact absurd h g2
          · exact h
        · exact h1 z hz

theorem ins_of_mem {x : Str} : ∀ {l : List Str}, Rising l → x ∈ l → ins x l = l
  | [], _, hm => by cases hm
  | y :: r, h, hm => by
    obtain ⟨h1, h2⟩ := List.pairwise_cons.1 h
    unfold ins
    rcases List.mem_cons.1 hm with rfl | hm
    · rw [if_neg (str_lt_irrefl x), if_pos rfl]
    · have := h1 x hm
      rw [if_neg (str_lt_asymm this), if_neg (fun e => by subst e; exact str_lt_irrefl x this), ins_of_mem h2 hm]

theorem length_ins {x : Str} : ∀ {l : List Str}, x ∉ l → (ins x l).length = l.length + 1
  | [], _ => rfl
  | y :: r, hm => by
    unfold ins
    simp at hm
    split
    · simp
    · rw [if_neg hm.1]
      simp [length_ins hm.2]

theorem length_ins_le {x : Str} : ∀ {l : List Str}, (ins x l).length ≤ l.length + 1
  | [] => by simp [ins]
  | y :: r => by
    unfold ins
    split
    · simp
    · split
      · simp
      · simp [length_ins_le (l := r)]

/-- Names, rising; and which asks which. -/
structure Gr where
  ns : List Str
  e : Str → Str → Bool

structure Gr.ok (G : Gr) : Prop where
  rise : Rising G.ns
  ends : ∀ a b, G.e a b = true → a ∈ G.ns ∧ b ∈ G.ns
  short : ∀ a ∈ G.ns, a.length ≤ maxLen
  few : G.ns.length ≤ 1048576

def Gr.empty : Gr := ⟨[], fun _ _ => false⟩
def Gr.add (G : Gr) (x : Str) : Gr := { G with ns := ins x G.ns }
def Gr.link (G : Gr) (a b : Str) : Gr := { ns := ins b (ins a G.ns), e := fun x y => G.e x y || (decide (x = a) && decide (y = b)) }
def Gr.out (G : Gr) (x : Str) : List Str := G.ns.filter (G.e x)
def Gr.into (G : Gr) (x : Str) : List Str := G.ns.filter fun y => G.e y x
def Gr.turn (G : Gr) : Gr := { ns := G.ns, e := fun x y => G.e y x }

theorem Gr.add_of_mem {G : Gr} (h : G.ok) {x : Str} (hx : x ∈ G.ns) : G.add x = G := by
  simp [Gr.add, ins_of_mem h.rise hx]

theorem Gr.ok.add {G : Gr} (h : G.ok) {x : Str} (hx : x.length ≤ maxLen) (hf : G.ns.length + 1 ≤ 1048576) : (G.add x).ok where
  rise := rising_ins h.rise
  ends a b hab := ⟨mem_ins.2 (.inr (h.ends a b hab).1), mem_ins.2 (.inr (h.ends a b hab).2)⟩
  short a ha := by
    rcases mem_ins.1 ha with rfl | ha
    · exact hx
    · exact h.short a ha
  few := Nat.le_trans length_ins_le hf

theorem Gr.ok.link {G : Gr} (h : G.ok) {a b : Str} (ha : a.length ≤ maxLen) (hb : b.length ≤ maxLen) (hf : G.ns.length + 2 ≤ 1048576) : (G.link a b).ok where
  rise := rising_ins (rising_ins h.rise)
  ends x y hxy := by
    simp only [Gr.link, Bool.or_eq_true, Bool.and_eq_true, decide_eq_true_eq] at hxy
    show x ∈ ins b (ins a G.ns) ∧ y ∈ ins b (ins a G.ns)
    rcases hxy with hxy | ⟨rfl, rfl⟩
    · exact ⟨mem_ins.2 (.inr (mem_ins.2 (.inr (h.ends x y hxy).1))), mem_ins.2 (.inr (mem_ins.2 (.inr (h.ends x y hxy).2)))⟩
    · exact ⟨mem_ins.2 (.inr (mem_ins.2 (.inl rfl))), mem_ins.2 (.inl rfl)⟩
  short x hx := by
    rcases mem_ins.1 hx with rfl | hx
    · exact hb
    · rcases mem_ins.1 hx with rfl | hx
      · exact ha
      · exact h.short x hx
  few := Nat.le_trans length_ins_le (Nat.le_trans (Nat.succ_le_succ length_ins_le) hf)

theorem Gr.ok.empty : Gr.empty.ok := ⟨List.Pairwise.nil, by simp [Gr.empty], by simp [Gr.empty], by simp [Gr.empty]⟩
theorem Gr.ok.turn {G : Gr} (h : G.ok) : G.turn.ok := ⟨h.rise, fun a b hab => (h.ends b a hab).symm, h.short, h.few⟩

theorem Gr.ok.out_rising {G : Gr} (h : G.ok) (x : Str) : Rising (G.out x) := h.rise.filter _
theorem Gr.ok.into_rising {G : Gr} (h : G.ok) (x : Str) : Rising (G.into x) := h.rise.filter _
theorem Gr.ok.mem_out {G : Gr} (h : G.ok) {x y : Str} : y ∈ G.out x ↔ G.e x y = true := by
  simp only [Gr.out, List.mem_filter]
  exact ⟨fun h => h.2, fun h' => ⟨(h.ends x y h').2, h'⟩⟩
theorem Gr.ok.mem_into {G : Gr} (h : G.ok) {x y : Str} : y ∈ G.into x ↔ G.e y x = true := by
  simp only [Gr.into, List.mem_filter]
  exact ⟨fun h => h.2, fun h' => ⟨(h.ends y x h').1, h'⟩⟩

end Go.Proofs.Ytejlekfnjhnklaa
