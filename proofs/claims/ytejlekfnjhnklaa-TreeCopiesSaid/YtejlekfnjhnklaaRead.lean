/-
  Arguments opened: slices of structs whose fields are one cell each; what the form's reach says of what is read. Over any program.
-/
import Derived.Test.YtejlekfnjhnklaaMap
import Derived.SizedLaws
import Derived.Deep.Slices
namespace Go.Proofs.Ytejlekfnjhnklaa
open Go.ChangeShapes Go.WideShapes Go.RowKit

section
variable {H : Type} {P : Program}

/-- The reach, of one datum. -/
def OkW (P : Program) (t : TypeId) (d : DataW H) : Prop := ∀ n ∈ d.weights P t, n ≤ reachBytes

theorem okW_args {ts : List TypeId} {ds : List (DataW H)} (h : (DataW.weightsEach P ts ds).all (· ≤ reachBytes) = true) {j : Nat} {t : TypeId} {d : DataW H} (ht : ts[j]? = some t) (hd : ds[j]? = some d) : OkW P t d := fun n hn => by
  simpa using List.all_eq_true.1 h _ (DataW.weights_mem_each ht hd n hn)

theorem okW_string {t : TypeId} {b : List UInt8} (h : OkW (H := H) P t (.lit (.string b))) : b.length ≤ 140737488351232 := by
  have := h b.length (by simp [DataW.weights])
  simpa [reachBytes] using this

theorem weightsAll_mem {e : TypeId} {d : DataW H} {n : Nat} : ∀ {l : List (DataW H)}, d ∈ l → n ∈ d.weights P e → n ∈ DataW.weightsAll P e l
  | a :: r, hd, hn => by
    simp only [DataW.weightsAll, List.mem_append]
    rcases List.mem_cons.1 hd with rfl | hd
    · exact .inl hn
    · exact .inr (weightsAll_mem hd hn)

theorem okW_elem {t e : TypeId} {elems spare : List (DataW H)} (ht : P.underlying t = some (.slice e)) (h : OkW P t (.slice elems spare)) : ∀ d ∈ elems, OkW P e d := fun d hd n hn =>
  h n (by simp only [DataW.weights, ht, List.mem_cons, List.mem_append]; exact .inr (.inl (weightsAll_mem hd hn)))

theorem okW_len {t e : TypeId} {elems spare : List (DataW H)} (ht : P.underlying t = some (.slice e)) (h : OkW P t (.slice elems spare)) : (elems.length + spare.length) * P.bytesOf e ≤ 140737488351232 := by
  have := h ((elems.length + spare.length) * P.bytesOf e) (by simp [DataW.weights, ht])
  simpa [reachBytes] using this

theorem okW_field {t : TypeId} {fs : Array Field} {parts : List (DataW H)} (ht : P.underlying t = some (.struct fs)) (h : OkW P t (.agg parts)) {i : Nat} {f : Field} {d : DataW H} (hf : fs[i]? = some f) (hd : parts[i]? = some d) : OkW P f.type d := fun n hn =>
  h n (by
    simp only [DataW.weights, ht]
    exact DataW.weights_mem_each (j := i) (by simp [hf]) hd n hn)

theorem cell_spot {w : World} {a : Addr} {v : Value} (h : w.cell? a = some v) : a.block < w.heap.size ∧ a.spot = none := by
  unfold World.cell? at h
  split at h
  · rename_i c e f hb
    refine ⟨(Array.getElem?_eq_some_iff.1 hb).1, ?_⟩
    cases hs : a.spot with
    | none => rfl
    | some _ => rw [hs] at h; simp at h
  · cases h

theorem add_plain {a : Addr} (h : a.spot = none) (i : Nat) : a.add i = ⟨a.block, a.off + i, none⟩ := by
  cases a
  simp only at h
  subst h
  by_cases h0 : i = 0
  · subst h0; simp [Addr.add]
  · simp [Addr.add, h0]

/-- Each field is one cell, one behind the other. -/
def flatB (P : Program) (fs : Array Field) : Bool := (List.range fs.size).all fun i => match fs[i]? with
  | some f => decide (f.offset = i) && decide (P.cellsOf f.type = 1)
  | none => false

theorem flat_field {fs : Array Field} (h : flatB P fs = true) {i : Nat} {f : Field} (hi : fs[i]? = some f) : f.offset = i ∧ P.cellsOf f.type = 1 := by
  have hlt := (Array.getElem?_eq_some_iff.1 hi).1
  have := List.all_eq_true.1 h i (List.mem_range.2 hlt)
  rw [hi] at this
  simpa using this

/-- A struct whose fields are one cell each. -/
theorem open_fields {enc : TypeId × Value → H} {w : World} {base : Nat} {spare : Nat → Bool} {held : Bool} {e : TypeId} {fs : Array Field} (he : P.underlying e = some (.struct fs)) (hf : flatB P fs = true) (hc : P.cellsOf e = fs.size) {n : Nat} {cs : List Value} {x : DataW H × List MemPlace}
    (h : DataW.trod enc P w base spare held n e cs = some x) :
    ∃ (k : Nat) (xs : List (DataW H × List MemPlace)), x.1 = .agg (xs.map (·.1)) ∧ cs.length = fs.size ∧ xs.length = fs.size ∧ ∀ (i : Nat) (f : Field) (v : Value), fs[i]? = some f → cs[i]? = some v → ∃ y, xs[i]? = some y ∧ DataW.trod enc P w base spare held k f.type [v] = some y := by
  obtain ⟨xs, k, hk, hx, hl, hxl, hall⟩ := DataW.trod_struct he h
  refine ⟨k, xs, by rw [hx], by rw [hl, hc], hxl, fun i f v hi hv => ?_⟩
  have h1 := hall i f hi
  obtain ⟨ho, h2⟩ := flat_field hf hi
  rw [ho, h2] at h1
  have h3 : (cs.drop i).take 1 = [v] := by
    obtain ⟨hlt, e⟩ := List.getElem?_eq_some_iff.1 hv
    rw [List.drop_eq_getElem_cons hlt, e]
    simp
  rw [h3] at h1
  have hlt : i < xs.length := by rw [hxl]; exact (Array.getElem?_eq_some_iff.1 hi).1
  refine ⟨xs[i], by simp [hlt], ?_⟩
  rw [h1]; simp [hlt]

/-- A slice, opened: what its elements hold, each read by itself. -/
theorem open_elems {enc : TypeId × Value → H} {w : World} {t e : TypeId} (ht : P.underlying t = some (.slice e)) (sz : Nat) (hsz : P.cellsOf e = sz) (hpos : 0 < sz) {fuel : Nat} {v : Value} {x : DataW H × List MemPlace} (h : DataW.trod enc P w 0 (fun _ => true) true fuel t [v] = some x) :
    (v = .slice none 0 0 ∧ x.1 = .nil) ∨ ∃ (a : Addr) (len cap n : Nat) (D : Nat → DataW H) (sp : List (DataW H)) (V : Nat → Nat → Value), v = .slice (some a) len cap ∧ len ≤ cap ∧ cap ≤ maxLen ∧ x.1 = .slice ((List.range len).map D) sp ∧
      (len = 0 ∨ ∃ g off, a = ⟨g, off, none⟩ ∧ g < w.heap.size ∧ ∀ i, i < len → ∀ j, j < sz → w.cell? ⟨g, off + i * sz + j, none⟩ = some (V i j)) ∧
      ∀ i, i < len → ∃ pl, DataW.trod enc P w 0 (fun _ => true) true n e ((List.range sz).map (V i)) = some (D i, pl) := by
  rcases Deep.open_slice ht h with ⟨h1, h2⟩ | ⟨a, len, cap, m, n, D, Pl, h1, _, hl, hm, hmm, hx, hall⟩
  · left
    simp only [List.cons.injEq, and_true] at h1
    exact ⟨h1, by rw [h2]⟩
  · right
    simp only [List.cons.injEq, and_true] at h1
    have hmc : m = cap := by simpa using hmm
    obtain ⟨V, hV⟩ := Deep.choose_lt (n := len) (p := fun i (V : Nat → Value) => (∀ j, j < sz → w.cell? ((a.add (i * sz)).add j) = some (V j)) ∧ DataW.trod enc P w 0 (fun _ => true) true n e ((List.range sz).map V) = some (D i, Pl i)) (fun i hi => by
      obtain ⟨cs', g1, g2⟩ := hall i (by omega)
      rw [hsz] at g1
      obtain ⟨_, hlen, hcell⟩ := World.cells?_some g1
      refine ⟨fun j => cs'.getD j default, fun j hj => ?_, ?_⟩
      · rw [hcell j hj]
        have : j < cs'.length := by omega
        simp [this]
      · have : (List.range sz).map (fun j => cs'.getD j default) = cs' := by
          apply List.ext_getElem
          · simp [hlen]
          · intro j q1 q2
            simp [q2]
        rw [this]; exact g2)
    refine ⟨a, len, cap, n, D, _, V, h1, hl, hm, by rw [hx], ?_, fun i hi => ⟨_, (hV i hi).2⟩⟩
    by_cases h0 : len = 0
    · exact .inl h0
    · right
      have h3 := (hV 0 (by omega)).1 0 hpos
      obtain ⟨hb, hs⟩ := cell_spot h3
      have hb' : a.block < w.heap.size := by simpa [Addr.add] using hb
      have hs' : a.spot = none := by simpa [Addr.add] using hs
      refine ⟨a.block, a.off, by cases a; simp only at hs'; subst hs'; rfl, hb', fun i hi j hj => ?_⟩
      have h4 := (hV i hi).1 j hj
      rw [Deep.add_add, add_plain hs'] at h4
      rw [← h4, Nat.add_assoc]
end

def txt : Value → Str
  | .string s => s.data.toList
  | _ => []
def num : Value → Int
  | .int _ n => n
  | _ => 0

end Go.Proofs.Ytejlekfnjhnklaa
