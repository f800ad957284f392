/-
  Slices of texts: of the call's own, of whoever; append to them.
-/
import Derived.Test.YtejlekfnjhnklaaProg
import Derived.Test.YtejlekfnjhnklaaMap
import Derived.WalkKit
import Derived.ProofKit
import Derived.Maps.AppendAt
import Derived.Deep.Draws
namespace Go.Proofs.Ytejlekfnjhnklaa
open Go.RowKit Go.Maps

abbrev strV (x : Str) : Value := .string (bs x)

theorem cell_block {w w' : World} {a : Addr} {v : Value} (h : w.cell? a = some v) (hb : w'.heap[a.block]? = w.heap[a.block]?) : w'.cell? a = some v := by
  rw [← h]; simp [World.cell?, hb]

theorem cell_lt {w : World} {a : Addr} {v : Value} (h : w.cell? a = some v) : a.block < w.heap.size := by
  rcases Nat.lt_or_ge a.block w.heap.size with h' | h'
  · exact h'
  · simp [World.cell?, Array.getElem?_eq_none h'] at h
theorem cell_alloc' {w : World} {a : Addr} {v : Value} (o : Obj) (h : w.cell? a = some v) : (w.alloc o).cell? a = some v := by
  rw [← h]
  simp [World.cell?, Below.heap_alloc w o a.block (cell_lt h)]

def StrsAt (w : World) (a : Option Addr) (l : List Str) : Prop :=
  l = [] ∨ ∃ g off, a = some ⟨g, off, none⟩ ∧ ∀ i (h : i < l.length), w.cell? ⟨g, off + i, none⟩ = some (strV l[i])

theorem cell_new (w : World) (v : Value) (t : TypeId) : (w.alloc (.cells #[v] t)).cell? ⟨w.heap.size, 0, none⟩ = some v := by
  simp only [World.cell?]
  rw [heap_alloc_new]
  rfl

/-- v is a slice of the call's own that holds the texts l. -/
def OwnStrs (w : World) (base : Nat) (v : Value) (l : List Str) : Prop := w.ownsRow base 9 1 v l.length (l.map strV)

theorem OwnStrs.base {w : World} {b b' : Nat} {v : Value} {l : List Str} (h : OwnStrs w b v l) (hb : b' ≤ b) : OwnStrs w b' v l := by
  obtain ⟨h1, h2 | ⟨g, cap, cur, hv, hg, h3⟩⟩ := h
  · exact ⟨h1, .inl h2⟩
  · exact ⟨h1, .inr ⟨g, cap, cur, hv, Nat.le_trans hb hg, h3⟩⟩

theorem OwnStrs.nil (w : World) (b : Nat) : OwnStrs w b (.slice none 0 0) [] := ⟨rfl, .inl ⟨rfl, rfl⟩⟩

theorem OwnStrs.shape {w : World} {b : Nat} {v : Value} {l : List Str} (h : OwnStrs w b v l) :
    (v = .slice none 0 0 ∧ l = []) ∨ ∃ g cap, v = .slice (some ⟨g, 0, none⟩) l.length cap ∧ b ≤ g ∧ g < w.heap.size ∧ ∀ i (h : i < l.length), w.cell? ⟨g, i, none⟩ = some (strV l[i]) := by
  obtain ⟨h1, ⟨hv, h2⟩ | ⟨g, cap, cur, hv, hg, hb, hn, hm, hs, ht⟩⟩ := h
  · exact .inl ⟨hv, List.eq_nil_of_length_eq_zero h2⟩
  · refine .inr ⟨g, cap, hv, hg, (Array.getElem?_eq_some_iff.1 hb).1, fun i hi => ?_⟩
    have h4 : (l.map strV)[i]? = some (strV l[i]) := by simp [hi]
    rw [← ht, List.getElem?_take_of_lt (by omega)] at h4
    have h5 : cur[i]? = some (strV l[i]) := by rw [← Array.getElem?_toList]; exact h4
    simp [World.cell?, hb, h5]

theorem OwnStrs.at {w : World} {b : Nat} {v : Value} {l : List Str} (h : OwnStrs w b v l) : ∃ a cap, v = .slice a l.length cap ∧ StrsAt w a l := by
  rcases h.shape with ⟨rfl, rfl⟩ | ⟨g, cap, rfl, _, _, hc⟩
  · exact ⟨none, 0, rfl, .inl rfl⟩
  · exact ⟨_, cap, rfl, .inr ⟨g, 0, rfl, fun i hi => by simpa using hc i hi⟩⟩

theorem OwnStrs.below {w w' : World} {b : Nat} {v : Value} {l : List Str} (h : OwnStrs w b v l) (hb : Below w.heap.size w w') : OwnStrs w' b v l := by
  obtain ⟨h1, h2 | ⟨g, cap, cur, hv, hg, hc, h3⟩⟩ := h
  · exact ⟨h1, .inl h2⟩
  · exact ⟨h1, .inr ⟨g, cap, cur, hv, hg, (hb.block g (Array.getElem?_eq_some_iff.1 hc).1).trans hc, h3⟩⟩

/-- What comes back is a new slice of the texts l; nothing that was there has changed. -/
def Strs (l : List Str) (w : World) (e : Ending) (w' : World) : Prop := ∃ v, e = .returned v ∧ OwnStrs w' w.heap.size v l ∧ Below w.heap.size w w'

theorem infoStr : (Try.prog.info? 9).map (fun i => (i.zero, i.size, i.bytes)) = some (some (.string ByteArray.empty), 1, 16) := by kernel_rfl

theorem wpList_appS {ops : Array Oper} {rest : List Oper} {o : Oper} {a : Act} {Q : Exit → Act → World → Prop} (w : World) (hgd : o.guard = none) (s x : Operand)
    (ho : o.op = .call { callee := .builtin .append, args := #[s, x], argTypes := #[35, 35] }) (base : Nat) (v : Value) (l : List Str) (hs : a.eval s = v) (hown : OwnStrs w base v l) (g : Nat) (y : Str)
    (hx : a.eval x = .slice (some ⟨g, 0, none⟩) 1 1) (hc : w.cell? ⟨g, 0, none⟩ = some (strV y)) (hlen : l.length + 1 ≤ 8388608) (hbase : base ≤ w.heap.size)
    (h : ∀ g' cap w', OwnStrs w' base (.slice (some ⟨g', 0, none⟩) (l.length + 1) cap) (l ++ [y]) → w.grownBy w' v.ownBlock → (v.ownBlock = some g' ∨ w.heap.size ≤ g') → wpList Try.prog ops Q rest (a.put o.dst (.slice (some ⟨g', 0, none⟩) (l.length + 1) cap)) w') :
    wpList Try.prog ops Q (o :: rest) a w := by
  obtain ⟨i0, hi, hz0, hz1, hz2⟩ := info_parts infoStr
  refine wpList_append_own_at w hgd s x 35 ho base 9 i0 (.string ByteArray.empty) 1 16 Try.underlying35 hi hz0 hz1 hz2 rfl (by decide) v l.length (l.map strV) hs hown ⟨g, 0, none⟩ 1 1 [strV y] hx rfl ?_ ?_ ?_ ?_ hbase ?_
  · intro j u hu
    cases j with
    | zero => simp at hu; subst hu; simpa [Addr.add] using hc
    | succ j => simp at hu
  · simp [Value.oneCell']
  · unfold maxLen; omega
  · omega
  · intro v' w' hown' hgr hnil hloc
    have hown2 : OwnStrs w' base v' (l ++ [y]) := by
      unfold OwnStrs
      rw [List.map_append, List.length_append]
      exact hown'
    rcases hown2.shape with ⟨_, e⟩ | ⟨g', cap, rfl, _⟩
    · simp at e
    · have e1 : (l ++ [y]).length = l.length + 1 := by simp
      rw [e1] at hown2 hloc ⊢
      refine h g' cap w' hown2 hgr ?_
      rcases hloc with hl | hl
      · exact .inl (by simpa [Value.ownBlock] using hl.symm)
      · obtain hl := hl
        simp [Value.ownBlock] at hl
        exact .inr (by omega)

/-- 'append(s, x...)' whose run is known. -/
theorem wpList_append_run {P : Program} {ops : Array Oper} {rest : List Oper} {o : Oper} {a : Act} {Q : Exit → Act → World → Prop} {w : World} (hgd : o.guard = none) (s x : Operand) (t : TypeId)
    (ho : o.op = .call { callee := .builtin .append, args := #[s, x], argTypes := #[t, t] }) (hty : o.type = t) {v y : Value} (hs : a.eval s = v) (hx : a.eval x = y) {v' : Value} {w' : World}
    (hr : (Builtin.append_ #[t, t] t #[v, y]).run P w = .ok v' w') (h : wpList P ops Q rest (a.put o.dst v') w') : wpList P ops Q (o :: rest) a w := by
  refine wpList_plain hgd fun K hK => ?_
  unfold Oper.wp execOp
  simp only [ho, resolve, invoke, builtin, Sem.run_bind, Sem.run_pure, Result.andThen_ok, List.map_toArray, List.map_cons, List.map_nil, hs, hx, hty, hr]
  exact hK _ _ h

/-- The same as a step of a region that draws its order. -/
theorem step_append_run {P : Program} {ops : Array Oper} {o : Oper} {a : Act} {w : World} {K : Act → World → Prop} {Q : Exit → Act → World → Prop} {E : Prop}
    (hg : o.guard = none) (s x : Operand) (t : TypeId) (hop : o.op = Op.call { callee := Callee.builtin Builtin.append, args := #[s, x], argTypes := #[t, t] }) (hty : o.type = t) {v y : Value} (hs : a.eval s = v) (hx : a.eval x = y) {v' : Value} {w' : World}
    (hr : (Builtin.append_ #[t, t] t #[v, y]).run P w = .ok v' w') (hK : K (a.put o.dst v') w') :
    if Region.wanted o (yielded ops a.tmps) = true then Oper.wp P o a w K Q else E := by
  have hw : Region.wanted o (yielded ops a.tmps) = true := by simp [Region.wanted, hg]
  rw [if_pos hw]
  unfold Oper.wp execOp
  simp only [hop, resolve, invoke, builtin, Sem.run_bind, Sem.run_pure, Result.andThen_ok, List.map_toArray, List.map_cons, List.map_nil, hs, hx, hty, hr]
  exact hK

/-- 'append(l, y)', y in a new block of one cell: as an equation on the run. -/
theorem run_appS (w : World) (base : Nat) (v : Value) (l : List Str) (hown : OwnStrs w base v l) (y : Str) (hlen : l.length + 1 ≤ 8388608) (hbase : base ≤ w.heap.size) :
    ∃ g' cap w', (Builtin.append_ #[35, 35] 35 #[v, .slice (some ⟨w.heap.size, 0, none⟩) 1 1]).run Try.prog (w.alloc (.cells #[strV y] 9)) = .ok (.slice (some ⟨g', 0, none⟩) (l.length + 1) cap) w' ∧
      OwnStrs w' base (.slice (some ⟨g', 0, none⟩) (l.length + 1) cap) (l ++ [y]) ∧ (w.alloc (.cells #[strV y] 9)).grownBy w' v.ownBlock ∧ (v.ownBlock = some g' ∨ w.heap.size ≤ g') := by
  obtain ⟨i0, hi, hz0, hz1, hz2⟩ := info_parts infoStr
  obtain ⟨v', w', hr, hown', hgr, hnil, hloc⟩ := run_append_own_at (P := Try.prog) (w.alloc (.cells #[strV y] 9)) base 35 35 9 i0 (.string ByteArray.empty) 1 16 Try.underlying35 hi hz0 hz1 hz2 rfl (by decide) v l.length (l.map strV) (World.ownsRow.alloc hown _) ⟨w.heap.size, 0, none⟩ 1 1 [strV y] rfl (fun j u hu => by
    cases j with
    | zero => simp at hu; subst hu; simp [Addr.add]
    | succ j => simp at hu) (by simp [Value.oneCell']) (by unfold maxLen; omega) (by omega) (by rw [World.size_alloc]; omega)
  have hown2 : OwnStrs w' base v' (l ++ [y]) := by
    unfold OwnStrs
    rw [List.map_append, List.length_append]
    exact hown'
  rcases hown2.shape with ⟨_, e⟩ | ⟨g', cap, rfl, _⟩
  · simp at e
  · have e1 : (l ++ [y]).length = l.length + 1 := by simp
    rw [e1] at hown2 hloc hr
    refine ⟨g', cap, w', hr, hown2, hgr, ?_⟩
    rcases hloc with hl | hl
    · exact .inl (by simpa [Value.ownBlock] using hl.symm)
    · simp [Value.ownBlock] at hl
      exact .inr (by omega)

theorem OwnStrs.block {w : World} {base k : Nat} {v : Value} {l : List Str} (h : OwnStrs w base v l) (hk : v.ownBlock = some k) : base ≤ k ∧ k < w.heap.size ∧ ∃ c t f, w.heap[k]? = some (.cells c t f) := by
  obtain ⟨h1, ⟨rfl, _⟩ | ⟨g, cap, cur, rfl, hg0, hc, h3⟩⟩ := h
  · cases hk
  · simp only [Value.ownBlock, Option.some.injEq] at hk
    subst hk
    exact ⟨hg0, (Array.getElem?_eq_some_iff.1 hc).1, _, _, _, hc⟩

theorem own_other {w w' : World} {base k : Nat} {v : Value} {l : List Str} (h : OwnStrs w base v l) (hg : w.grownBy w' v.ownBlock) (hk : k < w.heap.size) (hn : ∀ c t f, w.heap[k]? ≠ some (.cells c t f)) : w'.heap[k]? = w.heap[k]? := by
  refine hg.block k hk fun e => ?_
  obtain ⟨_, _, c, t, f, hc⟩ := h.block e.symm
  exact hn _ _ _ hc

theorem OwnStrs.caps {w : World} {B g n cap : Nat} {l : List Str} (h : OwnStrs w B (.slice (some ⟨g, 0, none⟩) n cap) l) : n = l.length ∧ n ≤ cap ∧ cap ≤ maxLen := by
  obtain ⟨h1, ⟨hv, _⟩ | ⟨g', cap', cur, hv, hg, hb, hn, hm, hs, ht⟩⟩ := h
  · cases hv
  · simp only [Value.slice.injEq] at hv
    obtain ⟨_, h2, h3⟩ := hv
    omega

theorem OwnStrs.open {w : World} {b : Nat} {v : Value} {l : List Str} (h : OwnStrs w b v l) :
    ∃ an cap, v = .slice an l.length cap ∧ (l = [] ∨ ∃ g, an = some ⟨g, 0, none⟩ ∧ b ≤ g ∧ g < w.heap.size ∧ ∀ i (h : i < l.length), w.cell? ⟨g, i, none⟩ = some (strV l[i])) := by
  rcases h.shape with ⟨rfl, rfl⟩ | ⟨g, cap, rfl, hb, hg, hc⟩
  · exact ⟨none, 0, rfl, .inl rfl⟩
  · exact ⟨_, cap, rfl, .inr ⟨g, rfl, hb, hg, hc⟩⟩

theorem below_appS {w0 w w' : World} {base : Nat} {v : Value} {l : List Str} (hb : Below w0.heap.size w0 w) (h : OwnStrs w base v l) (hbase : w0.heap.size ≤ base) (hg : w.grownBy w' v.ownBlock) : Below w0.heap.size w0 w' :=
  ⟨hg.os.trans hb.os, hg.tape.trans hb.tape, hg.output.trans hb.output, Nat.le_trans hb.size hg.size, fun z hz => (hg.block z (Nat.lt_of_lt_of_le hz hb.size) (fun e => by
    have := (h.block e.symm).1
    omega)).trans (hb.block z hz)⟩

/-- 'append(l, m...)': as an equation on the run. -/
theorem run_appL (w : World) (base : Nat) (v : Value) (l : List Str) (hown : OwnStrs w base v l) (g c : Nat) (m : List Str) (hm : ∀ i (h : i < m.length), w.cell? ⟨g, i, none⟩ = some (strV m[i])) (hlen : l.length + m.length ≤ 8388608) (hbase : base ≤ w.heap.size) :
    ∃ v' w', (Builtin.append_ #[35, 35] 35 #[v, .slice (some ⟨g, 0, none⟩) m.length c]).run Try.prog w = .ok v' w' ∧ OwnStrs w' base v' (l ++ m) ∧ w.grownBy w' v.ownBlock := by
  obtain ⟨i0, hi, hz0, hz1, hz2⟩ := info_parts infoStr
  obtain ⟨v', w', hr, hown', hgr, hnil, hloc⟩ := run_append_own_at (P := Try.prog) w base 35 35 9 i0 (.string ByteArray.empty) 1 16 Try.underlying35 hi hz0 hz1 hz2 rfl (by decide) v l.length (l.map strV) hown ⟨g, 0, none⟩ m.length c (m.map strV) (by simp) (fun j u hu => by
    by_cases hj : j < m.length
    · simp [hj] at hu
      subst hu
      have h0 := hm j hj
      by_cases hj0 : j = 0
      · subst hj0; simpa [Addr.add] using h0
      · simpa [Addr.add, hj0] using h0
    · simp [hj] at hu) (by simp [Value.oneCell']) (by unfold maxLen; omega) (by omega) hbase
  refine ⟨v', w', hr, ?_, hgr⟩
  unfold OwnStrs
  rw [List.map_append, List.length_append]
  exact hown'

theorem foldl_take_succ {α β : Type} (f : β → α → β) (b : β) (l : List α) (k : Nat) (h : k < l.length) : (l.take (k + 1)).foldl f b = f ((l.take k).foldl f b) l[k] := by
  rw [List.take_succ_eq_append_getElem h, List.foldl_append]
  rfl

/-- v is a slice of the texts l. -/
def IsStrs (w : World) (v : Value) (l : List Str) : Prop := ∃ a cap, v = .slice a l.length cap ∧ (l = [] ∨ ∃ g off, a = some ⟨g, off, none⟩ ∧ g < w.heap.size ∧ ∀ i (h : i < l.length), w.cell? ⟨g, off + i, none⟩ = some (strV l[i]))

theorem IsStrs.below {w w' : World} {v : Value} {l : List Str} (h : IsStrs w v l) (hb : Below w.heap.size w w') : IsStrs w' v l := by
  obtain ⟨a, cap, hv, h0 | ⟨g, off, ha, hg, hc⟩⟩ := h
  · exact ⟨a, cap, hv, .inl h0⟩
  · exact ⟨a, cap, hv, .inr ⟨g, off, ha, Nat.lt_of_lt_of_le hg hb.size, fun i h => cell_block (hc i h) (hb.block _ hg)⟩⟩

theorem IsStrs.at {w : World} {v : Value} {l : List Str} (h : IsStrs w v l) : ∃ a cap, v = .slice a l.length cap ∧ StrsAt w a l := by
  obtain ⟨a, cap, hv, h0 | ⟨g, off, ha, hg, hc⟩⟩ := h
  · exact ⟨a, cap, hv, .inl h0⟩
  · exact ⟨a, cap, hv, .inr ⟨g, off, ha, hc⟩⟩

theorem OwnStrs.is {w : World} {b : Nat} {v : Value} {l : List Str} (h : OwnStrs w b v l) : IsStrs w v l := by
  rcases h.shape with ⟨rfl, rfl⟩ | ⟨g, cap, rfl, _, hg, hc⟩
  · exact ⟨none, 0, rfl, .inl rfl⟩
  · exact ⟨_, cap, rfl, .inr ⟨g, 0, rfl, hg, fun i hi => by simpa using hc i hi⟩⟩

theorem lit_is (w : World) (l : List Str) : IsStrs (w.alloc (.cells (l.map strV).toArray 9)) (.slice (some ⟨w.heap.size, 0, none⟩) l.length l.length) l :=
  ⟨_, _, rfl, .inr ⟨_, 0, rfl, by rw [World.size_alloc]; omega, fun i h => by
    simp only [World.cell?, heap_alloc_new, Nat.zero_add]
    simp [h]⟩⟩

theorem Below.drewN {w : World} (q : Nat) : Below w.heap.size w (w.drewN q) := ⟨rfl, rfl, rfl, Nat.le_refl _, fun _ _ => rfl⟩

theorem cells_map {w : World} {g off : Nat} {l : List Str} (hc : ∀ i (h : i < l.length), w.cell? ⟨g, off + i, none⟩ = some (strV l[i])) : ∀ j, j < (l.map bs).length → w.cell? ⟨g, off + j, none⟩ = some (.string ((l.map bs).getD j ByteArray.empty)) := fun j hj => by
  simp only [List.length_map] at hj
  rw [hc j hj]
  simp [hj]

theorem run_app_none (w : World) (base c : Nat) (v : Value) (l : List Str) (hown : OwnStrs w base v l) : (Builtin.append_ #[35, 35] 35 #[v, .slice none 0 c]).run Try.prog w = .ok v w := by
  obtain ⟨i0, hi, _, hz1, _⟩ := info_parts infoStr
  have ht := Try.underlying35
  rcases hown.2 with ⟨rfl, _⟩ | ⟨g, cap, cur, rfl, _, _, hnc, _⟩
  · simp [Builtin.append_, run_underlying ht, sizeOf, typeInfo, hi, Builtin.lenOf, Builtin.firstCells]
  · simp [Builtin.append_, run_underlying ht, sizeOf, typeInfo, hi, Builtin.lenOf, Builtin.firstCells, hnc, storeCells]

/-- 'append(s, x)', of two types, whose run is known. -/
theorem wpList_append_run2 {P : Program} {ops : Array Oper} {rest : List Oper} {o : Oper} {a : Act} {Q : Exit → Act → World → Prop} {w : World} (hgd : o.guard = none) (s x : Operand) (t t2 : TypeId)
    (ho : o.op = .call { callee := .builtin .append, args := #[s, x], argTypes := #[t, t2] }) (hty : o.type = t) {v y : Value} (hs : a.eval s = v) (hx : a.eval x = y) {v' : Value} {w' : World}
    (hr : (Builtin.append_ #[t, t2] t #[v, y]).run P w = .ok v' w') (h : wpList P ops Q rest (a.put o.dst v') w') : wpList P ops Q (o :: rest) a w := by
  refine wpList_plain hgd fun K hK => ?_
  unfold Oper.wp execOp
  simp only [ho, resolve, invoke, builtin, Sem.run_bind, Sem.run_pure, Result.andThen_ok, List.map_toArray, List.map_cons, List.map_nil, hs, hx, hty, hr]
  exact hK _ _ h

/-- 'append(l, m...)', m any slice of texts. -/
theorem run_appIs (w : World) (base : Nat) (v x : Value) (l m : List Str) (hown : OwnStrs w base v l) (hx : IsStrs w x m) (hlen : l.length + m.length ≤ 8388608) (hbase : base ≤ w.heap.size) :
    ∃ v' w', (Builtin.append_ #[35, 35] 35 #[v, x]).run Try.prog w = .ok v' w' ∧ OwnStrs w' base v' (l ++ m) ∧ w.grownBy w' v.ownBlock := by
  obtain ⟨a, c, rfl, h0⟩ := hx
  cases a with
  | none =>
    obtain rfl : m = [] := by
      rcases h0 with e | ⟨g, off, e, _⟩
      · exact e
      · cases e
    exact ⟨v, w, run_app_none w base c v l hown, by rw [List.append_nil]; exact hown, ⟨rfl, rfl, rfl, Nat.le_refl _, fun _ _ _ => rfl⟩⟩
  | some a =>
    obtain ⟨i0, hi, hz0, hz1, hz2⟩ := info_parts infoStr
    obtain ⟨v', w', hr, hown', hgr, hnil, hloc⟩ := run_append_own_at (P := Try.prog) w base 35 35 9 i0 (.string ByteArray.empty) 1 16 Try.underlying35 hi hz0 hz1 hz2 rfl (by decide) v l.length (l.map strV) hown a m.length c (m.map strV) (by simp) (fun j u hu => by
      by_cases hj : j < m.length
      · rcases h0 with e | ⟨g, off, e, hg, hc⟩
        · subst e; simp at hj
        · cases e
          simp [hj] at hu
          subst hu
          by_cases hj0 : j = 0
          · subst hj0; simpa [Addr.add] using hc 0 hj
          · simp [Addr.add, hj0, hc, hj]
      · simp [hj] at hu) (by simp [Value.oneCell']) (by unfold maxLen; omega) (by omega) hbase
    refine ⟨v', w', hr, ?_, hgr⟩
    unfold OwnStrs
    rw [List.map_append, List.length_append]
    exact hown'

end Go.Proofs.Ytejlekfnjhnklaa
