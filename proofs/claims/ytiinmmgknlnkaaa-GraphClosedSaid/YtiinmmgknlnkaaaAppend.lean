/-
  'append(l, x)' at a slice of texts of the call's own.
-/
import Derived.Test.YtiinmmgknlnkaaaBelow
import Derived.Maps.AppendAt
namespace Go.Proofs.Ytiinmmgknlnkaaa
open Go.RowKit Go.Maps

theorem infoStr : (Try.prog.info? 9).map (fun i => (i.zero, i.size, i.bytes)) = some (some (.string ByteArray.empty), 1, 16) := by kernel_rfl

theorem wpList_appS {ops : Array Oper} {rest : List Oper} {o : Oper} {a : Act} {Q : Exit → Act → World → Prop} (w : World) (hgd : o.guard = none) (s x : Operand)
    (ho : o.op = .call { callee := .builtin .append, args := #[s, x], argTypes := #[27, 27] }) (base : Nat) (v : Value) (l : List Str) (hs : a.eval s = v) (hown : OwnStrs w base v l) (g : Nat) (y : Str)
    (hx : a.eval x = .slice (some ⟨g, 0, none⟩) 1 1) (hc : w.cell? ⟨g, 0, none⟩ = some (strV y)) (hlen : l.length + 1 ≤ 8388608) (hbase : base ≤ w.heap.size)
    (h : ∀ g' cap w', OwnStrs w' base (.slice (some ⟨g', 0, none⟩) (l.length + 1) cap) (l ++ [y]) → w.grownBy w' v.ownBlock → (v.ownBlock = some g' ∨ w.heap.size ≤ g') → wpList Try.prog ops Q rest (a.put o.dst (.slice (some ⟨g', 0, none⟩) (l.length + 1) cap)) w') :
    wpList Try.prog ops Q (o :: rest) a w := by
  obtain ⟨i0, hi, hz0, hz1, hz2⟩ := info_parts infoStr
  refine wpList_append_own_at w hgd s x 27 ho base 9 i0 (.string ByteArray.empty) 1 16 Try.underlying27 hi hz0 hz1 hz2 rfl (by decide) v l.length (l.map strV) hs hown ⟨g, 0, none⟩ 1 1 [strV y] hx rfl ?_ ?_ ?_ ?_ hbase ?_
  · intro j u hu
    cases j with
    | zero => simp at hu; subst hu; simpa [Addr.add] using hc
    | succ j => simp at hu
  · simp [Value.oneCell']
  · unfold maxLen; omega
  · omega
  · intro v' w' hown' hgr hnil hloc
    have hown2 : OwnStrs w' base v' (l ++ [y]) := by
      unfold OwnStrs
      rw [List.map_append, List.length_append]
      exact hown'
    rcases hown2.shape with ⟨_, e⟩ | ⟨g', cap, rfl, _⟩
    · simp at e
    · have e1 : (l ++ [y]).length = l.length + 1 := by simp
      rw [e1] at hown2 hloc ⊢
      refine h g' cap w' hown2 hgr ?_
      rcases hloc with hl | hl
      · exact .inl (by simpa [Value.ownBlock] using hl.symm)
      · obtain hl := hl
        simp [Value.ownBlock] at hl
        exact .inr (by omega)

/-- 'append(s, x...)' whose run is known. -/
theorem wpList_append_run {P : Program} {ops : Array Oper} {rest : List Oper} {o : Oper} {a : Act} {Q : Exit → Act → World → Prop} {w : World} (hgd : o.guard = none) (s x : Operand) (t : TypeId)
    (ho : o.op = .call { callee := .builtin .append, args := #[s, x], argTypes := #[t, t] }) (hty : o.type = t) {v y : Value} (hs : a.eval s = v) (hx : a.eval x = y) {v' : Value} {w' : World}
    (hr : (Builtin.append_ #[t, t] t #[v, y]).run P w = .ok v' w') (h : wpList P ops Q rest (a.put o.dst v') w') : wpList P ops Q (o :: rest) a w := by
  refine wpList_plain hgd fun K hK => ?_
  unfold Oper.wp execOp
  simp only [ho, resolve, invoke, builtin, Sem.run_bind, Sem.run_pure, Result.andThen_ok, List.map_toArray, List.map_cons, List.map_nil, hs, hx, hty, hr]
  exact hK _ _ h

/-- The same as a step of a region that draws its order. -/
theorem step_append_run {P : Program} {ops : Array Oper} {o : Oper} {a : Act} {w : World} {K : Act → World → Prop} {Q : Exit → Act → World → Prop} {E : Prop}
    (hg : o.guard = none) (s x : Operand) (t : TypeId) (hop : o.op = Op.call { callee := Callee.builtin Builtin.append, args := #[s, x], argTypes := #[t, t] }) (hty : o.type = t) {v y : Value} (hs : a.eval s = v) (hx : a.eval x = y) {v' : Value} {w' : World}
    (hr : (Builtin.append_ #[t, t] t #[v, y]).run P w = .ok v' w') (hK : K (a.put o.dst v') w') :
    if Region.wanted o (yielded ops a.tmps) = true then Oper.wp P o a w K Q else E := by
  have hw : Region.wanted o (yielded ops a.tmps) = true := by simp [Region.wanted, hg]
  rw [if_pos hw]
  unfold Oper.wp execOp
  simp only [hop, resolve, invoke, builtin, Sem.run_bind, Sem.run_pure, Result.andThen_ok, List.map_toArray, List.map_cons, List.map_nil, hs, hx, hty, hr]
  exact hK

/-- 'append(l, y)', y in a new block of one cell: as an equation on the run. -/
theorem run_appS (w : World) (base : Nat) (v : Value) (l : List Str) (hown : OwnStrs w base v l) (y : Str) (hlen : l.length + 1 ≤ 8388608) (hbase : base ≤ w.heap.size) :
    ∃ g' cap w', (Builtin.append_ #[27, 27] 27 #[v, .slice (some ⟨w.heap.size, 0, none⟩) 1 1]).run Try.prog (w.alloc (.cells #[strV y] 9)) = .ok (.slice (some ⟨g', 0, none⟩) (l.length + 1) cap) w' ∧
      OwnStrs w' base (.slice (some ⟨g', 0, none⟩) (l.length + 1) cap) (l ++ [y]) ∧ (w.alloc (.cells #[strV y] 9)).grownBy w' v.ownBlock ∧ (v.ownBlock = some g' ∨ w.heap.size ≤ g') := by
  obtain ⟨i0, hi, hz0, hz1, hz2⟩ := info_parts infoStr
  obtain ⟨v', w', hr, hown', hgr, hnil, hloc⟩ := run_append_own_at (P := Try.prog) (w.alloc (.cells #[strV y] 9)) base 27 27 9 i0 (.string ByteArray.empty) 1 16 Try.underlying27 hi hz0 hz1 hz2 rfl (by decide) v l.length (l.map strV) (World.ownsRow.alloc hown _) ⟨w.heap.size, 0, none⟩ 1 1 [strV y] rfl (fun j u hu => by
    cases j with
    | zero => simp at hu; subst hu; simp [Addr.add]
    | succ j => simp at hu) (by simp [Value.oneCell']) (by unfold maxLen; omega) (by omega) (by rw [World.size_alloc]; omega)
  have hown2 : OwnStrs w' base v' (l ++ [y]) := by
    unfold OwnStrs
    rw [List.map_append, List.length_append]
    exact hown'
  rcases hown2.shape with ⟨_, e⟩ | ⟨g', cap, rfl, _⟩
  · simp at e
  · have e1 : (l ++ [y]).length = l.length + 1 := by simp
    rw [e1] at hown2 hloc hr
    refine ⟨g', cap, w', hr, hown2, hgr, ?_⟩
    rcases hloc with hl | hl
    · exact .inl (by simpa [Value.ownBlock] using hl.symm)
    · simp [Value.ownBlock] at hl
      exact .inr (by omega)

end Go.Proofs.Ytiinmmgknlnkaaa
