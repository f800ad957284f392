/-
  graph.Add at whatever slice of names; graph.Link; graph.New.
-/
import Derived.Test.YtiinmmgknlnkaaaAdd
namespace Go.Proofs.Ytiinmmgknlnkaaa
open Go.RowKit Go.Maps
open Go.ChangeMaps (setBlock)

set_option maxHeartbeats 1000000 in
theorem add_none {S : Nat → Prop} {w : World} {p : Nat} {G : Gr} (h : IsGraph S w p G) (a : Option Addr) (cap : Nat) :
    Calls Try.prog 18 #[ptr p, .slice a 0 cap] w fun e w' => e = .returned (.int .i64 0) ∧ AddPost S w p G w' := by
  go_enter Try.func18, Try.ntmps18
  go_wp2
  refine wp_loop_rounds 1 ?_
  rw [rounds_succ]
  go_wp2
  go_ret
  exact ⟨rfl, AddPost.refl h⟩

theorem add_any {S : Nat → Prop} {w : World} {p : Nat} {G : Gr} (h : IsGraph S w p G) (a : Option Addr) (cap n : Nat) (l : List Str) (hn : n = l.length) (hl : StrsAt w a l) (hs : ∀ x ∈ l, x.length ≤ maxLen) (few : G.ns.length + l.length ≤ 1048576) :
    Calls Try.prog 18 #[ptr p, .slice a n cap] w fun e w' => e = .returned (.int .i64 0) ∧ AddPost S w p (l.foldl Gr.add G) w' := by
  subst hn
  rcases hl with rfl | ⟨g, off, rfl, hl⟩
  · exact add_none h a cap
  · exact add_some h g off cap l hl hs few

theorem add_nil (a : Option Addr) (n cap : Nat) (w : World) : Calls Try.prog 18 #[.pointer none, .slice a n cap] w fun e w' => e = .returned (.int .i64 1) ∧ w = w' := by
  go_enter Try.func18, Try.ntmps18
  go_wp2
  go_ret
  exact ⟨rfl, rfl⟩

theorem IsG.link {w w2 w3 : World} {p bo bi : Nat} {so si : Str → Nat} {G : Gr} {a b : Str} (h : IsG w p bo bi so si G) (ha : a ∈ G.ns) (hb : b ∈ G.ns) {n1 n2 : Nat}
    (h2 : MapG Try.prog 9 eB w2 (so a) n1 (upd (outMap G a) b (some true))) (t2 : w.mapTurned w2 (so a))
    (h3 : MapG Try.prog 9 eB w3 (si b) n2 (upd (inMap G b) a (some true))) (t3 : w2.mapTurned w3 (si b)) :
    IsG w3 p bo bi so si (G.link a b) := by
  have hns : (G.link a b).ns = G.ns := by
    show ins b (ins a G.ns) = G.ns
    rw [ins_of_mem h.ok.rise ha, ins_of_mem h.ok.rise hb]
  have hok : (G.link a b).ok := by
    refine ⟨by rw [hns]; exact h.ok.rise, fun x y hxy => ?_, by rw [hns]; exact h.ok.short, by rw [hns]; exact h.ok.few⟩
    rw [hns]
    simp only [Gr.link, Bool.or_eq_true, Bool.and_eq_true, decide_eq_true_eq] at hxy
    rcases hxy with hxy | ⟨rfl, rfl⟩
    · exact h.ok.ends x y hxy
    · exact ⟨ha, hb⟩
  have b2 : ∀ k, k < w.heap.size → k ≠ so a → w2.heap[k]? = w.heap[k]? := fun k hk hne => t2.grown.block k hk (by simpa using hne)
  have sz2 : w.heap.size ≤ w2.heap.size := t2.grown.size
  have b3 : ∀ k, k < w2.heap.size → k ≠ si b → w3.heap[k]? = w2.heap[k]? := fun k hk hne => t3.grown.block k hk (by simpa using hne)
  have rest : ∀ k, k < w.heap.size → k ≠ so a → k ≠ si b → w3.heap[k]? = w.heap[k]? := fun k hk h1 h2 => (b3 k (by omega) h2).trans (b2 k hk h1)
  have lts := h.lt
  have hpn := h.p_not
  have keep : ∀ {f : Str → Option Bool} {s : Nat} {n : Nat} {x : Str}, MapG Try.prog 9 eB w3 s n f → (∀ y, (f y).isSome = true → y ∈ G.ns) → MapG Try.prog 9 eB w3 s G.ns.length f := by
    intro f s n x hm hf
    have hk : KeysAre f (G.ns.filter fun y => (f y).isSome) := ⟨Rising.nodup (h.ok.rise.filter _), fun y => by
      rw [List.mem_filter]
      exact ⟨fun h => h.2, fun h => ⟨hf y h, h⟩⟩⟩
    exact (hm.tight Try.underlying9 hk).mono (List.length_filter_le _ _)
  exact {
    hp := (rest p lts.1 (fun e => hpn (.inr (.inr ⟨a, ha, .inl e⟩))) (fun e => hpn (.inr (.inr ⟨b, hb, .inr e⟩)))).trans h.hp
    ok := hok
    mo := by
      rw [hns]
      refine MapG.congr (h.mo.same (rest bo h.mo.lt (fun e => (h.oso a ha).1 e.symm) (fun e => (h.osi b hb).1 e.symm))) fun x => ?_
      simp only [nodeMap, hns]
    mi := by
      rw [hns]
      refine MapG.congr (h.mi.same (rest bi h.mi.lt (fun e => (h.oso a ha).2 e.symm) (fun e => (h.osi b hb).2 e.symm))) fun x => ?_
      simp only [nodeMap, hns]
    eo := fun x hx => by
      rw [hns] at hx ⊢
      by_cases e : x = a
      · subst e
        have hm := h2.same (w' := w3) (b3 _ h2.lt (h.sosi x ha b hb))
        refine (keep (x := x) hm fun y hy => ?_).congr fun y => ?_
        · by_cases ey : y = b
          · exact ey ▸ hb
          · rw [upd_other _ _ ey] at hy
            simp only [outMap] at hy
            split at hy
            · rename_i h'; exact (h.ok.ends x y h').2
            · cases hy
        · by_cases ey : y = b
          · subst ey; simp [upd, outMap, Gr.link]
          · simp [upd, outMap, Gr.link, ey]
      · refine ((h.eo x hx).same (rest _ (h.eo x hx).lt (fun e' => e (h.soso x hx a ha e')) (h.sosi x hx b hb))).congr fun y => ?_
        simp [outMap, Gr.link, e]
    ei := fun x hx => by
      rw [hns] at hx ⊢
      by_cases e : x = b
      · subst e
        refine (keep (x := x) h3 fun y hy => ?_).congr fun y => ?_
        · by_cases ey : y = a
          · exact ey ▸ ha
          · rw [upd_other _ _ ey] at hy
            simp only [inMap] at hy
            split at hy
            · rename_i h'; exact (h.ok.ends y x h').1
            · cases hy
        · by_cases ey : y = a
          · subst ey; simp [upd, inMap, Gr.link]
          · simp [upd, inMap, Gr.link, ey]
      · refine ((h.ei x hx).same (rest _ (h.ei x hx).lt (fun e' => h.sosi a ha x hx e'.symm) (fun e' => e (h.sisi x hx b hb e')))).congr fun y => ?_
        simp [inMap, Gr.link, e]
    oi := h.oi
    oso := by rw [hns]; exact h.oso
    osi := by rw [hns]; exact h.osi
    soso := by rw [hns]; exact h.soso
    sisi := by rw [hns]; exact h.sisi
    sosi := by rw [hns]; exact h.sosi }

theorem link_adds (G : Gr) (a b : Str) (hok : G.ok) (ha : a.length ≤ maxLen) (hb : b.length ≤ maxLen) (hf : G.ns.length + 2 ≤ 1048576) : ((G.add a).add b).link a b = G.link a b := by
  have h1 := hok.add ha (by omega)
  have l1 : (G.add a).ns.length ≤ G.ns.length + 1 := length_ins_le
  have h2 := h1.add hb (by omega)
  have ma : a ∈ ins a G.ns := mem_ins.2 (.inl rfl)
  show Gr.mk _ _ = Gr.mk _ _
  congr 1
  show ins b (ins a (ins b (ins a G.ns))) = ins b (ins a G.ns)
  rw [ins_of_mem (x := a) (l := ins b (ins a G.ns)) h2.rise (mem_ins.2 (.inr ma)), ins_of_mem (x := b) (l := ins b (ins a G.ns)) h2.rise (mem_ins.2 (.inl rfl))]

theorem AddPost.trans {S : Nat → Prop} {w wr w' : World} {p : Nat} {G' : Gr} (ho : Only S w wr) (h : AddPost S wr p G' w') : AddPost S w p G' w' :=
  AddPost.step ho (fun _ h => .inl h) h

theorem strs_new (w : World) (l : List Str) (e : TypeId) : StrsAt (w.alloc (.cells (l.map strV).toArray e)) (some ⟨w.heap.size, 0, none⟩) l := by
  refine .inr ⟨_, _, rfl, fun i hi => ?_⟩
  simp only [World.cell?, heap_alloc_new]
  simp [hi]

set_option maxHeartbeats 1000000 in
theorem link_is {S : Nat → Prop} {w : World} {p : Nat} {G : Gr} (h : IsGraph S w p G) (a b : Str) (ha : a.length ≤ maxLen) (hb : b.length ≤ maxLen) (few : G.ns.length + 2 ≤ 1048576) :
    Calls Try.prog 16 #[ptr p, strV a, strV b] w fun e w' => e = .returned (.int .i64 0) ∧ AddPost S w p (G.link a b) w' := by
  have hok := h.ok
  have hbel : Below w.heap.size w (w.alloc (.cells #[strV a, strV b] 9)) := (Below.refl _ _).alloc (Nat.le_refl _) _
  have hadd := add_any (h.below hbel) (some ⟨w.heap.size, 0, none⟩) 2 2 [a, b] rfl (strs_new w [a, b] 9) (by simp [ha, hb]) few
  have Hadd := Hid.mk hadd
  clear hadd
  go_enter Try.func16, Try.ntmps16
  go_wp2_with fail
  refine Hadd.out.mono ?_
  rintro e w1 ⟨rfl, hp1⟩
  obtain ⟨S1, ⟨bo, bi, so, si, hg, hS⟩, ho1, hS1⟩ := hp1
  have hG1 : ([a, b].foldl Gr.add G) = (G.add a).add b := rfl
  rw [hG1] at hg hS
  have ma : a ∈ ((G.add a).add b).ns := mem_ins.2 (.inr (mem_ins.2 (.inl rfl)))
  have mb : b ∈ ((G.add a).add b).ns := mem_ins.2 (.inl rfl)
  have c0 := hg.cell0
  have hl1 : (Instr.lookup 47 (.map (some bo)) (strV a) false).run Try.prog w1 = .ok (.map (some (so a))) w1 := hg.mo.look_some Try.underlying9 Try.underlying47 (zeroSet w1) ha (a := so a) (by simp [nodeMap, ma])
  have hsm := hg.ok.few
  obtain ⟨w2, hr2, hm2, ht2⟩ := (hg.eo a ma).store Try.underlying9 Try.underlying58 (by unfold maxLen; omega) hb true
  have sz2 : w1.heap.size ≤ w2.heap.size := ht2.grown.size
  have k2 : ∀ k, k < w1.heap.size → k ≠ so a → w2.heap[k]? = w1.heap[k]? := fun k hk hne => ht2.grown.block k hk (by simpa using hne)
  have hp2 := k2 p hg.lt.1 (fun e => hg.p_not (.inr (.inr ⟨a, ma, .inl e⟩)))
  have c1 : w2.cell? ⟨p, 1, none⟩ = some (.map (some bi)) := by rw [← hg.cell1]; simp [World.cell?, hp2]
  have hmi2 := hg.mi.same (k2 bi hg.mi.lt (fun e => (hg.oso a ma).2 e.symm))
  have hl2 : (Instr.lookup 47 (.map (some bi)) (strV b) false).run Try.prog w2 = .ok (.map (some (si b))) w2 := hmi2.look_some Try.underlying9 Try.underlying47 (zeroSet w2) hb (a := si b) (by simp [nodeMap, mb])
  have hei2 := (hg.ei b mb).same (k2 _ (hg.ei b mb).lt (fun e => hg.sosi a ma b mb e.symm))
  obtain ⟨w3, hr3, hm3, ht3⟩ := hei2.store Try.underlying9 Try.underlying58 (by unfold maxLen; omega) ha true
  have hr2' : (Instr.mapUpdate 58 (.map (some (so a))) (strV b) (.bool true)).run Try.prog w1 = .ok () w2 := hr2
  have hr3' : (Instr.mapUpdate 58 (.map (some (si b))) (strV a) (.bool true)).run Try.prog w2 = .ok () w3 := hr3
  have hfin : AddPost S w p (G.link a b) w3 := by
    refine AddPost.trans (Only.of_below hbel) ⟨S1, ⟨bo, bi, so, si, ?_, ?_⟩, ?_, hS1⟩
    · rw [← link_adds G a b hok ha hb few]
      exact hg.link ma mb hm2 ht2 hm3 ht3
    · have hns : (G.link a b).ns = ((G.add a).add b).ns := rfl
      intro k
      rw [hS k]
      simp only [foot, hns]
    · have q2 : Only S1 w1 w2 := (Only.of_turned ht2).mono fun k _ e => e ▸ (hS _).2 (.inr (.inr ⟨a, ma, .inl rfl⟩))
      have q3 : Only S1 w2 w3 := (Only.of_turned ht3).mono fun k _ e => e ▸ (hS _).2 (.inr (.inr ⟨b, mb, .inr rfl⟩))
      have hlt : ∀ x, x < (w.alloc (.cells #[strV a, strV b] 9)).heap.size → S1 x → S x := fun x hx hs1 => (hS1 x hs1).elim id (fun h' => absurd h' (by omega))
      exact (ho1.trans q2 hlt).trans q3 hlt
  have Hfin := Hid.mk hfin
  clear hfin hr2 hr3 hm3 ht3 hei2 hmi2 hp2 k2 sz2 hm2 ht2 hsm mb ma hG1 hS hg hS1 ho1 hok h few hbel
  go_wp2
  go_ret
  exact ⟨rfl, Hfin.out⟩

theorem link_nil (a b : ByteArray) (w : World) : Calls Try.prog 16 #[.pointer none, .string a, .string b] w fun e w' => e = .returned (.int .i64 1) ∧ Below w.heap.size w w' := by
  go_enter Try.func16, Try.ntmps16
  go_wp2_with (go_at_call 18; refine (add_nil _ _ _ _).mono ?_; rintro e w1 ⟨rfl, rfl⟩)
  go_ret
  exact ⟨rfl, (Below.refl _ _).alloc (Nat.le_refl _) _⟩

end Go.Proofs.Ytiinmmgknlnkaaa
