/-
  The program's tree: New.
-/
import Derived.Test.YtejlekfnjhnklaaTree
namespace Go.Proofs.Ytejlekfnjhnklaa
open Go.RowKit Go.Maps

theorem new_run (w : World) : Calls Try.prog 9 #[] w fun e w' => e = .returned (.pointer (some ⟨w.heap.size + 1, 0, none⟩)) ∧ w' = (w.alloc (.map #[] 0)).alloc (.cells (List.replicate 32 (strV []) ++ [Value.int .i64 0, Value.map (some w.heap.size)]).toArray 32) := by
  have hmm : ∀ wx, (Instr.makeMap 30 none).run Try.prog wx = .ok (.map (some wx.heap.size)) (wx.alloc (.map #[] 0)) := fun wx => run_makeMap (P := Try.prog) 30 wx
  go_enter Try.func9, Try.ntmps9
  go_wp2
  go_ret
  exact ⟨rfl, rfl⟩

theorem new_is {w : World} {b : Nat} (hb : b ≤ w.heap.size) : Calls Try.prog 9 #[] w fun e w' => ∃ p q last, e = .returned (.pointer (some ⟨p, 0, none⟩)) ∧ IsTree w' b p (some q) last Tr.empty ∧ Below w.heap.size w w' := by
  refine (new_run w).mono ?_
  rintro e w' ⟨rfl, rfl⟩
  have hsz : (w.alloc (.map #[] 0)).heap.size = w.heap.size + 1 := World.size_alloc _ _
  have hblk : ((w.alloc (.map #[] 0)).alloc (.cells (List.replicate 32 (strV []) ++ [Value.int .i64 0, Value.map (some w.heap.size)]).toArray 32)).heap[w.heap.size + 1]? = some (.cells (List.replicate 32 (strV []) ++ [Value.int .i64 0, Value.map (some w.heap.size)]).toArray 32 (0, 0)) := by
    rw [← hsz]; exact heap_alloc_new _ _
  refine ⟨_, w.heap.size, fun _ => [], rfl, ⟨by omega, ⟨_, hblk⟩, fun i hi => ?_, ?_, ?_, .inr ⟨_, rfl, hb, ?_⟩, fun k hk => absurd hk (by simp [Tr.empty])⟩, ((Below.refl _ _).alloc (Nat.le_refl _) _).alloc (by rw [hsz]; omega) _⟩
  · simp only [World.cell?, hblk]
    show (List.replicate 32 (strV []) ++ [Value.int .i64 0, Value.map (some w.heap.size)]).toArray[i]? = some (strV [])
    rw [List.getElem?_toArray, List.getElem?_append_left (by rw [List.length_replicate]; exact hi), List.getElem?_replicate, if_pos hi]
  · simp only [World.cell?, hblk]
    rfl
  · simp only [World.cell?, hblk]
    rfl
  · exact (MapG.made w Try.prog 9 eS).alloc _

end Go.Proofs.Ytejlekfnjhnklaa
