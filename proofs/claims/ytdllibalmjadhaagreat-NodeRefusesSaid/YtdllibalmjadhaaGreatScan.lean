/- Scans of shelves without entries. -/
import Derived.Test.YtdllibalmjadhaaGreatSort
namespace Go.Proofs.YtdllibalmjadhaaGreat
open Go Go.RowKit

set_option maxRecDepth 100000 in
theorem scan_nil (a b : Nat) (w : World) : Calls Tryz.prog 95 #[.pointer none, .agg #[.int .u32 a, .int .u32 b]] w fun en w' => en = .returned (.slice none 0 0) ∧ Below w.heap.size w w' := by
  have hs := hid fun (f : Value) (w : World) => sort_small none f 0 0 (by omega) w
  go_enter Tryz.func95, Tryz.ntmps95
  go_wp2_with (go_at_call 134; refine (hs.out _ _).mono ?_; rintro en w1 ⟨rfl, rfl⟩)
  go_ret
  exact ⟨rfl, alloc_below _ _⟩

set_option maxRecDepth 100000 in
theorem scan_empty (F c fr : Chunk) (sb : Nat) (a b : Nat) (w : World) (hok : Ok w (c ++ fr)) (h : IsShelf F c sb []) : Calls Tryz.prog 95 #[.pointer (some ⟨sb, 0, none⟩), .agg #[.int .u32 a, .int .u32 b]] w fun en w' => en = .returned (.slice none 0 0) ∧ Below w.heap.size w w' := by
  obtain ⟨mb, l, arr, clk, rfl, hm, he, _⟩ := h
  have hl : l = [] := List.length_eq_zero_iff.1 he.length
  subst hl
  have hsb : w.heap[sb]? = some (.cells #[.map (some mb)] 166 (0, 0)) := hok.get (by simp)
  have hmb : w.heap[mb]? = some (.map arr clk) := hok.get (by simp)
  have hs := hid fun (f : Value) (w : World) => sort_small none f 0 0 (by omega) w
  have h0 : ∀ o, (w.alloc o).cell? ⟨sb, 0, none⟩ = some (.map (some mb)) := fun o => stays (alloc_below _ _) (cellOf hsb 0)
  have h1 : ∀ o, (Instr.range 164 (.map (some mb))).run Tryz.prog (w.alloc o) = .ok (.pointer (some ⟨w.heap.size + 1, 0, none⟩)) ((w.alloc o).alloc (.mapIter (some mb) clk #[] clk)) := fun o => by
    have := run_range (P := Tryz.prog) Tryz.underlying164 (holds (alloc_below w o) hmb)
    rwa [World.size_alloc] at this
  have h2 : ∀ o ty, (Instr.next (.pointer (some ⟨w.heap.size + 1, 0, none⟩)) false ty).run Tryz.prog ((w.alloc o).alloc (.mapIter (some mb) clk #[] clk)) = .ok (.tuple #[.bool false]) ((w.alloc o).alloc (.mapIter (some mb) clk #[] clk)) := fun o ty => by
    have hi := heap1 (w.alloc o) (.mapIter (some mb) clk #[] clk)
    rw [World.size_alloc] at hi
    exact run_next_over (P := Tryz.prog) hi (holds (alloc_below _ _) (holds (alloc_below w o) hmb)) (Ranging.start hm) ty
  go_enter Tryz.func95, Tryz.ntmps95
  go_wp2
  refine wp_loop_once ?_
  go_wp2_with (go_at_call 134; refine (hs.out _ _).mono ?_; rintro en w1 ⟨rfl, rfl⟩)
  go_ret
  exact ⟨rfl, below_trans (alloc_below _ _) (alloc_below _ _)⟩
end Go.Proofs.YtdllibalmjadhaaGreat
