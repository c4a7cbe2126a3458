/- What is told of a hub that is none. -/
import Derived.Test.YtdllibalmjadhaaGreatDo
namespace Go.Proofs.YtdllibalmjadhaaGreat
open Go Go.RowKit

theorem hubFork_nil (w : World) : Calls Tryz.prog 33 #[.pointer none] w fun en w' => en = .returned (.pointer none) ∧ w = w' := by
  go_enter Tryz.func33, Tryz.ntmps33
  go_wp2
  go_ret
  exact ⟨rfl, rfl⟩
theorem nodesHub_none (nb hb rb : Nat) (turn : Int) (i : Int) (w : World) (h : NodesAt w nb hb rb turn) (hi : i < 0 ∨ 1 ≤ i) : Calls Tryz.prog 11 #[.pointer (some ⟨nb, 0, none⟩), .int .i64 i] w fun en w' => en = .returned (.pointer none) ∧ w = w' := by
  have HN := hid (nodeHub_none nb hb rb turn i w h hi)
  go_enter Tryz.func11, Tryz.ntmps11
  go_wp2_with (first | (go_at_call 30; refine HN.out.mono ?_; rintro en w1 ⟨rfl, rfl⟩) | (go_at_call 33; refine (hubFork_nil _).mono ?_; rintro en w1 ⟨rfl, rfl⟩))
  go_ret
  exact ⟨rfl, rfl⟩
theorem points_nil (w : World) : Calls Tryz.prog 17 #[.pointer none] w fun en w' => en = .returned (.slice none 0 0) ∧ w = w' := by
  go_enter Tryz.func17, Tryz.ntmps17
  go_wp2
  go_ret
  exact ⟨rfl, rfl⟩
theorem indexU_nil (f : Value) (w : World) : Calls Tryz.prog 132 #[.slice none 0 0, f] w fun en w' => en = .returned (.int .i64 (-1)) ∧ w = w' := by
  go_enter Tryz.func132, Tryz.ntmps132
  go_wp2
  refine wp_loop_once ?_
  go_wp2
  go_ret
  exact ⟨rfl, rfl⟩
theorem deleteU_nil (f : Value) (w : World) : Calls Tryz.prog 87 #[.slice none 0 0, f] w fun en w' => en = .returned (.slice none 0 0) ∧ w = w' := by
  have HI := hid (indexU_nil f)
  go_enter Tryz.func87, Tryz.ntmps87
  go_wp2_with (go_at_call 132; refine (HI.out _).mono ?_; rintro en w1 ⟨rfl, rfl⟩)
  go_ret
  exact ⟨rfl, rfl⟩
set_option maxRecDepth 100000 in
theorem alive_nohub (nb hb rb : Nat) (turn : Int) (i : Int) (w : World) (h : NodesAt w nb hb rb turn) (hi : i < 0 ∨ 1 ≤ i) : Calls Tryz.prog 43 #[.pointer (some ⟨nb, 0, none⟩), .int .i64 i] w fun en w' => en = .returned (.slice none 0 0) ∧ Below w.heap.size w w' := by
  have HN := hid fun w' (hb' : Below w.heap.size w w') => nodeHub_none nb hb rb turn i w' (h.below hb') hi
  clear h
  go_enter Tryz.func43, Tryz.ntmps43
  go_wp2_with (first | (go_at_call 30; refine (HN.out _ (Below.refl _ _)).mono ?_; rintro en w1 ⟨rfl, rfl⟩) | (go_at_call 12; refine (hubRing_nil _).mono ?_; rintro en w1 ⟨rfl, rfl⟩) | (go_at_call 17; refine (points_nil _).mono ?_; rintro en w1 ⟨rfl, rfl⟩) | (go_at_call 87; refine (deleteU_nil _ _).mono ?_; rintro en w1 ⟨rfl, rfl⟩))
  go_ret
  exact ⟨rfl, alloc_below _ _⟩
set_option maxRecDepth 100000 in
theorem loads_none (nb hb rb : Nat) (turn : Int) (i : Int) (w : World) (h : NodesAt w nb hb rb turn) (hi : i < 0 ∨ 1 ≤ i) : Calls Tryz.prog 18 #[.pointer (some ⟨nb, 0, none⟩), .int .i64 i] w fun en w' => en = .returned (.slice none 0 0) ∧ Below w.heap.size w w' := by
  have HN := hid (alive_nohub nb hb rb turn i w h hi)
  clear h
  go_enter Tryz.func18, Tryz.ntmps18
  go_wp2_with (go_at_call 43; refine HN.out.mono ?_; rintro en w1 ⟨rfl, hb1⟩)
  refine wp_loop_once ?_
  go_wp2
  go_ret
  exact ⟨rfl, hb1⟩
set_option maxRecDepth 100000 in
theorem links_none (nb km clk : Nat) (arr : Array MapEntry) (i : Int) (p : Nat) (w : World) (h : w.cell? ⟨nb, 5, none⟩ = some (.map (some km))) (hk : w.heap[km]? = some (.map arr clk)) (hm : IsMap encPlace [] arr clk) : Calls Tryz.prog 19 #[.pointer (some ⟨nb, 0, none⟩), .int .i64 i, .int .u32 p] w fun en w' => en = .returned (.slice none 0 0) ∧ w = w' := by
  have hl := run_look (P := Tryz.prog) placeLaw Tryz.underlying74 (z := .slice none 0 0) (w := w) (by kernel_rfl) hk hm (i, p) false
  simp only [encPlace, mget, Option.getD_none, Bool.false_eq_true, if_false] at hl
  have HC := hid (cloneU_nil w)
  go_enter Tryz.func19, Tryz.ntmps19
  go_wp2_with (go_at_call 42; refine HC.out.mono ?_; rintro en w1 ⟨rfl, rfl⟩)
  go_ret
  exact ⟨rfl, rfl⟩
end Go.Proofs.YtdllibalmjadhaaGreat
