/- Dice, shadows, nodes: new ones. What a hub finds by a point. -/
import Derived.Test.YtdllibalmjadhaaGreatShelf
namespace Go.Proofs.YtdllibalmjadhaaGreat
open Go Go.RowKit

theorem diceNew_any (s : Nat) (w : World) : Calls Tryz.prog 27 #[.int .u64 s] w fun en w' => ∃ db, en = .returned (.pointer (some ⟨db, 0, none⟩)) ∧ Fresh w w' [(db, .cells #[.int .u64 s] 118 (0, 0))] := by
  go_enter Tryz.func27, Tryz.ntmps27
  go_wp2
  go_ret
  exact ⟨_, rfl, (Fresh.refl w).push _⟩

/-- A new shadow. -/
def NewShadow (w : World) (en : Ending) (w' : World) : Prop := ∃ db mb, en = .returned (.pointer (some ⟨db, 0, none⟩)) ∧ Fresh w w' [(db, .cells #[.map (some mb)] 184 (0, 0)), (mb, .map #[] 0)]
theorem shadowNew_any (w : World) : Calls Tryz.prog 103 #[] w (NewShadow w) := by
  have hmm := @run_makeMap Tryz.prog
  go_enter Tryz.func103, Tryz.ntmps103
  go_wp2
  go_ret
  exact ⟨_, w.heap.size, rfl, (((Fresh.refl w).push (.map #[] 0)).push (.cells #[.map (some w.heap.size)] 184 (0, 0))).sub (by simp)⟩

/-- A node that is alive, without entries. -/
def NewNode (w : World) (en : Ending) (w' : World) : Prop := ∃ xb sb db mb cs, en = .returned (.pointer (some ⟨xb, 0, none⟩)) ∧ IsShelf [] cs sb [] ∧
  Fresh w w' ((xb, .cells #[.bool false, .int .i64 0, .pointer (some ⟨sb, 0, none⟩), .pointer (some ⟨db, 0, none⟩)] 127 (0, 0)) :: ([(db, .cells #[.map (some mb)] 184 (0, 0)), (mb, .map #[] 0)] ++ cs))
theorem fresh_any (w : World) : Calls Tryz.prog 56 #[] w (NewNode w) := by
  go_enter Tryz.func56, Tryz.ntmps56
  go_wp2_with (first | (go_at_call 102; refine (shelfNew_any w).mono ?_; rintro en w1 ⟨sb, cs, rfl, hs, h1⟩) | (go_at_call 103; refine (shadowNew_any w1).mono ?_; rintro en w2 ⟨db, mb, rfl, h2⟩))
  go_ret
  exact ⟨_, _, _, _, _, rfl, hs, (h1.trans h2).push _⟩

/-- Where a hub's map lies. -/
structure HubAt (w : World) (hb : Nat) (l : List (Nat × Value)) : Prop where
  at_ : ∃ mb arr clk, w.cell? ⟨hb, 2, none⟩ = some (.map (some mb)) ∧ w.heap[mb]? = some (.map arr clk) ∧ IsMap encName l arr clk

theorem alive_none (hb p : Nat) (l : List (Nat × Value)) (w : World) (h : HubAt w hb l) (hn : mget l p = none) : Calls Tryz.prog 48 #[.pointer (some ⟨hb, 0, none⟩), .int .u32 p] w fun en w' => en = .returned (.pointer none) ∧ w = w' := by
  obtain ⟨mb, arr, clk, h0, h1, hm⟩ := h.at_
  have hl := run_look (P := Tryz.prog) nameLaw Tryz.underlying87 (z := .pointer none) (by kernel_rfl) h1 hm p false
  rw [hn] at hl
  simp only [encName, Option.getD_none, Bool.false_eq_true, if_false] at hl
  go_enter Tryz.func48, Tryz.ntmps48
  go_wp2
  go_ret
  exact ⟨rfl, rfl⟩
set_option maxRecDepth 100000 in
theorem alive_some (hb p xb : Nat) (dead : Bool) (l : List (Nat × Value)) (w : World) (h : HubAt w hb l) (hn : mget l p = some (.pointer (some ⟨xb, 0, none⟩))) (hd : w.cell? ⟨xb, 0, none⟩ = some (.bool dead)) :
    Calls Tryz.prog 48 #[.pointer (some ⟨hb, 0, none⟩), .int .u32 p] w fun en w' => en = .returned (if dead then .pointer none else .pointer (some ⟨xb, 0, none⟩)) ∧ w = w' := by
  obtain ⟨mb, arr, clk, h0, h1, hm⟩ := h.at_
  have hl := run_look (P := Tryz.prog) nameLaw Tryz.underlying87 (z := .pointer none) (by kernel_rfl) h1 hm p false
  rw [hn] at hl
  simp only [encName, Option.getD_some, Bool.false_eq_true, if_false] at hl
  cases dead <;>
  · go_enter Tryz.func48, Tryz.ntmps48
    go_wp2
    go_ret
    exact ⟨rfl, rfl⟩
end Go.Proofs.YtdllibalmjadhaaGreat
