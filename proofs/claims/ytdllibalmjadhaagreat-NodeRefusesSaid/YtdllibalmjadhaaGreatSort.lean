/- slices.SortFunc of one element or none. -/
import Derived.Test.YtdllibalmjadhaaGreatHub0
namespace Go.Proofs.YtdllibalmjadhaaGreat
open Go Go.RowKit

set_option maxRecDepth 100000 in
theorem len64_zero (w : World) : Calls Tryz.prog 173 #[.int .u64 0] w fun en w' => ∃ k, en = .returned (.int .i64 k) ∧ w = w' := by
  go_enter Tryz.func173, Tryz.ntmps173
  go_wp2
  go_ret
  exact ⟨_, rfl, rfl⟩
set_option maxRecDepth 100000 in
theorem len64_one (w : World) : Calls Tryz.prog 173 #[.int .u64 1] w fun en w' => ∃ k, en = .returned (.int .i64 k) ∧ w = w' := by
  go_enter Tryz.func173, Tryz.ntmps173
  go_wp2
  go_ret
  exact ⟨_, rfl, rfl⟩
set_option maxRecDepth 100000 in
theorem lenBits_small (n : Nat) (hn : n ≤ 1) (w : World) : Calls Tryz.prog 152 #[.int .u64 n] w fun en w' => ∃ k, en = .returned (.int .i64 k) ∧ w = w' := by
  rcases (by omega : n = 0 ∨ n = 1) with rfl | rfl
  · go_enter Tryz.func152, Tryz.ntmps152
    go_wp2_with (go_at_call 173; refine (len64_zero w).mono ?_; rintro en w1 ⟨k, rfl, rfl⟩)
    go_ret
    exact ⟨_, rfl, rfl⟩
  · go_enter Tryz.func152, Tryz.ntmps152
    go_wp2_with (go_at_call 173; refine (len64_one w).mono ?_; rintro en w1 ⟨k, rfl, rfl⟩)
    go_ret
    exact ⟨_, rfl, rfl⟩

/-- A function without results is done. -/
theorem done_ret {P : Program} {f : Func} (hf : f.results = #[]) {post : Ending → World → Prop} {a : Act} {w : World} (h : post (.returned (.tuple #[])) w) (hd : a.defers = []) : bodyPost P f post .ret a w :=
  bodyPost_ret (v := .tuple #[]) (by simp [results, hf]) hd h
theorem done_norm {P : Program} {f : Func} (hf : f.results = #[]) {post : Ending → World → Prop} {a : Act} {w : World} (h : post (.returned (.tuple #[])) w) (hd : a.defers = []) : bodyPost P f post .normal a w :=
  ⟨hd, .tuple #[], by simp [results, hf], h⟩

set_option maxRecDepth 100000 in
theorem insSort_small (x f : Value) (n : Nat) (hn : n ≤ 1) (w : World) : Calls Tryz.prog 175 #[x, .int .i64 0, .int .i64 n, f] w fun en w' => en = .returned (.tuple #[]) ∧ w = w' := by
  have h0 : decide ((1 : Int) < (n : Int)) = false := by simp; omega
  have h1 : ¬ ((1 : Int) < (n : Int)) := by omega
  go_enter Tryz.func175, Tryz.ntmps175
  go_wp2
  refine wp_loop_once ?_
  go_wp2
  first | exact done_ret Tryz.results175 ⟨rfl, rfl⟩ rfl | exact done_norm Tryz.results175 ⟨rfl, rfl⟩ rfl
set_option maxRecDepth 100000 in
theorem pdq_small (x f k : Value) (n : Nat) (hn : n ≤ 1) (w : World) : Calls Tryz.prog 159 #[x, .int .i64 0, .int .i64 n, k, f] w fun en w' => en = .returned (.tuple #[]) ∧ w = w' := by
  have h0 : decide ((n : Int) ≤ 12) = true := by simp; omega
  have h1 : (n : Int) ≤ 12 := by omega
  have hw : IntKind.i64.wrap ((n : Int)) = n := IntWalk.i64_in _ (by omega)
  have HI := hid (insSort_small x f n hn)
  go_enter Tryz.func159, Tryz.ntmps159
  go_wp2
  refine wp_loop_once ?_
  go_wp2_with (go_at_call 175; refine (HI.out _).mono ?_; rintro en w1 ⟨rfl, rfl⟩)
  first | exact done_ret Tryz.results159 ⟨rfl, rfl⟩ rfl | exact done_norm Tryz.results159 ⟨rfl, rfl⟩ rfl
set_option maxRecDepth 100000 in
theorem sort_small (a : Option Addr) (f : Value) (n c : Nat) (hn : n ≤ 1) (w : World) : Calls Tryz.prog 134 #[.slice a n c, f] w fun en w' => en = .returned (.tuple #[]) ∧ w = w' := by
  have hw : IntKind.u64.wrap (n : Int) = n := by
    rcases (by omega : n = 0 ∨ n = 1) with rfl | rfl <;> rfl
  have HP := hid (fun k => pdq_small (.slice a n c) f k n hn w)
  have HL := hid (lenBits_small n hn w)
  go_enter Tryz.func134, Tryz.ntmps134
  go_wp2_with (first | (go_at_call 152; refine HL.out.mono ?_; rintro en w1 ⟨k, rfl, rfl⟩) | (go_at_call 159; refine (HP.out _).mono ?_; rintro en w1 ⟨rfl, rfl⟩))
  first | exact done_ret Tryz.results134 ⟨rfl, rfl⟩ rfl | exact done_norm Tryz.results134 ⟨rfl, rfl⟩ rfl
end Go.Proofs.YtdllibalmjadhaaGreat
