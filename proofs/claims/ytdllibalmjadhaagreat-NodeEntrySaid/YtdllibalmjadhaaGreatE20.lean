/- What is told of a hub that is none. Messages that answer are refused by nodes. The shelf of a node of a hub without entries. -/
import Derived.Test.YtdllibalmjadhaaGreatE19
import Derived.Test.YtdllibalmjadhaaGreatE14

namespace Go.Proofs.YtdllibalmjadhaaGreat
open Go Go.RowKit

theorem hubFork_nil (w : World) : Calls Tryz.prog 33 #[.pointer none] w fun en w' => en = .returned (.pointer none) ∧ w = w' := by
  go_enter Tryz.func33, Tryz.ntmps33
  go_wp2
  go_ret
  exact ⟨rfl, rfl⟩
theorem nodesHub_none (nb hb rb : Nat) (turn : Int) (i : Int) (w : World) (h : NodesAt w nb hb rb turn) (hi : i < 0 ∨ 1 ≤ i) : Calls Tryz.prog 11 #[.pointer (some ⟨nb, 0, none⟩), .int .i64 i] w fun en w' => en = .returned (.pointer none) ∧ w = w' := by
  have HN := hid (nodeHub_none nb hb rb turn i w h hi)
  go_enter Tryz.func11, Tryz.ntmps11
  go_wp2_with (first | (go_at_call 30; refine HN.out.mono ?_; rintro en w1 ⟨rfl, rfl⟩) | (go_at_call 33; refine (hubFork_nil _).mono ?_; rintro en w1 ⟨rfl, rfl⟩))
  go_ret
  exact ⟨rfl, rfl⟩
theorem points_nil (w : World) : Calls Tryz.prog 17 #[.pointer none] w fun en w' => en = .returned (.slice none 0 0) ∧ w = w' := by
  go_enter Tryz.func17, Tryz.ntmps17
  go_wp2
  go_ret
  exact ⟨rfl, rfl⟩
theorem indexU_nil (f : Value) (w : World) : Calls Tryz.prog 132 #[.slice none 0 0, f] w fun en w' => en = .returned (.int .i64 (-1)) ∧ w = w' := by
  go_enter Tryz.func132, Tryz.ntmps132
  go_wp2
  refine wp_loop_once ?_
  go_wp2
  go_ret
  exact ⟨rfl, rfl⟩
theorem deleteU_nil (f : Value) (w : World) : Calls Tryz.prog 87 #[.slice none 0 0, f] w fun en w' => en = .returned (.slice none 0 0) ∧ w = w' := by
  have HI := hid (indexU_nil f)
  go_enter Tryz.func87, Tryz.ntmps87
  go_wp2_with (go_at_call 132; refine (HI.out _).mono ?_; rintro en w1 ⟨rfl, rfl⟩)
  go_ret
  exact ⟨rfl, rfl⟩
set_option maxRecDepth 100000 in
theorem alive_nohub (nb hb rb : Nat) (turn : Int) (i : Int) (w : World) (h : NodesAt w nb hb rb turn) (hi : i < 0 ∨ 1 ≤ i) : Calls Tryz.prog 43 #[.pointer (some ⟨nb, 0, none⟩), .int .i64 i] w fun en w' => en = .returned (.slice none 0 0) ∧ Below w.heap.size w w' := by
  have HN := hid fun w' (hb' : Below w.heap.size w w') => nodeHub_none nb hb rb turn i w' (h.below hb') hi
  clear h
  go_enter Tryz.func43, Tryz.ntmps43
  go_wp2_with (first | (go_at_call 30; refine (HN.out _ (Below.refl _ _)).mono ?_; rintro en w1 ⟨rfl, rfl⟩) | (go_at_call 12; refine (hubRing_nil _).mono ?_; rintro en w1 ⟨rfl, rfl⟩) | (go_at_call 17; refine (points_nil _).mono ?_; rintro en w1 ⟨rfl, rfl⟩) | (go_at_call 87; refine (deleteU_nil _ _).mono ?_; rintro en w1 ⟨rfl, rfl⟩))
  go_ret
  exact ⟨rfl, alloc_below _ _⟩
set_option maxRecDepth 100000 in
theorem loads_none (nb hb rb : Nat) (turn : Int) (i : Int) (w : World) (h : NodesAt w nb hb rb turn) (hi : i < 0 ∨ 1 ≤ i) : Calls Tryz.prog 18 #[.pointer (some ⟨nb, 0, none⟩), .int .i64 i] w fun en w' => en = .returned (.slice none 0 0) ∧ Below w.heap.size w w' := by
  have HN := hid (alive_nohub nb hb rb turn i w h hi)
  clear h
  go_enter Tryz.func18, Tryz.ntmps18
  go_wp2_with (go_at_call 43; refine HN.out.mono ?_; rintro en w1 ⟨rfl, hb1⟩)
  refine wp_loop_once ?_
  go_wp2
  go_ret
  exact ⟨rfl, hb1⟩
set_option maxRecDepth 100000 in
theorem links_none (nb km clk : Nat) (arr : Array MapEntry) (i : Int) (p : Nat) (w : World) (h : w.cell? ⟨nb, 5, none⟩ = some (.map (some km))) (hk : w.heap[km]? = some (.map arr clk)) (hm : IsMap encPlace [] arr clk) : Calls Tryz.prog 19 #[.pointer (some ⟨nb, 0, none⟩), .int .i64 i, .int .u32 p] w fun en w' => en = .returned (.slice none 0 0) ∧ w = w' := by
  have hl := run_look (P := Tryz.prog) placeLaw Tryz.underlying74 (z := .slice none 0 0) (w := w) (by kernel_rfl) hk hm (i, p) false
  simp only [encPlace, mget, Option.getD_none, Bool.false_eq_true, if_false] at hl
  have HC := hid (cloneU_nil w)
  go_enter Tryz.func19, Tryz.ntmps19
  go_wp2_with (go_at_call 42; refine HC.out.mono ?_; rintro en w1 ⟨rfl, rfl⟩)
  go_ret
  exact ⟨rfl, rfl⟩
end Go.Proofs.YtdllibalmjadhaaGreat

namespace Go.Proofs.YtdllibalmjadhaaGreat
open Go Go.RowKit

def ansV : Value := .agg #[.int .i64 6, .int .i64 0, .int .u32 0, .int .i64 0, .int .i64 1, .int .u32 0, .int .i64 0, .int .u32 0, .int .i64 0, .int .u32 0, .int .u64 0, .int .u64 0, .slice none 0 0, .bool false, .int .u32 0, .int .u32 0, .slice none 0 0, .slice none 0 0]

set_option maxRecDepth 100000 in
theorem held_answer (w : World) : Calls Tryz.prog 78 #[.int .i64 1, ansV] w fun en w' => en = .returned (.bool true) ∧ Below w.heap.size w w' := by
  have HN := hid none_zero
  have HM := hid (fun w => msgentry_any 6 w)
  unfold ansV
  go_enter Tryz.func78, Tryz.ntmps78
  go_wp2_with (first | (go_at_call 121; refine (HM.out _).mono ?_; rintro en w1 ⟨rfl, rfl⟩) | (go_at_call 122; refine (HN.out _).mono ?_; rintro en w2 ⟨rfl, hb2⟩; have q5 : w2.cell? ⟨w.heap.size, 5, none⟩ = some (.int .u32 0) := cellOf (holds hb2 (heap1 _ _)) 5))
  go_ret
  exact ⟨rfl, below_trans (alloc_below _ _) hb2⟩

set_option maxRecDepth 100000 in
theorem asked_answer (w : World) : Calls Tryz.prog 79 #[.int .i64 1, ansV] w fun en w' => en = .returned (.bool true) ∧ Below w.heap.size w w' := by
  unfold ansV
  go_enter Tryz.func79, Tryz.ntmps79
  go_wp2
  refine wp_loop_once ?_
  go_wp2
  refine wp_loop_once ?_
  go_wp2
  go_ret
  exact ⟨rfl, alloc_below _ _⟩

theorem hops_answer (w : World) : Calls Tryz.prog 76 #[.int .i64 6] w fun en w' => en = .returned (.bool false) ∧ w = w' := hops_any 6 w
theorem between_answer (w : World) : Calls Tryz.prog 77 #[.int .i64 6] w fun en w' => en = .returned (.bool false) ∧ w = w' := between_any 6 w

set_option maxHeartbeats 1000000 in
set_option maxRecDepth 100000 in
theorem right_answer (w : World) : Calls Tryz.prog 36 #[.int .i64 1, ansV] w fun en w' => en = .returned (.bool true) ∧ Below w.heap.size w w' := by
  have HE := hid held_answer
  have HA := hid asked_answer
  unfold ansV at *
  go_enter Tryz.func36, Tryz.ntmps36
  go_wp2_with (fail)
  obtain ⟨w0, hw0⟩ : ∃ w0, w0 = w.alloc (.cells #[.int .i64 6, .int .i64 0, .int .u32 0, .int .i64 0, .int .i64 1, .int .u32 0, .int .i64 0, .int .u32 0, .int .i64 0, .int .u32 0, .int .u64 0, .int .u64 0, .slice none 0 0, .bool false, .int .u32 0, .int .u32 0, .slice none 0 0, .slice none 0 0] 53 (0, 0)) := ⟨_, rfl⟩
  have hx := heap1 w (.cells #[.int .i64 6, .int .i64 0, .int .u32 0, .int .i64 0, .int .i64 1, .int .u32 0, .int .i64 0, .int .u32 0, .int .i64 0, .int .u32 0, .int .u64 0, .int .u64 0, .slice none 0 0, .bool false, .int .u32 0, .int .u32 0, .slice none 0 0, .slice none 0 0] 53 (0, 0))
  have hbl := alloc_below w (.cells #[.int .i64 6, .int .i64 0, .int .u32 0, .int .i64 0, .int .i64 1, .int .u32 0, .int .i64 0, .int .u32 0, .int .i64 0, .int .u32 0, .int .u64 0, .int .u64 0, .slice none 0 0, .bool false, .int .u32 0, .int .u32 0, .slice none 0 0, .slice none 0 0] 53 (0, 0))
  rw [← hw0] at hx hbl ⊢
  have q0 : w0.cell? ⟨w.heap.size, 0, none⟩ = some (.int .i64 6) := cellOf hx 0
  have q1 : w0.cell? ⟨w.heap.size, 1, none⟩ = some (.int .i64 0) := cellOf hx 1
  have q2 : w0.cell? ⟨w.heap.size, 2, none⟩ = some (.int .u32 0) := cellOf hx 2
  have q3 : w0.cell? ⟨w.heap.size, 3, none⟩ = some (.int .i64 0) := cellOf hx 3
  have q4 : w0.cell? ⟨w.heap.size, 4, none⟩ = some (.int .i64 1) := cellOf hx 4
  have q6 : w0.cell? ⟨w.heap.size, 6, none⟩ = some (.int .i64 0) := cellOf hx 6
  have q7 : w0.cell? ⟨w.heap.size, 7, none⟩ = some (.int .u32 0) := cellOf hx 7
  have q8 : w0.cell? ⟨w.heap.size, 8, none⟩ = some (.int .i64 0) := cellOf hx 8
  have hld := hid (msg_load hx rfl)
  have HX := hid hx
  clear hx hw0
  go_wp2_with (first | (refine wpList_load 53 _ rfl rfl rfl hld.out ?_) | (refine wpList_load 53 _ rfl rfl rfl hld2.out ?_) | (go_at_call 75; refine (within_small _ _ _ (by omega) (by omega) (by omega) _).mono ?_; rintro en w1 ⟨rfl, rfl⟩) | (go_at_call 75; refine (turn_yes _).mono ?_; rintro en w1 ⟨rfl, rfl⟩) | (go_at_call 76; refine (hops_answer _).mono ?_; rintro en w1 ⟨rfl, rfl⟩) | (go_at_call 77; refine (between_answer _).mono ?_; rintro en w1 ⟨rfl, rfl⟩) | (go_at_call 78; refine (HE.out _).mono ?_; rintro en w2 ⟨rfl, hb2⟩; have hld2 := hid (msg_load (holds hb2 HX.out) rfl)) | (go_at_call 79; refine (HA.out _).mono ?_; rintro en w3 ⟨rfl, hb3⟩))
  go_ret
  exact ⟨rfl, below_trans (below_trans hbl hb2) hb3⟩

set_option maxHeartbeats 1000000 in
set_option maxRecDepth 100000 in
/-- Do of an answer. -/
theorem do_kind (nb hb rb : Nat) (turn : Int) (w : World) (h : NodesAt w nb hb rb turn) :
    Calls Tryz.prog 14 #[.pointer (some ⟨nb, 0, none⟩), ansV] w fun en w' => en = .returned (.tuple #[.slice none 0 0, .int .i64 19]) ∧ Below w.heap.size w w' := by
  have h0 := h.attrs
  have HR := hid right_answer
  clear h
  unfold ansV at *
  go_enter Tryz.func14, Tryz.ntmps14
  go_wp2_with (fail)
  refine wp_region_b [5] (by kernel_rfl) (by kernel_rfl) ?_
  intro E _ hE hI
  have a1 : ∀ w' : InD E, w'.val.cell? ⟨nb, 0, none⟩ = some (.int .i64 1) := fun w' => stays (hE w') (stays (alloc_below _ _) h0)
  have hld := hid fun w' : InD E => msg_load (holds (hE w') (heap1 _ _)) rfl
  repeat (refine wpX_step (fun K hK => ?_); go_simp; refine hK _ _ ?_; clear hK K)
  refine wpX_load 53 _ rfl rfl rfl hld.out ?_
  repeat (refine wpX_step (fun K hK => ?_); go_simp; refine hK _ _ ?_; clear hK K)
  refine wpX_step (fun K hK => ?_); go_simp
  refine ⟨fun u w' => u = .bool true ∧ E w', fun w' hw' => (HR.out w').mono fun en w'' ⟨he, hb'⟩ => ⟨_, he, rfl, hI _ (below_trans (hE ⟨w', hw'⟩) hb')⟩, fun u w h => h.2, ?_⟩
  rintro u y ⟨rfl, _⟩
  refine hK _ _ ?_; clear hK K
  repeat (refine wpX_step (fun K hK => ?_); go_simp; refine hK _ _ ?_; clear hK K)
  refine wpX_nil ?_
  intro w1 hw1
  have hb1 := hE ⟨w1, hw1⟩
  have hbw := below_trans (alloc_below _ _) hb1
  have c0 : w1.cell? ⟨w.heap.size, 0, none⟩ = some (.int .i64 6) := cellOf (holds hb1 (heap1 _ _)) 0
  clear a1 hld hI hE hb1
  go_wp2
  refine bodyPost_ret (v := .tuple #[.slice none 0 0, .int .i64 19]) (by simp only [results, Tryz.results14]; go_simp) rfl ⟨rfl, hbw⟩
end Go.Proofs.YtdllibalmjadhaaGreat

namespace Go.Proofs.YtdllibalmjadhaaGreat
open Go Go.RowKit

set_option maxHeartbeats 1000000 in
set_option maxRecDepth 100000 in
theorem hubShelf_bare (c fr : Chunk) (hb p : Nat) (H : HubS) (hbare : H.bare) (w : World) (hok : Ok w (c ++ fr)) (h : IsHub [] c hb H) (hl : H.lives p = true) : Calls Tryz.prog 44 #[.pointer (some ⟨hb, 0, none⟩), .int .u32 p] w fun en w' => en = .returned (.slice none 0 0) ∧ Below w.heap.size w w' := by
  obtain ⟨xb, sb, db, hal, hxb, hscan, _⟩ := bare_node c fr hb p H hbare w hok h hl
  have hlive := hl
  simp only [HubS.lives, Bool.and_eq_true, decide_eq_true_eq, Bool.not_eq_true'] at hlive
  obtain ⟨rb, mb, arr, clk, l, cr, cn, h⟩ := h
  have h1 : w.cell? ⟨hb, 1, none⟩ = some (.pointer (some ⟨rb, 0, none⟩)) := cellOf (h.get hok) 1
  have HSp := hid (span_some rb p H.pts w (h.ringAt hok) h.ok hlive.1)
  have HA := hid hal
  have HS := hid hscan
  clear hal hscan hok h hlive
  go_enter Tryz.func44, Tryz.ntmps44
  go_wp2_with (first | (go_at_call 48; refine HA.out.mono ?_; rintro en w1 ⟨rfl, rfl⟩) | (go_at_call 57; refine HSp.out.mono ?_; rintro en w2 ⟨rfl, hb2⟩; have x2 : w2.cell? ⟨xb, 2, none⟩ = some (.pointer (some ⟨sb, 0, none⟩)) := cellOf (holds hb2 hxb) 2))
  have hbw := below_trans hb2 (alloc_below w2 (.cells #[.int .u32 (fromOf H.pts p : Nat), .int .u32 p] 50 (0, 0)))
  refine wp_region_b [6, 7] (by kernel_rfl) (by kernel_rfl) ?_
  intro E _ hE hI
  have f0 : ∀ w' : InD E, w'.val.cell? ⟨w2.heap.size, 0, none⟩ = some (.int .u32 (fromOf H.pts p : Nat)) := fun w' => cellOf (holds (hE w') (heap1 _ _)) 0
  have f1 : ∀ w' : InD E, w'.val.cell? ⟨xb, 2, none⟩ = some (.pointer (some ⟨sb, 0, none⟩)) := fun w' => stays (hE w') (stays (alloc_below _ _) x2)
  repeat (refine wpX_step (fun K hK => ?_); go_simp; refine hK _ _ ?_; clear hK K)
  refine wpX_step (fun K hK => ?_); go_simp
  refine ⟨fun u w' => u = .agg #[.int .u32 (fromOf H.pts p : Nat), .int .u32 (fromOf H.pts p : Nat)] ∧ E w', fun w' hw' => (all_any _ _).mono fun en w'' ⟨he, hb'⟩ => ⟨_, he, rfl, hI _ (below_trans (hE ⟨w', hw'⟩) hb')⟩, fun u w h => h.2, ?_⟩
  rintro u y ⟨rfl, _⟩
  refine hK _ _ ?_; clear hK K
  repeat (refine wpX_step (fun K hK => ?_); go_simp; refine hK _ _ ?_; clear hK K)
  refine wpX_step (fun K hK => ?_); go_simp
  refine ⟨fun u w' => u = .slice none 0 0 ∧ E w', fun w' hw' => (HS.out _ _ _ (below_trans hbw (hE ⟨w', hw'⟩))).mono fun en w'' ⟨he, hb'⟩ => ⟨_, he, rfl, hI _ (below_trans (hE ⟨w', hw'⟩) hb')⟩, fun u w h => h.2, ?_⟩
  rintro u y ⟨rfl, _⟩
  refine hK _ _ ?_; clear hK K
  repeat (refine wpX_step (fun K hK => ?_); go_simp; refine hK _ _ ?_; clear hK K)
  refine wpX_nil ?_
  intro w4 hw4
  have hb4 := below_trans hbw (hE ⟨w4, hw4⟩)
  clear hI f0 f1
  go_wp2
  go_ret
  exact ⟨rfl, hb4⟩
end Go.Proofs.YtdllibalmjadhaaGreat
