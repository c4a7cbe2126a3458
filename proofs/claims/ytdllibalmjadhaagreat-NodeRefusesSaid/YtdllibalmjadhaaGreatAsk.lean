/- What a node of a hub without entries answers. -/
import Derived.Test.YtdllibalmjadhaaGreatMess
namespace Go.Proofs.YtdllibalmjadhaaGreat
open Go Go.RowKit

set_option maxHeartbeats 1000000 in
set_option maxRecDepth 100000 in
theorem ask_one (nb hb rb : Nat) (turn : Int) (p : Nat) (c o : Int) (a b f s : Nat) (bx : Value) (w : World) (h : NodesAt w nb hb rb turn) (d1 : ((f : Int) != 0) = true) (d2 : decide (IntKind.u64.wrap (f : Int) < (s : Int)) = false)
    (ho : ∀ w', Below w.heap.size w w' → Calls Tryz.prog 13 #[.pointer (some ⟨rb, 0, none⟩), .int .u32 (((a : Int) + 1) % 4294967296)] w' fun en w'' => en = .returned (.tuple #[.int .u32 p, .bool true]) ∧ Below w'.heap.size w' w'')
    (hf : ∀ w', Calls Tryz.prog 89 #[.int .u32 a, .int .u32 p] w' fun en w'' => en = .returned (.int .u32 f) ∧ w' = w'')
    (hsz : ∀ w', Calls Tryz.prog 90 #[.agg #[.int .u32 a, .int .u32 b]] w' fun en w'' => en = .returned (.int .u64 s) ∧ Below w'.heap.size w' w'')
    (hs : ∀ w', Below w.heap.size w w' → Calls Tryz.prog 44 #[.pointer (some ⟨hb, 0, none⟩), .int .u32 p] w' fun en w'' => en = .returned (.slice none 0 0) ∧ Below w'.heap.size w' w'') :
    Calls Tryz.prog 40 #[.pointer (some ⟨nb, 0, none⟩), .agg (askC p c o a b bx).cells] w fun en w' => ∃ x, en = .returned (.tuple #[.slice (some ⟨x, 0, none⟩) 1 1, .int .i64 0]) ∧ w'.heap[x]? = some (.cells (answerM c o a b).cells 53 (0, 0)) ∧ Below w.heap.size w w' := by
  obtain ⟨g, cap, g1, g2⟩ := h.hubs
  obtain ⟨r, rap, r1, r2⟩ := h.rings
  have HO := hid ho
  have HF := hid hf
  have HZ := hid hsz
  have HS := hid hs
  clear ho hs hf hsz h
  have hx := heap1 w (.cells (askC p c o a b bx).cells 53)
  have m0 := MsgAt.new w (askC p c o a b bx)
  have hbw := alloc_below w (.cells (askC p c o a b bx).cells 53)
  go_enter Tryz.func40, Tryz.ntmps40
  go_wp2_with (fail)
  generalize w.alloc (.cells (askC p c o a b bx).cells 53) = w0 at *
  refine wp_region_b [] (by kernel_rfl) (by kernel_rfl) ?_
  intro E _ hE hI
  have b1 : ∀ w' : InD E, w'.val.cell? ⟨nb, 3, none⟩ = some (.slice (some ⟨r, 0, none⟩) 1 rap) := fun w' => stays (hE w') (stays hbw r1)
  have b2 : ∀ w' : InD E, w'.val.cell? ⟨r, 0, none⟩ = some (.pointer (some ⟨rb, 0, none⟩)) := fun w' => stays (hE w') (stays hbw r2)
  have b3 : ∀ w' : InD E, w'.val.cell? ⟨w.heap.size, 1, none⟩ = some (.int .i64 0) := fun w' => stays (hE w') m0.hub
  repeat (refine wpX_step (fun K hK => ?_); go_simp; refine hK _ _ ?_; clear hK K)
  refine wpX_nil ?_
  intro w1 hw1
  have hb1 : Below w0.heap.size w0 w1 := hE ⟨w1, hw1⟩
  have m1 : MsgAt w1 w.heap.size (askC p c o a b bx) := .of (holds hb1 hx)
  have q14 : w1.cell? ⟨w.heap.size, 14, none⟩ = some (.int .u32 a) := m1.lo
  clear b1 b2 b3 hI m0 r1 r2
  have hbw1 := below_trans hbw hb1
  have hx1 := holds hb1 hx
  clear hE hb1 hx hbw m1
  go_wp2_with (first | ((with_reducible apply wpList_buildT 53 (answerM c o a b).cells); exact built_answer _ _ _ _ _) | (go_at_call 13; refine (HO.out _ hbw1).mono ?_; rintro en w2 ⟨rfl, hb2⟩; have hx2 := holds hb2 hx1; have hz2 : w.heap.size < w2.heap.size := (Array.getElem?_eq_some_iff.1 hx2).1; have m2 : MsgAt w2 w.heap.size (askC p c o a b bx) := .of hx2; have hbw2 := below_trans hbw1 hb2; have q2 : w2.cell? ⟨w.heap.size, 2, none⟩ = some (.int .u32 p) := m2.point; have q14' : w2.cell? ⟨w.heap.size, 14, none⟩ = some (.int .u32 a) := m2.lo; have q15 : w2.cell? ⟨w.heap.size, 15, none⟩ = some (.int .u32 b) := m2.hi; clear m2 hx1 hb2) | (go_at_call 89; refine (HF.out _).mono ?_; rintro en w3 ⟨rfl, rfl⟩) | (go_at_call 90; refine (HZ.out _).mono ?_; rintro en w4 ⟨rfl, hb4⟩; have hx4 := holds (below_trans (alloc_below _ _) hb4) hx2; have hbw4 := below_trans hbw2 (below_trans (alloc_below _ _) hb4); have p4 := holds hb4 (heap1 _ _); have m4 : MsgAt w4 w.heap.size (askC p c o a b bx) := .of hx4; have r2 : w4.cell? ⟨w.heap.size, 2, none⟩ = some (.int .u32 p) := m4.point; have r3 : w4.cell? ⟨w.heap.size, 3, none⟩ = some (.int .i64 c) := m4.client; have r4 : w4.cell? ⟨w.heap.size, 4, none⟩ = some (.int .i64 o) := m4.op; have r1 : w4.cell? ⟨w.heap.size, 1, none⟩ = some (.int .i64 0) := m4.hub; have u0 : w4.cell? ⟨w2.heap.size, 0, none⟩ = some (.int .u32 a) := cellOf p4 0; have u1 : w4.cell? ⟨w2.heap.size, 1, none⟩ = some (.int .u32 b) := cellOf p4 1; clear m4) | ((with_reducible apply wpList_storeT 53 (.agg (answerM c o a b).cells)); rfl; rfl; exact msg_storeM _ _ _ rfl rfl rfl rfl))
  generalize hw5 : w4.alloc (.cells (answerM c o a b).cells 53) = w5
  have hb5 : Below w4.heap.size w4 w5 := by rw [← hw5]; exact alloc_below _ _
  have hbw5 := below_trans hbw4 hb5
  have y5 : w5.heap[w4.heap.size]? = some (.cells (answerM c o a b).cells 53 (0, 0)) := by rw [← hw5]; exact heap1 _ _
  have m5 : MsgAt w5 w.heap.size (askC p c o a b bx) := .of (holds hb5 hx4)
  have p5 := holds hb5 p4
  clear r1 r2 r3 r4 u0 u1 q2 q14' q15 hx2 hbw2 hb4 hx4 hbw4 p4 hb5 hw5
  refine wp_region_b [10] (by kernel_rfl) (by kernel_rfl) ?_
  intro E _ hE hI
  have b1 : ∀ w' : InD E, w'.val.cell? ⟨nb, 2, none⟩ = some (.slice (some ⟨g, 0, none⟩) 1 cap) := fun w' => stays (hE w') (stays hbw5 g1)
  have b2 : ∀ w' : InD E, w'.val.cell? ⟨g, 0, none⟩ = some (.pointer (some ⟨hb, 0, none⟩)) := fun w' => stays (hE w') (stays hbw5 g2)
  have b3 : ∀ w' : InD E, w'.val.cell? ⟨w.heap.size, 1, none⟩ = some (.int .i64 0) := fun w' => stays (hE w') m5.hub
  have b4 : ∀ w' : InD E, w'.val.cell? ⟨w.heap.size, 2, none⟩ = some (.int .u32 p) := fun w' => stays (hE w') m5.point
  repeat (refine wpX_step (fun K hK => ?_); go_simp; refine hK _ _ ?_; clear hK K)
  refine wpX_step (fun K hK => ?_); go_simp
  refine ⟨fun u w' => u = .slice none 0 0 ∧ E w', fun w' hw' => (HS.out _ (below_trans hbw5 (hE ⟨w', hw'⟩))).mono fun en w'' ⟨he, hb'⟩ => ⟨_, he, rfl, hI _ (below_trans (hE ⟨w', hw'⟩) hb')⟩, fun u w h => h.2, ?_⟩
  rintro u y ⟨rfl, _⟩
  refine hK _ _ ?_; clear hK K
  repeat (refine wpX_step (fun K hK => ?_); go_simp; refine hK _ _ ?_; clear hK K)
  refine wpX_nil ?_
  intro w6 hw6
  have hb6 : Below w5.heap.size w5 w6 := hE ⟨w6, hw6⟩
  have hbw6 := below_trans hbw5 hb6
  have y6 := holds hb6 y5
  have hld := hid (msg_load y6 (Msg.size _))
  have p6 := holds hb6 p5
  have t0 : w6.cell? ⟨w2.heap.size, 0, none⟩ = some (.int .u32 a) := cellOf p6 0
  have t1 : w6.cell? ⟨w2.heap.size, 1, none⟩ = some (.int .u32 b) := cellOf p6 1
  have t14 : w6.cell? ⟨w.heap.size, 14, none⟩ = some (.int .u32 a) := stays hb6 m5.lo
  have t15 : w6.cell? ⟨w.heap.size, 15, none⟩ = some (.int .u32 b) := stays hb6 m5.hi
  have z6 : w.heap.size < w6.heap.size := cell_lt t14
  have z6' : w2.heap.size < w6.heap.size := cell_lt t0
  clear b1 b2 b3 b4 hE hI hb6 hw6 m5 p5 y5 p6
  go_wp2
  refine wp_loop_once ?_
  go_wp2_with (first | ((with_reducible apply wpList_loadT 53); rfl; exact hld.out) | ((with_reducible apply wpList_buildSliceT 44 (.agg (answerM c o a b).cells)); rfl; exact buildSlice_msg _ _))
  refine bodyPost_ret (v := .tuple #[.slice (some ⟨w6.heap.size, 0, none⟩) 1 1, .int .i64 0]) (by simp only [results, Tryz.results40]; go_simp) rfl ⟨_, rfl, heap1 _ _, below_trans hbw6 (alloc_below _ _)⟩
end Go.Proofs.YtdllibalmjadhaaGreat
