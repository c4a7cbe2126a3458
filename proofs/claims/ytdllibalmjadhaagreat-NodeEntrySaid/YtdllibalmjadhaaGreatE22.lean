/- What a node of a hub without entries answers, and asks. -/
import Derived.Test.YtdllibalmjadhaaGreatE21
import Derived.ArgAppend

namespace Go.Proofs.YtdllibalmjadhaaGreat
open Go Go.RowKit

theorem below_grown {w w' : World} (h : w.grownBy w' none) : Below w.heap.size w w' := ⟨h.os, h.tape, h.output, h.size, fun k hk => h.block k hk (by simp)⟩
theorem set_same {w : World} {b : Nat} {cs : Array Value} {T : TypeId} {fz : Nat × Nat} (h : w.heap[b]? = some (.cells cs T fz)) (i : Nat) (v : Value) : (w.setCell ⟨b, i, none⟩ v).heap[b]? = some (.cells (cs.setIfInBounds i v) T fz) := by
  simp [World.setCell, Array.getElem?_modify, h]
theorem set_other {w : World} {b k : Nat} (h : k ≠ b) (i : Nat) (v : Value) : (w.setCell ⟨b, i, none⟩ v).heap[k]? = w.heap[k]? := Below.heap_setCell _ _ _ _ h
def BoxLike (v : Value) : Prop := ∃ s n c, v = .slice s n c

set_option maxHeartbeats 1000000 in
set_option maxRecDepth 100000 in
theorem ask_two (nb hb rb : Nat) (turn : Int) (p : Nat) (c o : Int) (a b f s : Nat) (bx : Value) (w : World) (h : NodesAt w nb hb rb turn) (d1 : ((f : Int) != 0) = true) (d2 : decide (IntKind.u64.wrap (f : Int) < (s : Int)) = true) (d3 : ¬ (p : Int) = (b : Int)) (nx : Nat)
    (ho : ∀ w', Below w.heap.size w w' → Calls Tryz.prog 13 #[.pointer (some ⟨rb, 0, none⟩), .int .u32 (((a : Int) + 1) % 4294967296)] w' fun en w'' => en = .returned (.tuple #[.int .u32 p, .bool true]) ∧ Below w'.heap.size w' w'')
    (hn : ∀ w', Below w.heap.size w w' → Calls Tryz.prog 41 #[.pointer (some ⟨rb, 0, none⟩), .int .u32 p] w' fun en w'' => en = .returned (.tuple #[.int .u32 nx, .bool true]) ∧ Below w'.heap.size w' w'')
    (hcl : ∀ w', Below w.heap.size w w' → Calls Tryz.prog 93 #[bx] w' fun en w'' => (∃ bx', en = .returned bx' ∧ bx'.oneCell' = true ∧ BoxLike bx') ∧ Below w'.heap.size w' w'')
    (hf : ∀ w', Calls Tryz.prog 89 #[.int .u32 a, .int .u32 p] w' fun en w'' => en = .returned (.int .u32 f) ∧ w' = w'')
    (hsz : ∀ w', Calls Tryz.prog 90 #[.agg #[.int .u32 a, .int .u32 b]] w' fun en w'' => en = .returned (.int .u64 s) ∧ Below w'.heap.size w' w'')
    (hs : ∀ w', Below w.heap.size w w' → Calls Tryz.prog 44 #[.pointer (some ⟨hb, 0, none⟩), .int .u32 p] w' fun en w'' => en = .returned (.slice none 0 0) ∧ Below w'.heap.size w' w'') :
    Calls Tryz.prog 40 #[.pointer (some ⟨nb, 0, none⟩), .agg (askC p c o a b bx).cells] w fun en w' => (∃ x k, en = .returned (.tuple #[.slice x 2 k, .int .i64 0])) ∧ Below w.heap.size w w' := by
  obtain ⟨g, cap, g1, g2⟩ := h.hubs
  obtain ⟨r, rap, r1, r2⟩ := h.rings
  have HO := hid ho
  have HF := hid hf
  have HZ := hid hsz
  have HS := hid hs
  have HN := hid hn
  have HC := hid hcl
  clear ho hs hf hsz hn hcl h
  have hx := heap1 w (.cells (askC p c o a b bx).cells 53)
  have m0 := MsgAt.new w (askC p c o a b bx)
  have hbw := alloc_below w (.cells (askC p c o a b bx).cells 53)
  go_enter Tryz.func40, Tryz.ntmps40
  go_wp2_with (fail)
  generalize w.alloc (.cells (askC p c o a b bx).cells 53) = w0 at *
  refine wp_region_b [] (by kernel_rfl) (by kernel_rfl) ?_
  intro E _ hE hI
  have b1 : ∀ w' : InD E, w'.val.cell? ⟨nb, 3, none⟩ = some (.slice (some ⟨r, 0, none⟩) 1 rap) := fun w' => stays (hE w') (stays hbw r1)
  have b2 : ∀ w' : InD E, w'.val.cell? ⟨r, 0, none⟩ = some (.pointer (some ⟨rb, 0, none⟩)) := fun w' => stays (hE w') (stays hbw r2)
  have b3 : ∀ w' : InD E, w'.val.cell? ⟨w.heap.size, 1, none⟩ = some (.int .i64 0) := fun w' => stays (hE w') m0.hub
  repeat (refine wpX_step (fun K hK => ?_); go_simp; refine hK _ _ ?_; clear hK K)
  refine wpX_nil ?_
  intro w1 hw1
  have hb1 : Below w0.heap.size w0 w1 := hE ⟨w1, hw1⟩
  have m1 : MsgAt w1 w.heap.size (askC p c o a b bx) := .of (holds hb1 hx)
  have q14 : w1.cell? ⟨w.heap.size, 14, none⟩ = some (.int .u32 a) := m1.lo
  clear b1 b2 b3 hI m0 r1 r2
  have hbw1 := below_trans hbw hb1
  have hx1 := holds hb1 hx
  clear hE hb1 hx hbw m1
  go_wp2_with (first | ((with_reducible apply wpList_buildT 53 (answerM c o a p).cells); exact built_answer _ _ _ _ _) | (go_at_call 13; refine (HO.out _ hbw1).mono ?_; rintro en w2 ⟨rfl, hb2⟩; have hx2 := holds hb2 hx1; have hz2 : w.heap.size < w2.heap.size := (Array.getElem?_eq_some_iff.1 hx2).1; have m2 : MsgAt w2 w.heap.size (askC p c o a b bx) := .of hx2; have hbw2 := below_trans hbw1 hb2; have q2 : w2.cell? ⟨w.heap.size, 2, none⟩ = some (.int .u32 p) := m2.point; have q14' : w2.cell? ⟨w.heap.size, 14, none⟩ = some (.int .u32 a) := m2.lo; have q15 : w2.cell? ⟨w.heap.size, 15, none⟩ = some (.int .u32 b) := m2.hi; clear m2 hx1 hb2) | (go_at_call 89; refine (HF.out _).mono ?_; rintro en w3 ⟨rfl, rfl⟩) | (go_at_call 90; refine (HZ.out _).mono ?_; rintro en w4 ⟨rfl, hb4⟩; have hx4 := holds (below_trans (alloc_below _ _) hb4) hx2; have hbw4 := below_trans hbw2 (below_trans (alloc_below _ _) hb4); have p4 := holds hb4 (heap1 _ _); have m4 : MsgAt w4 w.heap.size (askC p c o a b bx) := .of hx4; have r2 : w4.cell? ⟨w.heap.size, 2, none⟩ = some (.int .u32 p) := m4.point; have r3 : w4.cell? ⟨w.heap.size, 3, none⟩ = some (.int .i64 c) := m4.client; have r4 : w4.cell? ⟨w.heap.size, 4, none⟩ = some (.int .i64 o) := m4.op; have r1 : w4.cell? ⟨w.heap.size, 1, none⟩ = some (.int .i64 0) := m4.hub; have u0 : w4.cell? ⟨w2.heap.size, 0, none⟩ = some (.int .u32 a) := cellOf p4 0; have u1 : w4.cell? ⟨w2.heap.size, 1, none⟩ = some (.int .u32 b) := cellOf p4 1; have u2 : w4.frozen? ⟨w2.heap.size, 1, none⟩ = false := frozenOf p4 1; clear m4) | ((with_reducible apply wpList_storeT 53 (.agg (answerM c o a p).cells)); rfl; rfl; exact msg_storeB _ _ (by simp) _ _ rfl rfl rfl rfl))
  have hlt2 : w.heap.size ≠ w2.heap.size := Nat.ne_of_lt hz2
  have hx4' : (w4.setCell ⟨w2.heap.size, 1, none⟩ (.int .u32 p)).heap[w.heap.size]? = some (.cells (askC p c o a b bx).cells 53 (0, 0)) := by rw [set_other hlt2]; exact hx4
  have p4' : (w4.setCell ⟨w2.heap.size, 1, none⟩ (.int .u32 p)).heap[w2.heap.size]? = some (.cells #[.int .u32 a, .int .u32 p] 50 (0, 0)) := set_same p4 1 _
  have hbw4' : Below w.heap.size w (w4.setCell ⟨w2.heap.size, 1, none⟩ (.int .u32 p)) := hbw4.setCell (Nat.le_of_lt hz2) _
  have hsz4 : (w4.setCell ⟨w2.heap.size, 1, none⟩ (.int .u32 p)).heap.size = w4.heap.size := by simp
  generalize w4.setCell ⟨w2.heap.size, 1, none⟩ (.int .u32 p) = w4' at *
  generalize hw5 : w4'.alloc (.cells (answerM c o a p).cells 53) = w5
  have hb5 : Below w4'.heap.size w4' w5 := by rw [← hw5]; exact alloc_below _ _
  have hbw5 := below_trans hbw4' hb5
  have y5 : w5.heap[w4.heap.size]? = some (.cells (answerM c o a p).cells 53 (0, 0)) := by rw [← hw5, ← hsz4]; exact heap1 _ _
  have h5 := holds hb5 hx4'
  have m5 : MsgAt w5 w.heap.size (askC p c o a b bx) := .of h5
  have p5 := holds hb5 p4'
  clear r1 r2 r3 r4 u0 u1 u2 q2 q14' q15 hx2 hbw2 hb4 hx4 hbw4 p4 hb5 hw5 hx4' p4' hbw4' hlt2 hsz4
  refine wp_region_b [10] (by kernel_rfl) (by kernel_rfl) ?_
  intro E _ hE hI
  have b1 : ∀ w' : InD E, w'.val.cell? ⟨nb, 2, none⟩ = some (.slice (some ⟨g, 0, none⟩) 1 cap) := fun w' => stays (hE w') (stays hbw5 g1)
  have b2 : ∀ w' : InD E, w'.val.cell? ⟨g, 0, none⟩ = some (.pointer (some ⟨hb, 0, none⟩)) := fun w' => stays (hE w') (stays hbw5 g2)
  have b3 : ∀ w' : InD E, w'.val.cell? ⟨w.heap.size, 1, none⟩ = some (.int .i64 0) := fun w' => stays (hE w') m5.hub
  have b4 : ∀ w' : InD E, w'.val.cell? ⟨w.heap.size, 2, none⟩ = some (.int .u32 p) := fun w' => stays (hE w') m5.point
  repeat (refine wpX_step (fun K hK => ?_); go_simp; refine hK _ _ ?_; clear hK K)
  refine wpX_step (fun K hK => ?_); go_simp
  refine ⟨fun u w' => u = .slice none 0 0 ∧ E w', fun w' hw' => (HS.out _ (below_trans hbw5 (hE ⟨w', hw'⟩))).mono fun en w'' ⟨he, hb'⟩ => ⟨_, he, rfl, hI _ (below_trans (hE ⟨w', hw'⟩) hb')⟩, fun u w h => h.2, ?_⟩
  rintro u y ⟨rfl, _⟩
  refine hK _ _ ?_; clear hK K
  repeat (refine wpX_step (fun K hK => ?_); go_simp; refine hK _ _ ?_; clear hK K)
  refine wpX_nil ?_
  intro w6 hw6
  have hb6 : Below w5.heap.size w5 w6 := hE ⟨w6, hw6⟩
  have hbw6 := below_trans hbw5 hb6
  have y6 := holds hb6 y5
  have hld := hid (msg_load y6 (Msg.size _))
  have p6 := holds hb6 p5
  have t0 : w6.cell? ⟨w2.heap.size, 0, none⟩ = some (.int .u32 a) := cellOf p6 0
  have t1 : w6.cell? ⟨w2.heap.size, 1, none⟩ = some (.int .u32 p) := cellOf p6 1
  have t14 : w6.cell? ⟨w.heap.size, 14, none⟩ = some (.int .u32 a) := stays hb6 m5.lo
  have t15 : w6.cell? ⟨w.heap.size, 15, none⟩ = some (.int .u32 b) := stays hb6 m5.hi
  have t2 : w6.cell? ⟨w.heap.size, 2, none⟩ = some (.int .u32 p) := stays hb6 m5.point
  have h6 : w6.heap[w.heap.size]? = some (.cells (askC p c o a b bx).cells 53 (0, 0)) := holds hb6 h5
  have z6 : w.heap.size < w6.heap.size := cell_lt t14
  have z6' : w2.heap.size < w6.heap.size := cell_lt t0
  clear b1 b2 b3 b4 hE hI hb6 hw6 m5 p5 y5 h5
  go_wp2
  refine wp_loop_once ?_
  go_wp2_with (first | ((with_reducible apply wpList_loadT 53); rfl; exact hld.out) | ((with_reducible apply wpList_buildSliceT 44 (.agg (answerM c o a p).cells)); rfl; exact buildSlice_msg _ _) | (go_at_call 41; refine (HN.out _ (below_trans hbw6 (alloc_below _ _))).mono ?_; rintro en w7 ⟨rfl, hb7⟩))
  have hbw7 := below_trans (below_trans hbw6 (alloc_below _ _)) hb7
  have h7 := holds (below_trans (alloc_below _ _) hb7) h6
  have p7 := holds (below_trans (alloc_below _ _) hb7) p6
  have y7 := holds hb7 (heap1 _ _)
  have m7 : MsgAt w7 w.heap.size (askC p c o a b bx) := .of h7
  have HL := hid y7
  generalize w6.heap.size = yb at *
  clear t0 t1 t2 t14 t15 h6 p6 z6 z6' y6 hbw6 hb7 y7
  refine wp_region_b [16, 18, 19] (by kernel_rfl) (by kernel_rfl) ?_
  intro E _ hE hI
  have b1 : ∀ w' : InD E, w'.val.cell? ⟨w.heap.size, 1, none⟩ = some (.int .i64 0) := fun w' => stays (hE w') m7.hub
  have b3 : ∀ w' : InD E, w'.val.cell? ⟨w.heap.size, 3, none⟩ = some (.int .i64 c) := fun w' => stays (hE w') m7.client
  have b4 : ∀ w' : InD E, w'.val.cell? ⟨w.heap.size, 4, none⟩ = some (.int .i64 o) := fun w' => stays (hE w') m7.op
  have b15 : ∀ w' : InD E, w'.val.cell? ⟨w.heap.size, 15, none⟩ = some (.int .u32 b) := fun w' => stays (hE w') m7.hi
  have b16 : ∀ w' : InD E, w'.val.cell? ⟨w.heap.size, 16, none⟩ = some bx := fun w' => stays (hE w') m7.box
  have c1 : ∀ w' : InD E, w'.val.cell? ⟨w2.heap.size, 1, none⟩ = some (.int .u32 p) := fun w' => cellOf (holds (hE w') p7) 1
  repeat (refine wpX_step (fun K hK => ?_); go_simp; refine hK _ _ ?_; clear hK K)
  refine wpX_step (fun K hK => ?_); go_simp
  refine ⟨fun u w' => BoxLike u ∧ E w', fun w' hw' => (HC.out _ (below_trans hbw7 (hE ⟨w', hw'⟩))).mono fun en w'' ⟨⟨bx', he, h1, h2⟩, hb'⟩ => ⟨_, he, h2, hI _ (below_trans (hE ⟨w', hw'⟩) hb')⟩, fun u w h => h.2, ?_⟩
  rintro u y ⟨⟨sa, sn, sc, rfl⟩, _⟩
  refine hK _ _ ?_; clear hK K
  refine wpX_plainT (.agg (askC nx c o p b (.slice sa sn sc)).cells) rfl rfl (fun w' => exec_build _ _ _ _ _ _ rfl (built_ask _ _ _ _ _ _ _ _ _)) ?_
  refine wpX_val rfl rfl (fun u w' => ∃ x, u = .slice (some ⟨x, 0, none⟩) 1 1 ∧ w'.heap[x]? = some (.cells (askC nx c o p b (.slice sa sn sc)).cells 53 (0, 0)) ∧ E w') (fun w' hw' => ?_) (fun u w' h => ?_) ?_
  · exact ⟨_, _, exec_buildSlice1 _ _ _ _ _ rfl (buildSlice_msg _ (askC nx c o p b (.slice sa sn sc))), ⟨_, rfl, heap1 _ _, hI _ (below_trans (hE ⟨w', hw'.2⟩) (alloc_below _ _))⟩⟩
  · obtain ⟨_, _, _, h⟩ := h; exact h
  rintro u ⟨_, x, rfl, _⟩
  obtain ⟨i, hi, hz0, hz1, hz2⟩ := info_parts info_msg
  refine wpX_val rfl rfl (fun u w' => (∃ z k, u = .slice z 2 k) ∧ E w') (fun w' hw' => ?_) (fun u w' h => h.2) ?_
  · obtain ⟨x', hx', hxc, hw'⟩ := hw'
    cases hx'
    obtain ⟨v', w'', hap, hown, hgr⟩ := run_append_arg_grows (P := Tryz.prog) (w := w') 44 44 53 i _ 18 184 Tryz.underlying44 hi hz0 hz1 hz2 (Msg.size _) (by decide) ⟨yb, 0, none⟩ 1 1 (answerM c o a p).cells.toList (by simp [Msg.size]) (rowCells (holds (hE ⟨w', hw'⟩) HL.out)) ⟨x, 0, none⟩ 1 1 (askC nx c o p b (.slice sa sn sc)).cells.toList (by simp [Msg.size]) (rowCells hxc) (by decide) (by unfold maxLen; omega) (by omega)
    obtain ⟨z, k, hv⟩ : ∃ z k, v' = .slice z 2 k := by
      rcases hown.2 with h0 | ⟨g, k, _, h0, _⟩
      · exact absurd h0.2 (by decide)
      · exact ⟨_, _, h0⟩
    exact ⟨_, _, exec_builtin2 _ _ _ .append _ _ _ Builtin.append_ (fun _ _ => rfl) rfl rfl rfl hap, ⟨⟨z, k, hv⟩, hI _ (below_trans (hE ⟨w', hw'⟩) (below_grown hgr))⟩⟩
  rintro u ⟨_, ⟨z, k, rfl⟩, _⟩
  repeat (refine wpX_step (fun K hK => ?_); go_simp; refine hK _ _ ?_; clear hK K)
  refine wpX_nil ?_
  rintro w9 hw9'
  have hw9 : E w9 := by first | exact hw9' | exact hw9'.2
  have hbw9 : Below w.heap.size w w9 := below_trans hbw7 (hE ⟨w9, hw9⟩)
  clear b1 b3 b4 b15 b16 c1 hI hi hz0 hz1 hz2
  go_wp2
  refine bodyPost_ret (v := .tuple #[.slice z 2 k, .int .i64 0]) (by simp only [results, Tryz.results40]; go_simp) rfl ⟨⟨z, k, rfl⟩, hbw9⟩
end Go.Proofs.YtdllibalmjadhaaGreat
