/- Do, of messages that are right and go to a node that is alive: what is called. -/
import Derived.Test.YtdllibalmjadhaaGreatE26

namespace Go.Proofs.YtdllibalmjadhaaGreat
open Go Go.RowKit

set_option maxHeartbeats 1000000 in
set_option maxRecDepth 100000 in
theorem do_store (nb hb rb : Nat) (turn : Int) (m : Msg) (hk : m.kind = 1) (hh : m.hub = 0) (w : World) (h : NodesAt w nb hb rb turn) (post : Ending → World → Prop)
    (hr : ∀ w', Below w.heap.size w w' → Calls Tryz.prog 36 #[.int .i64 1, .agg m.cells] w' fun en w'' => en = .returned (.bool true) ∧ Below w'.heap.size w' w'')
    (ha : ∀ w', Below w.heap.size w w' → Calls Tryz.prog 25 #[.pointer (some ⟨hb, 0, none⟩), .int .u32 m.point] w' fun en w'' => en = .returned (.bool true) ∧ w' = w'')
    (hq : ∀ w', Below w.heap.size w w' → Calls Tryz.prog 37 #[.pointer (some ⟨nb, 0, none⟩), .agg m.cells] w' fun en w'' => ∃ l e, en = .returned (.tuple #[l, e]) ∧ post (.returned (.tuple #[l, e])) w'') :
    Calls Tryz.prog 14 #[.pointer (some ⟨nb, 0, none⟩), .agg m.cells] w post := by
  have h0 := h.attrs
  obtain ⟨g, cap, g1, g2⟩ := h.hubs
  have HR := hid hr
  have HA := hid ha
  have HQ := hid hq
  have HK := hid hk
  have HH := hid hh
  clear hr ha h hq hk hh
  go_enter Tryz.func14, Tryz.ntmps14
  go_wp2_with (fail)
  have hx := heap1 w (.cells m.cells 53)
  have hbx := alloc_below w (.cells m.cells 53)
  generalize w.alloc (.cells m.cells 53) = w0 at *
  refine wp_region_b [5] (by kernel_rfl) (by kernel_rfl) ?_
  intro E _ hE hI
  have a1 : ∀ w' : InD E, w'.val.cell? ⟨nb, 0, none⟩ = some (.int .i64 1) := fun w' => stays (hE w') (stays hbx h0)
  have hld := hid fun w' : InD E => msg_load (holds (hE w') hx) m.size
  repeat (refine wpX_step (fun K hK => ?_); go_simp; refine hK _ _ ?_; clear hK K)
  refine wpX_load 53 _ rfl rfl rfl hld.out ?_
  repeat (refine wpX_step (fun K hK => ?_); go_simp; refine hK _ _ ?_; clear hK K)
  refine wpX_step (fun K hK => ?_); go_simp
  refine ⟨fun u w' => u = .bool true ∧ E w', fun w' hw' => (HR.out w' (below_trans hbx (hE ⟨w', hw'⟩))).mono fun en w'' ⟨he, hb'⟩ => ⟨_, he, rfl, hI _ (below_trans (hE ⟨w', hw'⟩) hb')⟩, fun u w h => h.2, ?_⟩
  rintro u y ⟨rfl, _⟩
  refine hK _ _ ?_; clear hK K
  repeat (refine wpX_step (fun K hK => ?_); go_simp; refine hK _ _ ?_; clear hK K)
  refine wpX_nil ?_
  intro w1 hw1
  have hb1 : Below w0.heap.size w0 w1 := hE ⟨w1, hw1⟩
  have hbw := below_trans hbx hb1
  have hx1 := holds hb1 hx
  have c0 : w1.cell? ⟨w.heap.size, 0, none⟩ = some (.int .i64 1) := by rw [← HK.out]; exact (MsgAt.of hx1).kind
  clear a1 hld hI hE hb1 hx hbx
  go_wp2_with (fail)
  refine wp_region_b [10] (by kernel_rfl) (by kernel_rfl) ?_
  intro E2 _ hE2 hI2
  have b1 : ∀ w' : InD E2, w'.val.cell? ⟨nb, 2, none⟩ = some (.slice (some ⟨g, 0, none⟩) 1 cap) := fun w' => stays (hE2 w') (stays hbw g1)
  have b2 : ∀ w' : InD E2, w'.val.cell? ⟨g, 0, none⟩ = some (.pointer (some ⟨hb, 0, none⟩)) := fun w' => stays (hE2 w') (stays hbw g2)
  have b3 : ∀ w' : InD E2, w'.val.cell? ⟨w.heap.size, 1, none⟩ = some (.int .i64 0) := fun w' => by rw [← HH.out]; exact (MsgAt.of (holds (hE2 w') hx1)).hub
  have b4 : ∀ w' : InD E2, w'.val.cell? ⟨w.heap.size, 2, none⟩ = some (.int .u32 m.point) := fun w' => (MsgAt.of (holds (hE2 w') hx1)).point
  repeat (refine wpX_step (fun K hK => ?_); go_simp; refine hK _ _ ?_; clear hK K)
  refine wpX_step (fun K hK => ?_); go_simp
  refine ⟨fun u w' => u = .bool true ∧ E2 w', fun w' hw' => (HA.out w' (below_trans hbw (hE2 ⟨w', hw'⟩))).mono fun en w'' ⟨he, hb'⟩ => ⟨_, he, rfl, hb' ▸ hw'⟩, fun u w h => h.2, ?_⟩
  rintro u y ⟨rfl, _⟩
  refine hK _ _ ?_; clear hK K
  repeat (refine wpX_step (fun K hK => ?_); go_simp; refine hK _ _ ?_; clear hK K)
  refine wpX_nil ?_
  intro w2 hw2
  have hb2 : Below w1.heap.size w1 w2 := hE2 ⟨w2, hw2⟩
  have hbw2 := below_trans hbw hb2
  have hx2 := holds hb2 hx1
  have c2 : w2.cell? ⟨w.heap.size, 0, none⟩ = some (.int .i64 1) := by rw [← HK.out]; exact (MsgAt.of hx2).kind
  have hld := hid (msg_load hx2 m.size)
  have HQ2 := hid (HQ.out w2 hbw2)
  clear hI2 hE2 b1 b2 b3 b4 hb2 hx2 hx1
  go_wp2_with (first | ((with_reducible apply wpList_loadT 53); rfl; exact hld.out) | (go_at_call 37; refine HQ2.out.mono ?_; rintro en w3 ⟨l, e, rfl, hp⟩))
  exact hp

set_option maxHeartbeats 1000000 in
set_option maxRecDepth 100000 in
theorem do_copy (nb hb rb : Nat) (turn : Int) (m : Msg) (hk : m.kind = 2) (hh : m.hub = 0) (w : World) (h : NodesAt w nb hb rb turn) (post : Ending → World → Prop)
    (hr : ∀ w', Below w.heap.size w w' → Calls Tryz.prog 36 #[.int .i64 1, .agg m.cells] w' fun en w'' => en = .returned (.bool true) ∧ Below w'.heap.size w' w'')
    (ha : ∀ w', Below w.heap.size w w' → Calls Tryz.prog 25 #[.pointer (some ⟨hb, 0, none⟩), .int .u32 m.point] w' fun en w'' => en = .returned (.bool true) ∧ w' = w'')
    (hq : ∀ w', Below w.heap.size w w' → Calls Tryz.prog 38 #[.pointer (some ⟨nb, 0, none⟩), .agg m.cells] w' fun en w'' => ∃ l e, en = .returned (.tuple #[l, e]) ∧ post (.returned (.tuple #[l, e])) w'') :
    Calls Tryz.prog 14 #[.pointer (some ⟨nb, 0, none⟩), .agg m.cells] w post := by
  have h0 := h.attrs
  obtain ⟨g, cap, g1, g2⟩ := h.hubs
  have HR := hid hr
  have HA := hid ha
  have HQ := hid hq
  have HK := hid hk
  have HH := hid hh
  clear hr ha h hq hk hh
  go_enter Tryz.func14, Tryz.ntmps14
  go_wp2_with (fail)
  have hx := heap1 w (.cells m.cells 53)
  have hbx := alloc_below w (.cells m.cells 53)
  generalize w.alloc (.cells m.cells 53) = w0 at *
  refine wp_region_b [5] (by kernel_rfl) (by kernel_rfl) ?_
  intro E _ hE hI
  have a1 : ∀ w' : InD E, w'.val.cell? ⟨nb, 0, none⟩ = some (.int .i64 1) := fun w' => stays (hE w') (stays hbx h0)
  have hld := hid fun w' : InD E => msg_load (holds (hE w') hx) m.size
  repeat (refine wpX_step (fun K hK => ?_); go_simp; refine hK _ _ ?_; clear hK K)
  refine wpX_load 53 _ rfl rfl rfl hld.out ?_
  repeat (refine wpX_step (fun K hK => ?_); go_simp; refine hK _ _ ?_; clear hK K)
  refine wpX_step (fun K hK => ?_); go_simp
  refine ⟨fun u w' => u = .bool true ∧ E w', fun w' hw' => (HR.out w' (below_trans hbx (hE ⟨w', hw'⟩))).mono fun en w'' ⟨he, hb'⟩ => ⟨_, he, rfl, hI _ (below_trans (hE ⟨w', hw'⟩) hb')⟩, fun u w h => h.2, ?_⟩
  rintro u y ⟨rfl, _⟩
  refine hK _ _ ?_; clear hK K
  repeat (refine wpX_step (fun K hK => ?_); go_simp; refine hK _ _ ?_; clear hK K)
  refine wpX_nil ?_
  intro w1 hw1
  have hb1 : Below w0.heap.size w0 w1 := hE ⟨w1, hw1⟩
  have hbw := below_trans hbx hb1
  have hx1 := holds hb1 hx
  have c0 : w1.cell? ⟨w.heap.size, 0, none⟩ = some (.int .i64 2) := by rw [← HK.out]; exact (MsgAt.of hx1).kind
  clear a1 hld hI hE hb1 hx hbx
  go_wp2_with (fail)
  refine wp_region_b [10] (by kernel_rfl) (by kernel_rfl) ?_
  intro E2 _ hE2 hI2
  have b1 : ∀ w' : InD E2, w'.val.cell? ⟨nb, 2, none⟩ = some (.slice (some ⟨g, 0, none⟩) 1 cap) := fun w' => stays (hE2 w') (stays hbw g1)
  have b2 : ∀ w' : InD E2, w'.val.cell? ⟨g, 0, none⟩ = some (.pointer (some ⟨hb, 0, none⟩)) := fun w' => stays (hE2 w') (stays hbw g2)
  have b3 : ∀ w' : InD E2, w'.val.cell? ⟨w.heap.size, 1, none⟩ = some (.int .i64 0) := fun w' => by rw [← HH.out]; exact (MsgAt.of (holds (hE2 w') hx1)).hub
  have b4 : ∀ w' : InD E2, w'.val.cell? ⟨w.heap.size, 2, none⟩ = some (.int .u32 m.point) := fun w' => (MsgAt.of (holds (hE2 w') hx1)).point
  repeat (refine wpX_step (fun K hK => ?_); go_simp; refine hK _ _ ?_; clear hK K)
  refine wpX_step (fun K hK => ?_); go_simp
  refine ⟨fun u w' => u = .bool true ∧ E2 w', fun w' hw' => (HA.out w' (below_trans hbw (hE2 ⟨w', hw'⟩))).mono fun en w'' ⟨he, hb'⟩ => ⟨_, he, rfl, hb' ▸ hw'⟩, fun u w h => h.2, ?_⟩
  rintro u y ⟨rfl, _⟩
  refine hK _ _ ?_; clear hK K
  repeat (refine wpX_step (fun K hK => ?_); go_simp; refine hK _ _ ?_; clear hK K)
  refine wpX_nil ?_
  intro w2 hw2
  have hb2 : Below w1.heap.size w1 w2 := hE2 ⟨w2, hw2⟩
  have hbw2 := below_trans hbw hb2
  have hx2 := holds hb2 hx1
  have c2 : w2.cell? ⟨w.heap.size, 0, none⟩ = some (.int .i64 2) := by rw [← HK.out]; exact (MsgAt.of hx2).kind
  have hld := hid (msg_load hx2 m.size)
  have HQ2 := hid (HQ.out w2 hbw2)
  clear hI2 hE2 b1 b2 b3 b4 hb2 hx2 hx1
  go_wp2_with (first | ((with_reducible apply wpList_loadT 53); rfl; exact hld.out) | (go_at_call 38; refine HQ2.out.mono ?_; rintro en w3 ⟨l, e, rfl, hp⟩))
  exact hp

set_option maxHeartbeats 1000000 in
set_option maxRecDepth 100000 in
theorem do_copied (nb hb rb : Nat) (turn : Int) (m : Msg) (hk : m.kind = 3) (hh : m.hub = 0) (w : World) (h : NodesAt w nb hb rb turn) (post : Ending → World → Prop)
    (hr : ∀ w', Below w.heap.size w w' → Calls Tryz.prog 36 #[.int .i64 1, .agg m.cells] w' fun en w'' => en = .returned (.bool true) ∧ Below w'.heap.size w' w'')
    (ha : ∀ w', Below w.heap.size w w' → Calls Tryz.prog 25 #[.pointer (some ⟨hb, 0, none⟩), .int .u32 m.point] w' fun en w'' => en = .returned (.bool true) ∧ w' = w'')
    (hq : ∀ w', Below w.heap.size w w' → Calls Tryz.prog 39 #[.pointer (some ⟨nb, 0, none⟩), .agg m.cells] w' fun en w'' => ∃ l e, en = .returned (.tuple #[l, e]) ∧ post (.returned (.tuple #[l, e])) w'') :
    Calls Tryz.prog 14 #[.pointer (some ⟨nb, 0, none⟩), .agg m.cells] w post := by
  have h0 := h.attrs
  obtain ⟨g, cap, g1, g2⟩ := h.hubs
  have HR := hid hr
  have HA := hid ha
  have HQ := hid hq
  have HK := hid hk
  have HH := hid hh
  clear hr ha h hq hk hh
  go_enter Tryz.func14, Tryz.ntmps14
  go_wp2_with (fail)
  have hx := heap1 w (.cells m.cells 53)
  have hbx := alloc_below w (.cells m.cells 53)
  generalize w.alloc (.cells m.cells 53) = w0 at *
  refine wp_region_b [5] (by kernel_rfl) (by kernel_rfl) ?_
  intro E _ hE hI
  have a1 : ∀ w' : InD E, w'.val.cell? ⟨nb, 0, none⟩ = some (.int .i64 1) := fun w' => stays (hE w') (stays hbx h0)
  have hld := hid fun w' : InD E => msg_load (holds (hE w') hx) m.size
  repeat (refine wpX_step (fun K hK => ?_); go_simp; refine hK _ _ ?_; clear hK K)
  refine wpX_load 53 _ rfl rfl rfl hld.out ?_
  repeat (refine wpX_step (fun K hK => ?_); go_simp; refine hK _ _ ?_; clear hK K)
  refine wpX_step (fun K hK => ?_); go_simp
  refine ⟨fun u w' => u = .bool true ∧ E w', fun w' hw' => (HR.out w' (below_trans hbx (hE ⟨w', hw'⟩))).mono fun en w'' ⟨he, hb'⟩ => ⟨_, he, rfl, hI _ (below_trans (hE ⟨w', hw'⟩) hb')⟩, fun u w h => h.2, ?_⟩
  rintro u y ⟨rfl, _⟩
  refine hK _ _ ?_; clear hK K
  repeat (refine wpX_step (fun K hK => ?_); go_simp; refine hK _ _ ?_; clear hK K)
  refine wpX_nil ?_
  intro w1 hw1
  have hb1 : Below w0.heap.size w0 w1 := hE ⟨w1, hw1⟩
  have hbw := below_trans hbx hb1
  have hx1 := holds hb1 hx
  have c0 : w1.cell? ⟨w.heap.size, 0, none⟩ = some (.int .i64 3) := by rw [← HK.out]; exact (MsgAt.of hx1).kind
  clear a1 hld hI hE hb1 hx hbx
  go_wp2_with (fail)
  refine wp_region_b [10] (by kernel_rfl) (by kernel_rfl) ?_
  intro E2 _ hE2 hI2
  have b1 : ∀ w' : InD E2, w'.val.cell? ⟨nb, 2, none⟩ = some (.slice (some ⟨g, 0, none⟩) 1 cap) := fun w' => stays (hE2 w') (stays hbw g1)
  have b2 : ∀ w' : InD E2, w'.val.cell? ⟨g, 0, none⟩ = some (.pointer (some ⟨hb, 0, none⟩)) := fun w' => stays (hE2 w') (stays hbw g2)
  have b3 : ∀ w' : InD E2, w'.val.cell? ⟨w.heap.size, 1, none⟩ = some (.int .i64 0) := fun w' => by rw [← HH.out]; exact (MsgAt.of (holds (hE2 w') hx1)).hub
  have b4 : ∀ w' : InD E2, w'.val.cell? ⟨w.heap.size, 2, none⟩ = some (.int .u32 m.point) := fun w' => (MsgAt.of (holds (hE2 w') hx1)).point
  repeat (refine wpX_step (fun K hK => ?_); go_simp; refine hK _ _ ?_; clear hK K)
  refine wpX_step (fun K hK => ?_); go_simp
  refine ⟨fun u w' => u = .bool true ∧ E2 w', fun w' hw' => (HA.out w' (below_trans hbw (hE2 ⟨w', hw'⟩))).mono fun en w'' ⟨he, hb'⟩ => ⟨_, he, rfl, hb' ▸ hw'⟩, fun u w h => h.2, ?_⟩
  rintro u y ⟨rfl, _⟩
  refine hK _ _ ?_; clear hK K
  repeat (refine wpX_step (fun K hK => ?_); go_simp; refine hK _ _ ?_; clear hK K)
  refine wpX_nil ?_
  intro w2 hw2
  have hb2 : Below w1.heap.size w1 w2 := hE2 ⟨w2, hw2⟩
  have hbw2 := below_trans hbw hb2
  have hx2 := holds hb2 hx1
  have c2 : w2.cell? ⟨w.heap.size, 0, none⟩ = some (.int .i64 3) := by rw [← HK.out]; exact (MsgAt.of hx2).kind
  have hld := hid (msg_load hx2 m.size)
  have HQ2 := hid (HQ.out w2 hbw2)
  clear hI2 hE2 b1 b2 b3 b4 hb2 hx2 hx1
  go_wp2_with (first | ((with_reducible apply wpList_loadT 53); rfl; exact hld.out) | (go_at_call 39; refine HQ2.out.mono ?_; rintro en w3 ⟨l, e, rfl, hp⟩))
  exact hp

set_option maxHeartbeats 1000000 in
set_option maxRecDepth 100000 in
theorem do_ask (nb hb rb : Nat) (turn : Int) (m : Msg) (hk : m.kind = 5) (hh : m.hub = 0) (w : World) (h : NodesAt w nb hb rb turn) (post : Ending → World → Prop)
    (hr : ∀ w', Below w.heap.size w w' → Calls Tryz.prog 36 #[.int .i64 1, .agg m.cells] w' fun en w'' => en = .returned (.bool true) ∧ Below w'.heap.size w' w'')
    (ha : ∀ w', Below w.heap.size w w' → Calls Tryz.prog 25 #[.pointer (some ⟨hb, 0, none⟩), .int .u32 m.point] w' fun en w'' => en = .returned (.bool true) ∧ w' = w'')
    (hq : ∀ w', Below w.heap.size w w' → Calls Tryz.prog 40 #[.pointer (some ⟨nb, 0, none⟩), .agg m.cells] w' fun en w'' => ∃ l e, en = .returned (.tuple #[l, e]) ∧ post (.returned (.tuple #[l, e])) w'') :
    Calls Tryz.prog 14 #[.pointer (some ⟨nb, 0, none⟩), .agg m.cells] w post := by
  have h0 := h.attrs
  obtain ⟨g, cap, g1, g2⟩ := h.hubs
  have HR := hid hr
  have HA := hid ha
  have HQ := hid hq
  have HK := hid hk
  have HH := hid hh
  clear hr ha h hq hk hh
  go_enter Tryz.func14, Tryz.ntmps14
  go_wp2_with (fail)
  have hx := heap1 w (.cells m.cells 53)
  have hbx := alloc_below w (.cells m.cells 53)
  generalize w.alloc (.cells m.cells 53) = w0 at *
  refine wp_region_b [5] (by kernel_rfl) (by kernel_rfl) ?_
  intro E _ hE hI
  have a1 : ∀ w' : InD E, w'.val.cell? ⟨nb, 0, none⟩ = some (.int .i64 1) := fun w' => stays (hE w') (stays hbx h0)
  have hld := hid fun w' : InD E => msg_load (holds (hE w') hx) m.size
  repeat (refine wpX_step (fun K hK => ?_); go_simp; refine hK _ _ ?_; clear hK K)
  refine wpX_load 53 _ rfl rfl rfl hld.out ?_
  repeat (refine wpX_step (fun K hK => ?_); go_simp; refine hK _ _ ?_; clear hK K)
  refine wpX_step (fun K hK => ?_); go_simp
  refine ⟨fun u w' => u = .bool true ∧ E w', fun w' hw' => (HR.out w' (below_trans hbx (hE ⟨w', hw'⟩))).mono fun en w'' ⟨he, hb'⟩ => ⟨_, he, rfl, hI _ (below_trans (hE ⟨w', hw'⟩) hb')⟩, fun u w h => h.2, ?_⟩
  rintro u y ⟨rfl, _⟩
  refine hK _ _ ?_; clear hK K
  repeat (refine wpX_step (fun K hK => ?_); go_simp; refine hK _ _ ?_; clear hK K)
  refine wpX_nil ?_
  intro w1 hw1
  have hb1 : Below w0.heap.size w0 w1 := hE ⟨w1, hw1⟩
  have hbw := below_trans hbx hb1
  have hx1 := holds hb1 hx
  have c0 : w1.cell? ⟨w.heap.size, 0, none⟩ = some (.int .i64 5) := by rw [← HK.out]; exact (MsgAt.of hx1).kind
  clear a1 hld hI hE hb1 hx hbx
  go_wp2_with (fail)
  refine wp_region_b [10] (by kernel_rfl) (by kernel_rfl) ?_
  intro E2 _ hE2 hI2
  have b1 : ∀ w' : InD E2, w'.val.cell? ⟨nb, 2, none⟩ = some (.slice (some ⟨g, 0, none⟩) 1 cap) := fun w' => stays (hE2 w') (stays hbw g1)
  have b2 : ∀ w' : InD E2, w'.val.cell? ⟨g, 0, none⟩ = some (.pointer (some ⟨hb, 0, none⟩)) := fun w' => stays (hE2 w') (stays hbw g2)
  have b3 : ∀ w' : InD E2, w'.val.cell? ⟨w.heap.size, 1, none⟩ = some (.int .i64 0) := fun w' => by rw [← HH.out]; exact (MsgAt.of (holds (hE2 w') hx1)).hub
  have b4 : ∀ w' : InD E2, w'.val.cell? ⟨w.heap.size, 2, none⟩ = some (.int .u32 m.point) := fun w' => (MsgAt.of (holds (hE2 w') hx1)).point
  repeat (refine wpX_step (fun K hK => ?_); go_simp; refine hK _ _ ?_; clear hK K)
  refine wpX_step (fun K hK => ?_); go_simp
  refine ⟨fun u w' => u = .bool true ∧ E2 w', fun w' hw' => (HA.out w' (below_trans hbw (hE2 ⟨w', hw'⟩))).mono fun en w'' ⟨he, hb'⟩ => ⟨_, he, rfl, hb' ▸ hw'⟩, fun u w h => h.2, ?_⟩
  rintro u y ⟨rfl, _⟩
  refine hK _ _ ?_; clear hK K
  repeat (refine wpX_step (fun K hK => ?_); go_simp; refine hK _ _ ?_; clear hK K)
  refine wpX_nil ?_
  intro w2 hw2
  have hb2 : Below w1.heap.size w1 w2 := hE2 ⟨w2, hw2⟩
  have hbw2 := below_trans hbw hb2
  have hx2 := holds hb2 hx1
  have c2 : w2.cell? ⟨w.heap.size, 0, none⟩ = some (.int .i64 5) := by rw [← HK.out]; exact (MsgAt.of hx2).kind
  have hld := hid (msg_load hx2 m.size)
  have HQ2 := hid (HQ.out w2 hbw2)
  clear hI2 hE2 b1 b2 b3 b4 hb2 hx2 hx1
  go_wp2_with (first | ((with_reducible apply wpList_loadT 53); rfl; exact hld.out) | (go_at_call 40; refine HQ2.out.mono ?_; rintro en w3 ⟨l, e, rfl, hp⟩))
  exact hp

end Go.Proofs.YtdllibalmjadhaaGreat
