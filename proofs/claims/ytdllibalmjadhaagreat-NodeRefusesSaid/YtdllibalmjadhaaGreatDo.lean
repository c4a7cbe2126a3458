/- What a node does with messages that are refused. -/
import Derived.Test.YtdllibalmjadhaaGreatChange
namespace Go.Proofs.YtdllibalmjadhaaGreat
open Go Go.RowKit

section
variable {P : Program} {ops : Array Oper} {D : World → Prop} {eff : Nat → Bool}
theorem wpX_load {Q : Act → World → Prop} {k : Nat} {op : Op} {dst : Option Nat} {ty : TypeId} {pos : String} {after : Array Edge} {rest : List Oper} {C : World → Prop} {a : Act} (T : TypeId) (x : Operand) {ad : Addr} {v : Value}
    (ho : op = .load T x) (he : eff k = false) (hx : a.eval x = .pointer (some ad)) (hr : ∀ w : InD D, (loadVar T ad).run P w.val = .ok v w.val)
    (h : wpX P ops D eff Q (k + 1) rest C (a.put dst v)) : wpX P ops D eff Q k ({ dst := dst, op := op, type := ty, pos := pos, after := after, guard := none } :: rest) C a := by
  simp only [wpX, Region.wanted, if_true, xOper, he, Bool.false_eq_true, if_false]
  refine ⟨v, fun w => ?_, h⟩
  unfold plainAt
  rw [exec_load _ a w.val T x ho hx (hr w)]
  exact ⟨rfl, rfl⟩
end

set_option maxRecDepth 100000 in
theorem do_form (nb hb rb : Nat) (turn : Int) (hub op : Int) (point a b : Nat) (bx : Value) (hbx : ∃ s n c, bx = .slice s n c) (w : World) (h : NodesAt w nb hb rb turn)
    (hr : ∀ w', Calls Tryz.prog 36 #[.int .i64 1, askV hub point op a b bx] w' fun en w'' => en = .returned (.bool false) ∧ Below w'.heap.size w' w'') :
    Calls Tryz.prog 14 #[.pointer (some ⟨nb, 0, none⟩), askV hub point op a b bx] w fun en w' => en = .returned (.tuple #[.slice none 0 0, .int .i64 4]) ∧ Below w.heap.size w w' := by
  obtain ⟨sa, sn, sc, rfl⟩ := hbx
  have h0 := h.attrs
  have HR := hid hr
  clear hr h
  unfold askV at *
  go_enter Tryz.func14, Tryz.ntmps14
  go_wp2_with (fail)
  refine wp_region_b [5] (by kernel_rfl) (by kernel_rfl) ?_
  intro E _ hE hI
  have a1 : ∀ w' : InD E, w'.val.cell? ⟨nb, 0, none⟩ = some (.int .i64 1) := fun w' => stays (hE w') (stays (alloc_below _ _) h0)
  have hld := hid fun w' : InD E => msg_load (holds (hE w') (heap1 _ _)) rfl
  repeat (refine wpX_step (fun K hK => ?_); go_simp; refine hK _ _ ?_; clear hK K)
  refine wpX_load 53 _ rfl rfl rfl hld.out ?_
  repeat (refine wpX_step (fun K hK => ?_); go_simp; refine hK _ _ ?_; clear hK K)
  refine wpX_step (fun K hK => ?_); go_simp
  refine ⟨fun u w' => u = .bool false ∧ E w', fun w' hw' => (HR.out w').mono fun en w'' ⟨he, hb'⟩ => ⟨_, he, rfl, hI _ (below_trans (hE ⟨w', hw'⟩) hb')⟩, fun u w h => h.2, ?_⟩
  rintro u y ⟨rfl, _⟩
  refine hK _ _ ?_; clear hK K
  repeat (refine wpX_step (fun K hK => ?_); go_simp; refine hK _ _ ?_; clear hK K)
  refine wpX_nil ?_
  intro w1 hw1
  have hbw := below_trans (alloc_below _ _) (hE ⟨w1, hw1⟩)
  go_wp2
  refine bodyPost_ret (v := .tuple #[.slice none 0 0, .int .i64 4]) (by simp only [results, Tryz.results14]; go_simp) rfl ⟨rfl, hbw⟩

set_option maxHeartbeats 1000000 in
set_option maxRecDepth 100000 in
/-- Do, up to whether the node is alive. -/
theorem do_node (nb hb rb : Nat) (turn : Int) (op : Int) (point a b : Nat) (bx : Value) (hbx : ∃ s n c, bx = .slice s n c) (w : World) (h : NodesAt w nb hb rb turn)
    (hr : ∀ w', Below w.heap.size w w' → Calls Tryz.prog 36 #[.int .i64 1, askV 0 point op a b bx] w' fun en w'' => en = .returned (.bool true) ∧ Below w'.heap.size w' w'')
    (ha : ∀ w', Below w.heap.size w w' → Calls Tryz.prog 25 #[.pointer (some ⟨hb, 0, none⟩), .int .u32 point] w' fun en w'' => en = .returned (.bool false) ∧ w' = w'') :
    Calls Tryz.prog 14 #[.pointer (some ⟨nb, 0, none⟩), askV 0 point op a b bx] w fun en w' => en = .returned (.tuple #[.slice none 0 0, .int .i64 11]) ∧ Below w.heap.size w w' := by
  obtain ⟨sa, sn, sc, rfl⟩ := hbx
  have h0 := h.attrs
  obtain ⟨g, cap, g1, g2⟩ := h.hubs
  have HR := hid hr
  have HA := hid ha
  clear hr ha h
  unfold askV at *
  go_enter Tryz.func14, Tryz.ntmps14
  go_wp2_with (fail)
  refine wp_region_b [5] (by kernel_rfl) (by kernel_rfl) ?_
  intro E _ hE hI
  have a1 : ∀ w' : InD E, w'.val.cell? ⟨nb, 0, none⟩ = some (.int .i64 1) := fun w' => stays (hE w') (stays (alloc_below _ _) h0)
  have hld := hid fun w' : InD E => msg_load (holds (hE w') (heap1 _ _)) rfl
  repeat (refine wpX_step (fun K hK => ?_); go_simp; refine hK _ _ ?_; clear hK K)
  refine wpX_load 53 _ rfl rfl rfl hld.out ?_
  repeat (refine wpX_step (fun K hK => ?_); go_simp; refine hK _ _ ?_; clear hK K)
  refine wpX_step (fun K hK => ?_); go_simp
  refine ⟨fun u w' => u = .bool true ∧ E w', fun w' hw' => (HR.out w' (below_trans (alloc_below _ _) (hE ⟨w', hw'⟩))).mono fun en w'' ⟨he, hb'⟩ => ⟨_, he, rfl, hI _ (below_trans (hE ⟨w', hw'⟩) hb')⟩, fun u w h => h.2, ?_⟩
  rintro u y ⟨rfl, _⟩
  refine hK _ _ ?_; clear hK K
  repeat (refine wpX_step (fun K hK => ?_); go_simp; refine hK _ _ ?_; clear hK K)
  refine wpX_nil ?_
  intro w1 hw1
  have hb1 := hE ⟨w1, hw1⟩
  have hbw := below_trans (alloc_below _ _) hb1
  have hx1 := holds hb1 (heap1 _ _)
  have c0 : w1.cell? ⟨w.heap.size, 0, none⟩ = some (.int .i64 5) := cellOf hx1 0
  clear a1 hld hI hE hb1
  go_wp2_with (fail)
  refine wp_region_b [10] (by kernel_rfl) (by kernel_rfl) ?_
  intro E2 _ hE2 hI2
  have b1 : ∀ w' : InD E2, w'.val.cell? ⟨nb, 2, none⟩ = some (.slice (some ⟨g, 0, none⟩) 1 cap) := fun w' => stays (hE2 w') (stays hbw g1)
  have b2 : ∀ w' : InD E2, w'.val.cell? ⟨g, 0, none⟩ = some (.pointer (some ⟨hb, 0, none⟩)) := fun w' => stays (hE2 w') (stays hbw g2)
  have b3 : ∀ w' : InD E2, w'.val.cell? ⟨w.heap.size, 1, none⟩ = some (.int .i64 0) := fun w' => cellOf (holds (hE2 w') hx1) 1
  have b4 : ∀ w' : InD E2, w'.val.cell? ⟨w.heap.size, 2, none⟩ = some (.int .u32 point) := fun w' => cellOf (holds (hE2 w') hx1) 2
  repeat (refine wpX_step (fun K hK => ?_); go_simp; refine hK _ _ ?_; clear hK K)
  refine wpX_step (fun K hK => ?_); go_simp
  refine ⟨fun u w' => u = .bool false ∧ E2 w', fun w' hw' => (HA.out w' (below_trans hbw (hE2 ⟨w', hw'⟩))).mono fun en w'' ⟨he, hb'⟩ => ⟨_, he, rfl, hb' ▸ hw'⟩, fun u w h => h.2, ?_⟩
  rintro u y ⟨rfl, _⟩
  refine hK _ _ ?_; clear hK K
  repeat (refine wpX_step (fun K hK => ?_); go_simp; refine hK _ _ ?_; clear hK K)
  refine wpX_nil ?_
  intro w2 hw2
  have hbw2 := below_trans hbw (hE2 ⟨w2, hw2⟩)
  clear hI2 b1 b2 b3 b4
  go_wp2
  refine bodyPost_ret (v := .tuple #[.slice none 0 0, .int .i64 11]) (by simp only [results, Tryz.results14]; go_simp) rfl ⟨rfl, hbw2⟩
end Go.Proofs.YtdllibalmjadhaaGreat
