/- Whether a message that asks may be. -/
import Derived.Test.YtdllibalmjadhaaGreatMsg
namespace Go.Proofs.YtdllibalmjadhaaGreat
open Go Go.RowKit

theorem exec_load {P : Program} (o : Oper) (a : Act) (w : World) (T : TypeId) (x : Operand) {ad : Addr} {v : Value} (ho : o.op = .load T x) (hx : a.eval x = .pointer (some ad)) (hr : (loadVar T ad).run P w = .ok v w) : (execOp a.eval o).run P w = .ok (.value v) w := by
  unfold execOp
  simp only [ho, hx, Instr.loadAt, Instr.sureAddr, Sem.run_bind, Sem.run_pure, Result.andThen_ok, hr]
theorem wpList_load {P : Program} {ops : Array Oper} {rest : List Oper} {op : Op} {dst : Option Nat} {ty : TypeId} {pos : String} {after : Array Edge} {gd : Option (Nat × Bool)} {a : Act} {Q : Exit → Act → World → Prop} {w : World} (T : TypeId) (x : Operand) {ad : Addr} {v : Value}
    (ho : op = .load T x) (hw : Region.wanted { dst := dst, op := op, type := ty, pos := pos, after := after, guard := gd } (yielded ops a.tmps) = true) (hx : a.eval x = .pointer (some ad)) (hr : (loadVar T ad).run P w = .ok v w)
    (h : wpList P ops Q rest (a.put dst v) w) : wpList P ops Q ({ dst := dst, op := op, type := ty, pos := pos, after := after, guard := gd } :: rest) a w := by
  refine wpList_step fun K hK => ?_
  rw [if_pos hw]
  unfold Oper.wp
  rw [exec_load _ a w T x ho hx hr]
  exact hK _ _ h
theorem msg_load {w : World} {b : Nat} {cs : Array Value} {T : TypeId} {fz : Nat × Nat} (h : w.heap[b]? = some (.cells cs T fz)) (hn : cs.size = 18) : (loadVar 53 ⟨b, 0, none⟩).run Tryz.prog w = .ok (.agg cs) w :=
  run_loadVar_row w b T 53 cs fz _ h Tryz.underlying53 rfl (by rw [hn]; kernel_rfl)

theorem within_small (v a b : Int) (h1 : a ≤ v) (h2 : v ≤ b) (_ : b ≤ 500) (w : World) : Calls Tryz.prog 75 #[.int .i64 v, .int .i64 a, .int .i64 b] w fun en w' => en = .returned (.bool true) ∧ w = w' := within_yes v a b h1 h2 w
theorem turn_yes (w : World) : Calls Tryz.prog 75 #[.int .i64 0, .int .i64 0, .int .i64 2147483647] w fun en w' => en = .returned (.bool true) ∧ w = w' := within_yes _ _ _ (by omega) (by omega) w
theorem hops_ask (w : World) : Calls Tryz.prog 76 #[.int .i64 5] w fun en w' => en = .returned (.bool true) ∧ w = w' := hops_any 5 w
theorem between_ask (w : World) : Calls Tryz.prog 77 #[.int .i64 5] w fun en w' => en = .returned (.bool false) ∧ w = w' := between_any 5 w

set_option maxHeartbeats 1000000 in
set_option maxRecDepth 100000 in
theorem right_ask (point a b : Nat) (bb : Nat) (w : World) (h : AnyBox w bb) : Calls Tryz.prog 36 #[.int .i64 1, askV 0 point 1 a b (.slice (some ⟨bb, 0, none⟩) 1 1)] w fun en w' => en = .returned (.bool true) ∧ Below w.heap.size w w' := by
  have HE := hid fun w' => held_ask 0 1 point a b bb w'
  have HA := hid fun w' (hb : Below w.heap.size w w') => asked_ask 0 1 point a b bb w' (h.below hb)
  clear h
  unfold askV at *
  go_enter Tryz.func36, Tryz.ntmps36
  go_wp2_with (fail)
  obtain ⟨w0, hw0⟩ : ∃ w0, w0 = w.alloc (.cells #[.int .i64 5, .int .i64 0, .int .u32 point, .int .i64 0, .int .i64 1, .int .u32 0, .int .i64 0, .int .u32 0, .int .i64 0, .int .u32 0, .int .u64 0, .int .u64 0, .slice none 0 0, .bool false, .int .u32 a, .int .u32 b, .slice (some ⟨bb, 0, none⟩) 1 1, .slice none 0 0] 53 (0, 0)) := ⟨_, rfl⟩
  have hx := heap1 w (.cells #[.int .i64 5, .int .i64 0, .int .u32 point, .int .i64 0, .int .i64 1, .int .u32 0, .int .i64 0, .int .u32 0, .int .i64 0, .int .u32 0, .int .u64 0, .int .u64 0, .slice none 0 0, .bool false, .int .u32 a, .int .u32 b, .slice (some ⟨bb, 0, none⟩) 1 1, .slice none 0 0] 53 (0, 0))
  have hbl := alloc_below w (.cells #[.int .i64 5, .int .i64 0, .int .u32 point, .int .i64 0, .int .i64 1, .int .u32 0, .int .i64 0, .int .u32 0, .int .i64 0, .int .u32 0, .int .u64 0, .int .u64 0, .slice none 0 0, .bool false, .int .u32 a, .int .u32 b, .slice (some ⟨bb, 0, none⟩) 1 1, .slice none 0 0] 53 (0, 0))
  rw [← hw0] at hx hbl ⊢
  have q0 : w0.cell? ⟨w.heap.size, 0, none⟩ = some (.int .i64 5) := cellOf hx 0
  have q1 : w0.cell? ⟨w.heap.size, 1, none⟩ = some (.int .i64 0) := cellOf hx 1
  have q3 : w0.cell? ⟨w.heap.size, 3, none⟩ = some (.int .i64 0) := cellOf hx 3
  have q4 : w0.cell? ⟨w.heap.size, 4, none⟩ = some (.int .i64 1) := cellOf hx 4
  have q6 : w0.cell? ⟨w.heap.size, 6, none⟩ = some (.int .i64 0) := cellOf hx 6
  have q7 : w0.cell? ⟨w.heap.size, 7, none⟩ = some (.int .u32 0) := cellOf hx 7
  have q8 : w0.cell? ⟨w.heap.size, 8, none⟩ = some (.int .i64 0) := cellOf hx 8
  have hld := hid (msg_load hx rfl)
  have HX := hid hx
  clear hx hw0
  go_wp2_with (first | (refine wpList_load 53 _ rfl rfl rfl hld.out ?_) | (refine wpList_load 53 _ rfl rfl rfl hld2.out ?_) | (go_at_call 75; refine (within_small _ _ _ (by omega) (by omega) (by omega) _).mono ?_; rintro en w1 ⟨rfl, rfl⟩) | (go_at_call 75; refine (turn_yes _).mono ?_; rintro en w1 ⟨rfl, rfl⟩) | (go_at_call 76; refine (hops_ask _).mono ?_; rintro en w1 ⟨rfl, rfl⟩) | (go_at_call 77; refine (between_ask _).mono ?_; rintro en w1 ⟨rfl, rfl⟩) | (go_at_call 78; refine (HE.out _).mono ?_; rintro en w2 ⟨rfl, hb2⟩; have hld2 := hid (msg_load (holds hb2 HX.out) rfl)) | (go_at_call 79; refine (HA.out _ (below_trans hbl hb2)).mono ?_; rintro en w3 ⟨rfl, hb3⟩))
  go_ret
  exact ⟨rfl, below_trans (below_trans hbl hb2) hb3⟩

set_option maxHeartbeats 1000000 in
set_option maxRecDepth 100000 in
theorem right_hub (point a b : Nat) (bx : Value) (w : World) : Calls Tryz.prog 36 #[.int .i64 1, askV 1 point 1 a b bx] w fun en w' => en = .returned (.bool false) ∧ Below w.heap.size w w' := by
  unfold askV
  go_enter Tryz.func36, Tryz.ntmps36
  go_wp2_with (first | (go_at_call 75; refine (within_small _ _ _ (by omega) (by omega) (by omega) _).mono ?_; rintro en w1 ⟨rfl, rfl⟩) | (go_at_call 75; refine (within_no _ _ _ (by omega) _).mono ?_; rintro en w1 ⟨rfl, rfl⟩))
  go_ret
  exact ⟨rfl, alloc_below _ _⟩
set_option maxHeartbeats 1000000 in
set_option maxRecDepth 100000 in
theorem right_op (point a b : Nat) (bx : Value) (w : World) : Calls Tryz.prog 36 #[.int .i64 1, askV 0 point 0 a b bx] w fun en w' => en = .returned (.bool false) ∧ Below w.heap.size w w' := by
  unfold askV
  go_enter Tryz.func36, Tryz.ntmps36
  go_wp2_with (first | (go_at_call 75; refine (within_small _ _ _ (by omega) (by omega) (by omega) _).mono ?_; rintro en w1 ⟨rfl, rfl⟩) | (go_at_call 75; refine (within_no _ _ _ (by omega) _).mono ?_; rintro en w1 ⟨rfl, rfl⟩))
  go_ret
  exact ⟨rfl, alloc_below _ _⟩
end Go.Proofs.YtdllibalmjadhaaGreat
