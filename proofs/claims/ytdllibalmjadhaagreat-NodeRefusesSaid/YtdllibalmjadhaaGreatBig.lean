/- A whole message, stored as one step. -/
import Derived.Test.YtdllibalmjadhaaGreatAnswer
import Derived.Test.YtdllibalmjadhaaGreatHubShelf
import Derived.Deep.WholeRow
namespace Go.Proofs.YtdllibalmjadhaaGreat
open Go Go.RowKit

theorem exec_store {P : Program} (o : Oper) (a : Act) (w : World) (T : TypeId) (x y : Operand) {ad : Addr} {v : Value} {w' : World} (ho : o.op = .store T x y) (hx : a.eval x = .pointer (some ad)) (hy : a.eval y = v) (hr : (storeVar T ad v).run P w = .ok () w') : (execOp a.eval o).run P w = .ok .skip w' := by
  unfold execOp
  simp only [ho, hx, hy, Instr.storeAt, Instr.sureAddr, Sem.run_bind, Sem.run_pure, Result.andThen_ok, hr]
theorem wpList_store {P : Program} {ops : Array Oper} {rest : List Oper} {op : Op} {dst : Option Nat} {ty : TypeId} {pos : String} {after : Array Edge} {a : Act} {Q : Exit → Act → World → Prop} {w : World} (T : TypeId) (x y : Operand) {ad : Addr} {v : Value} {w' : World}
    (ho : op = .store T x y) (hx : a.eval x = .pointer (some ad)) (hy : a.eval y = v) (hr : (storeVar T ad v).run P w = .ok () w')
    (h : wpList P ops Q rest (a.put dst undef) w') : wpList P ops Q ({ dst := dst, op := op, type := ty, pos := pos, after := after, guard := none } :: rest) a w := by
  refine wpList_plain rfl fun K hK => ?_
  unfold Oper.wp
  rw [exec_store _ a w T x y ho hx hy hr]
  exact hK _ _ h
theorem msg_store (w : World) (c cs : Array Value) (hc : c.size = 18) (hcs : cs.size = 18) (h1 : cs.all (·.oneCell') = true) : (storeVar 53 ⟨w.heap.size, 0, none⟩ (.agg cs)).run Tryz.prog (w.alloc (.cells c 53)) = .ok () (w.alloc (.cells cs 53)) :=
  run_storeVar_new (P := Tryz.prog) w 53 c cs (by rw [hcs]; kernel_rfl) (by rw [hc, hcs]) h1
end Go.Proofs.YtdllibalmjadhaaGreat
