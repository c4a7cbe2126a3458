/- A whole message, stored as one step. Messages by their fields. What a node of a hub without entries answers. -/
import Derived.Test.YtdllibalmjadhaaGreatE20
import Derived.Deep.WholeRow

namespace Go.Proofs.YtdllibalmjadhaaGreat
open Go Go.RowKit

theorem exec_store {P : Program} (o : Oper) (a : Act) (w : World) (T : TypeId) (x y : Operand) {ad : Addr} {v : Value} {w' : World} (ho : o.op = .store T x y) (hx : a.eval x = .pointer (some ad)) (hy : a.eval y = v) (hr : (storeVar T ad v).run P w = .ok () w') : (execOp a.eval o).run P w = .ok .skip w' := by
  unfold execOp
  simp only [ho, hx, hy, Instr.storeAt, Instr.sureAddr, Sem.run_bind, Sem.run_pure, Result.andThen_ok, hr]
theorem wpList_store {P : Program} {ops : Array Oper} {rest : List Oper} {op : Op} {dst : Option Nat} {ty : TypeId} {pos : String} {after : Array Edge} {a : Act} {Q : Exit → Act → World → Prop} {w : World} (T : TypeId) (x y : Operand) {ad : Addr} {v : Value} {w' : World}
    (ho : op = .store T x y) (hx : a.eval x = .pointer (some ad)) (hy : a.eval y = v) (hr : (storeVar T ad v).run P w = .ok () w')
    (h : wpList P ops Q rest (a.put dst undef) w') : wpList P ops Q ({ dst := dst, op := op, type := ty, pos := pos, after := after, guard := none } :: rest) a w := by
  refine wpList_plain rfl fun K hK => ?_
  unfold Oper.wp
  rw [exec_store _ a w T x y ho hx hy hr]
  exact hK _ _ h
theorem msg_store (w : World) (c cs : Array Value) (hc : c.size = 18) (hcs : cs.size = 18) (h1 : cs.all (·.oneCell') = true) : (storeVar 53 ⟨w.heap.size, 0, none⟩ (.agg cs)).run Tryz.prog (w.alloc (.cells c 53)) = .ok () (w.alloc (.cells cs 53)) :=
  run_storeVar_new (P := Tryz.prog) w 53 c cs (by rw [hcs]; kernel_rfl) (by rw [hc, hcs]) h1
end Go.Proofs.YtdllibalmjadhaaGreat

namespace Go.Proofs.YtdllibalmjadhaaGreat
open Go Go.RowKit

/-- Loads and stores of whole values, told by their type: they fail at once where another operation stands. -/
theorem wpList_storeT {P : Program} {ops : Array Oper} {rest : List Oper} {dst : Option Nat} {ty : TypeId} {pos : String} {after : Array Edge} {a : Act} {Q : Exit → Act → World → Prop} {w : World} (T : TypeId) {x y : Operand} {ad : Addr} (v : Value) {w' : World}
    (hx : a.eval x = .pointer (some ad)) (hy : a.eval y = v) (hr : (storeVar T ad v).run P w = .ok () w')
    (h : wpList P ops Q rest (a.put dst undef) w') : wpList P ops Q ({ dst := dst, op := .store T x y, type := ty, pos := pos, after := after, guard := none } :: rest) a w := wpList_store T x y rfl hx hy hr h
theorem wpList_loadT {P : Program} {ops : Array Oper} {rest : List Oper} {dst : Option Nat} {ty : TypeId} {pos : String} {after : Array Edge} {a : Act} {Q : Exit → Act → World → Prop} {w : World} (T : TypeId) {x : Operand} {ad : Addr} {v : Value}
    (hx : a.eval x = .pointer (some ad)) (hr : (loadVar T ad).run P w = .ok v w)
    (h : wpList P ops Q rest (a.put dst v) w) : wpList P ops Q ({ dst := dst, op := .load T x, type := ty, pos := pos, after := after, guard := none } :: rest) a w := wpList_load T x rfl rfl hx hr h

theorem wpList_buildT {P : Program} {ops : Array Oper} {rest : List Oper} {dst : Option Nat} {ty : TypeId} {pos : String} {after : Array Edge} {a : Act} {Q : Exit → Act → World → Prop} {w : World} (T : TypeId) {parts : Array (Nat × Operand)} (cells : Array Value)
    (hb' : P.built T (parts.toList.map fun (i, x) => (i, a.eval x)) = some cells)
    (h : wpList P ops Q rest (a.put dst (.agg cells)) w) : wpList P ops Q ({ dst := dst, op := .build T parts, type := ty, pos := pos, after := after, guard := none } :: rest) a w := by
  have hb : P.built T (parts.map fun (i, x) => (i, a.eval x)).toList = some cells := by rw [Array.toList_map]; exact hb'
  refine wpList_build rfl T parts rfl (by rw [hb]; rfl) ?_
  rw [hb]
  exact h

theorem exec_build {P : Program} (o : Oper) (a : Act) (w : World) (T : TypeId) (parts : Array (Nat × Operand)) (cells : Array Value) (ho : o.op = .build T parts) (hb : P.built T (parts.toList.map fun (i, x) => (i, a.eval x)) = some cells) : (execOp a.eval o).run P w = .ok (.value (.agg cells)) w := by
  have hb' : P.built T (parts.map fun (i, x) => (i, a.eval x)).toList = some cells := by rw [Array.toList_map]; exact hb
  unfold execOp
  simp only [ho, Sem.run_bind, run_build w T _ cells hb', Result.andThen_ok]
  rfl
theorem wpX_plainT {P : Program} {ops : Array Oper} {D : World → Prop} {eff : Nat → Bool} {Q : Act → World → Prop} {k : Nat} {o : Oper} {rest : List Oper} {C : World → Prop} {a : Act} (v : Value) (hg : o.guard = none) (he : eff k = false)
    (hr : ∀ w : InD D, (execOp a.eval o).run P w.val = .ok (.value v) w.val) (h : wpX P ops D eff Q (k + 1) rest C (a.put o.dst v)) : wpX P ops D eff Q k (o :: rest) C a := by
  simp only [wpX, Region.wanted, hg, if_true, xOper, he, Bool.false_eq_true, if_false]
  refine ⟨v, fun w => ?_, h⟩
  unfold plainAt
  rw [hr w]
  exact ⟨rfl, rfl⟩
theorem fill_list : ∀ (l : List Value) (k : Nat) (b : Array Value), b.size = k + l.length → ((l.zipIdx k).foldl (fun (cs : Array Value) (p : Value × Nat) => cs.setIfInBounds p.2 p.1) b).toList = b.toList.take k ++ l
  | [], k, b, h => by simp at h; simp [List.take_of_length_le, h]
  | x :: l, k, b, h => by
    simp only [List.length_cons] at h
    simp only [List.zipIdx_cons, List.foldl_cons]
    rw [fill_list l (k + 1) (b.setIfInBounds k x) (by simp; omega)]
    simp only [Array.toList_setIfInBounds]
    rw [List.take_set, List.take_succ_eq_append_getElem (by simp; omega)]
    have hk : (b.toList.take k).length = k := by simp; omega
    rw [List.set_append_right _ _ (by omega), hk]
    simp
theorem fill_whole (cs b : Array Value) (off : Nat) (ho : off = 0) (h : b.size = cs.size) : cs.zipIdx.foldl (fun (x : Array Value) (c, j) => x.setIfInBounds (off + j) c) b = cs := by
  subst ho
  apply Array.ext'
  rw [← Array.foldl_toList, Array.toList_zipIdx]
  have := fill_list cs.toList 0 b (by simpa using h)
  simpa using this
theorem run_buildSlice1 {P : Program} (w : World) (t e : TypeId) (i : TypeInfo) (z : Value) (cs : Array Value) (hu : P.underlying t = some (.slice e)) (hi : P.info? e = some i) (hz : i.zero = some z) (hcs : cs.size = i.size) (h0 : 0 < i.size) (h24 : i.size ≤ 2 ^ 24) :
    (Instr.buildSlice t 1 #[(0, .agg cs)]).run P w = .ok (.slice (some ⟨w.heap.size, 0, none⟩) 1 1) (w.alloc (.cells cs e)) := by
  have h1 : ¬ (1 * i.size > 2 ^ 24) := by omega
  have h2 : ¬ (1 * i.size = 0) := by omega
  have hso : (sizeOf e).run P w = .ok i.size w := by simp [sizeOf, typeInfo, hi]
  have hze : (zeroValue e).run P w = .ok z w := by simp [zeroValue, typeInfo, hi, hz]
  have hv : (Value.agg cs).cells = cs := rfl
  have hsz : ((Array.range (1 * i.size)).map (fun x => z.cells[x % z.cells.size]!)).size = cs.size := by simp [hcs]
  have hfill : Instr.fill (fun x => some (x * i.size, i.size)) ((Array.range (1 * i.size)).map (fun x => z.cells[x % z.cells.size]!)) [(0, .agg cs)] = some cs := by
    simp only [Instr.fill, hv]
    rw [if_neg (by simp [hcs])]
    exact congrArg some (fill_whole cs _ (0 * i.size) (Nat.zero_mul _) hsz)
  unfold Instr.buildSlice
  rw [Sem.run_bind, run_underlying hu, Result.andThen_ok]
  simp only [Sem.run_bind, hso, Result.andThen_ok, if_neg h1, if_neg h2, hze, Sem.run_pure, hfill]
  rfl

theorem exec_buildSlice1 {P : Program} (o : Oper) (a : Act) (w : World) (t : TypeId) (x : Operand) {v : Value} {w' : World} (ho : o.op = .buildSlice t 1 #[(0, x)]) (hr : (Instr.buildSlice t 1 #[(0, a.eval x)]).run P w = .ok v w') : (execOp a.eval o).run P w = .ok (.value v) w' := by
  unfold execOp
  simp only [ho, Sem.run_bind, Sem.run_pure]
  have : #[(0, x)].map (fun (y : Nat × Operand) => (y.1, a.eval y.2)) = #[(0, a.eval x)] := by simp
  simp only [this, hr, Result.andThen_ok]
theorem wpList_buildSliceT {P : Program} {ops : Array Oper} {rest : List Oper} {dst : Option Nat} {ty : TypeId} {pos : String} {after : Array Edge} {a : Act} {Q : Exit → Act → World → Prop} {w : World} (T : TypeId) {x : Operand} (v : Value) {u : Value} {w' : World}
    (hv : a.eval x = v) (hr : (Instr.buildSlice T 1 #[(0, v)]).run P w = .ok u w')
    (h : wpList P ops Q rest (a.put dst u) w') : wpList P ops Q ({ dst := dst, op := .buildSlice T 1 #[(0, x)], type := ty, pos := pos, after := after, guard := none } :: rest) a w := by
  subst hv
  refine wpList_plain rfl fun K hK => ?_
  unfold Oper.wp
  rw [exec_buildSlice1 _ a w T x rfl hr]
  exact hK _ _ h

/-- A message, by its fields. -/
structure Msg where
  kind : Int
  hub : Int
  point : Nat
  client : Int
  op : Int
  target : Nat
  hops : Int
  owner : Nat
  turn : Int
  ev : Nat
  id : Nat
  ver : Nat
  vals : Value
  gone : Bool
  lo : Nat
  hi : Nat
  box : Value
  recs : Value
def Msg.cells (m : Msg) : Array Value := #[.int .i64 m.kind, .int .i64 m.hub, .int .u32 m.point, .int .i64 m.client, .int .i64 m.op, .int .u32 m.target, .int .i64 m.hops, .int .u32 m.owner, .int .i64 m.turn, .int .u32 m.ev, .int .u64 m.id, .int .u64 m.ver, m.vals, .bool m.gone, .int .u32 m.lo, .int .u32 m.hi, m.box, m.recs]
def Msg.obj (m : Msg) : Obj := .cells m.cells 53 (0, 0)
def Msg.val (m : Msg) : Value := .agg m.cells
theorem Msg.size (m : Msg) : m.cells.size = 18 := by simp [Msg.cells]

theorem rowCells {w : World} {b : Nat} {cs : Array Value} {T : TypeId} {fz : Nat × Nat} (h : w.heap[b]? = some (.cells cs T fz)) (j : Nat) (u : Value) (hj : cs.toList[j]? = some u) : w.cell? ((⟨b, 0, none⟩ : Addr).add j) = some u := by
  rw [add_none, cellOf h]; simpa using hj
/-- A message's cells, as they are read. -/
structure MsgAt (w : World) (x : Nat) (m : Msg) : Prop where
  kind : w.cell? ⟨x, 0, none⟩ = some (.int .i64 m.kind)
  hub : w.cell? ⟨x, 1, none⟩ = some (.int .i64 m.hub)
  point : w.cell? ⟨x, 2, none⟩ = some (.int .u32 m.point)
  client : w.cell? ⟨x, 3, none⟩ = some (.int .i64 m.client)
  op : w.cell? ⟨x, 4, none⟩ = some (.int .i64 m.op)
  target : w.cell? ⟨x, 5, none⟩ = some (.int .u32 m.target)
  hops : w.cell? ⟨x, 6, none⟩ = some (.int .i64 m.hops)
  owner : w.cell? ⟨x, 7, none⟩ = some (.int .u32 m.owner)
  turn : w.cell? ⟨x, 8, none⟩ = some (.int .i64 m.turn)
  ev : w.cell? ⟨x, 9, none⟩ = some (.int .u32 m.ev)
  id : w.cell? ⟨x, 10, none⟩ = some (.int .u64 m.id)
  ver : w.cell? ⟨x, 11, none⟩ = some (.int .u64 m.ver)
  vals : w.cell? ⟨x, 12, none⟩ = some (m.vals)
  gone : w.cell? ⟨x, 13, none⟩ = some (.bool m.gone)
  lo : w.cell? ⟨x, 14, none⟩ = some (.int .u32 m.lo)
  hi : w.cell? ⟨x, 15, none⟩ = some (.int .u32 m.hi)
  box : w.cell? ⟨x, 16, none⟩ = some (m.box)
  recs : w.cell? ⟨x, 17, none⟩ = some (m.recs)
  whole : (loadVar 53 ⟨x, 0, none⟩).run Tryz.prog w = .ok (.agg m.cells) w
theorem MsgAt.of {w : World} {x : Nat} {m : Msg} (h : w.heap[x]? = some (.cells m.cells 53 (0, 0))) : MsgAt w x m :=
  ⟨cellOf h 0, cellOf h 1, cellOf h 2, cellOf h 3, cellOf h 4, cellOf h 5, cellOf h 6, cellOf h 7, cellOf h 8, cellOf h 9, cellOf h 10, cellOf h 11, cellOf h 12, cellOf h 13, cellOf h 14, cellOf h 15, cellOf h 16, cellOf h 17, msg_load h m.size⟩
theorem MsgAt.new (w : World) (m : Msg) : MsgAt (w.alloc (.cells m.cells 53)) w.heap.size m := .of (heap1 _ _)

theorem Msg.one (m : Msg) (h1 : m.vals.oneCell' = true) (h2 : m.box.oneCell' = true) (h3 : m.recs.oneCell' = true) : m.cells.all (·.oneCell') = true := by
  simp only [Msg.cells, List.all_toArray, List.all_cons, List.all_nil, h1, h2, h3, Bool.and_true]; rfl
theorem msg_storeM (w : World) (c : Array Value) (m : Msg) (hc : c.size = 18) (h1 : m.vals.oneCell' = true) (h2 : m.box.oneCell' = true) (h3 : m.recs.oneCell' = true) : (storeVar 53 ⟨w.heap.size, 0, none⟩ (.agg m.cells)).run Tryz.prog (w.alloc (.cells c 53)) = .ok () (w.alloc (.cells m.cells 53)) :=
  msg_store w c m.cells hc m.size (m.one h1 h2 h3)
theorem msg_storeB (w : World) (b : Nat) (hb : w.heap.size = b) (c : Array Value) (m : Msg) (hc : c.size = 18) (h1 : m.vals.oneCell' = true) (h2 : m.box.oneCell' = true) (h3 : m.recs.oneCell' = true) : (storeVar 53 ⟨b, 0, none⟩ (.agg m.cells)).run Tryz.prog (w.alloc (.cells c 53)) = .ok () (w.alloc (.cells m.cells 53)) := by
  subst hb
  exact msg_storeM w c m hc h1 h2 h3
theorem info_msg : (Tryz.prog.info? 53).map (fun i => (i.zero, i.size, i.bytes)) = some (some (.agg (⟨0, 0, 0, 0, 0, 0, 0, 0, 0, 0, 0, 0, .slice none 0 0, false, 0, 0, .slice none 0 0, .slice none 0 0⟩ : Msg).cells), 18, 184) := by kernel_rfl
theorem buildSlice_msg (w : World) (m : Msg) : (Instr.buildSlice 44 1 #[(0, .agg m.cells)]).run Tryz.prog w = .ok (.slice (some ⟨w.heap.size, 0, none⟩) 1 1) (w.alloc (.cells m.cells 53)) := by
  obtain ⟨i, hi, hz0, hz1, _⟩ := info_parts info_msg
  exact run_buildSlice1 w 44 53 i _ m.cells Tryz.underlying44 hi hz0 (by rw [hz1]; exact m.size) (by omega) (by omega)
def msgPlaces : Array (Nat × Nat) := #[(0, 1), (1, 1), (2, 1), (3, 1), (4, 1), (5, 1), (6, 1), (7, 1), (8, 1), (9, 5), (14, 2), (16, 1), (17, 1)]
def msgZero : Array Value := (⟨0, 0, 0, 0, 0, 0, 0, 0, 0, 0, 0, 0, .slice none 0 0, false, 0, 0, .slice none 0 0, .slice none 0 0⟩ : Msg).cells
theorem built_msg (l : List (Nat × Value)) : Tryz.prog.built 53 l = Instr.fill (fun i => msgPlaces[i]?) msgZero l := by kernel_rfl
theorem built_answer (h c o : Int) (a b : Nat) : Tryz.prog.built 53 [(0, .int .i64 6), (1, .int .i64 h), (3, .int .i64 c), (4, .int .i64 o), (10, .agg #[.int .u32 a, .int .u32 b])] = some (Msg.cells ⟨6, h, 0, c, o, 0, 0, 0, 0, 0, 0, 0, .slice none 0 0, false, a, b, .slice none 0 0, .slice none 0 0⟩) := by
  rw [built_msg]; kernel_rfl

theorem built_ask (h c o : Int) (n a b : Nat) (s : Option Addr) (x y : Nat) : Tryz.prog.built 53 [(0, .int .i64 5), (1, .int .i64 h), (2, .int .u32 n), (3, .int .i64 c), (4, .int .i64 o), (10, .agg #[.int .u32 a, .int .u32 b]), (11, .slice s x y)] = some (Msg.cells ⟨5, h, n, c, o, 0, 0, 0, 0, 0, 0, 0, .slice none 0 0, false, a, b, .slice s x y, .slice none 0 0⟩) := by
  rw [built_msg]; kernel_rfl

/-- A message that asks. -/
def askM (hub : Int) (point : Nat) (op : Int) (a b : Nat) (bx : Value) : Msg := ⟨5, hub, point, 0, op, 0, 0, 0, 0, 0, 0, 0, .slice none 0 0, false, a, b, bx, .slice none 0 0⟩
theorem askM_val (hub : Int) (point : Nat) (op : Int) (a b : Nat) (bx : Value) : askV hub point op a b bx = .agg (askM hub point op a b bx).cells := rfl
def answerM (c o : Int) (a b : Nat) : Msg := ⟨6, 0, 0, c, o, 0, 0, 0, 0, 0, 0, 0, .slice none 0 0, false, a, b, .slice none 0 0, .slice none 0 0⟩
def askC (point : Nat) (c o : Int) (a b : Nat) (bx : Value) : Msg := ⟨5, 0, point, c, o, 0, 0, 0, 0, 0, 0, 0, .slice none 0 0, false, a, b, bx, .slice none 0 0⟩
end Go.Proofs.YtdllibalmjadhaaGreat

namespace Go.Proofs.YtdllibalmjadhaaGreat
open Go Go.RowKit

set_option maxHeartbeats 1000000 in
set_option maxRecDepth 100000 in
theorem ask_one (nb hb rb : Nat) (turn : Int) (p : Nat) (c o : Int) (a b f s : Nat) (bx : Value) (w : World) (h : NodesAt w nb hb rb turn) (d1 : ((f : Int) != 0) = true) (d2 : decide (IntKind.u64.wrap (f : Int) < (s : Int)) = false)
    (ho : ∀ w', Below w.heap.size w w' → Calls Tryz.prog 13 #[.pointer (some ⟨rb, 0, none⟩), .int .u32 (((a : Int) + 1) % 4294967296)] w' fun en w'' => en = .returned (.tuple #[.int .u32 p, .bool true]) ∧ Below w'.heap.size w' w'')
    (hf : ∀ w', Calls Tryz.prog 89 #[.int .u32 a, .int .u32 p] w' fun en w'' => en = .returned (.int .u32 f) ∧ w' = w'')
    (hsz : ∀ w', Calls Tryz.prog 90 #[.agg #[.int .u32 a, .int .u32 b]] w' fun en w'' => en = .returned (.int .u64 s) ∧ Below w'.heap.size w' w'')
    (hs : ∀ w', Below w.heap.size w w' → Calls Tryz.prog 44 #[.pointer (some ⟨hb, 0, none⟩), .int .u32 p] w' fun en w'' => en = .returned (.slice none 0 0) ∧ Below w'.heap.size w' w'') :
    Calls Tryz.prog 40 #[.pointer (some ⟨nb, 0, none⟩), .agg (askC p c o a b bx).cells] w fun en w' => ∃ x, en = .returned (.tuple #[.slice (some ⟨x, 0, none⟩) 1 1, .int .i64 0]) ∧ w'.heap[x]? = some (.cells (answerM c o a b).cells 53 (0, 0)) ∧ Below w.heap.size w w' := by
  obtain ⟨g, cap, g1, g2⟩ := h.hubs
  obtain ⟨r, rap, r1, r2⟩ := h.rings
  have HO := hid ho
  have HF := hid hf
  have HZ := hid hsz
  have HS := hid hs
  clear ho hs hf hsz h
  have hx := heap1 w (.cells (askC p c o a b bx).cells 53)
  have m0 := MsgAt.new w (askC p c o a b bx)
  have hbw := alloc_below w (.cells (askC p c o a b bx).cells 53)
  go_enter Tryz.func40, Tryz.ntmps40
  go_wp2_with (fail)
  generalize w.alloc (.cells (askC p c o a b bx).cells 53) = w0 at *
  refine wp_region_b [] (by kernel_rfl) (by kernel_rfl) ?_
  intro E _ hE hI
  have b1 : ∀ w' : InD E, w'.val.cell? ⟨nb, 3, none⟩ = some (.slice (some ⟨r, 0, none⟩) 1 rap) := fun w' => stays (hE w') (stays hbw r1)
  have b2 : ∀ w' : InD E, w'.val.cell? ⟨r, 0, none⟩ = some (.pointer (some ⟨rb, 0, none⟩)) := fun w' => stays (hE w') (stays hbw r2)
  have b3 : ∀ w' : InD E, w'.val.cell? ⟨w.heap.size, 1, none⟩ = some (.int .i64 0) := fun w' => stays (hE w') m0.hub
  repeat (refine wpX_step (fun K hK => ?_); go_simp; refine hK _ _ ?_; clear hK K)
  refine wpX_nil ?_
  intro w1 hw1
  have hb1 : Below w0.heap.size w0 w1 := hE ⟨w1, hw1⟩
  have m1 : MsgAt w1 w.heap.size (askC p c o a b bx) := .of (holds hb1 hx)
  have q14 : w1.cell? ⟨w.heap.size, 14, none⟩ = some (.int .u32 a) := m1.lo
  clear b1 b2 b3 hI m0 r1 r2
  have hbw1 := below_trans hbw hb1
  have hx1 := holds hb1 hx
  clear hE hb1 hx hbw m1
  go_wp2_with (first | ((with_reducible apply wpList_buildT 53 (answerM c o a b).cells); exact built_answer _ _ _ _ _) | (go_at_call 13; refine (HO.out _ hbw1).mono ?_; rintro en w2 ⟨rfl, hb2⟩; have hx2 := holds hb2 hx1; have hz2 : w.heap.size < w2.heap.size := (Array.getElem?_eq_some_iff.1 hx2).1; have m2 : MsgAt w2 w.heap.size (askC p c o a b bx) := .of hx2; have hbw2 := below_trans hbw1 hb2; have q2 : w2.cell? ⟨w.heap.size, 2, none⟩ = some (.int .u32 p) := m2.point; have q14' : w2.cell? ⟨w.heap.size, 14, none⟩ = some (.int .u32 a) := m2.lo; have q15 : w2.cell? ⟨w.heap.size, 15, none⟩ = some (.int .u32 b) := m2.hi; clear m2 hx1 hb2) | (go_at_call 89; refine (HF.out _).mono ?_; rintro en w3 ⟨rfl, rfl⟩) | (go_at_call 90; refine (HZ.out _).mono ?_; rintro en w4 ⟨rfl, hb4⟩; have hx4 := holds (below_trans (alloc_below _ _) hb4) hx2; have hbw4 := below_trans hbw2 (below_trans (alloc_below _ _) hb4); have p4 := holds hb4 (heap1 _ _); have m4 : MsgAt w4 w.heap.size (askC p c o a b bx) := .of hx4; have r2 : w4.cell? ⟨w.heap.size, 2, none⟩ = some (.int .u32 p) := m4.point; have r3 : w4.cell? ⟨w.heap.size, 3, none⟩ = some (.int .i64 c) := m4.client; have r4 : w4.cell? ⟨w.heap.size, 4, none⟩ = some (.int .i64 o) := m4.op; have r1 : w4.cell? ⟨w.heap.size, 1, none⟩ = some (.int .i64 0) := m4.hub; have u0 : w4.cell? ⟨w2.heap.size, 0, none⟩ = some (.int .u32 a) := cellOf p4 0; have u1 : w4.cell? ⟨w2.heap.size, 1, none⟩ = some (.int .u32 b) := cellOf p4 1; clear m4) | ((with_reducible apply wpList_storeT 53 (.agg (answerM c o a b).cells)); rfl; rfl; exact msg_storeM _ _ _ rfl rfl rfl rfl))
  generalize hw5 : w4.alloc (.cells (answerM c o a b).cells 53) = w5
  have hb5 : Below w4.heap.size w4 w5 := by rw [← hw5]; exact alloc_below _ _
  have hbw5 := below_trans hbw4 hb5
  have y5 : w5.heap[w4.heap.size]? = some (.cells (answerM c o a b).cells 53 (0, 0)) := by rw [← hw5]; exact heap1 _ _
  have m5 : MsgAt w5 w.heap.size (askC p c o a b bx) := .of (holds hb5 hx4)
  have p5 := holds hb5 p4
  clear r1 r2 r3 r4 u0 u1 q2 q14' q15 hx2 hbw2 hb4 hx4 hbw4 p4 hb5 hw5
  refine wp_region_b [10] (by kernel_rfl) (by kernel_rfl) ?_
  intro E _ hE hI
  have b1 : ∀ w' : InD E, w'.val.cell? ⟨nb, 2, none⟩ = some (.slice (some ⟨g, 0, none⟩) 1 cap) := fun w' => stays (hE w') (stays hbw5 g1)
  have b2 : ∀ w' : InD E, w'.val.cell? ⟨g, 0, none⟩ = some (.pointer (some ⟨hb, 0, none⟩)) := fun w' => stays (hE w') (stays hbw5 g2)
  have b3 : ∀ w' : InD E, w'.val.cell? ⟨w.heap.size, 1, none⟩ = some (.int .i64 0) := fun w' => stays (hE w') m5.hub
  have b4 : ∀ w' : InD E, w'.val.cell? ⟨w.heap.size, 2, none⟩ = some (.int .u32 p) := fun w' => stays (hE w') m5.point
  repeat (refine wpX_step (fun K hK => ?_); go_simp; refine hK _ _ ?_; clear hK K)
  refine wpX_step (fun K hK => ?_); go_simp
  refine ⟨fun u w' => u = .slice none 0 0 ∧ E w', fun w' hw' => (HS.out _ (below_trans hbw5 (hE ⟨w', hw'⟩))).mono fun en w'' ⟨he, hb'⟩ => ⟨_, he, rfl, hI _ (below_trans (hE ⟨w', hw'⟩) hb')⟩, fun u w h => h.2, ?_⟩
  rintro u y ⟨rfl, _⟩
  refine hK _ _ ?_; clear hK K
  repeat (refine wpX_step (fun K hK => ?_); go_simp; refine hK _ _ ?_; clear hK K)
  refine wpX_nil ?_
  intro w6 hw6
  have hb6 : Below w5.heap.size w5 w6 := hE ⟨w6, hw6⟩
  have hbw6 := below_trans hbw5 hb6
  have y6 := holds hb6 y5
  have hld := hid (msg_load y6 (Msg.size _))
  have p6 := holds hb6 p5
  have t0 : w6.cell? ⟨w2.heap.size, 0, none⟩ = some (.int .u32 a) := cellOf p6 0
  have t1 : w6.cell? ⟨w2.heap.size, 1, none⟩ = some (.int .u32 b) := cellOf p6 1
  have t14 : w6.cell? ⟨w.heap.size, 14, none⟩ = some (.int .u32 a) := stays hb6 m5.lo
  have t15 : w6.cell? ⟨w.heap.size, 15, none⟩ = some (.int .u32 b) := stays hb6 m5.hi
  have z6 : w.heap.size < w6.heap.size := cell_lt t14
  have z6' : w2.heap.size < w6.heap.size := cell_lt t0
  clear b1 b2 b3 b4 hE hI hb6 hw6 m5 p5 y5 p6
  go_wp2
  refine wp_loop_once ?_
  go_wp2_with (first | ((with_reducible apply wpList_loadT 53); rfl; exact hld.out) | ((with_reducible apply wpList_buildSliceT 44 (.agg (answerM c o a b).cells)); rfl; exact buildSlice_msg _ _))
  refine bodyPost_ret (v := .tuple #[.slice (some ⟨w6.heap.size, 0, none⟩) 1 1, .int .i64 0]) (by simp only [results, Tryz.results40]; go_simp) rfl ⟨_, rfl, heap1 _ _, below_trans hbw6 (alloc_below _ _)⟩
end Go.Proofs.YtdllibalmjadhaaGreat
