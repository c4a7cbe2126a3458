/- Whether a message that asks may be. Deeds with all nodes of one hub: those that are none; crashes. What a node does with messages that are refused. -/
import Derived.Test.YtdllibalmjadhaaGreatE18
import Derived.Test.YtdllibalmjadhaaGreatE14

namespace Go.Proofs.YtdllibalmjadhaaGreat
open Go Go.RowKit

theorem exec_load {P : Program} (o : Oper) (a : Act) (w : World) (T : TypeId) (x : Operand) {ad : Addr} {v : Value} (ho : o.op = .load T x) (hx : a.eval x = .pointer (some ad)) (hr : (loadVar T ad).run P w = .ok v w) : (execOp a.eval o).run P w = .ok (.value v) w := by
  unfold execOp
  simp only [ho, hx, Instr.loadAt, Instr.sureAddr, Sem.run_bind, Sem.run_pure, Result.andThen_ok, hr]
theorem wpList_load {P : Program} {ops : Array Oper} {rest : List Oper} {op : Op} {dst : Option Nat} {ty : TypeId} {pos : String} {after : Array Edge} {gd : Option (Nat × Bool)} {a : Act} {Q : Exit → Act → World → Prop} {w : World} (T : TypeId) (x : Operand) {ad : Addr} {v : Value}
    (ho : op = .load T x) (hw : Region.wanted { dst := dst, op := op, type := ty, pos := pos, after := after, guard := gd } (yielded ops a.tmps) = true) (hx : a.eval x = .pointer (some ad)) (hr : (loadVar T ad).run P w = .ok v w)
    (h : wpList P ops Q rest (a.put dst v) w) : wpList P ops Q ({ dst := dst, op := op, type := ty, pos := pos, after := after, guard := gd } :: rest) a w := by
  refine wpList_step fun K hK => ?_
  rw [if_pos hw]
  unfold Oper.wp
  rw [exec_load _ a w T x ho hx hr]
  exact hK _ _ h
theorem msg_load {w : World} {b : Nat} {cs : Array Value} {T : TypeId} {fz : Nat × Nat} (h : w.heap[b]? = some (.cells cs T fz)) (hn : cs.size = 18) : (loadVar 53 ⟨b, 0, none⟩).run Tryz.prog w = .ok (.agg cs) w :=
  run_loadVar_row w b T 53 cs fz _ h Tryz.underlying53 rfl (by rw [hn]; kernel_rfl)

theorem within_small (v a b : Int) (h1 : a ≤ v) (h2 : v ≤ b) (_ : b ≤ 500) (w : World) : Calls Tryz.prog 75 #[.int .i64 v, .int .i64 a, .int .i64 b] w fun en w' => en = .returned (.bool true) ∧ w = w' := within_yes v a b h1 h2 w
theorem turn_yes (w : World) : Calls Tryz.prog 75 #[.int .i64 0, .int .i64 0, .int .i64 2147483647] w fun en w' => en = .returned (.bool true) ∧ w = w' := within_yes _ _ _ (by omega) (by omega) w
theorem hops_ask (w : World) : Calls Tryz.prog 76 #[.int .i64 5] w fun en w' => en = .returned (.bool true) ∧ w = w' := hops_any 5 w
theorem between_ask (w : World) : Calls Tryz.prog 77 #[.int .i64 5] w fun en w' => en = .returned (.bool false) ∧ w = w' := between_any 5 w

set_option maxHeartbeats 1000000 in
set_option maxRecDepth 100000 in
theorem right_ask (point a b : Nat) (bb : Nat) (w : World) (h : AnyBox w bb) : Calls Tryz.prog 36 #[.int .i64 1, askV 0 point 1 a b (.slice (some ⟨bb, 0, none⟩) 1 1)] w fun en w' => en = .returned (.bool true) ∧ Below w.heap.size w w' := by
  have HE := hid fun w' => held_ask 0 1 point a b bb w'
  have HA := hid fun w' (hb : Below w.heap.size w w') => asked_ask 0 1 point a b bb w' (h.below hb)
  clear h
  unfold askV at *
  go_enter Tryz.func36, Tryz.ntmps36
  go_wp2_with (fail)
  obtain ⟨w0, hw0⟩ : ∃ w0, w0 = w.alloc (.cells #[.int .i64 5, .int .i64 0, .int .u32 point, .int .i64 0, .int .i64 1, .int .u32 0, .int .i64 0, .int .u32 0, .int .i64 0, .int .u32 0, .int .u64 0, .int .u64 0, .slice none 0 0, .bool false, .int .u32 a, .int .u32 b, .slice (some ⟨bb, 0, none⟩) 1 1, .slice none 0 0] 53 (0, 0)) := ⟨_, rfl⟩
  have hx := heap1 w (.cells #[.int .i64 5, .int .i64 0, .int .u32 point, .int .i64 0, .int .i64 1, .int .u32 0, .int .i64 0, .int .u32 0, .int .i64 0, .int .u32 0, .int .u64 0, .int .u64 0, .slice none 0 0, .bool false, .int .u32 a, .int .u32 b, .slice (some ⟨bb, 0, none⟩) 1 1, .slice none 0 0] 53 (0, 0))
  have hbl := alloc_below w (.cells #[.int .i64 5, .int .i64 0, .int .u32 point, .int .i64 0, .int .i64 1, .int .u32 0, .int .i64 0, .int .u32 0, .int .i64 0, .int .u32 0, .int .u64 0, .int .u64 0, .slice none 0 0, .bool false, .int .u32 a, .int .u32 b, .slice (some ⟨bb, 0, none⟩) 1 1, .slice none 0 0] 53 (0, 0))
  rw [← hw0] at hx hbl ⊢
  have q0 : w0.cell? ⟨w.heap.size, 0, none⟩ = some (.int .i64 5) := cellOf hx 0
  have q1 : w0.cell? ⟨w.heap.size, 1, none⟩ = some (.int .i64 0) := cellOf hx 1
  have q3 : w0.cell? ⟨w.heap.size, 3, none⟩ = some (.int .i64 0) := cellOf hx 3
  have q4 : w0.cell? ⟨w.heap.size, 4, none⟩ = some (.int .i64 1) := cellOf hx 4
  have q6 : w0.cell? ⟨w.heap.size, 6, none⟩ = some (.int .i64 0) := cellOf hx 6
  have q7 : w0.cell? ⟨w.heap.size, 7, none⟩ = some (.int .u32 0) := cellOf hx 7
  have q8 : w0.cell? ⟨w.heap.size, 8, none⟩ = some (.int .i64 0) := cellOf hx 8
  have hld := hid (msg_load hx rfl)
  have HX := hid hx
  clear hx hw0
  go_wp2_with (first | (refine wpList_load 53 _ rfl rfl rfl hld.out ?_) | (refine wpList_load 53 _ rfl rfl rfl hld2.out ?_) | (go_at_call 75; refine (within_small _ _ _ (by omega) (by omega) (by omega) _).mono ?_; rintro en w1 ⟨rfl, rfl⟩) | (go_at_call 75; refine (turn_yes _).mono ?_; rintro en w1 ⟨rfl, rfl⟩) | (go_at_call 76; refine (hops_ask _).mono ?_; rintro en w1 ⟨rfl, rfl⟩) | (go_at_call 77; refine (between_ask _).mono ?_; rintro en w1 ⟨rfl, rfl⟩) | (go_at_call 78; refine (HE.out _).mono ?_; rintro en w2 ⟨rfl, hb2⟩; have hld2 := hid (msg_load (holds hb2 HX.out) rfl)) | (go_at_call 79; refine (HA.out _ (below_trans hbl hb2)).mono ?_; rintro en w3 ⟨rfl, hb3⟩))
  go_ret
  exact ⟨rfl, below_trans (below_trans hbl hb2) hb3⟩

set_option maxHeartbeats 1000000 in
set_option maxRecDepth 100000 in
theorem right_hub (point a b : Nat) (bx : Value) (w : World) : Calls Tryz.prog 36 #[.int .i64 1, askV 1 point 1 a b bx] w fun en w' => en = .returned (.bool false) ∧ Below w.heap.size w w' := by
  unfold askV
  go_enter Tryz.func36, Tryz.ntmps36
  go_wp2_with (first | (go_at_call 75; refine (within_small _ _ _ (by omega) (by omega) (by omega) _).mono ?_; rintro en w1 ⟨rfl, rfl⟩) | (go_at_call 75; refine (within_no _ _ _ (by omega) _).mono ?_; rintro en w1 ⟨rfl, rfl⟩))
  go_ret
  exact ⟨rfl, alloc_below _ _⟩
set_option maxHeartbeats 1000000 in
set_option maxRecDepth 100000 in
theorem right_op (point a b : Nat) (bx : Value) (w : World) : Calls Tryz.prog 36 #[.int .i64 1, askV 0 point 0 a b bx] w fun en w' => en = .returned (.bool false) ∧ Below w.heap.size w w' := by
  unfold askV
  go_enter Tryz.func36, Tryz.ntmps36
  go_wp2_with (first | (go_at_call 75; refine (within_small _ _ _ (by omega) (by omega) (by omega) _).mono ?_; rintro en w1 ⟨rfl, rfl⟩) | (go_at_call 75; refine (within_no _ _ _ (by omega) _).mono ?_; rintro en w1 ⟨rfl, rfl⟩))
  go_ret
  exact ⟨rfl, alloc_below _ _⟩
end Go.Proofs.YtdllibalmjadhaaGreat

namespace Go.Proofs.YtdllibalmjadhaaGreat
open Go Go.RowKit

/-- A deed with a hub. -/
def deedV (kind hub : Int) (point : Nat) : Value := .agg #[.int .i64 kind, .int .i64 hub, .int .u32 point, .int .i64 0, .int .i64 0, .int .u32 0, .slice none 0 0, .slice none 0 0, .int .i64 0, .slice none 0 0, .int .i64 0, .slice none 0 0]

set_option maxRecDepth 100000 in
theorem change_nil (kind hub : Int) (point : Nat) (w : World) : Calls Tryz.prog 10 #[.pointer none, deedV kind hub point] w fun en w' => en = .returned (.int .i64 2) ∧ Below w.heap.size w w' := by
  unfold deedV
  go_enter Tryz.func10, Tryz.ntmps10
  go_wp2
  go_ret
  exact ⟨rfl, alloc_below _ _⟩
set_option maxRecDepth 100000 in
theorem change_kind (nb : Nat) (hub : Int) (point : Nat) (w : World) : Calls Tryz.prog 10 #[.pointer (some ⟨nb, 0, none⟩), deedV 5 hub point] w fun en w' => en = .returned (.int .i64 19) ∧ Below w.heap.size w w' := by
  unfold deedV
  go_enter Tryz.func10, Tryz.ntmps10
  go_wp2
  go_ret
  exact ⟨rfl, alloc_below _ _⟩
set_option maxRecDepth 100000 in
theorem change_hub (nb hb rb : Nat) (turn : Int) (point : Nat) (w : World) (h : NodesAt w nb hb rb turn) : Calls Tryz.prog 10 #[.pointer (some ⟨nb, 0, none⟩), deedV 1 1 point] w fun en w' => en = .returned (.int .i64 10) ∧ Below w.heap.size w w' := by
  have HN := hid fun w' (hb' : Below w.heap.size w w') => nodeHub_none nb hb rb turn 1 w' (h.below hb') (.inr (by omega))
  unfold deedV
  go_enter Tryz.func10, Tryz.ntmps10
  go_wp2_with (go_at_call 30; refine (HN.out _ (alloc_below _ _)).mono ?_; rintro en w1 ⟨rfl, rfl⟩)
  go_ret
  exact ⟨rfl, alloc_below _ _⟩

/-- A deed that crashes a node, at its hub. -/
theorem call_crash (nb hb rb : Nat) (turn : Int) (point : Nat) (w : World) (h : NodesAt w nb hb rb turn) (post : Ending → World → Prop)
    (hc : ∀ w', Below w.heap.size w w' → Calls Tryz.prog 62 #[.pointer (some ⟨hb, 0, none⟩), .int .u32 point] w' fun en w'' => ∃ k : Int, en = .returned (.int .i64 k) ∧ post (.returned (.int .i64 k)) w'') :
    Calls Tryz.prog 31 #[.pointer (some ⟨nb, 0, none⟩), deedV 3 0 point] w post := by
  obtain ⟨⟨g, cap, h1, h2⟩, _, _, _⟩ := h
  have HC := hid hc
  clear hc
  unfold deedV
  go_enter Tryz.func31, Tryz.ntmps31
  go_wp2_with (fail)
  refine wp_region_b [] (by kernel_rfl) (by kernel_rfl) ?_
  intro E _ hE hI
  have a1 : ∀ w' : InD E, w'.val.cell? ⟨nb, 2, none⟩ = some (.slice (some ⟨g, 0, none⟩) 1 cap) := fun w' => stays (hE w') (stays (alloc_below _ _) h1)
  have a2 : ∀ w' : InD E, w'.val.cell? ⟨g, 0, none⟩ = some (.pointer (some ⟨hb, 0, none⟩)) := fun w' => stays (hE w') (stays (alloc_below _ _) h2)
  have a3 : ∀ w' : InD E, w'.val.cell? ⟨w.heap.size, 1, none⟩ = some (.int .i64 0) := fun w' => cellOf (holds (hE w') (heap1 _ _)) 1
  repeat (refine wpX_step (fun K hK => ?_); go_simp; refine hK _ _ ?_; clear hK K)
  refine wpX_nil ?_
  intro w1 hw1
  have hb1 := hE ⟨w1, hw1⟩
  have c0 : w1.cell? ⟨w.heap.size, 0, none⟩ = some (.int .i64 3) := cellOf (holds hb1 (heap1 _ _)) 0
  have c2 : w1.cell? ⟨w.heap.size, 2, none⟩ = some (.int .u32 point) := cellOf (holds hb1 (heap1 _ _)) 2
  have hbw := below_trans (alloc_below _ _) hb1
  clear a1 a2 a3 hI
  go_wp2_with (go_at_call 62; refine (HC.out _ hbw).mono ?_; rintro en w2 ⟨k, rfl, hp⟩)
  exact hp

theorem deed_load {w : World} {b : Nat} {cs : Array Value} {T : TypeId} {fz : Nat × Nat} (h : w.heap[b]? = some (.cells cs T fz)) (hn : cs.size = 12) : (loadVar 35 ⟨b, 0, none⟩).run Tryz.prog w = .ok (.agg cs) w :=
  run_loadVar_row w b T 35 cs fz _ h Tryz.underlying35 rfl (by rw [hn]; kernel_rfl)

/-- The deed, as it lies. -/
def deedBox (point : Nat) : Obj := (.cells #[.int .i64 3, .int .i64 0, .int .u32 point, .int .i64 0, .int .i64 0, .int .u32 0, .slice none 0 0, .slice none 0 0, .int .i64 0, .slice none 0 0, .int .i64 0, .slice none 0 0] 35 (0, 0))

set_option maxRecDepth 100000 in
/-- A deed that crashes a node. -/
theorem change_crash (nb hb rb : Nat) (turn : Int) (point : Nat) (w : World) (h : NodesAt w nb hb rb turn) (post : Ending → World → Prop)
    (hc : ∀ w', Below w.heap.size w w' → w'.heap[w.heap.size]? = some (deedBox point) → Calls Tryz.prog 62 #[.pointer (some ⟨hb, 0, none⟩), .int .u32 point] w' fun en w'' => ∃ k : Int, en = .returned (.int .i64 k) ∧ post (.returned (.int .i64 k)) w'' ∧ w''.cell? ⟨w.heap.size, 0, none⟩ = some (.int .i64 3)) :
    Calls Tryz.prog 10 #[.pointer (some ⟨nb, 0, none⟩), deedV 3 0 point] w post := by
  have hx := heap1 w (.cells #[.int .i64 3, .int .i64 0, .int .u32 point, .int .i64 0, .int .i64 0, .int .u32 0, .slice none 0 0, .slice none 0 0, .int .i64 0, .slice none 0 0, .int .i64 0, .slice none 0 0] 35 (0, 0))
  have HN := hid fun w' (hb' : Below w.heap.size w w') => nodeHub_some nb hb rb turn w' (h.below hb')
  have HC := hid (call_crash nb hb rb turn point _ (h.below (alloc_below w (.cells #[.int .i64 3, .int .i64 0, .int .u32 point, .int .i64 0, .int .i64 0, .int .u32 0, .slice none 0 0, .slice none 0 0, .int .i64 0, .slice none 0 0, .int .i64 0, .slice none 0 0] 35 (0, 0)))) (fun en w'' => (∃ k : Int, en = .returned (.int .i64 k)) ∧ post en w'' ∧ w''.cell? ⟨w.heap.size, 0, none⟩ = some (.int .i64 3)) fun w1 hb1 => (hc w1 (below_trans (alloc_below _ _) hb1) (holds hb1 hx)).mono fun en w'' ⟨k, he, h1, h2⟩ => ⟨k, he, ⟨k, rfl⟩, h1, h2⟩)
  clear hc
  have hld := hid (deed_load hx rfl)
  clear hx
  unfold deedV at *
  go_enter Tryz.func10, Tryz.ntmps10
  go_wp2_with (first | (refine wpList_load 35 _ rfl rfl rfl hld.out ?_) | (go_at_call 30; refine (HN.out _ (alloc_below _ _)).mono ?_; rintro en w1 ⟨rfl, rfl⟩) | (go_at_call 31; refine HC.out.mono ?_; rintro en w2 ⟨⟨k, rfl⟩, hp, hk⟩))
  exact hp

/-- All nodes, of which one crashed. -/
def NodesPost (w : World) (fr : Chunk) (nb : Nat) (N : NodesS) (r : Value) (en : Ending) (w' : World) : Prop := ∃ c', en = .returned r ∧ IsNodes c' nb N ∧ Ok w' (c' ++ fr) ∧ Same w w'
theorem Ok.also {w w' : World} {c : Chunk} {b : Nat} {o : Obj} (h : Ok w c) (k : Below w.heap.size w w') (hb : w.heap.size ≤ b) (ho : w'.heap[b]? = some o) : Ok w' ((b, o) :: c) := by
  refine ⟨?_, fun x y hx => ?_⟩
  · rw [List.map_cons, List.nodup_cons]
    exact ⟨fun hm => by have := h.lt' hm; omega, h.nd⟩
  · rcases List.mem_cons.1 hx with hx | hx
    · cases hx; exact ho
    · exact (h.below k).own x y hx
theorem nodes_crash (c fr : Chunk) (nb point : Nat) (N : NodesS) (hbare : N.hub.bare) (w : World) (hok : Ok w (c ++ fr)) (h : IsNodes c nb N) (hl : N.hub.lives point = true) :
    Calls Tryz.prog 10 #[.pointer (some ⟨nb, 0, none⟩), deedV 3 0 point] w (NodesPost w fr nb { N with hub := N.hub.crashed point } (.int .i64 0)) := by
  obtain ⟨hb, rb, cH, rest, hat, hhub, _, hok', hback⟩ := h.open hok
  refine change_crash nb hb rb N.turn point w hat _ fun w' hb' hbox => ?_
  have h1 : Ok w' ((w.heap.size, deedBox point) :: (cH ++ (rest ++ fr))) := hok'.also hb' (Nat.le_refl _) hbox
  have h2 : Ok w' (cH ++ ((w.heap.size, deedBox point) :: (rest ++ fr))) := h1.cnt (by intro x hx; simp at hx ⊢; try grind) (by intro b; simp; try (first | omega | (simp [List.count_cons]; omega)))
  refine (crash_lives cH _ hb point N.hub hbare w' h2 hhub hl).mono ?_
  rintro en w'' ⟨cH', rfl, hhub', hok'', hs''⟩
  have h3 : Ok w'' (cH' ++ (rest ++ fr)) := hok''.sublist (List.Sublist.append_left (List.sublist_cons_self _ _) _)
  obtain ⟨c', hN', hokc⟩ := hback w'' cH' (N.hub.crashed point) rfl hhub' h3
  refine ⟨0, rfl, ⟨c', rfl, hN', hokc, ((Same.refl w).below hb').trans hs''⟩, ?_⟩
  exact cellOf (hok''.get (b := w.heap.size) (o := (.cells #[.int .i64 3, .int .i64 0, .int .u32 point, .int .i64 0, .int .i64 0, .int .u32 0, .slice none 0 0, .slice none 0 0, .int .i64 0, .slice none 0 0, .int .i64 0, .slice none 0 0] 35 (0, 0))) (List.mem_append.2 (.inr (List.mem_cons.2 (.inl rfl))))) 0
end Go.Proofs.YtdllibalmjadhaaGreat

namespace Go.Proofs.YtdllibalmjadhaaGreat
open Go Go.RowKit

section
variable {P : Program} {ops : Array Oper} {D : World → Prop} {eff : Nat → Bool}
theorem wpX_load {Q : Act → World → Prop} {k : Nat} {op : Op} {dst : Option Nat} {ty : TypeId} {pos : String} {after : Array Edge} {rest : List Oper} {C : World → Prop} {a : Act} (T : TypeId) (x : Operand) {ad : Addr} {v : Value}
    (ho : op = .load T x) (he : eff k = false) (hx : a.eval x = .pointer (some ad)) (hr : ∀ w : InD D, (loadVar T ad).run P w.val = .ok v w.val)
    (h : wpX P ops D eff Q (k + 1) rest C (a.put dst v)) : wpX P ops D eff Q k ({ dst := dst, op := op, type := ty, pos := pos, after := after, guard := none } :: rest) C a := by
  simp only [wpX, Region.wanted, if_true, xOper, he, Bool.false_eq_true, if_false]
  refine ⟨v, fun w => ?_, h⟩
  unfold plainAt
  rw [exec_load _ a w.val T x ho hx (hr w)]
  exact ⟨rfl, rfl⟩
end

set_option maxRecDepth 100000 in
theorem do_form (nb hb rb : Nat) (turn : Int) (hub op : Int) (point a b : Nat) (bx : Value) (hbx : ∃ s n c, bx = .slice s n c) (w : World) (h : NodesAt w nb hb rb turn)
    (hr : ∀ w', Calls Tryz.prog 36 #[.int .i64 1, askV hub point op a b bx] w' fun en w'' => en = .returned (.bool false) ∧ Below w'.heap.size w' w'') :
    Calls Tryz.prog 14 #[.pointer (some ⟨nb, 0, none⟩), askV hub point op a b bx] w fun en w' => en = .returned (.tuple #[.slice none 0 0, .int .i64 4]) ∧ Below w.heap.size w w' := by
  obtain ⟨sa, sn, sc, rfl⟩ := hbx
  have h0 := h.attrs
  have HR := hid hr
  clear hr h
  unfold askV at *
  go_enter Tryz.func14, Tryz.ntmps14
  go_wp2_with (fail)
  refine wp_region_b [5] (by kernel_rfl) (by kernel_rfl) ?_
  intro E _ hE hI
  have a1 : ∀ w' : InD E, w'.val.cell? ⟨nb, 0, none⟩ = some (.int .i64 1) := fun w' => stays (hE w') (stays (alloc_below _ _) h0)
  have hld := hid fun w' : InD E => msg_load (holds (hE w') (heap1 _ _)) rfl
  repeat (refine wpX_step (fun K hK => ?_); go_simp; refine hK _ _ ?_; clear hK K)
  refine wpX_load 53 _ rfl rfl rfl hld.out ?_
  repeat (refine wpX_step (fun K hK => ?_); go_simp; refine hK _ _ ?_; clear hK K)
  refine wpX_step (fun K hK => ?_); go_simp
  refine ⟨fun u w' => u = .bool false ∧ E w', fun w' hw' => (HR.out w').mono fun en w'' ⟨he, hb'⟩ => ⟨_, he, rfl, hI _ (below_trans (hE ⟨w', hw'⟩) hb')⟩, fun u w h => h.2, ?_⟩
  rintro u y ⟨rfl, _⟩
  refine hK _ _ ?_; clear hK K
  repeat (refine wpX_step (fun K hK => ?_); go_simp; refine hK _ _ ?_; clear hK K)
  refine wpX_nil ?_
  intro w1 hw1
  have hbw := below_trans (alloc_below _ _) (hE ⟨w1, hw1⟩)
  go_wp2
  refine bodyPost_ret (v := .tuple #[.slice none 0 0, .int .i64 4]) (by simp only [results, Tryz.results14]; go_simp) rfl ⟨rfl, hbw⟩

set_option maxHeartbeats 1000000 in
set_option maxRecDepth 100000 in
/-- Do, up to whether the node is alive. -/
theorem do_node (nb hb rb : Nat) (turn : Int) (op : Int) (point a b : Nat) (bx : Value) (hbx : ∃ s n c, bx = .slice s n c) (w : World) (h : NodesAt w nb hb rb turn)
    (hr : ∀ w', Below w.heap.size w w' → Calls Tryz.prog 36 #[.int .i64 1, askV 0 point op a b bx] w' fun en w'' => en = .returned (.bool true) ∧ Below w'.heap.size w' w'')
    (ha : ∀ w', Below w.heap.size w w' → Calls Tryz.prog 25 #[.pointer (some ⟨hb, 0, none⟩), .int .u32 point] w' fun en w'' => en = .returned (.bool false) ∧ w' = w'') :
    Calls Tryz.prog 14 #[.pointer (some ⟨nb, 0, none⟩), askV 0 point op a b bx] w fun en w' => en = .returned (.tuple #[.slice none 0 0, .int .i64 11]) ∧ Below w.heap.size w w' := by
  obtain ⟨sa, sn, sc, rfl⟩ := hbx
  have h0 := h.attrs
  obtain ⟨g, cap, g1, g2⟩ := h.hubs
  have HR := hid hr
  have HA := hid ha
  clear hr ha h
  unfold askV at *
  go_enter Tryz.func14, Tryz.ntmps14
  go_wp2_with (fail)
  refine wp_region_b [5] (by kernel_rfl) (by kernel_rfl) ?_
  intro E _ hE hI
  have a1 : ∀ w' : InD E, w'.val.cell? ⟨nb, 0, none⟩ = some (.int .i64 1) := fun w' => stays (hE w') (stays (alloc_below _ _) h0)
  have hld := hid fun w' : InD E => msg_load (holds (hE w') (heap1 _ _)) rfl
  repeat (refine wpX_step (fun K hK => ?_); go_simp; refine hK _ _ ?_; clear hK K)
  refine wpX_load 53 _ rfl rfl rfl hld.out ?_
  repeat (refine wpX_step (fun K hK => ?_); go_simp; refine hK _ _ ?_; clear hK K)
  refine wpX_step (fun K hK => ?_); go_simp
  refine ⟨fun u w' => u = .bool true ∧ E w', fun w' hw' => (HR.out w' (below_trans (alloc_below _ _) (hE ⟨w', hw'⟩))).mono fun en w'' ⟨he, hb'⟩ => ⟨_, he, rfl, hI _ (below_trans (hE ⟨w', hw'⟩) hb')⟩, fun u w h => h.2, ?_⟩
  rintro u y ⟨rfl, _⟩
  refine hK _ _ ?_; clear hK K
  repeat (refine wpX_step (fun K hK => ?_); go_simp; refine hK _ _ ?_; clear hK K)
  refine wpX_nil ?_
  intro w1 hw1
  have hb1 := hE ⟨w1, hw1⟩
  have hbw := below_trans (alloc_below _ _) hb1
  have hx1 := holds hb1 (heap1 _ _)
  have c0 : w1.cell? ⟨w.heap.size, 0, none⟩ = some (.int .i64 5) := cellOf hx1 0
  clear a1 hld hI hE hb1
  go_wp2_with (fail)
  refine wp_region_b [10] (by kernel_rfl) (by kernel_rfl) ?_
  intro E2 _ hE2 hI2
  have b1 : ∀ w' : InD E2, w'.val.cell? ⟨nb, 2, none⟩ = some (.slice (some ⟨g, 0, none⟩) 1 cap) := fun w' => stays (hE2 w') (stays hbw g1)
  have b2 : ∀ w' : InD E2, w'.val.cell? ⟨g, 0, none⟩ = some (.pointer (some ⟨hb, 0, none⟩)) := fun w' => stays (hE2 w') (stays hbw g2)
  have b3 : ∀ w' : InD E2, w'.val.cell? ⟨w.heap.size, 1, none⟩ = some (.int .i64 0) := fun w' => cellOf (holds (hE2 w') hx1) 1
  have b4 : ∀ w' : InD E2, w'.val.cell? ⟨w.heap.size, 2, none⟩ = some (.int .u32 point) := fun w' => cellOf (holds (hE2 w') hx1) 2
  repeat (refine wpX_step (fun K hK => ?_); go_simp; refine hK _ _ ?_; clear hK K)
  refine wpX_step (fun K hK => ?_); go_simp
  refine ⟨fun u w' => u = .bool false ∧ E2 w', fun w' hw' => (HA.out w' (below_trans hbw (hE2 ⟨w', hw'⟩))).mono fun en w'' ⟨he, hb'⟩ => ⟨_, he, rfl, hb' ▸ hw'⟩, fun u w h => h.2, ?_⟩
  rintro u y ⟨rfl, _⟩
  refine hK _ _ ?_; clear hK K
  repeat (refine wpX_step (fun K hK => ?_); go_simp; refine hK _ _ ?_; clear hK K)
  refine wpX_nil ?_
  intro w2 hw2
  have hbw2 := below_trans hbw (hE2 ⟨w2, hw2⟩)
  clear hI2 b1 b2 b3 b4
  go_wp2
  refine bodyPost_ret (v := .tuple #[.slice none 0 0, .int .i64 11]) (by simp only [results, Tryz.results14]; go_simp) rfl ⟨rfl, hbw2⟩
end Go.Proofs.YtdllibalmjadhaaGreat
