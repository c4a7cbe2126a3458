/- Deeds with all nodes of one hub: those that are none; crashes. -/
import Derived.Test.YtdllibalmjadhaaGreatNode1
import Derived.Test.YtdllibalmjadhaaGreatRight
namespace Go.Proofs.YtdllibalmjadhaaGreat
open Go Go.RowKit

/-- A deed with a hub. -/
def deedV (kind hub : Int) (point : Nat) : Value := .agg #[.int .i64 kind, .int .i64 hub, .int .u32 point, .int .i64 0, .int .i64 0, .int .u32 0, .slice none 0 0, .slice none 0 0, .int .i64 0, .slice none 0 0, .int .i64 0, .slice none 0 0]

set_option maxRecDepth 100000 in
theorem change_nil (kind hub : Int) (point : Nat) (w : World) : Calls Tryz.prog 10 #[.pointer none, deedV kind hub point] w fun en w' => en = .returned (.int .i64 2) ∧ Below w.heap.size w w' := by
  unfold deedV
  go_enter Tryz.func10, Tryz.ntmps10
  go_wp2
  go_ret
  exact ⟨rfl, alloc_below _ _⟩
set_option maxRecDepth 100000 in
theorem change_kind (nb : Nat) (hub : Int) (point : Nat) (w : World) : Calls Tryz.prog 10 #[.pointer (some ⟨nb, 0, none⟩), deedV 5 hub point] w fun en w' => en = .returned (.int .i64 19) ∧ Below w.heap.size w w' := by
  unfold deedV
  go_enter Tryz.func10, Tryz.ntmps10
  go_wp2
  go_ret
  exact ⟨rfl, alloc_below _ _⟩
set_option maxRecDepth 100000 in
theorem change_hub (nb hb rb : Nat) (turn : Int) (point : Nat) (w : World) (h : NodesAt w nb hb rb turn) : Calls Tryz.prog 10 #[.pointer (some ⟨nb, 0, none⟩), deedV 1 1 point] w fun en w' => en = .returned (.int .i64 10) ∧ Below w.heap.size w w' := by
  have HN := hid fun w' (hb' : Below w.heap.size w w') => nodeHub_none nb hb rb turn 1 w' (h.below hb') (.inr (by omega))
  unfold deedV
  go_enter Tryz.func10, Tryz.ntmps10
  go_wp2_with (go_at_call 30; refine (HN.out _ (alloc_below _ _)).mono ?_; rintro en w1 ⟨rfl, rfl⟩)
  go_ret
  exact ⟨rfl, alloc_below _ _⟩

/-- A deed that crashes a node, at its hub. -/
theorem call_crash (nb hb rb : Nat) (turn : Int) (point : Nat) (w : World) (h : NodesAt w nb hb rb turn) (post : Ending → World → Prop)
    (hc : ∀ w', Below w.heap.size w w' → Calls Tryz.prog 62 #[.pointer (some ⟨hb, 0, none⟩), .int .u32 point] w' fun en w'' => ∃ k : Int, en = .returned (.int .i64 k) ∧ post (.returned (.int .i64 k)) w'') :
    Calls Tryz.prog 31 #[.pointer (some ⟨nb, 0, none⟩), deedV 3 0 point] w post := by
  obtain ⟨⟨g, cap, h1, h2⟩, _, _, _⟩ := h
  have HC := hid hc
  clear hc
  unfold deedV
  go_enter Tryz.func31, Tryz.ntmps31
  go_wp2_with (fail)
  refine wp_region_b [] (by kernel_rfl) (by kernel_rfl) ?_
  intro E _ hE hI
  have a1 : ∀ w' : InD E, w'.val.cell? ⟨nb, 2, none⟩ = some (.slice (some ⟨g, 0, none⟩) 1 cap) := fun w' => stays (hE w') (stays (alloc_below _ _) h1)
  have a2 : ∀ w' : InD E, w'.val.cell? ⟨g, 0, none⟩ = some (.pointer (some ⟨hb, 0, none⟩)) := fun w' => stays (hE w') (stays (alloc_below _ _) h2)
  have a3 : ∀ w' : InD E, w'.val.cell? ⟨w.heap.size, 1, none⟩ = some (.int .i64 0) := fun w' => cellOf (holds (hE w') (heap1 _ _)) 1
  repeat (refine wpX_step (fun K hK => ?_); go_simp; refine hK _ _ ?_; clear hK K)
  refine wpX_nil ?_
  intro w1 hw1
  have hb1 := hE ⟨w1, hw1⟩
  have c0 : w1.cell? ⟨w.heap.size, 0, none⟩ = some (.int .i64 3) := cellOf (holds hb1 (heap1 _ _)) 0
  have c2 : w1.cell? ⟨w.heap.size, 2, none⟩ = some (.int .u32 point) := cellOf (holds hb1 (heap1 _ _)) 2
  have hbw := below_trans (alloc_below _ _) hb1
  clear a1 a2 a3 hI
  go_wp2_with (go_at_call 62; refine (HC.out _ hbw).mono ?_; rintro en w2 ⟨k, rfl, hp⟩)
  exact hp

theorem deed_load {w : World} {b : Nat} {cs : Array Value} {T : TypeId} {fz : Nat × Nat} (h : w.heap[b]? = some (.cells cs T fz)) (hn : cs.size = 12) : (loadVar 35 ⟨b, 0, none⟩).run Tryz.prog w = .ok (.agg cs) w :=
  run_loadVar_row w b T 35 cs fz _ h Tryz.underlying35 rfl (by rw [hn]; kernel_rfl)

/-- The deed, as it lies. -/
def deedBox (point : Nat) : Obj := (.cells #[.int .i64 3, .int .i64 0, .int .u32 point, .int .i64 0, .int .i64 0, .int .u32 0, .slice none 0 0, .slice none 0 0, .int .i64 0, .slice none 0 0, .int .i64 0, .slice none 0 0] 35 (0, 0))

set_option maxRecDepth 100000 in
/-- A deed that crashes a node. -/
theorem change_crash (nb hb rb : Nat) (turn : Int) (point : Nat) (w : World) (h : NodesAt w nb hb rb turn) (post : Ending → World → Prop)
    (hc : ∀ w', Below w.heap.size w w' → w'.heap[w.heap.size]? = some (deedBox point) → Calls Tryz.prog 62 #[.pointer (some ⟨hb, 0, none⟩), .int .u32 point] w' fun en w'' => ∃ k : Int, en = .returned (.int .i64 k) ∧ post (.returned (.int .i64 k)) w'' ∧ w''.cell? ⟨w.heap.size, 0, none⟩ = some (.int .i64 3)) :
    Calls Tryz.prog 10 #[.pointer (some ⟨nb, 0, none⟩), deedV 3 0 point] w post := by
  have hx := heap1 w (.cells #[.int .i64 3, .int .i64 0, .int .u32 point, .int .i64 0, .int .i64 0, .int .u32 0, .slice none 0 0, .slice none 0 0, .int .i64 0, .slice none 0 0, .int .i64 0, .slice none 0 0] 35 (0, 0))
  have HN := hid fun w' (hb' : Below w.heap.size w w') => nodeHub_some nb hb rb turn w' (h.below hb')
  have HC := hid (call_crash nb hb rb turn point _ (h.below (alloc_below w (.cells #[.int .i64 3, .int .i64 0, .int .u32 point, .int .i64 0, .int .i64 0, .int .u32 0, .slice none 0 0, .slice none 0 0, .int .i64 0, .slice none 0 0, .int .i64 0, .slice none 0 0] 35 (0, 0)))) (fun en w'' => (∃ k : Int, en = .returned (.int .i64 k)) ∧ post en w'' ∧ w''.cell? ⟨w.heap.size, 0, none⟩ = some (.int .i64 3)) fun w1 hb1 => (hc w1 (below_trans (alloc_below _ _) hb1) (holds hb1 hx)).mono fun en w'' ⟨k, he, h1, h2⟩ => ⟨k, he, ⟨k, rfl⟩, h1, h2⟩)
  clear hc
  have hld := hid (deed_load hx rfl)
  clear hx
  unfold deedV at *
  go_enter Tryz.func10, Tryz.ntmps10
  go_wp2_with (first | (refine wpList_load 35 _ rfl rfl rfl hld.out ?_) | (go_at_call 30; refine (HN.out _ (alloc_below _ _)).mono ?_; rintro en w1 ⟨rfl, rfl⟩) | (go_at_call 31; refine HC.out.mono ?_; rintro en w2 ⟨⟨k, rfl⟩, hp, hk⟩))
  exact hp

/-- All nodes, of which one crashed. -/
def NodesPost (w : World) (fr : Chunk) (nb : Nat) (N : NodesS) (r : Value) (en : Ending) (w' : World) : Prop := ∃ c', en = .returned r ∧ IsNodes c' nb N ∧ Ok w' (c' ++ fr) ∧ Same w w'
theorem Ok.also {w w' : World} {c : Chunk} {b : Nat} {o : Obj} (h : Ok w c) (k : Below w.heap.size w w') (hb : w.heap.size ≤ b) (ho : w'.heap[b]? = some o) : Ok w' ((b, o) :: c) := by
  refine ⟨?_, fun x y hx => ?_⟩
  · rw [List.map_cons, List.nodup_cons]
    exact ⟨fun hm => by have := h.lt' hm; omega, h.nd⟩
  · rcases List.mem_cons.1 hx with hx | hx
    · cases hx; exact ho
    · exact (h.below k).own x y hx
theorem nodes_crash (c fr : Chunk) (nb point : Nat) (N : NodesS) (hbare : N.hub.bare) (w : World) (hok : Ok w (c ++ fr)) (h : IsNodes c nb N) (hl : N.hub.lives point = true) :
    Calls Tryz.prog 10 #[.pointer (some ⟨nb, 0, none⟩), deedV 3 0 point] w (NodesPost w fr nb { N with hub := N.hub.crashed point } (.int .i64 0)) := by
  obtain ⟨hb, rb, cH, rest, hat, hhub, _, hok', hback⟩ := h.open hok
  refine change_crash nb hb rb N.turn point w hat _ fun w' hb' hbox => ?_
  have h1 : Ok w' ((w.heap.size, deedBox point) :: (cH ++ (rest ++ fr))) := hok'.also hb' (Nat.le_refl _) hbox
  have h2 : Ok w' (cH ++ ((w.heap.size, deedBox point) :: (rest ++ fr))) := h1.cnt (by intro x hx; simp at hx ⊢; try grind) (by intro b; simp; try (first | omega | (simp [List.count_cons]; omega)))
  refine (crash_lives cH _ hb point N.hub hbare w' h2 hhub hl).mono ?_
  rintro en w'' ⟨cH', rfl, hhub', hok'', hs''⟩
  have h3 : Ok w'' (cH' ++ (rest ++ fr)) := hok''.sublist (List.Sublist.append_left (List.sublist_cons_self _ _) _)
  obtain ⟨c', hN', hokc⟩ := hback w'' cH' (N.hub.crashed point) rfl hhub' h3
  refine ⟨0, rfl, ⟨c', rfl, hN', hokc, ((Same.refl w).below hb').trans hs''⟩, ?_⟩
  exact cellOf (hok''.get (b := w.heap.size) (o := (.cells #[.int .i64 3, .int .i64 0, .int .u32 point, .int .i64 0, .int .i64 0, .int .u32 0, .slice none 0 0, .slice none 0 0, .int .i64 0, .slice none 0 0, .int .i64 0, .slice none 0 0] 35 (0, 0))) (List.mem_append.2 (.inr (List.mem_cons.2 (.inl rfl))))) 0
end Go.Proofs.YtdllibalmjadhaaGreat
