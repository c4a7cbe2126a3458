/- The only node of a new hub answers. -/
import Derived.Test.YtdllibalmjadhaaGreatE27

namespace Go.Proofs.YtdllibalmjadhaaGreat
open Go Go.RowKit

theorem hub1_pts (reps : Nat) : (hub1 reps).pts = [4294967295] := rfl
theorem hub1_lives (reps : Nat) : (hub1 reps).lives 4294967295 = true := by simp [HubS.lives, hub1_pts]; rfl
theorem hub1_bare (reps : Nat) : (hub1 reps).bare := ⟨rfl, rfl⟩
theorem ringOk1 : RingOk [4294967295] := ⟨by simp, by simp, by simp⟩

/-- What an answer is. -/
def OneAnswer (w : World) (en : Ending) (w' : World) : Prop := ∃ x, en = .returned (.tuple #[.slice (some ⟨x, 0, none⟩) 1 1, .int .i64 0]) ∧ w'.heap[x]? = some (.cells (answerM 0 1 5 9).cells 53 (0, 0)) ∧ Below w.heap.size w w'

theorem do_awake (c fr : Chunk) (nb : Nat) (N : NodesS) (w : World) (hok : Ok w (c ++ fr)) (h : IsNodes c nb N) (hp : N.hub.pts = [4294967295]) (hbare : N.hub.bare) (hl : N.hub.lives 4294967295 = true) (bb : Nat) (hbox : AnyBox w bb) :
    Calls Tryz.prog 14 #[.pointer (some ⟨nb, 0, none⟩), .agg (askC 4294967295 0 1 5 9 (.slice (some ⟨bb, 0, none⟩) 1 1)).cells] w (OneAnswer w) := by
  obtain ⟨hb, rb, cH, rest, hat, hhub, hring, hok', _⟩ := h.open hok
  rw [hp] at hring
  refine do_ask nb hb rb N.turn (askC 4294967295 0 1 5 9 (.slice (some ⟨bb, 0, none⟩) 1 1)) rfl rfl w hat (OneAnswer w) (fun w' hw' => right_ask 4294967295 5 9 bb w' (hbox.below hw')) (fun w' hw' => ?_) (fun w' hw' => ?_)
  · exact (Alive_any [] cH (rest ++ fr) hb N.hub 4294967295 w' (hok'.below hw') hhub).mono fun en w'' ⟨h1, h2⟩ => ⟨by rw [h1, hl], h2⟩
  · refine (ask_one nb hb rb N.turn 4294967295 0 1 5 9 4294967290 4 _ w' (hat.below hw') (by decide) (by decide) (fun w'' hw'' => ?_) (fun w'' => far_any 5 4294967295 (by decide) (by decide) w'') (fun w'' => size_any 5 9 (by decide) (by decide) w'') (fun w'' hw'' => ?_)).mono ?_
    · exact owner_some rb 6 [4294967295] w'' ((hring.below hw').below hw'') ringOk1 (by simp)
    · exact hubShelf_bare cH (rest ++ fr) hb 4294967295 N.hub hbare w'' ((hok'.below hw').below hw'') hhub hl
    · rintro en w'' ⟨x, h1, h2, h3⟩
      exact ⟨_, _, h1, x, rfl, h2, below_trans hw' h3⟩

theorem built_awake (b : Nat) : Tryz.prog.built 53 [(0, .int .i64 5), (4, .int .i64 1), (2, .int .u32 4294967295), (11, .slice (some ⟨b, 0, none⟩) 1 1), (10, .agg #[.int .u32 5, .int .u32 9])] = some (askC 4294967295 0 1 5 9 (.slice (some ⟨b, 0, none⟩) 1 1)).cells := by
  rw [built_msg]; kernel_rfl
theorem anybox_new (w : World) : AnyBox (w.alloc (.cells #[.int .i64 1, .int .u32 0, .int .u32 0] 61)) w.heap.size := ⟨cellOf (heap1 _ _) 0, cellOf (heap1 _ _) 1, cellOf (heap1 _ _) 2⟩

set_option maxHeartbeats 1000000 in
set_option maxRecDepth 100000 in
theorem nodeAwake_any (w : World) : Calls Tryz.prog 9 #[] w fun en w' => en = .returned (.bool true) ∧ Below w.heap.size w w' := by
  have HN := hid (nodeNew_any 0 2 1 (by decide) (by decide) w)
  have HD := hid fun (nb : Nat) (c : Chunk) (w' : World) (hok : Ok w' (c ++ allOf w)) (hN : IsNodes c nb ⟨0, hub1 2, 0, 1, [], []⟩) => do_awake c (allOf w) nb _ (w'.alloc (.cells #[.int .i64 1, .int .u32 0, .int .u32 0] 61)) (hok.keep _) hN rfl (hub1_bare 2) (hub1_lives 2) w'.heap.size (anybox_new w')
  go_enter Tryz.func9, Tryz.ntmps9
  go_wp2_with (first | (go_at_call 8; refine HN.out.mono ?_; rintro en w1 ⟨nb, c, rfl, hN, hF⟩; have HD1 := hid (HD.out nb c w1 hF.ok hN); have hbw1 := hF.below; clear HD HN hN hF) | ((with_reducible apply wpList_buildT 53 (askC 4294967295 0 1 5 9 (.slice (some ⟨w1.heap.size, 0, none⟩) 1 1)).cells); exact built_awake _) | (go_at_call 14; refine HD1.out.mono ?_; rintro en w2 ⟨x, rfl, hx, hb2⟩; have c0 : w2.cell? ⟨x, 0, none⟩ = some (.int .i64 6) := cellOf hx 0; have c14 : w2.cell? ⟨x, 14, none⟩ = some (.int .u32 5) := cellOf hx 14; have c15 : w2.cell? ⟨x, 15, none⟩ = some (.int .u32 9) := cellOf hx 15))
  go_ret
  exact ⟨rfl, below_trans hbw1 (below_trans (alloc_below _ _) hb2)⟩
end Go.Proofs.YtdllibalmjadhaaGreat
