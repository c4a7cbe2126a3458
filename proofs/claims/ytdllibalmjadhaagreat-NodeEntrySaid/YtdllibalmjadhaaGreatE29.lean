/- Nodes refuse: what is asked of them behind, and each message. -/
import Derived.Test.YtdllibalmjadhaaGreatE28

namespace Go.Proofs.YtdllibalmjadhaaGreat
open Go Go.RowKit

def deedC (kind hub : Int) (point : Nat) : Array Value := #[.int .i64 kind, .int .i64 hub, .int .u32 point, .int .i64 0, .int .i64 0, .int .u32 0, .slice none 0 0, .slice none 0 0, .int .i64 0, .slice none 0 0, .int .i64 0, .slice none 0 0]
theorem deedC_val (kind hub : Int) (point : Nat) : deedV kind hub point = .agg (deedC kind hub point) := rfl
theorem built_put : Tryz.prog.built 35 [(0, .int .i64 5)] = some (deedC 5 0 0) := by kernel_rfl
theorem built_join1 : Tryz.prog.built 35 [(0, .int .i64 1), (1, .int .i64 1)] = some (deedC 1 1 0) := by kernel_rfl
theorem built_crash1 : Tryz.prog.built 35 [(0, .int .i64 3), (2, .int .u32 4294967295)] = some (deedC 3 0 4294967295) := by kernel_rfl
theorem built_ask0 (b : Nat) : Tryz.prog.built 53 [(0, .int .i64 5), (4, .int .i64 1), (2, .int .u32 4294967295), (11, .slice (some ⟨b, 0, none⟩) 1 1)] = some (askC 4294967295 0 1 0 0 (.slice (some ⟨b, 0, none⟩) 1 1)).cells := by
  rw [built_msg]; kernel_rfl
theorem built_answer0 : Tryz.prog.built 53 [(0, .int .i64 6), (4, .int .i64 1)] = some (answerM 0 1 0 0).cells := by
  rw [built_msg]; kernel_rfl

/-- What is asked of nodes behind. -/
structure Rest (w : World) (nb : Nat) : Prop where
  kind : ∀ w', Below w.heap.size w w' → Calls Tryz.prog 10 #[.pointer (some ⟨nb, 0, none⟩), .agg (deedC 5 0 0)] w' fun en w'' => en = .returned (.int .i64 19) ∧ Below w'.heap.size w' w''
  hub : ∀ w', Below w.heap.size w w' → Calls Tryz.prog 10 #[.pointer (some ⟨nb, 0, none⟩), .agg (deedC 1 1 0)] w' fun en w'' => en = .returned (.int .i64 10) ∧ Below w'.heap.size w' w''
  h1 : ∀ (i : Int) w', i < 0 ∨ 1 ≤ i → Below w.heap.size w w' → Calls Tryz.prog 11 #[.pointer (some ⟨nb, 0, none⟩), .int .i64 i] w' fun en w'' => en = .returned (.pointer none) ∧ w' = w''
  loads : ∀ w', Below w.heap.size w w' → Calls Tryz.prog 18 #[.pointer (some ⟨nb, 0, none⟩), .int .i64 1] w' fun en w'' => en = .returned (.slice none 0 0) ∧ Below w'.heap.size w' w''
  links : ∀ w', Below w.heap.size w w' → Calls Tryz.prog 19 #[.pointer (some ⟨nb, 0, none⟩), .int .i64 (-1), .int .u32 0] w' fun en w'' => en = .returned (.slice none 0 0) ∧ w' = w''
theorem Rest.of {c fr : Chunk} {nb : Nat} {N : NodesS} {w : World} (hok : Ok w (c ++ fr)) (h : IsNodes c nb N) (hk : N.known = []) : Rest w nb := by
  obtain ⟨hb, rb, cH, rest, hat, _, _, _, _⟩ := h.open hok
  refine ⟨fun w' _ => change_kind nb 0 0 w', fun w' hb' => change_hub nb hb rb N.turn 0 w' (hat.below hb'), fun i w' hi hb' => nodesHub_none nb hb rb N.turn i w' (hat.below hb') hi, fun w' hb' => loads_none nb hb rb N.turn 1 w' (hat.below hb') (.inr (by omega)), fun w' hb' => ?_⟩
  obtain ⟨hs, ch, hb, cH, rs, cr, rb, cR, ts, ct, km, karr, kclk, wm, warr, wclk, db, rfl, h1, h2, h3, h4, h5, h6, h7⟩ := h
  have hnb := hok.get (b := nb) (o := .cells #[.int .i64 1, .int .i64 N.links, hs, rs, ts, .map (some km), .map (some wm), .pointer (some ⟨db, 0, none⟩)] 81 (0, 0)) (by simp)
  have hkm := hok.get (b := km) (o := .map karr kclk) (by simp)
  rw [hk] at h6
  exact links_none nb km kclk karr (-1) 0 w' (cellOf (holds hb' hnb) 5) (holds hb' hkm) h6

/-- What Do answers: so many messages, and why. -/
def DoPost (w : World) (n : Nat) (e : Int) (en : Ending) (w' : World) : Prop := ∃ a k, en = .returned (.tuple #[.slice a n k, .int .i64 e]) ∧ Below w.heap.size w w'

section
variable {c fr : Chunk} {nb : Nat} {N : NodesS} {w : World} {bb : Nat}
theorem do_op0 (hok : Ok w (c ++ fr)) (h : IsNodes c nb N) : Calls Tryz.prog 14 #[.pointer (some ⟨nb, 0, none⟩), .agg (askC 4294967295 0 0 0 0 (.slice (some ⟨bb, 0, none⟩) 1 1)).cells] w (DoPost w 0 4) := by
  obtain ⟨hb, rb, cH, rest, hat, _, _, _, _⟩ := h.open hok
  exact (do_form nb hb rb N.turn 0 0 4294967295 0 0 _ ⟨_, _, _, rfl⟩ w hat (fun w' => right_op _ _ _ _ w')).mono fun en w' ⟨h1, h2⟩ => ⟨_, _, h1, h2⟩
theorem do_hub1 (hok : Ok w (c ++ fr)) (h : IsNodes c nb N) : Calls Tryz.prog 14 #[.pointer (some ⟨nb, 0, none⟩), .agg ({ askC 4294967295 0 1 0 0 (.slice (some ⟨bb, 0, none⟩) 1 1) with hub := 1 } : Msg).cells] w (DoPost w 0 4) := by
  obtain ⟨hb, rb, cH, rest, hat, _, _, _, _⟩ := h.open hok
  exact (do_form nb hb rb N.turn 1 1 4294967295 0 0 _ ⟨_, _, _, rfl⟩ w hat (fun w' => right_hub _ _ _ _ w')).mono fun en w' ⟨h1, h2⟩ => ⟨_, _, h1, h2⟩
theorem do_answer (hok : Ok w (c ++ fr)) (h : IsNodes c nb N) : Calls Tryz.prog 14 #[.pointer (some ⟨nb, 0, none⟩), .agg (answerM 0 1 0 0).cells] w (DoPost w 0 19) := by
  obtain ⟨hb, rb, cH, rest, hat, _, _, _, _⟩ := h.open hok
  exact (do_kind nb hb rb N.turn w hat).mono fun en w' ⟨h1, h2⟩ => ⟨_, _, h1, h2⟩
theorem do_dead (p : Nat) (hok : Ok w (c ++ fr)) (h : IsNodes c nb N) (hbox : AnyBox w bb) (hl : N.hub.lives p = false) : Calls Tryz.prog 14 #[.pointer (some ⟨nb, 0, none⟩), .agg (askC p 0 1 0 0 (.slice (some ⟨bb, 0, none⟩) 1 1)).cells] w (DoPost w 0 11) := by
  obtain ⟨hb, rb, cH, rest, hat, hhub, hring, hok', _⟩ := h.open hok
  exact (do_node nb hb rb N.turn 1 p 0 0 _ ⟨_, _, _, rfl⟩ w hat (fun w' hw' => right_ask p 0 0 bb w' (hbox.below hw')) (fun w' hw' => (Alive_any [] cH (rest ++ fr) hb N.hub p w' (hok'.below hw') hhub).mono fun en w'' ⟨h1, h2⟩ => ⟨by rw [h1, hl], h2⟩)).mono fun en w' ⟨h1, h2⟩ => ⟨_, _, h1, h2⟩
theorem do_all (hok : Ok w (c ++ fr)) (h : IsNodes c nb N) (hp : N.hub.pts = [4294967295]) (hbare : N.hub.bare) (hl : N.hub.lives 4294967295 = true) (hbox : AnyBox w bb) :
    Calls Tryz.prog 14 #[.pointer (some ⟨nb, 0, none⟩), .agg (askC 4294967295 0 1 0 0 (.slice (some ⟨bb, 0, none⟩) 1 1)).cells] w (DoPost w 2 0) := by
  obtain ⟨hb, rb, cH, rest, hat, hhub, hring, hok', _⟩ := h.open hok
  rw [hp] at hring
  refine do_ask nb hb rb N.turn (askC 4294967295 0 1 0 0 (.slice (some ⟨bb, 0, none⟩) 1 1)) rfl rfl w hat (DoPost w 2 0) (fun w' hw' => right_ask 4294967295 0 0 bb w' (hbox.below hw')) (fun w' hw' => ?_) (fun w' hw' => ?_)
  · exact (Alive_any [] cH (rest ++ fr) hb N.hub 4294967295 w' (hok'.below hw') hhub).mono fun en w'' ⟨h1, h2⟩ => ⟨by rw [h1, hl], h2⟩
  · refine (ask_two nb hb rb N.turn 4294967295 0 1 0 0 4294967295 4294967296 _ w' (hat.below hw') (by decide) (by decide) (by decide) 4294967295 (fun w'' hw'' => ?_) (fun w'' hw'' => ?_) (fun w'' hw'' => clone_anybox bb w'' ((hbox.below hw').below hw'')) (fun w'' => far_any 0 4294967295 (by decide) (by decide) w'') (fun w'' => size_any 0 0 (by decide) (by decide) w'') (fun w'' hw'' => ?_)).mono ?_
    · exact owner_some rb 1 [4294967295] w'' ((hring.below hw').below hw'') ringOk1 (by simp)
    · exact next_some rb 4294967295 [4294967295] w'' ((hring.below hw').below hw'') ringOk1 (by simp)
    · exact hubShelf_bare cH (rest ++ fr) hb 4294967295 N.hub hbare w'' ((hok'.below hw').below hw'') hhub hl
    · rintro en w'' ⟨⟨x, k, h1⟩, h3⟩
      exact ⟨_, _, h1, _, _, rfl, below_trans hw' h3⟩
end
end Go.Proofs.YtdllibalmjadhaaGreat
