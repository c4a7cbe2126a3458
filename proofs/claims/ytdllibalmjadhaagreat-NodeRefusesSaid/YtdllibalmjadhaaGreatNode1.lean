/- Nodes of one hub: a hub by its number; deeds that are none. -/
import Derived.Test.YtdllibalmjadhaaGreatNodeNew
import Derived.Test.YtdllibalmjadhaaGreatCrash
namespace Go.Proofs.YtdllibalmjadhaaGreat
open Go Go.RowKit

/-- The cell of a row of one. -/
theorem Row.one {e : TypeId} {c : Chunk} {v x : Value} (h : Row e 1 c v 1 [x]) : ∃ g cap cur, v = .slice (some ⟨g, 0, none⟩) 1 cap ∧ c = [(g, .cells cur e (0, 0))] ∧ 1 ≤ cap ∧ cur[0]? = some x := by
  rcases h.2 with ⟨_, hn, _⟩ | ⟨g, cap, cur, hv, hc, h1, h2, h3, h4⟩
  · cases hn
  · refine ⟨g, cap, cur, hv, hc, h1, ?_⟩
    have : (cur.toList.take (1 * 1))[0]? = some x := by rw [h4]; rfl
    rw [List.getElem?_take_of_lt (by omega)] at this
    simpa using this

/-- What a walk asks of all nodes. -/
structure NodesAt (w : World) (nb : Nat) (hb rb : Nat) (turn : Int) : Prop where
  hubs : ∃ g cap, w.cell? ⟨nb, 2, none⟩ = some (.slice (some ⟨g, 0, none⟩) 1 cap) ∧ w.cell? ⟨g, 0, none⟩ = some (.pointer (some ⟨hb, 0, none⟩))
  rings : ∃ g cap, w.cell? ⟨nb, 3, none⟩ = some (.slice (some ⟨g, 0, none⟩) 1 cap) ∧ w.cell? ⟨g, 0, none⟩ = some (.pointer (some ⟨rb, 0, none⟩))
  turns : ∃ g cap, w.cell? ⟨nb, 4, none⟩ = some (.slice (some ⟨g, 0, none⟩) 1 cap) ∧ w.cell? ⟨g, 0, none⟩ = some (.int .i64 turn)
  attrs : w.cell? ⟨nb, 0, none⟩ = some (.int .i64 1)
theorem NodesAt.below {w w' : World} {nb hb rb : Nat} {turn : Int} (h : NodesAt w nb hb rb turn) (k : Below w.heap.size w w') : NodesAt w' nb hb rb turn := by
  obtain ⟨⟨g1, c1, h1, h2⟩, ⟨g2, c2, h3, h4⟩, ⟨g3, c3, h5, h6⟩, h7⟩ := h
  exact ⟨⟨g1, c1, stays k h1, stays k h2⟩, ⟨g2, c2, stays k h3, stays k h4⟩, ⟨g3, c3, stays k h5, stays k h6⟩, stays k h7⟩
/-- The hub of all nodes, and what is around it. -/
theorem IsNodes.open {c fr : Chunk} {nb : Nat} {N : NodesS} {w : World} (h : IsNodes c nb N) (hok : Ok w (c ++ fr)) : ∃ hb rb cH rest, NodesAt w nb hb rb N.turn ∧ IsHub [] cH hb N.hub ∧ RingAt w rb N.hub.pts ∧ Ok w (cH ++ (rest ++ fr)) ∧
    ∀ (w' : World) (cH' : Chunk) (H' : HubS), H'.pts = N.hub.pts → IsHub [] cH' hb H' → Ok w' (cH' ++ (rest ++ fr)) → ∃ c', IsNodes c' nb { N with hub := H' } ∧ Ok w' (c' ++ fr) := by
  obtain ⟨hs, ch, hb, cH, rs, cr, rb, cR, ts, ct, km, karr, kclk, wm, warr, wclk, db, rfl, h1, h2, h3, h4, h5, h6, h7⟩ := h
  obtain ⟨g1, k1, u1, e1, d1, _, i1⟩ := h1.one
  obtain ⟨g2, k2, u2, e2, d2, _, i2⟩ := h3.one
  obtain ⟨g3, k3, u3, e3, d3, _, i3⟩ := h5.one
  have hnb := hok.get (b := nb) (o := .cells #[.int .i64 1, .int .i64 N.links, hs, rs, ts, .map (some km), .map (some wm), .pointer (some ⟨db, 0, none⟩)] 81 (0, 0)) (by simp)
  refine ⟨hb, rb, cH, (nb, .cells #[.int .i64 1, .int .i64 N.links, hs, rs, ts, .map (some km), .map (some wm), .pointer (some ⟨db, 0, none⟩)] 81 (0, 0)) :: (km, .map karr kclk) :: (wm, .map warr wclk) :: (db, .cells #[.int .u64 N.dice] 118 (0, 0)) :: (ch ++ (cr ++ (cR ++ ct))), ?_, h2, ?_, hok.cnt (by intro x hx; simp at hx ⊢; try grind) (by intro b; simp; try (first | omega | (simp [List.count_cons]; omega))), fun w' cH' H' hp hH' hok' => ?_⟩
  · refine ⟨⟨g1, k1, by rw [← e1]; exact cellOf hnb 2, ?_⟩, ⟨g2, k2, by rw [← e2]; exact cellOf hnb 3, ?_⟩, ⟨g3, k3, by rw [← e3]; exact cellOf hnb 4, ?_⟩, cellOf hnb 0⟩
    · rw [← i1]; exact hok.cell (b := g1) (cs := u1) (T := 38) (fz := (0, 0)) (by rw [d1]; simp) 0
    · rw [← i2]; exact hok.cell (b := g2) (cs := u2) (T := 37) (fz := (0, 0)) (by rw [d2]; simp) 0
    · rw [← i3]; exact hok.cell (b := g3) (cs := u3) (T := 3) (fz := (0, 0)) (by rw [d3]; simp) 0
  · exact h4.at (fr := []) (hok.cnt (by intro x hx; simp at hx ⊢; try grind) (by intro b; simp; try (first | omega | (simp [List.count_cons]; omega))))
  · exact ⟨_, ⟨hs, ch, hb, cH', rs, cr, rb, cR, ts, ct, km, karr, kclk, wm, warr, wclk, db, rfl, h1, hH', h3, by rw [hp]; exact h4, h5, h6, h7⟩, hok'.cnt (by intro x hx; simp at hx ⊢; try grind) (by intro b; simp; try (first | omega | (simp [List.count_cons]; omega)))⟩

theorem nodeHub_nil (i : Int) (w : World) : Calls Tryz.prog 30 #[.pointer none, .int .i64 i] w fun en w' => en = .returned (.pointer none) ∧ w = w' := by
  go_enter Tryz.func30, Tryz.ntmps30
  go_wp2
  go_ret
  exact ⟨rfl, rfl⟩
theorem nodeHub_none (nb hb rb : Nat) (turn : Int) (i : Int) (w : World) (h : NodesAt w nb hb rb turn) (hi : i < 0 ∨ 1 ≤ i) : Calls Tryz.prog 30 #[.pointer (some ⟨nb, 0, none⟩), .int .i64 i] w fun en w' => en = .returned (.pointer none) ∧ w = w' := by
  obtain ⟨⟨g, cap, h1, h2⟩, _, _, _⟩ := h
  by_cases h0 : i < 0
  · have d0 : decide (i < 0) = true := by simpa using h0
    go_enter Tryz.func30, Tryz.ntmps30
    go_wp2
    go_ret
    exact ⟨rfl, rfl⟩
  · have d0 : decide (i < 0) = false := by simpa using h0
    have d1 : decide (1 ≤ i) = true := by simp; omega
    go_enter Tryz.func30, Tryz.ntmps30
    go_wp2
    go_ret
    exact ⟨rfl, rfl⟩
theorem nodeHub_some (nb hb rb : Nat) (turn : Int) (w : World) (h : NodesAt w nb hb rb turn) : Calls Tryz.prog 30 #[.pointer (some ⟨nb, 0, none⟩), .int .i64 0] w fun en w' => en = .returned (.pointer (some ⟨hb, 0, none⟩)) ∧ w = w' := by
  obtain ⟨⟨g, cap, h1, h2⟩, _, _, _⟩ := h
  go_enter Tryz.func30, Tryz.ntmps30
  go_wp2
  go_ret
  exact ⟨rfl, rfl⟩
end Go.Proofs.YtdllibalmjadhaaGreat
