/- A node of a hub without entries crashes. Nodes of one hub: a hub by its number; deeds that are none. -/
import Derived.Test.YtdllibalmjadhaaGreatE12
import Derived.Test.YtdllibalmjadhaaGreatE13

namespace Go.Proofs.YtdllibalmjadhaaGreat
open Go Go.RowKit

def HubS.crashed (H : HubS) (p : Nat) : HubS := { H with dead := fun q => decide (q = p) || H.dead q }

theorem crash_none (F c fr : Chunk) (hb p : Nat) (H : HubS) (w : World) (hok : Ok w (c ++ fr)) (h : IsHub F c hb H) (hp : p ∉ H.pts) : Calls Tryz.prog 62 #[.pointer (some ⟨hb, 0, none⟩), .int .u32 p] w fun en w' => en = .returned (.int .i64 11) ∧ Below w.heap.size w w' := by
  obtain ⟨rb, mb, arr, clk, l, cr, cn, h⟩ := h
  have h1 : w.cell? ⟨hb, 1, none⟩ = some (.pointer (some ⟨rb, 0, none⟩)) := cellOf (h.get hok) 1
  have hdp : decide (p ∈ H.pts) = false := by simpa using hp
  have hhas := rhas_any rb p H.pts w (h.ringAt hok) h.ok
  rw [hdp] at hhas
  have HH := hid hhas
  clear hhas hok h
  go_enter Tryz.func62, Tryz.ntmps62
  go_wp2_with (go_at_call 54; refine HH.out.mono ?_; rintro en w1 ⟨rfl, hb1⟩)
  go_ret
  exact ⟨rfl, hb1⟩

set_option maxHeartbeats 1000000 in
set_option maxRecDepth 100000 in
theorem crash_lives (c fr : Chunk) (hb p : Nat) (H : HubS) (hbare : H.bare) (w : World) (hok : Ok w (c ++ fr)) (h : IsHub [] c hb H) (hl : H.lives p = true) : Calls Tryz.prog 62 #[.pointer (some ⟨hb, 0, none⟩), .int .u32 p] w (HubPost w fr hb (H.crashed p) (.int .i64 0)) := by
  obtain ⟨hs, hd⟩ := hbare
  have hlive := hl
  simp only [HubS.lives, Bool.and_eq_true, decide_eq_true_eq, Bool.not_eq_true'] at hlive
  obtain ⟨hp, hdd⟩ := hlive
  obtain ⟨rb, mb, arr, clk, l, cr, cn, h⟩ := h
  have hdp : decide (p ∈ H.pts) = true := by simpa using hp
  have hhas := rhas_any rb p H.pts w (h.ringAt hok) h.ok
  rw [hdp] at hhas
  have hat := h.at hok
  have hmap := h.map
  have hmb := h.mapAt hok
  have hgh := h.get hok
  obtain ⟨xb, x, c1, y, hg, e2, ⟨sb, db, cs, cd, e3, hsh, hsd⟩, hput⟩ := h.split hp
  have hc := h.chunk
  have hring := h.ring
  have hrok := h.ok
  have hkeys := h.keys
  have hreps := h.reps
  clear h
  subst hc e2 e3
  rw [hs] at hsh
  have hxb := hok.get (b := xb) (o := .cells #[.bool (H.dead p), .int .i64 0, .pointer (some ⟨sb, 0, none⟩), .pointer (some ⟨db, 0, none⟩)] 127 (0, 0)) (by simp)
  rw [hdd] at hxb
  have HH := hid hhas
  have HA := hid fun w' (hb' : Below w.heap.size w w') => alive_some hb p xb false l w' ⟨mb, arr, clk, stays hb' (cellOf hgh 2), holds hb' hmb, hmap⟩ hg (cellOf (holds hb' hxb) 0)
  have HLn := hid fun w' (hb' : Below w.heap.size w w') => shelfLen_any w' [] cs ((hb, .cells #[.int .i64 H.reps, .pointer (some ⟨rb, 0, none⟩), .map (some mb), .slice none 0 0] 90 (0, 0)) :: (mb, .map arr clk) :: (cr ++ (x ++ ((xb, .cells #[.bool (H.dead p), .int .i64 0, .pointer (some ⟨sb, 0, none⟩), .pointer (some ⟨db, 0, none⟩)] 127 (0, 0)) :: (cd ++ y)) ++ fr))) sb [] ((hok.below hb').cnt (by intro x hx; simp at hx ⊢; try grind) (by intro b; simp; try (first | omega | (simp [List.count_cons]; omega)))) hsh
  have hlook := fun w' (hb' : Below w.heap.size w w') => run_look (P := Tryz.prog) nameLaw Tryz.underlying87 (z := .pointer none) (w := w') (by kernel_rfl) (holds hb' hmb) hmap p false
  rw [hg] at hlook
  simp only [encName, Option.getD_some, Bool.false_eq_true, if_false] at hlook
  have HK := hid hlook
  have HM := hid hmap
  have h1 : w.cell? ⟨hb, 1, none⟩ = some (.pointer (some ⟨rb, 0, none⟩)) := cellOf hgh 1
  have HG := hid hgh
  have HX := hid hxb
  have hfin : ∀ w2 xb' sb' db' mx cs' arr' clk' v, Ok w2 ((mb, .map arr' clk') :: (xb', .cells #[.bool true, .int .i64 0, .pointer (some ⟨sb', 0, none⟩), .pointer (some ⟨db', 0, none⟩)] 127 (0, 0)) :: ([(db', .cells #[.map (some mx)] 184 (0, 0)), (mx, .map #[] 0)] ++ cs') ++ ((hb, .cells #[.int .i64 H.reps, .pointer (some ⟨rb, 0, none⟩), .map (some mb), .slice none 0 0] 90 (0, 0)) :: (cr ++ (x ++ y) ++ fr))) →
      IsShelf [] cs' sb' [] → v = .pointer (some ⟨xb', 0, none⟩) → IsMap encName (mput l p v) arr' clk' → Same w w2 → HubPost w fr hb (H.crashed p) (.int .i64 0) (.returned (.int .i64 0)) w2 := by
    intro w2 xb' sb' db' mx cs' arr' clk' v hok2 hsh' hv hm' hsm
    subst hv
    have hnode : (H.crashed p).node [] p xb' ((xb', .cells #[.bool true, .int .i64 0, .pointer (some ⟨sb', 0, none⟩), .pointer (some ⟨db', 0, none⟩)] 127 (0, 0)) :: (cs' ++ [(db', .cells #[.map (some mx)] 184 (0, 0)), (mx, .map #[] 0)])) := by
      show IsNode [] _ xb' (decide (p = p) || H.dead p) (H.sh p) (H.sd p)
      rw [hs, hd]
      simp only [decide_true, Bool.true_or]
      exact ⟨sb', db', cs', _, rfl, hsh', IsShadow.new db' mx⟩
    have hput' := hput ((H.crashed p).node []) xb' _ (fun q _ hq b c hn => by
      show IsNode [] c b (decide (q = p) || H.dead q) (H.sh q) (H.sd q)
      rw [decide_eq_false hq, Bool.false_or]; exact hn) hnode
    refine ⟨(hb, .cells #[.int .i64 H.reps, .pointer (some ⟨rb, 0, none⟩), .map (some mb), .slice none 0 0] 90 (0, 0)) :: (mb, .map arr' clk') :: (cr ++ _), rfl, ⟨rb, mb, arr', clk', _, cr, _, ⟨rfl, hring, hrok, hm', hput', fun q => ?_, hreps⟩⟩, ?_, hsm⟩
    · rw [mput_fst_of_mem ((hkeys p).2 hp)]
      exact hkeys q
    · exact hok2.cnt (by intro x hx; simp at hx ⊢; try grind) (by intro b; simp; try (first | omega | (simp [List.count_cons]; omega)))
  have hstep : ∀ (w2 : World) (xb' sb' db' mx : Nat) (cs' : Chunk), IsShelf [] cs' sb' [] → Fresh w w2 ((xb', .cells #[.bool false, .int .i64 0, .pointer (some ⟨sb', 0, none⟩), .pointer (some ⟨db', 0, none⟩)] 127 (0, 0)) :: ([(db', .cells #[.map (some mx)] 184 (0, 0)), (mx, .map #[] 0)] ++ cs')) →
      ∃ arr' clk', (Instr.mapUpdate 87 (.map (some mb)) (.agg #[.int .u32 p]) (.pointer (some ⟨xb', 0, none⟩))).run Tryz.prog ((w2.setCell ⟨xb', 0, none⟩ (.bool true)).setCell ⟨xb', 1, none⟩ (.int .i64 0)) = .ok () (setBlk ((w2.setCell ⟨xb', 0, none⟩ (.bool true)).setCell ⟨xb', 1, none⟩ (.int .i64 0)) mb (.map arr' clk')) ∧ ((w2.setCell ⟨xb', 0, none⟩ (.bool true)).setCell ⟨xb', 1, none⟩ (.int .i64 0)).cell? ⟨hb, 2, none⟩ = some (.map (some mb)) ∧
        HubPost w fr hb (H.crashed p) (.int .i64 0) (.returned (.int .i64 0)) (setBlk ((w2.setCell ⟨xb', 0, none⟩ (.bool true)).setCell ⟨xb', 1, none⟩ (.int .i64 0)) mb (.map arr' clk')) := by
    intro w2 xb' sb' db' mx cs' hcs hf2
    have hokz : Ok ((w2.setCell ⟨xb', 0, none⟩ (.bool true)).setCell ⟨xb', 1, none⟩ (.int .i64 0)) ((xb', .cells #[.bool true, .int .i64 0, .pointer (some ⟨sb', 0, none⟩), .pointer (some ⟨db', 0, none⟩)] 127 (0, 0)) :: (([(db', .cells #[.map (some mx)] 184 (0, 0)), (mx, .map #[] 0)] ++ cs') ++ (((hb, .cells #[.int .i64 H.reps, .pointer (some ⟨rb, 0, none⟩), .map (some mb), .slice none 0 0] 90 (0, 0)) :: (mb, .map arr clk) :: (cr ++ (x ++ ((xb, .cells #[.bool (H.dead p), .int .i64 0, .pointer (some ⟨sb, 0, none⟩), .pointer (some ⟨db, 0, none⟩)] 127 (0, 0)) :: (cs ++ cd) ++ y)))) ++ fr))) := ((hf2.frame hok).setCell 0 (.bool true)).setCell 1 (.int .i64 0)
    obtain ⟨arr', clk', hm', hup⟩ := run_update (P := Tryz.prog) nameLaw Tryz.underlying87 (hokz.get (b := mb) (o := .map arr clk) (by simp)) hmap p (.pointer (some ⟨xb', 0, none⟩))
    refine ⟨arr', clk', hup, cellOf (hokz.get (b := hb) (o := .cells #[.int .i64 H.reps, .pointer (some ⟨rb, 0, none⟩), .map (some mb), .slice none 0 0] 90 (0, 0)) (by simp)) 2, ?_⟩
    have hz2 : Ok ((w2.setCell ⟨xb', 0, none⟩ (.bool true)).setCell ⟨xb', 1, none⟩ (.int .i64 0)) ((mb, .map arr clk) :: ((xb', .cells #[.bool true, .int .i64 0, .pointer (some ⟨sb', 0, none⟩), .pointer (some ⟨db', 0, none⟩)] 127 (0, 0)) :: (([(db', .cells #[.map (some mx)] 184 (0, 0)), (mx, .map #[] 0)] ++ cs') ++ ((hb, .cells #[.int .i64 H.reps, .pointer (some ⟨rb, 0, none⟩), .map (some mb), .slice none 0 0] 90 (0, 0)) :: (cr ++ (x ++ ((xb, .cells #[.bool (H.dead p), .int .i64 0, .pointer (some ⟨sb, 0, none⟩), .pointer (some ⟨db, 0, none⟩)] 127 (0, 0)) :: (cs ++ cd) ++ y)) ++ fr))))) := hokz.cnt (by intro x hx; simp at hx ⊢; try grind) (by intro b; simp; try (first | omega | (simp [List.count_cons]; omega)))
    exact hfin _ xb' sb' db' mx cs' arr' clk' _ ((hz2.setBlk (.map arr' clk')).cnt (by intro x hx; simp at hx ⊢; try grind) (by intro b; simp; try (first | omega | (simp [List.count_cons]; omega)))) hcs rfl hm' (((hf2.same.setCell _ _).setCell _ _).setBlk _ _)
  have HS := hid hstep
  generalize HubPost w fr hb (H.crashed p) (.int .i64 0) = post at *
  clear hhas hat hlook hfin hstep hmap hput hsd hsh hring hkeys hmb hgh hxb hok hs hd hrok hreps
  go_enter Tryz.func62, Tryz.ntmps62
  go_wp2_with (first | (go_at_call 54; refine HH.out.mono ?_; rintro en w1 ⟨rfl, hb1⟩) | (go_at_call 48; refine (HA.out _ hb1).mono ?_; rintro en w1' ⟨rfl, rfl⟩; simp only [Bool.false_eq_true, if_false]) | (go_at_call 56; refine (fresh_any _).mono ?_; rintro en w2 ⟨xb', sb', db', mx, cs', rfl, hcs, hf2⟩; have hb2 := below_trans hb1 hf2.below; have r2 : w2.cell? ⟨hb, 2, none⟩ = some (.map (some mb)) := cellOf (holds hb2 HG.out) 2; have x2 : w2.cell? ⟨xb, 2, none⟩ = some (.pointer (some ⟨sb, 0, none⟩)) := cellOf (holds hb2 HX.out) 2; have hlk := HK.out w2 hb2; have hnx := hf2.ok.get (b := xb') (o := .cells #[.bool false, .int .i64 0, .pointer (some ⟨sb', 0, none⟩), .pointer (some ⟨db', 0, none⟩)] 127 (0, 0)) (by simp); have n0 : w2.cell? ⟨xb', 0, none⟩ = some (.bool false) := cellOf hnx 0; have n1 : w2.cell? ⟨xb', 1, none⟩ = some (.int .i64 0) := cellOf hnx 1; have nz := fun i => frozenOf hnx i; obtain ⟨arr', clk', hup, q2, hpost⟩ := HS.out w2 xb' sb' db' mx cs' hcs (Fresh.from hb1 hf2); clear hnx) | (go_at_call 109; refine (HLn.out w2 hb2).mono ?_; rintro en w2' ⟨rfl, rfl⟩))
  exact hpost
end Go.Proofs.YtdllibalmjadhaaGreat

namespace Go.Proofs.YtdllibalmjadhaaGreat
open Go Go.RowKit

/-- The cell of a row of one. -/
theorem Row.one {e : TypeId} {c : Chunk} {v x : Value} (h : Row e 1 c v 1 [x]) : ∃ g cap cur, v = .slice (some ⟨g, 0, none⟩) 1 cap ∧ c = [(g, .cells cur e (0, 0))] ∧ 1 ≤ cap ∧ cur[0]? = some x := by
  rcases h.2 with ⟨_, hn, _⟩ | ⟨g, cap, cur, hv, hc, h1, h2, h3, h4⟩
  · cases hn
  · refine ⟨g, cap, cur, hv, hc, h1, ?_⟩
    have : (cur.toList.take (1 * 1))[0]? = some x := by rw [h4]; rfl
    rw [List.getElem?_take_of_lt (by omega)] at this
    simpa using this

/-- What a walk asks of all nodes. -/
structure NodesAt (w : World) (nb : Nat) (hb rb : Nat) (turn : Int) : Prop where
  hubs : ∃ g cap, w.cell? ⟨nb, 2, none⟩ = some (.slice (some ⟨g, 0, none⟩) 1 cap) ∧ w.cell? ⟨g, 0, none⟩ = some (.pointer (some ⟨hb, 0, none⟩))
  rings : ∃ g cap, w.cell? ⟨nb, 3, none⟩ = some (.slice (some ⟨g, 0, none⟩) 1 cap) ∧ w.cell? ⟨g, 0, none⟩ = some (.pointer (some ⟨rb, 0, none⟩))
  turns : ∃ g cap, w.cell? ⟨nb, 4, none⟩ = some (.slice (some ⟨g, 0, none⟩) 1 cap) ∧ w.cell? ⟨g, 0, none⟩ = some (.int .i64 turn)
  attrs : w.cell? ⟨nb, 0, none⟩ = some (.int .i64 1)
theorem NodesAt.below {w w' : World} {nb hb rb : Nat} {turn : Int} (h : NodesAt w nb hb rb turn) (k : Below w.heap.size w w') : NodesAt w' nb hb rb turn := by
  obtain ⟨⟨g1, c1, h1, h2⟩, ⟨g2, c2, h3, h4⟩, ⟨g3, c3, h5, h6⟩, h7⟩ := h
  exact ⟨⟨g1, c1, stays k h1, stays k h2⟩, ⟨g2, c2, stays k h3, stays k h4⟩, ⟨g3, c3, stays k h5, stays k h6⟩, stays k h7⟩
/-- The hub of all nodes, and what is around it. -/
theorem IsNodes.open {c fr : Chunk} {nb : Nat} {N : NodesS} {w : World} (h : IsNodes c nb N) (hok : Ok w (c ++ fr)) : ∃ hb rb cH rest, NodesAt w nb hb rb N.turn ∧ IsHub [] cH hb N.hub ∧ RingAt w rb N.hub.pts ∧ Ok w (cH ++ (rest ++ fr)) ∧
    ∀ (w' : World) (cH' : Chunk) (H' : HubS), H'.pts = N.hub.pts → IsHub [] cH' hb H' → Ok w' (cH' ++ (rest ++ fr)) → ∃ c', IsNodes c' nb { N with hub := H' } ∧ Ok w' (c' ++ fr) := by
  obtain ⟨hs, ch, hb, cH, rs, cr, rb, cR, ts, ct, km, karr, kclk, wm, warr, wclk, db, rfl, h1, h2, h3, h4, h5, h6, h7⟩ := h
  obtain ⟨g1, k1, u1, e1, d1, _, i1⟩ := h1.one
  obtain ⟨g2, k2, u2, e2, d2, _, i2⟩ := h3.one
  obtain ⟨g3, k3, u3, e3, d3, _, i3⟩ := h5.one
  have hnb := hok.get (b := nb) (o := .cells #[.int .i64 1, .int .i64 N.links, hs, rs, ts, .map (some km), .map (some wm), .pointer (some ⟨db, 0, none⟩)] 81 (0, 0)) (by simp)
  refine ⟨hb, rb, cH, (nb, .cells #[.int .i64 1, .int .i64 N.links, hs, rs, ts, .map (some km), .map (some wm), .pointer (some ⟨db, 0, none⟩)] 81 (0, 0)) :: (km, .map karr kclk) :: (wm, .map warr wclk) :: (db, .cells #[.int .u64 N.dice] 118 (0, 0)) :: (ch ++ (cr ++ (cR ++ ct))), ?_, h2, ?_, hok.cnt (by intro x hx; simp at hx ⊢; try grind) (by intro b; simp; try (first | omega | (simp [List.count_cons]; omega))), fun w' cH' H' hp hH' hok' => ?_⟩
  · refine ⟨⟨g1, k1, by rw [← e1]; exact cellOf hnb 2, ?_⟩, ⟨g2, k2, by rw [← e2]; exact cellOf hnb 3, ?_⟩, ⟨g3, k3, by rw [← e3]; exact cellOf hnb 4, ?_⟩, cellOf hnb 0⟩
    · rw [← i1]; exact hok.cell (b := g1) (cs := u1) (T := 38) (fz := (0, 0)) (by rw [d1]; simp) 0
    · rw [← i2]; exact hok.cell (b := g2) (cs := u2) (T := 37) (fz := (0, 0)) (by rw [d2]; simp) 0
    · rw [← i3]; exact hok.cell (b := g3) (cs := u3) (T := 3) (fz := (0, 0)) (by rw [d3]; simp) 0
  · exact h4.at (fr := []) (hok.cnt (by intro x hx; simp at hx ⊢; try grind) (by intro b; simp; try (first | omega | (simp [List.count_cons]; omega))))
  · exact ⟨_, ⟨hs, ch, hb, cH', rs, cr, rb, cR, ts, ct, km, karr, kclk, wm, warr, wclk, db, rfl, h1, hH', h3, by rw [hp]; exact h4, h5, h6, h7⟩, hok'.cnt (by intro x hx; simp at hx ⊢; try grind) (by intro b; simp; try (first | omega | (simp [List.count_cons]; omega)))⟩

theorem nodeHub_nil (i : Int) (w : World) : Calls Tryz.prog 30 #[.pointer none, .int .i64 i] w fun en w' => en = .returned (.pointer none) ∧ w = w' := by
  go_enter Tryz.func30, Tryz.ntmps30
  go_wp2
  go_ret
  exact ⟨rfl, rfl⟩
theorem nodeHub_none (nb hb rb : Nat) (turn : Int) (i : Int) (w : World) (h : NodesAt w nb hb rb turn) (hi : i < 0 ∨ 1 ≤ i) : Calls Tryz.prog 30 #[.pointer (some ⟨nb, 0, none⟩), .int .i64 i] w fun en w' => en = .returned (.pointer none) ∧ w = w' := by
  obtain ⟨⟨g, cap, h1, h2⟩, _, _, _⟩ := h
  by_cases h0 : i < 0
  · have d0 : decide (i < 0) = true := by simpa using h0
    go_enter Tryz.func30, Tryz.ntmps30
    go_wp2
    go_ret
    exact ⟨rfl, rfl⟩
  · have d0 : decide (i < 0) = false := by simpa using h0
    have d1 : decide (1 ≤ i) = true := by simp; omega
    go_enter Tryz.func30, Tryz.ntmps30
    go_wp2
    go_ret
    exact ⟨rfl, rfl⟩
theorem nodeHub_some (nb hb rb : Nat) (turn : Int) (w : World) (h : NodesAt w nb hb rb turn) : Calls Tryz.prog 30 #[.pointer (some ⟨nb, 0, none⟩), .int .i64 0] w fun en w' => en = .returned (.pointer (some ⟨hb, 0, none⟩)) ∧ w = w' := by
  obtain ⟨⟨g, cap, h1, h2⟩, _, _, _⟩ := h
  go_enter Tryz.func30, Tryz.ntmps30
  go_wp2
  go_ret
  exact ⟨rfl, rfl⟩
end Go.Proofs.YtdllibalmjadhaaGreat
