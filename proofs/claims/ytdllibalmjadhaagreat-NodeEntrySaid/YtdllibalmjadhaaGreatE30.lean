/- A deed that lets a node join. The points of nodes that are alive. No nodes at all; crashes, whether a node lives or not. -/
import Derived.Test.YtdllibalmjadhaaGreatE25
import Derived.Test.YtdllibalmjadhaaGreatE29
import Derived.Test.YtdllibalmjadhaaGreatE15
import Derived.Test.YtdllibalmjadhaaGreatE17

namespace Go.Proofs.YtdllibalmjadhaaGreat
open Go Go.RowKit

/-- The hub of all nodes, and what is around it, whatever becomes of the hub. -/
theorem IsNodes.openR {c fr : Chunk} {nb : Nat} {N : NodesS} {w : World} (h : IsNodes c nb N) (hok : Ok w (c ++ fr)) : ∃ hb rb cH rest, NodesAt w nb hb rb N.turn ∧ IsHub [] cH hb N.hub ∧ RingAt w rb N.hub.pts ∧ Ok w (cH ++ (rest ++ fr)) ∧
    ∀ (w' : World) (cH' fr' : Chunk) (H' : HubS), IsHub [] cH' hb H' → Ok w' (cH' ++ (rest ++ fr')) → ∃ c', NodesR c' nb { N with hub := H' } N.hub.pts ∧ Ok w' (c' ++ fr') := by
  obtain ⟨hs, ch, hb, cH, rs, cr, rb, cR, ts, ct, km, karr, kclk, wm, warr, wclk, db, rfl, h1, h2, h3, h4, h5, h6, h7⟩ := h
  obtain ⟨g1, k1, u1, e1, d1, _, i1⟩ := h1.one
  obtain ⟨g2, k2, u2, e2, d2, _, i2⟩ := h3.one
  obtain ⟨g3, k3, u3, e3, d3, _, i3⟩ := h5.one
  have hnb := hok.get (b := nb) (o := .cells #[.int .i64 1, .int .i64 N.links, hs, rs, ts, .map (some km), .map (some wm), .pointer (some ⟨db, 0, none⟩)] 81 (0, 0)) (by simp)
  refine ⟨hb, rb, cH, (nb, .cells #[.int .i64 1, .int .i64 N.links, hs, rs, ts, .map (some km), .map (some wm), .pointer (some ⟨db, 0, none⟩)] 81 (0, 0)) :: (km, .map karr kclk) :: (wm, .map warr wclk) :: (db, .cells #[.int .u64 N.dice] 118 (0, 0)) :: (ch ++ (cr ++ (cR ++ ct))), ?_, h2, ?_, hok.cnt (by intro x hx; simp at hx ⊢; try grind) (by intro b; simp; try (first | omega | (simp [List.count_cons]; omega))), fun w' cH' fr' H' hH' hok' => ?_⟩
  · refine ⟨⟨g1, k1, by rw [← e1]; exact cellOf hnb 2, ?_⟩, ⟨g2, k2, by rw [← e2]; exact cellOf hnb 3, ?_⟩, ⟨g3, k3, by rw [← e3]; exact cellOf hnb 4, ?_⟩, cellOf hnb 0⟩
    · rw [← i1]; exact hok.cell (b := g1) (cs := u1) (T := 38) (fz := (0, 0)) (by rw [d1]; simp) 0
    · rw [← i2]; exact hok.cell (b := g2) (cs := u2) (T := 37) (fz := (0, 0)) (by rw [d2]; simp) 0
    · rw [← i3]; exact hok.cell (b := g3) (cs := u3) (T := 3) (fz := (0, 0)) (by rw [d3]; simp) 0
  · exact h4.at (fr := []) (hok.cnt (by intro x hx; simp at hx ⊢; try grind) (by intro b; simp; try (first | omega | (simp [List.count_cons]; omega))))
  · exact ⟨_, ⟨hs, ch, hb, cH', rs, cr, rb, cR, ts, ct, km, karr, kclk, wm, warr, wclk, db, rfl, h1, hH', h3, h4, h5, h6, h7⟩, hok'.cnt (by intro x hx; simp at hx ⊢; try grind) (by intro b; simp; try (first | omega | (simp [List.count_cons]; omega)))⟩

set_option maxRecDepth 100000 in
/-- A deed that lets a node join, at its hub. -/
theorem call_join (nb hb rb : Nat) (turn : Int) (point : Nat) (w : World) (h : NodesAt w nb hb rb turn) (post : Ending → World → Prop)
    (hc : ∀ w', Below w.heap.size w w' → Calls Tryz.prog 29 #[.pointer (some ⟨hb, 0, none⟩), .int .u32 point] w' fun en w'' => ∃ k : Int, en = .returned (.int .i64 k) ∧ post (.returned (.int .i64 k)) w'') :
    Calls Tryz.prog 31 #[.pointer (some ⟨nb, 0, none⟩), .agg (deedC 1 0 point)] w post := by
  obtain ⟨⟨g, cap, h1, h2⟩, _, _, _⟩ := h
  have HC := hid hc
  clear hc
  have hx := heap1 w (.cells (deedC 1 0 point) 35)
  have hbx := alloc_below w (.cells (deedC 1 0 point) 35)
  go_enter Tryz.func31, Tryz.ntmps31
  go_wp2_with (fail)
  generalize w.alloc (.cells (deedC 1 0 point) 35) = w0 at *
  refine wp_region_b [] (by kernel_rfl) (by kernel_rfl) ?_
  intro E _ hE hI
  have a1 : ∀ w' : InD E, w'.val.cell? ⟨nb, 2, none⟩ = some (.slice (some ⟨g, 0, none⟩) 1 cap) := fun w' => stays (hE w') (stays hbx h1)
  have a2 : ∀ w' : InD E, w'.val.cell? ⟨g, 0, none⟩ = some (.pointer (some ⟨hb, 0, none⟩)) := fun w' => stays (hE w') (stays hbx h2)
  have a3 : ∀ w' : InD E, w'.val.cell? ⟨w.heap.size, 1, none⟩ = some (.int .i64 0) := fun w' => cellOf (holds (hE w') hx) 1
  repeat (refine wpX_step (fun K hK => ?_); go_simp; refine hK _ _ ?_; clear hK K)
  refine wpX_nil ?_
  intro w1 hw1
  have hb1 : Below w0.heap.size w0 w1 := hE ⟨w1, hw1⟩
  have hbw := below_trans hbx hb1
  have hx1 := holds hb1 hx
  have c0 : w1.cell? ⟨w.heap.size, 0, none⟩ = some (.int .i64 1) := cellOf hx1 0
  have c2 : w1.cell? ⟨w.heap.size, 2, none⟩ = some (.int .u32 point) := cellOf hx1 2
  clear a1 a2 a3 hI hx hx1 hbx
  go_wp2_with (go_at_call 29; refine (HC.out _ hbw).mono ?_; rintro en w2 ⟨k, rfl, hp⟩)
  exact hp

/-- What is left of all nodes behind a deed. -/
def JoinPost (w : World) (fr : Chunk) (nb : Nat) (N : NodesS) (p : Nat) (en : Ending) (w' : World) : Prop := ∃ e c' F' N', en = .returned (.int .i64 e) ∧ IsNodes c' nb N' ∧ N'.hub = (if p ∈ N.hub.pts then N.hub else N.hub.joined p) ∧ N'.links = N.links ∧ N'.turn ≤ N.turn + 1 ∧
  KnownIn F' N'.known ∧ AllZero N'.known ∧ WaitsOk N'.waits ∧ Ok w' (c' ++ (F' ++ fr)) ∧ Same w w'

def deedObj (k : Int) (p : Nat) : Obj := .cells (deedC k 0 p) 35 (0, 0)

set_option maxHeartbeats 2000000 in
set_option maxRecDepth 100000 in
theorem change_joins (c F fr : Chunk) (nb p : Nat) (N : NodesS) (hl : N.links ≤ 1) (ht : N.turn ≤ 1000) (hk : AllZero N.known) (hw : WaitsOk N.waits) (hbare : N.hub.bare) (hdead : N.hub.dead = fun _ => false) (hmax : N.hub.pts.length < 64) (hne : N.hub.pts ≠ []) (hrok : RingOk (addP N.hub.pts p)) (hpn : p ∉ N.hub.pts)
    (hnd : (N.hub.deads N.hub.pts).length = 0) (w : World) (hok : Ok w (c ++ (F ++ fr))) (h : IsNodes c nb N) : Calls Tryz.prog 10 #[.pointer (some ⟨nb, 0, none⟩), .agg (deedC 1 0 p)] w (JoinPost w fr nb N p) := by
  have hx := heap1 w (.cells (deedC 1 0 p) 35)
  have hbx := alloc_below w (.cells (deedC 1 0 p) 35)
  obtain ⟨hb, rb, cH, rest, hat, hhub, hring, hok', hback⟩ := h.openR hok
  have hok1 : Ok (w.alloc (.cells (deedC 1 0 p) 35)) (cH ++ (rest ++ ((w.heap.size, deedObj 1 p) :: (F ++ fr)))) := by
    have h1 : Ok (w.alloc (.cells (deedC 1 0 p) 35)) ((w.heap.size, deedObj 1 p) :: _) := hok'.alloc _
    exact h1.cnt (by intro x hx; simp at hx ⊢; try grind) (by intro b; simp; try (first | omega | (simp [List.count_cons]; omega)))
  have HN := hid (nodeHub_some nb hb rb N.turn _ (hat.below hbx))
  have HC := hid (call_join nb hb rb N.turn p _ (hat.below hbx) (fun en w'' => en = .returned (.int .i64 0) ∧ ∃ c', NodesR c' nb { N with hub := N.hub.joined p } N.hub.pts ∧ Ok w'' (c' ++ ((w.heap.size, deedObj 1 p) :: (F ++ fr))) ∧ Same w w'') fun w1 hb1 => (join_more cH (rest ++ ((w.heap.size, deedObj 1 p) :: (F ++ fr))) hb p N.hub hbare hdead hnd w1 (hok1.below hb1) hhub hne hpn hmax hrok).mono (by
    rintro en w'' ⟨cH', rfl, hhub', hok'', hs''⟩
    obtain ⟨c', hN', hokc⟩ := hback w'' cH' ((w.heap.size, deedObj 1 p) :: (F ++ fr)) _ hhub' hok''
    exact ⟨0, rfl, rfl, c', hN', hokc, ((((Same.refl w).alloc _).below hb1).trans hs'')⟩))
  have hld := hid (deed_load hx rfl)
  have HA := hid fun w' c' (h1 : NodesR c' nb { N with hub := N.hub.joined p } N.hub.pts) (h2 : Ok w' (c' ++ ((w.heap.size, deedObj 1 p) :: (F ++ fr)))) => anew_any c' ((w.heap.size, deedObj 1 p) :: (F ++ fr)) nb { N with hub := N.hub.joined p } N.hub.pts hl ht hk hw hrok w' h2 h1
  have e0 : N.hub.joined p = (if p ∈ N.hub.pts then N.hub else N.hub.joined p) := by rw [if_neg hpn]
  have hpost : ∀ w1 w2, Same w w1 → AnewPost w1 ((w.heap.size, deedObj 1 p) :: (F ++ fr)) nb { N with hub := N.hub.joined p } (.returned (.tuple #[])) w2 → JoinPost w fr nb N p (.returned (.int .i64 0)) w2 := by
    rintro w1 w2 hs ⟨c', F', known, dice, _, hN, hkn, haz, hok, hs2⟩
    refine ⟨0, c', F' ++ F, _, rfl, hN, e0, rfl, Nat.le_refl _, (fun kv hkv => by obtain ⟨z, z1, z2⟩ := hkn kv hkv; exact ⟨z, z1.mono (fun y hy => List.mem_append_left _ hy), z2⟩), haz, (fun kv h => (List.not_mem_nil h).elim), ?_, hs.trans hs2⟩
    rw [List.append_assoc]
    exact hok.sublist (List.Sublist.append_left (List.Sublist.append_left (List.sublist_cons_self _ _) _) _)
  have HP := hid hpost
  have q0 : (w.alloc (.cells (deedC 1 0 p) 35)).cell? ⟨w.heap.size, 0, none⟩ = some (.int .i64 1) := cellOf hx 0
  have q1 : (w.alloc (.cells (deedC 1 0 p) 35)).cell? ⟨w.heap.size, 1, none⟩ = some (.int .i64 0) := cellOf hx 1
  generalize hpo : JoinPost w fr nb N p = post at *
  clear hpost hpo hok1 hok hback hat hhub hring hok' h hx hbx hbare hdead hk hw hrok hnd e0
  go_enter Tryz.func10, Tryz.ntmps10
  go_wp2_with (fail)
  go_wp2_with (first | ((with_reducible apply wpList_loadT 35); rfl; exact hld.out) | (go_at_call 30; refine HN.out.mono ?_; rintro en w1 ⟨rfl, rfl⟩) | (go_at_call 31; refine HC.out.mono ?_; rintro en w2 ⟨rfl, c2, hN2, hok2, hs2⟩; have hbx2 : w2.heap[w.heap.size]? = some (.cells (deedC 1 0 p) 35 (0, 0)) := hok2.get (b := w.heap.size) (o := deedObj 1 p) (by simp); have r0 : w2.cell? ⟨w.heap.size, 0, none⟩ = some (.int .i64 1) := cellOf hbx2 0; have r1 : w2.cell? ⟨w.heap.size, 1, none⟩ = some (.int .i64 0) := cellOf hbx2 1; have HA2 := hid (HA.out w2 c2 hN2 hok2); clear hN2 hok2 hbx2) | (go_at_call 32; refine HA2.out.mono ?_; rintro en w3 hp3; have hp4 := hp3; obtain ⟨_, _, _, _, rfl, _⟩ := hp4))
  exact HP.out _ _ hs2 hp3

set_option maxHeartbeats 2000000 in
set_option maxRecDepth 100000 in
theorem change_there (c F fr : Chunk) (nb p : Nat) (N : NodesS) (hk : AllZero N.known) (hw : WaitsOk N.waits) (hF : KnownIn F N.known) (hp : p ∈ N.hub.pts) (hnd : (N.hub.deads N.hub.pts).length = 0) (w : World) (hok : Ok w (c ++ (F ++ fr))) (h : IsNodes c nb N) :
    Calls Tryz.prog 10 #[.pointer (some ⟨nb, 0, none⟩), .agg (deedC 1 0 p)] w (JoinPost w fr nb N p) := by
  have hx := heap1 w (.cells (deedC 1 0 p) 35)
  have hbx := alloc_below w (.cells (deedC 1 0 p) 35)
  obtain ⟨hb, rb, cH, rest, hat, hhub, hring, hok', hback⟩ := h.openR hok
  have hok1 := hok'.below hbx
  have HN := hid (nodeHub_some nb hb rb N.turn _ (hat.below hbx))
  have HC := hid (call_join nb hb rb N.turn p _ (hat.below hbx) (fun en w'' => en = .returned (.int .i64 7) ∧ Below (w.alloc (.cells (deedC 1 0 p) 35)).heap.size (w.alloc (.cells (deedC 1 0 p) 35)) w'') fun w1 hb1 => (join_there cH (rest ++ (F ++ fr)) hb p N.hub hnd w1 (hok1.below hb1) hhub hp).mono (by
    rintro en w'' ⟨rfl, hb2⟩
    exact ⟨7, rfl, rfl, below_trans hb1 hb2⟩))
  have hld := hid (deed_load hx rfl)
  have e0 : N.hub = (if p ∈ N.hub.pts then N.hub else N.hub.joined p) := by rw [if_pos hp]
  have hpost : ∀ w2, Below w.heap.size w w2 → JoinPost w fr nb N p (.returned (.int .i64 7)) w2 := fun w2 hb2 =>
    ⟨7, c, F, N, rfl, h, e0, rfl, by omega, hF, hk, hw, hok.below hb2, (Same.refl w).below hb2⟩
  have HP := hid hpost
  have q0 : (w.alloc (.cells (deedC 1 0 p) 35)).cell? ⟨w.heap.size, 0, none⟩ = some (.int .i64 1) := cellOf hx 0
  have q1 : (w.alloc (.cells (deedC 1 0 p) 35)).cell? ⟨w.heap.size, 1, none⟩ = some (.int .i64 0) := cellOf hx 1
  have HX := hid (And.intro hbx hx)
  generalize hpo : JoinPost w fr nb N p = post at *
  clear hpost hpo hok1 hok hback hat hhub hring hok' h hx hbx hk hw hF hnd e0 hp
  go_enter Tryz.func10, Tryz.ntmps10
  go_wp2_with (first | ((with_reducible apply wpList_loadT 35); rfl; exact hld.out) | (go_at_call 30; refine HN.out.mono ?_; rintro en w1 ⟨rfl, rfl⟩) | (go_at_call 31; refine HC.out.mono ?_; rintro en w2 ⟨rfl, hb2⟩; have r0 : w2.cell? ⟨w.heap.size, 0, none⟩ = some (.int .i64 1) := cellOf (holds hb2 HX.out.2) 0))
  exact HP.out _ (below_trans HX.out.1 hb2)

theorem addP_nil (p : Nat) : addP [] p = [p] := rfl
theorem addP_cons (a : Nat) (l : List Nat) (p : Nat) : addP (a :: l) p = if a < p then a :: addP l p else p :: a :: l := by
  unfold addP lb
  by_cases h : a < p
  · simp [h]
  · simp [h]
theorem addP_rising : ∀ (l : List Nat) (p : Nat), p ∉ l → l.Pairwise (· < ·) → (addP l p).Pairwise (· < ·)
  | [], p, _, _ => by simp [addP_nil]
  | a :: l, p, hp, h => by
    simp only [List.mem_cons, not_or] at hp
    simp only [List.pairwise_cons] at h
    rw [addP_cons]
    split
    · rename_i hlt
      refine List.pairwise_cons.2 ⟨fun x hx => ?_, addP_rising l p hp.2 h.2⟩
      rcases addP_mem.1 hx with rfl | hx
      · exact hlt
      · exact h.1 x hx
    · rename_i hge
      have hpa : p < a := by omega
      refine List.pairwise_cons.2 ⟨fun x hx => ?_, List.pairwise_cons.2 h⟩
      rcases List.mem_cons.1 hx with rfl | hx
      · exact hpa
      · have := h.1 x hx; omega
theorem addP_ok {l : List Nat} {p : Nat} (h : RingOk l) (hp : p ∉ l) (hlt : p < 4294967296) (hlen : l.length < 64) : RingOk (addP l p) := by
  refine ⟨addP_rising l p hp h.rising, fun x hx => ?_, by rw [addP_length]; omega⟩
  rcases addP_mem.1 hx with rfl | hx
  · exact hlt
  · exact h.lt x hx

/-- What is kept of all nodes from join to join: no entries, no crash. -/
structure Calm (N : NodesS) (F : Chunk) (n : Nat) : Prop where
  links : N.links ≤ 1
  turn : N.turn ≤ n
  zero : AllZero N.known
  waits : WaitsOk N.waits
  known : KnownIn F N.known
  bare : N.hub.bare
  dead : N.hub.dead = fun _ => false
  len : N.hub.pts.length ≤ n + 1
  ok : RingOk N.hub.pts
  last : 4294967295 ∈ N.hub.pts
theorem Calm.deads {N : NodesS} {F : Chunk} {n : Nat} (h : Calm N F n) : (N.hub.deads N.hub.pts).length = 0 := by
  unfold HubS.deads
  rw [List.filter_eq_nil_iff.2 (fun p hp => by simp [HubS.lives, hp, h.dead])]
  rfl
theorem Calm.ne {N : NodesS} {F : Chunk} {n : Nat} (h : Calm N F n) : N.hub.pts ≠ [] := fun e => by
  have := h.last; rw [e] at this; cases this
def CalmPost (w : World) (fr : Chunk) (nb : Nat) (N : NodesS) (p n : Nat) (en : Ending) (w' : World) : Prop := ∃ e c' F' N', en = .returned (.int .i64 e) ∧ IsNodes c' nb N' ∧ Calm N' F' (n + 1) ∧ N'.links = N.links ∧ N'.hub.reps = N.hub.reps ∧ (∀ q, q ∈ N'.hub.pts ↔ q = p ∨ q ∈ N.hub.pts) ∧ Ok w' (c' ++ (F' ++ fr)) ∧ Same w w'
theorem change_calm (c F fr : Chunk) (nb p n : Nat) (N : NodesS) (hp32 : p < 4294967296) (hn : n ≤ 20) (hc : Calm N F n) (w : World) (hok : Ok w (c ++ (F ++ fr))) (h : IsNodes c nb N) :
    Calls Tryz.prog 10 #[.pointer (some ⟨nb, 0, none⟩), .agg (deedC 1 0 p)] w (CalmPost w fr nb N p n) := by
  have hlen := hc.len
  have htu := hc.turn
  have hadd : p ∉ N.hub.pts → RingOk (addP N.hub.pts p) := fun h => addP_ok hc.ok h hp32 (by omega)
  by_cases hp : p ∈ N.hub.pts
  · refine (change_there c F fr nb p N hc.zero hc.waits hc.known hp hc.deads w hok h).mono ?_
    rintro en w' ⟨e, c', F', N', rfl, hN, hh, hl, ht, hk, hz, hw, hok', hs⟩
    rw [if_pos hp] at hh
    refine ⟨e, c', F', N', rfl, hN, ⟨by rw [hl]; exact hc.links, by omega, hz, hw, hk, by rw [hh]; exact hc.bare, by rw [hh]; exact hc.dead, by rw [hh]; omega, by rw [hh]; exact hc.ok, by rw [hh]; exact hc.last⟩, hl, by rw [hh], fun q => ?_, hok', hs⟩
    rw [hh]
    exact ⟨.inr, fun h => h.elim (fun e => e ▸ hp) id⟩
  · refine (change_joins c F fr nb p N hc.links (by omega) hc.zero hc.waits hc.bare hc.dead (by omega) hc.ne (hadd hp) hp hc.deads w hok h).mono ?_
    rintro en w' ⟨e, c', F', N', rfl, hN, hh, hl, ht, hk, hz, hw, hok', hs⟩
    rw [if_neg hp] at hh
    refine ⟨e, c', F', N', rfl, hN, ⟨by rw [hl]; exact hc.links, by omega, hz, hw, hk, by rw [hh]; exact hc.bare, by rw [hh]; exact hc.dead, ?_, by rw [hh]; exact hadd hp, ?_⟩, hl, by rw [hh]; rfl, fun q => ?_, hok', hs⟩
    · rw [hh]; show (addP N.hub.pts p).length ≤ _; rw [addP_length]; omega
    · rw [hh]; exact addP_mem.2 (.inr hc.last)
    · rw [hh]; exact addP_mem
end Go.Proofs.YtdllibalmjadhaaGreat

namespace Go.Proofs.YtdllibalmjadhaaGreat
open Go Go.RowKit

theorem Ok.ofAll {w w' : World} {X c : Chunk} (h : Ok w' (X ++ allOf w)) (hok : Ok w c) : Ok w' c := hok.ofHeap fun _ _ hb => (allOf_keep h (hok.get hb)).trans (hok.get hb).symm

theorem aliveC_any (cH fr : Chunk) (cb hb p : Nat) (H : HubS) (w : World) (hok : Ok w (cH ++ fr)) (h : IsHub [] cH hb H) (hc : w.cell? ⟨cb, 0, none⟩ = some (.pointer (some ⟨hb, 0, none⟩))) :
    Calls Tryz.prog 94 #[.int .u32 p, .pointer (some ⟨cb, 0, none⟩)] w fun en w' => en = .returned (.bool (!H.lives p)) ∧ Below w.heap.size w w' := by
  have HA := hid (Alive_any [] cH fr hb H p w hok h)
  clear hok h
  go_enter Tryz.func94, Tryz.ntmps94
  go_wp2_with (go_at_call 25; refine HA.out.mono ?_; rintro en w1 ⟨rfl, rfl⟩)
  go_ret
  exact ⟨rfl, Below.refl _ _⟩

def HubS.lively (H : HubS) : List Nat := H.pts.filter H.lives
/-- Those that are alive, as they lie. -/
def AlivePost (w : World) (H : HubS) (en : Ending) (w' : World) : Prop := ∃ v c', en = .returned v ∧ Row 23 1 c' v H.lively.length (u32s H.lively) ∧ Fresh w w' c'

set_option maxHeartbeats 1000000 in
theorem nodesAlive_any (cH fr : Chunk) (nb hb rb : Nat) (turn : Int) (H : HubS) (w : World) (hat : NodesAt w nb hb rb turn) (hok : Ok w (cH ++ fr)) (h : IsHub [] cH hb H) : Calls Tryz.prog 43 #[.pointer (some ⟨nb, 0, none⟩), .int .i64 0] w (AlivePost w H) := by
  have HN := hid (nodeHub_some nb hb rb turn w hat)
  have hbx := alloc_below w (.cells #[.pointer (some ⟨hb, 0, none⟩)] 38)
  have hx := heap1 w (.cells #[.pointer (some ⟨hb, 0, none⟩)] 38)
  have hF0 := (Fresh.refl w).push (.cells #[.pointer (some ⟨hb, 0, none⟩)] 38)
  have HR := hid (hubRing_any [] cH fr hb H _ (hok.below hbx) h)
  have hrok : RingOk H.pts := by obtain ⟨rb, mb, arr, clk, l, cr, cn, h⟩ := h; exact h.ok
  have HO := hid (And.intro hok h)
  have e0 : (H.pts.filter fun x => !(!H.lives x)) = H.lively := by unfold HubS.lively; congr 1; funext x; simp
  generalize hpost : AlivePost w H = post
  have HP := hid hpost
  clear hpost hat hok h
  go_enter Tryz.func43, Tryz.ntmps43
  go_wp2_with (first | (go_at_call 30; refine HN.out.mono ?_; rintro en w1 ⟨rfl, rfl⟩) | (go_at_call 12; refine HR.out.mono ?_; rintro en w2 ⟨rb', cR, rfl, hring, hf2⟩; have hF2 := hF0.trans hf2; have HPt := hid (points_any rb' H.pts w2 (cR ++ ([(w.heap.size, .cells #[.pointer (some ⟨hb, 0, none⟩)] 38)] ++ allOf w)) (by have := hF2.ok; rwa [List.append_assoc] at this) (hring.at (fr := _) hf2.ok) hrok)) | (go_at_call 17; refine HPt.out.mono ?_; rintro en w3 ⟨pv, cp, rfl, hrowp, hok3, hs3, _⟩; have HDl := hid (delUAlive_any cp _ pv H.pts w.heap.size (fun x => !H.lives x) (by have := hrok.le; omega) w3 hok3 hrowp (fun x w' hw' _ => aliveC_any cH fr w.heap.size hb x H w' (Ok.ofAll (X := cR ++ [(w.heap.size, .cells #[.pointer (some ⟨hb, 0, none⟩)] 38)]) (by rw [List.append_assoc]; exact hw') HO.out.1) HO.out.2 (cellOf (hw'.get (b := w.heap.size) (o := .cells #[.pointer (some ⟨hb, 0, none⟩)] 38) (by simp)) 0)))) | (go_at_call 87; refine HDl.out.mono ?_; rintro en w4 ⟨v4, c4, rfl, hrow4, hok4, hs4⟩))
  rw [e0] at hrow4
  have hok5 : Ok w4 (c4 ++ allOf w) := hok4.sublist (List.Sublist.append_left ((List.sublist_cons_self _ _).trans (List.sublist_append_right _ _)) _)
  have hfin : AlivePost w H (.returned v4) w4 := ⟨v4, c4, rfl, hrow4, ⟨hok5, (hF2.same.trans hs3).trans hs4⟩⟩
  rw [HP.out] at hfin
  exact hfin

theorem info_load : (Tryz.prog.info? 101).map (fun i => (i.zero, i.size, i.bytes)) = some (some (.agg #[.int .u32 0, .int .i64 0]), 2, 16) := by kernel_rfl
theorem HubS.lively_lives {H : HubS} {p : Nat} (h : p ∈ H.lively) : H.lives p = true := (List.mem_filter.1 h).2
/-- So many loads. -/
def LoadsPost (w : World) (H : HubS) (en : Ending) (w' : World) : Prop := ∃ a k, en = .returned (.slice a H.lively.length k) ∧ Below w.heap.size w w'

set_option maxHeartbeats 1000000 in
set_option maxRecDepth 100000 in
theorem loads_any (cH fr : Chunk) (nb hb rb : Nat) (turn : Int) (H : HubS) (hbare : H.bare) (w : World) (hat : NodesAt w nb hb rb turn) (hok : Ok w (cH ++ fr)) (h : IsHub [] cH hb H) : Calls Tryz.prog 18 #[.pointer (some ⟨nb, 0, none⟩), .int .i64 0] w (LoadsPost w H) := by
  have HA := hid (nodesAlive_any cH fr nb hb rb turn H w hat hok h)
  have hrok : RingOk H.pts := by obtain ⟨rb, mb, arr, clk, l, cr, cn, h⟩ := h; exact h.ok
  have hlen : H.lively.length ≤ 64 := Nat.le_trans (List.length_filter_le _ _) hrok.le
  have HO := hid (And.intro hat (And.intro hok h))
  generalize hpost : LoadsPost w H = post
  have HP := hid hpost
  clear hpost hat hok h hrok
  go_enter Tryz.func18, Tryz.ntmps18
  go_wp2_with (go_at_call 43; refine HA.out.mono ?_; rintro en w1 ⟨v, c1, rfl, hrow, hf1⟩; obtain ⟨av, kv, rfl⟩ := hrow.slice)
  go_loopw [5, 12] (fun v q wr => ∃ (j : Nat) (cl : Chunk) (xs : List Value), q = .int .i64 j ∧ j ≤ H.lively.length ∧ Row 101 2 cl v j xs ∧ Ok wr (cl ++ (c1 ++ allOf w)) ∧ Same w wr) (fun _ q _ => H.lively.length - (match q with | .int _ m => m.toNat | _ => 0))
  case atStart => exact ⟨0, [], [], rfl, Nat.zero_le _, Row.nil _ _, hf1.ok, hf1.same⟩
  case round =>
    clear hf1 HA
    obtain ⟨j, cl, xs, rfl, hj, hrl, hok, hsame⟩ := hrel
    obtain ⟨al, kl, rfl⟩ := hrl.slice
    rcases Nat.lt_or_ge j H.lively.length with hlt | hge
    · obtain ⟨x, hx⟩ : ∃ x, H.lively[j]? = some x := ⟨H.lively[j], List.getElem?_eq_getElem hlt⟩
      have hok1 : Ok wr (c1 ++ (cl ++ allOf w)) := hok.cnt (by intro x hx; simp at hx ⊢; try grind) (by intro b; simp; try (first | omega | (simp [List.count_cons]; omega)))
      obtain ⟨pb, off, rfl, hcell⟩ := (hrow.reads (fr := cl ++ allOf w) hok1).cell.2 j x hx
      have hwk : IntKind.i64.wrap ((j : Int) + 1) = (j : Int) + 1 := IntWalk.i64_in _ (by omega)
      have hd1 : decide ((j : Int) < (H.lively.length : Int)) = true := by simpa using hlt
      have hxl : H.lives x = true := HubS.lively_lives (List.mem_of_getElem? hx)
      have hall : Ok wr ((cl ++ c1) ++ allOf w) := by rw [List.append_assoc]; exact hok
      have hbw : Below w.heap.size w wr := hok.right.right.toBelow hsame
      have HN := hid (nodeHub_some nb hb rb turn wr (HO.out.1.below hbw))
      have HS := hid (hubShelf_bare cH fr hb x H hbare wr (Ok.ofAll hall HO.out.2.1) HO.out.2.2 hxl)
      have happ := hid fun (w2 : World) (hb2 : Below wr.heap.size wr w2) => (by
        obtain ⟨i, hi, hz0, hz1, hz2⟩ := info_parts info_load
        exact row_append (P := Tryz.prog) (w := w2.alloc (.cells #[.int .u32 x, .int .i64 0] 101)) (c := cl) (fr := c1 ++ allOf w) ((hok.below hb2).keep _) hrl 62 62 i (.agg #[.int .u32 0, .int .i64 0]) 16 Tryz.underlying62 hi hz0 hz1 hz2 rfl (by decide) ⟨w2.heap.size, 0, none⟩ 1 1 [.int .u32 x, .int .i64 0] rfl (fun m u hu => rowCells (heap1 _ _) m u (by simpa using hu)) (by simp [Value.oneCell']) (by unfold maxLen; omega) (by omega))
      clear hok hok1 hall hbw hrl hx hxl
      go_wp2_with (first | (go_at_call 30; refine HN.out.mono ?_; rintro en w2 ⟨rfl, rfl⟩) | (go_at_call 44; refine HS.out.mono ?_; rintro en w3 ⟨rfl, hb3⟩; obtain ⟨v', w4, cl', hap, hrl', hok4, hs4, _, _⟩ := happ.out w3 hb3) | (at_builtin; refine wpList_app rfl _ _ _ _ rfl rfl rfl hap ?_))
      go_roundw
      case rel => exact ⟨j + 1, cl', _, rfl, hlt, hrl', hok4, ((hsame.below hb3).alloc _).trans hs4⟩
      case measure => simp; omega
    · obtain rfl : j = H.lively.length := by omega
      have hd1 : decide ((H.lively.length : Int) < (H.lively.length : Int)) = false := by simp
      have HF := hid (show LoadsPost w H (.returned (.slice al H.lively.length kl)) wr from ⟨_, _, rfl, hok.right.right.toBelow hsame⟩)
      rw [HP.out] at HF
      clear hok hsame hrl
      go_wp2
      exact HF.out

/-- An entry of a hub that has nodes that are alive. -/
def EntryPost (w : World) (fr : Chunk) (nb : Nat) (N : NodesS) (en : Ending) (w' : World) : Prop := ∃ p c' d, en = .returned (.tuple #[.int .u32 (p : Nat), .bool true]) ∧ p ∈ N.hub.lively ∧ IsNodes c' nb { N with dice := d } ∧ Ok w' (c' ++ fr) ∧ Same w w'

/-- The dice of all nodes, and what is around them. -/
theorem IsNodes.dice {c fr : Chunk} {nb : Nat} {N : NodesS} {w : World} (h : IsNodes c nb N) (hok : Ok w (c ++ fr)) : ∃ db rest, w.heap[nb]? = some (.cells #[.int .i64 1, .int .i64 N.links, (w.cell? ⟨nb, 2, none⟩).getD undef, (w.cell? ⟨nb, 3, none⟩).getD undef, (w.cell? ⟨nb, 4, none⟩).getD undef, (w.cell? ⟨nb, 5, none⟩).getD undef, (w.cell? ⟨nb, 6, none⟩).getD undef, .pointer (some ⟨db, 0, none⟩)] 81 (0, 0)) ∧
    Ok w ((db, diceObj N.dice) :: (rest ++ fr)) ∧ (∀ b o, w.heap[b]? = some o → b = nb → (b, o) ∈ rest) ∧ ∀ (w' : World) (d : Nat) (fr' : Chunk), Ok w' ((db, diceObj d) :: (rest ++ fr')) → ∃ c', IsNodes c' nb { N with dice := d } ∧ Ok w' (c' ++ fr') := by
  obtain ⟨hs, ch, hb, cH, rs, cr, rb, cR, ts, ct, km, karr, kclk, wm, warr, wclk, db, rfl, h1, h2, h3, h4, h5, h6, h7⟩ := h
  have hnb := hok.get (b := nb) (o := .cells #[.int .i64 1, .int .i64 N.links, hs, rs, ts, .map (some km), .map (some wm), .pointer (some ⟨db, 0, none⟩)] 81 (0, 0)) (by simp)
  have e2 : w.cell? ⟨nb, 2, none⟩ = some hs := cellOf hnb 2
  have e3 : w.cell? ⟨nb, 3, none⟩ = some rs := cellOf hnb 3
  have e4 : w.cell? ⟨nb, 4, none⟩ = some ts := cellOf hnb 4
  have e5 : w.cell? ⟨nb, 5, none⟩ = some (.map (some km)) := cellOf hnb 5
  have e6 : w.cell? ⟨nb, 6, none⟩ = some (.map (some wm)) := cellOf hnb 6
  refine ⟨db, (nb, .cells #[.int .i64 1, .int .i64 N.links, hs, rs, ts, .map (some km), .map (some wm), .pointer (some ⟨db, 0, none⟩)] 81 (0, 0)) :: (km, .map karr kclk) :: (wm, .map warr wclk) :: (ch ++ (cH ++ (cr ++ (cR ++ ct)))), ?_, ?_, ?_, fun w' d fr' hok' => ?_⟩
  · rw [e2, e3, e4, e5, e6]; exact hnb
  · show Ok w ((db, .cells #[.int .u64 N.dice] 118 (0, 0)) :: _)
    exact hok.cnt (by intro x hx; simp at hx ⊢; try grind) (by intro b; simp; try (first | omega | (simp [List.count_cons]; omega)))
  · rintro b o hb' rfl
    rw [hnb] at hb'
    cases hb'
    simp
  · refine ⟨_, ⟨hs, ch, hb, cH, rs, cr, rb, cR, ts, ct, km, karr, kclk, wm, warr, wclk, db, rfl, h1, h2, h3, h4, h5, h6, h7⟩, ?_⟩
    have h8 : Ok w' ((db, .cells #[.int .u64 d] 118 (0, 0)) :: _) := hok'
    exact h8.cnt (by intro x hx; simp at hx ⊢; try grind) (by intro b; simp; try (first | omega | (simp [List.count_cons]; omega)))

set_option maxHeartbeats 1000000 in
set_option maxRecDepth 100000 in
theorem nodesEntry_any (c fr : Chunk) (nb : Nat) (N : NodesS) (hne : N.hub.lively ≠ []) (w : World) (hok : Ok w (c ++ fr)) (h : IsNodes c nb N) : Calls Tryz.prog 21 #[.pointer (some ⟨nb, 0, none⟩), .int .i64 0] w (EntryPost w fr nb N) := by
  obtain ⟨hb, rb, cH, rest, hat, hhub, hring, hok', _⟩ := h.open hok
  have HA := hid (nodesAlive_any cH (rest ++ fr) nb hb rb N.turn N.hub w hat hok' hhub)
  have hrok : RingOk N.hub.pts := by obtain ⟨rb, mb, arr, clk, l, cr, cn, h⟩ := hhub; exact h.ok
  have hlen : N.hub.lively.length ≤ 64 := Nat.le_trans (List.length_filter_le _ _) hrok.le
  have hpos : 0 < N.hub.lively.length := List.length_pos_iff.2 hne
  obtain ⟨db, rest2, hnb, hok2, _, hback⟩ := h.dice hok
  have q7 : w.cell? ⟨nb, 7, none⟩ = some (.pointer (some ⟨db, 0, none⟩)) := cellOf hnb 7
  have g0 : ((N.hub.lively.length : Int) == 0) = false := beq_eq_false_iff_ne.2 (by omega)
  have HO := hid (And.intro hok2 (And.intro hback q7))
  generalize hpost : EntryPost w fr nb N = post
  have HP := hid hpost
  clear hpost hat hok hok' h hrok hhub hring hok2 hback hnb q7 hne
  go_enter Tryz.func21, Tryz.ntmps21
  go_wp2_with (first | (go_at_call 43; refine HA.out.mono ?_; rintro en w1 ⟨v, c1, rfl, hrow, hf1⟩; obtain ⟨av, kv, rfl⟩ := hrow.slice; have r7 : w1.cell? ⟨nb, 7, none⟩ = some (.pointer (some ⟨db, 0, none⟩)) := stays hf1.below HO.out.2.2; have ok1 : Ok w1 ((db, diceObj N.dice) :: (c1 ++ (rest2 ++ fr))) := (hf1.frame HO.out.1).cnt (by intro x hx; simp at hx ⊢; try grind) (by intro b; simp; try (first | omega | (simp [List.count_cons]; omega))); have HRl := hid (roll_any (c1 ++ (rest2 ++ fr)) db N.dice N.hub.lively.length (by omega) (by omega) w1 ok1); clear ok1) | (go_at_call 45; refine HRl.out.mono ?_; rintro en w2 ⟨j, s', rfl, hj, hok2, hs2⟩; obtain ⟨x, hx⟩ : ∃ x, N.hub.lively[j]? = some x := ⟨_, List.getElem?_eq_getElem hj⟩; obtain ⟨pb, off, rfl, hcell⟩ := (hrow.reads (fr := (db, diceObj s') :: (rest2 ++ fr)) (hok2.cnt (by intro x hx; simp at hx ⊢; try grind) (by intro b; simp; try (first | omega | (simp [List.count_cons]; omega))))).cell.2 j x hx; have HX := hid (And.intro hok2 (And.intro hs2 hx)); clear hok2 hs2 hx))
  obtain ⟨hok2, hs2, hx⟩ := HX.out
  obtain ⟨c', hN, hokc⟩ := HO.out.2.1 w2 s' fr (hok2.sublist (List.Sublist.cons_cons _ (List.sublist_append_right _ _)))
  have hfin : EntryPost w fr nb N (.returned (.tuple #[.int .u32 (x : Nat), .bool true])) w2 := ⟨x, c', s', rfl, List.mem_of_getElem? hx, hN, hokc, hf1.same.trans hs2⟩
  rw [HP.out] at hfin
  exact hfin

set_option maxHeartbeats 1000000 in
theorem nodesEntry_none (cH fr : Chunk) (nb hb rb : Nat) (turn : Int) (H : HubS) (hne : H.lively = []) (w : World) (hat : NodesAt w nb hb rb turn) (hok : Ok w (cH ++ fr)) (h : IsHub [] cH hb H) : Calls Tryz.prog 21 #[.pointer (some ⟨nb, 0, none⟩), .int .i64 0] w fun en w' => en = .returned (.tuple #[.int .u32 0, .bool false]) ∧ Below w.heap.size w w' := by
  have HA := hid (nodesAlive_any cH fr nb hb rb turn H w hat hok h)
  have HE := hid hne
  clear hat hok h hne
  go_enter Tryz.func21, Tryz.ntmps21
  go_wp2_with (go_at_call 43; refine HA.out.mono ?_; rintro en w1 ⟨v, c1, rfl, hrow, hf1⟩; rw [HE.out] at hrow; obtain ⟨av, kv, rfl⟩ := hrow.slice)
  go_ret2
  exact ⟨rfl, hf1.below⟩
theorem nodesEntry_nohub (nb hb rb : Nat) (turn : Int) (i : Int) (w : World) (h : NodesAt w nb hb rb turn) (hi : i < 0 ∨ 1 ≤ i) : Calls Tryz.prog 21 #[.pointer (some ⟨nb, 0, none⟩), .int .i64 i] w fun en w' => en = .returned (.tuple #[.int .u32 0, .bool false]) ∧ Below w.heap.size w w' := by
  have HA := hid (alive_nohub nb hb rb turn i w h hi)
  clear h
  go_enter Tryz.func21, Tryz.ntmps21
  go_wp2_with (go_at_call 43; refine HA.out.mono ?_; rintro en w1 ⟨rfl, hb1⟩)
  go_ret2
  exact ⟨rfl, hb1⟩

/-- A hub like the one of all nodes. -/
theorem nodesHub_some (cH fr : Chunk) (nb hb rb : Nat) (turn : Int) (H : HubS) (w : World) (hat : NodesAt w nb hb rb turn) (hok : Ok w (cH ++ fr)) (h : IsHub [] cH hb H) : Calls Tryz.prog 11 #[.pointer (some ⟨nb, 0, none⟩), .int .i64 0] w (HubNew w [] H) := by
  have HN := hid (nodeHub_some nb hb rb turn w hat)
  have HF := hid (hubFork_any [] cH fr hb H w hok h)
  generalize hpost : HubNew w [] H = post at HF ⊢
  have HP := hid hpost
  clear hat hok h hpost
  go_enter Tryz.func11, Tryz.ntmps11
  go_wp2_with (first | (go_at_call 30; refine HN.out.mono ?_; rintro en w1 ⟨rfl, rfl⟩) | (go_at_call 33; refine HF.out.mono ?_; rintro en w2 hp; rw [← HP.out] at hp; have hp2 := hp; obtain ⟨hb', c', rfl, _⟩ := hp2; rw [HP.out] at hp))
  exact hp

set_option maxRecDepth 100000 in
theorem crash_dead (F c fr : Chunk) (hb p : Nat) (H : HubS) (w : World) (hok : Ok w (c ++ fr)) (h : IsHub F c hb H) (hp : p ∈ H.pts) (hl : H.lives p = false) : Calls Tryz.prog 62 #[.pointer (some ⟨hb, 0, none⟩), .int .u32 p] w fun en w' => en = .returned (.int .i64 12) ∧ Below w.heap.size w w' := by
  have hal := fun w' (hb' : Below w.heap.size w w') => alive_bool F c fr hb H p w' (hok.below hb') h
  rw [hl] at hal
  have HA := hid hal
  obtain ⟨rb, mb, arr, clk, l, cr, cn, h⟩ := h
  have h1 : w.cell? ⟨hb, 1, none⟩ = some (.pointer (some ⟨rb, 0, none⟩)) := cellOf (h.get hok) 1
  have hdp : decide (p ∈ H.pts) = true := by simpa using hp
  have hhas := rhas_any rb p H.pts w (h.ringAt hok) h.ok
  rw [hdp] at hhas
  have HH := hid hhas
  clear hhas hok h hal
  go_enter Tryz.func62, Tryz.ntmps62
  go_wp2_with (first | (go_at_call 54; refine HH.out.mono ?_; rintro en w1 ⟨rfl, hb1⟩) | (go_at_call 48; refine (HA.out w1 hb1).mono ?_; rintro en w3 ⟨rfl, ⟨h, _⟩ | ⟨_, rfl⟩⟩))
  all_goals first | (go_ret; exact ⟨rfl, hb1⟩) | (exact absurd h (by simp))
end Go.Proofs.YtdllibalmjadhaaGreat

namespace Go.Proofs.YtdllibalmjadhaaGreat
open Go Go.RowKit

theorem aliveNil_any (i : Int) (w : World) : Calls Tryz.prog 43 #[.pointer none, .int .i64 i] w fun en w' => en = .returned (.slice none 0 0) ∧ Below w.heap.size w w' := by
  have HN := hid (nodeHub_nil i w)
  have HR := hid hubRing_nil
  have HP := hid points_nil
  have HD := hid deleteU_nil
  go_enter Tryz.func43, Tryz.ntmps43
  go_wp2_with (first | (go_at_call 30; refine HN.out.mono ?_; rintro en w1 ⟨rfl, rfl⟩) | (go_at_call 12; refine (HR.out _).mono ?_; rintro en w2 ⟨rfl, rfl⟩) | (go_at_call 17; refine (HP.out _).mono ?_; rintro en w3 ⟨rfl, rfl⟩) | (go_at_call 87; refine (HD.out _ _).mono ?_; rintro en w4 ⟨rfl, rfl⟩))
  go_ret
  exact ⟨rfl, alloc_below _ _⟩
theorem entryNil_any (i : Int) (w : World) : Calls Tryz.prog 21 #[.pointer none, .int .i64 i] w fun en w' => en = .returned (.tuple #[.int .u32 0, .bool false]) ∧ Below w.heap.size w w' := by
  have HA := hid (aliveNil_any i w)
  go_enter Tryz.func21, Tryz.ntmps21
  go_wp2_with (go_at_call 43; refine HA.out.mono ?_; rintro en w1 ⟨rfl, hb1⟩)
  go_ret2
  exact ⟨rfl, hb1⟩
theorem nodesHubNil_any (i : Int) (w : World) : Calls Tryz.prog 11 #[.pointer none, .int .i64 i] w fun en w' => en = .returned (.pointer none) ∧ w = w' := by
  have HN := hid (nodeHub_nil i w)
  have HF := hid hubFork_nil
  go_enter Tryz.func11, Tryz.ntmps11
  go_wp2_with (first | (go_at_call 30; refine HN.out.mono ?_; rintro en w1 ⟨rfl, rfl⟩) | (go_at_call 33; refine (HF.out _).mono ?_; rintro en w2 ⟨rfl, rfl⟩))
  go_ret
  exact ⟨rfl, rfl⟩
theorem nodesForkNil_any (w : World) : Calls Tryz.prog 26 #[.pointer none] w fun en w' => en = .returned (.pointer none) ∧ w = w' := by
  go_enter Tryz.func26, Tryz.ntmps26
  go_wp2
  go_ret
  exact ⟨rfl, rfl⟩
theorem built_joinP (p : Nat) : Tryz.prog.built 35 [(0, .int .i64 1), (2, .int .u32 p)] = some (deedC 1 0 p) := by kernel_rfl
theorem built_crashP (p : Nat) : Tryz.prog.built 35 [(0, .int .i64 3), (2, .int .u32 p)] = some (deedC 3 0 p) := by kernel_rfl
theorem built_join0 : Tryz.prog.built 35 [(0, .int .i64 1)] = some (deedC 1 0 0) := by kernel_rfl

/-- What a crash leaves. -/
def CrashPost (w : World) (fr : Chunk) (nb : Nat) (N : NodesS) (en : Ending) (w' : World) : Prop := ∃ (e : Int) (c' : Chunk) (N' : NodesS), en = .returned (.int .i64 e) ∧ IsNodes c' nb N' ∧ N'.hub.bare ∧ N'.hub.pts = N.hub.pts ∧ Ok w' (c' ++ fr) ∧ Same w w'
theorem change_crashes (c fr : Chunk) (nb p : Nat) (N : NodesS) (hbare : N.hub.bare) (hp : p ∈ N.hub.pts) (w : World) (hok : Ok w (c ++ fr)) (h : IsNodes c nb N) : Calls Tryz.prog 10 #[.pointer (some ⟨nb, 0, none⟩), .agg (deedC 3 0 p)] w (CrashPost w fr nb N) := by
  cases hl : N.hub.lives p with
  | true =>
    refine (nodes_crash c fr nb p N hbare w hok h hl).mono ?_
    rintro en w' ⟨c', rfl, hN, hok', hs⟩
    exact ⟨0, c', _, rfl, hN, hbare, rfl, hok', hs⟩
  | false =>
    obtain ⟨hb, rb, cH, rest, hat, hhub, _, hok', _⟩ := h.open hok
    refine change_crash nb hb rb N.turn p w hat _ fun w' hb' hbox => ?_
    refine (crash_dead [] cH (rest ++ fr) hb p N.hub w' (hok'.below hb') hhub hp hl).mono ?_
    rintro en w'' ⟨rfl, hb''⟩
    refine ⟨12, rfl, ⟨12, c, N, rfl, h, hbare, rfl, hok.below (below_trans hb' hb''), (Same.refl w).below (below_trans hb' hb'')⟩, cellOf (holds hb'' hbox) 0⟩

theorem lively_deads (H : HubS) : H.lively.length + (H.deads H.pts).length = H.pts.length := by
  unfold HubS.lively HubS.deads
  induction H.pts with
  | nil => rfl
  | cons a l ih =>
    simp only [List.filter_cons]
    cases H.lives a <;> simp <;> omega

/-- A slice of integers, as it reads. -/
def ReadsI (w : World) (v : Value) (l : List Int) : Prop :=
  (v = .slice none 0 0 ∧ l = []) ∨ ∃ b off cap, v = .slice (some ⟨b, off, none⟩) l.length cap ∧ ∀ (i : Nat) (x : Int), l[i]? = some x → w.cell? ⟨b, off + i, none⟩ = some (.int .i64 x)
theorem ReadsI.below {w w' : World} {v : Value} {l : List Int} (h : ReadsI w v l) (hb : Below w.heap.size w w') : ReadsI w' v l := by
  rcases h with h | ⟨b, off, cap, h1, h2⟩
  · exact .inl h
  · exact .inr ⟨b, off, cap, h1, fun i x hx => stays hb (h2 i x hx)⟩
theorem ReadsI.cell {w : World} {a : Option Addr} {n k : Nat} {l : List Int} (h : ReadsI w (.slice a n k) l) : n = l.length ∧ ∀ (i : Nat) (x : Int), l[i]? = some x → ∃ b off, a = some ⟨b, off, none⟩ ∧ w.cell? ⟨b, off + i, none⟩ = some (.int .i64 x) := by
  rcases h with ⟨h1, rfl⟩ | ⟨b, off, cap, h1, h2⟩
  · cases h1; exact ⟨rfl, fun i x hx => by simp at hx⟩
  · cases h1; exact ⟨rfl, fun i x hx => ⟨b, off, rfl, h2 i x hx⟩⟩
end Go.Proofs.YtdllibalmjadhaaGreat
