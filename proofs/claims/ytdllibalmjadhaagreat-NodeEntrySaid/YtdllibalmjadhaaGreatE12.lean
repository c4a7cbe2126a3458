/- A node joins a hub without entries. A node joins a hub without entries that has nodes. -/
import Derived.Test.YtdllibalmjadhaaGreatE11

namespace Go.Proofs.YtdllibalmjadhaaGreat
open Go Go.RowKit

theorem addP_mem {l : List Nat} {p q : Nat} : q ∈ addP l p ↔ q = p ∨ q ∈ l := by
  have h : q ∈ l ↔ q ∈ l.take (lb l p) ∨ q ∈ l.drop (lb l p) := by
    rw [← List.mem_append, List.take_append_drop]
  unfold addP
  rw [h]
  simp only [List.mem_append, List.mem_singleton]
  grind

theorem cut_empty (F c fr : Chunk) (sb : Nat) (a b : Nat) (w : World) (hok : Ok w (c ++ fr)) (h : IsShelf F c sb []) : Calls Tryz.prog 59 #[.pointer (some ⟨sb, 0, none⟩), .agg #[.int .u32 a, .int .u32 b]] w fun en w' => en = .returned (.slice none 0 0) ∧ Below w.heap.size w w' := by
  have HS := hid fun w' (hb : Below w.heap.size w w') => scan_empty F c fr sb a b w' (hok.below hb) h
  clear hok h
  go_enter Tryz.func59, Tryz.ntmps59
  go_wp2_with (go_at_call 95; refine (HS.out _ (alloc_below _ _)).mono ?_; rintro en w1 ⟨rfl, hb⟩)
  refine wp_loop_once ?_
  go_wp2
  go_ret
  exact ⟨rfl, below_trans (alloc_below _ _) hb⟩

/-- A hub, and a node more. -/
def HubS.joined (H : HubS) (p : Nat) : HubS := { H with pts := addP H.pts p }
theorem HubS.joined_bare {H : HubS} (h : H.bare) (p : Nat) : (H.joined p).bare := h

theorem joined_is {c : Chunk} {hb p xb : Nat} {H : HubS} (hbare : H.bare) (hdead : H.dead = fun _ => false) {rb mb : Nat} {arr arr' : Array MapEntry} {clk clk' : Nat} {l : List (Nat × Value)} {cr cn cr' cx : Chunk} (h : HubIs [] c hb H rb mb arr clk l cr cn)
    (hp : p ∉ H.pts) (hrok : RingOk (addP H.pts p)) (hring : IsRing cr' rb (addP H.pts p)) (hmap : IsMap encName (mput l p (.pointer (some ⟨xb, 0, none⟩))) arr' clk') (hx : IsNode [] cx xb false [] fun _ => []) :
    HubIs [] ((hb, .cells #[.int .i64 H.reps, .pointer (some ⟨rb, 0, none⟩), .map (some mb), .slice none 0 0] 90 (0, 0)) :: (mb, .map arr' clk') :: (cr' ++ (cn ++ cx))) hb (H.joined p) rb mb arr' clk' (mput l p (.pointer (some ⟨xb, 0, none⟩))) cr' (cn ++ cx) := by
  have hpl : p ∉ l.map Prod.fst := fun h' => hp ((h.keys p).1 h')
  obtain ⟨hs, hd⟩ := hbare
  refine ⟨rfl, hring, hrok, hmap, ?_, fun q => ?_, h.reps⟩
  · refine Each.push ?_ hpl (h.nodes.mono fun q _ b c hq => hq)
    show IsNode [] cx xb (H.dead p) (H.sh p) (H.sd p)
    rw [hs, hd, hdead]; exact hx
  · have hk := h.keys q
    show _ ↔ q ∈ addP H.pts p
    rw [addP_mem, mput_of_not hpl, List.map_append, List.mem_append, hk]
    simp only [List.map_cons, List.map_nil, List.mem_singleton]
    exact or_comm

/-- Where a new node lies in the map. -/
theorem joined_world {c fr : Chunk} {hb p xb sb db mx : Nat} {H : HubS} (hbare : H.bare) (hdead : H.dead = fun _ => false) {rb mb : Nat} {arr arr' : Array MapEntry} {clk clk' : Nat} {l : List (Nat × Value)} {cr cn cr' cs : Chunk} (h : HubIs [] c hb H rb mb arr clk l cr cn)
    (hp : p ∉ H.pts) (hrok : RingOk (addP H.pts p)) (hring : IsRing cr' rb (addP H.pts p)) {w w3 w4 : World} (hsame : Same w w3)
    (hok3 : Ok w3 (cr' ++ ((hb, .cells #[.int .i64 H.reps, .pointer (some ⟨rb, 0, none⟩), .map (some mb), .slice none 0 0] 90 (0, 0)) :: (mb, .map arr clk) :: (cn ++ fr)))) (hcs : IsShelf [] cs sb [])
    (hf : Fresh w3 w4 ((xb, .cells #[.bool false, .int .i64 0, .pointer (some ⟨sb, 0, none⟩), .pointer (some ⟨db, 0, none⟩)] 127 (0, 0)) :: ([(db, .cells #[.map (some mx)] 184 (0, 0)), (mx, .map #[] 0)] ++ cs)))
    (hm' : IsMap encName (mput l p (.pointer (some ⟨xb, 0, none⟩))) arr' clk') :
    ∃ c' cr'' cn', HubIs [] c' hb (H.joined p) rb mb arr' clk' (mput l p (.pointer (some ⟨xb, 0, none⟩))) cr'' cn' ∧ Ok (setBlk w4 mb (.map arr' clk')) (c' ++ fr) ∧ Same w (setBlk w4 mb (.map arr' clk')) := by
  have hx : IsNode [] ((xb, .cells #[.bool false, .int .i64 0, .pointer (some ⟨sb, 0, none⟩), .pointer (some ⟨db, 0, none⟩)] 127 (0, 0)) :: (cs ++ [(db, .cells #[.map (some mx)] 184 (0, 0)), (mx, .map #[] 0)])) xb false [] fun _ => [] := ⟨sb, db, cs, _, rfl, hcs, IsShadow.new db mx⟩
  refine ⟨_, _, _, joined_is hbare hdead h hp hrok hring hm' hx, ?_, (hsame.trans hf.same).setBlk _ _⟩
  have h1 := hf.frame hok3
  have h2 : Ok w4 ((mb, .map arr clk) :: ((hb, .cells #[.int .i64 H.reps, .pointer (some ⟨rb, 0, none⟩), .map (some mb), .slice none 0 0] 90 (0, 0)) :: (cr' ++ (cn ++ (((xb, .cells #[.bool false, .int .i64 0, .pointer (some ⟨sb, 0, none⟩), .pointer (some ⟨db, 0, none⟩)] 127 (0, 0)) :: (cs ++ [(db, .cells #[.map (some mx)] 184 (0, 0)), (mx, .map #[] 0)])) ++ fr))))) := h1.cnt (by intro x hx; simp at hx ⊢; try grind) (by intro b; simp; try (first | omega | (simp [List.count_cons]; omega)))
  exact (h2.setBlk (.map arr' clk')).cnt (by intro x hx; simp at hx ⊢; try grind) (by intro b; simp; try (first | omega | (simp [List.count_cons]; omega)))

set_option maxHeartbeats 2000000 in
set_option maxRecDepth 100000 in
/-- The first node. -/
theorem join_first (c fr : Chunk) (hb p : Nat) (H : HubS) (hbare : H.bare) (hdead : H.dead = fun _ => false) (w : World) (hok : Ok w (c ++ fr)) (h : IsHub [] c hb H) (hnil : H.pts = []) (hrok : RingOk (addP H.pts p)) : Calls Tryz.prog 29 #[.pointer (some ⟨hb, 0, none⟩), .int .u32 p] w (HubPost w fr hb (H.joined p) (.int .i64 0)) := by
  have HD := hid (dead_any [] c fr hb H w hok h)
  have hlen : (H.deads H.pts).length = 0 := by rw [hnil]; rfl
  have hpn : p ∉ H.pts := by rw [hnil]; simp
  obtain ⟨rb, mb, arr, clk, l, cr, cn, h⟩ := h
  have hg := h.get hok
  have hrat := h.ringAt hok
  have hdp : decide (p ∈ H.pts) = false := by simpa using hpn
  have hhas := fun w' (hb' : Below w.heap.size w w') => rhas_any rb p H.pts w' (hrat.below hb') h.ok
  have hown := fun w' (hb' : Below w.heap.size w w') => owner_empty rb p w' (hnil ▸ hrat.below hb')
  have hadd := fun w' (hb' : Below w.heap.size w w') => add_new w' cr ((hb, .cells #[.int .i64 H.reps, .pointer (some ⟨rb, 0, none⟩), .map (some mb), .slice none 0 0] 90 (0, 0)) :: (mb, .map arr clk) :: (cn ++ fr)) rb p H.pts (by have := h.chunk; subst this; exact (hok.below hb').cnt (by intro x hx; simp at hx ⊢; try grind) (by intro b; simp; try (first | omega | (simp [List.count_cons]; omega)))) h.ring h.ok hpn (by rw [hnil]; simp)
  rw [hdp] at hhas
  have HH := hid hhas
  have HO := hid hown
  have HA := hid hadd
  have hafter := fun w3 w4 xb sb db mx arr' clk' cr' cs h1 h2 h3 h4 h5 h6 => joined_world (fr := fr) (w := w) (w3 := w3) (w4 := w4) (xb := xb) (sb := sb) (db := db) (mx := mx) (arr' := arr') (clk' := clk') (cr' := cr') (cs := cs) hbare hdead h hpn hrok h1 h2 h3 h4 h5 h6
  have hlay := fun w' c' h1 h2 => lay_any c' fr hb (H.joined p) hbare w' h1 h2 (by intro e; have : p ∈ (H.joined p).pts := addP_mem.2 (.inl rfl); rw [e] at this; cases this)
  have HF := hid hafter
  have HL := hid hlay
  have HM := hid h.map
  clear hhas hown hadd hafter hlay hok h hrat hrok
  go_enter Tryz.func29, Tryz.ntmps29
  go_wp2_with (first | (go_at_call 24; refine HD.out.mono ?_; rintro en w1 ⟨v, cv, rfl, hrow, hf1⟩; obtain ⟨a, cap, rfl⟩ := hrow.slice; rw [hlen]; have hb1 := hf1.below; have r1 : w1.cell? ⟨hb, 1, none⟩ = some (.pointer (some ⟨rb, 0, none⟩)) := cellOf (holds hb1 hg) 1) | (go_at_call 54; refine (HH.out w1 hb1).mono ?_; rintro en w2 ⟨rfl, hb2⟩; have hb12 := below_trans hb1 hb2; have r2 : w2.cell? ⟨hb, 1, none⟩ = some (.pointer (some ⟨rb, 0, none⟩)) := cellOf (holds hb12 hg) 1) | (go_at_call 13; refine (HO.out w2 hb12).mono ?_; rintro en w2' ⟨rfl, rfl⟩) | (go_at_call 55; refine (HA.out w2 hb12).mono ?_; rintro en w3 ⟨cr', rfl, hring, hok3, hs3⟩) | (go_at_call 56; refine (fresh_any w3).mono ?_; rintro en w4 ⟨xb, sb, db, mx, cs, rfl, hcs, hf4⟩; have hok4 := hf4.frame hok3; have q4 : w4.cell? ⟨hb, 2, none⟩ = some (.map (some mb)) := cellOf (hok4.get (b := hb) (o := .cells #[.int .i64 H.reps, .pointer (some ⟨rb, 0, none⟩), .map (some mb), .slice none 0 0] 90 (0, 0)) (by simp)) 2; obtain ⟨arr', clk', hm', hup⟩ := run_update (P := Tryz.prog) nameLaw Tryz.underlying87 (hok4.get (b := mb) (o := .map arr clk) (by simp)) HM.out p (.pointer (some ⟨xb, 0, none⟩)); simp only [encName] at hup; obtain ⟨c', cr'', cn', hh', hok', hs'⟩ := HF.out w3 w4 xb sb db mx arr' clk' cr' cs hring (((Same.refl w).below hb12).trans hs3) hok3 hcs hf4 hm'; clear hok4 hok3 hm') | (go_at_call 60; refine (HL.out _ c' hok' ⟨_, _, _, _, _, _, _, hh'⟩).mono ?_; rintro en w5 ⟨c5, rfl, hh5, hok5, hs5⟩))
  go_ret
  exact ⟨c5, rfl, hh5, hok5, hs'.trans hs5⟩
end Go.Proofs.YtdllibalmjadhaaGreat

namespace Go.Proofs.YtdllibalmjadhaaGreat
open Go Go.RowKit

/-- A node of a hub, as it lies. -/
theorem HubIs.nodeAt {F c fr cr cn : Chunk} {hb : Nat} {H : HubS} {rb mb : Nat} {arr : Array MapEntry} {clk : Nat} {l : List (Nat × Value)} {w : World} (h : HubIs F c hb H rb mb arr clk l cr cn) (hok : Ok w (c ++ fr)) {p : Nat} (hp : p ∈ H.pts) :
    ∃ xb sb db cs cd rest, mget l p = some (.pointer (some ⟨xb, 0, none⟩)) ∧ w.heap[xb]? = some (.cells #[.bool (H.dead p), .int .i64 0, .pointer (some ⟨sb, 0, none⟩), .pointer (some ⟨db, 0, none⟩)] 127 (0, 0)) ∧ IsShelf F cs sb (H.sh p) ∧ IsShadow F cd db (H.sd p) ∧ Ok w (cs ++ (cd ++ rest)) := by
  obtain ⟨xb, x, c1, y, hg, e2, ⟨sb, db, cs, cd, e3, hs, hd⟩, _⟩ := h.split hp
  have h1 := h.chunk
  subst h1; subst e2; subst e3
  exact ⟨xb, sb, db, cs, cd, fr, hg, hok.get (by simp), hs, hd, hok.cnt (by intro x hx; simp at hx ⊢; try grind) (by intro b; simp; try (first | omega | (simp [List.count_cons]; omega)))⟩
theorem HubS.joined_mem (H : HubS) (p : Nat) : p ∈ (H.joined p).pts := addP_mem.2 (.inl rfl)

set_option maxHeartbeats 2000000 in
set_option maxRecDepth 100000 in
/-- There is one already. -/
theorem join_there (c fr : Chunk) (hb p : Nat) (H : HubS) (hnd : (H.deads H.pts).length = 0) (w : World) (hok : Ok w (c ++ fr)) (h : IsHub [] c hb H) (hp : p ∈ H.pts) : Calls Tryz.prog 29 #[.pointer (some ⟨hb, 0, none⟩), .int .u32 p] w fun en w' => en = .returned (.int .i64 7) ∧ Below w.heap.size w w' := by
  have HD := hid (dead_any [] c fr hb H w hok h)
  obtain ⟨rb, mb, arr, clk, l, cr, cn, h⟩ := h
  have hg := h.get hok
  have hrat := h.ringAt hok
  have hdp : decide (p ∈ H.pts) = true := by simpa using hp
  have hhas := fun w' (hb' : Below w.heap.size w w') => rhas_any rb p H.pts w' (hrat.below hb') h.ok
  rw [hdp] at hhas
  have HH := hid hhas
  have HL := hid hnd
  clear hhas hok h hrat hdp hnd
  go_enter Tryz.func29, Tryz.ntmps29
  go_wp2_with (first | (go_at_call 24; refine HD.out.mono ?_; rintro en w1 ⟨v, cv, rfl, hrow, hf1⟩; obtain ⟨a, cap, rfl⟩ := hrow.slice; rw [HL.out]; have hb1 := hf1.below; have r1 : w1.cell? ⟨hb, 1, none⟩ = some (.pointer (some ⟨rb, 0, none⟩)) := cellOf (holds hb1 hg) 1) | (go_at_call 54; refine (HH.out w1 hb1).mono ?_; rintro en w2 ⟨rfl, hb2⟩))
  go_ret
  exact ⟨rfl, below_trans hb1 hb2⟩

set_option maxHeartbeats 4000000 in
set_option maxRecDepth 100000 in
/-- A further node. -/
theorem join_more (c fr : Chunk) (hb p : Nat) (H : HubS) (hbare : H.bare) (hdead : H.dead = fun _ => false) (hnd : (H.deads H.pts).length = 0) (w : World) (hok : Ok w (c ++ fr)) (h : IsHub [] c hb H) (hne : H.pts ≠ []) (hpn : p ∉ H.pts) (hmax : H.pts.length < 64) (hrok : RingOk (addP H.pts p)) : Calls Tryz.prog 29 #[.pointer (some ⟨hb, 0, none⟩), .int .u32 p] w (HubPost w fr hb (H.joined p) (.int .i64 0)) := by
  have HD := hid (dead_any [] c fr hb H w hok h)
  have HLen := hid hnd
  obtain ⟨rb, mb, arr, clk, l, cr, cn, h⟩ := h
  have hg := h.get hok
  have hrat := h.ringAt hok
  have hdp : decide (p ∈ H.pts) = false := by simpa using hpn
  have hhas := fun w' (hb' : Below w.heap.size w w') => rhas_any rb p H.pts w' (hrat.below hb') h.ok
  have hown := fun w' (hb' : Below w.heap.size w w') => owner_some rb p H.pts w' (hrat.below hb') h.ok hne
  have hadd := fun w' (hb' : Below w.heap.size w w') => add_new w' cr ((hb, .cells #[.int .i64 H.reps, .pointer (some ⟨rb, 0, none⟩), .map (some mb), .slice none 0 0] 90 (0, 0)) :: (mb, .map arr clk) :: (cn ++ fr)) rb p H.pts (by have := h.chunk; subst this; exact (hok.below hb').cnt (by intro x hx; simp at hx ⊢; try grind) (by intro b; simp; try (first | omega | (simp [List.count_cons]; omega)))) h.ring h.ok hpn hmax
  rw [hdp] at hhas
  have hq : ownerOf H.pts p ∈ (H.joined p).pts := addP_mem.2 (.inr (ownerOf_mem hne p))
  generalize hqe : ownerOf H.pts p = q at *
  have HH := hid hhas
  have HO := hid hown
  have HA := hid hadd
  have hbare' := HubS.joined_bare hbare p
  have hafter := fun w3 w4 xb sb db mx arr' clk' cr' cs h1 h2 h3 h4 h5 h6 => joined_world (fr := fr) (w := w) (w3 := w3) (w4 := w4) (xb := xb) (sb := sb) (db := db) (mx := mx) (arr' := arr') (clk' := clk') (cr' := cr') (cs := cs) hbare hdead h hpn hrok h1 h2 h3 h4 h5 h6
  have hlay := fun w' c' h1 h2 => lay_any c' fr hb (H.joined p) hbare' w' h1 h2 (by intro e; have := H.joined_mem p; rw [e] at this; cases this)
  have HF := hid hafter
  have HL := hid hlay
  have HM := hid h.map
  have HB := hid hbare'
  have HQ := hid hq
  clear hhas hown hadd hafter hlay hok h hrat hqe hdp hnd hq hbare' hbare hdead hpn
  go_enter Tryz.func29, Tryz.ntmps29
  go_wp2_with (first | (go_at_call 24; refine HD.out.mono ?_; rintro en w1 ⟨v, cv, rfl, hrow, hf1⟩; obtain ⟨a, cap, rfl⟩ := hrow.slice; rw [HLen.out]; have hb1 := hf1.below; have r1 : w1.cell? ⟨hb, 1, none⟩ = some (.pointer (some ⟨rb, 0, none⟩)) := cellOf (holds hb1 hg) 1) | (go_at_call 54; refine (HH.out w1 hb1).mono ?_; rintro en w2 ⟨rfl, hb2⟩; have hb12 := below_trans hb1 hb2; have r2 : w2.cell? ⟨hb, 1, none⟩ = some (.pointer (some ⟨rb, 0, none⟩)) := cellOf (holds hb12 hg) 1) | (go_at_call 13; refine (HO.out w2 hb12).mono ?_; rintro en w2' ⟨rfl, hb2'⟩; have hb12' := below_trans hb12 hb2'; have r2' : w2'.cell? ⟨hb, 1, none⟩ = some (.pointer (some ⟨rb, 0, none⟩)) := cellOf (holds hb12' hg) 1) | (go_at_call 55; refine (HA.out w2' hb12').mono ?_; rintro en w3 ⟨cr', rfl, hring, hok3, hs3⟩) | (go_at_call 56; refine (fresh_any w3).mono ?_; rintro en w4 ⟨xb, sb, db, mx, cs, rfl, hcs, hf4⟩; have hok4 := hf4.frame hok3; have q4 : w4.cell? ⟨hb, 2, none⟩ = some (.map (some mb)) := cellOf (hok4.get (b := hb) (o := .cells #[.int .i64 H.reps, .pointer (some ⟨rb, 0, none⟩), .map (some mb), .slice none 0 0] 90 (0, 0)) (by simp)) 2; obtain ⟨arr', clk', hm', hup⟩ := run_update (P := Tryz.prog) nameLaw Tryz.underlying87 (hok4.get (b := mb) (o := .map arr clk) (by simp)) HM.out p (.pointer (some ⟨xb, 0, none⟩)); simp only [encName] at hup; obtain ⟨c', cr'', cn', hh', hok', hs'⟩ := HF.out w3 w4 xb sb db mx arr' clk' cr' cs hring (((Same.refl w).below hb12').trans hs3) hok3 hcs hf4 hm'; have hr5 : (setBlk w4 mb (.map arr' clk')).cell? ⟨hb, 1, none⟩ = some (.pointer (some ⟨rb, 0, none⟩)) := cellOf (hh'.get hok') 1; have HS := hid (span_some rb p (H.joined p).pts _ (hh'.ringAt hok') hrok (H.joined_mem p)); clear hok4 hok3) | (go_at_call 57; refine HS.out.mono ?_; rintro en w6 ⟨rfl, hb6⟩; clear hup hr5 q4))
  generalize setBlk w4 mb (.map arr' clk') = v5 at *
  have hv7 := below_trans hb6 (alloc_below w6 (.cells #[.int .u32 (fromOf (H.joined p).pts p : Nat), .int .u32 p] 50))
  have hsp7 := heap1 w6 (.cells #[.int .u32 (fromOf (H.joined p).pts p : Nat), .int .u32 p] 50)
  obtain ⟨xp, sp, dp, csp, cdp, rp, hgp, hxp, hshp, _, hokp⟩ := hh'.nodeAt hok' (H.joined_mem p)
  obtain ⟨xq, sq, dq, csq, cdq, rq, hgq, hxq, hshq, _, hokq⟩ := hh'.nodeAt hok' HQ.out
  rw [mget_mput, if_pos rfl] at hgp
  cases hgp
  rw [HB.out.1] at hshq
  have HCut := hid fun a b w' (hb' : Below v5.heap.size v5 w') => cut_empty [] csq _ sq a b w' (hokq.below hb') hshq
  have hlook := fun w' (hb' : Below v5.heap.size v5 w') => run_look (P := Tryz.prog) nameLaw Tryz.underlying87 (z := .pointer none) (w := w') (by kernel_rfl) (holds hb' (hh'.mapAt hok')) hh'.map q false
  rw [hgq] at hlook
  simp only [encName, Option.getD_some, Bool.false_eq_true, if_false] at hlook
  have hhb := hh'.get hok'
  generalize w6.alloc (.cells #[.int .u32 (fromOf (H.joined p).pts p : Nat), .int .u32 p] 50) = w7 at *
  have HK := hid (And.intro hh' (And.intro hok' hs'))
  clear hok' hh' hs' hshp hshq hokp hokq hb6 hcs hring hf4 hm'
  refine wp_region_b [15, 16] (by kernel_rfl) (by kernel_rfl) ?_
  intro E _ hE hI
  have b1 : ∀ w' : InD E, w'.val.cell? ⟨xb, 2, none⟩ = some (.pointer (some ⟨sp, 0, none⟩)) := fun w' => cellOf (holds (below_trans hv7 (hE w')) hxp) 2
  have b2 : ∀ w' : InD E, w'.val.cell? ⟨hb, 2, none⟩ = some (.map (some mb)) := fun w' => cellOf (holds (below_trans hv7 (hE w')) hhb) 2
  have b3 : ∀ w' : InD E, (Instr.lookup 87 (.map (some mb)) (.agg #[.int .u32 q]) false).run Tryz.prog w'.val = .ok (.pointer (some ⟨xq, 0, none⟩)) w'.val := fun w' => hlook _ (below_trans hv7 (hE w'))
  have b4 : ∀ w' : InD E, w'.val.cell? ⟨xq, 2, none⟩ = some (.pointer (some ⟨sq, 0, none⟩)) := fun w' => cellOf (holds (below_trans hv7 (hE w')) hxq) 2
  have b5 : ∀ w' : InD E, w'.val.cell? ⟨w6.heap.size, 0, none⟩ = some (.int .u32 (fromOf (H.joined p).pts p : Nat)) := fun w' => cellOf (holds (hE w') hsp7) 0
  have b6 : ∀ w' : InD E, w'.val.cell? ⟨w6.heap.size, 1, none⟩ = some (.int .u32 p) := fun w' => cellOf (holds (hE w') hsp7) 1
  repeat (refine wpX_step (fun K hK => ?_); go_simp; refine hK _ _ ?_; clear hK K)
  refine wpX_step (fun K hK => ?_); go_simp
  refine ⟨fun u w' => u = .slice none 0 0 ∧ E w', fun w' hw' => (HCut.out _ _ _ (below_trans hv7 (hE ⟨w', hw'⟩))).mono fun en w'' ⟨he, hb'⟩ => ⟨_, he, rfl, hI _ (below_trans (hE ⟨w', hw'⟩) hb')⟩, fun u w h => h.2, ?_⟩
  rintro u y ⟨rfl, _⟩
  refine hK _ _ ?_; clear hK K
  repeat (refine wpX_step (fun K hK => ?_); go_simp; refine hK _ _ ?_; clear hK K)
  refine wpX_step (fun K hK => ?_); go_simp
  refine ⟨fun u w' => u = .int .i64 0 ∧ E w', fun w' hw' => (shelfJoin_nil _ w').mono fun en w'' ⟨he, hb'⟩ => ⟨_, he, rfl, hb' ▸ hw'⟩, fun u w h => h.2, ?_⟩
  rintro u y ⟨rfl, _⟩
  refine hK _ _ ?_; clear hK K
  refine wpX_nil ?_
  rintro w8 hw8'
  have hw8 : E w8 := by first | exact hw8' | exact hw8'.2
  have hb8 : Below v5.heap.size v5 w8 := below_trans hv7 (hE ⟨w8, hw8⟩)
  have hok8 := HK.out.2.1.below hb8
  clear b1 b2 b3 b4 b5 b6 hI hlook hxp hxq hhb hsp7 HCut hE hv7
  go_wp2_with (go_at_call 60; refine (HL.out _ c' hok8 ⟨_, _, _, _, _, _, _, HK.out.1⟩).mono ?_; rintro en w9 ⟨c9, rfl, hh9, hok9, hs9⟩)
  go_ret
  exact ⟨c9, rfl, hh9, hok9, (HK.out.2.2.below hb8).trans hs9⟩
end Go.Proofs.YtdllibalmjadhaaGreat
