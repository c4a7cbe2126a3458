/- A hub like another one. -/
import Derived.Test.YtdllibalmjadhaaGreatE16
import Derived.Test.YtdllibalmjadhaaGreatE12
import Derived.Test.YtdllibalmjadhaaGreatE7

namespace Go.Proofs.YtdllibalmjadhaaGreat
open Go Go.RowKit

theorem cloneSpan_nil (w : World) : Calls Tryz.prog 70 #[.slice none 0 0] w fun e w' => e = .returned (.slice none 0 0) ∧ w = w' := by
  have hn := fun w a n c => Lib.run_eql_slice_nil (P := Tryz.prog) w 88 50 a n c 0 0 Tryz.underlying88
  go_enter Tryz.func70, Tryz.ntmps70
  go_wp2
  all_goals (go_ret; exact ⟨rfl, rfl⟩)

def HubNew (w : World) (F : Chunk) (H : HubS) (en : Ending) (w' : World) : Prop := ∃ hb' c', en = .returned (.pointer (some ⟨hb', 0, none⟩)) ∧ IsHub F c' hb' H ∧ Fresh w w' c'
def RingAtNew (w : World) (pts : List Nat) (u : Value) (w' : World) : Prop := ∃ rb cR, u = .pointer (some ⟨rb, 0, none⟩) ∧ IsRing cR rb pts ∧ Fresh w w' cR
def RingHeld (w : World) (pts : List Nat) (u : Value) (w' : World) : Prop := ∃ rb cR, u = .pointer (some ⟨rb, 0, none⟩) ∧ IsRing cR rb pts ∧ Ok w' cR ∧ ∀ b ∈ cR.map Prod.fst, w.heap.size ≤ b
def MapAtNew (w : World) (u : Value) (w' : World) : Prop := ∃ b, u = .map (some b) ∧ w.heap.size ≤ b ∧ w'.heap[b]? = some (.map #[] 0)
theorem RingHeld.cl {w w1 w2 : World} {pts : List Nat} {u : Value} (h : RingHeld w pts u w1) (hb : Below w1.heap.size w1 w2) : RingHeld w pts u w2 := by
  obtain ⟨rb', cR, h1, h2, h3, h4⟩ := h
  exact ⟨rb', cR, h1, h2, h3.below hb, h4⟩
theorem MapAtNew.cl {w w1 w2 : World} {u : Value} (h : MapAtNew w u w1) (hb : Below w1.heap.size w1 w2) : MapAtNew w u w2 := by
  obtain ⟨b, h1, h2, h3⟩ := h
  exact ⟨b, h1, h2, holds hb h3⟩
def HubBox (w : World) (H : HubS) (rb mb : Nat) (u : Value) (w' : World) : Prop := ∃ hb cR, u = .pointer (some ⟨hb, 0, none⟩) ∧ IsRing cR rb H.pts ∧ Fresh w w' ((hb, .cells #[.int .i64 H.reps, .pointer (some ⟨rb, 0, none⟩), .map (some mb), .slice none 0 0] 90 (0, 0)) :: cR) ∧ w'.heap[mb]? = some (.map #[] 0) ∧ w.heap.size ≤ mb
def NodeStep (w : World) (F : Chunk) (H : HubS) (rest : Chunk) (mb ib : Nat) (it : Obj) (ln : List (Nat × Value)) (w' : World) : Prop := ∃ arr clk cx, IsMap encName ln arr clk ∧ Each (H.node F) cx ln ∧ Ok w' ((mb, .map arr clk) :: (rest ++ (cx ++ ((ib, it) :: allOf w)))) ∧ Same w w'
def TwoNew (w : World) (F : Chunk) (sb : Nat) (arr : Array MapEntry) (clk : Nat) (f : Nat → List Ent) (u : Value) (w' : World) : Prop := ∃ db c mb, u = .pointer (some ⟨db, 0, none⟩) ∧ IsShadow F c db f ∧ Fresh w w' (c ++ [(sb, .cells #[.map (some mb)] 166 (0, 0)), (mb, .map arr clk)])
def NodeNewAt (w : World) (F : Chunk) (dead : Bool) (sb : Nat) (arr : Array MapEntry) (clk : Nat) (f : Nat → List Ent) (u : Value) (w' : World) : Prop := ∃ xb db c mb, u = .pointer (some ⟨xb, 0, none⟩) ∧ IsShadow F c db f ∧ Fresh w w' ((xb, .cells #[.bool dead, .int .i64 0, .pointer (some ⟨sb, 0, none⟩), .pointer (some ⟨db, 0, none⟩)] 127 (0, 0)) :: (c ++ [(sb, .cells #[.map (some mb)] 166 (0, 0)), (mb, .map arr clk)]))
theorem ring_cells {c : Chunk} {rb : Nat} {l : List Nat} (h : IsRing c rb l) {x : Nat × Obj} (hx : x ∈ c) : ∃ cs T fz, x.2 = .cells cs T fz := by
  obtain ⟨v, cr, rfl, hr⟩ := h
  rcases List.mem_cons.1 hx with rfl | hx
  · exact ⟨_, _, _, rfl⟩
  · rcases hr.2 with ⟨_, _, rfl⟩ | ⟨g, cap, cur, _, rfl, _⟩
    · cases hx
    · simp at hx; exact ⟨_, _, _, by rw [hx]⟩
/-- A block more. -/
theorem Fresh.add {w w' : World} {c : Chunk} (h : Fresh w w' c) {b : Nat} {o : Obj} (hb : w'.heap[b]? = some o) (hge : w.heap.size ≤ b) (hn : ∀ x ∈ c, x.2 ≠ o) : Fresh w w' ((b, o) :: c) := by
  have hnc : b ∉ c.map Prod.fst := fun hm => by
    obtain ⟨⟨b', o'⟩, hm', rfl⟩ := List.mem_map.1 hm
    have h1 := h.ok.left.get hm'
    have h2 : o = o' := Option.some.inj (hb.symm.trans h1)
    exact hn _ hm' h2.symm
  refine Fresh.of ⟨?_, fun x y hx => ?_⟩ h.below (fun x hx => ?_)
  · rw [List.map_cons, List.nodup_cons]; exact ⟨hnc, h.ok.left.nd⟩
  · rcases List.mem_cons.1 hx with hx | hx
    · cases hx; exact hb
    · exact h.ok.left.get hx
  · rcases List.mem_cons.1 hx with rfl | hx
    · exact hge
    · exact h.new hx

set_option maxHeartbeats 4000000 in
set_option maxRecDepth 100000 in
theorem hubFork_any (F c fr : Chunk) (hb : Nat) (H : HubS) (w : World) (hok : Ok w (c ++ fr)) (h : IsHub F c hb H) : Calls Tryz.prog 33 #[.pointer (some ⟨hb, 0, none⟩)] w (HubNew w F H) := by
  obtain ⟨rb, mb, arr, clk, l, cr, cn, h⟩ := h
  have hmm := @run_makeMap Tryz.prog
  have hh := h.get hok
  have hmb := h.mapAt hok
  have hrat := h.ringAt hok
  have hm := h.map
  have HR := hid fun w' (hb' : Below w.heap.size w w') => ringFork_any rb H.pts w' _ (Ok.all w') (hrat.below hb') h.ok
  have HN := hid (And.intro h hok)
  clear h hok hrat
  generalize hpost : HubNew w F H = post
  have HP := hid hpost
  clear hpost
  go_enter Tryz.func33, Tryz.ntmps33
  go_wp2_with (fail)
  refine wp_region_z [8, 9, 14] [RingHeld w H.pts, MapAtNew w, fun u _ => u = .slice none 0 0] [16] (by kernel_rfl) (by kernel_rfl) ?_ ?_
  · intro R hR u w1 w2 h hb
    simp only [List.mem_cons, List.not_mem_nil, or_false] at hR
    rcases hR with rfl | rfl | rfl
    · obtain ⟨rb', cR, h1, h2, h3, h4⟩ := h
      exact ⟨rb', cR, h1, h2, h3.below hb, h4⟩
    · obtain ⟨b, h1, h2, h3⟩ := h
      exact ⟨b, h1, h2, holds hb h3⟩
    · exact h
  intro E _ hE hI hClE
  have b0 : ∀ w' : InD E, w'.val.cell? ⟨hb, 0, none⟩ = some (.int .i64 H.reps) := fun w' => cellOf (holds (hE w') hh) 0
  have b1 : ∀ w' : InD E, w'.val.cell? ⟨hb, 1, none⟩ = some (.pointer (some ⟨rb, 0, none⟩)) := fun w' => cellOf (holds (hE w') hh) 1
  have b3 : ∀ w' : InD E, w'.val.cell? ⟨hb, 3, none⟩ = some (.slice none 0 0) := fun w' => cellOf (holds (hE w') hh) 3
  repeat (refine wpZ_step (fun K hK => ?_); go_simp; refine hK _ _ ?_; clear hK K)
  refine wpZ_step (fun K hK => ?_); go_simp
  refine ⟨fun w' => ?_, ?_⟩
  · refine (HR.out _ (hE w')).mono ?_
    rintro en w'' ⟨rb', cR', rfl, hr, ho, hs, hb'⟩
    have hf : Fresh w'.val w'' cR' := ⟨ho, hs⟩
    exact ⟨_, rfl, ⟨rb', cR', rfl, hr, ho.left, fun b hb => Nat.le_trans (hE w').size (hf.new hb)⟩, hf.below⟩
  rintro u y _ ⟨rb', _, rfl, _⟩
  refine hK _ _ ?_; clear hK K
  refine wpZ_step (fun K hK => ?_); go_simp
  refine ⟨hClE.and (fun w1 w2 h hb => h.cl hb), fun w' => ⟨⟨_, rfl, (hE w').size, heap1 _ _⟩, alloc_below _ _⟩, ?_⟩
  rintro u y _ _ ⟨mb', rfl, _⟩
  refine hK _ _ ?_; clear hK K
  repeat (refine wpZ_step (fun K hK => ?_); go_simp; refine hK _ _ ?_; clear hK K)
  refine wpZ_step (fun K hK => ?_); go_simp
  refine ⟨(hClE.and (fun w1 w2 h hb => h.cl hb)).and (fun w1 w2 h hb => h.cl hb), fun w' => (cloneSpan_nil w'.val).mono fun en w'' ⟨he, hw⟩ => ⟨_, he, rfl, hw ▸ Below.refl _ _⟩, ?_⟩
  rintro u y _ _ _ rfl
  refine hK _ _ ?_; clear hK K
  repeat (refine wpZ_step (fun K hK => ?_); go_simp; refine hK _ _ ?_; clear hK K)
  refine wpZ_step (fun K hK => ?_); go_simp
  refine ⟨fun u w' => HubBox w H rb' mb' u w' ∧ E w', fun w1 h1 h2 h3 => ?_, fun u w h => h.2, ?_⟩
  · obtain ⟨rb'', cR, hp, hr, ho, hge⟩ := h2
    cases hp
    obtain ⟨mb'', hp, hge', hmp⟩ := h3
    cases hp
    have hbw : Below w.heap.size w w1 := hE ⟨w1, h1⟩
    have hf := (Fresh.of ho hbw hge).push (.cells #[.int .i64 H.reps, .pointer (some ⟨rb', 0, none⟩), .map (some mb'), .slice none 0 0] 90)
    exact ⟨⟨_, cR, rfl, hr, hf, holds (alloc_below _ _) hmp, hge'⟩, hI _ (below_trans hbw (alloc_below _ _))⟩
  rintro u y ⟨⟨hb', _, rfl, _⟩, _⟩
  refine hK _ _ ?_; clear hK K
  repeat (refine wpZ_step (fun K hK => ?_); go_simp; refine hK _ _ ?_; clear hK K)
  refine wpZ_nil ?_
  rintro w3 ⟨⟨hb'', cR', hp, hring', hf3, hmp3, hge3⟩, _⟩
  cases hp
  have hf3' := hf3.add hmp3 hge3 (fun x hx => by
    rcases List.mem_cons.1 hx with rfl | hx
    · simp
    · obtain ⟨cs, T, fz, e⟩ := ring_cells hring' hx
      rw [e]; simp)
  have hh3 := holds hf3.below hh
  have hmb3 := holds hf3.below hmb
  have c2 : w3.cell? ⟨hb, 2, none⟩ = some (.map (some mb)) := cellOf hh3 2
  have hrg := run_range (P := Tryz.prog) Tryz.underlying87 hmb3
  have hst : Ok (w3.alloc (.mapIter (some mb) clk #[] clk)) ((mb', .map #[] 0) :: ((hb', .cells #[.int .i64 H.reps, .pointer (some ⟨rb', 0, none⟩), .map (some mb'), .slice none 0 0] 90 (0, 0)) :: ((cR' ++ []) ++ ((w3.heap.size, .mapIter (some mb) clk #[] clk) :: allOf w)))) := (hf3'.ok.alloc _).cnt (by intro x hx; simp at hx ⊢; try grind) (by intro b; simp; try (first | omega | (simp [List.count_cons]; omega)))
  have hs0 : Same w (w3.alloc (.mapIter (some mb) clk #[] clk)) := hf3.same.alloc _
  have hstart : Ranging encName l l arr clk #[] := Ranging.start hm
  have HMB := hid hmb
  clear b0 b1 b3 hE hI hClE hf3 hf3' hmp3 hge3 hh3 hmb3 hmm HR
  go_wp2
  generalize w3.heap.size = ib at *
  generalize w3.alloc (.mapIter (some mb) clk #[] clk) = w4 at *
  clear c2 hrg
  go_loopw [] (fun wr => ∃ seen todo ln arr' clk' cx', Ranging encName l todo arr clk seen ∧ Split l ln todo ∧ IsMap encName ln arr' clk' ∧ Each (H.node F) cx' ln ∧ Ok wr ((mb', .map arr' clk') :: ((hb', .cells #[.int .i64 H.reps, .pointer (some ⟨rb', 0, none⟩), .map (some mb'), .slice none 0 0] 90 (0, 0)) :: ((cR' ++ cx') ++ ((ib, .mapIter (some mb) clk seen clk) :: allOf w)))) ∧ Same w wr)
    (fun wr => toComeK wr ib mb)
  case atStart => exact ⟨#[], l, [], #[], 0, [], hstart, Split.start l, IsMap.empty _, rfl, hst, hs0⟩
  case round =>
    clear hst hs0 hstart
    obtain ⟨seen, todo, ln, arr', clk', cx', hran, hsp, hmn, hen, hok, hsame⟩ := hrel
    have hall : Ok wr (((mb', .map arr' clk') :: ((hb', .cells #[.int .i64 H.reps, .pointer (some ⟨rb', 0, none⟩), .map (some mb'), .slice none 0 0] 90 (0, 0)) :: ((cR' ++ cx') ++ [(ib, .mapIter (some mb) clk seen clk)]))) ++ allOf w) := by simpa using hok
    have hi : wr.heap[ib]? = some (.mapIter (some mb) clk seen clk) := hok.get (by simp)
    have hmr : wr.heap[mb]? = some (.map arr clk) := allOf_keep hall hmb
    by_cases htd : todo = []
    · subst htd
      have hnx := run_next_over (P := Tryz.prog) hi hmr hran 0
      have hkeys : ∀ p, p ∈ ln.map Prod.fst ↔ p ∈ H.pts := fun p => by
        rw [← HN.out.1.keys p, hsp.all p]; simp
      have hok' : Ok wr (((hb', .cells #[.int .i64 H.reps, .pointer (some ⟨rb', 0, none⟩), .map (some mb'), .slice none 0 0] 90 (0, 0)) :: (mb', .map arr' clk') :: (cR' ++ cx')) ++ allOf w) := by
        have h1 := hok.sublist (c' := (mb', .map arr' clk') :: ((hb', .cells #[.int .i64 H.reps, .pointer (some ⟨rb', 0, none⟩), .map (some mb'), .slice none 0 0] 90 (0, 0)) :: ((cR' ++ cx') ++ allOf w))) (List.Sublist.cons_cons _ (List.Sublist.cons_cons _ (List.Sublist.append_left (List.sublist_cons_self _ _) _)))
        exact Ok.perm h1 (List.Perm.swap _ _ _)
      have HF := hid (show HubNew w F H (.returned (.pointer (some ⟨hb', 0, none⟩))) wr from ⟨hb', _, rfl, ⟨rb', mb', arr', clk', ln, cR', cx', ⟨rfl, hring', HN.out.1.ok, hmn, hen, hkeys, HN.out.1.reps⟩⟩, ⟨hok', hsame⟩⟩)
      rw [HP.out] at HF
      clear hran hsp hmn hen hok hok' hall hsame hm hmb hi hmr hh hkeys hring'
      go_wp2
      exact HF.out
    · obtain ⟨t1, p, t2, s, n, htodo, hran', hfind, hnx⟩ := run_next_some (P := Tryz.prog) hi hmr hran htd 0
      have hokn : Ok (setBlk (wr.drewN n) ib (.mapIter (some mb) clk (seen.push s) clk)) ((mb', .map arr' clk') :: ((hb', .cells #[.int .i64 H.reps, .pointer (some ⟨rb', 0, none⟩), .map (some mb'), .slice none 0 0] 90 (0, 0)) :: ((cR' ++ cx') ++ ((ib, .mapIter (some mb) clk (seen.push s) clk) :: allOf w)))) := by
        have h1 : Ok (wr.drewN n) ((ib, .mapIter (some mb) clk seen clk) :: ((mb', .map arr' clk') :: ((hb', .cells #[.int .i64 H.reps, .pointer (some ⟨rb', 0, none⟩), .map (some mb'), .slice none 0 0] 90 (0, 0)) :: ((cR' ++ cx') ++ allOf w)))) := (hok.drewN n).cnt (by intro x hx; simp at hx ⊢; try grind) (by intro b; simp; try (first | omega | (simp [List.count_cons]; omega)))
        exact (h1.setBlk (.mapIter (some mb) clk (seen.push s) clk)).cnt (by intro x hx; simp at hx ⊢; try grind) (by intro b; simp; try (first | omega | (simp [List.count_cons]; omega)))
      have hsn : Same w (setBlk (wr.drewN n) ib (.mapIter (some mb) clk (seen.push s) clk)) := (hsame.drewN n).setBlk _ _
      have hleft := toComeK_eq hi hmr hran
      generalize hwn : setBlk (wr.drewN n) ib (.mapIter (some mb) clk (seen.push s) clk) = wn at *
      have halln : Ok wn (((mb', .map arr' clk') :: ((hb', .cells #[.int .i64 H.reps, .pointer (some ⟨rb', 0, none⟩), .map (some mb'), .slice none 0 0] 90 (0, 0)) :: ((cR' ++ cx') ++ [(ib, .mapIter (some mb) clk (seen.push s) clk)]))) ++ allOf w) := by simpa using hokn
      have hin : wn.heap[ib]? = some (.mapIter (some mb) clk (seen.push s) clk) := hokn.get (by simp)
      have hmn' : wn.heap[mb]? = some (.map arr clk) := allOf_keep halln hmb
      have hen' := run_entry (P := Tryz.prog) hin hmn' hfind
      have hpl : p ∈ l := hran.sub.subset (by rw [htodo]; simp)
      have hnd : (todo.map Prod.fst).Nodup := (hran.sub.map Prod.fst).nodup hran.map.nd
      have hstep := fun v => hsp.step htodo hnd v
      have hlen : (t1 ++ t2).length < todo.length := by rw [htodo]; simp
      have hpt : p.1 ∈ todo.map Prod.fst := by rw [htodo]; simp
      have hpn := hsp.apart _ hpt
      obtain ⟨q, pv⟩ := p
      simp only at hpn hstep
      have hqp : q ∈ H.pts := (HN.out.1.keys q).1 (List.mem_map.2 ⟨_, hpl, rfl⟩)
      obtain ⟨xb, sb, db, cs, cd, rest, hg, hxb, hsh, hsd, hokq⟩ := HN.out.1.nodeAt HN.out.2 hqp
      have hpv : pv = .pointer (some ⟨xb, 0, none⟩) := by
        have := mget_of_mem HN.out.1.map.nd hpl
        rw [hg] at this; exact (Option.some.inj this).symm
      subst hpv
      obtain ⟨mb1, l1, arr1, clk1, hc1, hm1, he1, hl1⟩ := hsh
      subst hc1
      have hkeep : ∀ w', Below wn.heap.size wn w' → Ok w' ([(sb, .cells #[.map (some mb1)] 166 (0, 0)), (mb1, .map arr1 clk1)] ++ (cd ++ rest)) := fun w' hb => hokq.ofHeap fun b o ho => (holds hb (allOf_keep halln (hokq.get ho))).trans (hokq.get ho).symm
      have hxn : wn.heap[xb]? = some (.cells #[.bool (H.dead q), .int .i64 0, .pointer (some ⟨sb, 0, none⟩), .pointer (some ⟨db, 0, none⟩)] 127 (0, 0)) := allOf_keep halln hxb
      have hd1 : wn.heap[hb']? = some (.cells #[.int .i64 H.reps, .pointer (some ⟨rb', 0, none⟩), .map (some mb'), .slice none 0 0] 90 (0, 0)) := hokn.get (by simp)
      have HX := hid (And.intro hran' (And.intro hokn (And.intro hsn (And.intro hmn hen))))
      have HK := hid (And.intro hkeep hsd)
      simp only [encName] at hnx hen'
      clear hran' hokn hsn hmn hen hran hok hall hsame hi hmr hm hmb hwn halln hin hmn' hfind hnd hpt htodo htd hpl hsp hkeep hsd hokq hxb hg hqp hh
      go_wp2_with (fail)
      have hkx := heap1 wn (.cells #[.int .u32 q] 121)
      have hbx := alloc_below wn (.cells #[.int .u32 q] 121)
      have hkb : wn.heap.size ≤ wn.heap.size := Nat.le_refl _
      generalize hkbe : wn.heap.size = kb at hkx ⊢
      generalize hw0 : wn.alloc (.cells #[.int .u32 q] 121) = w0 at *
      refine wp_region_z [] [] [17, 22, 24, 25] (by kernel_rfl) (by kernel_rfl) (by simp) ?_
      intro E _ hE hI _
      have hB : ∀ w' : InD E, Below wn.heap.size wn w'.val := fun w' => below_trans hbx (hE w')
      have b1 : ∀ w' : InD E, w'.val.cell? ⟨hb', 2, none⟩ = some (.map (some mb')) := fun w' => cellOf (holds (hB w') hd1) 2
      have b2 : ∀ w' : InD E, w'.val.cell? ⟨kb, 0, none⟩ = some (.int .u32 q) := fun w' => cellOf (holds (hE w') hkx) 0
      have b3 : ∀ w' : InD E, w'.val.cell? ⟨xb, 0, none⟩ = some (.bool (H.dead q)) := fun w' => cellOf (holds (hB w') hxn) 0
      have b4 : ∀ w' : InD E, w'.val.cell? ⟨xb, 1, none⟩ = some (.int .i64 0) := fun w' => cellOf (holds (hB w') hxn) 1
      have b5 : ∀ w' : InD E, w'.val.cell? ⟨xb, 2, none⟩ = some (.pointer (some ⟨sb, 0, none⟩)) := fun w' => cellOf (holds (hB w') hxn) 2
      have b6 : ∀ w' : InD E, w'.val.cell? ⟨xb, 3, none⟩ = some (.pointer (some ⟨db, 0, none⟩)) := fun w' => cellOf (holds (hB w') hxn) 3
      repeat (refine wpZ_step (fun K hK => ?_); go_simp; refine hK _ _ ?_; clear hK K)
      refine wpZ_step (fun K hK => ?_); go_simp
      refine ⟨fun u w' => ShelfNew w0 arr1 clk1 u w' ∧ E w', fun w' hw' => ?_, fun u w h => h.2, ?_⟩
      · have hk := HK.out.1 _ (hB ⟨w', hw'⟩)
        refine (shelfFork_at sb mb1 arr1 clk1 w' (hk.get (by simp)) (hk.get (by simp))).mono ?_
        rintro en w'' ⟨sb', mb1', rfl, hf⟩
        exact ⟨_, rfl, ⟨sb', mb1', rfl, Fresh.from (hE ⟨w', hw'⟩) hf⟩, hI _ (below_trans (hE ⟨w', hw'⟩) hf.below)⟩
      rintro u y ⟨⟨sb', _, rfl, _⟩, _⟩
      refine hK _ _ ?_; clear hK K
      repeat (refine wpZ_step (fun K hK => ?_); go_simp; refine hK _ _ ?_; clear hK K)
      refine wpZ_step (fun K hK => ?_); go_simp
      refine ⟨fun u w' => TwoNew w0 F sb' arr1 clk1 (H.sd q) u w' ∧ E w', fun w' h1 hw' => ?_, fun u w h => h.2, ?_⟩
      · obtain ⟨sb'', mb1', hp, hf1⟩ := h1
        cases hp
        have hk : Ok w' (cd ++ rest) := (HK.out.1 _ (hB ⟨w', hw'⟩)).right
        refine (shadowFork_any F cd rest db (H.sd q) w' hk HK.out.2).mono ?_
        rintro en w'' ⟨db', c', rfl, hsd', hf⟩
        exact ⟨_, rfl, ⟨db', c', mb1', rfl, hsd', hf1.trans hf⟩, hI _ (below_trans (hE ⟨w', hw'⟩) hf.below)⟩
      rintro u y ⟨⟨db'', _, _, rfl, _⟩, _⟩
      refine hK _ _ ?_; clear hK K
      repeat (refine wpZ_step (fun K hK => ?_); go_simp; refine hK _ _ ?_; clear hK K)
      refine wpZ_step (fun K hK => ?_); go_simp
      refine ⟨fun u w' => NodeNewAt w0 F (H.dead q) sb' arr1 clk1 (H.sd q) u w' ∧ E w', fun w' h1 hw' => ?_, fun u w h => h.2, ?_⟩
      · obtain ⟨db3, c3, mb3, hp, hsd3, hf3⟩ := h1
        cases hp
        exact ⟨⟨_, db'', c3, mb3, rfl, hsd3, hf3.push _⟩, hI _ (below_trans (hE ⟨w', hw'⟩) (alloc_below _ _))⟩
      rintro u y ⟨⟨xb', _, _, _, rfl, _⟩, _⟩
      refine hK _ _ ?_; clear hK K
      refine wpZ_step (fun K hK => ?_); go_simp
      refine ⟨fun _ w' => NodeStep w F H ((hb', .cells #[.int .i64 H.reps, .pointer (some ⟨rb', 0, none⟩), .map (some mb'), .slice none 0 0] 90 (0, 0)) :: cR') mb' ib (.mapIter (some mb) clk (seen.push s) clk) (mput ln q (.pointer (some ⟨xb', 0, none⟩))) w', fun w8 h8 _ => ?_, ?_⟩
      · obtain ⟨xb3, db3, c3, mb3, hp, hsd3, hf8⟩ := h8
        cases hp
        obtain ⟨_, hokn, hsn, hmn, hen⟩ := HX.out
        have ok0 := hw0 ▸ hokn.keep (.cells #[.int .u32 q] 121)
        have ok8 : Ok w8 ((mb', .map arr' clk') :: (((hb', .cells #[.int .i64 H.reps, .pointer (some ⟨rb', 0, none⟩), .map (some mb'), .slice none 0 0] 90 (0, 0)) :: cR') ++ ((cx' ++ ((xb', .cells #[.bool (H.dead q), .int .i64 0, .pointer (some ⟨sb', 0, none⟩), .pointer (some ⟨db3, 0, none⟩)] 127 (0, 0)) :: ([(sb', .cells #[.map (some mb3)] 166 (0, 0)), (mb3, .map arr1 clk1)] ++ c3))) ++ ((ib, .mapIter (some mb) clk (seen.push s) clk) :: allOf w)))) := (hf8.frame ok0).cnt (by intro x hx; simp at hx ⊢; try grind) (by intro b; simp; try (first | omega | (simp [List.count_cons]; omega)))
        obtain ⟨arr2, clk2, hm2, hup⟩ := run_update (P := Tryz.prog) nameLaw Tryz.underlying87 (ok8.get (b := mb') (o := .map arr' clk') (by simp)) hmn q (.pointer (some ⟨xb', 0, none⟩))
        simp only [encName] at hup
        rw [hup]
        have hs0 : Same w w0 := hw0 ▸ hsn.alloc _
        have hnode : H.node F q xb' _ := ⟨sb', db3, [(sb', .cells #[.map (some mb3)] 166 (0, 0)), (mb3, .map arr1 clk1)], c3, rfl, ⟨mb3, l1, arr1, clk1, rfl, hm1, he1, hl1⟩, hsd3⟩
        exact ⟨arr2, clk2, _, hm2, Each.push hnode hpn hen, ok8.setBlk _, (hs0.trans hf8.same).setBlk _ _⟩
      rintro u y _
      refine hK _ _ ?_; clear hK K
      refine wpZ_nil ?_
      rintro w9 ⟨arr2, clk2, cx2, hm2, hen2, ok9, hs9⟩
      have hran2 := HX.out.1
      have ok9' : Ok w9 ((mb', .map arr2 clk2) :: ((hb', .cells #[.int .i64 H.reps, .pointer (some ⟨rb', 0, none⟩), .map (some mb'), .slice none 0 0] 90 (0, 0)) :: ((cR' ++ cx2) ++ ((ib, .mapIter (some mb) clk (seen.push s) clk) :: allOf w)))) := by
        rw [List.append_assoc]; exact ok9
      have hi9 : w9.heap[ib]? = some (.mapIter (some mb) clk (seen.push s) clk) := ok9.get (by simp)
      have hstp := hstep (.pointer (some ⟨xb', 0, none⟩))
      have HY := hid (And.intro hran2 (And.intro hstp (And.intro hm2 (And.intro hen2 (And.intro ok9' hs9)))))
      have hall9 : Ok w9 (((mb', .map arr2 clk2) :: ((hb', .cells #[.int .i64 H.reps, .pointer (some ⟨rb', 0, none⟩), .map (some mb'), .slice none 0 0] 90 (0, 0)) :: ((cR' ++ cx2) ++ [(ib, .mapIter (some mb) clk (seen.push s) clk)]))) ++ allOf w) := by simpa using ok9'
      have hleft' := toComeK_eq hi9 (allOf_keep hall9 HMB.out) hran2
      clear b1 b2 b3 b4 b5 b6 hB hI hE HX HK hran2 hstp hm2 hen2 ok9 ok9' hs9 hall9 hi9 hstep hbx hkx hw0 hxn hd1 hkb hkbe
      go_wp2
      go_roundw
      case rel => exact ⟨seen.push s, t1 ++ t2, _, arr2, clk2, cx2, HY.out.1, HY.out.2.1, HY.out.2.2.1, HY.out.2.2.2.1, HY.out.2.2.2.2.1, HY.out.2.2.2.2.2⟩
      case measure => rw [hleft', hleft]; exact hlen
end Go.Proofs.YtdllibalmjadhaaGreat
