/- All nodes of one hub: new ones. -/
import Derived.Test.YtdllibalmjadhaaGreatE12
import Derived.Test.YtdllibalmjadhaaGreatE7

namespace Go.Proofs.YtdllibalmjadhaaGreat
open Go Go.RowKit

theorem info_hub : (Tryz.prog.info? 38).map (fun i => (i.zero, i.size, i.bytes)) = some (some (.pointer none), 1, 8) := by kernel_rfl
theorem info_ring : (Tryz.prog.info? 37).map (fun i => (i.zero, i.size, i.bytes)) = some (some (.pointer none), 1, 8) := by kernel_rfl
theorem info_int : (Tryz.prog.info? 3).map (fun i => (i.zero, i.size, i.bytes)) = some (some (.int .i64 0), 1, 8) := by kernel_rfl

/-- Nodes of one hub. -/
structure NodesS where
  links : Nat
  hub : HubS
  turn : Nat
  dice : Nat
  known : List ((Int × Nat) × Value)
  waits : List (WaitK × Value)

/-- They, as they lie; 'ck': what lies behind links and waits. -/
def IsNodes (c : Chunk) (nb : Nat) (N : NodesS) : Prop := ∃ hs ch hb cH rs cr rb cR ts ct km karr kclk wm warr wclk db,
  c = (nb, .cells #[.int .i64 1, .int .i64 N.links, hs, rs, ts, .map (some km), .map (some wm), .pointer (some ⟨db, 0, none⟩)] 81 (0, 0)) :: (km, .map karr kclk) :: (wm, .map warr wclk) :: (db, .cells #[.int .u64 N.dice] 118 (0, 0)) :: (ch ++ (cH ++ (cr ++ (cR ++ ct)))) ∧
  Row 38 1 ch hs 1 [.pointer (some ⟨hb, 0, none⟩)] ∧ IsHub [] cH hb N.hub ∧ Row 37 1 cr rs 1 [.pointer (some ⟨rb, 0, none⟩)] ∧ IsRing cR rb N.hub.pts ∧ Row 3 1 ct ts 1 [.int .i64 N.turn] ∧
  IsMap encPlace N.known karr kclk ∧ IsMap encWait N.waits warr wclk

/-- The hub that there is at first. -/
def hub1 (reps : Nat) : HubS := (⟨reps, [], fun _ => false, fun _ => [], fun _ _ => []⟩ : HubS).joined 4294967295

/-- What New leaves. -/
def NewNodes (w : World) (links reps seed : Nat) (en : Ending) (w' : World) : Prop := ∃ nb c, en = .returned (.tuple #[.pointer (some ⟨nb, 0, none⟩), .int .i64 0]) ∧ IsNodes c nb ⟨links, hub1 reps, 0, seed, [], []⟩ ∧ Fresh w w' c

set_option maxHeartbeats 2000000 in
set_option maxRecDepth 100000 in
theorem nodeNew_any (links reps seed : Nat) (hl : links ≤ 6) (hr : 1 ≤ reps ∧ reps ≤ 4) (w : World) : Calls Tryz.prog 8 #[.int .i64 1, .int .i64 reps, .int .i64 links, .int .u64 seed] w (NewNodes w links reps seed) := by
  have hmm := @run_makeMap Tryz.prog
  have d1 : decide ((links : Int) < 0) = false := by simp
  have d2 : decide ((6 : Int) < (links : Int)) = false := by simp; omega
  have hrok : RingOk (addP [] 4294967295) := ⟨by simp [addP], by simp [addP], by simp [addP]⟩
  generalize hpost : NewNodes w links reps seed = post
  go_enter Tryz.func8, Tryz.ntmps8
  go_wp2_with (go_at_call 27; refine (diceNew_any seed _).mono ?_; rintro en w1 ⟨db, rfl, hf1⟩)
  have hF0 : Fresh w ((w.alloc (.map #[] 0)).alloc (.map #[] 0)) [(w.heap.size + 1, .map #[] 0), (w.heap.size, .map #[] 0)] := (((Fresh.refl w).push (.map #[] 0)).push (.map #[] 0)).sub (by simp)
  have hF2 := (hF0.trans hf1).push (.cells #[.int .i64 1, .int .i64 links, .slice none 0 0, .slice none 0 0, .slice none 0 0, .map (some w.heap.size), .map (some (w.heap.size + 1)), .pointer (some ⟨db, 0, none⟩)] 81 (0, 0))
  generalize hnb : w1.heap.size = nb at *
  generalize hw2 : w1.alloc _ = w2 at *
  generalize hkm : w.heap.size = km at *
  clear hmm
  go_loopw [36] (fun q wr => (q = .int .i64 0 ∧ Ok wr ((nb, .cells #[.int .i64 1, .int .i64 links, .slice none 0 0, .slice none 0 0, .slice none 0 0, .map (some km), .map (some (km + 1)), .pointer (some ⟨db, 0, none⟩)] 81 (0, 0)) :: ([(db, .cells #[.int .u64 seed] 118 (0, 0))] ++ [(km + 1, .map #[] 0), (km, .map #[] 0)] ++ allOf w)) ∧ Same w wr) ∨ (q = .int .i64 1 ∧ ∃ c, IsNodes c nb ⟨links, hub1 reps, 0, seed, [], []⟩ ∧ Ok wr (c ++ allOf w) ∧ Same w wr))
    (fun q _ => 1 - (match q with | .int _ m => m.toNat | _ => 0))
  case atStart => exact .inl ⟨rfl, hF2.ok, hF2.same⟩
  case round =>
    rcases hrel with ⟨rfl, hok, hsame⟩ | ⟨rfl, c, hN, hok, hsame⟩
    · clear hpost hF0 hF2 hf1
      go_wp2_with (first | (go_at_call 28; refine (hubNew_any reps hr _).mono ?_; rintro en v1 ⟨hb, ch0, rfl, hh0, hf3⟩; have ok1 := hf3.frame hok; have s1 := hsame.trans hf3.same) | (go_at_call 29; refine (join_first ch0 _ hb 4294967295 _ ⟨rfl, rfl⟩ rfl v1 ok1 hh0 rfl hrok).mono ?_; rintro en v2 ⟨cH, rfl, hhub, ok2, s2⟩; have hnb2 := ok2.get (b := nb) (o := (.cells #[.int .i64 1, .int .i64 links, .slice none 0 0, .slice none 0 0, .slice none 0 0, .map (some km), .map (some (km + 1)), .pointer (some ⟨db, 0, none⟩)] 81 (0, 0))) (by simp); have k2 : v2.cell? ⟨nb, 2, none⟩ = some (.slice none 0 0) := cellOf hnb2 2; obtain ⟨i, hi, hz0, hz1, hz2⟩ := info_parts info_hub; obtain ⟨v', v3, c3, hap, hrow3, ok3, s3, _, _⟩ := row_append (P := Tryz.prog) (w := v2.alloc (.cells #[.pointer (some ⟨hb, 0, none⟩)] 38)) (c := []) (ok2.keep _) (Row.nil _ _) 78 78 i (.pointer none) 8 Tryz.underlying78 hi hz0 hz1 hz2 rfl (by decide) ⟨v2.heap.size, 0, none⟩ 1 1 [.pointer (some ⟨hb, 0, none⟩)] rfl (cell_one_new _ _ _) (by simp [Value.oneCell']) (by unfold maxLen; omega) (by omega); obtain ⟨a3, cap3, rfl⟩ := hrow3.slice; have hnb3 := ok3.get (b := nb) (o := (.cells #[.int .i64 1, .int .i64 links, .slice none 0 0, .slice none 0 0, .slice none 0 0, .map (some km), .map (some (km + 1)), .pointer (some ⟨db, 0, none⟩)] 81 (0, 0))) (by simp); have k3 : v3.cell? ⟨nb, 2, none⟩ = some (.slice none 0 0) := cellOf hnb3 2; have z3 := fun i => frozenOf hnb3 i; clear hnb2 hnb3 hi hz0 hz1 hz2) | (at_builtin; refine wpList_app rfl _ _ _ _ rfl rfl rfl hap ?_))
      have ok4 : Ok (v3.setCell ⟨nb, 2, none⟩ (.slice a3 1 cap3)) ((nb, (.cells #[.int .i64 1, .int .i64 links, .slice a3 1 cap3, .slice none 0 0, .slice none 0 0, .map (some km), .map (some (km + 1)), .pointer (some ⟨db, 0, none⟩)] 81 (0, 0))) :: (c3 ++ (cH ++ ([(db, .cells #[.int .u64 seed] 118 (0, 0))] ++ [(km + 1, .map #[] 0), (km, .map #[] 0)] ++ allOf w)))) := Ok.setCell (cs := #[.int .i64 1, .int .i64 links, .slice none 0 0, .slice none 0 0, .slice none 0 0, .map (some km), .map (some (km + 1)), .pointer (some ⟨db, 0, none⟩)]) (ok3.cnt (by intro x hx; simp at hx ⊢; try grind) (by intro b; simp; try (first | omega | (simp [List.count_cons]; omega)))) 2 (.slice a3 1 cap3)
      have s4 : Same w (v3.setCell ⟨nb, 2, none⟩ (.slice a3 1 cap3)) := (((s1.trans s2).alloc _).trans s3).setCell _ _
      generalize v3.setCell ⟨nb, 2, none⟩ (.slice a3 1 cap3) = v4 at *
      have hnb4 := ok4.get (b := nb) (o := (.cells #[.int .i64 1, .int .i64 links, .slice a3 1 cap3, .slice none 0 0, .slice none 0 0, .map (some km), .map (some (km + 1)), .pointer (some ⟨db, 0, none⟩)] 81 (0, 0))) (by simp)
      have HR := hid fun w' (hb' : Below v4.heap.size v4 w') => hubRing_any [] cH ((nb, (.cells #[.int .i64 1, .int .i64 links, .slice a3 1 cap3, .slice none 0 0, .slice none 0 0, .map (some km), .map (some (km + 1)), .pointer (some ⟨db, 0, none⟩)] 81 (0, 0))) :: (c3 ++ ([(db, .cells #[.int .u64 seed] 118 (0, 0))] ++ [(km + 1, .map #[] 0), (km, .map #[] 0)] ++ allOf w))) hb _ w' ((ok4.below hb').cnt (by intro x hx; simp at hx ⊢; try grind) (by intro b; simp; try (first | omega | (simp [List.count_cons]; omega)))) hhub
      have HB := hid (And.intro hrow3 (And.intro hhub (And.intro ok4 s4)))
      clear hrow3 hhub ok4 s4 ok3 ok2 ok1 s1 s2 s3 hok hsame hap k2 k3 z3 hh0 hf3 hkm hw2
      refine wp_region_z [] [] [6, 7, 8, 11] (by kernel_rfl) (by kernel_rfl) (by simp) ?_
      intro E _ hE hI _
      have h3 : ∀ w' : InD E, w'.val.cell? ⟨nb, 3, none⟩ = some (.slice none 0 0) := fun w' => cellOf (holds (hE w') hnb4) 3
      repeat (refine wpZ_step (fun K hK => ?_); go_simp; refine hK _ _ ?_; clear hK K)
      refine wpZ_step (fun K hK => ?_); go_simp
      refine ⟨fun u w' => (∃ rb cR, u = .pointer (some ⟨rb, 0, none⟩) ∧ IsRing cR rb (addP [] 4294967295) ∧ Fresh v4 w' cR) ∧ E w', fun w' hw' => ?_, fun u w h => h.2, ?_⟩
      · refine (HR.out w' (hE ⟨w', hw'⟩)).mono ?_
        rintro en w'' ⟨rb, cR, rfl, hring, hf⟩
        exact ⟨_, rfl, ⟨rb, cR, rfl, hring, Fresh.from (hE ⟨w', hw'⟩) hf⟩, hI _ (below_trans (hE ⟨w', hw'⟩) hf.below)⟩
      rintro u y ⟨⟨rb, _, rfl, _⟩, _⟩
      refine hK _ _ ?_; clear hK K
      repeat (refine wpZ_step (fun K hK => ?_); go_simp; refine hK _ _ ?_; clear hK K)
      refine wpZ_step (fun K hK => ?_); go_simp
      refine ⟨fun u w' => (∃ cR x, u = .slice (some ⟨x, 0, none⟩) 1 1 ∧ IsRing cR rb (addP [] 4294967295) ∧ Fresh v4 w' cR ∧ w'.heap[x]? = some (.cells #[.pointer (some ⟨rb, 0, none⟩)] 37 (0, 0))) ∧ E w', fun w' cR hring hf hw' => ⟨⟨cR, _, rfl, hring, hf.alloc _, heap1 _ _⟩, hI _ (below_trans (hE ⟨w', hw'⟩) (alloc_below _ _))⟩, fun u w h => h.2, ?_⟩
      rintro u y ⟨⟨_, x, rfl, _⟩, _⟩
      refine hK _ _ ?_; clear hK K
      repeat (refine wpZ_step (fun K hK => ?_); go_simp; refine hK _ _ ?_; clear hK K)
      obtain ⟨i, hi, hz0, hz1, hz2⟩ := info_parts info_ring
      refine wpZ_val rfl rfl rfl (fun u w' => (∃ cR cr a5 cap5, u = .slice a5 1 cap5 ∧ IsRing cR rb (addP [] 4294967295) ∧ Row 37 1 cr u 1 [.pointer (some ⟨rb, 0, none⟩)] ∧ Fresh v4 w' (cr ++ cR)) ∧ E w') ?_ (.inr fun u w h => h.2) ?_
      · rintro w' ⟨⟨cR, x', hx, hring, hf, hcell⟩, hw'⟩
        cases hx
        obtain ⟨v', w'', cr, hap, hrow, hok, hsm, _, _⟩ := row_append (P := Tryz.prog) (w := w') (c := []) hf.ok (Row.nil _ _) 79 79 i (.pointer none) 8 Tryz.underlying79 hi hz0 hz1 hz2 rfl (by decide) ⟨x, 0, none⟩ 1 1 [.pointer (some ⟨rb, 0, none⟩)] rfl (by intro j u hj; cases j with | zero => simpa using hj ▸ cellOf hcell 0 | succ j => simp at hj) (by simp [Value.oneCell']) (by unfold maxLen; omega) (by omega)
        have hF : Fresh v4 w'' (cr ++ cR) := ⟨by simpa using hok, hf.same.trans hsm⟩
        obtain ⟨a5, cap5, rfl⟩ := hrow.slice
        exact ⟨_, _, exec_builtin2 _ _ _ .append (.tmp 62) (.tmp 65) #[79, 79] Builtin.append_ (fun _ _ => rfl) rfl rfl rfl hap, ⟨cR, cr, a5, cap5, rfl, hring, hrow, hF⟩, hI _ hF.below⟩
      rintro u ⟨y, ⟨_, _, a5, cap5, rfl, _⟩, _⟩
      have q3 : ∀ w' : InD E, w'.val.cell? ⟨nb, 3, none⟩ = some (.slice none 0 0) := h3
      have z4 : ∀ (w' : InD E) i, w'.val.frozen? ⟨nb, i, none⟩ = false := fun w' i => frozenOf (holds (hE w') hnb4) i
      repeat (refine wpZ_step (fun K hK => ?_); go_simp; refine hK _ _ ?_; clear hK K)
      refine wpZ_step (fun K hK => ?_)
      go_simp
      refine ⟨fun _ w' => ∃ cR cr, IsRing cR rb (addP [] 4294967295) ∧ Row 37 1 cr (.slice a5 1 cap5) 1 [.pointer (some ⟨rb, 0, none⟩)] ∧ Ok w' ((nb, (.cells #[.int .i64 1, .int .i64 links, .slice a3 1 cap3, .slice a5 1 cap5, .slice none 0 0, .map (some km), .map (some (km + 1)), .pointer (some ⟨db, 0, none⟩)] 81 (0, 0))) :: (cr ++ (cR ++ (c3 ++ (cH ++ ([(db, .cells #[.int .u64 seed] 118 (0, 0))] ++ [(km + 1, .map #[] 0), (km, .map #[] 0)] ++ allOf w)))))) ∧ Same w w', ?_, ?_⟩
      · intro w' cR hring cr hrow hf hw'
        have hc : w'.cell? ⟨nb, 3, none⟩ = some (.slice none 0 0) := q3 ⟨w', hw'⟩
        have hz : w'.frozen? ⟨nb, 3, none⟩ = false := z4 ⟨w', hw'⟩ 3
        simp only [hc, hz, Bool.false_eq_true, if_false, Result.andThen_ok]
        obtain ⟨_, _, ok4, s4⟩ := HB.out
        have h1 : Ok w' ((nb, (.cells #[.int .i64 1, .int .i64 links, .slice a3 1 cap3, .slice none 0 0, .slice none 0 0, .map (some km), .map (some (km + 1)), .pointer (some ⟨db, 0, none⟩)] 81 (0, 0))) :: (cr ++ (cR ++ (c3 ++ (cH ++ ([(db, .cells #[.int .u64 seed] 118 (0, 0))] ++ [(km + 1, .map #[] 0), (km, .map #[] 0)] ++ allOf w)))))) := (hf.frame ok4).cnt (by intro x hx; simp at hx ⊢; try grind) (by intro b; simp; try (first | omega | (simp [List.count_cons]; omega)))
        exact ⟨cR, cr, hring, hrow, h1.setCell 3 (.slice a5 1 cap5), (s4.trans hf.same).setCell _ _⟩
      rintro u y _
      refine hK _ _ ?_; clear hK K
      refine wpZ_nil ?_
      rintro v9 ⟨cR, cr, hring, hrow5, ok5, s5⟩
      obtain ⟨hrow3, hhub, _, _⟩ := HB.out
      clear h3 q3 z4 HR hE hI hnb4
      have hnb9 := ok5.get (b := nb) (o := (.cells #[.int .i64 1, .int .i64 links, .slice a3 1 cap3, .slice a5 1 cap5, .slice none 0 0, .map (some km), .map (some (km + 1)), .pointer (some ⟨db, 0, none⟩)] 81 (0, 0))) (by simp)
      have k9 : v9.cell? ⟨nb, 4, none⟩ = some (.slice none 0 0) := cellOf hnb9 4
      obtain ⟨i, hi, hz0, hz1, hz2⟩ := info_parts info_int
      obtain ⟨v', v10, c7, hap7, hrow7, ok7, s7, _, _⟩ := row_append (P := Tryz.prog) (w := v9.alloc (.cells #[.int .i64 0] 3)) (c := []) (ok5.keep _) (Row.nil _ _) 24 24 i (.int .i64 0) 8 Tryz.underlying24 hi hz0 hz1 hz2 rfl (by decide) ⟨v9.heap.size, 0, none⟩ 1 1 [.int .i64 0] rfl (cell_one_new _ _ _) (by simp [Value.oneCell']) (by unfold maxLen; omega) (by omega)
      obtain ⟨a7, cap7, rfl⟩ := hrow7.slice
      have hnb10 := ok7.get (b := nb) (o := (.cells #[.int .i64 1, .int .i64 links, .slice a3 1 cap3, .slice a5 1 cap5, .slice none 0 0, .map (some km), .map (some (km + 1)), .pointer (some ⟨db, 0, none⟩)] 81 (0, 0))) (by simp)
      have k10 : v10.cell? ⟨nb, 4, none⟩ = some (.slice none 0 0) := cellOf hnb10 4
      have z10 := fun i => frozenOf hnb10 i
      have ok8 : Ok (v10.setCell ⟨nb, 4, none⟩ (.slice a7 1 cap7)) ((nb, (.cells #[.int .i64 1, .int .i64 links, .slice a3 1 cap3, .slice a5 1 cap5, .slice a7 1 cap7, .map (some km), .map (some (km + 1)), .pointer (some ⟨db, 0, none⟩)] 81 (0, 0))) :: (c7 ++ (cr ++ (cR ++ (c3 ++ (cH ++ ([(db, .cells #[.int .u64 seed] 118 (0, 0))] ++ [(km + 1, .map #[] 0), (km, .map #[] 0)] ++ allOf w))))))) := Ok.setCell (cs := #[.int .i64 1, .int .i64 links, .slice a3 1 cap3, .slice a5 1 cap5, .slice none 0 0, .map (some km), .map (some (km + 1)), .pointer (some ⟨db, 0, none⟩)]) (ok7.cnt (by intro x hx; simp at hx ⊢; try grind) (by intro b; simp; try (first | omega | (simp [List.count_cons]; omega)))) 4 (.slice a7 1 cap7)
      have s8 : Same w (v10.setCell ⟨nb, 4, none⟩ (.slice a7 1 cap7)) := ((s5.alloc _).trans s7).setCell _ _
      have HN := hid (show ∃ c, IsNodes c nb ⟨links, hub1 reps, 0, seed, [], []⟩ ∧ Ok (v10.setCell ⟨nb, 4, none⟩ (.slice a7 1 cap7)) (c ++ allOf w) ∧ Same w (v10.setCell ⟨nb, 4, none⟩ (.slice a7 1 cap7)) from
        ⟨(nb, (.cells #[.int .i64 1, .int .i64 links, .slice a3 1 cap3, .slice a5 1 cap5, .slice a7 1 cap7, .map (some km), .map (some (km + 1)), .pointer (some ⟨db, 0, none⟩)] 81 (0, 0))) :: (km, .map #[] 0) :: (km + 1, .map #[] 0) :: (db, .cells #[.int .u64 seed] 118 (0, 0)) :: (c3 ++ (cH ++ (cr ++ (cR ++ c7)))), ⟨_, c3, hb, cH, _, cr, rb, cR, _, c7, km, #[], 0, km + 1, #[], 0, db, rfl, hrow3, hhub, hrow5, hring, hrow7, IsMap.empty _, IsMap.empty _⟩, ok8.cnt (by intro x hx; simp at hx ⊢; try grind) (by intro b; simp; try (first | omega | (simp [List.count_cons]; omega))), s8⟩)
      clear ok8 s8 ok7 s7 ok5 s5 hrow3 hrow5 hrow7 hring hhub hnb9 hnb10 HB hi hz0 hz1 hz2
      go_wp2_with (at_builtin; refine wpList_app rfl _ _ _ _ rfl rfl rfl hap7 ?_)

      go_roundw
      case rel => exact .inr ⟨rfl, HN.out⟩
      case measure => simp
    · have HP := hid (show NewNodes w links reps seed (.returned (.tuple #[.pointer (some ⟨nb, 0, none⟩), .int .i64 0])) wr from ⟨nb, c, rfl, hN, hok, hsame⟩)
      rw [hpost] at HP
      clear hpost hN hok hsame hF0 hF2 hf1
      go_wp2
      exact HP.out
end Go.Proofs.YtdllibalmjadhaaGreat
