/- NodeEntry, walked: one of four ways to leave its loops. -/
import Derived.Test.YtdllibalmjadhaaGreatE31

namespace Go.Proofs.YtdllibalmjadhaaGreat
open Go Go.RowKit

set_option maxHeartbeats 4000000 in
set_option maxRecDepth 100000 in
theorem entryLaw_LeLe (pts : List Nat) (crs : List Int) (hA : pts.length ≤ 10) (hB : crs.length ≤ 12) (sa : Option Addr) (sk : Nat) (hpts : ∀ x ∈ pts, x < 4294967296) (ca : Option Addr) (ck : Nat) (seed : Nat) (w : World) (hp : ReadsL u32v w sa pts) (hc : ReadsL (Value.int .i64) w ca crs) :
    Calls Tryz.prog 7 #[.slice sa pts.length sk, .slice ca crs.length ck, .int .u64 seed] w fun en w' => en = .returned (.bool true) ∧ Below w.heap.size w w' := by
  have HN := hid (nodeNew_any 1 2 seed (by decide) (by decide) w)
  have HW := hid nodeAwake_any
  have HP := hid hp
  have HC := hid hc
  clear hp hc
  go_enter Tryz.func7, Tryz.ntmps7
  go_wp2_with (first | (go_at_call 8; refine HN.out.mono ?_; rintro en w1 ⟨nb, c, rfl, hN, hF⟩; have hok1 := hF.ok; have hs1 := hF.same; clear HN hF) | (go_at_call 9; refine (HW.out _).mono ?_; rintro en w2 ⟨rfl, hb2⟩; have hok2 := hok1.below hb2; have hs2 := hs1.below hb2; clear hok1 hs1 hb2 HW))
  have HM := hid (And.intro hN (And.intro hok2 hs2))
  clear hN hok2 hs2
  go_loopw [9] (fun q wr => ∃ (j : Nat) (c F : Chunk) (N : NodesS), q = .int .i64 j ∧ j ≤ pts.length ∧ j ≤ pts.length ∧ IsNodes c nb N ∧ Calm N F j ∧ Ok wr (c ++ (F ++ allOf w)) ∧ Same w wr) (fun q _ => pts.length - (match q with | .int _ m => m.toNat | _ => 0))
  case atStart => exact ⟨0, c, [], _, rfl, Nat.zero_le _, Nat.zero_le _, HM.out.1, calm_new 1 2 seed (by decide), HM.out.2.1, HM.out.2.2⟩
  case round =>
    clear HM
    obtain ⟨j, c1, F, N, rfl, hj10, hj, hN, hcalm, hok, hsame⟩ := hrel
    have hbw : Below w.heap.size w wr := hok.right.right.toBelow hsame
    have hwk : IntKind.i64.wrap ((j : Int) + 1) = (j : Int) + 1 := IntWalk.i64_in _ (by omega)
    rcases Nat.lt_or_ge j pts.length with hgo | hgo
    · have hlt : j < pts.length := by omega
      have hlt10 : j < 10 := by omega
      obtain ⟨x, hx⟩ : ∃ x, pts[j]? = some x := ⟨pts[j], List.getElem?_eq_getElem hlt⟩
      obtain ⟨pb, off, rfl, hcell⟩ := (HP.out.below hbw) j x hx
      have hx32 : x < 4294967296 := hpts x (List.mem_of_getElem? hx)
      have HCh := hid (change_calm c1 F (allOf w) nb x j N hx32 (by omega) hcalm wr hok hN)
      clear hN hcalm hok hx hbw
      go_wp2_with (first | ((with_reducible apply wpList_buildT 35 (deedC 1 0 x)); exact built_joinP _) | (go_at_call 10; refine HCh.out.mono ?_; rintro en w3 ⟨e, c', F', N', rfl, hN', hcalm', _, _, _, hok', hs'⟩))
      go_roundw
      case rel => exact ⟨j + 1, c', F', N', rfl, by omega, hlt, hN', hcalm', hok', hsame.trans hs'⟩
      case measure => simp; omega
    · obtain rfl : j = pts.length := by omega
      clear hgo hj
      have hlast := hcalm.last
      have hpok := hcalm.ok
      have hbare := hcalm.bare
      obtain ⟨hb, rb, cH, rest, hat, hhub, hring, hok', _⟩ := hN.open hok
      have HH := hid (nodesHub_some cH (rest ++ (F ++ allOf w)) nb hb rb N.turn N.hub wr hat hok' hhub)
      have HX := hid (And.intro hN (And.intro hok (And.intro hsame hpok)))
      clear hN hok hsame hat hok' hhub hring hcalm hbw
      generalize hP : N.hub.pts = P at *
      have HPe := hid hP
      clear hP
      have hd : decide ((pts.length : Int) < (pts.length : Int)) = false := by simp; try omega
      go_wp2_with (first | (go_at_call 11; refine HH.out.mono ?_; rintro en w3 ⟨hb3, c3, rfl, hh3, hf3⟩; have HR := hid (hubRing_any [] c3 (allOf wr) hb3 N.hub w3 hf3.ok hh3)) | (go_at_call 12; refine HR.out.mono ?_; rintro en w4 ⟨rb4, cR4, rfl, hr4, hf4⟩; rw [HPe.out] at hr4; have hb4 := below_trans hf3.below hf4.below; have HPt := hid (points_any rb4 P w4 (c1 ++ (F ++ allOf w)) (HX.out.2.1.below hb4) (hr4.at (fr := allOf w3) hf4.ok) HX.out.2.2.2)) | (go_at_call 17; refine HPt.out.mono ?_; rintro en w5 ⟨pv, cp, rfl, hrowp, hok5, hs5, hb5⟩; obtain ⟨pa, pk, rfl⟩ := hrowp.slice))
      obtain ⟨hN, hok, hsame, hpok⟩ := HX.out
      have hok6 : Ok w5 (c1 ++ (cp ++ allOf w)) := hok5.cnt (by intro x hx; simp at hx ⊢; try grind) (by intro b; simp; try (first | omega | (simp [List.count_cons]; omega)))
      have hs6 : Same w w5 := (hsame.below hb4).trans hs5
      have HM := hid (And.intro hN (And.intro hok6 hs6))
      have hpp : 0 < P.length := List.length_pos_of_mem hlast
      have hp64 : P.length ≤ 64 := hpok.le
      clear hN hok hsame hok5 hs5 hok6 hs6 hb5 hr4 hf4 hf3 hh3 hb4 HPt HX HH HR hd
      go_loopw [11] (fun q wr => ∃ (j : Nat) (c : Chunk) (N : NodesS), q = .int .i64 j ∧ j ≤ crs.length ∧ j ≤ crs.length ∧ IsNodes c nb N ∧ N.hub.bare ∧ N.hub.pts = P ∧ Ok wr (c ++ (cp ++ allOf w)) ∧ Same w wr) (fun q _ => crs.length - (match q with | .int _ m => m.toNat | _ => 0))
      case atStart => exact ⟨0, c1, N, rfl, Nat.zero_le _, Nat.zero_le _, HM.out.1, hbare, HPe.out, HM.out.2.1, HM.out.2.2⟩
      case round =>
        clear HM hbare HPe
        obtain ⟨j, c2, N2, rfl, hj12, hj, hN, hbare, hpts2, hok, hsame⟩ := hrel
        have hbw : Below w.heap.size w wr := hok.right.right.toBelow hsame
        have hwk : IntKind.i64.wrap ((j : Int) + 1) = (j : Int) + 1 := IntWalk.i64_in _ (by omega)
        rcases Nat.lt_or_ge j crs.length with hgo | hgo
        · have hlt : j < crs.length := by omega
          have hlt12 : j < 12 := by omega
          obtain ⟨x, hx⟩ : ∃ x, crs[j]? = some x := ⟨crs[j], List.getElem?_eq_getElem hlt⟩
          obtain ⟨qb, qoff, rfl, hcell⟩ := (HC.out.below hbw) j x hx
          obtain ⟨K, hK, hKe⟩ := idx_any x P.length hpp (by omega)
          obtain ⟨y, hy⟩ : ∃ y, P[K]? = some y := ⟨P[K], List.getElem?_eq_getElem hK⟩
          obtain ⟨rb2, roff, rfl, hcell2⟩ := (hrowp.reads (fr := c2 ++ allOf w) (hok.cnt (by intro x hx; simp at hx ⊢; try grind) (by intro b; simp; try (first | omega | (simp [List.count_cons]; omega))))).cell.2 K y hy
          have hym : y ∈ N2.hub.pts := by rw [hpts2]; exact List.mem_of_getElem? hy
          have HCh := hid (change_crashes c2 (cp ++ allOf w) nb y N2 hbare hym wr hok hN)
          have HQ := hid hpts2
          clear hN hbare hok hx hbw hy hym hpts2
          go_wp2_with (first | ((with_reducible apply wpList_buildT 35 (deedC 3 0 y)); exact built_crashP _) | (go_at_call 10; refine HCh.out.mono ?_; rintro en w7 ⟨e, c', N', rfl, hN', hbare', hpts', hok', hs'⟩))
          go_roundw
          case rel => exact ⟨j + 1, c', N', rfl, by omega, hlt, hN', hbare', hpts'.trans HQ.out, hok', hsame.trans hs'⟩
          case measure => simp; omega
        · obtain rfl : j = crs.length := by omega
          clear hgo hj
          obtain ⟨hb2, rb2, cH2, rest2, hat2, hhub2, _, hok2', _⟩ := hN.open hok
          have HL := hid (loads_any cH2 (rest2 ++ (cp ++ allOf w)) nb hb2 rb2 N2.turn N2.hub hbare wr hat2 hok2' hhub2)
          have HH2 := hid fun w' (hb' : Below wr.heap.size wr w') => nodesHub_some cH2 (rest2 ++ (cp ++ allOf w)) nb hb2 rb2 N2.turn N2.hub w' (hat2.below hb') (hok2'.below hb') hhub2
          have hld := lively_deads N2.hub
          rw [hpts2] at hld
          have hX3 := hid (And.intro hN (And.intro hok (And.intro hsame hat2)))
          have HQ2 := hid hpts2
          clear hN hok hsame hat2 hhub2 hok2' hpts2 hbw hbare
          generalize hLe : N2.hub.lively.length = L at *
          generalize hDe : (N2.hub.deads P).length = D at *
          have HLe := hid hLe
          have HDe := hid (And.intro hDe hX3.out)
          clear hLe hDe
          have hsub : IntKind.i64.wrap ((P.length : Int) - (D : Int)) = (P.length : Int) - (D : Int) := IntWalk.i64_in _ (by omega)
          have hne : ((L : Int) != ((P.length : Int) - (D : Int))) = false := by simp; omega
          rcases Nat.eq_zero_or_pos L with hLz | hLp
          · subst hLz
            obtain rfl : D = P.length := by omega
            clear hsub hne
            have hd : decide ((crs.length : Int) < (crs.length : Int)) = false := by simp; try omega
            go_wp2_with (first | (go_at_call 18; refine HL.out.mono ?_; rintro en w6 ⟨la, lk, rfl, hb6⟩; rw [HLe.out]) | (go_at_call 11; refine (HH2.out w6 hb6).mono ?_; rintro en w7 ⟨hb7, c7, rfl, hh7, hf7⟩; have HDd := hid (dead_any [] c7 (allOf w6) hb7 N2.hub w7 hf7.ok hh7)) | (go_at_call 24; refine HDd.out.mono ?_; rintro en w8 ⟨dv, dc, rfl, hrowd, hfd⟩; obtain ⟨da, dk, rfl⟩ := hrowd.slice; rw [HQ2.out, HDe.out.1]))
            obtain ⟨_, hN, hok, hsame, hat2⟩ := HDe.out
            have hb8 := below_trans hb6 (below_trans hf7.below hfd.below)
            have HM3 := hid (And.intro hN (And.intro (hok.below hb8) (hsame.below hb8)))
            clear hN hok hsame hat2 hb8 hfd hf7 hh7 hrowd hb6 HDd HH2 HL hd hX3
            go_loopw [13] (fun q wr => ∃ (j : Nat) (c : Chunk) (N : NodesS), q = .int .i64 j ∧ j ≤ 8 ∧ IsNodes c nb N ∧ N.hub = N2.hub ∧ Ok wr (c ++ (cp ++ allOf w)) ∧ Same w wr) (fun q _ => 8 - (intOf q).toNat)
            case atStart => exact ⟨0, c2, N2, rfl, by omega, HM3.out.1, rfl, HM3.out.2.1, HM3.out.2.2⟩
            case round =>
              obtain ⟨j, c3, N3, rfl, hj8, hN, hN3, hok, hsame⟩ := hrel
              have hwk : IntKind.i64.wrap ((j : Int) + 1) = (j : Int) + 1 := IntWalk.i64_in _ (by omega)
              obtain ⟨hb4, rb4, cH4, rest4, hat4, hhub4, _, hok4', _⟩ := hN.open hok
              have hbw : Below w.heap.size w wr := hok.right.right.toBelow hsame
              rcases Nat.lt_or_ge j 8 with hlt | hge
              · have hemp : N2.hub.lively = [] := List.length_eq_zero_iff.1 HLe.out
                have HEn := hid (nodesEntry_none cH4 (rest4 ++ (cp ++ allOf w)) nb hb4 rb4 N3.turn N3.hub (by rw [hN3]; exact hemp) wr hat4 hok4' hhub4)
                have HX4 := hid (And.intro hN (And.intro hN3 (And.intro hok hsame)))
                clear hN hN3 hok hsame hat4 hhub4 hok4' hbw hemp
                go_wp2_with (go_at_call 21; refine HEn.out.mono ?_; rintro en w9 ⟨rfl, hb9⟩)
                go_roundw
                case rel => (first | exact ⟨j + 1, c3, N3, rfl, hlt, HX4.out.1, HX4.out.2.1, HX4.out.2.2.1.below hb9, HX4.out.2.2.2.below hb9⟩ | ((repeat apply Exists.intro); refine ⟨?_, rfl⟩; exact ⟨j + 1, c3, N3, rfl, hlt, HX4.out.1, HX4.out.2.1, HX4.out.2.2.1.below hb9, HX4.out.2.2.2.below hb9⟩))
                case measure => simp [intOf]; omega
              · obtain rfl : j = 8 := by omega
                have HE5 := hid (nodesEntry_nohub nb hb4 rb4 N3.turn 5 wr hat4 (.inr (by omega)))
                have HB := hid hbw
                clear hN hN3 hok hsame hat4 hhub4 hok4' hbw
                have HE0 := hid (entryNil_any 0)
                have HH0 := hid (nodesHubNil_any 0)
                have HF0 := hid nodesForkNil_any
                have HC0 := hid (change_nil 1 0 0)
                go_wp2_with (first | ((with_reducible apply wpList_buildT 35 (deedC 1 0 0)); exact built_join0) | ((with_reducible go_at_call 21); (with_reducible refine HE5.out.mono ?_); rintro en w9 ⟨rfl, hb9⟩) | ((with_reducible go_at_call 21); (with_reducible refine (HE0.out _).mono ?_); rintro en w10 ⟨rfl, hb10⟩) | (go_at_call 11; refine (HH0.out _).mono ?_; rintro en w11 ⟨rfl, rfl⟩) | (go_at_call 26; refine (HF0.out _).mono ?_; rintro en w12 ⟨rfl, rfl⟩) | (go_at_call 10; refine (HC0.out _).mono ?_; rintro en w13 ⟨rfl, hb13⟩))
                go_ret
                exact ⟨rfl, below_trans HB.out (below_trans hb9 (below_trans hb10 hb13))⟩

          · have hd : decide ((crs.length : Int) < (crs.length : Int)) = false := by simp; try omega
            go_wp2_with (first | (go_at_call 18; refine HL.out.mono ?_; rintro en w6 ⟨la, lk, rfl, hb6⟩; rw [HLe.out]) | (go_at_call 11; refine (HH2.out w6 hb6).mono ?_; rintro en w7 ⟨hb7, c7, rfl, hh7, hf7⟩; have HDd := hid (dead_any [] c7 (allOf w6) hb7 N2.hub w7 hf7.ok hh7)) | (go_at_call 24; refine HDd.out.mono ?_; rintro en w8 ⟨dv, dc, rfl, hrowd, hfd⟩; obtain ⟨da, dk, rfl⟩ := hrowd.slice; rw [HQ2.out, HDe.out.1]))
            obtain ⟨_, hN, hok, hsame, hat2⟩ := HDe.out
            have hb8 := below_trans hb6 (below_trans hf7.below hfd.below)
            have HM3 := hid (And.intro hN (And.intro (hok.below hb8) (hsame.below hb8)))
            clear hN hok hsame hat2 hb8 hfd hf7 hh7 hrowd hb6 HDd HH2 HL hd hne hsub hX3
            go_loopw [13] (fun q wr => ∃ (j : Nat) (c : Chunk) (N : NodesS), q = .int .i64 j ∧ j ≤ 8 ∧ IsNodes c nb N ∧ N.hub = N2.hub ∧ Ok wr (c ++ (cp ++ allOf w)) ∧ Same w wr) (fun q _ => 8 - (intOf q).toNat)
            case atStart => exact ⟨0, c2, N2, rfl, by omega, HM3.out.1, rfl, HM3.out.2.1, HM3.out.2.2⟩
            case round =>
              obtain ⟨j, c3, N3, rfl, hj8, hN, hN3, hok, hsame⟩ := hrel
              have hwk : IntKind.i64.wrap ((j : Int) + 1) = (j : Int) + 1 := IntWalk.i64_in _ (by omega)
              obtain ⟨hb4, rb4, cH4, rest4, hat4, hhub4, _, hok4', _⟩ := hN.open hok
              have hbw : Below w.heap.size w wr := hok.right.right.toBelow hsame
              rcases Nat.lt_or_ge j 8 with hlt | hge
              · have hemp : N2.hub.lively ≠ [] := List.length_pos_iff.1 (by rw [HLe.out]; exact hLp)
                have HEn := hid (nodesEntry_any c3 (cp ++ allOf w) nb N3 (by rw [hN3]; exact hemp) wr hok hN)
                have HN3 := hid hN3
                have HS3 := hid hsame
                clear hN hN3 hok hsame hat4 hhub4 hok4' hbw hemp
                go_wp2_with (first | (go_at_call 21; refine HEn.out.mono ?_; rintro en w9 ⟨ep, c9, d9, rfl, hmem, hN9, hok9, hs9⟩; obtain ⟨hb9, rb9, cH9, rest9, hat9, hhub9, _, hok9', _⟩ := hN9.open hok9; have HH9 := hid (nodesHub_some cH9 (rest9 ++ (cp ++ allOf w)) nb hb9 rb9 N3.turn N3.hub w9 hat9 hok9' hhub9); have HY := hid (And.intro hN9 (And.intro hok9 (And.intro hs9 hmem))); clear hN9 hok9 hs9 hmem hat9 hhub9 hok9') | (go_at_call 11; refine HH9.out.mono ?_; rintro en w10 ⟨hb10, c10, rfl, hh10, hf10⟩; have hal := Alive_any [] c10 (allOf w9) hb10 N3.hub ep w10 hf10.ok hh10; rw [HubS.lively_lives HY.out.2.2.2] at hal; have HAl := hid hal; clear hal) | (go_at_call 25; refine HAl.out.mono ?_; rintro en w11 ⟨rfl, rfl⟩))
                go_roundw
                case rel => exact ⟨j + 1, c9, _, rfl, hlt, HY.out.1, HN3.out, HY.out.2.1.below hf10.below, (HS3.out.trans HY.out.2.2.1).below hf10.below⟩
                case measure => simp [intOf]; omega
              · obtain rfl : j = 8 := by omega
                have HE5 := hid (nodesEntry_nohub nb hb4 rb4 N3.turn 5 wr hat4 (.inr (by omega)))
                have HB := hid hbw
                clear hN hN3 hok hsame hat4 hhub4 hok4' hbw
                have HE0 := hid (entryNil_any 0)
                have HH0 := hid (nodesHubNil_any 0)
                have HF0 := hid nodesForkNil_any
                have HC0 := hid (change_nil 1 0 0)
                go_wp2_with (first | ((with_reducible apply wpList_buildT 35 (deedC 1 0 0)); exact built_join0) | ((with_reducible go_at_call 21); (with_reducible refine HE5.out.mono ?_); rintro en w9 ⟨rfl, hb9⟩) | ((with_reducible go_at_call 21); (with_reducible refine (HE0.out _).mono ?_); rintro en w10 ⟨rfl, hb10⟩) | (go_at_call 11; refine (HH0.out _).mono ?_; rintro en w11 ⟨rfl, rfl⟩) | (go_at_call 26; refine (HF0.out _).mono ?_; rintro en w12 ⟨rfl, rfl⟩) | (go_at_call 10; refine (HC0.out _).mono ?_; rintro en w13 ⟨rfl, hb13⟩))
                go_ret
                exact ⟨rfl, below_trans HB.out (below_trans hb9 (below_trans hb10 hb13))⟩

end Go.Proofs.YtdllibalmjadhaaGreat
