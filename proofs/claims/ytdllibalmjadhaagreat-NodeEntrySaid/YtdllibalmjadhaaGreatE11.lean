/- A hub without entries lays its shadows. -/
import Derived.Test.YtdllibalmjadhaaGreatE10

namespace Go.Proofs.YtdllibalmjadhaaGreat
open Go Go.RowKit

/-- How much of a range is to come. -/
def toCome (w : World) (ib : Nat) (arr : Array MapEntry) : Nat := match w.heap[ib]? with
  | some (.mapIter _ _ seen _) => (arr.toList.filter fun e => !seen.contains e.born).length
  | _ => 0
theorem toCome_eq {w : World} {ib mb : Nat} {arr : Array MapEntry} {clk : Nat} {l todo : List (Nat × Value)} {seen : Array Nat} (h : w.heap[ib]? = some (.mapIter (some mb) clk seen clk)) (hr : Ranging encName l todo arr clk seen) : toCome w ib arr = todo.length := by
  unfold toCome
  rw [h]
  have := congrArg List.length hr.left
  simpa using this

/-- A node of a hub without entries gets a new shadow. -/
theorem bare_shadow {c fr : Chunk} {hb p : Nat} {H : HubS} (hbare : H.bare) {w : World} {rb mb : Nat} {arr : Array MapEntry} {clk : Nat} {l : List (Nat × Value)} {cr cn : Chunk} (hok : Ok w (c ++ fr)) (h : HubIs [] c hb H rb mb arr clk l cr cn) (hp : p ∈ H.pts) : ∃ xb, mget l p = some (.pointer (some ⟨xb, 0, none⟩)) ∧
    (∃ d s v, w.heap[xb]? = some (.cells #[d, .int .i64 0, s, v] 127 (0, 0))) ∧
    ∀ w' db m, Fresh w w' [(db, .cells #[.map (some m)] 184 (0, 0)), (m, .map #[] 0)] → ∃ c' cn', HubIs [] c' hb H rb mb arr clk l cr cn' ∧ Ok (w'.setCell ⟨xb, 3, none⟩ (.pointer (some ⟨db, 0, none⟩))) (c' ++ fr) ∧ Same w (w'.setCell ⟨xb, 3, none⟩ (.pointer (some ⟨db, 0, none⟩))) := by
  obtain ⟨hs, hd⟩ := hbare
  obtain ⟨xb, x, c1, y, hg, e2, ⟨sb, db0, cs, cd, e3, hsh, hsd⟩, hput⟩ := h.split hp
  have hc := h.chunk
  have hring := h.ring
  have hrok := h.ok
  have hmap := h.map
  have hkeys := h.keys
  have hreps := h.reps
  clear h
  subst hc e2 e3
  have hxb := hok.get (b := xb) (o := .cells #[.bool (H.dead p), .int .i64 0, .pointer (some ⟨sb, 0, none⟩), .pointer (some ⟨db0, 0, none⟩)] 127 (0, 0)) (by simp)
  refine ⟨xb, hg, ⟨_, _, _, hxb⟩, fun w' db m hf => ?_⟩
  have hok1 := hf.frame hok
  have hok2 : Ok w' ((xb, .cells #[.bool (H.dead p), .int .i64 0, .pointer (some ⟨sb, 0, none⟩), .pointer (some ⟨db0, 0, none⟩)] 127 (0, 0)) :: ([(db, .cells #[.map (some m)] 184 (0, 0)), (m, .map #[] 0)] ++ ((hb, .cells #[.int .i64 H.reps, .pointer (some ⟨rb, 0, none⟩), .map (some mb), .slice none 0 0] 90 (0, 0)) :: (mb, .map arr clk) :: (cr ++ (x ++ (cs ++ y)) ++ fr)))) := hok1.cnt (by intro x hx; simp at hx ⊢; try grind) (by intro b; simp; try (first | omega | (simp [List.count_cons]; omega)))
  have hok3 := hok2.setCell 3 (.pointer (some ⟨db, 0, none⟩))
  have hnode : H.node [] p xb ((xb, .cells #[.bool (H.dead p), .int .i64 0, .pointer (some ⟨sb, 0, none⟩), .pointer (some ⟨db, 0, none⟩)] 127 (0, 0)) :: (cs ++ [(db, .cells #[.map (some m)] 184 (0, 0)), (m, .map #[] 0)])) := ⟨sb, db, cs, _, rfl, hsh, by rw [hd]; exact IsShadow.new db m⟩
  have hput' := hput (H.node []) xb _ (fun q _ _ b c hq => hq) hnode
  rw [mput_same hg] at hput'
  refine ⟨_, _, ⟨rfl, hring, hrok, hmap, hput', hkeys, hreps⟩, ?_, hf.same.setCell _ _⟩
  have e : (#[Value.bool (H.dead p), .int .i64 0, .pointer (some ⟨sb, 0, none⟩), .pointer (some ⟨db0, 0, none⟩)] : Array Value).setIfInBounds 3 (.pointer (some ⟨db, 0, none⟩)) = #[.bool (H.dead p), .int .i64 0, .pointer (some ⟨sb, 0, none⟩), .pointer (some ⟨db, 0, none⟩)] := rfl
  rw [e] at hok3
  exact hok3.cnt (by intro x hx; simp at hx ⊢; try grind) (by intro b; simp; try (first | omega | (simp [List.count_cons]; omega)))

set_option maxHeartbeats 2000000 in
set_option maxRecDepth 100000 in
theorem lay_any (c fr : Chunk) (hb : Nat) (H : HubS) (hbare : H.bare) (w : World) (hok : Ok w (c ++ fr)) (h : IsHub [] c hb H) (hne : H.pts ≠ []) : Calls Tryz.prog 60 #[.pointer (some ⟨hb, 0, none⟩)] w (HubPost w fr hb H (.tuple #[])) := by
  obtain ⟨rb, mb, arr, clk, l, cr, cn, h⟩ := h
  have hm0 := h.map
  have h0 : w.cell? ⟨hb, 2, none⟩ = some (.map (some mb)) := cellOf (h.get hok) 2
  have h1 := run_range (P := Tryz.prog) Tryz.underlying87 (h.mapAt hok)
  have hst : ∃ c cn, HubIs [] c hb H rb mb arr clk l cr cn ∧ Ok (w.alloc (.mapIter (some mb) clk #[] clk)) (c ++ ((w.heap.size, .mapIter (some mb) clk #[] clk) :: fr)) ∧ Same w (w.alloc (.mapIter (some mb) clk #[] clk)) := ⟨c, cn, h, (hok.alloc _).cnt (by intro x hx; simp at hx ⊢; try grind) (by intro b; simp; try (first | omega | (simp [List.count_cons]; omega))), (Same.refl w).alloc _⟩
  have hstart : Ranging encName l l arr clk #[] := Ranging.start hm0
  generalize hib : w.heap.size = ib at *
  generalize hw1 : w.alloc (.mapIter (some mb) clk #[] clk) = w1 at *
  clear hok h
  go_enter Tryz.func60, Tryz.ntmps60
  go_wp2
  go_loopw [] (fun wr => ∃ seen todo c cn, Ranging encName l todo arr clk seen ∧ HubIs [] c hb H rb mb arr clk l cr cn ∧ Ok wr (c ++ ((ib, .mapIter (some mb) clk seen clk) :: fr)) ∧ Same w wr)
    (fun wr => toCome wr ib arr)
  case atStart =>
    obtain ⟨c, cn, h1, h2, h3⟩ := hst
    exact ⟨#[], l, c, cn, hstart, h1, h2, h3⟩
  case round =>
    obtain ⟨seen, todo, c, cn, hran, hhub, hok, hsame⟩ := hrel
    have hi : wr.heap[ib]? = some (.mapIter (some mb) clk seen clk) := hok.get (by simp)
    have hmb := hhub.mapAt hok
    by_cases htd : todo = []
    · subst htd
      have hnx := run_next_over (P := Tryz.prog) hi hmb hran 0
      have h1 : wr.cell? ⟨hb, 1, none⟩ = some (.pointer (some ⟨rb, 0, none⟩)) := cellOf (hhub.get hok) 1
      have HP := hid (points_any rb H.pts wr _ hok (hhub.ringAt hok) hhub.ok)
      have hle := hhub.ok.le
      have HB := hid (And.intro hhub (And.intro hsame hne))
      clear hran hi hmb hok hhub hsame hm0 hstart h0 hne hw1
      go_wp2_with (go_at_call 17; refine HP.out.mono ?_; rintro en w2 ⟨v, cp, rfl, hrow, ho, hs, _⟩; obtain ⟨a, cap, rfl⟩ := hrow.slice)
      clear h1 hnx HP
      obtain ⟨hhub, hsame, hne⟩ := HB.out
      go_loopw [30] (fun q wr => ∃ (k : Nat) (c : Chunk), q = .int .i64 k ∧ k ≤ H.pts.length ∧ IsHub [] c hb H ∧ Ok wr (c ++ (cp ++ fr)) ∧ Same w wr)
        (fun q _ => H.pts.length - (match q with | .int _ m => m.toNat | _ => 0))
      case atStart => exact ⟨0, c, rfl, Nat.zero_le _, ⟨rb, mb, arr, clk, l, cr, cn, hhub⟩, ho.cnt (by intro x hx; simp at hx ⊢; try grind) (by intro b; simp; try (first | omega | (simp [List.count_cons]; omega))), hsame.trans hs⟩
      case round =>
        clear ho hs hsame hhub
        obtain ⟨k, c, rfl, hk, hhub, hok, hsame⟩ := hrel
        rcases Nat.lt_or_ge k H.pts.length with hlt | hge
        · obtain ⟨x, hx⟩ : ∃ x, H.pts[k]? = some x := ⟨H.pts[k], List.getElem?_eq_getElem hlt⟩
          have hrd : ReadsU wr (.slice a H.pts.length cap) H.pts := hrow.reads (fr := c ++ fr) (hok.cnt (by intro x hx; simp at hx ⊢; try grind) (by intro b; simp; try (first | omega | (simp [List.count_cons]; omega))))
          obtain ⟨b, off, rfl, hcell⟩ := hrd.cell.2 k x hx
          have hwk : IntKind.i64.wrap ((k : Int) + 1) = (k : Int) + 1 := IntWalk.i64_in _ (by omega)
          have hd1 : decide ((k : Int) < (H.pts.length : Int)) = true := by simpa using hlt
          have hd2 : decide (k < H.pts.length) = true := by simpa using hlt
          cases hv : H.lives x with
          | false =>
            have hal := alive_bool [] c (cp ++ fr) hb H x wr hok hhub
            rw [hv] at hal
            have HA := hid hal
            have HX := hid (And.intro hrow (And.intro hhub (And.intro hok hsame)))
            clear hal hrow hhub hok hsame hrd hx
            go_wp2_with (go_at_call 48; refine HA.out.mono ?_; rintro en w3 ⟨rfl, ⟨h, _⟩ | ⟨_, rfl⟩⟩)
            go_roundw
            case rel => exact ⟨k + 1, c, rfl, hlt, HX.out.2.1, HX.out.2.2.1, HX.out.2.2.2⟩
            case measure => simp; omega
          | true =>
            obtain ⟨xb, sb, db, hal, hxb, hscan, _⟩ := bare_node c (cp ++ fr) hb x H hbare wr hok hhub hv
            have HA := hid hal
            have HS := hid hscan
            have HH := hid (fun w' (hb' : Below wr.heap.size wr w') => hubheirs_any [] c (cp ++ fr) hb x H w' (hok.below hb') hhub hne)
            have HX := hid (And.intro hrow (And.intro hhub (And.intro hok hsame)))
            clear hal hscan hrow hhub hok hsame hrd hx
            go_wp2_with (go_at_call 48; refine HA.out.mono ?_; rintro en w3 ⟨rfl, rfl⟩)
            refine wp_region_b [5, 6] (by kernel_rfl) (by kernel_rfl) ?_
            intro E _ hE hI
            have h0 : ∀ w' : InD E, w'.val.cell? ⟨xb, 2, none⟩ = some (.pointer (some ⟨sb, 0, none⟩)) := fun w' => cellOf (holds (hE w') hxb) 2
            repeat (refine wpX_step (fun K hK => ?_); go_simp; refine hK _ _ ?_; clear hK K)
            refine wpX_step (fun K hK => ?_); go_simp
            refine ⟨fun u w' => u = .agg #[.int .u32 x, .int .u32 x] ∧ E w', fun w' hw' => (all_any x _).mono fun en w'' ⟨he, hb'⟩ => ⟨_, he, rfl, hI _ (below_trans (hE ⟨w', hw'⟩) hb')⟩, fun u w h => h.2, ?_⟩
            rintro u y ⟨rfl, _⟩
            refine hK _ _ ?_; clear hK K
            repeat (refine wpX_step (fun K hK => ?_); go_simp; refine hK _ _ ?_; clear hK K)
            refine wpX_step (fun K hK => ?_); go_simp
            refine ⟨fun u w' => u = .slice none 0 0 ∧ E w', fun w' hw' => (HS.out _ x x (hE ⟨w', hw'⟩)).mono fun en w'' ⟨he, hb'⟩ => ⟨_, he, rfl, hI _ (below_trans (hE ⟨w', hw'⟩) hb')⟩, fun u w h => h.2, ?_⟩
            rintro u y ⟨rfl, _⟩
            refine hK _ _ ?_; clear hK K
            repeat (refine wpX_step (fun K hK => ?_); go_simp; refine hK _ _ ?_; clear hK K)
            refine wpX_nil ?_
            rintro w4 hw4
            have hb4 := hE ⟨w4, hw4⟩
            clear hI h0
            go_wp2_with (go_at_call 106; refine (HH.out _ hb4).mono ?_; rintro en w5 ⟨v2, cv, rfl, hrow2, hf2⟩; obtain ⟨a2, cap2, rfl⟩ := hrow2.slice)
            generalize hhs : heirsOf H.pts x (H.reps - 1) = hs at *
            have hhl : hs.length ≤ 64 := by
              have h1 := heirsOf_length H.pts x (H.reps - 1)
              have h2 := HB.out.1.reps
              rw [← hhs]
              omega
            have HC := hid hcell
            have HB4 := hid hb4
            clear hcell hb4
            go_loopw [50] (fun q wr => ∃ (j : Nat) (c : Chunk), q = .int .i64 j ∧ j ≤ hs.length ∧ IsHub [] c hb H ∧ Ok wr (c ++ (cv ++ (cp ++ fr))) ∧ Same w wr)
              (fun q _ => hs.length - (match q with | .int _ m => m.toNat | _ => 0))
            case atStart =>
              obtain ⟨_, hhub, hok, hsame⟩ := HX.out
              exact ⟨0, c, rfl, Nat.zero_le _, hhub, (hf2.frame (hok.below HB4.out)).cnt (by intro x hx; simp at hx ⊢; try grind) (by intro b; simp; try (first | omega | (simp [List.count_cons]; omega))), (hsame.below HB4.out).trans hf2.same⟩
            case round =>
              obtain ⟨j, c, rfl, hj, hhub, hok, hsame⟩ := hrel
              rcases Nat.lt_or_ge j hs.length with hjlt | hjge
              · obtain ⟨y, hy⟩ : ∃ y, hs[j]? = some y := ⟨hs[j], List.getElem?_eq_getElem hjlt⟩
                have hrd2 : ReadsU wr (.slice a2 hs.length cap2) hs := hrow2.reads (fr := c ++ (cp ++ fr)) (hok.cnt (by intro x hx; simp at hx ⊢; try grind) (by intro b; simp; try (first | omega | (simp [List.count_cons]; omega))))
                obtain ⟨b2, off2, rfl, hcell2⟩ := hrd2.cell.2 j y hy
                have hwj : IntKind.i64.wrap ((j : Int) + 1) = (j : Int) + 1 := IntWalk.i64_in _ (by omega)
                have hj1 : decide ((j : Int) < (hs.length : Int)) = true := by simpa using hjlt
                have hj2 : decide (j < hs.length) = true := by simpa using hjlt
                cases hv2 : H.lives y with
                | false =>
                  have hal2 := alive_bool [] c (cv ++ (cp ++ fr)) hb H y wr hok hhub
                  rw [hv2] at hal2
                  have HA2 := hid hal2
                  have HX2 := hid (And.intro hrow2 (And.intro hhub (And.intro hok hsame)))
                  clear hal2 hrow2 hhub hok hsame hrd2 hy
                  go_wp2_with (go_at_call 48; refine HA2.out.mono ?_; rintro en w6 ⟨rfl, ⟨h, _⟩ | ⟨_, rfl⟩⟩)
                  go_roundw
                  case rel => exact ⟨j + 1, c, rfl, hjlt, HX2.out.2.1, HX2.out.2.2.1, HX2.out.2.2.2⟩
                  case measure => simp; omega
                | true =>
                  obtain ⟨yb, sb2, db2, hal2, hyb, _, hset⟩ := bare_node c (cv ++ (cp ++ fr)) hb y H hbare wr hok hhub hv2
                  have HA2 := hid hal2
                  have HS2 := hid (hset x)
                  have q3 : wr.cell? ⟨yb, 3, none⟩ = some (.pointer (some ⟨db2, 0, none⟩)) := cellOf hyb 3
                  have HX2 := hid (And.intro hrow2 (And.intro hhub (And.intro hok hsame)))
                  clear hal2 hset hrow2 hhub hok hsame hrd2 hy hyb
                  go_wp2_with (first | (go_at_call 48; refine HA2.out.mono ?_; rintro en w6 ⟨rfl, rfl⟩) | (go_at_call 107; refine HS2.out.mono ?_; rintro en w7 ⟨c7, rfl, hhub7, hok7, hsame7⟩))
                  go_roundw
                  case rel => exact ⟨j + 1, c7, rfl, hjlt, hhub7, hok7, HX2.out.2.2.2.trans hsame7⟩
                  case measure => simp; omega
              · have hjj : j = hs.length := by omega
                subst hjj
                have hj1 : decide ((hs.length : Int) < (hs.length : Int)) = false := by simp
                have hj2 : decide (hs.length < hs.length) = false := by simp
                have HX2 := hid (And.intro hhub (And.intro hok hsame))
                clear hhub hok hsame
                go_wp2
                go_roundw
                case rel => exact ⟨k + 1, c, rfl, hlt, HX2.out.1, HX2.out.2.1.cnt (by intro x hx; simp at hx ⊢; try grind) (by intro b; simp; try (first | omega | (simp [List.count_cons]; omega))), HX2.out.2.2⟩
                case measure => simp; omega
        · have hkk : k = H.pts.length := by omega
          subst hkk
          have hd1 : decide ((H.pts.length : Int) < (H.pts.length : Int)) = false := by simp
          have hd2 : decide (H.pts.length < H.pts.length) = false := by simp
          have HQ := hid (show HubPost w fr hb H (.tuple #[]) (.returned (.tuple #[])) wr from ⟨c, rfl, hhub, hok.cnt (by intro x hx; simp at hx ⊢; try grind) (by intro b; simp; try (first | omega | (simp [List.count_cons]; omega))), hsame⟩)
          generalize HubPost w fr hb H (.tuple #[]) = post at *
          clear hrow hhub hok hsame
          go_wp2
          first | exact done_ret Tryz.results60 HQ.out rfl | exact done_norm Tryz.results60 HQ.out rfl
    · obtain ⟨t1, p, t2, s, n, htodo, hran', hfind, hnx⟩ := run_next_some (P := Tryz.prog) hi hmb hran htd 0
      have hokn : Ok (setBlk (wr.drewN n) ib (.mapIter (some mb) clk (seen.push s) clk)) (c ++ ((ib, .mapIter (some mb) clk (seen.push s) clk) :: fr)) := by
        have h1 : Ok (wr.drewN n) ((ib, .mapIter (some mb) clk seen clk) :: (c ++ fr)) := (hok.drewN n).cnt (by intro x hx; simp at hx ⊢; try grind) (by intro b; simp; try (first | omega | (simp [List.count_cons]; omega)))
        exact (h1.setBlk (.mapIter (some mb) clk (seen.push s) clk)).cnt (by intro x hx; simp at hx ⊢; try grind) (by intro b; simp; try (first | omega | (simp [List.count_cons]; omega)))
      have hsn : Same w (setBlk (wr.drewN n) ib (.mapIter (some mb) clk (seen.push s) clk)) := (hsame.drewN n).setBlk _ _
      have hlt := toCome_eq hi hran
      generalize hwn : setBlk (wr.drewN n) ib (.mapIter (some mb) clk (seen.push s) clk) = wn at *
      have hin : wn.heap[ib]? = some (.mapIter (some mb) clk (seen.push s) clk) := hokn.get (by simp)
      have hmn := hhub.mapAt hokn
      have hen := run_entry (P := Tryz.prog) hin hmn hfind
      have hpl : (p.1, p.2) ∈ l := hran.sub.subset (by rw [htodo]; simp)
      have hpp : p.1 ∈ H.pts := (hhub.keys p.1).1 (List.mem_map.2 ⟨_, hpl, rfl⟩)
      obtain ⟨xb, hg, ⟨d, sv, v, hxb⟩, hnew⟩ := bare_shadow hbare hokn hhub hpp
      have hpv : p.2 = .pointer (some ⟨xb, 0, none⟩) := by
        have := mget_of_mem hm0.nd hpl
        rw [this] at hg
        exact Option.some.inj hg
      rw [hpv] at hen
      have hnxt : (Instr.next (.pointer (some ⟨ib, 0, none⟩)) false 0).run Tryz.prog wr = .ok (.tuple #[.bool true, encName p.1, .pointer (some ⟨xb, 0, none⟩)]) wn := by rw [hnx, hpv]
      have HN := hid hnew
      have HX := hid hxb
      have HR := hid (And.intro hran' (And.intro htodo (And.intro hlt hsn)))
      clear hnew hxb hran' htodo hlt hsn hnx hokn hin hmn hfind hpl hpp hg hi hmb hran hok hsame hhub
      go_wp2_with (go_at_call 103; refine (shadowNew_any wn).mono ?_; rintro en w2 ⟨db, m, rfl, hf⟩; have q3 : w2.cell? ⟨xb, 3, none⟩ = some v := cellOf (holds hf.below HX.out) 3; have z3 := fun i => frozenOf (holds hf.below HX.out) i)
      obtain ⟨hran', htodo, hlt, hsn⟩ := HR.out
      obtain ⟨c', cn', hh', hok', hs'⟩ := HN.out w2 db m hf
      refine ⟨⟨seen.push s, t1 ++ t2, c', cn', hran', hh', hok', hsn.trans hs'⟩, ?_⟩
      rw [toCome_eq (hok'.get (b := ib) (o := .mapIter (some mb) clk (seen.push s) clk) (by simp)) hran', hlt, htodo]
      simp
end Go.Proofs.YtdllibalmjadhaaGreat
