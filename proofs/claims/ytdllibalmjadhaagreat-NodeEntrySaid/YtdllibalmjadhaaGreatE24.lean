/- maps.DeleteFunc: what waits at a hub, and the links of its nodes, go. -/
import Derived.Test.YtdllibalmjadhaaGreatE16
import Derived.Test.YtdllibalmjadhaaGreatE5
import Derived.Test.YtdllibalmjadhaaGreatE22

namespace Go.Proofs.YtdllibalmjadhaaGreat
open Go Go.RowKit

theorem encPlace_inj (a b : Int × Nat) (h : encPlace a = encPlace b) : a = b := by
  unfold encPlace at h
  simp at h
  exact Prod.ext h.1 (by omega)
theorem encWait_inj (a b : WaitK) (h : encWait a = encWait b) : a = b := by
  unfold encWait at h
  simp at h
  cases a; cases b
  simp at h ⊢
  omega
/-- Who has not told, and for whom it is: as a value. -/
def LeftLike (v : Value) : Prop := ∃ s n k, ∃ c o : Int, v = .agg #[.slice s n k, .int .i64 c, .int .i64 o]
/-- What is left of entries while a range goes on. -/
def keepL {K : Type} [DecidableEq K] (hub : K → Bool) (l todo : List (K × Value)) : List (K × Value) := l.filter fun q => decide (q.1 ∈ todo.map Prod.fst) || !hub q.1
theorem keepL_start {K : Type} [DecidableEq K] (hub : K → Bool) (l : List (K × Value)) : keepL hub l l = l := List.filter_eq_self.2 fun q hq => by rw [decide_eq_true (List.mem_map.2 ⟨q, hq, rfl⟩)]; rfl
theorem keepL_done {K : Type} [DecidableEq K] (hub : K → Bool) (l : List (K × Value)) : keepL hub l [] = l.filter fun q => !hub q.1 := by
  unfold keepL
  refine List.filter_congr fun q _ => ?_
  simp
theorem mdel_filter {K : Type} [DecidableEq K] {l todo t1 t2 : List (K × Value)} {p : K × Value} (hub : K → Bool) (hnd : (todo.map Prod.fst).Nodup) (hsplit : todo = t1 ++ p :: t2) (hh : hub p.1 = true) :
    mdel (keepL hub l todo) p.1 = keepL hub l (t1 ++ t2) := by
  subst hsplit
  unfold mdel keepL
  rw [List.filter_filter]
  refine List.filter_congr fun q _ => ?_
  simp only [List.map_append, List.map_cons, List.nodup_append, List.nodup_cons] at hnd
  obtain ⟨_, ⟨h2, _⟩, h3⟩ := hnd
  by_cases e : q.1 = p.1
  · have h4 : p.1 ∉ t1.map Prod.fst := fun hm => h3 _ hm _ (List.mem_cons_self ..) rfl
    have h5 : p.1 ∉ (t1 ++ t2).map Prod.fst := by rw [List.map_append, List.mem_append]; exact fun h => h.elim h4 h2
    rw [e, hh, decide_eq_false h5]; simp
  · simp only [List.map_append, List.map_cons, List.mem_append, List.mem_cons, e, false_or, ne_eq, not_false_eq_true, decide_true, Bool.true_and]
theorem keep_filter {K : Type} [DecidableEq K] {l todo t1 t2 : List (K × Value)} {p : K × Value} (hub : K → Bool) (hsplit : todo = t1 ++ p :: t2) (hh : hub p.1 = false) :
    keepL hub l todo = keepL hub l (t1 ++ t2) := by
  subst hsplit
  unfold keepL
  refine List.filter_congr fun q _ => ?_
  by_cases e : q.1 = p.1
  · rw [e, hh]; simp
  · simp only [List.map_append, List.map_cons, List.mem_append, List.mem_cons, e, false_or]
theorem out_of {K : Type} {todo t1 t2 : List (K × Value)} {p : K × Value} (hnd : (todo.map Prod.fst).Nodup) (hsplit : todo = t1 ++ p :: t2) : p.1 ∉ (t1 ++ t2).map Prod.fst := by
  subst hsplit
  simp only [List.map_append, List.map_cons, List.nodup_append, List.nodup_cons] at hnd
  obtain ⟨_, ⟨h2, _⟩, h3⟩ := hnd
  rw [List.map_append, List.mem_append]
  exact fun h => h.elim (fun hm => h3 _ hm _ (List.mem_cons_self ..) rfl) h2

theorem cWaits_any (k : WaitK) (v : Value) (hv : LeftLike v) (xb : Nat) (i : Int) (w : World) (hx : w.cell? ⟨xb, 0, none⟩ = some (.int .i64 i)) : Calls Tryz.prog 66 #[encWait k, v, .pointer (some ⟨xb, 0, none⟩)] w fun en w' => en = .returned (.bool (((k.hub : Int)) == i)) ∧ Below w.heap.size w w' := by
  obtain ⟨sl, sn, sk, lc, lo, rfl⟩ := hv
  have hz := cell_lt hx
  have hz' : xb < w.heap.size := hz
  unfold encWait
  go_enter Tryz.func66, Tryz.ntmps66
  go_wp2
  go_ret
  exact ⟨rfl, (below_trans (alloc_below _ _) (alloc_below _ _))⟩

/-- What is left. -/
def DelWaits (w : World) (fr : Chunk) (mb : Nat) (l : List (WaitK × Value)) (i : Int) (en : Ending) (w' : World) : Prop := ∃ arr' clk', en = .returned (.tuple #[]) ∧ IsMap encWait (l.filter fun q => !((q.1.hub : Int) == i)) arr' clk' ∧ Ok w' ((mb, .map arr' clk') :: fr) ∧ Same w w'

set_option maxHeartbeats 2000000 in
set_option maxRecDepth 100000 in
theorem delWaits_any (fr : Chunk) (mb xb : Nat) (i : Int) (arr : Array MapEntry) (clk : Nat) (l : List (WaitK × Value)) (hlike : ∀ p ∈ l, LeftLike p.2) (w : World) (hok : Ok w ((mb, .map arr clk) :: fr)) (hm : IsMap encWait l arr clk) (hx : (xb, .cells #[.int .i64 i] 3 (0, 0)) ∈ fr) :
    Calls Tryz.prog 65 #[.map (some mb), .func (.func 66) #[] #[.pointer (some ⟨xb, 0, none⟩)]] w (DelWaits w fr mb l i) := by
  have h1 := run_range (P := Tryz.prog) Tryz.underlying75 (hok.get (b := mb) (o := .map arr clk) (by simp))
  have hstart : Ranging encWait l l arr clk #[] := Ranging.start hm
  have hst : Ok (w.alloc (.mapIter (some mb) clk #[] clk)) ((mb, .map arr clk) :: (w.heap.size, .mapIter (some mb) clk #[] clk) :: fr) := (hok.alloc _).cnt (by intro x hx; simp at hx ⊢; try grind) (by intro b; simp; try (first | omega | (simp [List.count_cons]; omega)))
  have hs0 : Same w (w.alloc (.mapIter (some mb) clk #[] clk)) := (Same.refl w).alloc _
  generalize hib : w.heap.size = ib at *
  generalize hw1 : w.alloc (.mapIter (some mb) clk #[] clk) = w1 at *
  generalize hpost : DelWaits w fr mb l i = post
  clear hok
  have HP := hid hpost
  clear hpost
  go_enter Tryz.func65, Tryz.ntmps65
  go_wp2
  go_loopw [] (fun wr => ∃ seen todo arr', Ranging encWait (keepL (fun k => ((k.hub : Int) == i)) l todo) todo arr' clk seen ∧ todo.Sublist l ∧ Ok wr ((mb, .map arr' clk) :: (ib, .mapIter (some mb) clk seen clk) :: fr) ∧ Same w wr)
    (fun wr => toComeK wr ib mb)
  case atStart =>
    refine ⟨#[], l, arr, ?_, List.Sublist.refl _, hst, hs0⟩
    rw [keepL_start]; exact hstart
  case round =>
    obtain ⟨seen, todo, arr', hran, hsub, hok, hsame⟩ := hrel
    have hi : wr.heap[ib]? = some (.mapIter (some mb) clk seen clk) := hok.get (by simp)
    have hmb : wr.heap[mb]? = some (.map arr' clk) := hok.get (by simp)
    by_cases htd : todo = []
    · subst htd
      have hnx := run_next_over (P := Tryz.prog) hi hmb hran 0
      have hmap := hran.map
      rw [keepL_done] at hmap
      have HF := hid (show DelWaits w fr mb l i (.returned (.tuple #[])) wr from ⟨_, _, rfl, hmap, hok.sublist (List.Sublist.cons_cons _ (List.sublist_cons_self _ _)), hsame⟩)
      rw [HP.out] at HF
      clear hran hi hmb hok hsame hmap h1 hstart hst hs0 hw1 hm hx hlike
      go_wp2
      first | exact done_norm Tryz.results65 HF.out rfl | exact done_ret Tryz.results65 HF.out rfl
    · obtain ⟨t1, p, t2, s, n, htodo, hran', hfind, hnx⟩ := run_next_some (P := Tryz.prog) hi hmb hran htd 0
      have hokn : Ok (setBlk (wr.drewN n) ib (.mapIter (some mb) clk (seen.push s) clk)) ((mb, .map arr' clk) :: (ib, .mapIter (some mb) clk (seen.push s) clk) :: fr) := by
        have h1 : Ok (wr.drewN n) ((ib, .mapIter (some mb) clk seen clk) :: ((mb, .map arr' clk) :: fr)) := (hok.drewN n).cnt (by intro x hx; simp at hx ⊢; try grind) (by intro b; simp; try (first | omega | (simp [List.count_cons]; omega)))
        exact (h1.setBlk (.mapIter (some mb) clk (seen.push s) clk)).cnt (by intro x hx; simp at hx ⊢; try grind) (by intro b; simp; try (first | omega | (simp [List.count_cons]; omega)))
      have hsn : Same w (setBlk (wr.drewN n) ib (.mapIter (some mb) clk (seen.push s) clk)) := (hsame.drewN n).setBlk _ _
      have hleft := toComeK_eq hi hmb hran
      generalize hwn : setBlk (wr.drewN n) ib (.mapIter (some mb) clk (seen.push s) clk) = wn at *
      have hin : wn.heap[ib]? = some (.mapIter (some mb) clk (seen.push s) clk) := hokn.get (by simp)
      have hmn : wn.heap[mb]? = some (.map arr' clk) := hokn.get (by simp)
      have hen := run_entry (P := Tryz.prog) hin hmn hfind
      have hpl : p ∈ l := hsub.subset (by rw [htodo]; simp)
      have hnd : (todo.map Prod.fst).Nodup := (hran.sub.map Prod.fst).nodup hran.map.nd
      have hpo := out_of hnd htodo
      have hsub' : (t1 ++ t2).Sublist l := by
        have : (t1 ++ t2).Sublist todo := by rw [htodo]; exact List.Sublist.append_left (List.sublist_cons_self _ _) _
        exact this.trans hsub
      have hlen : (t1 ++ t2).length < todo.length := by rw [htodo]; simp
      obtain ⟨sl, sn, sk, lc, lo, hv⟩ := hlike p hpl
      obtain ⟨pk, pv⟩ := p
      simp only at hv
      subst hv
      have hxn : ∀ w', Below wn.heap.size wn w' → w'.cell? ⟨xb, 0, none⟩ = some (.int .i64 i) := fun w' hb' => cellOf (holds hb' (hokn.get (List.mem_cons_of_mem _ (List.mem_cons_of_mem _ hx)))) 0
      have HC := hid fun w' (hb' : Below wn.heap.size wn w') => cWaits_any pk (.agg #[.slice sl sn sk, .int .i64 lc, .int .i64 lo]) ⟨_, _, _, _, _, rfl⟩ xb i w' (hxn w' hb')
      simp only [encWait] at hnx hen HC
      have hmk := hran'.map
      cases hh : ((pk.hub : Int) == i) with
      | false =>
        rw [hh] at HC
        have hfin := keep_filter (l := l) (fun k => ((k.hub : Int) == i)) htodo hh
        have HX := hid (And.intro hran' (And.intro hokn (And.intro hsn hfin)))
        clear hran' hokn hsn hran hok hsame hi hmb hmk hfin h1 hstart hst hs0 hw1 hm hx hlike hxn hwn hnd htodo htd
        go_wp2_with (go_at_call 66; refine (HC.out _ (below_trans (alloc_below _ _) (alloc_below _ _))).mono ?_; rintro en w3 ⟨rfl, hb3⟩; have hb3' := below_trans (below_trans (alloc_below _ _) (alloc_below _ _)) hb3)
        obtain ⟨g1, g2, g3, g4⟩ := HX.out
        have g5 := g2.below hb3'
        have hleft' := toComeK_eq (g5.get (b := ib) (o := .mapIter (some mb) clk (seen.push s) clk) (by simp)) (g5.get (b := mb) (o := .map arr' clk) (by simp)) g1
        go_roundw
        case rel => exact ⟨seen.push s, t1 ++ t2, arr', by rw [← g4]; exact g1, hsub', g5, g3.below hb3'⟩
        case measure => rw [hleft', hleft]; exact hlen
      | true =>
        rw [hh] at HC
        have hfin := mdel_filter (l := l) (fun k => ((k.hub : Int) == i)) hnd htodo hh
        have hmem : pk ∈ (keepL (fun k => ((k.hub : Int) == i)) l todo).map Prod.fst := List.mem_map.2 ⟨(pk, (.agg #[.slice sl sn sk, .int .i64 lc, .int .i64 lo])), hran.sub.subset (by rw [htodo]; simp), rfl⟩
        obtain ⟨j, hj⟩ : ∃ j, midx ((keepL (fun k => ((k.hub : Int) == i)) l todo).map Prod.fst) pk = some j := by
          cases hj : midx ((keepL (fun k => ((k.hub : Int) == i)) l todo).map Prod.fst) pk with
          | none => exact absurd hmem (midx_none hj)
          | some j => exact ⟨j, rfl⟩
        have hrd := hran'.del encWait_inj hfind hpo hj
        have hdel := fun w' (hb' : Below wn.heap.size wn w') => run_delete_at (P := Tryz.prog) waitLaw Tryz.underlying75 (w := w') (holds hb' hmn) hmk pk hj 113 0
        simp only [encWait] at hdel
        have HDl := hid hdel
        have HX := hid (And.intro hrd (And.intro hokn (And.intro hsn hfin)))
        clear hran' hokn hsn hran hok hsame hi hmb hmk hfin h1 hstart hst hs0 hw1 hm hx hlike hxn hwn hnd htodo htd hmem hrd hdel hj
        go_wp2_with (first | (go_at_call 66; refine (HC.out _ (below_trans (alloc_below _ _) (alloc_below _ _))).mono ?_; rintro en w3 ⟨rfl, hb3⟩; have hb3' := below_trans (below_trans (alloc_below _ _) (alloc_below _ _)) hb3; have kk := holds hb3 (heap2 _ _ _); have k0 : w3.cell? ⟨wn.heap.size, 0, none⟩ = some (.int .i64 pk.hub) := cellOf kk 0; have k1 : w3.cell? ⟨wn.heap.size, 1, none⟩ = some (.int .u32 pk.point) := cellOf kk 1; have k2 : w3.cell? ⟨wn.heap.size, 2, none⟩ = some (.int .u32 pk.value) := cellOf kk 2; have k3 : w3.cell? ⟨wn.heap.size, 3, none⟩ = some (.int .u64 pk.id) := cellOf kk 3; have k4 : w3.cell? ⟨wn.heap.size, 4, none⟩ = some (.int .u64 pk.version) := cellOf kk 4) | (refine wpList_del rfl _ _ _ _ rfl rfl rfl (HDl.out _ hb3') ?_))
        obtain ⟨g1, g2, g3, g4⟩ := HX.out
        have g5 := (g2.below hb3').setBlk (.map (arr'.eraseIdxIfInBounds j) clk)
        have hleft' := toComeK_eq (g5.get (b := ib) (o := .mapIter (some mb) clk (seen.push s) clk) (by simp)) (g5.get (b := mb) (o := .map (arr'.eraseIdxIfInBounds j) clk) (by simp)) g1
        go_frame
        go_roundw
        case rel => exact ⟨seen.push s, t1 ++ t2, _, by rw [← g4]; exact g1, hsub', g5, (g3.below hb3').setBlk _ _⟩
        case measure => rw [hleft', hleft]; exact hlen

theorem cKnown_any (k : (Int × Nat)) (v : Value) (hv : BoxLike v) (xb : Nat) (i : Int) (w : World) (hx : w.cell? ⟨xb, 0, none⟩ = some (.int .i64 i)) : Calls Tryz.prog 68 #[encPlace k, v, .pointer (some ⟨xb, 0, none⟩)] w fun en w' => en = .returned (.bool (((k.1 : Int)) == i)) ∧ Below w.heap.size w w' := by
  obtain ⟨sl, sn, sk, rfl⟩ := hv
  have hz := cell_lt hx
  have hz' : xb < w.heap.size := hz
  unfold encPlace
  go_enter Tryz.func68, Tryz.ntmps68
  go_wp2
  go_ret
  exact ⟨rfl, (alloc_below _ _)⟩

/-- What is left. -/
def DelKnown (w : World) (fr : Chunk) (mb : Nat) (l : List ((Int × Nat) × Value)) (i : Int) (en : Ending) (w' : World) : Prop := ∃ arr' clk', en = .returned (.tuple #[]) ∧ IsMap encPlace (l.filter fun q => !((q.1.1 : Int) == i)) arr' clk' ∧ Ok w' ((mb, .map arr' clk') :: fr) ∧ Same w w'

set_option maxHeartbeats 2000000 in
set_option maxRecDepth 100000 in
theorem delKnown_any (fr : Chunk) (mb xb : Nat) (i : Int) (arr : Array MapEntry) (clk : Nat) (l : List ((Int × Nat) × Value)) (hlike : ∀ p ∈ l, BoxLike p.2) (w : World) (hok : Ok w ((mb, .map arr clk) :: fr)) (hm : IsMap encPlace l arr clk) (hx : (xb, .cells #[.int .i64 i] 3 (0, 0)) ∈ fr) :
    Calls Tryz.prog 67 #[.map (some mb), .func (.func 68) #[] #[.pointer (some ⟨xb, 0, none⟩)]] w (DelKnown w fr mb l i) := by
  have h1 := run_range (P := Tryz.prog) Tryz.underlying74 (hok.get (b := mb) (o := .map arr clk) (by simp))
  have hstart : Ranging encPlace l l arr clk #[] := Ranging.start hm
  have hst : Ok (w.alloc (.mapIter (some mb) clk #[] clk)) ((mb, .map arr clk) :: (w.heap.size, .mapIter (some mb) clk #[] clk) :: fr) := (hok.alloc _).cnt (by intro x hx; simp at hx ⊢; try grind) (by intro b; simp; try (first | omega | (simp [List.count_cons]; omega)))
  have hs0 : Same w (w.alloc (.mapIter (some mb) clk #[] clk)) := (Same.refl w).alloc _
  generalize hib : w.heap.size = ib at *
  generalize hw1 : w.alloc (.mapIter (some mb) clk #[] clk) = w1 at *
  generalize hpost : DelKnown w fr mb l i = post
  clear hok
  have HP := hid hpost
  clear hpost
  go_enter Tryz.func67, Tryz.ntmps67
  go_wp2
  go_loopw [] (fun wr => ∃ seen todo arr', Ranging encPlace (keepL (fun k => ((k.1 : Int) == i)) l todo) todo arr' clk seen ∧ todo.Sublist l ∧ Ok wr ((mb, .map arr' clk) :: (ib, .mapIter (some mb) clk seen clk) :: fr) ∧ Same w wr)
    (fun wr => toComeK wr ib mb)
  case atStart =>
    refine ⟨#[], l, arr, ?_, List.Sublist.refl _, hst, hs0⟩
    rw [keepL_start]; exact hstart
  case round =>
    obtain ⟨seen, todo, arr', hran, hsub, hok, hsame⟩ := hrel
    have hi : wr.heap[ib]? = some (.mapIter (some mb) clk seen clk) := hok.get (by simp)
    have hmb : wr.heap[mb]? = some (.map arr' clk) := hok.get (by simp)
    by_cases htd : todo = []
    · subst htd
      have hnx := run_next_over (P := Tryz.prog) hi hmb hran 0
      have hmap := hran.map
      rw [keepL_done] at hmap
      have HF := hid (show DelKnown w fr mb l i (.returned (.tuple #[])) wr from ⟨_, _, rfl, hmap, hok.sublist (List.Sublist.cons_cons _ (List.sublist_cons_self _ _)), hsame⟩)
      rw [HP.out] at HF
      clear hran hi hmb hok hsame hmap h1 hstart hst hs0 hw1 hm hx hlike
      go_wp2
      first | exact done_norm Tryz.results67 HF.out rfl | exact done_ret Tryz.results67 HF.out rfl
    · obtain ⟨t1, p, t2, s, n, htodo, hran', hfind, hnx⟩ := run_next_some (P := Tryz.prog) hi hmb hran htd 0
      have hokn : Ok (setBlk (wr.drewN n) ib (.mapIter (some mb) clk (seen.push s) clk)) ((mb, .map arr' clk) :: (ib, .mapIter (some mb) clk (seen.push s) clk) :: fr) := by
        have h1 : Ok (wr.drewN n) ((ib, .mapIter (some mb) clk seen clk) :: ((mb, .map arr' clk) :: fr)) := (hok.drewN n).cnt (by intro x hx; simp at hx ⊢; try grind) (by intro b; simp; try (first | omega | (simp [List.count_cons]; omega)))
        exact (h1.setBlk (.mapIter (some mb) clk (seen.push s) clk)).cnt (by intro x hx; simp at hx ⊢; try grind) (by intro b; simp; try (first | omega | (simp [List.count_cons]; omega)))
      have hsn : Same w (setBlk (wr.drewN n) ib (.mapIter (some mb) clk (seen.push s) clk)) := (hsame.drewN n).setBlk _ _
      have hleft := toComeK_eq hi hmb hran
      generalize hwn : setBlk (wr.drewN n) ib (.mapIter (some mb) clk (seen.push s) clk) = wn at *
      have hin : wn.heap[ib]? = some (.mapIter (some mb) clk (seen.push s) clk) := hokn.get (by simp)
      have hmn : wn.heap[mb]? = some (.map arr' clk) := hokn.get (by simp)
      have hen := run_entry (P := Tryz.prog) hin hmn hfind
      have hpl : p ∈ l := hsub.subset (by rw [htodo]; simp)
      have hnd : (todo.map Prod.fst).Nodup := (hran.sub.map Prod.fst).nodup hran.map.nd
      have hpo := out_of hnd htodo
      have hsub' : (t1 ++ t2).Sublist l := by
        have : (t1 ++ t2).Sublist todo := by rw [htodo]; exact List.Sublist.append_left (List.sublist_cons_self _ _) _
        exact this.trans hsub
      have hlen : (t1 ++ t2).length < todo.length := by rw [htodo]; simp
      obtain ⟨sl, sn, sk, hv⟩ := hlike p hpl
      obtain ⟨pk, pv⟩ := p
      simp only at hv
      subst hv
      have hxn : ∀ w', Below wn.heap.size wn w' → w'.cell? ⟨xb, 0, none⟩ = some (.int .i64 i) := fun w' hb' => cellOf (holds hb' (hokn.get (List.mem_cons_of_mem _ (List.mem_cons_of_mem _ hx)))) 0
      have HC := hid fun w' (hb' : Below wn.heap.size wn w') => cKnown_any pk (.slice sl sn sk) ⟨_, _, _, rfl⟩ xb i w' (hxn w' hb')
      simp only [encPlace] at hnx hen HC
      have hmk := hran'.map
      cases hh : ((pk.1 : Int) == i) with
      | false =>
        rw [hh] at HC
        have hfin := keep_filter (l := l) (fun k => ((k.1 : Int) == i)) htodo hh
        have HX := hid (And.intro hran' (And.intro hokn (And.intro hsn hfin)))
        clear hran' hokn hsn hran hok hsame hi hmb hmk hfin h1 hstart hst hs0 hw1 hm hx hlike hxn hwn hnd htodo htd
        go_wp2_with (go_at_call 68; refine (HC.out _ (alloc_below _ _)).mono ?_; rintro en w3 ⟨rfl, hb3⟩; have hb3' := below_trans (alloc_below _ _) hb3)
        obtain ⟨g1, g2, g3, g4⟩ := HX.out
        have g5 := g2.below hb3'
        have hleft' := toComeK_eq (g5.get (b := ib) (o := .mapIter (some mb) clk (seen.push s) clk) (by simp)) (g5.get (b := mb) (o := .map arr' clk) (by simp)) g1
        go_roundw
        case rel => exact ⟨seen.push s, t1 ++ t2, arr', by rw [← g4]; exact g1, hsub', g5, g3.below hb3'⟩
        case measure => rw [hleft', hleft]; exact hlen
      | true =>
        rw [hh] at HC
        have hfin := mdel_filter (l := l) (fun k => ((k.1 : Int) == i)) hnd htodo hh
        have hmem : pk ∈ (keepL (fun k => ((k.1 : Int) == i)) l todo).map Prod.fst := List.mem_map.2 ⟨(pk, (.slice sl sn sk)), hran.sub.subset (by rw [htodo]; simp), rfl⟩
        obtain ⟨j, hj⟩ : ∃ j, midx ((keepL (fun k => ((k.1 : Int) == i)) l todo).map Prod.fst) pk = some j := by
          cases hj : midx ((keepL (fun k => ((k.1 : Int) == i)) l todo).map Prod.fst) pk with
          | none => exact absurd hmem (midx_none hj)
          | some j => exact ⟨j, rfl⟩
        have hrd := hran'.del encPlace_inj hfind hpo hj
        have hdel := fun w' (hb' : Below wn.heap.size wn w') => run_delete_at (P := Tryz.prog) placeLaw Tryz.underlying74 (w := w') (holds hb' hmn) hmk pk hj 103 0
        simp only [encPlace] at hdel
        have HDl := hid hdel
        have HX := hid (And.intro hrd (And.intro hokn (And.intro hsn hfin)))
        clear hran' hokn hsn hran hok hsame hi hmb hmk hfin h1 hstart hst hs0 hw1 hm hx hlike hxn hwn hnd htodo htd hmem hrd hdel hj
        go_wp2_with (first | (go_at_call 68; refine (HC.out _ (alloc_below _ _)).mono ?_; rintro en w3 ⟨rfl, hb3⟩; have hb3' := below_trans (alloc_below _ _) hb3; have kk := holds hb3 (heap1 _ _); have k0 : w3.cell? ⟨wn.heap.size, 0, none⟩ = some (.int .i64 pk.1) := cellOf kk 0; have k1 : w3.cell? ⟨wn.heap.size, 1, none⟩ = some (.int .u32 pk.2) := cellOf kk 1) | (refine wpList_del rfl _ _ _ _ rfl rfl rfl (HDl.out _ hb3') ?_))
        obtain ⟨g1, g2, g3, g4⟩ := HX.out
        have g5 := (g2.below hb3').setBlk (.map (arr'.eraseIdxIfInBounds j) clk)
        have hleft' := toComeK_eq (g5.get (b := ib) (o := .mapIter (some mb) clk (seen.push s) clk) (by simp)) (g5.get (b := mb) (o := .map (arr'.eraseIdxIfInBounds j) clk) (by simp)) g1
        go_frame
        go_roundw
        case rel => exact ⟨seen.push s, t1 ++ t2, _, by rw [← g4]; exact g1, hsub', g5, (g3.below hb3').setBlk _ _⟩
        case measure => rw [hleft', hleft]; exact hlen

end Go.Proofs.YtdllibalmjadhaaGreat
