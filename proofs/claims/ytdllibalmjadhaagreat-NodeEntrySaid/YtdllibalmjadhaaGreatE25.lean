/- A hub of all nodes waits for nothing, and lays its links. -/
import Derived.Test.YtdllibalmjadhaaGreatE23
import Derived.Test.YtdllibalmjadhaaGreatE24
import Derived.Test.YtdllibalmjadhaaGreatE12
import Derived.Test.YtdllibalmjadhaaGreatE19
import Derived.RegionTactic

namespace Go.Proofs.YtdllibalmjadhaaGreat
open Go Go.RowKit

/-- Nodes whose rings are of other points than their hub's. -/
def NodesR (c : Chunk) (nb : Nat) (N : NodesS) (rp : List Nat) : Prop := ∃ hs ch hb cH rs cr rb cR ts ct km karr kclk wm warr wclk db,
  c = (nb, .cells #[.int .i64 1, .int .i64 N.links, hs, rs, ts, .map (some km), .map (some wm), .pointer (some ⟨db, 0, none⟩)] 81 (0, 0)) :: (km, .map karr kclk) :: (wm, .map warr wclk) :: (db, .cells #[.int .u64 N.dice] 118 (0, 0)) :: (ch ++ (cH ++ (cr ++ (cR ++ ct)))) ∧
  Row 38 1 ch hs 1 [.pointer (some ⟨hb, 0, none⟩)] ∧ IsHub [] cH hb N.hub ∧ Row 37 1 cr rs 1 [.pointer (some ⟨rb, 0, none⟩)] ∧ IsRing cR rb rp ∧ Row 3 1 ct ts 1 [.int .i64 N.turn] ∧
  IsMap encPlace N.known karr kclk ∧ IsMap encWait N.waits warr wclk
theorem nodesR_eq (c : Chunk) (nb : Nat) (N : NodesS) : IsNodes c nb N ↔ NodesR c nb N N.hub.pts := Iff.rfl

theorem Row.set1 {e : TypeId} {g : Nat} {cur : Array Value} {cap : Nat} {x : Value} (h : Row e 1 [(g, .cells cur e (0, 0))] (.slice (some ⟨g, 0, none⟩) 1 cap) 1 [x]) (y : Value) : Row e 1 [(g, .cells (cur.setIfInBounds 0 y) e (0, 0))] (.slice (some ⟨g, 0, none⟩) 1 cap) 1 [y] := by
  obtain ⟨_, ⟨h0, _⟩ | ⟨g', cap', cur', h0, h1, h2, h3, h4, h5⟩⟩ := h
  · cases h0
  · cases h0
    simp only [List.cons.injEq, Prod.mk.injEq, true_and, and_true, Obj.cells.injEq] at h1
    subst h1
    refine ⟨rfl, .inr ⟨g, cap, _, rfl, rfl, h2, h3, by simpa using h4, ?_⟩⟩
    have hs : 0 < cur.toList.length := by simp; omega
    rw [Array.toList_setIfInBounds]
    cases hc : cur.toList with
    | nil => rw [hc] at hs; simp at hs
    | cons a l => rfl

/-- What is kept of all nodes while links are laid. -/
def KnownIn (F : Chunk) (l : List ((Int × Nat) × Value)) : Prop := ∀ kv ∈ l, ∃ x, SlIn F kv.2 x ∧ ∀ y ∈ x, y < 4294967296
def AllZero (l : List ((Int × Nat) × Value)) : Prop := ∀ kv ∈ l, kv.1.1 = 0 ∧ BoxLike kv.2
def WaitsOk (l : List (WaitK × Value)) : Prop := ∀ kv ∈ l, kv.1.hub = 0 ∧ LeftLike kv.2
def AnewPost (w : World) (fr : Chunk) (nb : Nat) (N : NodesS) (en : Ending) (w' : World) : Prop := ∃ c' F known dice, en = .returned (.tuple #[]) ∧ IsNodes c' nb { N with turn := N.turn + 1, waits := [], known := known, dice := dice } ∧ KnownIn F known ∧ AllZero known ∧ Ok w' (c' ++ (F ++ fr)) ∧ Same w w'

theorem in5 {a b c d e x : Nat × Obj} {X B : Chunk} (h : x ∈ B) : x ∈ a :: b :: c :: d :: e :: (X ++ B) := by simp [h]
theorem in4 {b c d e x : Nat × Obj} {X B : Chunk} (h : x ∈ B) : x ∈ b :: c :: d :: e :: (X ++ B) := by simp [h]
theorem mem_mput {K V : Type} [DecidableEq K] {l : List (K × V)} {k : K} {v : V} {p : K × V} (h : p ∈ mput l k v) : p ∈ l ∨ p = (k, v) := by
  induction l with
  | nil => simp [mput] at h; exact .inr h
  | cons q l ih =>
    simp only [mput] at h
    split at h
    · rename_i hk
      rcases List.mem_cons.1 h with h | h
      · exact .inr (by rw [h]; simp [hk])
      · exact .inl (List.mem_cons_of_mem _ h)
    · rcases List.mem_cons.1 h with h | h
      · exact .inl (h ▸ List.mem_cons_self ..)
      · exact (ih h).imp (List.mem_cons_of_mem _) id
def MapNew (w : World) (G : Chunk) (db km : Nat) (known : List ((Int × Nat) × Value)) (x : Nat) (w' : World) : Prop := ∃ cv v l s' arr clk, SlIn cv v l ∧ BoxLike v ∧ (∀ y ∈ l, y < 4294967296) ∧ IsMap encPlace (mput known (0, x) v) arr clk ∧ Ok w' ((db, diceObj s') :: (km, .map arr clk) :: (cv ++ G)) ∧ Same w w'
def LinksAt (w : World) (G : Chunk) (db km : Nat) (kO : Obj) (u : Value) (w' : World) : Prop := ∃ cv l s', Row 23 1 cv u l.length (u32s l) ∧ (∀ x ∈ l, x < 4294967296) ∧ Ok w' ((db, diceObj s') :: (km, kO) :: (cv ++ G)) ∧ Same w w'
def RingNew (w : World) (pts : List Nat) (u : Value) (w' : World) : Prop := ∃ rb cR, u = .pointer (some ⟨rb, 0, none⟩) ∧ IsRing cR rb pts ∧ Fresh w w' cR
theorem filter_none {l : List ((Int × Nat) × Value)} (h : AllZero l) : (l.filter fun q => !((q.1.1 : Int) == 0)) = [] := List.filter_eq_nil_iff.2 fun q hq => by simp [(h q hq).1]
theorem filter_noneW {l : List (WaitK × Value)} (h : WaitsOk l) : (l.filter fun q => !((q.1.hub : Int) == 0)) = [] := List.filter_eq_nil_iff.2 fun q hq => by simp [(h q hq).1]

set_option maxHeartbeats 4000000 in
set_option maxRecDepth 100000 in
theorem anew_any (c fr : Chunk) (nb : Nat) (N : NodesS) (rp : List Nat) (hl : N.links ≤ 1) (ht : N.turn ≤ 1000) (hk : AllZero N.known) (hw : WaitsOk N.waits) (hrok : RingOk N.hub.pts) (w : World) (hok : Ok w (c ++ fr)) (h : NodesR c nb N rp) :
    Calls Tryz.prog 32 #[.pointer (some ⟨nb, 0, none⟩), .int .i64 0] w (AnewPost w fr nb N) := by
  obtain ⟨hs, ch, hb, cH, rs, cr, rb, cR, ts, ct, km, karr, kclk, wm, warr, wclk, db, rfl, h1, h2, h3, h4, h5, h6, h7⟩ := h
  obtain ⟨g1, k1, u1, rfl, rfl, _, i1⟩ := h1.one
  obtain ⟨g2, k2, u2, rfl, rfl, _, i2⟩ := h3.one
  obtain ⟨g3, k3, u3, rfl, rfl, _, i3⟩ := h5.one
  have hok0 : Ok (w.alloc (.cells #[.int .i64 0] 3)) ((wm, .map warr wclk) :: ((km, .map karr kclk) :: (db, .cells #[.int .u64 N.dice] 118 (0, 0)) :: (g2, .cells u2 37 (0, 0)) :: (g3, .cells u3 3 (0, 0)) :: (cH ++ ((w.heap.size, .cells #[.int .i64 0] 3 (0, 0)) :: (nb, .cells #[.int .i64 1, .int .i64 N.links, .slice (some ⟨g1, 0, none⟩) 1 k1, .slice (some ⟨g2, 0, none⟩) 1 k2, .slice (some ⟨g3, 0, none⟩) 1 k3, .map (some km), .map (some wm), .pointer (some ⟨db, 0, none⟩)] 81 (0, 0)) :: (g1, .cells u1 38 (0, 0)) :: (cR ++ fr))))) := (hok.alloc _).cnt (by intro x hx; simp at hx ⊢; try grind) (by intro b; simp; try (first | omega | (simp [List.count_cons]; omega)))
  have hs0 : Same w (w.alloc (.cells #[.int .i64 0] 3)) := (Same.refl w).alloc _
  generalize hB : ((w.heap.size, .cells #[.int .i64 0] 3 (0, 0)) :: (nb, .cells #[.int .i64 1, .int .i64 N.links, .slice (some ⟨g1, 0, none⟩) 1 k1, .slice (some ⟨g2, 0, none⟩) 1 k2, .slice (some ⟨g3, 0, none⟩) 1 k3, .map (some km), .map (some wm), .pointer (some ⟨db, 0, none⟩)] 81 (0, 0)) :: (g1, .cells u1 38 (0, 0)) :: (cR ++ fr) : Chunk) = B at hok0
  have hBnb : (nb, Obj.cells #[.int .i64 1, .int .i64 N.links, .slice (some ⟨g1, 0, none⟩) 1 k1, .slice (some ⟨g2, 0, none⟩) 1 k2, .slice (some ⟨g3, 0, none⟩) 1 k3, .map (some km), .map (some wm), .pointer (some ⟨db, 0, none⟩)] 81 (0, 0)) ∈ B := by rw [← hB]; simp
  have hBx : (w.heap.size, Obj.cells #[.int .i64 0] 3 (0, 0)) ∈ B := by rw [← hB]; simp
  have hBg : (g1, Obj.cells u1 38 (0, 0)) ∈ B := by rw [← hB]; simp
  have HB := hid hB
  clear hB
  have q6 : (w.alloc (.cells #[.int .i64 0] 3)).cell? ⟨nb, 6, none⟩ = some (.map (some wm)) := cellOf (hok0.get (in5 hBnb)) 6
  have HD1 := hid (delWaits_any _ wm w.heap.size 0 warr wclk N.waits (fun p hp => (hw p hp).2) _ hok0 h7 (in4 hBx))
  generalize hpost : AnewPost w fr nb N = post
  have HP := hid hpost
  clear hpost hok
  go_enter Tryz.func32, Tryz.ntmps32
  go_wp2_with (fail)
  generalize hw0 : w.alloc (.cells #[.int .i64 0] 3) = w0 at *
  have hxb : w.heap.size < w0.heap.size := by rw [← hw0]; simp
  generalize w.heap.size = xb at *
  go_wp2_with (first | (go_at_call 65; refine HD1.out.mono ?_; rintro en w1 ⟨warr1, wclk1, rfl, hm1, hok1, hs1⟩; have q5 : w1.cell? ⟨nb, 5, none⟩ = some (.map (some km)) := cellOf (hok1.get (in5 hBnb)) 5; have hokK := Ok.perm hok1 (List.Perm.swap _ _ _); have HD2 := hid (delKnown_any _ km xb 0 karr kclk N.known (fun p hp => (hk p hp).2) w1 hokK h6 (in4 hBx)); clear hok1) | (go_at_call 67; refine HD2.out.mono ?_; rintro en w2 ⟨karr2, kclk2, rfl, hm2, hok2, hs2⟩; clear hokK q5))
  rw [filter_none hk] at hm2
  rw [filter_noneW hw] at hm1
  have hs02 := (hs0.trans hs1).trans hs2
  have HR := hid fun w' (hb' : Below w2.heap.size w2 w') => hubRing_any [] cH ((km, .map karr2 kclk2) :: (wm, .map warr1 wclk1) :: (db, .cells #[.int .u64 N.dice] 118 (0, 0)) :: (g2, .cells u2 37 (0, 0)) :: (g3, .cells u3 3 (0, 0)) :: B) hb N.hub w' ((hok2.below hb').cnt (by intro x hx; simp at hx ⊢; try grind) (by intro b; simp; try (first | omega | (simp [List.count_cons]; omega)))) h2
  clear HD1 HD2 q6 hok0 hxb hs0 hs1 hs2
  have hnb2 := hok2.get (in5 hBnb)
  have hg12 := hok2.get (in5 hBg)
  have hx2 := hok2.get (in5 hBx)
  refine wp_region_b [7] (by kernel_rfl) (by kernel_rfl) ?_
  intro E _ hE hI
  have b1 : ∀ w' : InD E, w'.val.cell? ⟨nb, 2, none⟩ = some (.slice (some ⟨g1, 0, none⟩) 1 k1) := fun w' => cellOf (holds (hE w') hnb2) 2
  have b2 : ∀ w' : InD E, w'.val.cell? ⟨xb, 0, none⟩ = some (.int .i64 0) := fun w' => cellOf (holds (hE w') hx2) 0
  have b3 : ∀ w' : InD E, w'.val.cell? ⟨g1, 0, none⟩ = some (.pointer (some ⟨hb, 0, none⟩)) := fun w' => by rw [← i1]; exact cellOf (holds (hE w') hg12) 0
  repeat (refine wpX_step (fun K hK => ?_); go_simp; refine hK _ _ ?_; clear hK K)
  refine wpX_step (fun K hK => ?_); go_simp
  refine ⟨fun u w' => RingNew w2 N.hub.pts u w' ∧ E w', fun w' hw' => ?_, fun u w h => h.2, ?_⟩
  · refine (HR.out w' (hE ⟨w', hw'⟩)).mono ?_
    rintro en w'' ⟨rb', cR', rfl, hr, hf⟩
    exact ⟨_, rfl, ⟨rb', cR', rfl, hr, Fresh.from (hE ⟨w', hw'⟩) hf⟩, hI _ (below_trans (hE ⟨w', hw'⟩) hf.below)⟩
  rintro u y ⟨⟨rb', _, rfl, _, _⟩, _⟩
  refine hK _ _ ?_; clear hK K
  repeat (refine wpX_step (fun K hK => ?_); go_simp; refine hK _ _ ?_; clear hK K)
  refine wpX_nil ?_
  rintro w3 hw3'
  obtain ⟨⟨rb'', cR', hrr, hring', hf3⟩, _⟩ := hw3'
  cases hrr
  have hok3 : Ok w3 ((g2, .cells u2 37 (0, 0)) :: (cR' ++ ((g3, .cells u3 3 (0, 0)) :: (km, .map karr2 kclk2) :: (wm, .map warr1 wclk1) :: (db, .cells #[.int .u64 N.dice] 118 (0, 0)) :: (cH ++ B)))) := (hf3.frame hok2).cnt (by intro x hx; simp at hx ⊢; try grind) (by intro b; simp; try (first | omega | (simp [List.count_cons]; omega)))
  have hs3 := hs02.trans hf3.same
  clear b1 b2 b3 hI hE hnb2 hg12 hx2 hf3 hok2 HR hs02
  have okB3 : Ok w3 B := hok3.cnt (by intro x hx; simp at hx ⊢; try grind) (by intro b; simp; try (first | omega | (simp [List.count_cons]; omega)))
  have q3 : w3.cell? ⟨nb, 3, none⟩ = some (.slice (some ⟨g2, 0, none⟩) 1 k2) := cellOf (okB3.get hBnb) 3
  have qx : w3.cell? ⟨xb, 0, none⟩ = some (.int .i64 0) := cellOf (okB3.get hBx) 0
  have qg : w3.cell? ⟨g2, 0, none⟩ = some (.pointer (some ⟨rb, 0, none⟩)) := by rw [← i2]; exact cellOf (hok3.get (b := g2) (o := .cells u2 37 (0, 0)) (by simp)) 0
  have zg : w3.frozen? ⟨g2, 0, none⟩ = false := frozenOf (hok3.get (b := g2) (o := .cells u2 37 (0, 0)) (by simp)) 0
  go_wp2_with (fail)
  go_region
  have hok4 : Ok (w3.setCell ⟨g2, 0, none⟩ (.pointer (some ⟨rb', 0, none⟩))).drew ((g3, .cells u3 3 (0, 0)) :: ((g2, .cells (u2.setIfInBounds 0 (.pointer (some ⟨rb', 0, none⟩))) 37 (0, 0)) :: (cR' ++ ((km, .map karr2 kclk2) :: (wm, .map warr1 wclk1) :: (db, .cells #[.int .u64 N.dice] 118 (0, 0)) :: (cH ++ B))))) := (hok3.setCell 0 (.pointer (some ⟨rb', 0, none⟩))).drew.cnt (by intro x hx; simp at hx ⊢; try grind) (by intro b; simp; try (first | omega | (simp [List.count_cons]; omega)))
  have hs4 : Same w (w3.setCell ⟨g2, 0, none⟩ (.pointer (some ⟨rb', 0, none⟩))).drew := (hs3.setCell _ _).drew
  have hrow2 := h3.set1 (.pointer (some ⟨rb', 0, none⟩))
  generalize (w3.setCell ⟨g2, 0, none⟩ (.pointer (some ⟨rb', 0, none⟩))).drew = w4 at *
  have okB4 : Ok w4 B := hok4.cnt (by intro x hx; simp at hx ⊢; try grind) (by intro b; simp; try (first | omega | (simp [List.count_cons]; omega)))
  have r4 : w4.cell? ⟨nb, 4, none⟩ = some (.slice (some ⟨g3, 0, none⟩) 1 k3) := cellOf (okB4.get hBnb) 4
  have rx : w4.cell? ⟨xb, 0, none⟩ = some (.int .i64 0) := cellOf (okB4.get hBx) 0
  have rg : w4.cell? ⟨g3, 0, none⟩ = some (.int .i64 N.turn) := by rw [← i3]; exact cellOf (hok4.get (b := g3) (o := .cells u3 3 (0, 0)) (by simp)) 0
  have rz : w4.frozen? ⟨g3, 0, none⟩ = false := frozenOf (hok4.get (b := g3) (o := .cells u3 3 (0, 0)) (by simp)) 0
  have hwk : IntKind.i64.wrap ((N.turn : Int) + 1) = (N.turn : Int) + 1 := IntWalk.i64_in _ (by omega)
  clear q3 qx qg zg hok3 hs3 okB3 okB4 i2
  go_wp2_with (fail)
  go_region
  have hok5 : Ok (w4.setCell ⟨g3, 0, none⟩ (.int .i64 ((N.turn : Int) + 1))).drew ((g3, .cells (u3.setIfInBounds 0 (.int .i64 ((N.turn : Int) + 1))) 3 (0, 0)) :: ((g2, .cells (u2.setIfInBounds 0 (.pointer (some ⟨rb', 0, none⟩))) 37 (0, 0)) :: (cR' ++ ((km, .map karr2 kclk2) :: (wm, .map warr1 wclk1) :: (db, .cells #[.int .u64 N.dice] 118 (0, 0)) :: (cH ++ B))))) := (hok4.setCell 0 (.int .i64 ((N.turn : Int) + 1))).drew
  have hs5 : Same w (w4.setCell ⟨g3, 0, none⟩ (.int .i64 ((N.turn : Int) + 1))).drew := (hs4.setCell _ _).drew
  have hrow3 := h5.set1 (.int .i64 ((N.turn : Int) + 1))
  generalize (w4.setCell ⟨g3, 0, none⟩ (.int .i64 ((N.turn : Int) + 1))).drew = w5 at *
  have HPt := hid (points_any rb' N.hub.pts w5 _ hok5 (hring'.at (fr := (km, .map karr2 kclk2) :: (wm, .map warr1 wclk1) :: (db, .cells #[.int .u64 N.dice] 118 (0, 0)) :: (cH ++ B)) (hok5.tail.tail)) hrok)
  clear r4 rx rg rz hwk hok4 hs4 i3
  go_wp2_with (go_at_call 17; refine HPt.out.mono ?_; rintro en w6 ⟨pv, cp, rfl, hrowp, hok6, hs6, _⟩; obtain ⟨pa, pk, rfl⟩ := hrowp.slice)
  have hG : Ok w6 ((db, diceObj N.dice) :: ((km, .map karr2 kclk2) :: ([] ++ (cp ++ ((g3, .cells (u3.setIfInBounds 0 (.int .i64 ((N.turn : Int) + 1))) 3 (0, 0)) :: (g2, .cells (u2.setIfInBounds 0 (.pointer (some ⟨rb', 0, none⟩))) 37 (0, 0)) :: (cR' ++ ((wm, .map warr1 wclk1) :: (cH ++ B)))))))) := by
    show Ok w6 ((db, .cells #[.int .u64 N.dice] 118 (0, 0)) :: _)
    exact hok6.cnt (by intro x hx; simp at hx ⊢; try grind) (by intro b; simp; try (first | omega | (simp [List.count_cons]; omega)))
  have hs6' := hs5.trans hs6
  clear hok5 hok6 HPt hs5 hs6
  go_loopw [46] (fun q wr => ∃ (j : Nat) (F : Chunk) (known : List ((Int × Nat) × Value)) (karr : Array MapEntry) (kclk dice : Nat), q = .int .i64 j ∧ j ≤ N.hub.pts.length ∧ IsMap encPlace known karr kclk ∧ KnownIn F known ∧ AllZero known ∧
      Ok wr ((db, diceObj dice) :: ((km, .map karr kclk) :: (F ++ (cp ++ ((g3, .cells (u3.setIfInBounds 0 (.int .i64 ((N.turn : Int) + 1))) 3 (0, 0)) :: (g2, .cells (u2.setIfInBounds 0 (.pointer (some ⟨rb', 0, none⟩))) 37 (0, 0)) :: (cR' ++ ((wm, .map warr1 wclk1) :: (cH ++ B)))))))) ∧ Same w wr)
    (fun q _ => N.hub.pts.length - (match q with | .int _ m => m.toNat | _ => 0))
  case atStart => exact ⟨0, [], [], karr2, kclk2, N.dice, rfl, Nat.zero_le _, hm2, (fun kv h => by cases h), (fun kv h => by cases h), hG, hs6'⟩
  case round =>
    clear hG hs6' hm2
    obtain ⟨j, F, known, karr, kclk, dice, rfl, hj, hmk, hkin, haz, hok, hsame⟩ := hrel
    rcases Nat.lt_or_ge j N.hub.pts.length with hlt | hge
    · obtain ⟨x, hx⟩ : ∃ x, N.hub.pts[j]? = some x := ⟨N.hub.pts[j], List.getElem?_eq_getElem hlt⟩
      have hrd : ReadsU wr (.slice pa N.hub.pts.length pk) N.hub.pts := hrowp.reads (fr := (db, diceObj dice) :: ((km, .map karr kclk) :: (F ++ ((g3, .cells (u3.setIfInBounds 0 (.int .i64 ((N.turn : Int) + 1))) 3 (0, 0)) :: (g2, .cells (u2.setIfInBounds 0 (.pointer (some ⟨rb', 0, none⟩))) 37 (0, 0)) :: (cR' ++ ((wm, .map warr1 wclk1) :: (cH ++ B))))))) (hok.cnt (by intro x hx; simp at hx ⊢; try grind) (by intro b; simp; try (first | omega | (simp [List.count_cons]; omega))))
      obtain ⟨pb, off, rfl, hcell⟩ := hrd.cell.2 j x hx
      have hle := hrok.le
      have hwk : IntKind.i64.wrap ((j : Int) + 1) = (j : Int) + 1 := IntWalk.i64_in _ (by omega)
      have hd1 : decide ((j : Int) < (N.hub.pts.length : Int)) = true := by simpa using hlt
      have hd2 : decide (j < N.hub.pts.length) = true := by simpa using hlt
      have hxm : x ∈ N.hub.pts := List.mem_of_getElem? hx
      generalize hG : (F ++ (cp ++ ((g3, .cells (u3.setIfInBounds 0 (.int .i64 ((N.turn : Int) + 1))) 3 (0, 0)) :: (g2, .cells (u2.setIfInBounds 0 (.pointer (some ⟨rb', 0, none⟩))) 37 (0, 0)) :: (cR' ++ ((wm, .map warr1 wclk1) :: (cH ++ B))))) : Chunk) = G at hok
      have HG := hid hG
      have hGB : ∀ {w'}, Ok w' G → Ok w' B := fun {w'} h => by rw [← hG] at h; exact h.cnt (by intro x hx; simp at hx ⊢; try grind) (by intro b; simp; try (first | omega | (simp [List.count_cons]; omega)))
      have hlk := fun w' (h : Ok w' ((db, diceObj dice) :: (km, .map karr kclk) :: G)) => linksOf_any cR' ((km, .map karr kclk) :: (F ++ (cp ++ ((g3, .cells (u3.setIfInBounds 0 (.int .i64 ((N.turn : Int) + 1))) 3 (0, 0)) :: (g2, .cells (u2.setIfInBounds 0 (.pointer (some ⟨rb', 0, none⟩))) 37 (0, 0)) :: ((wm, .map warr1 wclk1) :: (cH ++ B)))))) db dice rb' x N.links N.hub.pts hl w' (by rw [← hG] at h; exact h.cnt (by intro x hx; simp at hx ⊢; try grind) (by intro b; simp; try (first | omega | (simp [List.count_cons]; omega)))) hring' hrok hxm
      have HLk := hid hlk
      clear hG hlk hrd hx hle
      go_wp2_with (fail)
      refine wp_region_y [17, 18] (fun w' => ∃ dO kO cv, Ok w' ((db, dO) :: (km, kO) :: (cv ++ G)) ∧ Same w w') (by kernel_rfl) (by kernel_rfl) ⟨_, _, [], hok.drew, hsame.drew⟩ ?_
      intro E _ hE hI
      have okB : ∀ w' : InD E, Ok w'.val B := fun w' => by
        obtain ⟨_, _, _, h1, _⟩ := hE w'
        exact hGB h1.tail.tail.right
      have b1 : ∀ w' : InD E, w'.val.cell? ⟨nb, 5, none⟩ = some (.map (some km)) := fun w' => cellOf ((okB w').get hBnb) 5
      have b2 : ∀ w' : InD E, w'.val.cell? ⟨nb, 1, none⟩ = some (.int .i64 N.links) := fun w' => cellOf ((okB w').get hBnb) 1
      have b3 : ∀ w' : InD E, w'.val.cell? ⟨nb, 7, none⟩ = some (.pointer (some ⟨db, 0, none⟩)) := fun w' => cellOf ((okB w').get hBnb) 7
      have b4 : ∀ w' : InD E, w'.val.cell? ⟨xb, 0, none⟩ = some (.int .i64 0) := fun w' => cellOf ((okB w').get hBx) 0
      repeat (refine wpX_step (fun K hK => ?_); go_simp; refine hK _ _ ?_; clear hK K)
      refine wpX_step (fun K hK => ?_); go_simp
      refine ⟨fun u w' => LinksAt w G db km (.map karr kclk) u w' ∧ E w', ?_, fun u w h => h.2, ?_⟩
      · refine (HLk.out _ hok.drew).mono ?_
        rintro en w7 ⟨v, cv, l, s', rfl, hrow, _, hlt', hok7, hs7⟩
        have h7' : Ok w7 ((db, diceObj s') :: (km, .map karr kclk) :: (cv ++ G)) := by rw [← HG.out]; exact hok7.cnt (by intro x hx; simp at hx ⊢; try grind) (by intro b; simp; try (first | omega | (simp [List.count_cons]; omega)))
        exact ⟨_, rfl, ⟨cv, l, s', hrow, hlt', h7', hsame.drew.trans hs7⟩, hI _ ⟨_, _, _, h7', hsame.drew.trans hs7⟩⟩
      rintro u y ⟨⟨_, _, _, hrow0, _⟩, _⟩
      obtain ⟨ua, uk, rfl⟩ := hrow0.slice
      clear hrow0
      refine hK _ _ ?_; clear hK K
      refine wpX_step (fun K hK => ?_); go_simp
      refine ⟨fun _ w' => MapNew w G db km known x w' ∧ E w', fun w8 h8 _ => ?_, fun u w h => h.2, ?_⟩
      · obtain ⟨cv, l, s', hrow, hlt', ok8, hs8⟩ := h8
        obtain ⟨karr', kclk', hm', hup⟩ := run_update (P := Tryz.prog) placeLaw Tryz.underlying74 (ok8.get (b := km) (o := .map karr kclk) (by simp)) hmk (0, x) (.slice ua _ uk)
        simp only [encPlace] at hup
        rw [hup]
        have ok9 := (show Ok w8 ((km, .map karr kclk) :: ((db, diceObj s') :: (cv ++ G))) from Ok.perm ok8 (List.Perm.swap _ _ _)).setBlk (.map karr' kclk')
        have ok9' := Ok.perm ok9 (List.Perm.swap _ _ _)
        exact ⟨⟨cv, _, l, s', karr', kclk', hrow.slIn, ⟨_, _, _, rfl⟩, hlt', hm', ok9', hs8.setBlk _ _⟩, hI _ ⟨_, _, _, ok9', hs8.setBlk _ _⟩⟩
      rintro u y ⟨⟨_, _, _, _, _, _, _⟩, _⟩
      refine hK _ _ ?_; clear hK K
      refine wpX_nil ?_
      rintro w9 ⟨⟨cv, v, l, s', karr', kclk', hsl, hbl, hlt', hm', ok9, hs9⟩, _⟩
      have hk9 : KnownIn (cv ++ F) (mput known (0, x) v) := fun kv hkv => by
        rcases mem_mput hkv with h | rfl
        · obtain ⟨z, h1, h2⟩ := hkin kv h
          exact ⟨z, h1.mono (fun y hy => List.mem_append_right _ hy), h2⟩
        · exact ⟨l, hsl.mono (fun y hy => List.mem_append_left _ hy), hlt'⟩
      have ha9 : AllZero (mput known (0, x) v) := fun kv hkv => by
        rcases mem_mput hkv with h | rfl
        · exact haz kv h
        · exact ⟨rfl, hbl⟩
      rw [← HG.out, ← List.append_assoc] at ok9
      clear b1 b2 b3 b4 okB hI hE hok hsame HLk hGB
      go_wp2
      go_roundw
      case rel => exact ⟨j + 1, cv ++ F, _, karr', kclk', s', rfl, hlt, hm', hk9, ha9, ok9, hs9⟩
      case measure => simp; omega
    · obtain rfl : j = N.hub.pts.length := by omega
      have hd1 : decide ((N.hub.pts.length : Int) < (N.hub.pts.length : Int)) = false := by simp
      rw [← HB.out] at hok
      have e3 : ((N.turn + 1 : Nat) : Int) = (N.turn : Int) + 1 := by omega
      rw [← e3] at hrow3 hok
      have hok' : Ok wr ((db, .cells #[.int .u64 dice] 118 (0, 0)) :: _) := hok
      have HF := hid (show AnewPost w fr nb N (.returned (.tuple #[])) wr from ⟨_, F, known, dice, rfl, ⟨_, _, hb, cH, _, _, rb', cR', _, _, km, karr, kclk, wm, warr1, wclk1, db, rfl, h1, h2, hrow2, hring', hrow3, hmk, hm1⟩, hkin, haz, hok'.cnt (by intro x hx; simp at hx ⊢; try grind) (by intro b; simp; try (first | omega | (simp [List.count_cons]; omega))), hsame⟩)
      rw [HP.out] at HF
      clear hok hok' hsame hmk hkin haz hrow2 hrow3 hring' h1 h2 hm1 hrowp HB
      go_wp2
      first | exact done_norm Tryz.results32 HF.out rfl | exact done_ret Tryz.results32 HF.out rfl
end Go.Proofs.YtdllibalmjadhaaGreat
