/- Scans of shelves without entries. A hub, as it lies: its nodes, their shelves and shadows. A hub's nodes that crashed. -/
import Derived.Test.YtdllibalmjadhaaGreatE8

namespace Go.Proofs.YtdllibalmjadhaaGreat
open Go Go.RowKit

set_option maxRecDepth 100000 in
theorem scan_nil (a b : Nat) (w : World) : Calls Tryz.prog 95 #[.pointer none, .agg #[.int .u32 a, .int .u32 b]] w fun en w' => en = .returned (.slice none 0 0) ∧ Below w.heap.size w w' := by
  have hs := hid fun (f : Value) (w : World) => sort_small none f 0 0 (by omega) w
  go_enter Tryz.func95, Tryz.ntmps95
  go_wp2_with (go_at_call 134; refine (hs.out _ _).mono ?_; rintro en w1 ⟨rfl, rfl⟩)
  go_ret
  exact ⟨rfl, alloc_below _ _⟩

set_option maxRecDepth 100000 in
theorem scan_empty (F c fr : Chunk) (sb : Nat) (a b : Nat) (w : World) (hok : Ok w (c ++ fr)) (h : IsShelf F c sb []) : Calls Tryz.prog 95 #[.pointer (some ⟨sb, 0, none⟩), .agg #[.int .u32 a, .int .u32 b]] w fun en w' => en = .returned (.slice none 0 0) ∧ Below w.heap.size w w' := by
  obtain ⟨mb, l, arr, clk, rfl, hm, he, _⟩ := h
  have hl : l = [] := List.length_eq_zero_iff.1 he.length
  subst hl
  have hsb : w.heap[sb]? = some (.cells #[.map (some mb)] 166 (0, 0)) := hok.get (by simp)
  have hmb : w.heap[mb]? = some (.map arr clk) := hok.get (by simp)
  have hs := hid fun (f : Value) (w : World) => sort_small none f 0 0 (by omega) w
  have h0 : ∀ o, (w.alloc o).cell? ⟨sb, 0, none⟩ = some (.map (some mb)) := fun o => stays (alloc_below _ _) (cellOf hsb 0)
  have h1 : ∀ o, (Instr.range 164 (.map (some mb))).run Tryz.prog (w.alloc o) = .ok (.pointer (some ⟨w.heap.size + 1, 0, none⟩)) ((w.alloc o).alloc (.mapIter (some mb) clk #[] clk)) := fun o => by
    have := run_range (P := Tryz.prog) Tryz.underlying164 (holds (alloc_below w o) hmb)
    rwa [World.size_alloc] at this
  have h2 : ∀ o ty, (Instr.next (.pointer (some ⟨w.heap.size + 1, 0, none⟩)) false ty).run Tryz.prog ((w.alloc o).alloc (.mapIter (some mb) clk #[] clk)) = .ok (.tuple #[.bool false]) ((w.alloc o).alloc (.mapIter (some mb) clk #[] clk)) := fun o ty => by
    have hi := heap1 (w.alloc o) (.mapIter (some mb) clk #[] clk)
    rw [World.size_alloc] at hi
    exact run_next_over (P := Tryz.prog) hi (holds (alloc_below _ _) (holds (alloc_below w o) hmb)) (Ranging.start hm) ty
  go_enter Tryz.func95, Tryz.ntmps95
  go_wp2
  refine wp_loop_once ?_
  go_wp2_with (go_at_call 134; refine (hs.out _ _).mono ?_; rintro en w1 ⟨rfl, rfl⟩)
  go_ret
  exact ⟨rfl, below_trans (alloc_below _ _) (alloc_below _ _)⟩
end Go.Proofs.YtdllibalmjadhaaGreat

namespace Go.Proofs.YtdllibalmjadhaaGreat
open Go Go.RowKit

/-- Each key of a map leads to a block of its own, with what lies behind it. -/
def Each (R : Nat → Nat → Chunk → Prop) : Chunk → List (Nat × Value) → Prop
  | c, [] => c = []
  | c, p :: l => ∃ b c1 c2, c = c1 ++ c2 ∧ p.2 = .pointer (some ⟨b, 0, none⟩) ∧ R p.1 b c1 ∧ Each R c2 l

theorem Each.mono {R R' : Nat → Nat → Chunk → Prop} : ∀ {l : List (Nat × Value)} {c : Chunk}, (∀ p ∈ l.map Prod.fst, ∀ b c, R p b c → R' p b c) → Each R c l → Each R' c l
  | [], _, _, h => h
  | p :: l, _, hm, ⟨b, c1, c2, h1, h2, h3, h4⟩ => ⟨b, c1, c2, h1, h2, hm _ (by simp) _ _ h3, Each.mono (fun q hq => hm q (by simp at hq ⊢; exact .inr hq)) h4⟩

/-- One of them taken out, and another one put in. -/
theorem Each.split {R : Nat → Nat → Chunk → Prop} {p : Nat} {v : Value} : ∀ {l : List (Nat × Value)} {c : Chunk}, (l.map Prod.fst).Nodup → Each R c l → mget l p = some v →
    ∃ b x c1 y, v = .pointer (some ⟨b, 0, none⟩) ∧ c = x ++ (c1 ++ y) ∧ R p b c1 ∧ ∀ (R' : Nat → Nat → Chunk → Prop) b' c1', (∀ q ∈ l.map Prod.fst, q ≠ p → ∀ b c, R q b c → R' q b c) → R' p b' c1' → Each R' (x ++ (c1' ++ y)) (mput l p (.pointer (some ⟨b', 0, none⟩)))
  | [], _, _, _, hg => by simp [mget] at hg
  | q :: l, c, hn, ⟨b, c1, c2, h1, h2, h3, h4⟩, hg => by
    simp only [List.map_cons, List.nodup_cons] at hn
    simp only [mget] at hg
    split at hg
    · rename_i hk
      subst hk
      simp only [Option.some.injEq] at hg
      subst hg
      refine ⟨b, [], c1, c2, h2, by simpa using h1, h3, fun R' b' c1' hR hb => ?_⟩
      simp only [mput, if_true]
      exact ⟨b', c1', c2, by simp, rfl, hb, h4.mono fun q hq => hR q (by simp at hq ⊢; exact .inr hq) (fun e => hn.1 (e ▸ hq))⟩
    · rename_i hk
      obtain ⟨b0, x, c1', y, e1, e2, e3, e4⟩ := Each.split hn.2 h4 hg
      refine ⟨b0, c1 ++ x, c1', y, e1, by rw [h1, e2]; simp, e3, fun R' b' c' hR hb => ?_⟩
      simp only [mput, if_neg hk]
      exact ⟨b, c1, x ++ (c' ++ y), by simp, h2, hR _ (by simp) (fun e => hk e.symm) _ _ h3, e4 R' b' c' (fun q hq => hR q (by simp at hq ⊢; exact .inr hq)) hb⟩
theorem Each.push {R : Nat → Nat → Chunk → Prop} {p b : Nat} {c1 : Chunk} (hb : R p b c1) : ∀ {l : List (Nat × Value)} {c : Chunk}, p ∉ l.map Prod.fst → Each R c l → Each R (c ++ c1) (mput l p (.pointer (some ⟨b, 0, none⟩)))
  | [], c, _, h => by
    have : c = [] := h
    subst this
    exact ⟨b, c1, [], by simp, rfl, hb, rfl⟩
  | q :: l, c, hn, ⟨b', x, y, h1, h2, h3, h4⟩ => by
    simp only [List.map_cons, List.mem_cons, not_or] at hn
    simp only [mput, if_neg hn.1]
    exact ⟨b', x, y ++ c1, by rw [h1]; simp, h2, h3, Each.push hb hn.2 h4⟩
theorem Each.ptr {R : Nat → Nat → Chunk → Prop} {p : Nat} : ∀ {l : List (Nat × Value)} {c : Chunk}, Each R c l → p ∈ l.map Prod.fst → ∃ b, mget l p = some (.pointer (some ⟨b, 0, none⟩))
  | [], _, _, h => by simp at h
  | q :: l, _, ⟨b, _, _, _, h2, _, h4⟩, h => by
    simp only [mget]
    split
    · exact ⟨b, by rw [h2]⟩
    · rename_i hk
      simp only [List.map_cons, List.mem_cons] at h
      exact Each.ptr h4 (h.resolve_left hk)

/-- A shadow: a shelf for each owner that it has. -/
def IsShadow (F c : Chunk) (db : Nat) (f : Nat → List Ent) : Prop := ∃ mb l arr clk cx, c = (db, .cells #[.map (some mb)] 184 (0, 0)) :: (mb, .map arr clk) :: cx ∧ IsMap encName l arr clk ∧ Each (fun q sb c1 => IsShelf F c1 sb (f q)) cx l ∧ ∀ q, q ∉ l.map Prod.fst → f q = []
theorem IsShadow.mono {F F' c : Chunk} {db : Nat} {f : Nat → List Ent} (hF : ∀ x, x ∈ F → x ∈ F') (h : IsShadow F c db f) : IsShadow F' c db f := by
  obtain ⟨mb, l, arr, clk, cx, h1, h2, h3, h4⟩ := h
  exact ⟨mb, l, arr, clk, cx, h1, h2, h3.mono fun _ _ _ _ h => h.mono hF, h4⟩
theorem IsShadow.new (db mb : Nat) : IsShadow [] [(db, .cells #[.map (some mb)] 184 (0, 0)), (mb, .map #[] 0)] db fun _ => [] :=
  ⟨mb, [], #[], 0, [], rfl, IsMap.empty _, rfl, fun _ _ => rfl⟩

/-- A node. -/
def IsNode (F c : Chunk) (xb : Nat) (dead : Bool) (es : List Ent) (f : Nat → List Ent) : Prop := ∃ sb db cs cd, c = (xb, .cells #[.bool dead, .int .i64 0, .pointer (some ⟨sb, 0, none⟩), .pointer (some ⟨db, 0, none⟩)] 127 (0, 0)) :: (cs ++ cd) ∧ IsShelf F cs sb es ∧ IsShadow F cd db f
theorem IsNode.mono {F F' c : Chunk} {xb : Nat} {dead : Bool} {es : List Ent} {f : Nat → List Ent} (hF : ∀ x, x ∈ F → x ∈ F') (h : IsNode F c xb dead es f) : IsNode F' c xb dead es f := by
  obtain ⟨sb, db, cs, cd, h1, h2, h3⟩ := h
  exact ⟨sb, db, cs, cd, h1, h2.mono hF, h3.mono hF⟩

/-- What a hub is. -/
structure HubS where
  reps : Nat
  pts : List Nat
  dead : Nat → Bool
  sh : Nat → List Ent
  sd : Nat → Nat → List Ent
def HubS.node (H : HubS) (F : Chunk) (p xb : Nat) (c : Chunk) : Prop := IsNode F c xb (H.dead p) (H.sh p) (H.sd p)

/-- A hub, as it lies: what is known of it but its nodes. -/
structure HubIs (F c : Chunk) (hb : Nat) (H : HubS) (rb mb : Nat) (arr : Array MapEntry) (clk : Nat) (l : List (Nat × Value)) (cr cn : Chunk) : Prop where
  chunk : c = (hb, .cells #[.int .i64 H.reps, .pointer (some ⟨rb, 0, none⟩), .map (some mb), .slice none 0 0] 90 (0, 0)) :: (mb, .map arr clk) :: (cr ++ cn)
  ring : IsRing cr rb H.pts
  ok : RingOk H.pts
  map : IsMap encName l arr clk
  nodes : Each (H.node F) cn l
  keys : ∀ p, p ∈ l.map Prod.fst ↔ p ∈ H.pts
  reps : 1 ≤ H.reps ∧ H.reps ≤ 4
def IsHub (F c : Chunk) (hb : Nat) (H : HubS) : Prop := ∃ rb mb arr clk l cr cn, HubIs F c hb H rb mb arr clk l cr cn

section
variable {F c fr cr cn : Chunk} {hb : Nat} {H : HubS} {rb mb : Nat} {arr : Array MapEntry} {clk : Nat} {l : List (Nat × Value)} {w : World}
theorem HubIs.get (h : HubIs F c hb H rb mb arr clk l cr cn) (hok : Ok w (c ++ fr)) : w.heap[hb]? = some (.cells #[.int .i64 H.reps, .pointer (some ⟨rb, 0, none⟩), .map (some mb), .slice none 0 0] 90 (0, 0)) := by
  have := h.chunk; subst this; exact hok.get (by simp)
theorem HubIs.mapAt (h : HubIs F c hb H rb mb arr clk l cr cn) (hok : Ok w (c ++ fr)) : w.heap[mb]? = some (.map arr clk) := by
  have := h.chunk; subst this; exact hok.get (by simp)
theorem HubIs.at (h : HubIs F c hb H rb mb arr clk l cr cn) (hok : Ok w (c ++ fr)) : HubAt w hb l :=
  ⟨mb, arr, clk, cellOf (h.get hok) 2, h.mapAt hok, h.map⟩
theorem HubIs.ringAt (h : HubIs F c hb H rb mb arr clk l cr cn) (hok : Ok w (c ++ fr)) : RingAt w rb H.pts := by
  have := h.chunk
  subst this
  refine h.ring.at (fr := []) (hok.sublist ?_)
  simp only [List.append_nil, List.cons_append, List.append_assoc]
  exact ((List.sublist_append_left _ _).cons _).cons _
theorem HubIs.out (h : HubIs F c hb H rb mb arr clk l cr cn) {p : Nat} (hp : p ∉ H.pts) : mget l p = none := mget_none.2 fun h' => hp ((h.keys p).1 h')
/-- A node, and what is around it. -/
theorem HubIs.split (h : HubIs F c hb H rb mb arr clk l cr cn) {p : Nat} (hp : p ∈ H.pts) : ∃ xb x c1 y, mget l p = some (.pointer (some ⟨xb, 0, none⟩)) ∧ cn = x ++ (c1 ++ y) ∧ H.node F p xb c1 ∧
    ∀ (R' : Nat → Nat → Chunk → Prop) b' c1', (∀ q ∈ l.map Prod.fst, q ≠ p → ∀ b c, H.node F q b c → R' q b c) → R' p b' c1' → Each R' (x ++ (c1' ++ y)) (mput l p (.pointer (some ⟨b', 0, none⟩))) := by
  obtain ⟨b, hb⟩ := h.nodes.ptr ((h.keys p).2 hp)
  obtain ⟨b', x, c1, y, e1, e2, e3, e4⟩ := h.nodes.split h.map.nd hb
  cases e1
  exact ⟨b, x, c1, y, hb, e2, e3, e4⟩
end

/-- Whether there is a node that is alive. -/
def HubS.lives (H : HubS) (p : Nat) : Bool := decide (p ∈ H.pts) && !H.dead p

theorem Alive_any (F c fr : Chunk) (hb : Nat) (H : HubS) (p : Nat) (w : World) (hok : Ok w (c ++ fr)) (h : IsHub F c hb H) : Calls Tryz.prog 25 #[.pointer (some ⟨hb, 0, none⟩), .int .u32 p] w fun en w' => en = .returned (.bool (H.lives p)) ∧ w = w' := by
  obtain ⟨rb, mb, arr, clk, l, cr, cn, h⟩ := h
  have hat := h.at hok
  by_cases hp : p ∈ H.pts
  · obtain ⟨xb, x, c1, y, hg, e2, ⟨sb, db, cs, cd, e3, _⟩, _⟩ := h.split hp
    have hd : w.cell? ⟨xb, 0, none⟩ = some (.bool (H.dead p)) := by
      have h1 := h.chunk
      subst h1; subst e2; subst e3
      exact cellOf (hok.get (b := xb) (o := .cells #[.bool (H.dead p), .int .i64 0, .pointer (some ⟨sb, 0, none⟩), .pointer (some ⟨db, 0, none⟩)] 127 (0, 0)) (by simp)) 0
    have HC := hid (alive_some hb p xb (H.dead p) l w hat hg hd)
    have hl : H.lives p = !H.dead p := by simp [HubS.lives, hp]
    rw [hl]
    clear hat hg hd hl
    cases hdd : H.dead p with
    | false =>
      rw [hdd] at HC
      go_enter Tryz.func25, Tryz.ntmps25
      go_wp2_with (go_at_call 48; refine HC.out.mono ?_; rintro en w1 ⟨rfl, rfl⟩; simp only [Bool.false_eq_true, if_false])
      go_ret
      exact ⟨rfl, rfl⟩
    | true =>
      rw [hdd] at HC
      go_enter Tryz.func25, Tryz.ntmps25
      go_wp2_with (go_at_call 48; refine HC.out.mono ?_; rintro en w1 ⟨rfl, rfl⟩; simp only [if_true])
      go_ret
      exact ⟨rfl, rfl⟩
  · have HC := hid (alive_none hb p l w hat (h.out hp))
    have hl : H.lives p = false := by simp [HubS.lives, hp]
    rw [hl]
    clear hat hl
    go_enter Tryz.func25, Tryz.ntmps25
    go_wp2_with (go_at_call 48; refine HC.out.mono ?_; rintro en w1 ⟨rfl, rfl⟩)
    go_ret
    exact ⟨rfl, rfl⟩

theorem hubRing_any (F c fr : Chunk) (hb : Nat) (H : HubS) (w : World) (hok : Ok w (c ++ fr)) (h : IsHub F c hb H) : Calls Tryz.prog 12 #[.pointer (some ⟨hb, 0, none⟩)] w fun en w' => ∃ rb' cr', en = .returned (.pointer (some ⟨rb', 0, none⟩)) ∧ IsRing cr' rb' H.pts ∧ Fresh w w' cr' := by
  obtain ⟨rb, mb, arr, clk, l, cr, cn, h⟩ := h
  have h1 : w.cell? ⟨hb, 1, none⟩ = some (.pointer (some ⟨rb, 0, none⟩)) := cellOf (h.get hok) 1
  have HC := hid (ringFork_any rb H.pts w _ (Ok.all w) (h.ringAt hok) h.ok)
  clear hok h
  go_enter Tryz.func12, Tryz.ntmps12
  go_wp2_with (go_at_call 34; refine HC.out.mono ?_; rintro en w1 ⟨rb', cr', rfl, hr, ho, hs, _⟩)
  go_ret
  exact ⟨_, _, rfl, hr, ⟨ho, hs⟩⟩
theorem hubRing_nil (w : World) : Calls Tryz.prog 12 #[.pointer none] w fun en w' => en = .returned (.pointer none) ∧ w = w' := by
  go_enter Tryz.func12, Tryz.ntmps12
  go_wp2
  go_ret
  exact ⟨rfl, rfl⟩

theorem hubNew_any (reps : Nat) (hr : 1 ≤ reps ∧ reps ≤ 4) (w : World) : Calls Tryz.prog 28 #[.int .i64 reps] w fun en w' => ∃ hb c, en = .returned (.tuple #[.pointer (some ⟨hb, 0, none⟩), .int .i64 0]) ∧ IsHub [] c hb ⟨reps, [], fun _ => false, fun _ => [], fun _ _ => []⟩ ∧ Fresh w w' c := by
  have hmm := @run_makeMap Tryz.prog
  have d1 : decide ((reps : Int) < 1) = false := by simp; omega
  have d2 : decide ((4 : Int) < (reps : Int)) = false := by simp; omega
  go_enter Tryz.func28, Tryz.ntmps28
  go_wp2_with (go_at_call 53; refine (ringNew_any _).mono ?_; rintro en w1 ⟨rfl, rfl⟩)
  refine bodyPost_ret (v := .tuple #[.pointer (some ⟨w.heap.size + 2, 0, none⟩), .int .i64 0]) (by simp only [results, Tryz.results28]; go_simp) rfl ⟨_, _, rfl, ⟨w.heap.size, w.heap.size + 1, #[], 0, [], [(w.heap.size, .cells #[.slice none 0 0] 92 (0, 0))], [], ⟨rfl, ⟨_, _, rfl, Row.nil _ _⟩, ⟨by simp, by simp, by simp⟩, IsMap.empty _, rfl, by simp, hr⟩⟩, ?_⟩
  have hF := (((Fresh.refl w).push (.cells #[.slice none 0 0] 92 (0, 0))).push (.map #[] 0)).push (.cells #[.int .i64 reps, .pointer (some ⟨w.heap.size, 0, none⟩), .map (some (w.heap.size + 1)), .slice none 0 0] 90 (0, 0))
  exact hF.sub (by simp)
end Go.Proofs.YtdllibalmjadhaaGreat

namespace Go.Proofs.YtdllibalmjadhaaGreat
open Go Go.RowKit

/-- Where a node lies, if it is alive. -/
theorem alive_bool (F c fr : Chunk) (hb : Nat) (H : HubS) (p : Nat) (w : World) (hok : Ok w (c ++ fr)) (h : IsHub F c hb H) : Calls Tryz.prog 48 #[.pointer (some ⟨hb, 0, none⟩), .int .u32 p] w fun en w' =>
    w = w' ∧ ((H.lives p = true ∧ ∃ xb, en = .returned (.pointer (some ⟨xb, 0, none⟩))) ∨ (H.lives p = false ∧ en = .returned (.pointer none))) := by
  obtain ⟨rb, mb, arr, clk, l, cr, cn, h⟩ := h
  have hat := h.at hok
  by_cases hp : p ∈ H.pts
  · obtain ⟨xb, x, c1, y, hg, e2, ⟨sb, db, cs, cd, e3, _⟩, _⟩ := h.split hp
    have hd : w.cell? ⟨xb, 0, none⟩ = some (.bool (H.dead p)) := by
      have h1 := h.chunk
      subst h1; subst e2; subst e3
      exact cellOf (hok.get (b := xb) (o := .cells #[.bool (H.dead p), .int .i64 0, .pointer (some ⟨sb, 0, none⟩), .pointer (some ⟨db, 0, none⟩)] 127 (0, 0)) (by simp)) 0
    refine (alive_some hb p xb (H.dead p) l w hat hg hd).mono ?_
    rintro en w' ⟨rfl, rfl⟩
    refine ⟨rfl, ?_⟩
    cases hdd : H.dead p with
    | false => exact .inl ⟨by simp [HubS.lives, hp, hdd], xb, by simp⟩
    | true => exact .inr ⟨by simp [HubS.lives, hdd], by simp⟩
  · refine (alive_none hb p l w hat (h.out hp)).mono ?_
    rintro en w' ⟨rfl, rfl⟩
    exact ⟨rfl, .inr ⟨by simp [HubS.lives, hp], rfl⟩⟩

def HubS.deads (H : HubS) (l : List Nat) : List Nat := l.filter fun p => !H.lives p
theorem HubS.deads_step (H : HubS) (l : List Nat) (i p : Nat) (h : l[i]? = some p) : H.deads (l.take (i + 1)) = if H.lives p then H.deads (l.take i) else H.deads (l.take i) ++ [p] := by
  have : l.take (i + 1) = l.take i ++ [p] := by rw [List.take_add_one, h]; rfl
  rw [this]
  simp only [HubS.deads, List.filter_append, List.filter_cons, List.filter_nil]
  cases H.lives p <;> simp
theorem HubS.deads_length (H : HubS) (l : List Nat) : (H.deads l).length ≤ l.length := List.length_filter_le ..

/-- A row of points, read. -/
theorem ReadsU.cell {w : World} {a : Option Addr} {n cap : Nat} {l : List Nat} (h : ReadsU w (.slice a n cap) l) : n = l.length ∧ ∀ i x, l[i]? = some x → ∃ b off, a = some ⟨b, off, none⟩ ∧ w.cell? ⟨b, off + i, none⟩ = some (.int .u32 (x : Nat)) := by
  rcases h with ⟨hv, hl⟩ | ⟨b, off, cap', hv, _, hc⟩
  · subst hl
    cases hv
    exact ⟨rfl, fun i x hx => by simp at hx⟩
  · cases hv
    exact ⟨rfl, fun i x hx => ⟨b, off, rfl, hc i x hx⟩⟩

set_option maxHeartbeats 1000000 in
set_option maxRecDepth 100000 in
theorem dead_any (F c fr : Chunk) (hb : Nat) (H : HubS) (w : World) (hok : Ok w (c ++ fr)) (h : IsHub F c hb H) : Calls Tryz.prog 24 #[.pointer (some ⟨hb, 0, none⟩)] w fun en w' =>
    ∃ v cv, en = .returned v ∧ Row 23 1 cv v (H.deads H.pts).length (u32s (H.deads H.pts)) ∧ Fresh w w' cv := by
  obtain ⟨i, hi, hz0, hz1, hz2⟩ := info_parts info_u32
  have HI := hid (And.intro hi (And.intro hz0 (And.intro hz1 hz2)))
  clear hi hz0 hz1 hz2
  have hlive : ∀ (w' : World) (p : Nat), Below w.heap.size w w' → Calls Tryz.prog 48 #[.pointer (some ⟨hb, 0, none⟩), .int .u32 p] w' fun en w'' => w' = w'' ∧ ((H.lives p = true ∧ ∃ xb, en = .returned (.pointer (some ⟨xb, 0, none⟩))) ∨ (H.lives p = false ∧ en = .returned (.pointer none))) :=
    fun w' p hb' => alive_bool F c fr hb H p w' (hok.below hb') h
  obtain ⟨rb, mb, arr, clk, l, cr, cn, h⟩ := h
  have h1 : w.cell? ⟨hb, 1, none⟩ = some (.pointer (some ⟨rb, 0, none⟩)) := cellOf (h.get hok) 1
  have HP := hid (points_any rb H.pts w _ (Ok.all w) (h.ringAt hok) h.ok)
  have hle := h.ok.le
  have HL := hid hlive
  clear hlive hok h
  generalize H.pts = pts at *
  go_enter Tryz.func24, Tryz.ntmps24
  go_wp2_with (go_at_call 17; refine HP.out.mono ?_; rintro en w1 ⟨v, cp, rfl, hrow, ho, hs, hbl⟩; obtain ⟨a, cap, rfl⟩ := hrow.slice)
  clear h1
  go_loopw [3, 14] (fun v q wr => ∃ (k : Nat) (c : Chunk), q = .int .i64 k ∧ k ≤ pts.length ∧ Row 23 1 c v (H.deads (pts.take k)).length (u32s (H.deads (pts.take k))) ∧ Fresh w wr (c ++ cp))
    (fun _ q _ => pts.length - (match q with | .int _ m => m.toNat | _ => 0))
  case atStart => exact ⟨0, [], rfl, Nat.zero_le _, Row.nil _ _, ⟨ho, hs⟩⟩
  case round =>
    obtain ⟨k, c, rfl, hk, hrow', hfr⟩ := hrel
    have hrd : ReadsU wr (.slice a pts.length cap) pts := hrow.reads (fr := []) (hfr.ok.sublist (by simp))
    have hok1 : Ok wr (c ++ (cp ++ allOf w)) := by simpa using hfr.ok
    obtain ⟨a1, cap1, rfl⟩ := hrow'.slice
    rcases Nat.lt_or_ge k pts.length with hlt | hge
    · obtain ⟨x, hx⟩ : ∃ x, pts[k]? = some x := ⟨pts[k], List.getElem?_eq_getElem hlt⟩
      obtain ⟨b, off, rfl, hcell⟩ := hrd.cell.2 k x hx
      have hstep := H.deads_step pts k x hx
      have hdl := H.deads_length (pts.take k)
      rw [List.length_take, Nat.min_eq_left hk] at hdl
      have hl1 := HL.out wr x hfr.below
      have hwk : IntKind.i64.wrap ((k : Int) + 1) = (k : Int) + 1 := IntWalk.i64_in _ (by omega)
      have hd1 : decide ((k : Int) < (pts.length : Int)) = true := by simpa using hlt
      have hd2 : decide (k < pts.length) = true := by simpa using hlt
      have HX := hid (And.intro hx (And.intro hrow' (And.intro hfr (And.intro hok1 (And.intro hrd hrow)))))
      clear hx hrow' hfr hok1 hrd hrow hk
      cases hv : H.lives x with
      | true =>
        rw [hv] at hl1 hstep
        have HA := hid hl1
        have HS := hid hstep
        clear hl1 hstep
        go_wp2_with (go_at_call 48; refine HA.out.mono ?_; rintro en w2 ⟨rfl, ⟨_, xb, rfl⟩ | ⟨h, _⟩⟩)
        go_roundw
        case rel =>
          obtain ⟨hx, hrow', hfr, _⟩ := HX.out
          refine ⟨k + 1, c, rfl, hlt, ?_, hfr⟩
          have e : H.deads (pts.take (k + 1)) = H.deads (pts.take k) := by simpa using HS.out
          rw [e]; exact hrow'
        case measure => simp; omega
      | false =>
        rw [hv] at hl1 hstep
        have HA := hid hl1
        obtain ⟨hx, hrow', hfr, hok1, hrd, hrow⟩ := HX.out
        obtain ⟨hi, hz0, hz1, hz2⟩ := HI.out
        generalize hacc : H.deads (pts.take k) = acc at *
        obtain ⟨v', w2, c', hap, hrow2, hfr', hs', hg, hnil⟩ := row_append (P := Tryz.prog) (w := wr.alloc (.cells #[.int .u32 x] 23)) (hok1.keep _) hrow' 22 22 i (.int .u32 0) 4 Tryz.underlying22 hi hz0 hz1 hz2 rfl (by decide)
          ⟨wr.heap.size, 0, none⟩ 1 1 [.int .u32 x] rfl (cell_one_new _ _ _) (by simp [Value.oneCell']) (by unfold maxLen; omega) (by omega)
        have hfr2 : Fresh w w2 (c' ++ cp) := ⟨by simpa using hfr', (hfr.same.alloc _).trans hs'⟩
        have HAP := hid hap
        have hrow3 : Row 23 1 c' v' (H.deads (pts.take (k + 1))).length (u32s (H.deads (pts.take (k + 1)))) := by
          have e : H.deads (pts.take (k + 1)) = acc ++ [x] := by simpa using hstep
          rw [e]; simpa [u32s] using hrow2
        have HR := hid (And.intro hrow3 hfr2)
        clear hl1 hstep hap hrow2 hrow3 hfr' hs' hg hnil hfr2 hi hz0 hz1 hz2 hx hrow' hfr hok1 hrd hrow
        go_wp2_with (first | (go_at_call 48; refine HA.out.mono ?_; rintro en w3 ⟨rfl, ⟨h, _⟩ | ⟨_, rfl⟩⟩) | (at_builtin; refine wpList_app rfl _ _ _ _ rfl rfl rfl HAP.out ?_))
        go_roundw
        case rel => exact ⟨k + 1, c', rfl, hlt, HR.out.1, HR.out.2⟩
        case measure => simp; omega
    · have hkk : k = pts.length := by omega
      subst hkk
      rw [List.take_length] at *
      have hd1 : decide ((pts.length : Int) < (pts.length : Int)) = false := by simp
      have hd2 : decide (pts.length < pts.length) = false := by simp
      have HX := hid (And.intro hrow' (And.intro hfr (And.intro hok1 (And.intro hrd hrow))))
      clear hrow' hfr hok1 hrd hrow
      go_wp2
      go_ret
      exact ⟨_, c, rfl, HX.out.1, HX.out.2.1.sub (by simp)⟩
end Go.Proofs.YtdllibalmjadhaaGreat
