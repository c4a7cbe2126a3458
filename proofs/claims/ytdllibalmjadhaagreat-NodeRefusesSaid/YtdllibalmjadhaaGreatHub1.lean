/- A hub, as it lies: its nodes, their shelves and shadows. -/
import Derived.Test.YtdllibalmjadhaaGreatScan
namespace Go.Proofs.YtdllibalmjadhaaGreat
open Go Go.RowKit

/-- Each key of a map leads to a block of its own, with what lies behind it. -/
def Each (R : Nat → Nat → Chunk → Prop) : Chunk → List (Nat × Value) → Prop
  | c, [] => c = []
  | c, p :: l => ∃ b c1 c2, c = c1 ++ c2 ∧ p.2 = .pointer (some ⟨b, 0, none⟩) ∧ R p.1 b c1 ∧ Each R c2 l

theorem Each.mono {R R' : Nat → Nat → Chunk → Prop} : ∀ {l : List (Nat × Value)} {c : Chunk}, (∀ p ∈ l.map Prod.fst, ∀ b c, R p b c → R' p b c) → Each R c l → Each R' c l
  | [], _, _, h => h
  | p :: l, _, hm, ⟨b, c1, c2, h1, h2, h3, h4⟩ => ⟨b, c1, c2, h1, h2, hm _ (by simp) _ _ h3, Each.mono (fun q hq => hm q (by simp at hq ⊢; exact .inr hq)) h4⟩

/-- One of them taken out, and another one put in. -/
theorem Each.split {R : Nat → Nat → Chunk → Prop} {p : Nat} {v : Value} : ∀ {l : List (Nat × Value)} {c : Chunk}, (l.map Prod.fst).Nodup → Each R c l → mget l p = some v →
    ∃ b x c1 y, v = .pointer (some ⟨b, 0, none⟩) ∧ c = x ++ (c1 ++ y) ∧ R p b c1 ∧ ∀ (R' : Nat → Nat → Chunk → Prop) b' c1', (∀ q ∈ l.map Prod.fst, q ≠ p → ∀ b c, R q b c → R' q b c) → R' p b' c1' → Each R' (x ++ (c1' ++ y)) (mput l p (.pointer (some ⟨b', 0, none⟩)))
  | [], _, _, _, hg => by simp [mget] at hg
  | q :: l, c, hn, ⟨b, c1, c2, h1, h2, h3, h4⟩, hg => by
    simp only [List.map_cons, List.nodup_cons] at hn
    simp only [mget] at hg
    split at hg
    · rename_i hk
      subst hk
      simp only [Option.some.injEq] at hg
      subst hg
      refine ⟨b, [], c1, c2, h2, by simpa using h1, h3, fun R' b' c1' hR hb => ?_⟩
      simp only [mput, if_true]
      exact ⟨b', c1', c2, by simp, rfl, hb, h4.mono fun q hq => hR q (by simp at hq ⊢; exact .inr hq) (fun e => hn.1 (e ▸ hq))⟩
    · rename_i hk
      obtain ⟨b0, x, c1', y, e1, e2, e3, e4⟩ := Each.split hn.2 h4 hg
      refine ⟨b0, c1 ++ x, c1', y, e1, by rw [h1, e2]; simp, e3, fun R' b' c' hR hb => ?_⟩
      simp only [mput, if_neg hk]
      exact ⟨b, c1, x ++ (c' ++ y), by simp, h2, hR _ (by simp) (fun e => hk e.symm) _ _ h3, e4 R' b' c' (fun q hq => hR q (by simp at hq ⊢; exact .inr hq)) hb⟩
theorem Each.push {R : Nat → Nat → Chunk → Prop} {p b : Nat} {c1 : Chunk} (hb : R p b c1) : ∀ {l : List (Nat × Value)} {c : Chunk}, p ∉ l.map Prod.fst → Each R c l → Each R (c ++ c1) (mput l p (.pointer (some ⟨b, 0, none⟩)))
  | [], c, _, h => by
    have : c = [] := h
    subst this
    exact ⟨b, c1, [], by simp, rfl, hb, rfl⟩
  | q :: l, c, hn, ⟨b', x, y, h1, h2, h3, h4⟩ => by
    simp only [List.map_cons, List.mem_cons, not_or] at hn
    simp only [mput, if_neg hn.1]
    exact ⟨b', x, y ++ c1, by rw [h1]; simp, h2, h3, Each.push hb hn.2 h4⟩
theorem Each.ptr {R : Nat → Nat → Chunk → Prop} {p : Nat} : ∀ {l : List (Nat × Value)} {c : Chunk}, Each R c l → p ∈ l.map Prod.fst → ∃ b, mget l p = some (.pointer (some ⟨b, 0, none⟩))
  | [], _, _, h => by simp at h
  | q :: l, _, ⟨b, _, _, _, h2, _, h4⟩, h => by
    simp only [mget]
    split
    · exact ⟨b, by rw [h2]⟩
    · rename_i hk
      simp only [List.map_cons, List.mem_cons] at h
      exact Each.ptr h4 (h.resolve_left hk)

/-- A shadow: a shelf for each owner that it has. -/
def IsShadow (F c : Chunk) (db : Nat) (f : Nat → List Ent) : Prop := ∃ mb l arr clk cx, c = (db, .cells #[.map (some mb)] 184 (0, 0)) :: (mb, .map arr clk) :: cx ∧ IsMap encName l arr clk ∧ Each (fun q sb c1 => IsShelf F c1 sb (f q)) cx l ∧ ∀ q, q ∉ l.map Prod.fst → f q = []
theorem IsShadow.mono {F F' c : Chunk} {db : Nat} {f : Nat → List Ent} (hF : ∀ x, x ∈ F → x ∈ F') (h : IsShadow F c db f) : IsShadow F' c db f := by
  obtain ⟨mb, l, arr, clk, cx, h1, h2, h3, h4⟩ := h
  exact ⟨mb, l, arr, clk, cx, h1, h2, h3.mono fun _ _ _ _ h => h.mono hF, h4⟩
theorem IsShadow.new (db mb : Nat) : IsShadow [] [(db, .cells #[.map (some mb)] 184 (0, 0)), (mb, .map #[] 0)] db fun _ => [] :=
  ⟨mb, [], #[], 0, [], rfl, IsMap.empty _, rfl, fun _ _ => rfl⟩

/-- A node. -/
def IsNode (F c : Chunk) (xb : Nat) (dead : Bool) (es : List Ent) (f : Nat → List Ent) : Prop := ∃ sb db cs cd, c = (xb, .cells #[.bool dead, .int .i64 0, .pointer (some ⟨sb, 0, none⟩), .pointer (some ⟨db, 0, none⟩)] 127 (0, 0)) :: (cs ++ cd) ∧ IsShelf F cs sb es ∧ IsShadow F cd db f
theorem IsNode.mono {F F' c : Chunk} {xb : Nat} {dead : Bool} {es : List Ent} {f : Nat → List Ent} (hF : ∀ x, x ∈ F → x ∈ F') (h : IsNode F c xb dead es f) : IsNode F' c xb dead es f := by
  obtain ⟨sb, db, cs, cd, h1, h2, h3⟩ := h
  exact ⟨sb, db, cs, cd, h1, h2.mono hF, h3.mono hF⟩

/-- What a hub is. -/
structure HubS where
  reps : Nat
  pts : List Nat
  dead : Nat → Bool
  sh : Nat → List Ent
  sd : Nat → Nat → List Ent
def HubS.node (H : HubS) (F : Chunk) (p xb : Nat) (c : Chunk) : Prop := IsNode F c xb (H.dead p) (H.sh p) (H.sd p)

/-- A hub, as it lies: what is known of it but its nodes. -/
structure HubIs (F c : Chunk) (hb : Nat) (H : HubS) (rb mb : Nat) (arr : Array MapEntry) (clk : Nat) (l : List (Nat × Value)) (cr cn : Chunk) : Prop where
  chunk : c = (hb, .cells #[.int .i64 H.reps, .pointer (some ⟨rb, 0, none⟩), .map (some mb), .slice none 0 0] 90 (0, 0)) :: (mb, .map arr clk) :: (cr ++ cn)
  ring : IsRing cr rb H.pts
  ok : RingOk H.pts
  map : IsMap encName l arr clk
  nodes : Each (H.node F) cn l
  keys : ∀ p, p ∈ l.map Prod.fst ↔ p ∈ H.pts
  reps : 1 ≤ H.reps ∧ H.reps ≤ 4
def IsHub (F c : Chunk) (hb : Nat) (H : HubS) : Prop := ∃ rb mb arr clk l cr cn, HubIs F c hb H rb mb arr clk l cr cn

section
variable {F c fr cr cn : Chunk} {hb : Nat} {H : HubS} {rb mb : Nat} {arr : Array MapEntry} {clk : Nat} {l : List (Nat × Value)} {w : World}
theorem HubIs.get (h : HubIs F c hb H rb mb arr clk l cr cn) (hok : Ok w (c ++ fr)) : w.heap[hb]? = some (.cells #[.int .i64 H.reps, .pointer (some ⟨rb, 0, none⟩), .map (some mb), .slice none 0 0] 90 (0, 0)) := by
  have := h.chunk; subst this; exact hok.get (by simp)
theorem HubIs.mapAt (h : HubIs F c hb H rb mb arr clk l cr cn) (hok : Ok w (c ++ fr)) : w.heap[mb]? = some (.map arr clk) := by
  have := h.chunk; subst this; exact hok.get (by simp)
theorem HubIs.at (h : HubIs F c hb H rb mb arr clk l cr cn) (hok : Ok w (c ++ fr)) : HubAt w hb l :=
  ⟨mb, arr, clk, cellOf (h.get hok) 2, h.mapAt hok, h.map⟩
theorem HubIs.ringAt (h : HubIs F c hb H rb mb arr clk l cr cn) (hok : Ok w (c ++ fr)) : RingAt w rb H.pts := by
  have := h.chunk
  subst this
  refine h.ring.at (fr := []) (hok.sublist ?_)
  simp only [List.append_nil, List.cons_append, List.append_assoc]
  exact ((List.sublist_append_left _ _).cons _).cons _
theorem HubIs.out (h : HubIs F c hb H rb mb arr clk l cr cn) {p : Nat} (hp : p ∉ H.pts) : mget l p = none := mget_none.2 fun h' => hp ((h.keys p).1 h')
/-- A node, and what is around it. -/
theorem HubIs.split (h : HubIs F c hb H rb mb arr clk l cr cn) {p : Nat} (hp : p ∈ H.pts) : ∃ xb x c1 y, mget l p = some (.pointer (some ⟨xb, 0, none⟩)) ∧ cn = x ++ (c1 ++ y) ∧ H.node F p xb c1 ∧
    ∀ (R' : Nat → Nat → Chunk → Prop) b' c1', (∀ q ∈ l.map Prod.fst, q ≠ p → ∀ b c, H.node F q b c → R' q b c) → R' p b' c1' → Each R' (x ++ (c1' ++ y)) (mput l p (.pointer (some ⟨b', 0, none⟩))) := by
  obtain ⟨b, hb⟩ := h.nodes.ptr ((h.keys p).2 hp)
  obtain ⟨b', x, c1, y, e1, e2, e3, e4⟩ := h.nodes.split h.map.nd hb
  cases e1
  exact ⟨b, x, c1, y, hb, e2, e3, e4⟩
end

/-- Whether there is a node that is alive. -/
def HubS.lives (H : HubS) (p : Nat) : Bool := decide (p ∈ H.pts) && !H.dead p

theorem Alive_any (F c fr : Chunk) (hb : Nat) (H : HubS) (p : Nat) (w : World) (hok : Ok w (c ++ fr)) (h : IsHub F c hb H) : Calls Tryz.prog 25 #[.pointer (some ⟨hb, 0, none⟩), .int .u32 p] w fun en w' => en = .returned (.bool (H.lives p)) ∧ w = w' := by
  obtain ⟨rb, mb, arr, clk, l, cr, cn, h⟩ := h
  have hat := h.at hok
  by_cases hp : p ∈ H.pts
  · obtain ⟨xb, x, c1, y, hg, e2, ⟨sb, db, cs, cd, e3, _⟩, _⟩ := h.split hp
    have hd : w.cell? ⟨xb, 0, none⟩ = some (.bool (H.dead p)) := by
      have h1 := h.chunk
      subst h1; subst e2; subst e3
      exact cellOf (hok.get (b := xb) (o := .cells #[.bool (H.dead p), .int .i64 0, .pointer (some ⟨sb, 0, none⟩), .pointer (some ⟨db, 0, none⟩)] 127 (0, 0)) (by simp)) 0
    have HC := hid (alive_some hb p xb (H.dead p) l w hat hg hd)
    have hl : H.lives p = !H.dead p := by simp [HubS.lives, hp]
    rw [hl]
    clear hat hg hd hl
    cases hdd : H.dead p with
    | false =>
      rw [hdd] at HC
      go_enter Tryz.func25, Tryz.ntmps25
      go_wp2_with (go_at_call 48; refine HC.out.mono ?_; rintro en w1 ⟨rfl, rfl⟩; simp only [Bool.false_eq_true, if_false])
      go_ret
      exact ⟨rfl, rfl⟩
    | true =>
      rw [hdd] at HC
      go_enter Tryz.func25, Tryz.ntmps25
      go_wp2_with (go_at_call 48; refine HC.out.mono ?_; rintro en w1 ⟨rfl, rfl⟩; simp only [if_true])
      go_ret
      exact ⟨rfl, rfl⟩
  · have HC := hid (alive_none hb p l w hat (h.out hp))
    have hl : H.lives p = false := by simp [HubS.lives, hp]
    rw [hl]
    clear hat hl
    go_enter Tryz.func25, Tryz.ntmps25
    go_wp2_with (go_at_call 48; refine HC.out.mono ?_; rintro en w1 ⟨rfl, rfl⟩)
    go_ret
    exact ⟨rfl, rfl⟩

theorem hubRing_any (F c fr : Chunk) (hb : Nat) (H : HubS) (w : World) (hok : Ok w (c ++ fr)) (h : IsHub F c hb H) : Calls Tryz.prog 12 #[.pointer (some ⟨hb, 0, none⟩)] w fun en w' => ∃ rb' cr', en = .returned (.pointer (some ⟨rb', 0, none⟩)) ∧ IsRing cr' rb' H.pts ∧ Fresh w w' cr' := by
  obtain ⟨rb, mb, arr, clk, l, cr, cn, h⟩ := h
  have h1 : w.cell? ⟨hb, 1, none⟩ = some (.pointer (some ⟨rb, 0, none⟩)) := cellOf (h.get hok) 1
  have HC := hid (ringFork_any rb H.pts w _ (Ok.all w) (h.ringAt hok) h.ok)
  clear hok h
  go_enter Tryz.func12, Tryz.ntmps12
  go_wp2_with (go_at_call 34; refine HC.out.mono ?_; rintro en w1 ⟨rb', cr', rfl, hr, ho, hs, _⟩)
  go_ret
  exact ⟨_, _, rfl, hr, ⟨ho, hs⟩⟩
theorem hubRing_nil (w : World) : Calls Tryz.prog 12 #[.pointer none] w fun en w' => en = .returned (.pointer none) ∧ w = w' := by
  go_enter Tryz.func12, Tryz.ntmps12
  go_wp2
  go_ret
  exact ⟨rfl, rfl⟩

theorem hubNew_any (reps : Nat) (hr : 1 ≤ reps ∧ reps ≤ 4) (w : World) : Calls Tryz.prog 28 #[.int .i64 reps] w fun en w' => ∃ hb c, en = .returned (.tuple #[.pointer (some ⟨hb, 0, none⟩), .int .i64 0]) ∧ IsHub [] c hb ⟨reps, [], fun _ => false, fun _ => [], fun _ _ => []⟩ ∧ Fresh w w' c := by
  have hmm := @run_makeMap Tryz.prog
  have d1 : decide ((reps : Int) < 1) = false := by simp; omega
  have d2 : decide ((4 : Int) < (reps : Int)) = false := by simp; omega
  go_enter Tryz.func28, Tryz.ntmps28
  go_wp2_with (go_at_call 53; refine (ringNew_any _).mono ?_; rintro en w1 ⟨rfl, rfl⟩)
  refine bodyPost_ret (v := .tuple #[.pointer (some ⟨w.heap.size + 2, 0, none⟩), .int .i64 0]) (by simp only [results, Tryz.results28]; go_simp) rfl ⟨_, _, rfl, ⟨w.heap.size, w.heap.size + 1, #[], 0, [], [(w.heap.size, .cells #[.slice none 0 0] 92 (0, 0))], [], ⟨rfl, ⟨_, _, rfl, Row.nil _ _⟩, ⟨by simp, by simp, by simp⟩, IsMap.empty _, rfl, by simp, hr⟩⟩, ?_⟩
  have hF := (((Fresh.refl w).push (.cells #[.slice none 0 0] 92 (0, 0))).push (.map #[] 0)).push (.cells #[.int .i64 reps, .pointer (some ⟨w.heap.size, 0, none⟩), .map (some (w.heap.size + 1)), .slice none 0 0] 90 (0, 0))
  exact hF.sub (by simp)
end Go.Proofs.YtdllibalmjadhaaGreat
