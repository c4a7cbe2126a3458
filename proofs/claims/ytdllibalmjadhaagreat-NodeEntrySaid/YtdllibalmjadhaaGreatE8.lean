/- Shelves: entries in a map, each its own. Dice, shadows, nodes: new ones. What a hub finds by a point. slices.SortFunc of one element or none. -/
import Derived.Test.YtdllibalmjadhaaGreatE6
import Derived.Test.YtdllibalmjadhaaGreatE7

namespace Go.Proofs.YtdllibalmjadhaaGreat
open Go Go.RowKit

/-- The values of a map are these entries. -/
def Ents (F : Chunk) : List ((Nat × Nat) × Value) → List Ent → Prop
  | [], [] => True
  | p :: l, e :: es => p.1 = e.key ∧ (∃ s, p.2 = entV e s ∧ SlIn F s e.vals) ∧ Ents F l es
  | _, _ => False
def eget : List Ent → Nat × Nat → Option Ent
  | [], _ => none
  | e :: es, k => if k = e.key then some e else eget es k
def eput : List Ent → Ent → List Ent
  | [], e => [e]
  | x :: es, e => if e.key = x.key then e :: es else x :: eput es e
/-- Whether an entry is put there: it is new, or newer. -/
def wants (es : List Ent) (e : Ent) : Bool := match eget es e.key with
  | some old => newer e old
  | none => true

theorem Ents.mono {F F' : Chunk} (hF : ∀ x, x ∈ F → x ∈ F') : ∀ {l : List ((Nat × Nat) × Value)} {es : List Ent}, Ents F l es → Ents F' l es
  | [], [], _ => trivial
  | [], _ :: _, h => h.elim
  | _ :: _, [], h => h.elim
  | _ :: _, _ :: _, ⟨h1, ⟨s, h2, h3⟩, h4⟩ => ⟨h1, ⟨s, h2, h3.mono hF⟩, Ents.mono hF h4⟩
theorem Ents.length {F : Chunk} : ∀ {l : List ((Nat × Nat) × Value)} {es : List Ent}, Ents F l es → l.length = es.length
  | [], [], _ => rfl
  | [], _ :: _, h => h.elim
  | _ :: _, [], h => h.elim
  | _ :: _, _ :: _, ⟨_, _, h⟩ => by simp [Ents.length h]
theorem Ents.keys {F : Chunk} : ∀ {l : List ((Nat × Nat) × Value)} {es : List Ent}, Ents F l es → l.map Prod.fst = es.map Ent.key
  | [], [], _ => rfl
  | [], _ :: _, h => h.elim
  | _ :: _, [], h => h.elim
  | _ :: _, _ :: _, ⟨h1, _, h⟩ => by simp [h1, Ents.keys h]
theorem Ents.get_none {F : Chunk} {k : Nat × Nat} : ∀ {l : List ((Nat × Nat) × Value)} {es : List Ent}, Ents F l es → eget es k = none → mget l k = none
  | [], [], _, _ => rfl
  | [], _ :: _, h, _ => h.elim
  | _ :: _, [], h, _ => h.elim
  | p :: l, e :: es, ⟨h1, _, h⟩, hg => by
    simp only [eget] at hg
    split at hg
    · cases hg
    · rename_i hk
      simp only [mget, h1, if_neg hk]
      exact Ents.get_none h hg
theorem Ents.get_some {F : Chunk} {k : Nat × Nat} {e : Ent} : ∀ {l : List ((Nat × Nat) × Value)} {es : List Ent}, Ents F l es → eget es k = some e → ∃ s, mget l k = some (entV e s) ∧ SlIn F s e.vals
  | [], [], _, hg => by simp [eget] at hg
  | [], _ :: _, h, _ => h.elim
  | _ :: _, [], h, _ => h.elim
  | p :: l, x :: es, ⟨h1, ⟨s, h2, h3⟩, h⟩, hg => by
    simp only [eget] at hg
    split at hg
    · rename_i hk
      cases hg
      simp only [mget, h1, if_pos hk]
      exact ⟨s, by rw [h2], h3⟩
    · rename_i hk
      simp only [mget, h1, if_neg hk]
      exact Ents.get_some h hg
theorem Ents.put {F : Chunk} {e : Ent} {s : Value} (hs : SlIn F s e.vals) : ∀ {l : List ((Nat × Nat) × Value)} {es : List Ent}, Ents F l es → Ents F (mput l e.key (entV e s)) (eput es e)
  | [], [], _ => ⟨rfl, ⟨s, rfl, hs⟩, trivial⟩
  | [], _ :: _, h => h.elim
  | _ :: _, [], h => h.elim
  | p :: l, x :: es, ⟨h1, h2, h⟩ => by
    simp only [mput, eput, h1]
    split
    · rename_i hk
      exact ⟨hk.symm, ⟨s, rfl, hs⟩, h⟩
    · exact ⟨h1, h2, Ents.put hs h⟩
theorem eput_mem {x e : Ent} : ∀ {es : List Ent}, x ∈ eput es e → x ∈ es ∨ x = e
  | [], h => .inr (by simpa [eput] using h)
  | y :: es, h => by
    simp only [eput] at h
    split at h
    · rcases List.mem_cons.1 h with h | h
      · exact .inr h
      · exact .inl (List.mem_cons_of_mem _ h)
    · rcases List.mem_cons.1 h with h | h
      · exact .inl (h ▸ List.mem_cons_self ..)
      · exact (eput_mem h).imp (List.mem_cons_of_mem _) id
theorem eput_length (es : List Ent) (e : Ent) : (eput es e).length ≤ es.length + 1 := by
  induction es with
  | nil => simp [eput]
  | cons x es ih => simp only [eput]; split <;> simp <;> omega

/-- A shelf of one's own; its entries' values lie in F. -/
def IsShelf (F c : Chunk) (sb : Nat) (es : List Ent) : Prop := ∃ mb l arr clk, c = [(sb, .cells #[.map (some mb)] 166 (0, 0)), (mb, .map arr clk)] ∧ IsMap encKey l arr clk ∧ Ents F l es ∧ (∀ e ∈ es, e.vals.length < 1073741824)
theorem IsShelf.mono {F F' c : Chunk} {sb : Nat} {es : List Ent} (hF : ∀ x, x ∈ F → x ∈ F') (h : IsShelf F c sb es) : IsShelf F' c sb es := by
  obtain ⟨mb, l, arr, clk, h1, h2, h3, h4⟩ := h
  exact ⟨mb, l, arr, clk, h1, h2, h3.mono hF, h4⟩

def NewShelf (w : World) (en : Ending) (w' : World) : Prop := ∃ sb c, en = .returned (.pointer (some ⟨sb, 0, none⟩)) ∧ IsShelf [] c sb [] ∧ Fresh w w' c
theorem shelfNew_any (w : World) : Calls Tryz.prog 102 #[] w (NewShelf w) := by
  have hmm := @run_makeMap Tryz.prog
  go_enter Tryz.func102, Tryz.ntmps102
  go_wp2
  go_ret
  refine ⟨_, _, rfl, ⟨w.heap.size, [], #[], 0, rfl, IsMap.empty _, trivial, by simp⟩, ?_⟩
  exact (((Fresh.refl w).push (.map #[] 0)).push (.cells #[.map (some w.heap.size)] 166 (0, 0))).sub (by simp)

theorem shelfLen_any (w : World) (F c fr : Chunk) (sb : Nat) (es : List Ent) (hok : Ok w (c ++ fr)) (hs : IsShelf F c sb es) : Calls Tryz.prog 109 #[.pointer (some ⟨sb, 0, none⟩)] w fun en w' => en = .returned (.int .i64 (es.length : Nat)) ∧ w = w' := by
  obtain ⟨mb, l, arr, clk, rfl, hm, he, _⟩ := hs
  have h0 : w.cell? ⟨sb, 0, none⟩ = some (.map (some mb)) := hok.cell (b := sb) (cs := #[.map (some mb)]) (T := 166) (fz := (0, 0)) (by simp) 0
  have h1 := run_maplen (P := Tryz.prog) Tryz.underlying164 (hok.get (b := mb) (o := .map arr clk) (by simp)) hm
  rw [he.length] at h1
  go_enter Tryz.func109, Tryz.ntmps109
  go_wp2
  go_ret
  exact ⟨rfl, rfl⟩

def zeroEnt : Ent := ⟨0, 0, 0, [], false⟩
theorem zeroEntry (w : World) : (zeroValue 48).run Tryz.prog w = .ok (entV zeroEnt (.slice none 0 0)) w := by kernel_rfl

/-- What a look-up finds. -/
theorem shelf_look {F : Chunk} {mb : Nat} {l : List ((Nat × Nat) × Value)} {arr : Array MapEntry} {clk : Nat} {es : List Ent} (hm : IsMap encKey l arr clk) (he : Ents F l es) (k : Nat × Nat) :
    ∃ o s, (∀ w' : World, w'.heap[mb]? = some (.map arr clk) → (Instr.lookup 164 (.map (some mb)) (encKey k) true).run Tryz.prog w' = .ok (.tuple #[entV o s, .bool (eget es k).isSome]) w') ∧ SlIn F s o.vals ∧ (eget es k = some o ∨ (eget es k = none ∧ o = zeroEnt ∧ s = .slice none 0 0)) := by
  cases hg : eget es k with
  | none =>
    refine ⟨zeroEnt, .slice none 0 0, fun w' hb' => ?_, .inl ⟨rfl, rfl⟩, .inr ⟨rfl, rfl, rfl⟩⟩
    have := run_look (P := Tryz.prog) keyLaw Tryz.underlying164 (zeroEntry w') hb' hm k true
    rw [he.get_none hg] at this
    simpa using this
  | some o =>
    obtain ⟨s, h1, h2⟩ := he.get_some hg
    refine ⟨o, s, fun w' hb' => ?_, h2, .inl rfl⟩
    have := run_look (P := Tryz.prog) keyLaw Tryz.underlying164 (zeroEntry w') hb' hm k true
    rw [h1] at this
    simpa using this

theorem holds_cell {w w' : World} (hb : Below w.heap.size w w') {b : Nat} {x : Value} {T : TypeId} (h : w.heap[b]? = some (.cells #[x] T (0, 0))) : w'.cell? ⟨b, 0, none⟩ = some x := stays hb (cellOf h 0)

/-- What Put leaves. -/
def PutPost (w : World) (fr : Chunk) (sb : Nat) (es : List Ent) (b : Bool) (en : Ending) (w' : World) : Prop := ∃ c' new, en = .returned (.tuple #[.bool b, .int .i64 0]) ∧ IsShelf (new ++ fr) c' sb es ∧ Ok w' (c' ++ (new ++ fr)) ∧ Same w w'

set_option maxRecDepth 100000 in
set_option maxHeartbeats 2000000 in
theorem shelfPut_any (w : World) (c fr : Chunk) (sb : Nat) (es : List Ent) (hok : Ok w (c ++ fr)) (hs : IsShelf fr c sb es) (e : Ent) (s : Value) (hv : ReadsU w s e.vals) (hvl : e.vals.length < 1073741824) (hlen : es.length < 10000) :
    Calls Tryz.prog 104 #[.pointer (some ⟨sb, 0, none⟩), entV e s] w (PutPost w fr sb (if wants es e then eput es e else es) (wants es e)) := by
  have hs0 := hs
  obtain ⟨mb, l, arr, clk, rfl, hm, he, hvs⟩ := hs
  have hsb : w.heap[sb]? = some (.cells #[.map (some mb)] 166 (0, 0)) := hok.get (by simp)
  have hmb : w.heap[mb]? = some (.map arr clk) := hok.get (by simp)
  obtain ⟨o, os, hlook, hos, hcase⟩ := shelf_look hm he e.key
  have hws : wants es e = match (eget es e.key).isSome with | true => newer e o | false => true := by
    unfold wants
    rcases hcase with h | ⟨h, _⟩ <;> rw [h] <;> rfl
  generalize (eget es e.key).isSome = is at *
  have HL := hid hlook
  have HWS := hid hws
  clear hlook hcase hws
  obtain ⟨a, n, m, rfl⟩ : ∃ a n m, s = .slice a n m := by
    rcases hv with ⟨rfl, _⟩ | ⟨b, off, cap, rfl, _⟩ <;> exact ⟨_, _, _, rfl⟩
  obtain ⟨a2, n2, m2, rfl⟩ : ∃ a n m, os = .slice a n m := by
    rcases hos with ⟨rfl, _⟩ | ⟨b, off, cap, cur, rfl, _⟩ <;> exact ⟨_, _, _, rfl⟩
  have HP : Hid (∀ en w', PutPost w fr sb (if wants es e then eput es e else es) (wants es e) en w' → PutPost w fr sb (if wants es e then eput es e else es) (wants es e) en w') := fun _ _ h => h
  generalize hpost : PutPost w fr sb (if wants es e then eput es e else es) (wants es e) = post at HP ⊢
  have HPO := hid hpost
  clear hpost HP
  unfold entV
  go_enter Tryz.func104, Tryz.ntmps104
  go_wp2_with (fail)
  let R5 : Value → World → Prop := fun u _ => u = encKey e.key
  let R10 : Value → World → Prop := fun u w' => ∃ x o, u = .pointer (some ⟨x, 0, none⟩) ∧ w.heap.size < x ∧ w'.heap[x]? = some (.cells o 48 (0, 0)) ∧ o.size = 5
  refine wp_region_z [5, 10] [R5, R10] [11] (by kernel_rfl) (by kernel_rfl) ?_ ?_
  · intro R hR u w1 w2 h hb
    simp only [List.mem_cons, List.not_mem_nil, or_false] at hR
    rcases hR with rfl | rfl
    · exact h
    · obtain ⟨x, o, h1, h2, h3, h4⟩ := h
      exact ⟨x, o, h1, h2, holds hb h3, h4⟩
  intro E _ hE hI hClE
  have h0 : ∀ w' : InD E, w'.val.cell? ⟨sb, 0, none⟩ = some (.map (some mb)) := fun w' => cellOf (holds (hE w') (holds (alloc_below _ _) hsb)) 0
  have hbx : ∀ w' : InD E, w'.val.heap[w.heap.size]? = some (.cells #[.int .u32 e.value, .int .u64 e.id, .int .u64 e.version, .slice a n m, .bool e.gone] 48 (0, 0)) := fun w' => holds (hE w') (heap1 _ _)
  have b0 : ∀ w' : InD E, w'.val.cell? ⟨w.heap.size, 0, none⟩ = some (.int .u32 e.value) := fun w' => cellOf (hbx w') 0
  have b1 : ∀ w' : InD E, w'.val.cell? ⟨w.heap.size, 1, none⟩ = some (.int .u64 e.id) := fun w' => cellOf (hbx w') 1
  have b2 : ∀ w' : InD E, w'.val.cell? ⟨w.heap.size, 2, none⟩ = some (.int .u64 e.version) := fun w' => cellOf (hbx w') 2
  have b3 : ∀ w' : InD E, w'.val.cell? ⟨w.heap.size, 3, none⟩ = some (.slice a n m) := fun w' => cellOf (hbx w') 3
  have b4 : ∀ w' : InD E, w'.val.cell? ⟨w.heap.size, 4, none⟩ = some (.bool e.gone) := fun w' => cellOf (hbx w') 4
  have hl2 : ∀ w' : InD E, (Instr.lookup 164 (.map (some mb)) (encKey e.key) true).run Tryz.prog w'.val = .ok (.tuple #[entV o (.slice a2 n2 m2), .bool is]) w'.val := fun w' => HL.out w'.val (holds (hE w') (holds (alloc_below _ _) hmb))
  repeat (refine wpZ_step (fun K hK => ?_); go_simp; refine hK _ _ ?_; clear hK K)
  refine wpZ_step (fun K hK => ?_); go_simp
  refine ⟨fun w' => (key_any e (.slice a n m) _).mono fun en w'' ⟨he, hb⟩ => ⟨_, he, rfl, hb⟩, ?_⟩
  rintro u x _ rfl
  refine hK _ _ ?_; clear hK K
  repeat (refine wpZ_step (fun K hK => ?_); go_simp; refine hK _ _ ?_; clear hK K)
  refine wpZ_step (fun K hK => ?_); go_simp
  refine ⟨hClE.and (fun _ _ h _ => h), fun w' => ⟨⟨_, _, rfl, ?_, heap1 _ _, rfl⟩, alloc_below _ _⟩, ?_⟩
  · have := (hE w').size
    rw [World.size_alloc] at this
    omega
  rintro u x1 _ _ ⟨x, oc, rfl, hxl, _, _⟩
  refine hK _ _ ?_; clear hK K
  repeat (refine wpZ_step (fun K hK => ?_); go_simp; refine hK _ _ ?_; clear hK K)
  refine wpZ_step (fun K hK => ?_); go_simp
  refine ⟨fun _ w' => E w' ∧ w'.heap[x]? = some (.cells #[.int .u32 o.value, .int .u64 o.id, .int .u64 o.version, .slice a2 n2 m2, .bool o.gone] 48 (0, 0)), ?_, fun u w h => h.1, ?_⟩
  · rintro w' hw' _ ⟨x', oc', hp, _, hx', hs'⟩
    cases hp
    have hst := run_storeWhole (P := Tryz.prog) hx' [.int .u32 o.value, .int .u64 o.id, .int .u64 o.version, .slice a2 n2 m2, .bool o.gone] (by simp [hs']) (by simp [Value.oneCell'])
    simp only [entV, List.size_toArray, List.length_cons, List.length_nil, if_true, hst, Result.andThen_ok]
    exact ⟨hI _ (Below.setRow (hE ⟨w', hw'⟩) (by simp; omega) _), setRow_heap _ _ _ _ _ _ hx'⟩
  rintro u x2 _
  refine hK _ _ ?_; clear hK K
  repeat (refine wpZ_step (fun K hK => ?_); go_simp; refine hK _ _ ?_; clear hK K)
  refine wpZ_nil ?_
  rintro w1 ⟨hw1, hx1⟩
  have hb1 := hE ⟨w1, hw1⟩
  have hbx1 : w1.heap[w.heap.size]? = some (.cells #[.int .u32 e.value, .int .u64 e.id, .int .u64 e.version, .slice a n m, .bool e.gone] 48 (0, 0)) := hbx ⟨w1, hw1⟩
  clear h0 hbx b0 b1 b2 b3 b4 hl2 hI hClE
  have hbW : Below w.heap.size w w1 := below_trans (alloc_below _ _) hb1
  clear hb1 hE
  have hnil : ∀ w' : World, (binOp .eql 164 (.map (some mb)) (.map none)).run Tryz.prog w' = .ok (.bool false) w' := fun w' => run_eql_map_nil (P := Tryz.prog) w' _ _ _ _ Tryz.underlying164
  have c0 : w1.cell? ⟨w.heap.size, 0, none⟩ = some (.int .u32 e.value) := cellOf hbx1 0
  have c1 : w1.cell? ⟨w.heap.size, 1, none⟩ = some (.int .u64 e.id) := cellOf hbx1 1
  have c2 : w1.cell? ⟨w.heap.size, 2, none⟩ = some (.int .u64 e.version) := cellOf hbx1 2
  have c3 : w1.cell? ⟨w.heap.size, 3, none⟩ = some (.slice a n m) := cellOf hbx1 3
  have c4 : w1.cell? ⟨w.heap.size, 4, none⟩ = some (.bool e.gone) := cellOf hbx1 4
  cases is with
  | true =>
    have d0 : w1.cell? ⟨x, 0, none⟩ = some (.int .u32 o.value) := cellOf hx1 0
    have d1 : w1.cell? ⟨x, 1, none⟩ = some (.int .u64 o.id) := cellOf hx1 1
    have d2 : w1.cell? ⟨x, 2, none⟩ = some (.int .u64 o.version) := cellOf hx1 2
    have d3 : w1.cell? ⟨x, 3, none⟩ = some (.slice a2 n2 m2) := cellOf hx1 3
    have d4 : w1.cell? ⟨x, 4, none⟩ = some (.bool o.gone) := cellOf hx1 4
    have hws := HWS.out
    simp only at hws
    have hnw := newer_any e o (.slice a n m) (.slice a2 n2 m2) w1
    rw [← hws] at hnw
    cases hq : wants es e with
    | false =>
      rw [hq] at hnw HPO
      have HN := hid hnw
      clear hnw hws
      go_wp2_with (go_at_call 143; refine HN.out.mono ?_; rintro en w2 ⟨rfl, hb2⟩)
      rw [← HPO.out]
      have hb := below_trans hbW hb2
      exact ⟨_, [], rfl, hs0, hok.below hb, (Same.refl w).below hb⟩
    | true =>
      rw [hq] at hnw HPO
      have HN := hid hnw
      clear hnw hws
      go_wp2_with (go_at_call 143; refine HN.out.mono ?_; rintro en wc ⟨rfl, hb2⟩; have s2 : wc.cell? ⟨sb, 0, none⟩ = some (.map (some mb)) := stays hb2 (stays hbW (cellOf hsb 0)))
      have hbC := below_trans hbW hb2
      have hbxc := holds hb2 hbx1
      refine wp_region_y [5, 7, 8] (fun w' => w'.cell? ⟨sb, 0, none⟩ = some (.map (some mb)) ∧ w'.heap[w.heap.size]? = some (.cells #[.int .u32 e.value, .int .u64 e.id, .int .u64 e.version, .slice a n m, .bool e.gone] 48 (0, 0))) (by kernel_rfl) (by kernel_rfl) ⟨holds_cell hbC hsb, hbxc⟩ ?_
      intro E' _ hE hI
      have h0 : ∀ w' : InD E', w'.val.cell? ⟨sb, 0, none⟩ = some (.map (some mb)) := fun w' => (hE w').1
      have b0 : ∀ w' : InD E', w'.val.cell? ⟨w.heap.size, 0, none⟩ = some (.int .u32 e.value) := fun w' => cellOf (hE w').2 0
      have b1 : ∀ w' : InD E', w'.val.cell? ⟨w.heap.size, 1, none⟩ = some (.int .u64 e.id) := fun w' => cellOf (hE w').2 1
      have b2 : ∀ w' : InD E', w'.val.cell? ⟨w.heap.size, 2, none⟩ = some (.int .u64 e.version) := fun w' => cellOf (hE w').2 2
      have b3 : ∀ w' : InD E', w'.val.cell? ⟨w.heap.size, 3, none⟩ = some (.slice a n m) := fun w' => cellOf (hE w').2 3
      have b4 : ∀ w' : InD E', w'.val.cell? ⟨w.heap.size, 4, none⟩ = some (.bool e.gone) := fun w' => cellOf (hE w').2 4
      repeat (refine wpX_step (fun K hK => ?_); go_simp; refine hK _ _ ?_; clear hK K)
      refine wpX_step (fun K hK => ?_); go_simp
      refine ⟨fun u w' => u = encKey e.key ∧ Below wc.heap.size wc w', ?_, fun u w' h => hI _ ⟨holds_cell (below_trans hbC h.2) hsb, holds h.2 hbxc⟩, ?_⟩
      · exact (key_any e (.slice a n m) _).mono fun en w'' ⟨he, hb⟩ => ⟨_, he, rfl, below_trans (drewN_below wc 1) hb⟩
      rintro u y ⟨rfl, _⟩
      refine hK _ _ ?_; clear hK K
      repeat (refine wpX_step (fun K hK => ?_); go_simp; refine hK _ _ ?_; clear hK K)
      refine wpX_step (fun K hK => ?_); go_simp
      refine ⟨fun u w' => ∃ s c, u = entV e s ∧ SlIn c s e.vals ∧ Fresh w w' c ∧ Below wc.heap.size wc w', fun w' hw' => ?_, fun u w' ⟨_, _, _, _, _, hb⟩ => hI _ ⟨holds_cell (below_trans hbC hb) hsb, holds hb hbxc⟩, ?_⟩
      · exact (entry_any e (.slice a n m) w' hvl (hv.below (below_trans hbC hw'))).mono fun en w'' ⟨s, c, he, hrow, hf⟩ => ⟨_, he, s, c, rfl, hrow.slIn, Fresh.from (below_trans hbC hw') hf, below_trans hw' hf.below⟩
      rintro u y ⟨s, c, rfl, _, _⟩
      refine hK _ _ ?_; clear hK K
      repeat (refine wpX_step (fun K hK => ?_); go_simp; refine hK _ _ ?_; clear hK K)
      refine wpX_step (fun K hK => ?_); go_simp
      refine ⟨fun _ w' => PutPost w fr sb (eput es e) true (.returned (.tuple #[.bool true, .int .i64 0])) w' ∧ E' w', ?_, fun u w' h => h.2, ?_⟩
      · rintro w4 s' heq c' hsl hf hb4
        have hss : s = s' := by simpa [entV] using heq
        subst hss
        have hok4 := hf.frame hok
        obtain ⟨es', clk', hm', hup⟩ := run_update (P := Tryz.prog) keyLaw Tryz.underlying164 (holds (below_trans hbC hb4) hmb) hm e.key (entV e s)
        rw [hup]
        simp only [Result.andThen_ok]
        have hne : sb ≠ mb := by
          have := hok.nd
          simp at this
          exact fun h => this.1.1 h
        have hok5 : Ok w4 ((mb, .map arr clk) :: (sb, .cells #[.map (some mb)] 166 (0, 0)) :: (c' ++ fr)) := hok4.re (by grind) (by simp only [List.map_cons, List.map_append]; grind)
        have hok6 := hok5.setBlk (.map es' clk')
        refine ⟨⟨[(sb, .cells #[.map (some mb)] 166 (0, 0)), (mb, .map es' clk')], c', rfl, ⟨mb, _, es', clk', rfl, hm', Ents.put (hsl.mono (by simp; grind)) (he.mono (by simp; grind)), ?_⟩, hok6.re (by grind) (by simp only [List.map_cons, List.map_append]; grind), (hf.same).setBlk _ _⟩, hI _ ⟨?_, ?_⟩⟩
        · intro y hy
          rcases eput_mem hy with h | rfl
          · exact hvs y h
          · exact hvl
        · exact hok6.cell (b := sb) (cs := #[.map (some mb)]) (T := 166) (fz := (0, 0)) (by simp) 0
        · rw [setBlk_other _ _ (by have := hok.lt (b := mb) (o := .map arr clk) (by simp); omega)]
          exact holds hb4 hbxc
      rintro u y ⟨_, _⟩
      refine hK _ _ ?_; clear hK K
      refine wpX_nil ?_
      rintro w5 ⟨hpost, _⟩
      go_wp2
      rw [← HPO.out]
      exact hpost
  | false =>
    have hlen1 := run_maplen (P := Tryz.prog) Tryz.underlying164 (holds hbW hmb) hm
    have hll : decide ((10000 : Int) ≤ ((l.length : Nat) : Int)) = false := by rw [he.length]; simp; omega
    have s1 : w1.cell? ⟨sb, 0, none⟩ = some (.map (some mb)) := stays hbW (cellOf hsb 0)
    go_wp2_with (fail)
    have hbC := hbW
    have hbxc := hbx1
    have hq : wants es e = true := HWS.out
    rw [hq] at HPO
    generalize w1 = wc at *
    refine wp_region_y [5, 7, 8] (fun w' => w'.cell? ⟨sb, 0, none⟩ = some (.map (some mb)) ∧ w'.heap[w.heap.size]? = some (.cells #[.int .u32 e.value, .int .u64 e.id, .int .u64 e.version, .slice a n m, .bool e.gone] 48 (0, 0))) (by kernel_rfl) (by kernel_rfl) ⟨holds_cell hbC hsb, hbxc⟩ ?_
    intro E' _ hE hI
    have h0 : ∀ w' : InD E', w'.val.cell? ⟨sb, 0, none⟩ = some (.map (some mb)) := fun w' => (hE w').1
    have b0 : ∀ w' : InD E', w'.val.cell? ⟨w.heap.size, 0, none⟩ = some (.int .u32 e.value) := fun w' => cellOf (hE w').2 0
    have b1 : ∀ w' : InD E', w'.val.cell? ⟨w.heap.size, 1, none⟩ = some (.int .u64 e.id) := fun w' => cellOf (hE w').2 1
    have b2 : ∀ w' : InD E', w'.val.cell? ⟨w.heap.size, 2, none⟩ = some (.int .u64 e.version) := fun w' => cellOf (hE w').2 2
    have b3 : ∀ w' : InD E', w'.val.cell? ⟨w.heap.size, 3, none⟩ = some (.slice a n m) := fun w' => cellOf (hE w').2 3
    have b4 : ∀ w' : InD E', w'.val.cell? ⟨w.heap.size, 4, none⟩ = some (.bool e.gone) := fun w' => cellOf (hE w').2 4
    repeat (refine wpX_step (fun K hK => ?_); go_simp; refine hK _ _ ?_; clear hK K)
    refine wpX_step (fun K hK => ?_); go_simp
    refine ⟨fun u w' => u = encKey e.key ∧ Below wc.heap.size wc w', ?_, fun u w' h => hI _ ⟨holds_cell (below_trans hbC h.2) hsb, holds h.2 hbxc⟩, ?_⟩
    · exact (key_any e (.slice a n m) _).mono fun en w'' ⟨he, hb⟩ => ⟨_, he, rfl, below_trans (drewN_below wc 1) hb⟩
    rintro u y ⟨rfl, _⟩
    refine hK _ _ ?_; clear hK K
    repeat (refine wpX_step (fun K hK => ?_); go_simp; refine hK _ _ ?_; clear hK K)
    refine wpX_step (fun K hK => ?_); go_simp
    refine ⟨fun u w' => ∃ s c, u = entV e s ∧ SlIn c s e.vals ∧ Fresh w w' c ∧ Below wc.heap.size wc w', fun w' hw' => ?_, fun u w' ⟨_, _, _, _, _, hb⟩ => hI _ ⟨holds_cell (below_trans hbC hb) hsb, holds hb hbxc⟩, ?_⟩
    · exact (entry_any e (.slice a n m) w' hvl (hv.below (below_trans hbC hw'))).mono fun en w'' ⟨s, c, he, hrow, hf⟩ => ⟨_, he, s, c, rfl, hrow.slIn, Fresh.from (below_trans hbC hw') hf, below_trans hw' hf.below⟩
    rintro u y ⟨s, c, rfl, _, _⟩
    refine hK _ _ ?_; clear hK K
    repeat (refine wpX_step (fun K hK => ?_); go_simp; refine hK _ _ ?_; clear hK K)
    refine wpX_step (fun K hK => ?_); go_simp
    refine ⟨fun _ w' => PutPost w fr sb (eput es e) true (.returned (.tuple #[.bool true, .int .i64 0])) w' ∧ E' w', ?_, fun u w' h => h.2, ?_⟩
    · rintro w4 s' heq c' hsl hf hb4
      have hss : s = s' := by simpa [entV] using heq
      subst hss
      have hok4 := hf.frame hok
      obtain ⟨es', clk', hm', hup⟩ := run_update (P := Tryz.prog) keyLaw Tryz.underlying164 (holds (below_trans hbC hb4) hmb) hm e.key (entV e s)
      rw [hup]
      simp only [Result.andThen_ok]
      have hne : sb ≠ mb := by
        have := hok.nd
        simp at this
        exact fun h => this.1.1 h
      have hok5 : Ok w4 ((mb, .map arr clk) :: (sb, .cells #[.map (some mb)] 166 (0, 0)) :: (c' ++ fr)) := hok4.re (by grind) (by simp only [List.map_cons, List.map_append]; grind)
      have hok6 := hok5.setBlk (.map es' clk')
      refine ⟨⟨[(sb, .cells #[.map (some mb)] 166 (0, 0)), (mb, .map es' clk')], c', rfl, ⟨mb, _, es', clk', rfl, hm', Ents.put (hsl.mono (by simp; grind)) (he.mono (by simp; grind)), ?_⟩, hok6.re (by grind) (by simp only [List.map_cons, List.map_append]; grind), (hf.same).setBlk _ _⟩, hI _ ⟨?_, ?_⟩⟩
      · intro y hy
        rcases eput_mem hy with h | rfl
        · exact hvs y h
        · exact hvl
      · exact hok6.cell (b := sb) (cs := #[.map (some mb)]) (T := 166) (fz := (0, 0)) (by simp) 0
      · rw [setBlk_other _ _ (by have := hok.lt (b := mb) (o := .map arr clk) (by simp); omega)]
        exact holds hb4 hbxc
    rintro u y ⟨_, _⟩
    refine hK _ _ ?_; clear hK K
    refine wpX_nil ?_
    rintro w5 ⟨hpost, _⟩
    go_wp2
    rw [← HPO.out]
    exact hpost
end Go.Proofs.YtdllibalmjadhaaGreat

namespace Go.Proofs.YtdllibalmjadhaaGreat
open Go Go.RowKit

theorem diceNew_any (s : Nat) (w : World) : Calls Tryz.prog 27 #[.int .u64 s] w fun en w' => ∃ db, en = .returned (.pointer (some ⟨db, 0, none⟩)) ∧ Fresh w w' [(db, .cells #[.int .u64 s] 118 (0, 0))] := by
  go_enter Tryz.func27, Tryz.ntmps27
  go_wp2
  go_ret
  exact ⟨_, rfl, (Fresh.refl w).push _⟩

/-- A new shadow. -/
def NewShadow (w : World) (en : Ending) (w' : World) : Prop := ∃ db mb, en = .returned (.pointer (some ⟨db, 0, none⟩)) ∧ Fresh w w' [(db, .cells #[.map (some mb)] 184 (0, 0)), (mb, .map #[] 0)]
theorem shadowNew_any (w : World) : Calls Tryz.prog 103 #[] w (NewShadow w) := by
  have hmm := @run_makeMap Tryz.prog
  go_enter Tryz.func103, Tryz.ntmps103
  go_wp2
  go_ret
  exact ⟨_, w.heap.size, rfl, (((Fresh.refl w).push (.map #[] 0)).push (.cells #[.map (some w.heap.size)] 184 (0, 0))).sub (by simp)⟩

/-- A node that is alive, without entries. -/
def NewNode (w : World) (en : Ending) (w' : World) : Prop := ∃ xb sb db mb cs, en = .returned (.pointer (some ⟨xb, 0, none⟩)) ∧ IsShelf [] cs sb [] ∧
  Fresh w w' ((xb, .cells #[.bool false, .int .i64 0, .pointer (some ⟨sb, 0, none⟩), .pointer (some ⟨db, 0, none⟩)] 127 (0, 0)) :: ([(db, .cells #[.map (some mb)] 184 (0, 0)), (mb, .map #[] 0)] ++ cs))
theorem fresh_any (w : World) : Calls Tryz.prog 56 #[] w (NewNode w) := by
  go_enter Tryz.func56, Tryz.ntmps56
  go_wp2_with (first | (go_at_call 102; refine (shelfNew_any w).mono ?_; rintro en w1 ⟨sb, cs, rfl, hs, h1⟩) | (go_at_call 103; refine (shadowNew_any w1).mono ?_; rintro en w2 ⟨db, mb, rfl, h2⟩))
  go_ret
  exact ⟨_, _, _, _, _, rfl, hs, (h1.trans h2).push _⟩

/-- Where a hub's map lies. -/
structure HubAt (w : World) (hb : Nat) (l : List (Nat × Value)) : Prop where
  at_ : ∃ mb arr clk, w.cell? ⟨hb, 2, none⟩ = some (.map (some mb)) ∧ w.heap[mb]? = some (.map arr clk) ∧ IsMap encName l arr clk

theorem alive_none (hb p : Nat) (l : List (Nat × Value)) (w : World) (h : HubAt w hb l) (hn : mget l p = none) : Calls Tryz.prog 48 #[.pointer (some ⟨hb, 0, none⟩), .int .u32 p] w fun en w' => en = .returned (.pointer none) ∧ w = w' := by
  obtain ⟨mb, arr, clk, h0, h1, hm⟩ := h.at_
  have hl := run_look (P := Tryz.prog) nameLaw Tryz.underlying87 (z := .pointer none) (by kernel_rfl) h1 hm p false
  rw [hn] at hl
  simp only [encName, Option.getD_none, Bool.false_eq_true, if_false] at hl
  go_enter Tryz.func48, Tryz.ntmps48
  go_wp2
  go_ret
  exact ⟨rfl, rfl⟩
set_option maxRecDepth 100000 in
theorem alive_some (hb p xb : Nat) (dead : Bool) (l : List (Nat × Value)) (w : World) (h : HubAt w hb l) (hn : mget l p = some (.pointer (some ⟨xb, 0, none⟩))) (hd : w.cell? ⟨xb, 0, none⟩ = some (.bool dead)) :
    Calls Tryz.prog 48 #[.pointer (some ⟨hb, 0, none⟩), .int .u32 p] w fun en w' => en = .returned (if dead then .pointer none else .pointer (some ⟨xb, 0, none⟩)) ∧ w = w' := by
  obtain ⟨mb, arr, clk, h0, h1, hm⟩ := h.at_
  have hl := run_look (P := Tryz.prog) nameLaw Tryz.underlying87 (z := .pointer none) (by kernel_rfl) h1 hm p false
  rw [hn] at hl
  simp only [encName, Option.getD_some, Bool.false_eq_true, if_false] at hl
  cases dead <;>
  · go_enter Tryz.func48, Tryz.ntmps48
    go_wp2
    go_ret
    exact ⟨rfl, rfl⟩
end Go.Proofs.YtdllibalmjadhaaGreat

namespace Go.Proofs.YtdllibalmjadhaaGreat
open Go Go.RowKit

set_option maxRecDepth 100000 in
theorem len64_zero (w : World) : Calls Tryz.prog 173 #[.int .u64 0] w fun en w' => ∃ k, en = .returned (.int .i64 k) ∧ w = w' := by
  go_enter Tryz.func173, Tryz.ntmps173
  go_wp2
  go_ret
  exact ⟨_, rfl, rfl⟩
set_option maxRecDepth 100000 in
theorem len64_one (w : World) : Calls Tryz.prog 173 #[.int .u64 1] w fun en w' => ∃ k, en = .returned (.int .i64 k) ∧ w = w' := by
  go_enter Tryz.func173, Tryz.ntmps173
  go_wp2
  go_ret
  exact ⟨_, rfl, rfl⟩
set_option maxRecDepth 100000 in
theorem lenBits_small (n : Nat) (hn : n ≤ 1) (w : World) : Calls Tryz.prog 152 #[.int .u64 n] w fun en w' => ∃ k, en = .returned (.int .i64 k) ∧ w = w' := by
  rcases (by omega : n = 0 ∨ n = 1) with rfl | rfl
  · go_enter Tryz.func152, Tryz.ntmps152
    go_wp2_with (go_at_call 173; refine (len64_zero w).mono ?_; rintro en w1 ⟨k, rfl, rfl⟩)
    go_ret
    exact ⟨_, rfl, rfl⟩
  · go_enter Tryz.func152, Tryz.ntmps152
    go_wp2_with (go_at_call 173; refine (len64_one w).mono ?_; rintro en w1 ⟨k, rfl, rfl⟩)
    go_ret
    exact ⟨_, rfl, rfl⟩

/-- A function without results is done. -/
theorem done_ret {P : Program} {f : Func} (hf : f.results = #[]) {post : Ending → World → Prop} {a : Act} {w : World} (h : post (.returned (.tuple #[])) w) (hd : a.defers = []) : bodyPost P f post .ret a w :=
  bodyPost_ret (v := .tuple #[]) (by simp [results, hf]) hd h
theorem done_norm {P : Program} {f : Func} (hf : f.results = #[]) {post : Ending → World → Prop} {a : Act} {w : World} (h : post (.returned (.tuple #[])) w) (hd : a.defers = []) : bodyPost P f post .normal a w :=
  ⟨hd, .tuple #[], by simp [results, hf], h⟩

set_option maxRecDepth 100000 in
theorem insSort_small (x f : Value) (n : Nat) (hn : n ≤ 1) (w : World) : Calls Tryz.prog 175 #[x, .int .i64 0, .int .i64 n, f] w fun en w' => en = .returned (.tuple #[]) ∧ w = w' := by
  have h0 : decide ((1 : Int) < (n : Int)) = false := by simp; omega
  have h1 : ¬ ((1 : Int) < (n : Int)) := by omega
  go_enter Tryz.func175, Tryz.ntmps175
  go_wp2
  refine wp_loop_once ?_
  go_wp2
  first | exact done_ret Tryz.results175 ⟨rfl, rfl⟩ rfl | exact done_norm Tryz.results175 ⟨rfl, rfl⟩ rfl
set_option maxRecDepth 100000 in
theorem pdq_small (x f k : Value) (n : Nat) (hn : n ≤ 1) (w : World) : Calls Tryz.prog 159 #[x, .int .i64 0, .int .i64 n, k, f] w fun en w' => en = .returned (.tuple #[]) ∧ w = w' := by
  have h0 : decide ((n : Int) ≤ 12) = true := by simp; omega
  have h1 : (n : Int) ≤ 12 := by omega
  have hw : IntKind.i64.wrap ((n : Int)) = n := IntWalk.i64_in _ (by omega)
  have HI := hid (insSort_small x f n hn)
  go_enter Tryz.func159, Tryz.ntmps159
  go_wp2
  refine wp_loop_once ?_
  go_wp2_with (go_at_call 175; refine (HI.out _).mono ?_; rintro en w1 ⟨rfl, rfl⟩)
  first | exact done_ret Tryz.results159 ⟨rfl, rfl⟩ rfl | exact done_norm Tryz.results159 ⟨rfl, rfl⟩ rfl
set_option maxRecDepth 100000 in
theorem sort_small (a : Option Addr) (f : Value) (n c : Nat) (hn : n ≤ 1) (w : World) : Calls Tryz.prog 134 #[.slice a n c, f] w fun en w' => en = .returned (.tuple #[]) ∧ w = w' := by
  have hw : IntKind.u64.wrap (n : Int) = n := by
    rcases (by omega : n = 0 ∨ n = 1) with rfl | rfl <;> rfl
  have HP := hid (fun k => pdq_small (.slice a n c) f k n hn w)
  have HL := hid (lenBits_small n hn w)
  go_enter Tryz.func134, Tryz.ntmps134
  go_wp2_with (first | (go_at_call 152; refine HL.out.mono ?_; rintro en w1 ⟨k, rfl, rfl⟩) | (go_at_call 159; refine (HP.out _).mono ?_; rintro en w1 ⟨rfl, rfl⟩))
  first | exact done_ret Tryz.results134 ⟨rfl, rfl⟩ rfl | exact done_norm Tryz.results134 ⟨rfl, rfl⟩ rfl
end Go.Proofs.YtdllibalmjadhaaGreat
