/- The ring: a point is added. Maps as lists of keys and values: what the machine's operations on a map's block do. The keys of the program's maps. -/
import Derived.Test.YtdllibalmjadhaaGreatE4
import Derived.Test.YtdllibalmjadhaaGreatE1
import Derived.Laws.StructEq
import Derived.Test.YtdllibalmjadhaaGreatProg

namespace Go.Proofs.YtdllibalmjadhaaGreat
open Go Go.RowKit

theorem insert_any (w : World) (c fr : Chunk) (v : Value) (l : List Nat) (i p : Nat) (hok : Ok w (c ++ fr)) (hrow : Row 23 1 c v l.length (u32s l)) (hn : l.length ≤ 100) (hi : i ≤ l.length) (vb : Nat) (T : TypeId) (hx : (vb, .cells #[.int .u32 p] T (0, 0)) ∈ fr) :
    Calls Tryz.prog 101 #[v, .int .i64 i, .slice (some ⟨vb, 0, none⟩) 1 1] w (GrowsTo 23 1 w fr (l.length + 1) (u32s (l.take i ++ [p] ++ l.drop i))) := by
  have hxc : w.cell? ⟨vb, 0, none⟩ = some (.int .u32 p) := by rw [hok.cell (List.mem_append_right _ hx)]; rfl
  have hu : u32s (l.take i ++ [p] ++ l.drop i) = ((u32s l).take i ++ [.int .u32 p]) ++ (u32s l).drop i := by simp [u32s]
  rcases Nat.lt_or_ge i l.length with h | h
  · rcases hrow.2 with ⟨_, h0, _⟩ | ⟨g, cap, cur, rfl, rfl, hcap, hmax, hsz, htk⟩
    · omega
    · rw [Nat.mul_one] at htk
      have h1 : ∀ u ∈ cur.toList.take l.length, u.oneCell' = true := by rw [htk]; exact u32s_one l
      have e1 : cur.toList.take i = (u32s l).take i := by rw [← htk, List.take_take]; congr 1; omega
      rw [hu, ← e1, ← htk]
      rcases Nat.lt_or_ge cap (l.length + 1) with hc | hc
      · exact insert_grow w fr g cap l.length i cur hok hc hcap hsz hn h h1 vb _ T hx rfl
      · exact insert_room w fr g cap l.length i cur hok hc hmax hsz hn h h1 vb _ T hx rfl
  · obtain rfl : i = l.length := by omega
    have := insert_end w c fr v l.length (u32s l) hok hrow hn vb (.int .u32 p) hxc rfl
    rw [hu, List.take_of_length_le (by simp [u32s]), List.drop_of_length_le (by simp [u32s]), List.append_nil]
    exact this

def addP (l : List Nat) (p : Nat) : List Nat := l.take (lb l p) ++ [p] ++ l.drop (lb l p)
theorem addP_length (l : List Nat) (p : Nat) : (addP l p).length = l.length + 1 := by
  have := lb_le l p
  simp [addP]; omega

/-- A ring stands there, of these points. -/
def RingPost (w : World) (fr : Chunk) (rb : Nat) (l : List Nat) (r : Value) (en : Ending) (w' : World) : Prop := ∃ c', en = .returned r ∧ IsRing c' rb l ∧ Ok w' (c' ++ fr) ∧ Same w w'

set_option maxHeartbeats 1000000 in
theorem add_new (w : World) (c fr : Chunk) (rb p : Nat) (l : List Nat) (hok : Ok w (c ++ fr)) (hr : IsRing c rb l) (hl : RingOk l) (hp : p ∉ l) (hlt : l.length < 64) :
    Calls Tryz.prog 55 #[.pointer (some ⟨rb, 0, none⟩), .int .u32 p] w (RingPost w fr rb (addP l p) (.int .i64 0)) := by
  have hat := hr.at hok
  obtain ⟨v, cr, rfl, hrow⟩ := hr
  have hd : decide (p ∈ l) = false := by simpa using hp
  have hx : w.cell? ⟨rb, 0, none⟩ = some v := by rw [hok.cell (List.mem_append_left _ (List.mem_cons_self ..))]; rfl
  have hf : w.frozen? ⟨rb, 0, none⟩ = false := hok.frozen (List.mem_append_left _ (List.mem_cons_self ..)) 0
  have hcs : Calls Tryz.prog 35 #[v, .int .u32 p] w fun e w' => e = .returned (.tuple #[.int .i64 (lb l p : Nat), .bool false]) ∧ ∃ q, w.drewN q = w' := by
    obtain ⟨x, hx', hrd⟩ := hat
    rw [hx] at hx'; cases hx'
    rcases hrd with ⟨rfl, rfl⟩ | ⟨b, off, cap, rfl, hcap, hc⟩
    · exact search_nil p w
    · have := search_any b off l cap p w (by omega) hl.rising hc
      rwa [hd] at this
  have hins : ∀ (q : Nat), Calls Tryz.prog 101 #[v, .int .i64 (lb l p : Nat), .slice (some ⟨w.heap.size, 0, none⟩) 1 1] ((w.drewN q).alloc (.cells #[.int .u32 p] 23)) (GrowsTo 23 1 ((w.drewN q).alloc (.cells #[.int .u32 p] 23)) ((w.heap.size, .cells #[.int .u32 p] 23 (0, 0)) :: (rb, .cells #[v] 92 (0, 0)) :: fr) (l.length + 1) (u32s (addP l p))) := by
    intro q
    refine insert_any _ cr _ v l (lb l p) p ?_ hrow (by omega) (lb_le l p) _ 23 (List.mem_cons_self ..)
    exact ((hok.drewN q).alloc _).re (by simp only [World.drewN]; grind) (by simp only [List.map_cons, List.map_append, World.drewN]; grind)
  obtain ⟨a, cap, rfl⟩ := hrow.slice
  have HS := hid hcs
  have HI := hid hins
  have hal := addP_length l p
  clear hcs hins hat
  generalize lb l p = i at *
  generalize addP l p = l' at *
  generalize hn : l.length = n at *
  have HN := hid hn
  have HL := hid hal
  clear hn hal
  go_enter Tryz.func55, Tryz.ntmps55
  go_wp2_with (first
    | (go_at_call 35; refine HS.out.mono ?_; rintro e w1 ⟨rfl, q, rfl⟩)
    | (go_at_call 101; refine (HI.out _).mono ?_; rintro e w2 ⟨v', c', rfl, hrow', hok', hs'⟩; have hx2 := hok'.cell (b := rb) (cs := #[.slice a n cap]) (T := 92) (fz := (0, 0)) (by simp) 0; have hf2 := hok'.frozen (b := rb) (cs := #[.slice a n cap]) (T := 92) (by simp) 0; simp at hx2; obtain ⟨a', cap', rfl⟩ := hrow'.slice))
  go_ret
  have hok2 : Ok _ ((rb, .cells #[.slice a n cap] 92 (0, 0)) :: (c' ++ fr)) := hok'.re (c' := (rb, .cells #[.slice a n cap] 92 (0, 0)) :: (c' ++ fr)) (by grind) (by simp only [List.map_cons, List.map_append]; grind)
  refine ⟨(rb, .cells #[.slice a' (n + 1) cap'] 92 (0, 0)) :: c', rfl, ⟨_, c', rfl, by rw [HL.out]; exact hrow'⟩, hok2.setCell 0 _, ?_⟩
  exact ((((Same.refl w).drewN q).alloc _).trans hs').setCell _ _

theorem add_full (w : World) (rb p : Nat) (l : List Nat) (hr : RingAt w rb l) (hl : RingOk l) (hp : p ∉ l) (hlt : ¬ l.length < 64) :
    Calls Tryz.prog 55 #[.pointer (some ⟨rb, 0, none⟩), .int .u32 p] w fun e w' => e = .returned (.int .i64 5) ∧ Below w.heap.size w w' := by
  have hle := hl.le
  have hd : decide (p ∈ l) = false := by simpa using hp
  obtain ⟨v, hx, hrd⟩ := hr
  rcases hrd with ⟨rfl, rfl⟩ | ⟨b, off, cap, rfl, hcap, hc⟩
  · simp at hlt
  · have hcs := search_any b off l cap p w (by omega) hl.rising hc
    rw [hd] at hcs
    have HS := hid hcs
    clear hcs hc
    generalize lb l p = i at *
    generalize hn : l.length = n at *
    have HN := hid hn
    clear hn
    have hn64 : n = 64 := by omega
    subst hn64
    go_enter Tryz.func55, Tryz.ntmps55
    go_wp2_with (go_at_call 35; refine HS.out.mono ?_; rintro e w1 ⟨rfl, q, rfl⟩)
    go_ret
    exact ⟨rfl, drewN_below _ _⟩
end Go.Proofs.YtdllibalmjadhaaGreat

namespace Go.Proofs.YtdllibalmjadhaaGreat
open Go Go.RowKit

section
variable {P : Program} {K : Type} [DecidableEq K]

/-- Keys of a map's key type. -/
structure KeyLaw (P : Program) (kT : TypeId) (enc : K → Value) : Prop where
  und : ∃ kd, P.underlying kT = some kd ∧ ∀ a b, Instr.sameNow kd (enc a) (enc b) = none ∨ Instr.sameNow kd (enc a) (enc b) = some (decide (a = b))
  check : ∀ (e : Bool) (k : K) (w : World), (Instr.checkKey e 10000 kT (enc k)).run P w = .ok () w
  same : ∀ (a b : K) (w : World), (Op.equal kT (enc a) (enc b)).run P w = .ok (decide (a = b)) w
  bits : ∀ k, Instr.sameBits 10000 (enc k) (enc k) = true

def mget {V : Type} : List (K × V) → K → Option V
  | [], _ => none
  | p :: l, k => if k = p.1 then some p.2 else mget l k
def mput {V : Type} : List (K × V) → K → V → List (K × V)
  | [], k, v => [(k, v)]
  | p :: l, k, v => if k = p.1 then (p.1, v) :: l else p :: mput l k v
def mdel {V : Type} (l : List (K × V)) (k : K) : List (K × V) := l.filter fun p => decide (p.1 ≠ k)

/-- The place of a key. -/
def midx : List K → K → Option Nat
  | [], _ => none
  | a :: l, k => if k = a then some 0 else (midx l k).map (· + 1)

theorem mget_none {V : Type} {l : List (K × V)} {k : K} : mget l k = none ↔ k ∉ l.map Prod.fst := by
  induction l with
  | nil => simp [mget]
  | cons p l ih =>
    simp only [mget, List.map_cons, List.mem_cons, not_or]
    by_cases h : k = p.1 <;> simp [h, ih]
theorem mget_mem {V : Type} {l : List (K × V)} {k : K} {v : V} (h : mget l k = some v) : (k, v) ∈ l := by
  induction l with
  | nil => simp [mget] at h
  | cons p l ih =>
    simp only [mget] at h
    by_cases e : k = p.1
    · rw [if_pos e] at h; cases h; subst e; simp
    · rw [if_neg e] at h; exact List.mem_cons_of_mem _ (ih h)
theorem mget_of_mem {V : Type} {l : List (K × V)} (hn : (l.map Prod.fst).Nodup) {k : K} {v : V} (h : (k, v) ∈ l) : mget l k = some v := by
  induction l with
  | nil => cases h
  | cons p l ih =>
    simp only [List.map_cons, List.nodup_cons] at hn
    simp only [mget]
    rcases List.mem_cons.1 h with rfl | h
    · simp
    · have : k ≠ p.1 := fun e => hn.1 (e ▸ List.mem_map.2 ⟨_, h, rfl⟩)
      rw [if_neg this]; exact ih hn.2 h
theorem mput_fst_of_mem {V : Type} {l : List (K × V)} {k : K} {v : V} (h : k ∈ l.map Prod.fst) : (mput l k v).map Prod.fst = l.map Prod.fst := by
  induction l with
  | nil => cases h
  | cons p l ih =>
    simp only [mput]
    by_cases e : k = p.1
    · simp [e]
    · rw [if_neg e]
      simp only [List.map_cons, List.mem_cons] at h ⊢
      rw [ih (h.resolve_left e)]
theorem mput_of_not {V : Type} {l : List (K × V)} {k : K} {v : V} (h : k ∉ l.map Prod.fst) : mput l k v = l ++ [(k, v)] := by
  induction l with
  | nil => rfl
  | cons p l ih =>
    simp only [List.map_cons, List.mem_cons, not_or] at h
    simp only [mput]
    rw [if_neg h.1, ih h.2]; rfl
theorem mput_nodup {V : Type} {l : List (K × V)} (hn : (l.map Prod.fst).Nodup) (k : K) (v : V) : ((mput l k v).map Prod.fst).Nodup := by
  by_cases h : k ∈ l.map Prod.fst
  · rw [mput_fst_of_mem h]; exact hn
  · rw [mput_of_not h]
    simp only [List.map_append, List.map_cons, List.map_nil]
    rw [List.nodup_append]
    refine ⟨hn, by simp, ?_⟩
    intro a ha b hb e
    simp at hb
    subst hb; subst e; exact h ha
theorem mget_mput {V : Type} (l : List (K × V)) (k k' : K) (v : V) : mget (mput l k v) k' = if k' = k then some v else mget l k' := by
  induction l with
  | nil => simp only [mput, mget]
  | cons p l ih =>
    simp only [mput]
    by_cases e : k = p.1
    · rw [if_pos e]
      simp only [mget]
      by_cases e' : k' = k
      · rw [if_pos (e'.trans e), if_pos e']
      · rw [if_neg (fun h => e' (h.trans e.symm)), if_neg e', if_neg (fun h => e' (h.trans e.symm))]
    · rw [if_neg e]
      simp only [mget, ih]
      by_cases e' : k' = p.1
      · rw [if_pos e', if_neg (fun h => e (h.symm.trans e'))]; simp [e']
      · simp [e']

/-- A map's entries: these keys, each with its value. -/
structure IsMap (enc : K → Value) (l : List (K × Value)) (es : Array MapEntry) (clk : Nat) : Prop where
  ents : es.toList.map (fun e => (e.key, e.val)) = l.map fun p => (enc p.1, p.2)
  nd : (l.map Prod.fst).Nodup
  born : (es.toList.map (·.born)).Nodup
  lt : ∀ e ∈ es.toList, e.born < clk

omit [DecidableEq K] in
theorem IsMap.empty (enc : K → Value) : IsMap enc [] #[] 0 := ⟨rfl, by simp, by simp, by simp⟩
omit [DecidableEq K] in
theorem IsMap.size {enc : K → Value} {l : List (K × Value)} {es : Array MapEntry} {clk : Nat} (h : IsMap enc l es clk) : es.size = l.length := by
  have := congrArg List.length h.ents
  simpa using this

variable {kT : TypeId} {enc : K → Value}

theorem find_asking (L : KeyLaw P kT enc) (k : K) (w : World) : ∀ (es : List MapEntry) (l : List (K × Value)) (i : Nat), es.map (fun e => (e.key, e.val)) = l.map (fun p => (enc p.1, p.2)) →
    (Instr.findAsking kT (enc k) es i).run P w = .ok ((midx (l.map Prod.fst) k).bind fun j => (es[j]?).map fun e => (i + j, e.val)) w
  | [], l, i, h => by
    have : l = [] := by cases l <;> simp_all
    subst this; simp [Instr.findAsking, midx]
  | e :: es, [], i, h => by simp at h
  | e :: es, p :: l, i, h => by
    simp only [List.map_cons, List.cons.injEq, Prod.mk.injEq] at h
    obtain ⟨⟨h1, h2⟩, h3⟩ := h
    simp only [Instr.findAsking, Sem.run_bind, h1, L.same, Result.andThen_ok, List.map_cons, midx]
    by_cases e' : k = p.1
    · simp [e']
    · simp only [e', decide_false, Bool.false_eq_true, if_false]
      rw [find_asking L k w es l (i + 1) h3]
      cases midx (l.map Prod.fst) k with
      | none => simp
      | some j => simp [Nat.add_assoc, Nat.add_comm 1 j]

theorem find_now {kd : TypeDesc} (hnow : ∀ a b, Instr.sameNow kd (enc a) (enc b) = none ∨ Instr.sameNow kd (enc a) (enc b) = some (decide (a = b))) (k : K) : ∀ (es : List MapEntry) (l : List (K × Value)) (i : Nat), es.map (fun e => (e.key, e.val)) = l.map (fun p => (enc p.1, p.2)) →
    Instr.findNow kd (enc k) es i = none ∨ Instr.findNow kd (enc k) es i = some ((midx (l.map Prod.fst) k).bind fun j => (es[j]?).map fun e => (i + j, e.val))
  | [], l, i, h => by
    have : l = [] := by cases l <;> simp_all
    subst this; simp [Instr.findNow, midx]
  | e :: es, [], i, h => by simp at h
  | e :: es, p :: l, i, h => by
    simp only [List.map_cons, List.cons.injEq, Prod.mk.injEq] at h
    obtain ⟨⟨h1, h2⟩, h3⟩ := h
    simp only [Instr.findNow, h1, List.map_cons, midx]
    rcases hnow k p.1 with hn | hn
    · rw [hn]; exact .inl rfl
    · rw [hn]
      by_cases e' : k = p.1
      · simp [e']
      · simp only [e', decide_false, if_false]
        rcases find_now hnow k es l (i + 1) h3 with h | h
        · exact .inl h
        · rw [h]
          refine .inr ?_
          cases midx (l.map Prod.fst) k with
          | none => simp
          | some j => simp [Nat.add_assoc, Nat.add_comm 1 j]

theorem run_find (L : KeyLaw P kT enc) (k : K) (w : World) (es : List MapEntry) (l : List (K × Value)) (h : es.map (fun e => (e.key, e.val)) = l.map (fun p => (enc p.1, p.2))) :
    (Instr.findKey kT (enc k) es).run P w = .ok ((midx (l.map Prod.fst) k).bind fun j => (es[j]?).map fun e => (j, e.val)) w := by
  obtain ⟨kd, hu, hnow⟩ := L.und
  have hfa := find_asking L k w es l 0 h
  simp only [Nat.zero_add] at hfa
  rcases find_now hnow k es l 0 h with hn | hn
  · simp only [Instr.findKey, Sem.run_bind, run_underlying hu, Result.andThen_ok, hn]; exact hfa
  · simp only [Instr.findKey, Sem.run_bind, run_underlying hu, Result.andThen_ok, hn]
    simp

theorem midx_get (l : List (K × Value)) (k : K) (es : List MapEntry) (h : es.map (fun e => (e.key, e.val)) = l.map (fun p => (enc p.1, p.2))) :
    ((midx (l.map Prod.fst) k).bind fun j => (es[j]?).map fun e => (j, e.val)).map (·.2) = mget l k := by
  induction l generalizing es with
  | nil => simp [midx, mget]
  | cons p l ih =>
    cases es with
    | nil => simp at h
    | cons e es =>
      simp only [List.map_cons, List.cons.injEq, Prod.mk.injEq] at h
      simp only [List.map_cons, midx, mget]
      by_cases e' : k = p.1
      · simp [e', h.1.2]
      · simp only [e', if_false]
        rw [← ih es h.2]
        cases midx (l.map Prod.fst) k <;> simp [Option.map_map, Function.comp_def]

theorem run_look (L : KeyLaw P kT enc) {T eT : TypeId} (hT : P.underlying T = some (.map kT eT)) {z : Value} {w : World} (hz : (zeroValue eT).run P w = .ok z w) {b : Nat} {l : List (K × Value)} {es : Array MapEntry} {clk : Nat}
    (hb : w.heap[b]? = some (.map es clk)) (hm : IsMap enc l es clk) (k : K) (ok : Bool) :
    (Instr.lookup T (.map (some b)) (enc k) ok).run P w = .ok (if ok then .tuple #[(mget l k).getD z, .bool (mget l k).isSome] else (mget l k).getD z) w := by
  have hg := midx_get l k es.toList hm.ents
  simp only [Instr.lookup, Sem.run_bind, run_underlying hT, Result.andThen_ok, Go.getObj, Sem.run, hb, Sem.run_pure, L.check, run_find L k w es.toList l hm.ents]
  rw [← hg]
  cases (midx (l.map Prod.fst) k).bind fun j => (es.toList[j]?).map fun e => (j, e.val) with
  | none => cases ok <;> simp [hz]
  | some r => cases ok <;> simp

theorem run_look_nil (L : KeyLaw P kT enc) {T eT : TypeId} (hT : P.underlying T = some (.map kT eT)) {z : Value} {w : World} (hz : (zeroValue eT).run P w = .ok z w) (k : K) (ok : Bool) :
    (Instr.lookup T (.map none) (enc k) ok).run P w = .ok (if ok then .tuple #[z, .bool false] else z) w := by
  have := run_find L k w [] [] rfl
  simp only [Instr.lookup, Sem.run_bind, run_underlying hT, Result.andThen_ok, Sem.run_pure, L.check, this]
  cases ok <;> simp [hz, midx]

theorem midx_none {l : List K} {k : K} (h : midx l k = none) : k ∉ l := by
  induction l with
  | nil => simp
  | cons a l ih =>
    simp only [midx] at h
    by_cases e : k = a
    · simp [e] at h
    · simp only [e, if_false, Option.map_eq_none_iff] at h
      simp [e, ih h]
theorem midx_some {l : List K} {k : K} {j : Nat} (h : midx l k = some j) : l[j]? = some k := by
  induction l generalizing j with
  | nil => simp [midx] at h
  | cons a l ih =>
    simp only [midx] at h
    by_cases e : k = a
    · simp only [e, if_true, Option.some.injEq] at h; subst h; simp [e]
    · simp only [e, if_false, Option.map_eq_some_iff] at h
      obtain ⟨j', h1, rfl⟩ := h
      simpa using ih h1
theorem mput_at {l : List (K × Value)} {k : K} {j : Nat} (h : midx (l.map Prod.fst) k = some j) (v : Value) : mput l k v = l.set j (k, v) := by
  induction l generalizing j with
  | nil => simp [midx] at h
  | cons p l ih =>
    simp only [List.map_cons, midx] at h
    simp only [mput]
    by_cases e : k = p.1
    · simp only [e, if_true, Option.some.injEq] at h; subst h; simp [e]
    · simp only [e, if_false, Option.map_eq_some_iff] at h
      obtain ⟨j', h1, rfl⟩ := h
      rw [if_neg e, ih h1]; rfl
theorem mdel_at {l : List (K × Value)} (hn : (l.map Prod.fst).Nodup) {k : K} {j : Nat} (h : midx (l.map Prod.fst) k = some j) : mdel l k = l.eraseIdx j := by
  induction l generalizing j with
  | nil => simp [midx] at h
  | cons p l ih =>
    simp only [List.map_cons, List.nodup_cons] at hn
    simp only [List.map_cons, midx] at h
    by_cases e : k = p.1
    · simp only [e, if_true, Option.some.injEq] at h; subst h
      simp only [mdel, List.filter_cons, e, ne_eq, not_true_eq_false, decide_false, Bool.false_eq_true, if_false, List.eraseIdx_cons_zero]
      rw [List.filter_eq_self.2]
      intro q hq
      have : q.1 ≠ p.1 := fun e' => hn.1 (e' ▸ List.mem_map.2 ⟨q, hq, rfl⟩)
      simpa using this
    · simp only [e, if_false, Option.map_eq_some_iff] at h
      obtain ⟨j', h1, rfl⟩ := h
      have := ih hn.2 h1
      simp only [mdel] at this ⊢
      rw [List.filter_cons, if_pos (by simpa using fun e' => e (Eq.symm e')), this]; rfl
theorem mdel_not {l : List (K × Value)} {k : K} (h : k ∉ l.map Prod.fst) : mdel l k = l := by
  unfold mdel
  rw [List.filter_eq_self.2]
  intro q hq
  have : q.1 ≠ k := fun e' => h (e' ▸ List.mem_map.2 ⟨q, hq, rfl⟩)
  simpa using this

omit [DecidableEq K] in
theorem map_eraseIdx {α β : Type} (f : α → β) (l : List α) (j : Nat) : (l.eraseIdx j).map f = (l.map f).eraseIdx j := by
  induction l generalizing j with
  | nil => simp
  | cons a l ih => cases j <;> simp [ih]
theorem IsMap.set {l : List (K × Value)} {es : Array MapEntry} {clk : Nat} (h : IsMap enc l es clk) {k : K} {j : Nat} (hj : midx (l.map Prod.fst) k = some j) (v : Value) :
    IsMap enc (mput l k v) (es.modify j fun e => { e with key := enc k, val := v }) clk := by
  have hk := midx_some hj
  have hlen : l.length = es.toList.length := by have := congrArg List.length h.ents; simpa using this.symm
  refine ⟨?_, mput_nodup h.nd k v, ?_, ?_⟩
  · rw [mput_at hj]
    apply List.ext_getElem?
    intro i
    have hi := congrArg (fun x : List (Value × Value) => x[i]?) h.ents
    simp only [List.getElem?_map] at hi ⊢
    by_cases e : j = i
    · subst e
      have hjl : j < l.length := by
        have := (List.getElem?_eq_some_iff.1 hk).1; simpa using this
      have hje : j < es.toList.length := by omega
      have hje' : j < es.size := by simpa using hje
      rw [List.getElem?_set_self hjl]
      simp [Array.getElem?_eq_getElem hje']
    · rw [List.getElem?_set_ne e]
      simp only [Array.getElem?_toList, Array.getElem?_modify, e, if_false] at hi ⊢
      exact hi
  · have : (es.modify j fun e => { e with key := enc k, val := v }).toList.map (·.born) = es.toList.map (·.born) := by
      apply List.ext_getElem?
      intro i
      simp only [List.getElem?_map, Array.getElem?_toList, Array.getElem?_modify]
      by_cases e : j = i
      · simp only [e, if_true]; cases es[i]? <;> simp
      · simp only [e, if_false]
    rw [this]; exact h.born
  · intro e he
    obtain ⟨i, hi⟩ := List.mem_iff_getElem?.1 he
    simp only [Array.getElem?_toList, Array.getElem?_modify] at hi
    by_cases e' : j = i
    · simp only [e', if_true, Option.map_eq_some_iff] at hi
      obtain ⟨e0, h0, rfl⟩ := hi
      exact h.lt e0 (List.mem_of_getElem? (i := i) (by simpa using h0))
    · simp only [e', if_false] at hi
      exact h.lt e (List.mem_of_getElem? (i := i) (by simpa using hi))
theorem IsMap.push {l : List (K × Value)} {es : Array MapEntry} {clk : Nat} (h : IsMap enc l es clk) {k : K} (hk : k ∉ l.map Prod.fst) (v : Value) :
    IsMap enc (mput l k v) (es.push { key := enc k, val := v, born := clk }) (clk + 1) := by
  refine ⟨?_, mput_nodup h.nd k v, ?_, ?_⟩
  · rw [mput_of_not hk]; simp [h.ents]
  · simp only [Array.toList_push, List.map_append, List.map_cons, List.map_nil]
    rw [List.nodup_append]
    refine ⟨h.born, by simp, ?_⟩
    intro a ha b hb e
    obtain ⟨x, hx, rfl⟩ := List.mem_map.1 ha
    have := h.lt x hx
    simp at hb; omega
  · intro e he
    simp only [Array.toList_push, List.mem_append, List.mem_singleton] at he
    rcases he with he | rfl
    · have := h.lt e he; omega
    · simp
theorem IsMap.del {l : List (K × Value)} {es : Array MapEntry} {clk : Nat} (h : IsMap enc l es clk) {k : K} {j : Nat} (hj : midx (l.map Prod.fst) k = some j) :
    IsMap enc (mdel l k) (es.eraseIdxIfInBounds j) clk := by
  have hsub : (es.eraseIdxIfInBounds j).toList = es.toList.eraseIdx j := by
    simp [Array.toList_eraseIdxIfInBounds]
  refine ⟨?_, ?_, ?_, ?_⟩
  · rw [hsub, mdel_at h.nd hj, map_eraseIdx, h.ents, map_eraseIdx]
  · exact h.nd.sublist (List.filter_sublist.map _)
  · rw [hsub]; exact h.born.sublist ((List.eraseIdx_sublist _ _).map _)
  · intro e he
    rw [hsub] at he
    exact h.lt e ((List.eraseIdx_sublist _ _).subset he)

theorem run_update (L : KeyLaw P kT enc) {T eT : TypeId} (hT : P.underlying T = some (.map kT eT)) {w : World} {b : Nat} {l : List (K × Value)} {es : Array MapEntry} {clk : Nat}
    (hb : w.heap[b]? = some (.map es clk)) (hm : IsMap enc l es clk) (k : K) (v : Value) :
    ∃ es' clk', IsMap enc (mput l k v) es' clk' ∧ (Instr.mapUpdate T (.map (some b)) (enc k) v).run P w = .ok () (setBlk w b (.map es' clk')) := by
  cases hj : midx (l.map Prod.fst) k with
  | none =>
    refine ⟨_, _, hm.push (midx_none hj) v, ?_⟩
    simp only [Instr.mapUpdate, Sem.run_bind, run_underlying hT, Result.andThen_ok, Go.getObj, Go.setObj, Sem.run, hb, L.check, run_find L k w es.toList l hm.ents, hj, Option.bind_none]
    rfl
  | some j =>
    refine ⟨_, _, hm.set hj v, ?_⟩
    have hjl : j < es.toList.length := by
      have h1 := (List.getElem?_eq_some_iff.1 (midx_some hj)).1
      have h2 := congrArg List.length hm.ents
      simp at h1 h2 ⊢; omega
    have hkey : (es.toList[j]).key = enc k := by
      have hi := congrArg (fun x : List (Value × Value) => x[j]?) hm.ents
      have h3 := midx_some hj
      simp only [List.getElem?_map, List.getElem?_eq_getElem hjl] at hi h3
      cases hl : l[j]? with
      | none => rw [hl] at h3; simp at h3
      | some p => rw [hl] at hi h3; simp at hi h3; simpa [h3] using hi.1
    have hsz : j < es.size := by simpa using hjl
    have hkey' : (es[j]).key = enc k := by simpa using hkey
    simp only [Instr.mapUpdate, Sem.run_bind, run_underlying hT, Result.andThen_ok, Go.getObj, Go.setObj, Sem.run, hb, Sem.run_pure, L.check, run_find L k w es.toList l hm.ents, hj, Option.bind_some, List.getElem?_eq_getElem hjl, Option.map_some,
      Array.getElem?_eq_getElem hsz, Option.getD_some, hkey', Instr.keyThatStays, L.bits, if_true]
    rfl

theorem run_delete (L : KeyLaw P kT enc) {T eT : TypeId} (hT : P.underlying T = some (.map kT eT)) {w : World} {b : Nat} {l : List (K × Value)} {es : Array MapEntry} {clk : Nat}
    (hb : w.heap[b]? = some (.map es clk)) (hm : IsMap enc l es clk) (k : K) (T2 ty : TypeId) :
    ∃ es' clk', IsMap enc (mdel l k) es' clk' ∧ (Builtin.delete_ #[T, T2] ty #[.map (some b), enc k]).run P w = .ok (.tuple #[]) (setBlk w b (.map es' clk')) := by
  cases hj : midx (l.map Prod.fst) k with
  | none =>
    refine ⟨es, clk, by rw [mdel_not (midx_none hj)]; exact hm, ?_⟩
    simp [Builtin.delete_, run_underlying hT, Go.getObj, Go.setObj, Sem.run, hb, L.check, run_find L k w es.toList l hm.ents, hj, setBlk]
  | some j =>
    have hjl : j < es.toList.length := by
      have h1 := (List.getElem?_eq_some_iff.1 (midx_some hj)).1
      have h2 := congrArg List.length hm.ents
      simp at h1 h2 ⊢; omega
    have hsz : j < es.size := by simpa using hjl
    refine ⟨_, _, hm.del hj, ?_⟩
    simp [Builtin.delete_, run_underlying hT, Go.getObj, Go.setObj, Sem.run, hb, L.check, run_find L k w es.toList l hm.ents, hj, setBlk, hsz]

omit [DecidableEq K] in
theorem run_maplen {T eT : TypeId} (hT : P.underlying T = some (.map kT eT)) {w : World} {b : Nat} {l : List (K × Value)} {es : Array MapEntry} {clk : Nat}
    (hb : w.heap[b]? = some (.map es clk)) (hm : IsMap enc l es clk) (ty : TypeId) : (Builtin.len_ #[T] ty #[.map (some b)]).run P w = .ok (.int .i64 (l.length : Nat)) w := by
  simp [Builtin.len_, run_underlying hT, Go.getObj, Sem.run, hb, hm.size, goInt]

theorem run_range {T eT : TypeId} (hT : P.underlying T = some (.map kT eT)) {w : World} {b : Nat} {es : Array MapEntry} {clk : Nat} (hb : w.heap[b]? = some (.map es clk)) :
    (Instr.range T (.map (some b))).run P w = .ok (.pointer (some ⟨w.heap.size, 0, none⟩)) (w.alloc (.mapIter (some b) clk #[] clk)) := by
  simp [Instr.range, run_underlying hT, Go.getObj, Go.newObj, Sem.run, hb, World.alloc_eq]

/-- A range over a map is on its way: 'todo' is still to come. -/
structure Ranging (enc : K → Value) (l todo : List (K × Value)) (es : Array MapEntry) (clk : Nat) (seen : Array Nat) : Prop where
  map : IsMap enc l es clk
  left : (es.toList.filter fun e => !seen.contains e.born).map (fun e => (e.key, e.val)) = todo.map fun p => (enc p.1, p.2)
  sub : todo.Sublist l

omit [DecidableEq K] in
theorem Ranging.start {l : List (K × Value)} {es : Array MapEntry} {clk : Nat} (h : IsMap enc l es clk) : Ranging enc l l es clk #[] :=
  ⟨h, by have : (es.toList.filter fun e => !(#[] : Array Nat).contains e.born) = es.toList := by simp [List.filter_eq_self.2]
         rw [this]; exact h.ents, List.Sublist.refl _⟩

omit [DecidableEq K] in
theorem run_next_over {w : World} {ib b : Nat} {l : List (K × Value)} {es : Array MapEntry} {clk : Nat} {seen : Array Nat} (hi : w.heap[ib]? = some (.mapIter (some b) clk seen clk)) (hb : w.heap[b]? = some (.map es clk))
    (hr : Ranging enc l [] es clk seen) (ty : TypeId) : (Instr.next (.pointer (some ⟨ib, 0, none⟩)) false ty).run P w = .ok (.tuple #[.bool false]) w := by
  have hl : (es.filter fun e => !seen.contains e.born) = #[] := by
    have := hr.left
    simp only [List.map_nil, List.map_eq_nil_iff] at this
    rw [← Array.toList_inj]; simpa using this
  have hne : (!seen.isEmpty && !es.isEmpty && es.all (·.born ≥ clk)) = false := by
    cases hes : es.toList with
    | nil =>
      have : es = #[] := by rw [← Array.toList_inj]; simpa using hes
      simp [this]
    | cons e r =>
      have h1 := hr.map.lt e (by rw [hes]; simp)
      have h2 : e ∈ es := by rw [← Array.mem_toList_iff, hes]; simp
      have : es.all (·.born ≥ clk) = false := by
        rw [Array.all_eq_false']
        exact ⟨e, h2, by simpa using h1⟩
      rw [this]; simp
  simp only [Instr.next, Sem.run_bind, Go.getObj, Sem.run, hi, hb, Result.andThen_ok, hne, Bool.false_eq_true, if_false, hl]
  simp [choose, Sem.run, Question.forced]

theorem filter_out {N n1 n2 : List MapEntry} {e : MapEntry} (hnd : (N.map (·.born)).Nodup) (hN : N = n1 ++ e :: n2) : (N.filter fun x => !(x.born == e.born)) = n1 ++ n2 := by
  subst hN
  simp only [List.map_append, List.map_cons, List.nodup_append, List.nodup_cons] at hnd
  obtain ⟨_, ⟨h2, _⟩, h3⟩ := hnd
  rw [List.filter_append, List.filter_cons]
  simp only [beq_self_eq_true, Bool.not_true, Bool.false_eq_true, if_false]
  rw [List.filter_eq_self.2, List.filter_eq_self.2]
  · intro x hx
    have : x.born ≠ e.born := fun h => h2 (h ▸ List.mem_map.2 ⟨x, hx, rfl⟩)
    simpa using this
  · intro x hx
    have : x.born ≠ e.born := fun h => h3 x.born (List.mem_map.2 ⟨x, hx, rfl⟩) e.born (by simp) h
    simpa using this
theorem find_born {N : List MapEntry} {e : MapEntry} (hnd : (N.map (·.born)).Nodup) (he : e ∈ N) : N.find? (·.born == e.born) = some e := by
  induction N with
  | nil => cases he
  | cons x N ih =>
    simp only [List.map_cons, List.nodup_cons] at hnd
    rcases List.mem_cons.1 he with rfl | hm
    · simp
    · have : (x.born == e.born) = false := by
        rw [beq_eq_false_iff_ne]
        exact fun h => hnd.1 (h ▸ List.mem_map.2 ⟨e, hm, rfl⟩)
      simp only [List.find?_cons, this]
      exact ih hnd.2 hm

omit [DecidableEq K] in
/-- Whichever is picked of those that are left. -/
theorem Ranging.pick {l todo : List (K × Value)} {es : Array MapEntry} {clk : Nat} {seen : Array Nat} (hr : Ranging enc l todo es clk seen) {i : Nat} {e : MapEntry}
    (he : (es.toList.filter fun e => !seen.contains e.born)[i]? = some e) :
    ∃ t1 p t2, todo = t1 ++ p :: t2 ∧ Ranging enc l (t1 ++ t2) es clk (seen.push e.born) ∧ es.find? (·.born == e.born) = some e ∧ e.key = enc p.1 ∧ e.val = p.2 := by
  have hleft := hr.left
  generalize hN : (es.toList.filter fun e => !seen.contains e.born) = N at *
  have hiN : i < N.length := (List.getElem?_eq_some_iff.1 he).1
  have heN : N[i] = e := (List.getElem?_eq_some_iff.1 he).2
  have hlen : N.length = todo.length := by have := congrArg List.length hleft; simpa using this
  have hit : i < todo.length := by omega
  have sN : N = N.take i ++ e :: N.drop (i + 1) := by rw [← heN]; simp
  have sT : todo = todo.take i ++ todo[i] :: todo.drop (i + 1) := by simp
  have hkv := congrArg (fun x : List (Value × Value) => x[i]?) hleft
  simp only [List.getElem?_map, he, Option.map_some, List.getElem?_eq_getElem hit, Option.some.injEq, Prod.mk.injEq] at hkv
  have heE : e ∈ es.toList := by
    have : e ∈ N := List.mem_of_getElem? he
    rw [← hN] at this; exact (List.mem_filter.1 this).1
  have hndN : (N.map (·.born)).Nodup := by rw [← hN]; exact hr.map.born.sublist (List.filter_sublist.map _)
  refine ⟨todo.take i, todo[i], todo.drop (i + 1), sT, ⟨hr.map, ?_, ?_⟩, ?_, hkv.1, hkv.2⟩
  · have h1 : (es.toList.filter fun x => !(seen.push e.born).contains x.born) = N.filter fun x => !(x.born == e.born) := by
      rw [← hN, List.filter_filter]
      congr 1
      funext x
      simp only [Array.contains_push, Bool.not_or]
      rw [Bool.and_comm]
    rw [h1, filter_out hndN sN, List.map_append, List.map_append, List.map_take, List.map_take, List.map_drop, List.map_drop, hleft]
  · refine List.Sublist.trans ?_ hr.sub
    conv => rhs; rw [sT]
    exact List.Sublist.append (List.Sublist.refl _) (List.sublist_cons_self _ _)
  · rw [← Array.find?_toList]; exact find_born hr.map.born heE

omit [DecidableEq K] in
/-- The next one is one of those that are still to come. -/
theorem run_next_some {w : World} {ib b : Nat} {l todo : List (K × Value)} {es : Array MapEntry} {clk : Nat} {seen : Array Nat} (hi : w.heap[ib]? = some (.mapIter (some b) clk seen clk)) (hb : w.heap[b]? = some (.map es clk))
    (hr : Ranging enc l todo es clk seen) (hne : todo ≠ []) (ty : TypeId) :
    ∃ t1 p t2 s n, todo = t1 ++ p :: t2 ∧ Ranging enc l (t1 ++ t2) es clk (seen.push s) ∧ es.find? (·.born == s) = some { key := enc p.1, val := p.2, born := s } ∧
      (Instr.next (.pointer (some ⟨ib, 0, none⟩)) false ty).run P w = .ok (.tuple #[.bool true, enc p.1, p.2]) (setBlk (w.drewN n) ib (.mapIter (some b) clk (seen.push s) clk)) := by
  generalize hL : (es.filter fun e => !seen.contains e.born) = L
  have hLl : (es.toList.filter fun e => !seen.contains e.born) = L.toList := by rw [← hL]; simp
  have hlen : L.toList.length = todo.length := by have := congrArg List.length hr.left; rw [hLl] at this; simpa using this
  have hpos : 0 < L.size := by
    have : todo.length ≠ 0 := by simpa using hne
    simp only [Array.length_toList] at hlen; omega
  have hmem : ∀ e ∈ L, e ∈ es := fun e he => by rw [← hL] at he; exact (Array.mem_filter.1 he).1
  have hborn : ∀ e ∈ es, e.born < clk := fun e he => hr.map.lt e (by simpa using he)
  have hold : L.filter (·.born < clk) = L := by
    rw [Array.filter_eq_self]
    intro e he
    simpa using hborn e (hmem e he)
  have hnew : L.filter (·.born ≥ clk) = #[] := by
    rw [Array.filter_eq_empty_iff]
    intro e he
    simpa using hborn e (hmem e he)
  have hall : (!seen.isEmpty && !es.isEmpty && es.all (·.born ≥ clk)) = false := by
    have h0 : L[0] ∈ es := hmem _ (Array.getElem_mem hpos)
    have : es.all (·.born ≥ clk) = false := by
      rw [Array.all_eq_false']
      exact ⟨_, h0, by simpa using hborn _ h0⟩
    rw [this]; simp
  have hcand : (if L.isEmpty then #[none] else #[]) ++ (L ++ #[]).map some = L.map some := by
    have : L.isEmpty = false := by simp only [Array.isEmpty, decide_eq_false_iff_not]; omega
    rw [this]; simp
  -- the tape picks one
  obtain ⟨i, n, hiL, hch⟩ : ∃ i n, i < L.size ∧ ∀ (k : Nat → Sem Value), ((choose (.mapNext (L.map some).size)).bind k).run P w = (k i).run P (w.drewN n) := by
    by_cases hf : L.size ≤ 1
    · exact ⟨0, 0, hpos, fun k => by simp [choose, Sem.bind, Sem.run, Question.forced, hf, World.drewN]⟩
    · refine ⟨(w.tape w.drawn (.mapNext L.size)) % L.size, 1, Nat.mod_lt _ hpos, fun k => ?_⟩
      simp [choose, Sem.bind, Sem.run, Question.forced, hf, Question.cut, World.drewN]
  obtain ⟨t1, p, t2, h1, h2, h3, h4, h5⟩ := hr.pick (i := i) (e := L[i]) (by rw [hLl]; simp [hiL])
  refine ⟨t1, p, t2, L[i].born, n, h1, h2, ?_, ?_⟩
  · rw [h3, ← h4, ← h5]
  · have hib : ib < w.heap.size := (Array.getElem?_eq_some_iff.1 hi).1
    simp only [Instr.next, Sem.run_bind, Go.getObj, Sem.run, hi, hb, Result.andThen_ok, hall, Bool.false_eq_true, if_false, hL, hold, hnew, hcand]
    rw [← Sem.run_bind]
    refine (hch _).trans ?_
    simp [hiL, Go.setObj, Sem.run, h4, h5, World.drewN, hi, setBlk]

theorem run_entry {w : World} {ib b : Nat} {es : Array MapEntry} {clk : Nat} {seen : Array Nat} {s : Nat} {kv vv : Value} (hi : w.heap[ib]? = some (.mapIter (some b) clk (seen.push s) clk)) (hb : w.heap[b]? = some (.map es clk))
    (hf : es.find? (·.born == s) = some { key := kv, val := vv, born := s }) : (Instr.entry (.pointer (some ⟨ib, 0, none⟩))).run P w = .ok (.tuple #[kv, vv]) w := by
  simp [Instr.entry, Go.getObj, Sem.run, hi, hb, hf]
end
end Go.Proofs.YtdllibalmjadhaaGreat

namespace Go.Proofs.YtdllibalmjadhaaGreat
open Go Go.RowKit

/-- A struct of one number: a node's name in a hub; an owner in a shadow. -/
def encName (p : Nat) : Value := .agg #[.int .u32 p]

theorem nameLaw : KeyLaw Tryz.prog 121 encName := by
  refine ⟨⟨.struct (Tryz.prog.fieldsOf 121), by kernel_rfl, fun a b => .inl rfl⟩, fun e k w => by unfold encName; kernel_rfl, fun a b w => ?_, fun k => ?_⟩
  · have hS : Tryz.prog.underlying 121 = some (.struct (Tryz.prog.fieldsOf 121)) := by kernel_rfl
    have hp : Tryz.prog.stoodInHeld 121 = false := by kernel_rfl
    have u23 := Tryz.underlying23
    simp only [encName, Op.equal, Op.maxDepth]
    rw [show (10000 : Nat) = 9999 + 1 from rfl, run_equalIn_struct w 9999 121 _ _ hS hp]
    simp only [Program.fieldsOf, Tryz.underlying121]
    go_simp
    by_cases h : a = b <;> simp [h] <;> omega
  · simp [encName, Instr.sameBits]

theorem ownerLaw : KeyLaw Tryz.prog 186 encName := by
  refine ⟨⟨.struct (Tryz.prog.fieldsOf 186), by kernel_rfl, fun a b => .inl rfl⟩, fun e k w => by unfold encName; kernel_rfl, fun a b w => ?_, fun k => ?_⟩
  · have hS : Tryz.prog.underlying 186 = some (.struct (Tryz.prog.fieldsOf 186)) := by kernel_rfl
    have hp : Tryz.prog.stoodInHeld 186 = false := by kernel_rfl
    have u23 := Tryz.underlying23
    simp only [encName, Op.equal, Op.maxDepth]
    rw [show (10000 : Nat) = 9999 + 1 from rfl, run_equalIn_struct w 9999 186 _ _ hS hp]
    simp only [Program.fieldsOf, Tryz.underlying186]
    go_simp
    by_cases h : a = b <;> simp [h] <;> omega
  · simp [encName, Instr.sameBits]

/-- An entry's key: its value, its record's id. -/
def encKey (x : Nat × Nat) : Value := .agg #[.int .u32 x.1, .int .u64 x.2]

theorem keyLaw : KeyLaw Tryz.prog 168 encKey := by
  refine ⟨⟨.struct (Tryz.prog.fieldsOf 168), by kernel_rfl, fun a b => .inl rfl⟩, fun e k w => by unfold encKey; kernel_rfl, fun a b w => ?_, fun k => ?_⟩
  · have hS : Tryz.prog.underlying 168 = some (.struct (Tryz.prog.fieldsOf 168)) := by kernel_rfl
    have hp : Tryz.prog.stoodInHeld 168 = false := by kernel_rfl
    have u23 := Tryz.underlying23
    have u29 := Tryz.underlying29
    simp only [encKey, Op.equal, Op.maxDepth]
    rw [show (10000 : Nat) = 9999 + 1 from rfl, run_equalIn_struct w 9999 168 _ _ hS hp]
    simp only [Program.fieldsOf, Tryz.underlying168]
    go_simp
    obtain ⟨a1, a2⟩ := a
    obtain ⟨b1, b2⟩ := b
    by_cases h1 : a1 = b1 <;> by_cases h2 : a2 = b2 <;> simp [h1, h2] <;> omega
  · simp [encKey, Instr.sameBits]

/-- A hub's node. -/
def encPlace (x : Int × Nat) : Value := .agg #[.int .i64 x.1, .int .u32 x.2]

theorem placeLaw : KeyLaw Tryz.prog 103 encPlace := by
  refine ⟨⟨.struct (Tryz.prog.fieldsOf 103), by kernel_rfl, fun a b => .inl rfl⟩, fun e k w => by unfold encPlace; kernel_rfl, fun a b w => ?_, fun k => ?_⟩
  · have hS : Tryz.prog.underlying 103 = some (.struct (Tryz.prog.fieldsOf 103)) := by kernel_rfl
    have hp : Tryz.prog.stoodInHeld 103 = false := by kernel_rfl
    have u23 := Tryz.underlying23
    have u3 := Tryz.underlying3
    simp only [encPlace, Op.equal, Op.maxDepth]
    rw [show (10000 : Nat) = 9999 + 1 from rfl, run_equalIn_struct w 9999 103 _ _ hS hp]
    simp only [Program.fieldsOf, Tryz.underlying103]
    go_simp
    obtain ⟨a1, a2⟩ := a
    obtain ⟨b1, b2⟩ := b
    by_cases h1 : a1 = b1 <;> by_cases h2 : a2 = b2 <;> simp [h1, h2] <;> omega
  · simp [encPlace, Instr.sameBits]

/-- What a node waits for. -/
structure WaitK where
  hub : Nat
  point : Nat
  value : Nat
  id : Nat
  version : Nat
  deriving DecidableEq
def encWait (x : WaitK) : Value := .agg #[.int .i64 x.hub, .int .u32 x.point, .int .u32 x.value, .int .u64 x.id, .int .u64 x.version]

theorem waitLaw : KeyLaw Tryz.prog 113 encWait := by
  refine ⟨⟨.struct (Tryz.prog.fieldsOf 113), by kernel_rfl, fun a b => .inl rfl⟩, fun e k w => by unfold encWait; kernel_rfl, fun a b w => ?_, fun k => ?_⟩
  · have hS : Tryz.prog.underlying 113 = some (.struct (Tryz.prog.fieldsOf 113)) := by kernel_rfl
    have hp : Tryz.prog.stoodInHeld 113 = false := by kernel_rfl
    have u23 := Tryz.underlying23
    have u3 := Tryz.underlying3
    have u29 := Tryz.underlying29
    simp only [encWait, Op.equal, Op.maxDepth]
    rw [show (10000 : Nat) = 9999 + 1 from rfl, run_equalIn_struct w 9999 113 _ _ hS hp]
    simp only [Program.fieldsOf, Tryz.underlying113]
    go_simp
    obtain ⟨a1, a2, a3, a4, a5⟩ := a
    obtain ⟨b1, b2, b3, b4, b5⟩ := b
    by_cases h1 : a1 = b1 <;> by_cases h2 : a2 = b2 <;> by_cases h3 : a3 = b3 <;> by_cases h4 : a4 = b4 <;> by_cases h5 : a5 = b5 <;> simp [h1, h2, h3, h4, h5] <;> omega
  · simp [encWait, Instr.sameBits]
end Go.Proofs.YtdllibalmjadhaaGreat
