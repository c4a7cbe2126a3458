/- slices.Clone at uint32. The ring: who owns a value, who comes next, whose span is which, and its points. The ring: spans, forks, a new one. -/
import Derived.Test.YtdllibalmjadhaaGreatProg
import Derived.Test.YtdllibalmjadhaaGreatE2
import Derived.Test.YtdllibalmjadhaaGreatE1

namespace Go.Proofs.YtdllibalmjadhaaGreat
open Go Go.RowKit

theorem info_u32 : (Tryz.prog.info? 23).map (fun i => (i.zero, i.size, i.bytes)) = some (some (.int .u32 0), 1, 4) := by kernel_rfl

/-- Numbers as cells. -/
def u32s (l : List Nat) : List Value := l.map fun x : Nat => .int .u32 (x : Int)
theorem u32s_length (l : List Nat) : (u32s l).length = l.length := by simp [u32s]
theorem u32s_one (l : List Nat) : ∀ u ∈ u32s l, u.oneCell' = true := by
  intro u hu
  obtain ⟨x, _, rfl⟩ := List.mem_map.1 hu
  rfl

/-- The slice v reads as these numbers. -/
def ReadsU (w : World) (v : Value) (l : List Nat) : Prop :=
  (v = .slice none 0 0 ∧ l = []) ∨ ∃ b off cap, v = .slice (some ⟨b, off, none⟩) l.length cap ∧ l.length ≤ cap ∧ ∀ (i x : Nat), l[i]? = some x → w.cell? ⟨b, off + i, none⟩ = some (.int .u32 (x : Int))

theorem ReadsU.below {w w' : World} {v : Value} {l : List Nat} (h : ReadsU w v l) (hb : Below w.heap.size w w') : ReadsU w' v l := by
  rcases h with h | ⟨b, off, cap, h1, h2, h3⟩
  · exact .inl h
  · exact .inr ⟨b, off, cap, h1, h2, fun i x hx => stays hb (h3 i x hx)⟩

theorem cloneU_nil (w : World) : Calls Tryz.prog 42 #[.slice none 0 0] w fun e w' => e = .returned (.slice none 0 0) ∧ w = w' := by
  have hn := fun w a n c => Lib.run_eql_slice_nil (P := Tryz.prog) w 22 23 a n c 0 0 Tryz.underlying22
  go_enter Tryz.func42, Tryz.ntmps42
  go_wp2
  all_goals (go_ret; exact ⟨rfl, rfl⟩)

theorem cloneU_some (w : World) (fr : Chunk) (hok : Ok w fr) (b off cap : Nat) (l : List Nat) (hl : l.length < 1073741824) (hc : ∀ (i x : Nat), l[i]? = some x → w.cell? ⟨b, off + i, none⟩ = some (.int .u32 (x : Int))) :
    Calls Tryz.prog 42 #[.slice (some ⟨b, off, none⟩) l.length cap] w fun e w' => ∃ v c, e = .returned v ∧ Row 23 1 c v l.length (u32s l) ∧ Ok w' (c ++ fr) ∧ Same w w' ∧ v ≠ .slice none 0 0 ∧ Below w.heap.size w w' := by
  obtain ⟨i, hi, hz0, hz1, hz2⟩ := info_parts info_u32
  have hrow : Row 23 1 [(w.heap.size, .cells #[] 23 (0, 0))] (.slice (some ⟨w.heap.size, 0, none⟩) 0 0) 0 [] := ⟨by simp, .inr ⟨_, 0, #[], rfl, rfl, by simp, by simp, by simp, by simp⟩⟩
  have hcells : ∀ (j : Nat) u, (u32s l)[j]? = some u → (w.alloc (.cells #[] 23)).cell? ((⟨b, off, none⟩ : Addr).add j) = some u := by
    intro j u hu
    simp only [u32s, List.getElem?_map, Option.map_eq_some_iff] at hu
    obtain ⟨x, hx, rfl⟩ := hu
    rw [add_none]; exact stays ((Below.refl _ _).alloc (Nat.le_refl _) _) (hc j x hx)
  obtain ⟨v', w', c', hr, h2, h3, h4, h5, h6⟩ := row_append (P := Tryz.prog) (w := w.alloc (.cells #[] 23)) (fr := fr) (by simpa using hok.alloc (.cells #[] 23 (0, 0))) hrow 22 22 i (.int .u32 0) 4 Tryz.underlying22 hi hz0 hz1 hz2 rfl (by decide) ⟨b, off, none⟩ l.length cap (u32s l) (by simp [u32s]) hcells (u32s_one l) (by unfold maxLen; omega) (by omega)
  simp only [Nat.zero_add, List.nil_append] at h2
  have HR := hid hr
  clear hr
  have hn := fun w a n c => Lib.run_eql_slice_nil (P := Tryz.prog) w 22 23 a n c 0 0 Tryz.underlying22
  go_enter Tryz.func42, Tryz.ntmps42
  go_wp2_with (at_builtin; refine wpList_app rfl _ _ _ _ rfl rfl rfl HR.out ?_)
  go_ret
  refine ⟨v', c', rfl, h2, h3, ((Same.refl w).alloc _).trans h4, fun e => by simpa using (h6.1 e).1, (((Below.refl w.heap.size w).alloc (Nat.le_refl _) _).grown h5 (by simp) (fun k hk => ?_))⟩
  simp [Value.ownBlock] at hk
  omega

/-- A copy of one's own. -/
def FreshRow (w : World) (l : List Nat) (en : Ending) (w' : World) : Prop := ∃ v c, en = .returned v ∧ Row 23 1 c v l.length (u32s l) ∧ Fresh w w' c
theorem cloneU_any (w : World) (s : Value) (l : List Nat) (hl : l.length < 1073741824) (h : ReadsU w s l) : Calls Tryz.prog 42 #[s] w (FreshRow w l) := by
  rcases h with ⟨rfl, rfl⟩ | ⟨b, off, cap, rfl, hcap, hc⟩
  · exact (cloneU_nil w).mono fun e w' ⟨he, hw⟩ => by subst hw; exact ⟨_, [], he, Row.nil _ _, Fresh.refl _⟩
  · exact (cloneU_some w (allOf w) (Ok.all w) b off cap l hl hc).mono fun e w' ⟨v, c, h1, h2, h3, h4, _, _⟩ => ⟨v, c, h1, h2, h3, h4⟩
end Go.Proofs.YtdllibalmjadhaaGreat

namespace Go.Proofs.YtdllibalmjadhaaGreat
open Go Go.RowKit

/-- A ring's points may be these. -/
structure RingOk (l : List Nat) : Prop where
  rising : l.Pairwise (· < ·)
  lt : ∀ x ∈ l, x < 4294967296
  le : l.length ≤ 64

/-- A ring's points, as they lie in a world. -/
def RingAt (w : World) (rb : Nat) (l : List Nat) : Prop := ∃ v, w.cell? ⟨rb, 0, none⟩ = some v ∧ ReadsU w v l
theorem RingAt.below {w w' : World} {rb : Nat} {l : List Nat} (h : RingAt w rb l) (hb : Below w.heap.size w w') : RingAt w' rb l := by
  obtain ⟨v, h1, h2⟩ := h
  exact ⟨v, stays hb h1, h2.below hb⟩

def ownerOf (l : List Nat) (v : Nat) : Nat := l.getD (lb l v % l.length) 0
def nextOf (l : List Nat) (p : Nat) : Nat := ownerOf l (succ32 p)

theorem lb_le (l : List Nat) (v : Nat) : lb l v ≤ l.length := by unfold lb; exact (List.takeWhile_sublist _).length_le
theorem ownerOf_mem {l : List Nat} (h : l ≠ []) (v : Nat) : ownerOf l v ∈ l := by
  have hp : 0 < l.length := List.length_pos_iff.2 h
  have := Nat.mod_lt (lb l v) hp
  unfold ownerOf
  rw [List.getD_eq_getElem?_getD, List.getElem?_eq_getElem this]
  exact List.getElem_mem this

theorem owner_empty (rb v : Nat) (w : World) (h : RingAt w rb []) : Calls Tryz.prog 13 #[.pointer (some ⟨rb, 0, none⟩), .int .u32 v] w fun e w' => e = .returned (.tuple #[.int .u32 0, .bool false]) ∧ w = w' := by
  obtain ⟨x, hx, hr⟩ := h
  obtain ⟨s, cap, rfl⟩ : ∃ s cap, x = .slice s 0 cap := by
    rcases hr with ⟨h, _⟩ | ⟨b, off, cap, h, _⟩
    · exact ⟨none, 0, h⟩
    · exact ⟨_, cap, h⟩
  go_enter Tryz.func13, Tryz.ntmps13
  go_wp2
  go_ret2
  exact ⟨rfl, rfl⟩

theorem owner_some (rb v : Nat) (l : List Nat) (w : World) (h : RingAt w rb l) (hok : RingOk l) (hne : l ≠ []) : Calls Tryz.prog 13 #[.pointer (some ⟨rb, 0, none⟩), .int .u32 v] w fun e w' => e = .returned (.tuple #[.int .u32 (ownerOf l v : Nat), .bool true]) ∧ Below w.heap.size w w' := by
  obtain ⟨x, hx, hr⟩ := h
  have hp : 0 < l.length := List.length_pos_iff.2 hne
  have hle := hok.le
  rcases hr with ⟨_, h0⟩ | ⟨b, off, cap, rfl, hcap, hc⟩
  · exact absurd h0 hne
  have hm := Nat.mod_lt (lb l v) hp
  have how : l[lb l v % l.length]? = some (ownerOf l v) := by unfold ownerOf; rw [List.getD_eq_getElem?_getD, List.getElem?_eq_getElem hm]; rfl
  have hcell := hc _ _ how
  have HS := hid (search_any b off l cap v)
  have HC := hid hc
  clear hc how
  have hlb := lb_le l v
  have hrem : ((lb l v : Nat) : Int).tmod (l.length : Int) = ((lb l v % l.length : Nat) : Int) := by rw [Int.tmod_eq_emod_of_nonneg (by omega)]; rfl
  generalize lb l v % l.length = j at *
  generalize hn : l.length = n at *
  have HN := hid hn
  clear hn
  have hn0 : ((n : Int) == 0) = false := by simp; omega
  have hn1 : ¬ n = 0 := by omega
  go_enter Tryz.func13, Tryz.ntmps13
  go_wp2_with (go_at_call 35; refine (HS.out w (by omega) hok.rising HC.out).mono ?_; rintro e w' ⟨rfl, q, rfl⟩)
  refine wp_region_b [] (by kernel_rfl) (by kernel_rfl) ?_
  intro E _ hE hI
  have h0 : ∀ w' : InD E, w'.val.cell? ⟨rb, 0, none⟩ = some (.slice (some ⟨b, off, none⟩) n cap) := fun w' => stays (hE w') (by simpa using hx)
  have h1 : ∀ w' : InD E, w'.val.cell? ⟨b, off + j, none⟩ = some (.int .u32 (ownerOf l v : Nat)) := fun w' => stays (hE w') (by simpa using hcell)
  repeat (refine wpX_step (fun K hK => ?_); go_simp; refine hK _ _ ?_; clear hK K)
  refine wpX_nil ?_
  intro w' hw'
  have hd := hE ⟨w', hw'⟩
  go_wp2
  go_ret2
  exact ⟨rfl, below_trans (drewN_below _ _) hd⟩

theorem next_empty (rb p : Nat) (w : World) (h : RingAt w rb []) : Calls Tryz.prog 41 #[.pointer (some ⟨rb, 0, none⟩), .int .u32 p] w fun e w' => e = .returned (.tuple #[.int .u32 0, .bool false]) ∧ w = w' := by
  have hw := wrap_succ p
  go_enter Tryz.func41, Tryz.ntmps41
  go_wp2_with (go_at_call 13; refine (owner_empty rb (succ32 p) _ h).mono ?_; rintro e w' ⟨rfl, rfl⟩)
  go_ret2
  exact ⟨rfl, rfl⟩

theorem next_some (rb p : Nat) (l : List Nat) (w : World) (h : RingAt w rb l) (hok : RingOk l) (hne : l ≠ []) : Calls Tryz.prog 41 #[.pointer (some ⟨rb, 0, none⟩), .int .u32 p] w fun e w' => e = .returned (.tuple #[.int .u32 (nextOf l p : Nat), .bool true]) ∧ Below w.heap.size w w' := by
  have hw := wrap_succ p
  go_enter Tryz.func41, Tryz.ntmps41
  go_wp2_with (go_at_call 13; refine (owner_some rb (succ32 p) l _ h hok hne).mono ?_; rintro e w' ⟨rfl, hb⟩)
  go_ret2
  exact ⟨rfl, hb⟩

theorem rhas_any (rb p : Nat) (l : List Nat) (w : World) (h : RingAt w rb l) (hok : RingOk l) : Calls Tryz.prog 54 #[.pointer (some ⟨rb, 0, none⟩), .int .u32 p] w fun e w' => e = .returned (.bool (decide (p ∈ l))) ∧ Below w.heap.size w w' := by
  obtain ⟨x, hx, hr⟩ := h
  have hle := hok.le
  obtain ⟨s, cap, rfl, hcall⟩ : ∃ s cap, x = .slice s l.length cap ∧ Calls Tryz.prog 35 #[x, .int .u32 p] w fun e w' => e = .returned (.tuple #[.int .i64 (lb l p : Nat), .bool (decide (p ∈ l))]) ∧ ∃ q, w.drewN q = w' := by
    rcases hr with ⟨rfl, rfl⟩ | ⟨b, off, cap, rfl, hcap, hc⟩
    · exact ⟨none, 0, rfl, search_nil p w⟩
    · exact ⟨_, cap, rfl, search_any b off l cap p w (by omega) hok.rising hc⟩
  have HC := hid hcall
  clear hcall
  have hm : (decide (p ∈ l)) = decide (p ∈ l) := rfl
  generalize decide (p ∈ l) = found at *
  clear hm
  go_enter Tryz.func54, Tryz.ntmps54
  go_wp2_with (go_at_call 35; refine HC.out.mono ?_; rintro e w' ⟨rfl, q, rfl⟩)
  go_ret
  exact ⟨rfl, drewN_below _ _⟩

theorem points_any (rb : Nat) (l : List Nat) (w : World) (fr : Chunk) (hf : Ok w fr) (h : RingAt w rb l) (hok : RingOk l) : Calls Tryz.prog 17 #[.pointer (some ⟨rb, 0, none⟩)] w fun e w' => ∃ v c, e = .returned v ∧ Row 23 1 c v l.length (u32s l) ∧ Ok w' (c ++ fr) ∧ Same w w' ∧ Below w.heap.size w w' := by
  obtain ⟨x, hx, hr⟩ := h
  have hle := hok.le
  have hcall : Calls Tryz.prog 42 #[x] w fun e w' => ∃ v c, e = .returned v ∧ Row 23 1 c v l.length (u32s l) ∧ Ok w' (c ++ fr) ∧ Same w w' ∧ Below w.heap.size w w' := by
    rcases hr with ⟨rfl, rfl⟩ | ⟨b, off, cap, rfl, hcap, hc⟩
    · exact (cloneU_nil w).mono fun e w' ⟨he, hw⟩ => by subst hw; exact ⟨_, _, he, Row.nil _ _, hf, Same.refl _, Below.refl _ _⟩
    · exact (cloneU_some w fr hf b off cap l (by omega) hc).mono fun e w' ⟨v, c, h1, h2, h3, h4, _, h6⟩ => ⟨v, c, h1, h2, h3, h4, h6⟩
  have HC := hid hcall
  clear hcall hr
  go_enter Tryz.func17, Tryz.ntmps17
  go_wp2_with (go_at_call 42; refine HC.out.mono ?_; rintro e w' ⟨v, c, rfl, h1, h2, h3, h4⟩)
  go_ret
  exact ⟨v, c, rfl, h1, h2, h3, h4⟩

end Go.Proofs.YtdllibalmjadhaaGreat

namespace Go.Proofs.YtdllibalmjadhaaGreat
open Go Go.RowKit

/-- A ring of one's own. -/
def IsRing (c : Chunk) (rb : Nat) (l : List Nat) : Prop := ∃ v cr, c = (rb, .cells #[v] 92 (0, 0)) :: cr ∧ Row 23 1 cr v l.length (u32s l)

theorem Row.reads {c fr : Chunk} {v : Value} {l : List Nat} {w : World} (h : Row 23 1 c v l.length (u32s l)) (hok : Ok w (c ++ fr)) : ReadsU w v l := by
  rcases h.2 with ⟨hv, hn, _⟩ | ⟨g, cap, cur, hv, hc, h1, h2, h3, h4⟩
  · exact .inl ⟨hv, List.length_eq_zero_iff.1 hn⟩
  · refine .inr ⟨g, 0, cap, hv, h1, fun i x hx => ?_⟩
    rw [hok.cell (b := g) (cs := cur) (T := 23) (fz := (0, 0)) (by rw [hc]; simp)]
    have hi : i < l.length := (List.getElem?_eq_some_iff.1 hx).1
    have : (cur.toList.take (l.length * 1))[i]? = (u32s l)[i]? := by rw [h4]
    rw [List.getElem?_take_of_lt (by omega)] at this
    simp only [u32s, List.getElem?_map, hx, Option.map_some, Array.getElem?_toList] at this
    simpa using this

theorem IsRing.at {c fr : Chunk} {rb : Nat} {l : List Nat} {w : World} (h : IsRing c rb l) (hok : Ok w (c ++ fr)) : RingAt w rb l := by
  obtain ⟨v, cr, rfl, hr⟩ := h
  refine ⟨v, ?_, hr.reads (fr := fr) (hok.sublist ?_)⟩
  · rw [hok.cell (b := rb) (cs := #[v]) (T := 92) (fz := (0, 0)) (by simp)]; rfl
  · simp

theorem ringNew_any (w : World) : Calls Tryz.prog 53 #[] w fun e w' => e = .returned (.pointer (some ⟨w.heap.size, 0, none⟩)) ∧ w.alloc (.cells #[.slice none 0 0] 92) = w' := by
  go_enter Tryz.func53, Tryz.ntmps53
  go_wp2
  go_ret
  exact ⟨rfl, rfl⟩

theorem ringFork_any (rb : Nat) (l : List Nat) (w : World) (fr : Chunk) (hf : Ok w fr) (h : RingAt w rb l) (hok : RingOk l) : Calls Tryz.prog 34 #[.pointer (some ⟨rb, 0, none⟩)] w fun e w' => ∃ rb' c, e = .returned (.pointer (some ⟨rb', 0, none⟩)) ∧ IsRing c rb' l ∧ Ok w' (c ++ fr) ∧ Same w w' ∧ Below w.heap.size w w' := by
  obtain ⟨x, hx, hr⟩ := h
  have hle := hok.le
  have hcall : Calls Tryz.prog 42 #[x] w fun e w' => ∃ v c, e = .returned v ∧ Row 23 1 c v l.length (u32s l) ∧ Ok w' (c ++ fr) ∧ Same w w' ∧ Below w.heap.size w w' := by
    rcases hr with ⟨rfl, rfl⟩ | ⟨b, off, cap, rfl, hcap, hc⟩
    · exact (cloneU_nil w).mono fun e w' ⟨he, hw⟩ => by subst hw; exact ⟨_, _, he, Row.nil _ _, hf, Same.refl _, Below.refl _ _⟩
    · exact (cloneU_some w fr hf b off cap l (by omega) hc).mono fun e w' ⟨v, c, h1, h2, h3, h4, _, h6⟩ => ⟨v, c, h1, h2, h3, h4, h6⟩
  have HC := hid hcall
  clear hcall hr
  go_enter Tryz.func34, Tryz.ntmps34
  go_wp2_with (go_at_call 42; refine HC.out.mono ?_; rintro e w' ⟨v, c, rfl, h1, h2, h3, h4⟩; obtain ⟨a, n, rfl⟩ := h1.slice)
  go_ret
  exact ⟨_, _, rfl, ⟨_, c, rfl, h1⟩, h2.alloc _, h3.alloc _, below_trans h4 (alloc_below _ _)⟩

/-- Where a point's span begins. -/
def fromOf (l : List Nat) (p : Nat) : Nat := l.getD ((lb l p + l.length - 1) % l.length) 0

theorem span_none (rb p : Nat) (l : List Nat) (w : World) (h : RingAt w rb l) (hok : RingOk l) (hp : p ∉ l) : Calls Tryz.prog 57 #[.pointer (some ⟨rb, 0, none⟩), .int .u32 p] w fun e w' => e = .returned (.tuple #[.agg #[.int .u32 0, .int .u32 0], .bool false]) ∧ Below w.heap.size w w' := by
  have hd : decide (p ∈ l) = false := by simpa using hp
  have hcall := rhas_any rb p l (w.alloc (.cells #[.int .u32 0, .int .u32 0] 50)) (h.below (alloc_below _ _)) hok
  rw [hd] at hcall
  have HC := hid hcall
  clear hcall hd
  go_enter Tryz.func57, Tryz.ntmps57
  go_wp2_with (go_at_call 54; refine HC.out.mono ?_; rintro e w1 ⟨rfl, hb⟩; have q0 := stays hb (a := ⟨w.heap.size, 0, none⟩) (v := .int .u32 0) (by simp); have q1 := stays hb (a := ⟨w.heap.size, 1, none⟩) (v := .int .u32 0) (by simp); have z0 := hb.frozen (p := ⟨w.heap.size, 0, none⟩) (by simp); have z1 := hb.frozen (p := ⟨w.heap.size, 1, none⟩) (by simp); simp at z0 z1)
  refine bodyPost_ret (v := .tuple #[.agg #[.int .u32 0, .int .u32 0], .bool false]) (by simp [results, Tryz.results57, go_sem, q0, q1]) rfl ⟨rfl, ?_⟩
  exact ((below_trans (alloc_below _ _) hb).setCell (Nat.le_refl _) _).setCell (Nat.le_refl _) _

theorem span_some (rb p : Nat) (l : List Nat) (w : World) (h : RingAt w rb l) (hok : RingOk l) (hp : p ∈ l) : Calls Tryz.prog 57 #[.pointer (some ⟨rb, 0, none⟩), .int .u32 p] w fun e w' => e = .returned (.tuple #[.agg #[.int .u32 (fromOf l p : Nat), .int .u32 p], .bool true]) ∧ Below w.heap.size w w' := by
  have hd : decide (p ∈ l) = true := by simpa using hp
  have hcall := rhas_any rb p l (w.alloc (.cells #[.int .u32 0, .int .u32 0] 50)) (h.below (alloc_below _ _)) hok
  rw [hd] at hcall
  have HC := hid hcall
  have hne : l ≠ [] := fun e => by rw [e] at hp; cases hp
  have hpos : 0 < l.length := List.length_pos_iff.2 hne
  have hle := hok.le
  have hm := Nat.mod_lt (lb l p + l.length - 1) hpos
  have hlb := lb_le l p
  have how : l[(lb l p + l.length - 1) % l.length]? = some (fromOf l p) := by unfold fromOf; rw [List.getD_eq_getElem?_getD, List.getElem?_eq_getElem hm]; rfl
  have hrem : ((lb l p : Nat) + (l.length : Int) - 1).tmod (l.length : Int) = (((lb l p + l.length - 1) % l.length : Nat) : Int) := by
    rw [Int.tmod_eq_emod_of_nonneg (by omega)]
    have : ((lb l p : Nat) + (l.length : Int) - 1) = ((lb l p + l.length - 1 : Nat) : Int) := by omega
    rw [this]; rfl
  obtain ⟨x, hx, hr⟩ := h
  rcases hr with ⟨_, h0⟩ | ⟨b, off, cap, rfl, hcap, hc⟩
  · exact absurd h0 hne
  have hcell := hc _ _ how
  have hcs : ∀ w1, Below w.heap.size w w1 → Calls Tryz.prog 35 #[.slice (some ⟨b, off, none⟩) l.length cap, .int .u32 p] w1 fun e w' => e = .returned (.tuple #[.int .i64 (lb l p : Nat), .bool true]) ∧ ∃ q, w1.drewN q = w' := by
    intro w1 hb
    have := search_any b off l cap p w1 (by omega) hok.rising (fun i x hx => stays hb (hc i x hx))
    rwa [hd] at this
  have HS := hid hcs
  have HH := hid how
  clear hcall hd hc hcs how
  generalize (lb l p + l.length - 1) % l.length = j at *
  generalize lb l p = i at *
  generalize hn : l.length = n at *
  have HN := hid hn
  clear hn
  have hn1 : ¬ n = 0 := by omega
  have hwr : IntKind.i64.wrap ((i : Int) + (n : Int)) = (i : Int) + n := IntWalk.i64_in _ (by omega)
  have hwr2 : IntKind.i64.wrap ((i : Int) + (n : Int) - 1) = (i : Int) + n - 1 := IntWalk.i64_in _ (by omega)
  go_enter Tryz.func57, Tryz.ntmps57
  go_wp2_with (go_at_call 54; refine HC.out.mono ?_; rintro e w1 ⟨rfl, hb⟩; have q0 := stays hb (a := ⟨w.heap.size, 0, none⟩) (v := .int .u32 0) (by simp); have q1 := stays hb (a := ⟨w.heap.size, 1, none⟩) (v := .int .u32 0) (by simp); have z0 := hb.frozen (p := ⟨w.heap.size, 0, none⟩) (by simp); have z1 := hb.frozen (p := ⟨w.heap.size, 1, none⟩) (by simp); simp at z0 z1; have hbw := below_trans (alloc_below _ _) hb; have hx1 := stays hbw hx; have hcell1 := stays hbw hcell)
  go_wp2_with (go_at_call 35; refine (HS.out w1 hbw).mono ?_; rintro e w' ⟨rfl, q, rfl⟩)
  refine wp_region_y [22] (fun w' => Below w.heap.size w w') (by kernel_rfl) (by kernel_rfl) (below_trans hbw (drewN_below _ _)).drew ?_
  intro E _ hE hI
  have h0 : ∀ w' : InD E, w'.val.cell? ⟨rb, 0, none⟩ = some (.slice (some ⟨b, off, none⟩) n cap) := fun w' => stays (hE w') hx
  have h1 : ∀ w' : InD E, w'.val.cell? ⟨b, off + j, none⟩ = some (.int .u32 (fromOf l p : Nat)) := fun w' => stays (hE w') hcell
  repeat (refine wpX_step (fun K hK => ?_); go_simp; refine hK _ _ ?_; clear hK K)
  refine wpX_step (fun K hK => ?_); go_simp
  refine ⟨fun u w' => u = undef ∧ w' = _, ⟨rfl, rfl⟩, fun u w' h' => by rw [h'.2]; exact hI _ (((below_trans hbw (drewN_below _ _)).setCell (Nat.le_refl _) _).setCell (Nat.le_refl _) _), ?_⟩
  rintro u x ⟨rfl, rfl⟩
  refine hK _ _ ?_; clear hK K
  repeat (refine wpX_step (fun K hK => ?_); go_simp; refine hK _ _ ?_; clear hK K)
  refine wpX_nil ?_
  rintro w' rfl
  go_wp2
  refine bodyPost_ret (v := .tuple #[.agg #[.int .u32 (fromOf l p : Nat), .int .u32 p], .bool true]) (by simp [results, Tryz.results57, go_sem, q0, q1]) rfl ⟨rfl, ?_⟩
  exact ((below_trans hbw (drewN_below _ _)).setCell (Nat.le_refl _) _).setCell (Nat.le_refl _) _
end Go.Proofs.YtdllibalmjadhaaGreat
