/- The ring: spans, forks, a new one. -/
import Derived.Test.YtdllibalmjadhaaGreatRing
namespace Go.Proofs.YtdllibalmjadhaaGreat
open Go Go.RowKit

/-- A ring of one's own. -/
def IsRing (c : Chunk) (rb : Nat) (l : List Nat) : Prop := ∃ v cr, c = (rb, .cells #[v] 92 (0, 0)) :: cr ∧ Row 23 1 cr v l.length (u32s l)

theorem Row.reads {c fr : Chunk} {v : Value} {l : List Nat} {w : World} (h : Row 23 1 c v l.length (u32s l)) (hok : Ok w (c ++ fr)) : ReadsU w v l := by
  rcases h.2 with ⟨hv, hn, _⟩ | ⟨g, cap, cur, hv, hc, h1, h2, h3, h4⟩
  · exact .inl ⟨hv, List.length_eq_zero_iff.1 hn⟩
  · refine .inr ⟨g, 0, cap, hv, h1, fun i x hx => ?_⟩
    rw [hok.cell (b := g) (cs := cur) (T := 23) (fz := (0, 0)) (by rw [hc]; simp)]
    have hi : i < l.length := (List.getElem?_eq_some_iff.1 hx).1
    have : (cur.toList.take (l.length * 1))[i]? = (u32s l)[i]? := by rw [h4]
    rw [List.getElem?_take_of_lt (by omega)] at this
    simp only [u32s, List.getElem?_map, hx, Option.map_some, Array.getElem?_toList] at this
    simpa using this

theorem IsRing.at {c fr : Chunk} {rb : Nat} {l : List Nat} {w : World} (h : IsRing c rb l) (hok : Ok w (c ++ fr)) : RingAt w rb l := by
  obtain ⟨v, cr, rfl, hr⟩ := h
  refine ⟨v, ?_, hr.reads (fr := fr) (hok.sublist ?_)⟩
  · rw [hok.cell (b := rb) (cs := #[v]) (T := 92) (fz := (0, 0)) (by simp)]; rfl
  · simp

theorem ringNew_any (w : World) : Calls Tryz.prog 53 #[] w fun e w' => e = .returned (.pointer (some ⟨w.heap.size, 0, none⟩)) ∧ w.alloc (.cells #[.slice none 0 0] 92) = w' := by
  go_enter Tryz.func53, Tryz.ntmps53
  go_wp2
  go_ret
  exact ⟨rfl, rfl⟩

theorem ringFork_any (rb : Nat) (l : List Nat) (w : World) (fr : Chunk) (hf : Ok w fr) (h : RingAt w rb l) (hok : RingOk l) : Calls Tryz.prog 34 #[.pointer (some ⟨rb, 0, none⟩)] w fun e w' => ∃ rb' c, e = .returned (.pointer (some ⟨rb', 0, none⟩)) ∧ IsRing c rb' l ∧ Ok w' (c ++ fr) ∧ Same w w' ∧ Below w.heap.size w w' := by
  obtain ⟨x, hx, hr⟩ := h
  have hle := hok.le
  have hcall : Calls Tryz.prog 42 #[x] w fun e w' => ∃ v c, e = .returned v ∧ Row 23 1 c v l.length (u32s l) ∧ Ok w' (c ++ fr) ∧ Same w w' ∧ Below w.heap.size w w' := by
    rcases hr with ⟨rfl, rfl⟩ | ⟨b, off, cap, rfl, hcap, hc⟩
    · exact (cloneU_nil w).mono fun e w' ⟨he, hw⟩ => by subst hw; exact ⟨_, _, he, Row.nil _ _, hf, Same.refl _, Below.refl _ _⟩
    · exact (cloneU_some w fr hf b off cap l (by omega) hc).mono fun e w' ⟨v, c, h1, h2, h3, h4, _, h6⟩ => ⟨v, c, h1, h2, h3, h4, h6⟩
  have HC := hid hcall
  clear hcall hr
  go_enter Tryz.func34, Tryz.ntmps34
  go_wp2_with (go_at_call 42; refine HC.out.mono ?_; rintro e w' ⟨v, c, rfl, h1, h2, h3, h4⟩; obtain ⟨a, n, rfl⟩ := h1.slice)
  go_ret
  exact ⟨_, _, rfl, ⟨_, c, rfl, h1⟩, h2.alloc _, h3.alloc _, below_trans h4 (alloc_below _ _)⟩

/-- Where a point's span begins. -/
def fromOf (l : List Nat) (p : Nat) : Nat := l.getD ((lb l p + l.length - 1) % l.length) 0

theorem span_none (rb p : Nat) (l : List Nat) (w : World) (h : RingAt w rb l) (hok : RingOk l) (hp : p ∉ l) : Calls Tryz.prog 57 #[.pointer (some ⟨rb, 0, none⟩), .int .u32 p] w fun e w' => e = .returned (.tuple #[.agg #[.int .u32 0, .int .u32 0], .bool false]) ∧ Below w.heap.size w w' := by
  have hd : decide (p ∈ l) = false := by simpa using hp
  have hcall := rhas_any rb p l (w.alloc (.cells #[.int .u32 0, .int .u32 0] 50)) (h.below (alloc_below _ _)) hok
  rw [hd] at hcall
  have HC := hid hcall
  clear hcall hd
  go_enter Tryz.func57, Tryz.ntmps57
  go_wp2_with (go_at_call 54; refine HC.out.mono ?_; rintro e w1 ⟨rfl, hb⟩; have q0 := stays hb (a := ⟨w.heap.size, 0, none⟩) (v := .int .u32 0) (by simp); have q1 := stays hb (a := ⟨w.heap.size, 1, none⟩) (v := .int .u32 0) (by simp); have z0 := hb.frozen (p := ⟨w.heap.size, 0, none⟩) (by simp); have z1 := hb.frozen (p := ⟨w.heap.size, 1, none⟩) (by simp); simp at z0 z1)
  refine bodyPost_ret (v := .tuple #[.agg #[.int .u32 0, .int .u32 0], .bool false]) (by simp [results, Tryz.results57, go_sem, q0, q1]) rfl ⟨rfl, ?_⟩
  exact ((below_trans (alloc_below _ _) hb).setCell (Nat.le_refl _) _).setCell (Nat.le_refl _) _

theorem span_some (rb p : Nat) (l : List Nat) (w : World) (h : RingAt w rb l) (hok : RingOk l) (hp : p ∈ l) : Calls Tryz.prog 57 #[.pointer (some ⟨rb, 0, none⟩), .int .u32 p] w fun e w' => e = .returned (.tuple #[.agg #[.int .u32 (fromOf l p : Nat), .int .u32 p], .bool true]) ∧ Below w.heap.size w w' := by
  have hd : decide (p ∈ l) = true := by simpa using hp
  have hcall := rhas_any rb p l (w.alloc (.cells #[.int .u32 0, .int .u32 0] 50)) (h.below (alloc_below _ _)) hok
  rw [hd] at hcall
  have HC := hid hcall
  have hne : l ≠ [] := fun e => by rw [e] at hp; cases hp
  have hpos : 0 < l.length := List.length_pos_iff.2 hne
  have hle := hok.le
  have hm := Nat.mod_lt (lb l p + l.length - 1) hpos
  have hlb := lb_le l p
  have how : l[(lb l p + l.length - 1) % l.length]? = some (fromOf l p) := by unfold fromOf; rw [List.getD_eq_getElem?_getD, List.getElem?_eq_getElem hm]; rfl
  have hrem : ((lb l p : Nat) + (l.length : Int) - 1).tmod (l.length : Int) = (((lb l p + l.length - 1) % l.length : Nat) : Int) := by
    rw [Int.tmod_eq_emod_of_nonneg (by omega)]
    have : ((lb l p : Nat) + (l.length : Int) - 1) = ((lb l p + l.length - 1 : Nat) : Int) := by omega
    rw [this]; rfl
  obtain ⟨x, hx, hr⟩ := h
  rcases hr with ⟨_, h0⟩ | ⟨b, off, cap, rfl, hcap, hc⟩
  · exact absurd h0 hne
  have hcell := hc _ _ how
  have hcs : ∀ w1, Below w.heap.size w w1 → Calls Tryz.prog 35 #[.slice (some ⟨b, off, none⟩) l.length cap, .int .u32 p] w1 fun e w' => e = .returned (.tuple #[.int .i64 (lb l p : Nat), .bool true]) ∧ ∃ q, w1.drewN q = w' := by
    intro w1 hb
    have := search_any b off l cap p w1 (by omega) hok.rising (fun i x hx => stays hb (hc i x hx))
    rwa [hd] at this
  have HS := hid hcs
  have HH := hid how
  clear hcall hd hc hcs how
  generalize (lb l p + l.length - 1) % l.length = j at *
  generalize lb l p = i at *
  generalize hn : l.length = n at *
  have HN := hid hn
  clear hn
  have hn1 : ¬ n = 0 := by omega
  have hwr : IntKind.i64.wrap ((i : Int) + (n : Int)) = (i : Int) + n := IntWalk.i64_in _ (by omega)
  have hwr2 : IntKind.i64.wrap ((i : Int) + (n : Int) - 1) = (i : Int) + n - 1 := IntWalk.i64_in _ (by omega)
  go_enter Tryz.func57, Tryz.ntmps57
  go_wp2_with (go_at_call 54; refine HC.out.mono ?_; rintro e w1 ⟨rfl, hb⟩; have q0 := stays hb (a := ⟨w.heap.size, 0, none⟩) (v := .int .u32 0) (by simp); have q1 := stays hb (a := ⟨w.heap.size, 1, none⟩) (v := .int .u32 0) (by simp); have z0 := hb.frozen (p := ⟨w.heap.size, 0, none⟩) (by simp); have z1 := hb.frozen (p := ⟨w.heap.size, 1, none⟩) (by simp); simp at z0 z1; have hbw := below_trans (alloc_below _ _) hb; have hx1 := stays hbw hx; have hcell1 := stays hbw hcell)
  go_wp2_with (go_at_call 35; refine (HS.out w1 hbw).mono ?_; rintro e w' ⟨rfl, q, rfl⟩)
  refine wp_region_y [22] (fun w' => Below w.heap.size w w') (by kernel_rfl) (by kernel_rfl) (below_trans hbw (drewN_below _ _)).drew ?_
  intro E _ hE hI
  have h0 : ∀ w' : InD E, w'.val.cell? ⟨rb, 0, none⟩ = some (.slice (some ⟨b, off, none⟩) n cap) := fun w' => stays (hE w') hx
  have h1 : ∀ w' : InD E, w'.val.cell? ⟨b, off + j, none⟩ = some (.int .u32 (fromOf l p : Nat)) := fun w' => stays (hE w') hcell
  repeat (refine wpX_step (fun K hK => ?_); go_simp; refine hK _ _ ?_; clear hK K)
  refine wpX_step (fun K hK => ?_); go_simp
  refine ⟨fun u w' => u = undef ∧ w' = _, ⟨rfl, rfl⟩, fun u w' h' => by rw [h'.2]; exact hI _ (((below_trans hbw (drewN_below _ _)).setCell (Nat.le_refl _) _).setCell (Nat.le_refl _) _), ?_⟩
  rintro u x ⟨rfl, rfl⟩
  refine hK _ _ ?_; clear hK K
  repeat (refine wpX_step (fun K hK => ?_); go_simp; refine hK _ _ ?_; clear hK K)
  refine wpX_nil ?_
  rintro w' rfl
  go_wp2
  refine bodyPost_ret (v := .tuple #[.agg #[.int .u32 (fromOf l p : Nat), .int .u32 p], .bool true]) (by simp [results, Tryz.results57, go_sem, q0, q1]) rfl ⟨rfl, ?_⟩
  exact ((below_trans hbw (drewN_below _ _)).setCell (Nat.le_refl _) _).setCell (Nat.le_refl _) _
end Go.Proofs.YtdllibalmjadhaaGreat
