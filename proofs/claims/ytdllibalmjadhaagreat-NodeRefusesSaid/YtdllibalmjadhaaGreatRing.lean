/- The ring: who owns a value, who comes next, whose span is which, and its points. -/
import Derived.Test.YtdllibalmjadhaaGreatRing0
import Derived.Test.YtdllibalmjadhaaGreatCircle
import Derived.Test.YtdllibalmjadhaaGreatClone
namespace Go.Proofs.YtdllibalmjadhaaGreat
open Go Go.RowKit

/-- A ring's points may be these. -/
structure RingOk (l : List Nat) : Prop where
  rising : l.Pairwise (· < ·)
  lt : ∀ x ∈ l, x < 4294967296
  le : l.length ≤ 64

/-- A ring's points, as they lie in a world. -/
def RingAt (w : World) (rb : Nat) (l : List Nat) : Prop := ∃ v, w.cell? ⟨rb, 0, none⟩ = some v ∧ ReadsU w v l
theorem RingAt.below {w w' : World} {rb : Nat} {l : List Nat} (h : RingAt w rb l) (hb : Below w.heap.size w w') : RingAt w' rb l := by
  obtain ⟨v, h1, h2⟩ := h
  exact ⟨v, stays hb h1, h2.below hb⟩

def ownerOf (l : List Nat) (v : Nat) : Nat := l.getD (lb l v % l.length) 0
def nextOf (l : List Nat) (p : Nat) : Nat := ownerOf l (succ32 p)

theorem lb_le (l : List Nat) (v : Nat) : lb l v ≤ l.length := by unfold lb; exact (List.takeWhile_sublist _).length_le
theorem ownerOf_mem {l : List Nat} (h : l ≠ []) (v : Nat) : ownerOf l v ∈ l := by
  have hp : 0 < l.length := List.length_pos_iff.2 h
  have := Nat.mod_lt (lb l v) hp
  unfold ownerOf
  rw [List.getD_eq_getElem?_getD, List.getElem?_eq_getElem this]
  exact List.getElem_mem this

theorem owner_empty (rb v : Nat) (w : World) (h : RingAt w rb []) : Calls Tryz.prog 13 #[.pointer (some ⟨rb, 0, none⟩), .int .u32 v] w fun e w' => e = .returned (.tuple #[.int .u32 0, .bool false]) ∧ w = w' := by
  obtain ⟨x, hx, hr⟩ := h
  obtain ⟨s, cap, rfl⟩ : ∃ s cap, x = .slice s 0 cap := by
    rcases hr with ⟨h, _⟩ | ⟨b, off, cap, h, _⟩
    · exact ⟨none, 0, h⟩
    · exact ⟨_, cap, h⟩
  go_enter Tryz.func13, Tryz.ntmps13
  go_wp2
  go_ret2
  exact ⟨rfl, rfl⟩

theorem owner_some (rb v : Nat) (l : List Nat) (w : World) (h : RingAt w rb l) (hok : RingOk l) (hne : l ≠ []) : Calls Tryz.prog 13 #[.pointer (some ⟨rb, 0, none⟩), .int .u32 v] w fun e w' => e = .returned (.tuple #[.int .u32 (ownerOf l v : Nat), .bool true]) ∧ Below w.heap.size w w' := by
  obtain ⟨x, hx, hr⟩ := h
  have hp : 0 < l.length := List.length_pos_iff.2 hne
  have hle := hok.le
  rcases hr with ⟨_, h0⟩ | ⟨b, off, cap, rfl, hcap, hc⟩
  · exact absurd h0 hne
  have hm := Nat.mod_lt (lb l v) hp
  have how : l[lb l v % l.length]? = some (ownerOf l v) := by unfold ownerOf; rw [List.getD_eq_getElem?_getD, List.getElem?_eq_getElem hm]; rfl
  have hcell := hc _ _ how
  have HS := hid (search_any b off l cap v)
  have HC := hid hc
  clear hc how
  have hlb := lb_le l v
  have hrem : ((lb l v : Nat) : Int).tmod (l.length : Int) = ((lb l v % l.length : Nat) : Int) := by rw [Int.tmod_eq_emod_of_nonneg (by omega)]; rfl
  generalize lb l v % l.length = j at *
  generalize hn : l.length = n at *
  have HN := hid hn
  clear hn
  have hn0 : ((n : Int) == 0) = false := by simp; omega
  have hn1 : ¬ n = 0 := by omega
  go_enter Tryz.func13, Tryz.ntmps13
  go_wp2_with (go_at_call 35; refine (HS.out w (by omega) hok.rising HC.out).mono ?_; rintro e w' ⟨rfl, q, rfl⟩)
  refine wp_region_b [] (by kernel_rfl) (by kernel_rfl) ?_
  intro E _ hE hI
  have h0 : ∀ w' : InD E, w'.val.cell? ⟨rb, 0, none⟩ = some (.slice (some ⟨b, off, none⟩) n cap) := fun w' => stays (hE w') (by simpa using hx)
  have h1 : ∀ w' : InD E, w'.val.cell? ⟨b, off + j, none⟩ = some (.int .u32 (ownerOf l v : Nat)) := fun w' => stays (hE w') (by simpa using hcell)
  repeat (refine wpX_step (fun K hK => ?_); go_simp; refine hK _ _ ?_; clear hK K)
  refine wpX_nil ?_
  intro w' hw'
  have hd := hE ⟨w', hw'⟩
  go_wp2
  go_ret2
  exact ⟨rfl, below_trans (drewN_below _ _) hd⟩

theorem next_empty (rb p : Nat) (w : World) (h : RingAt w rb []) : Calls Tryz.prog 41 #[.pointer (some ⟨rb, 0, none⟩), .int .u32 p] w fun e w' => e = .returned (.tuple #[.int .u32 0, .bool false]) ∧ w = w' := by
  have hw := wrap_succ p
  go_enter Tryz.func41, Tryz.ntmps41
  go_wp2_with (go_at_call 13; refine (owner_empty rb (succ32 p) _ h).mono ?_; rintro e w' ⟨rfl, rfl⟩)
  go_ret2
  exact ⟨rfl, rfl⟩

theorem next_some (rb p : Nat) (l : List Nat) (w : World) (h : RingAt w rb l) (hok : RingOk l) (hne : l ≠ []) : Calls Tryz.prog 41 #[.pointer (some ⟨rb, 0, none⟩), .int .u32 p] w fun e w' => e = .returned (.tuple #[.int .u32 (nextOf l p : Nat), .bool true]) ∧ Below w.heap.size w w' := by
  have hw := wrap_succ p
  go_enter Tryz.func41, Tryz.ntmps41
  go_wp2_with (go_at_call 13; refine (owner_some rb (succ32 p) l _ h hok hne).mono ?_; rintro e w' ⟨rfl, hb⟩)
  go_ret2
  exact ⟨rfl, hb⟩

theorem rhas_any (rb p : Nat) (l : List Nat) (w : World) (h : RingAt w rb l) (hok : RingOk l) : Calls Tryz.prog 54 #[.pointer (some ⟨rb, 0, none⟩), .int .u32 p] w fun e w' => e = .returned (.bool (decide (p ∈ l))) ∧ Below w.heap.size w w' := by
  obtain ⟨x, hx, hr⟩ := h
  have hle := hok.le
  obtain ⟨s, cap, rfl, hcall⟩ : ∃ s cap, x = .slice s l.length cap ∧ Calls Tryz.prog 35 #[x, .int .u32 p] w fun e w' => e = .returned (.tuple #[.int .i64 (lb l p : Nat), .bool (decide (p ∈ l))]) ∧ ∃ q, w.drewN q = w' := by
    rcases hr with ⟨rfl, rfl⟩ | ⟨b, off, cap, rfl, hcap, hc⟩
    · exact ⟨none, 0, rfl, search_nil p w⟩
    · exact ⟨_, cap, rfl, search_any b off l cap p w (by omega) hok.rising hc⟩
  have HC := hid hcall
  clear hcall
  have hm : (decide (p ∈ l)) = decide (p ∈ l) := rfl
  generalize decide (p ∈ l) = found at *
  clear hm
  go_enter Tryz.func54, Tryz.ntmps54
  go_wp2_with (go_at_call 35; refine HC.out.mono ?_; rintro e w' ⟨rfl, q, rfl⟩)
  go_ret
  exact ⟨rfl, drewN_below _ _⟩

theorem points_any (rb : Nat) (l : List Nat) (w : World) (fr : Chunk) (hf : Ok w fr) (h : RingAt w rb l) (hok : RingOk l) : Calls Tryz.prog 17 #[.pointer (some ⟨rb, 0, none⟩)] w fun e w' => ∃ v c, e = .returned v ∧ Row 23 1 c v l.length (u32s l) ∧ Ok w' (c ++ fr) ∧ Same w w' ∧ Below w.heap.size w w' := by
  obtain ⟨x, hx, hr⟩ := h
  have hle := hok.le
  have hcall : Calls Tryz.prog 42 #[x] w fun e w' => ∃ v c, e = .returned v ∧ Row 23 1 c v l.length (u32s l) ∧ Ok w' (c ++ fr) ∧ Same w w' ∧ Below w.heap.size w w' := by
    rcases hr with ⟨rfl, rfl⟩ | ⟨b, off, cap, rfl, hcap, hc⟩
    · exact (cloneU_nil w).mono fun e w' ⟨he, hw⟩ => by subst hw; exact ⟨_, _, he, Row.nil _ _, hf, Same.refl _, Below.refl _ _⟩
    · exact (cloneU_some w fr hf b off cap l (by omega) hc).mono fun e w' ⟨v, c, h1, h2, h3, h4, _, h6⟩ => ⟨v, c, h1, h2, h3, h4, h6⟩
  have HC := hid hcall
  clear hcall hr
  go_enter Tryz.func17, Tryz.ntmps17
  go_wp2_with (go_at_call 42; refine HC.out.mono ?_; rintro e w' ⟨v, c, rfl, h1, h2, h3, h4⟩)
  go_ret
  exact ⟨v, c, rfl, h1, h2, h3, h4⟩

end Go.Proofs.YtdllibalmjadhaaGreat
