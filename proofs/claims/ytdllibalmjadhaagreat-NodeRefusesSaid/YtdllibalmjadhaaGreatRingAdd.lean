/- The ring: a point is added. -/
import Derived.Test.YtdllibalmjadhaaGreatInsert
namespace Go.Proofs.YtdllibalmjadhaaGreat
open Go Go.RowKit

theorem insert_any (w : World) (c fr : Chunk) (v : Value) (l : List Nat) (i p : Nat) (hok : Ok w (c ++ fr)) (hrow : Row 23 1 c v l.length (u32s l)) (hn : l.length ≤ 100) (hi : i ≤ l.length) (vb : Nat) (T : TypeId) (hx : (vb, .cells #[.int .u32 p] T (0, 0)) ∈ fr) :
    Calls Tryz.prog 101 #[v, .int .i64 i, .slice (some ⟨vb, 0, none⟩) 1 1] w (GrowsTo 23 1 w fr (l.length + 1) (u32s (l.take i ++ [p] ++ l.drop i))) := by
  have hxc : w.cell? ⟨vb, 0, none⟩ = some (.int .u32 p) := by rw [hok.cell (List.mem_append_right _ hx)]; rfl
  have hu : u32s (l.take i ++ [p] ++ l.drop i) = ((u32s l).take i ++ [.int .u32 p]) ++ (u32s l).drop i := by simp [u32s]
  rcases Nat.lt_or_ge i l.length with h | h
  · rcases hrow.2 with ⟨_, h0, _⟩ | ⟨g, cap, cur, rfl, rfl, hcap, hmax, hsz, htk⟩
    · omega
    · rw [Nat.mul_one] at htk
      have h1 : ∀ u ∈ cur.toList.take l.length, u.oneCell' = true := by rw [htk]; exact u32s_one l
      have e1 : cur.toList.take i = (u32s l).take i := by rw [← htk, List.take_take]; congr 1; omega
      rw [hu, ← e1, ← htk]
      rcases Nat.lt_or_ge cap (l.length + 1) with hc | hc
      · exact insert_grow w fr g cap l.length i cur hok hc hcap hsz hn h h1 vb _ T hx rfl
      · exact insert_room w fr g cap l.length i cur hok hc hmax hsz hn h h1 vb _ T hx rfl
  · obtain rfl : i = l.length := by omega
    have := insert_end w c fr v l.length (u32s l) hok hrow hn vb (.int .u32 p) hxc rfl
    rw [hu, List.take_of_length_le (by simp [u32s]), List.drop_of_length_le (by simp [u32s]), List.append_nil]
    exact this

def addP (l : List Nat) (p : Nat) : List Nat := l.take (lb l p) ++ [p] ++ l.drop (lb l p)
theorem addP_length (l : List Nat) (p : Nat) : (addP l p).length = l.length + 1 := by
  have := lb_le l p
  simp [addP]; omega

/-- A ring stands there, of these points. -/
def RingPost (w : World) (fr : Chunk) (rb : Nat) (l : List Nat) (r : Value) (en : Ending) (w' : World) : Prop := ∃ c', en = .returned r ∧ IsRing c' rb l ∧ Ok w' (c' ++ fr) ∧ Same w w'

set_option maxHeartbeats 1000000 in
theorem add_new (w : World) (c fr : Chunk) (rb p : Nat) (l : List Nat) (hok : Ok w (c ++ fr)) (hr : IsRing c rb l) (hl : RingOk l) (hp : p ∉ l) (hlt : l.length < 64) :
    Calls Tryz.prog 55 #[.pointer (some ⟨rb, 0, none⟩), .int .u32 p] w (RingPost w fr rb (addP l p) (.int .i64 0)) := by
  have hat := hr.at hok
  obtain ⟨v, cr, rfl, hrow⟩ := hr
  have hd : decide (p ∈ l) = false := by simpa using hp
  have hx : w.cell? ⟨rb, 0, none⟩ = some v := by rw [hok.cell (List.mem_append_left _ (List.mem_cons_self ..))]; rfl
  have hf : w.frozen? ⟨rb, 0, none⟩ = false := hok.frozen (List.mem_append_left _ (List.mem_cons_self ..)) 0
  have hcs : Calls Tryz.prog 35 #[v, .int .u32 p] w fun e w' => e = .returned (.tuple #[.int .i64 (lb l p : Nat), .bool false]) ∧ ∃ q, w.drewN q = w' := by
    obtain ⟨x, hx', hrd⟩ := hat
    rw [hx] at hx'; cases hx'
    rcases hrd with ⟨rfl, rfl⟩ | ⟨b, off, cap, rfl, hcap, hc⟩
    · exact search_nil p w
    · have := search_any b off l cap p w (by omega) hl.rising hc
      rwa [hd] at this
  have hins : ∀ (q : Nat), Calls Tryz.prog 101 #[v, .int .i64 (lb l p : Nat), .slice (some ⟨w.heap.size, 0, none⟩) 1 1] ((w.drewN q).alloc (.cells #[.int .u32 p] 23)) (GrowsTo 23 1 ((w.drewN q).alloc (.cells #[.int .u32 p] 23)) ((w.heap.size, .cells #[.int .u32 p] 23 (0, 0)) :: (rb, .cells #[v] 92 (0, 0)) :: fr) (l.length + 1) (u32s (addP l p))) := by
    intro q
    refine insert_any _ cr _ v l (lb l p) p ?_ hrow (by omega) (lb_le l p) _ 23 (List.mem_cons_self ..)
    exact ((hok.drewN q).alloc _).re (by simp only [World.drewN]; grind) (by simp only [List.map_cons, List.map_append, World.drewN]; grind)
  obtain ⟨a, cap, rfl⟩ := hrow.slice
  have HS := hid hcs
  have HI := hid hins
  have hal := addP_length l p
  clear hcs hins hat
  generalize lb l p = i at *
  generalize addP l p = l' at *
  generalize hn : l.length = n at *
  have HN := hid hn
  have HL := hid hal
  clear hn hal
  go_enter Tryz.func55, Tryz.ntmps55
  go_wp2_with (first
    | (go_at_call 35; refine HS.out.mono ?_; rintro e w1 ⟨rfl, q, rfl⟩)
    | (go_at_call 101; refine (HI.out _).mono ?_; rintro e w2 ⟨v', c', rfl, hrow', hok', hs'⟩; have hx2 := hok'.cell (b := rb) (cs := #[.slice a n cap]) (T := 92) (fz := (0, 0)) (by simp) 0; have hf2 := hok'.frozen (b := rb) (cs := #[.slice a n cap]) (T := 92) (by simp) 0; simp at hx2; obtain ⟨a', cap', rfl⟩ := hrow'.slice))
  go_ret
  have hok2 : Ok _ ((rb, .cells #[.slice a n cap] 92 (0, 0)) :: (c' ++ fr)) := hok'.re (c' := (rb, .cells #[.slice a n cap] 92 (0, 0)) :: (c' ++ fr)) (by grind) (by simp only [List.map_cons, List.map_append]; grind)
  refine ⟨(rb, .cells #[.slice a' (n + 1) cap'] 92 (0, 0)) :: c', rfl, ⟨_, c', rfl, by rw [HL.out]; exact hrow'⟩, hok2.setCell 0 _, ?_⟩
  exact ((((Same.refl w).drewN q).alloc _).trans hs').setCell _ _

theorem add_full (w : World) (rb p : Nat) (l : List Nat) (hr : RingAt w rb l) (hl : RingOk l) (hp : p ∉ l) (hlt : ¬ l.length < 64) :
    Calls Tryz.prog 55 #[.pointer (some ⟨rb, 0, none⟩), .int .u32 p] w fun e w' => e = .returned (.int .i64 5) ∧ Below w.heap.size w w' := by
  have hle := hl.le
  have hd : decide (p ∈ l) = false := by simpa using hp
  obtain ⟨v, hx, hrd⟩ := hr
  rcases hrd with ⟨rfl, rfl⟩ | ⟨b, off, cap, rfl, hcap, hc⟩
  · simp at hlt
  · have hcs := search_any b off l cap p w (by omega) hl.rising hc
    rw [hd] at hcs
    have HS := hid hcs
    clear hcs hc
    generalize lb l p = i at *
    generalize hn : l.length = n at *
    have HN := hid hn
    clear hn
    have hn64 : n = 64 := by omega
    subst hn64
    go_enter Tryz.func55, Tryz.ntmps55
    go_wp2_with (go_at_call 35; refine HS.out.mono ?_; rintro e w1 ⟨rfl, q, rfl⟩)
    go_ret
    exact ⟨rfl, drewN_below _ _⟩
end Go.Proofs.YtdllibalmjadhaaGreat
