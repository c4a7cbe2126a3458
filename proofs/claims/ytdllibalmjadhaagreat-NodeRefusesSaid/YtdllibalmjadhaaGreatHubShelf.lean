/- The shelf of a node of a hub without entries. -/
import Derived.Test.YtdllibalmjadhaaGreatCrash
namespace Go.Proofs.YtdllibalmjadhaaGreat
open Go Go.RowKit

set_option maxHeartbeats 1000000 in
set_option maxRecDepth 100000 in
theorem hubShelf_bare (c fr : Chunk) (hb p : Nat) (H : HubS) (hbare : H.bare) (w : World) (hok : Ok w (c ++ fr)) (h : IsHub [] c hb H) (hl : H.lives p = true) : Calls Tryz.prog 44 #[.pointer (some ⟨hb, 0, none⟩), .int .u32 p] w fun en w' => en = .returned (.slice none 0 0) ∧ Below w.heap.size w w' := by
  obtain ⟨xb, sb, db, hal, hxb, hscan, _⟩ := bare_node c fr hb p H hbare w hok h hl
  have hlive := hl
  simp only [HubS.lives, Bool.and_eq_true, decide_eq_true_eq, Bool.not_eq_true'] at hlive
  obtain ⟨rb, mb, arr, clk, l, cr, cn, h⟩ := h
  have h1 : w.cell? ⟨hb, 1, none⟩ = some (.pointer (some ⟨rb, 0, none⟩)) := cellOf (h.get hok) 1
  have HSp := hid (span_some rb p H.pts w (h.ringAt hok) h.ok hlive.1)
  have HA := hid hal
  have HS := hid hscan
  clear hal hscan hok h hlive
  go_enter Tryz.func44, Tryz.ntmps44
  go_wp2_with (first | (go_at_call 48; refine HA.out.mono ?_; rintro en w1 ⟨rfl, rfl⟩) | (go_at_call 57; refine HSp.out.mono ?_; rintro en w2 ⟨rfl, hb2⟩; have x2 : w2.cell? ⟨xb, 2, none⟩ = some (.pointer (some ⟨sb, 0, none⟩)) := cellOf (holds hb2 hxb) 2))
  have hbw := below_trans hb2 (alloc_below w2 (.cells #[.int .u32 (fromOf H.pts p : Nat), .int .u32 p] 50 (0, 0)))
  refine wp_region_b [6, 7] (by kernel_rfl) (by kernel_rfl) ?_
  intro E _ hE hI
  have f0 : ∀ w' : InD E, w'.val.cell? ⟨w2.heap.size, 0, none⟩ = some (.int .u32 (fromOf H.pts p : Nat)) := fun w' => cellOf (holds (hE w') (heap1 _ _)) 0
  have f1 : ∀ w' : InD E, w'.val.cell? ⟨xb, 2, none⟩ = some (.pointer (some ⟨sb, 0, none⟩)) := fun w' => stays (hE w') (stays (alloc_below _ _) x2)
  repeat (refine wpX_step (fun K hK => ?_); go_simp; refine hK _ _ ?_; clear hK K)
  refine wpX_step (fun K hK => ?_); go_simp
  refine ⟨fun u w' => u = .agg #[.int .u32 (fromOf H.pts p : Nat), .int .u32 (fromOf H.pts p : Nat)] ∧ E w', fun w' hw' => (all_any _ _).mono fun en w'' ⟨he, hb'⟩ => ⟨_, he, rfl, hI _ (below_trans (hE ⟨w', hw'⟩) hb')⟩, fun u w h => h.2, ?_⟩
  rintro u y ⟨rfl, _⟩
  refine hK _ _ ?_; clear hK K
  repeat (refine wpX_step (fun K hK => ?_); go_simp; refine hK _ _ ?_; clear hK K)
  refine wpX_step (fun K hK => ?_); go_simp
  refine ⟨fun u w' => u = .slice none 0 0 ∧ E w', fun w' hw' => (HS.out _ _ _ (below_trans hbw (hE ⟨w', hw'⟩))).mono fun en w'' ⟨he, hb'⟩ => ⟨_, he, rfl, hI _ (below_trans (hE ⟨w', hw'⟩) hb')⟩, fun u w h => h.2, ?_⟩
  rintro u y ⟨rfl, _⟩
  refine hK _ _ ?_; clear hK K
  repeat (refine wpX_step (fun K hK => ?_); go_simp; refine hK _ _ ?_; clear hK K)
  refine wpX_nil ?_
  intro w4 hw4
  have hb4 := below_trans hbw (hE ⟨w4, hw4⟩)
  clear hI f0 f1
  go_wp2
  go_ret
  exact ⟨rfl, hb4⟩
end Go.Proofs.YtdllibalmjadhaaGreat
