/- NodeRefuses, its case of a crash, and all of it. -/
import Derived.Test.YtdllibalmjadhaaGreatRefuses
namespace Go.Proofs.YtdllibalmjadhaaGreat
open Go Go.RowKit

def askBox (b : Nat) : Obj := .cells (askC 4294967295 0 1 0 0 (.slice (some ⟨b, 0, none⟩) 1 1)).cells 53 (0, 0)
theorem crashed_lives (H : HubS) (p : Nat) : (H.crashed p).lives p = false := by simp [HubS.lives, HubS.crashed]
theorem crash_frame {w2 : World} {c fr : Chunk} (h : Ok w2 (c ++ fr)) (a b : Obj) : Ok ((w2.alloc a).alloc b) (c ++ ((w2.heap.size + 1, b) :: (w2.heap.size, a) :: fr)) := by
  have h1 := (h.alloc a).alloc b
  have e : (w2.alloc a).heap.size = w2.heap.size + 1 := by simp
  rw [e] at h1
  exact h1.cnt (by intro x hx; simp at hx ⊢; try grind) (by intro b; simp; try (first | omega | (simp [List.count_cons]; omega)))

set_option maxHeartbeats 2000000 in
set_option maxRecDepth 100000 in
theorem refuses_3 (a0 : Int) (a1 : Nat) (w : World) (d0 : ((IntKind.u64.wrap a0).tmod 6 == 0) = false) (d1 : ((IntKind.u64.wrap a0).tmod 6 == 1) = false) (d2 : ((IntKind.u64.wrap a0).tmod 6 == 2) = false) (d3 : ((IntKind.u64.wrap a0).tmod 6 == 3) = true) : Calls Tryz.prog 5 #[.int .i64 a0, .int .u32 a1] w fun en w' => en = .returned (.bool true) ∧ Below w.heap.size w w' := by
  have HN := hid (nodeNew_any 0 1 1 (by decide) (by decide) w)
  have HW := hid nodeAwake_any
  go_enter Tryz.func5, Tryz.ntmps5
  go_wp2_with (first | (go_at_call 8; refine HN.out.mono ?_; rintro en w1 ⟨nb, c, rfl, hN, hF⟩; have hok1 := hF.ok; have hbw1 := hF.below; clear HN hF) | (go_at_call 9; refine (HW.out _).mono ?_; rintro en w2 ⟨rfl, hb2⟩; have hok2 := hok1.below hb2; have hbw2 := below_trans hbw1 hb2; have hokF := crash_frame hok2 (.cells #[.int .i64 1, .int .u32 0, .int .u32 0] 61) (askBox w2.heap.size); have HX := hid (And.intro hokF hN); clear hok1 hok2 hN hokF hbw1 hb2 HW) | ((with_reducible apply wpList_buildT 53 (askC 4294967295 0 1 0 0 (.slice (some ⟨w2.heap.size, 0, none⟩) 1 1)).cells); exact built_ask0 _) | ((with_reducible apply wpList_storeT 53 (.agg (askC 4294967295 0 1 0 0 (.slice (some ⟨w2.heap.size, 0, none⟩) 1 1)).cells)); rfl; rfl; exact msg_storeB _ _ (by simp) _ _ rfl rfl rfl rfl) | ((with_reducible apply wpList_buildT 35 (deedC 5 0 0)); exact built_put) | ((with_reducible apply wpList_buildT 35 (deedC 1 1 0)); exact built_join1) | ((with_reducible apply wpList_buildT 35 (deedC 3 0 4294967295)); exact built_crash1) | ((with_reducible go_at_call 10); (with_reducible refine (HR3.out.kind _ (Below.refl _ _)).mono ?_); rintro en w4 ⟨rfl, hb4⟩; have HR4 := hid (HR3.out.below hb4)) | ((with_reducible go_at_call 10); (with_reducible refine (HR4.out.hub _ (Below.refl _ _)).mono ?_); rintro en w5 ⟨rfl, hb5⟩; have HR5 := hid (HR4.out.below hb5)) | (go_at_call 10; refine (nodes_crash _ _ nb 4294967295 _ (hub1_bare 1) _ HX.out.1 HX.out.2 (hub1_lives 1)).mono ?_; rintro en w2c ⟨cc, rfl, hNc, hokc, hsc⟩; have hmc : w2c.heap[w2.heap.size + 1]? = some (askBox w2.heap.size) := hokc.get (by simp); have hbc : w2c.heap[w2.heap.size]? = some (.cells #[.int .i64 1, .int .u32 0, .int .u32 0] 61 (0, 0)) := hokc.get (by simp); have hld := hid (msg_load hmc rfl); have hall := hokc.right.tail.tail; have hbwc := hall.toBelow ((((Same.refl w).below hbw2).alloc _).alloc _ |>.trans hsc); have HR2 := hid (Rest.of hokc hNc rfl); have hbx : AnyBox w2c w2.heap.size := ⟨cellOf hbc 0, cellOf hbc 1, cellOf hbc 2⟩; have HDo := hid (do_dead (bb := w2.heap.size) 4294967295 hokc hNc hbx (crashed_lives _ _)); clear HX hall hsc hmc hbc hokc hNc hbx) | ((with_reducible apply wpList_loadT 53); rfl; exact hld.out) | (go_at_call 14; refine HDo.out.mono ?_; rintro en w3 ⟨xa, xk, rfl, hb3⟩; have hbw3 := below_trans hbwc hb3; have HR3 := hid (HR2.out.below hb3)) | (go_at_call 11; refine (HR5.out.h1 _ _ (by omega) (Below.refl _ _)).mono ?_; rintro en w6 ⟨rfl, rfl⟩) | (go_at_call 18; refine (HR5.out.loads _ (Below.refl _ _)).mono ?_; rintro en w7 ⟨rfl, hb7⟩; have HR7 := hid (HR5.out.below hb7)) | (go_at_call 19; refine (HR7.out.links _ (Below.refl _ _)).mono ?_; rintro en w8 ⟨rfl, rfl⟩))
  go_ret
  exact ⟨rfl, below_trans hbw3 (below_trans hb4 (below_trans hb5 hb7))⟩

theorem refuses_any (a0 : Int) (a1 : Nat) (w : World) : Calls Tryz.prog 5 #[.int .i64 a0, .int .u32 a1] w fun en w' => en = .returned (.bool true) ∧ Below w.heap.size w w' := by
  cases d0 : ((IntKind.u64.wrap a0).tmod 6 == 0) with
  | true => exact refuses_0 a0 a1 w d0
  | false =>
  cases d1 : ((IntKind.u64.wrap a0).tmod 6 == 1) with
  | true => exact refuses_1 a0 a1 w d0 d1
  | false =>
  cases d2 : ((IntKind.u64.wrap a0).tmod 6 == 2) with
  | true => exact refuses_2 a0 a1 w d0 d1 d2
  | false =>
  cases d3 : ((IntKind.u64.wrap a0).tmod 6 == 3) with
  | true => exact refuses_3 a0 a1 w d0 d1 d2 d3
  | false =>
  cases d4 : ((IntKind.u64.wrap a0).tmod 6 == 4) with
  | true => exact refuses_4 a0 a1 w d0 d1 d2 d3 d4
  | false => exact refuses_5 a0 a1 w d0 d1 d2 d3 d4
end Go.Proofs.YtdllibalmjadhaaGreat
