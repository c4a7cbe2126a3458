/- A hub's heirs; its nodes, one at a time. -/
import Derived.Test.YtdllibalmjadhaaGreatShadow
import Derived.Test.YtdllibalmjadhaaGreatHeirs
namespace Go.Proofs.YtdllibalmjadhaaGreat
open Go Go.RowKit

theorem mput_same {p : Nat} {v : Value} : ∀ {l : List (Nat × Value)}, mget l p = some v → mput l p v = l
  | [], h => by simp [mget] at h
  | q :: l, h => by
    simp only [mget] at h
    simp only [mput]
    split at h
    · rename_i hk
      cases h
      rw [if_pos hk]
    · rename_i hk
      rw [if_neg hk, mput_same h]

theorem all_any (p : Nat) (w : World) : Calls Tryz.prog 96 #[.int .u32 p] w fun en w' => en = .returned (.agg #[.int .u32 p, .int .u32 p]) ∧ Below w.heap.size w w' := by
  go_enter Tryz.func96, Tryz.ntmps96
  go_wp2
  refine bodyPost_ret (v := .agg #[.int .u32 p, .int .u32 p]) (by simp [results, Tryz.results96, go_sem]) rfl ⟨rfl, alloc_below _ _⟩

set_option maxRecDepth 100000 in
theorem hubheirs_any (F c fr : Chunk) (hb p : Nat) (H : HubS) (w : World) (hok : Ok w (c ++ fr)) (h : IsHub F c hb H) (hne : H.pts ≠ []) : Calls Tryz.prog 106 #[.pointer (some ⟨hb, 0, none⟩), .int .u32 p] w fun en w' =>
    ∃ v cv, en = .returned v ∧ Row 23 1 cv v (heirsOf H.pts p (H.reps - 1)).length (u32s (heirsOf H.pts p (H.reps - 1))) ∧ Fresh w w' cv := by
  obtain ⟨rb, mb, arr, clk, l, cr, cn, h⟩ := h
  have hg := h.get hok
  have hr := h.reps
  have hat := h.ringAt hok
  have hcall : ∀ w', Below w.heap.size w w' → Calls Tryz.prog 15 #[.pointer (some ⟨rb, 0, none⟩), .int .u32 p, .int .i64 ((H.reps - 1 : Nat) : Int)] w' _ := fun w' hb' => heirs_some rb p H.pts (H.reps - 1) (by omega) w' (hat.below hb') h.ok hne
  have HC := hid hcall
  have hsub : IntKind.i64.wrap ((H.reps : Int) - 1) = ((H.reps - 1 : Nat) : Int) := by
    rw [IntWalk.i64_in _ (by omega)]; omega
  clear hcall hok h hat
  go_enter Tryz.func106, Tryz.ntmps106
  go_wp2_with (fail)
  refine wp_region_b [10] (by kernel_rfl) (by kernel_rfl) ?_
  intro E _ hE hI
  have h0 : ∀ w' : InD E, w'.val.cell? ⟨hb, 0, none⟩ = some (.int .i64 H.reps) := fun w' => cellOf (holds (hE w') hg) 0
  have h1 : ∀ w' : InD E, w'.val.cell? ⟨hb, 1, none⟩ = some (.pointer (some ⟨rb, 0, none⟩)) := fun w' => cellOf (holds (hE w') hg) 1
  repeat (refine wpX_step (fun K hK => ?_); go_simp; refine hK _ _ ?_; clear hK K)
  refine wpX_step (fun K hK => ?_); go_simp
  refine ⟨fun u w' => (∃ cv, Row 23 1 cv u (heirsOf H.pts p (H.reps - 1)).length (u32s (heirsOf H.pts p (H.reps - 1))) ∧ Fresh w w' cv) ∧ E w', fun w' hw' => ?_, fun u w h => h.2, ?_⟩
  · refine (HC.out w' (hE ⟨w', hw'⟩)).mono ?_
    rintro en w'' ⟨v, cv, rfl, hrow, hf⟩
    exact ⟨v, rfl, ⟨cv, hrow, Fresh.from (hE ⟨w', hw'⟩) hf⟩, hI _ (below_trans (hE ⟨w', hw'⟩) hf.below)⟩
  rintro u y _
  refine hK _ _ ?_; clear hK K
  repeat (refine wpX_step (fun K hK => ?_); go_simp; refine hK _ _ ?_; clear hK K)
  refine wpX_nil ?_
  rintro w' ⟨⟨cv, hrow, hf⟩, _⟩
  go_wp2
  go_ret
  exact ⟨_, cv, rfl, hrow, hf⟩

/-- A hub without entries. -/
def HubS.bare (H : HubS) : Prop := H.sh = (fun _ => []) ∧ H.sd = fun _ _ => []
/-- What is left of a hub. -/
def HubPost (w : World) (fr : Chunk) (hb : Nat) (H : HubS) (r : Value) (en : Ending) (w' : World) : Prop := ∃ c', en = .returned r ∧ IsHub [] c' hb H ∧ Ok w' (c' ++ fr) ∧ Same w w'

/-- A node of a hub without entries. -/
theorem bare_node (c fr : Chunk) (hb p : Nat) (H : HubS) (hbare : H.bare) (w : World) (hok : Ok w (c ++ fr)) (h : IsHub [] c hb H) (hl : H.lives p = true) : ∃ xb sb db,
    Calls Tryz.prog 48 #[.pointer (some ⟨hb, 0, none⟩), .int .u32 p] w (fun en w' => en = .returned (.pointer (some ⟨xb, 0, none⟩)) ∧ w = w') ∧
    w.heap[xb]? = some (.cells #[.bool false, .int .i64 0, .pointer (some ⟨sb, 0, none⟩), .pointer (some ⟨db, 0, none⟩)] 127 (0, 0)) ∧
    (∀ w' a b, Below w.heap.size w w' → Calls Tryz.prog 95 #[.pointer (some ⟨sb, 0, none⟩), .agg #[.int .u32 (a : Nat), .int .u32 (b : Nat)]] w' fun en w'' => en = .returned (.slice none 0 0) ∧ Below w'.heap.size w' w'') ∧
    (∀ (o : Nat), Calls Tryz.prog 107 #[.pointer (some ⟨db, 0, none⟩), .int .u32 o, .slice none 0 0] w (HubPost w fr hb H (.tuple #[]))) := by
  obtain ⟨rb, mb, arr, clk, l, cr, cn, h⟩ := h
  obtain ⟨hs, hd⟩ := hbare
  simp only [HubS.lives, Bool.and_eq_true, decide_eq_true_eq, Bool.not_eq_true'] at hl
  obtain ⟨hp, hdd⟩ := hl
  have hat := h.at hok
  obtain ⟨xb, x, c1, y, hg, e2, ⟨sb, db, cs, cd, e3, hsh, hsd⟩, hput⟩ := h.split hp
  have hc := h.chunk
  have hring := h.ring
  have hrok := h.ok
  have hmap := h.map
  have hkeys := h.keys
  have hreps := h.reps
  clear h
  subst hc e2 e3
  rw [hs] at hsh
  rw [hd] at hsd
  have hxb := hok.get (b := xb) (o := .cells #[.bool (H.dead p), .int .i64 0, .pointer (some ⟨sb, 0, none⟩), .pointer (some ⟨db, 0, none⟩)] 127 (0, 0)) (by simp)
  rw [hdd] at hxb
  refine ⟨xb, sb, db, ?_, hxb, fun w' a b hb' => ?_, fun o => ?_⟩
  · have := alive_some hb p xb false l w hat hg (cellOf hxb 0)
    exact this.mono fun en w' ⟨h1, h2⟩ => ⟨by simpa using h1, h2⟩
  · refine scan_empty [] cs [] sb a b w' ?_ hsh
    exact (hok.below hb').cnt (by intro x hx; simp at hx ⊢; try grind) (by intro b; simp; try (first | omega | (simp [List.count_cons]; omega)))
  · have hok' : Ok w (cd ++ ((hb, .cells #[.int .i64 H.reps, .pointer (some ⟨rb, 0, none⟩), .map (some mb), .slice none 0 0] 90 (0, 0)) :: (mb, .map arr clk) :: (cr ++ (x ++ ((xb, .cells #[.bool (H.dead p), .int .i64 0, .pointer (some ⟨sb, 0, none⟩), .pointer (some ⟨db, 0, none⟩)] 127 (0, 0)) :: (cs ++ y)) ++ fr)))) := hok.cnt (by intro x hx; simp at hx ⊢; try grind) (by intro b; simp; try (first | omega | (simp [List.count_cons]; omega)))
    refine (shadowSet_empty w cd _ db o hok' hsd).mono ?_
    rintro en w' ⟨cd', rfl, hsd', hok2, hsame⟩
    have hnode : H.node [] p xb ((xb, .cells #[.bool (H.dead p), .int .i64 0, .pointer (some ⟨sb, 0, none⟩), .pointer (some ⟨db, 0, none⟩)] 127 (0, 0)) :: (cs ++ cd')) := ⟨sb, db, cs, cd', rfl, by rw [hs]; exact hsh, by rw [hd]; exact hsd'⟩
    have hput' := hput (H.node []) xb _ (fun q _ _ b c hq => hq) hnode
    have e : mput l p (.pointer (some ⟨xb, 0, none⟩)) = l := mput_same hg
    rw [e] at hput'
    refine ⟨_, rfl, ⟨rb, mb, arr, clk, l, cr, _, ⟨rfl, hring, hrok, hmap, hput', hkeys, hreps⟩⟩, ?_, hsame⟩
    exact hok2.cnt (by intro x hx; simp at hx ⊢; try grind) (by intro b; simp; try (first | omega | (simp [List.count_cons]; omega)))
end Go.Proofs.YtdllibalmjadhaaGreat
