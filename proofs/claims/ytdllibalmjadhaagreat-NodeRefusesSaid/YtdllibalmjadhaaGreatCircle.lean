/- Spans of the circle: circle.Far, Size, Has. -/
import Derived.Test.YtdllibalmjadhaaGreatProg
import Derived.Test.YtdllibalmjadhaaGreatRegions
namespace Go.Proofs.YtdllibalmjadhaaGreat
open Go Go.RowKit

/-- The steps from one value to another one. -/
def far (a b : Nat) : Nat := (b + 4294967296 - a) % 4294967296
/-- How many values a span has. -/
def spanSize (f t : Nat) : Nat := if f = t then 4294967296 else far f t
/-- A value's next one. -/
def succ32 (a : Nat) : Nat := (a + 1) % 4294967296
def spanHas (f t v : Nat) : Bool := decide (far (succ32 f) v < spanSize f t)

theorem far_lt (a b : Nat) : far a b < 4294967296 := Nat.mod_lt _ (by decide)
theorem succ32_lt (a : Nat) : succ32 a < 4294967296 := Nat.mod_lt _ (by decide)
theorem wrap_sub (a b : Nat) (ha : a < 4294967296) (hb : b < 4294967296) : IntKind.u32.wrap ((b : Int) - (a : Int)) = (far a b : Nat) := by
  unfold far; simp [IntKind.wrap, IntKind.signed, IntKind.bits]; omega
theorem wrap_succ (a : Nat) : IntKind.u32.wrap ((a : Int) + 1) = (succ32 a : Nat) := by
  unfold succ32; simp [IntKind.wrap, IntKind.signed, IntKind.bits]

theorem far_any (a b : Nat) (ha : a < 4294967296) (hb : b < 4294967296) (w : World) : Calls Tryz.prog 89 #[.int .u32 a, .int .u32 b] w fun e w' => e = .returned (.int .u32 (far a b : Nat)) ∧ w = w' := by
  have h := wrap_sub a b ha hb
  go_enter Tryz.func89, Tryz.ntmps89
  go_wp2
  go_ret
  exact ⟨rfl, rfl⟩

theorem size_any (f t : Nat) (hf : f < 4294967296) (ht : t < 4294967296) (w : World) : Calls Tryz.prog 90 #[.agg #[.int .u32 f, .int .u32 t]] w fun e w' => e = .returned (.int .u64 (spanSize f t : Nat)) ∧ Below w.heap.size w w' := by
  by_cases h : f = t
  · have hs : spanSize f t = 4294967296 := by simp [spanSize, h]
    rw [hs]
    subst h
    go_enter Tryz.func90, Tryz.ntmps90
    go_wp2
    go_ret
    exact ⟨rfl, (Below.refl _ _).alloc (Nat.le_refl _) _⟩
  · have hs : spanSize f t = far f t := by simp [spanSize, h]
    rw [hs]
    have h1 : ((f : Int) == (t : Int)) = false := by simp; omega
    have hfar := far_lt f t
    go_enter Tryz.func90, Tryz.ntmps90
    go_wp2_with (go_at_call 89; refine (far_any f t hf ht _).mono ?_; rintro e w' ⟨rfl, rfl⟩)
    go_ret
    exact ⟨rfl, (Below.refl _ _).alloc (Nat.le_refl _) _⟩

theorem has_any (f t v : Nat) (hf : f < 4294967296) (ht : t < 4294967296) (hv : v < 4294967296) (w : World) : Calls Tryz.prog 91 #[.agg #[.int .u32 f, .int .u32 t], .int .u32 v] w fun e w' => e = .returned (.bool (spanHas f t v)) ∧ Below w.heap.size w w' := by
  have hw := wrap_succ f
  have hs := succ32_lt f
  have hfar := far_lt (succ32 f) v
  have hw64 : IntKind.u64.wrap ((far (succ32 f) v : Nat) : Int) = (far (succ32 f) v : Nat) := by simp [IntKind.wrap, IntKind.signed, IntKind.bits]; omega
  go_enter Tryz.func91, Tryz.ntmps91
  go_wp2_with (fail)
  refine wp_region_b [4, 7] (by kernel_rfl) (by kernel_rfl) ?_
  intro E _ hE hI
  have h0 : ∀ w' : InD E, w'.val.cell? ⟨w.heap.size, 0, none⟩ = some (.int .u32 f) := fun w' => stays (hE w') (by simp)
  have h1 : ∀ w' : InD E, w'.val.cell? ⟨w.heap.size, 1, none⟩ = some (.int .u32 t) := fun w' => stays (hE w') (by simp)
  repeat (refine wpX_step (fun K hK => ?_); go_simp; refine hK _ _ ?_; clear hK K)
  refine wpX_step (fun K hK => ?_); go_simp
  refine ⟨fun u w' => u = .int .u32 (far (succ32 f) v : Nat) ∧ E w', fun w' hw' => (far_any _ _ hs hv _).mono fun e w'' ⟨he, hb⟩ => ⟨_, he, rfl, by subst hb; exact hw'⟩, fun u w h => h.2, ?_⟩
  rintro u x ⟨rfl, _⟩
  refine hK _ _ ?_
  clear hK K
  repeat (refine wpX_step (fun K hK => ?_); go_simp; refine hK _ _ ?_; clear hK K)
  refine wpX_step (fun K hK => ?_); go_simp
  refine ⟨fun u w' => u = .int .u64 (spanSize f t : Nat) ∧ E w', fun w' hw' => (size_any _ _ hf ht _).mono fun e w'' ⟨he, hb⟩ => ⟨_, he, rfl, hI _ (below_trans (hE ⟨w', hw'⟩) hb)⟩, fun u w h => h.2, ?_⟩
  rintro u x ⟨rfl, _⟩
  refine hK _ _ ?_
  clear hK K
  repeat (refine wpX_step (fun K hK => ?_); go_simp; refine hK _ _ ?_; clear hK K)
  refine wpX_nil ?_
  intro w' hw'
  have hd := hE ⟨w', hw'⟩
  go_wp2
  go_ret
  exact ⟨by simp [spanHas], below_trans ((Below.refl _ _).alloc (Nat.le_refl _) _) hd⟩
end Go.Proofs.YtdllibalmjadhaaGreat