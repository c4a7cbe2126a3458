/- NodeEntry, walked. -/
import Derived.Test.YtdllibalmjadhaaGreatE30

namespace Go.Proofs.YtdllibalmjadhaaGreat
open Go Go.RowKit

/-- A slice, as it reads. -/
def ReadsL {α : Type} (mk : α → Value) (w : World) (a : Option Addr) (l : List α) : Prop := ∀ (i : Nat) (x : α), l[i]? = some x → ∃ b off, a = some ⟨b, off, none⟩ ∧ w.cell? ⟨b, off + i, none⟩ = some (mk x)
def u32v (x : Nat) : Value := .int .u32 (x : Int)
theorem ReadsL.below {α : Type} {mk : α → Value} {w w' : World} {a : Option Addr} {l : List α} (h : ReadsL mk w a l) (hb : Below w.heap.size w w') : ReadsL mk w' a l := fun i x hx => by
  obtain ⟨b, off, h1, h2⟩ := h i x hx
  exact ⟨b, off, h1, stays hb h2⟩

theorem calm_new (links reps seed : Nat) (hl : links ≤ 1) : Calm ⟨links, hub1 reps, 0, seed, [], []⟩ [] 0 :=
  ⟨hl, Nat.le_refl _, (fun kv h => by cases h), (fun kv h => by cases h), (fun kv h => by cases h), hub1_bare reps, rfl, by rw [hub1_pts]; decide, ringOk1, by simp [hub1_pts]⟩

theorem idx_any (x : Int) (n : Nat) (h : 0 < n) (h2 : n ≤ 1000000) : ∃ K : Nat, K < n ∧ wrap64 ((IntKind.u64.wrap x).tmod (n : Int)) = (K : Int) := by
  have h0 : 0 ≤ IntKind.u64.wrap x := (wrap_within .u64 x).1
  rw [Int.tmod_eq_emod_of_nonneg h0]
  have h1 : 0 ≤ IntKind.u64.wrap x % (n : Int) := Int.emod_nonneg _ (by omega)
  have h3 : IntKind.u64.wrap x % (n : Int) < n := Int.emod_lt_of_pos _ (by omega)
  rw [IntWalk.wrap64_in _ (by omega)]
  exact ⟨(IntKind.u64.wrap x % (n : Int)).toNat, by omega, by omega⟩

end Go.Proofs.YtdllibalmjadhaaGreat
