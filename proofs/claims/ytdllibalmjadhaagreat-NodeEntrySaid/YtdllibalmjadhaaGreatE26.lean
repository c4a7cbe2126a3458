/- slices.Clone at ranges. -/
import Derived.Test.YtdllibalmjadhaaGreatE22

namespace Go.Proofs.YtdllibalmjadhaaGreat
open Go Go.RowKit

theorem info_range : (Tryz.prog.info? 61).map (fun i => (i.zero, i.size, i.bytes)) = some (some (.agg #[.int .i64 0, .int .u32 0, .int .u32 0]), 3, 16) := by kernel_rfl

theorem cloneR_some (w : World) (fr : Chunk) (hok : Ok w fr) (b off n cap : Nat) (xs : List Value) (hl : xs.length = n * 3) (hn : n < 1073741824) (hc : ∀ (j : Nat) u, xs[j]? = some u → w.cell? ((⟨b, off, none⟩ : Addr).add j) = some u) (h1 : ∀ u ∈ xs, u.oneCell' = true) :
    Calls Tryz.prog 93 #[.slice (some ⟨b, off, none⟩) n cap] w fun e w' => ∃ v c, e = .returned v ∧ Row 61 3 c v n xs ∧ Ok w' (c ++ fr) ∧ Same w w' ∧ v ≠ .slice none 0 0 ∧ Below w.heap.size w w' := by
  obtain ⟨i, hi, hz0, hz1, hz2⟩ := info_parts info_range
  have hrow : Row 61 3 [(w.heap.size, .cells #[] 61 (0, 0))] (.slice (some ⟨w.heap.size, 0, none⟩) 0 0) 0 [] := ⟨by simp, .inr ⟨_, 0, #[], rfl, rfl, by simp, by simp, by simp, by simp⟩⟩
  have hcells : ∀ (j : Nat) u, xs[j]? = some u → (w.alloc (.cells #[] 61)).cell? ((⟨b, off, none⟩ : Addr).add j) = some u := fun j u hu => stays ((Below.refl _ _).alloc (Nat.le_refl _) _) (hc j u hu)
  obtain ⟨v', w', c', hr, h2, h3, h4, h5, h6⟩ := row_append (P := Tryz.prog) (w := w.alloc (.cells #[] 61)) (fr := fr) (by simpa using hok.alloc (.cells #[] 61 (0, 0))) hrow 32 32 i (.agg #[.int .i64 0, .int .u32 0, .int .u32 0]) 16 Tryz.underlying32 hi hz0 hz1 hz2 rfl (by decide) ⟨b, off, none⟩ n cap xs hl hcells h1 (by unfold maxLen; omega) (by omega)
  simp only [Nat.zero_add, List.nil_append] at h2
  have HR := hid hr
  clear hr
  have hn := fun w a n c => Lib.run_eql_slice_nil (P := Tryz.prog) w 32 61 a n c 0 0 Tryz.underlying32
  go_enter Tryz.func93, Tryz.ntmps93
  go_wp2_with (at_builtin; refine wpList_app rfl _ _ _ _ rfl rfl rfl HR.out ?_)
  go_ret
  refine ⟨v', c', rfl, h2, h3, ((Same.refl w).alloc _).trans h4, fun e => by simpa using (h6.1 e).1, (((Below.refl w.heap.size w).alloc (Nat.le_refl _) _).grown h5 (by simp) (fun k hk => ?_))⟩
  simp [Value.ownBlock] at hk
  omega

/-- Of a box of one range. -/
theorem clone_anybox (b : Nat) (w : World) (h : AnyBox w b) : Calls Tryz.prog 93 #[.slice (some ⟨b, 0, none⟩) 1 1] w fun en w' => (∃ bx', en = .returned bx' ∧ bx'.oneCell' = true ∧ BoxLike bx') ∧ Below w.heap.size w w' := by
  refine (cloneR_some w [] (Ok.nil w) b 0 1 1 [.int .i64 1, .int .u32 0, .int .u32 0] rfl (by decide) (fun j u hu => ?_) (by simp [Value.oneCell'])).mono ?_
  · rw [add_none, Nat.zero_add]
    rcases j with _ | _ | _ | j
    · simp at hu; subst hu; exact h.k
    · simp at hu; subst hu; exact h.lo
    · simp at hu; subst hu; exact h.hi
    · simp at hu
  · rintro e w' ⟨v, c, rfl, hrow, _, _, _, hb⟩
    obtain ⟨a, k, rfl⟩ := hrow.slice
    exact ⟨⟨_, rfl, rfl, ⟨_, _, _, rfl⟩⟩, hb⟩
end Go.Proofs.YtdllibalmjadhaaGreat
