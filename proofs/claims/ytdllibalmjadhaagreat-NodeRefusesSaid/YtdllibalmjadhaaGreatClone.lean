/- slices.Clone at uint32. -/
import Derived.Test.YtdllibalmjadhaaGreatProg
import Derived.Test.YtdllibalmjadhaaGreatSlices
namespace Go.Proofs.YtdllibalmjadhaaGreat
open Go Go.RowKit

theorem info_u32 : (Tryz.prog.info? 23).map (fun i => (i.zero, i.size, i.bytes)) = some (some (.int .u32 0), 1, 4) := by kernel_rfl

/-- Numbers as cells. -/
def u32s (l : List Nat) : List Value := l.map fun x : Nat => .int .u32 (x : Int)
theorem u32s_length (l : List Nat) : (u32s l).length = l.length := by simp [u32s]
theorem u32s_one (l : List Nat) : ∀ u ∈ u32s l, u.oneCell' = true := by
  intro u hu
  obtain ⟨x, _, rfl⟩ := List.mem_map.1 hu
  rfl

/-- The slice v reads as these numbers. -/
def ReadsU (w : World) (v : Value) (l : List Nat) : Prop :=
  (v = .slice none 0 0 ∧ l = []) ∨ ∃ b off cap, v = .slice (some ⟨b, off, none⟩) l.length cap ∧ l.length ≤ cap ∧ ∀ (i x : Nat), l[i]? = some x → w.cell? ⟨b, off + i, none⟩ = some (.int .u32 (x : Int))

theorem ReadsU.below {w w' : World} {v : Value} {l : List Nat} (h : ReadsU w v l) (hb : Below w.heap.size w w') : ReadsU w' v l := by
  rcases h with h | ⟨b, off, cap, h1, h2, h3⟩
  · exact .inl h
  · exact .inr ⟨b, off, cap, h1, h2, fun i x hx => stays hb (h3 i x hx)⟩

theorem cloneU_nil (w : World) : Calls Tryz.prog 42 #[.slice none 0 0] w fun e w' => e = .returned (.slice none 0 0) ∧ w = w' := by
  have hn := fun w a n c => Lib.run_eql_slice_nil (P := Tryz.prog) w 22 23 a n c 0 0 Tryz.underlying22
  go_enter Tryz.func42, Tryz.ntmps42
  go_wp2
  all_goals (go_ret; exact ⟨rfl, rfl⟩)

theorem cloneU_some (w : World) (fr : Chunk) (hok : Ok w fr) (b off cap : Nat) (l : List Nat) (hl : l.length < 1073741824) (hc : ∀ (i x : Nat), l[i]? = some x → w.cell? ⟨b, off + i, none⟩ = some (.int .u32 (x : Int))) :
    Calls Tryz.prog 42 #[.slice (some ⟨b, off, none⟩) l.length cap] w fun e w' => ∃ v c, e = .returned v ∧ Row 23 1 c v l.length (u32s l) ∧ Ok w' (c ++ fr) ∧ Same w w' ∧ v ≠ .slice none 0 0 ∧ Below w.heap.size w w' := by
  obtain ⟨i, hi, hz0, hz1, hz2⟩ := info_parts info_u32
  have hrow : Row 23 1 [(w.heap.size, .cells #[] 23 (0, 0))] (.slice (some ⟨w.heap.size, 0, none⟩) 0 0) 0 [] := ⟨by simp, .inr ⟨_, 0, #[], rfl, rfl, by simp, by simp, by simp, by simp⟩⟩
  have hcells : ∀ (j : Nat) u, (u32s l)[j]? = some u → (w.alloc (.cells #[] 23)).cell? ((⟨b, off, none⟩ : Addr).add j) = some u := by
    intro j u hu
    simp only [u32s, List.getElem?_map, Option.map_eq_some_iff] at hu
    obtain ⟨x, hx, rfl⟩ := hu
    rw [add_none]; exact stays ((Below.refl _ _).alloc (Nat.le_refl _) _) (hc j x hx)
  obtain ⟨v', w', c', hr, h2, h3, h4, h5, h6⟩ := row_append (P := Tryz.prog) (w := w.alloc (.cells #[] 23)) (fr := fr) (by simpa using hok.alloc (.cells #[] 23 (0, 0))) hrow 22 22 i (.int .u32 0) 4 Tryz.underlying22 hi hz0 hz1 hz2 rfl (by decide) ⟨b, off, none⟩ l.length cap (u32s l) (by simp [u32s]) hcells (u32s_one l) (by unfold maxLen; omega) (by omega)
  simp only [Nat.zero_add, List.nil_append] at h2
  have HR := hid hr
  clear hr
  have hn := fun w a n c => Lib.run_eql_slice_nil (P := Tryz.prog) w 22 23 a n c 0 0 Tryz.underlying22
  go_enter Tryz.func42, Tryz.ntmps42
  go_wp2_with (at_builtin; refine wpList_app rfl _ _ _ _ rfl rfl rfl HR.out ?_)
  go_ret
  refine ⟨v', c', rfl, h2, h3, ((Same.refl w).alloc _).trans h4, fun e => by simpa using (h6.1 e).1, (((Below.refl w.heap.size w).alloc (Nat.le_refl _) _).grown h5 (by simp) (fun k hk => ?_))⟩
  simp [Value.ownBlock] at hk
  omega

/-- A copy of one's own. -/
def FreshRow (w : World) (l : List Nat) (en : Ending) (w' : World) : Prop := ∃ v c, en = .returned v ∧ Row 23 1 c v l.length (u32s l) ∧ Fresh w w' c
theorem cloneU_any (w : World) (s : Value) (l : List Nat) (hl : l.length < 1073741824) (h : ReadsU w s l) : Calls Tryz.prog 42 #[s] w (FreshRow w l) := by
  rcases h with ⟨rfl, rfl⟩ | ⟨b, off, cap, rfl, hcap, hc⟩
  · exact (cloneU_nil w).mono fun e w' ⟨he, hw⟩ => by subst hw; exact ⟨_, [], he, Row.nil _ _, Fresh.refl _⟩
  · exact (cloneU_some w (allOf w) (Ok.all w) b off cap l hl hc).mono fun e w' ⟨v, c, h1, h2, h3, h4, _, _⟩ => ⟨v, c, h1, h2, h3, h4⟩
end Go.Proofs.YtdllibalmjadhaaGreat
