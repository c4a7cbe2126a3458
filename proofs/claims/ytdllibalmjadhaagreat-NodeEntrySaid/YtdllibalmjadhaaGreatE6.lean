/- Entries, as values; their copies; which one is newer. -/
import Derived.Test.YtdllibalmjadhaaGreatE5

namespace Go.Proofs.YtdllibalmjadhaaGreat
open Go Go.RowKit

/-- An entry of a shelf. -/
structure Ent where
  value : Nat
  id : Nat
  version : Nat
  vals : List Nat
  gone : Bool
def Ent.key (e : Ent) : Nat × Nat := (e.value, e.id)
def entV (e : Ent) (s : Value) : Value := .agg #[.int .u32 e.value, .int .u64 e.id, .int .u64 e.version, s, .bool e.gone]
def recV (e : Ent) (s : Value) : Value := .agg #[.int .u64 e.id, .int .u64 e.version, s]
def newer (a b : Ent) : Bool := decide (b.version < a.version) || (a.version == b.version && a.gone && !b.gone)

/-- The slice s reads as these numbers, in these blocks. -/
def SlIn (F : Chunk) (s : Value) (l : List Nat) : Prop :=
  (s = .slice none 0 0 ∧ l = []) ∨ ∃ b off cap cur, s = .slice (some ⟨b, off, none⟩) l.length cap ∧ l.length ≤ cap ∧ (b, .cells cur 23 (0, 0)) ∈ F ∧ ∀ (i x : Nat), l[i]? = some x → cur[off + i]? = some (.int .u32 (x : Int))
theorem SlIn.mono {F F' : Chunk} {s : Value} {l : List Nat} (h : SlIn F s l) (hF : ∀ x, x ∈ F → x ∈ F') : SlIn F' s l := by
  rcases h with h | ⟨b, off, cap, cur, h1, h2, h3, h4⟩
  · exact .inl h
  · exact .inr ⟨b, off, cap, cur, h1, h2, hF _ h3, h4⟩
theorem SlIn.reads {F : Chunk} {s : Value} {l : List Nat} {w : World} (h : SlIn F s l) (hok : Ok w F) : ReadsU w s l := by
  rcases h with h | ⟨b, off, cap, cur, h1, h2, h3, h4⟩
  · exact .inl h
  · exact .inr ⟨b, off, cap, h1, h2, fun i x hx => by rw [hok.cell h3]; exact h4 i x hx⟩
theorem Row.slIn {c : Chunk} {s : Value} {l : List Nat} (h : Row 23 1 c s l.length (u32s l)) : SlIn c s l := by
  rcases h.2 with ⟨hv, hn, _⟩ | ⟨g, cap, cur, hv, hc, h1, h2, h3, h4⟩
  · exact .inl ⟨hv, List.length_eq_zero_iff.1 hn⟩
  · refine .inr ⟨g, 0, cap, cur, hv, h1, by rw [hc]; simp, fun i x hx => ?_⟩
    have hi : i < l.length := (List.getElem?_eq_some_iff.1 hx).1
    have : (cur.toList.take (l.length * 1))[i]? = (u32s l)[i]? := by rw [h4]
    rw [List.getElem?_take_of_lt (by omega)] at this
    simp only [u32s, List.getElem?_map, hx, Option.map_some, Array.getElem?_toList] at this
    simpa using this

theorem key_any (e : Ent) (s : Value) (w : World) : Calls Tryz.prog 105 #[entV e s] w fun en w' => en = .returned (encKey e.key) ∧ Below w.heap.size w w' := by
  unfold entV encKey Ent.key
  go_enter Tryz.func105, Tryz.ntmps105
  go_wp2
  refine bodyPost_ret (v := .agg #[.int .u32 e.value, .int .u64 e.id]) (by simp [results, Tryz.results105, go_sem]) rfl ⟨rfl, ?_⟩
  exact ((Below.refl _ _).alloc (Nat.le_refl _) _).alloc (by simp) _

theorem newer_any (a b : Ent) (sa sb : Value) (w : World) : Calls Tryz.prog 143 #[entV a sa, entV b sb] w fun en w' => en = .returned (.bool (newer a b)) ∧ Below w.heap.size w w' := by
  unfold entV
  obtain ⟨av, ai, an, al, ag⟩ := a
  obtain ⟨bv, bi, bn, bl, bg⟩ := b
  have key : ∀ r : Bool, newer ⟨av, ai, an, al, ag⟩ ⟨bv, bi, bn, bl, bg⟩ = r → Ending.returned (.bool r) = .returned (.bool (newer ⟨av, ai, an, al, ag⟩ ⟨bv, bi, bn, bl, bg⟩)) := fun r h => by rw [h]
  have HK := hid key
  clear key
  go_enter Tryz.func143, Tryz.ntmps143
  go_wp2_with (fail)
  refine wp_region_b [] (by kernel_rfl) (by kernel_rfl) ?_
  intro E _ hE hI
  have h0 : ∀ w' : InD E, w'.val.cell? ⟨w.heap.size, 2, none⟩ = some (.int .u64 an) := fun w' => stays (hE w') (by simp)
  have h1 : ∀ w' : InD E, w'.val.cell? ⟨w.heap.size + 1, 2, none⟩ = some (.int .u64 bn) := fun w' => stays (hE w') (by simp)
  repeat (refine wpX_step (fun K hK => ?_); go_simp; refine hK _ _ ?_; clear hK K)
  refine wpX_nil ?_
  intro w' hw'
  have hd := hE ⟨w', hw'⟩
  have hb : Below w.heap.size w w' := (((Below.refl _ _).alloc (Nat.le_refl _) _).alloc (by simp) _).trans (hd.mono (by simp; omega))
  have q0 : w'.cell? ⟨w.heap.size, 4, none⟩ = some (.bool ag) := stays hd (by simp)
  have q1 : w'.cell? ⟨w.heap.size + 1, 4, none⟩ = some (.bool bg) := stays hd (by simp)
  by_cases c1 : bn < an
  · have c1' : decide ((bn : Int) < (an : Int)) = true := by simpa using c1
    go_wp2
    go_ret
    exact ⟨HK.out _ (by simp [newer, c1]), hb⟩
  · have c1' : decide ((bn : Int) < (an : Int)) = false := by simpa using c1
    by_cases c2 : an = bn
    · subst c2
      cases ag <;> cases bg <;>
      · go_wp2
        go_ret
        exact ⟨HK.out _ (by simp [newer]), hb⟩
    · have c2' : ((an : Int) == (bn : Int)) = false := by rw [beq_eq_false_iff_ne]; omega
      go_wp2
      go_ret
      exact ⟨HK.out _ (by simp [newer, c1, c2]), hb⟩

def CopyPost (w : World) (f : Value → Value) (l : List Nat) (en : Ending) (w' : World) : Prop := ∃ s c, en = .returned (f s) ∧ Row 23 1 c s l.length (u32s l) ∧ Fresh w w' c

theorem copy_any (e : Ent) (s : Value) (w : World) (hl : e.vals.length < 1073741824) (hs : ReadsU w s e.vals) : Calls Tryz.prog 157 #[recV e s] w (CopyPost w (recV e) e.vals) := by
  unfold recV
  have hcall : ∀ w1, Below w.heap.size w w1 → Calls Tryz.prog 42 #[s] w1 (FreshRow w1 e.vals) := fun w1 hb => cloneU_any w1 s e.vals hl (hs.below hb)
  have HC := hid hcall
  clear hcall
  obtain ⟨a, n, m, rfl⟩ : ∃ a n m, s = .slice a n m := by
    rcases hs with ⟨rfl, _⟩ | ⟨b, off, cap, rfl, _⟩ <;> exact ⟨_, _, _, rfl⟩
  clear hs
  go_enter Tryz.func157, Tryz.ntmps157
  go_wp2_with (go_at_call 42; refine (HC.out _ (((Below.refl _ _).alloc (Nat.le_refl _) _).alloc (by simp) _)).mono ?_; rintro en w1 ⟨v, c, rfl, hrow, hfr⟩; obtain ⟨a', m', rfl⟩ := hrow.slice; have k0 := holds hfr.below (heap2 _ _ _); have k1 := holds hfr.below (heap2' _ _ _); have q0 : w1.cell? ⟨w.heap.size, 0, none⟩ = some (.int .u64 e.id) := cellOf k0 0; have q1 : w1.cell? ⟨w.heap.size, 1, none⟩ = some (.int .u64 e.version) := cellOf k0 1; have q2 : w1.cell? ⟨w.heap.size, 2, none⟩ = some (.slice a n m) := cellOf k0 2; have r0 : w1.cell? ⟨w.heap.size + 1, 0, none⟩ = some (.int .u64 0) := cellOf k1 0; have r1 : w1.cell? ⟨w.heap.size + 1, 1, none⟩ = some (.int .u64 0) := cellOf k1 1; have r2 : w1.cell? ⟨w.heap.size + 1, 2, none⟩ = some (.slice none 0 0) := cellOf k1 2; have z0 := fun i => frozenOf k0 i; have z1 := fun i => frozenOf k1 i; clear k0 k1)
  refine bodyPost_ret (v := .agg #[.int .u64 e.id, .int .u64 e.version, .slice a' e.vals.length m']) (by simp [results, Tryz.results157, go_sem, r0, r1, r2]) rfl ⟨_, c, rfl, hrow, ?_⟩
  have hF : Fresh w w1 c := Fresh.from (((Below.refl _ _).alloc (Nat.le_refl _) _).alloc (by simp) _) hfr
  have n0 := hfr.not (b := w.heap.size) (by simp; omega)
  have n1 := hfr.not (b := w.heap.size + 1) (by simp)
  exact (((hF.set (Nat.le_refl _) n0 _).set (by simp) n1 _).set (by simp) n1 _).set (by simp) n1 _

theorem entry_any (e : Ent) (s : Value) (w : World) (hl : e.vals.length < 1073741824) (hs : ReadsU w s e.vals) : Calls Tryz.prog 129 #[entV e s] w (CopyPost w (entV e) e.vals) := by
  unfold entV
  have hcall : ∀ w1, Below w.heap.size w w1 → Calls Tryz.prog 157 #[.agg #[.int .u64 e.id, .int .u64 e.version, s]] w1 (CopyPost w1 (recV e) e.vals) := fun w1 hb => copy_any e s w1 hl (hs.below hb)
  have HC := hid hcall
  clear hcall
  obtain ⟨a, n, m, rfl⟩ : ∃ a n m, s = .slice a n m := by
    rcases hs with ⟨rfl, _⟩ | ⟨b, off, cap, rfl, _⟩ <;> exact ⟨_, _, _, rfl⟩
  clear hs
  go_enter Tryz.func129, Tryz.ntmps129
  go_wp2_with (go_at_call 157; refine (HC.out _ (((Below.refl _ _).alloc (Nat.le_refl _) _).alloc (by simp) _)).mono ?_; rintro en w1 ⟨v, c, rfl, hrow, hfr⟩; obtain ⟨a', m', rfl⟩ := hrow.slice; unfold recV; have k0 := holds hfr.below (heap2 _ _ _); have k1 := holds hfr.below (heap2' _ _ _); have q0 : w1.cell? ⟨w.heap.size, 0, none⟩ = some (.int .u32 e.value) := cellOf k0 0; have q1 : w1.cell? ⟨w.heap.size, 1, none⟩ = some (.int .u64 e.id) := cellOf k0 1; have q2 : w1.cell? ⟨w.heap.size, 2, none⟩ = some (.int .u64 e.version) := cellOf k0 2; have q3 : w1.cell? ⟨w.heap.size, 3, none⟩ = some (.slice a n m) := cellOf k0 3; have q4 : w1.cell? ⟨w.heap.size, 4, none⟩ = some (.bool e.gone) := cellOf k0 4; have r0 : w1.cell? ⟨w.heap.size + 1, 0, none⟩ = some (.int .u32 0) := cellOf k1 0; have r1 : w1.cell? ⟨w.heap.size + 1, 1, none⟩ = some (.int .u64 0) := cellOf k1 1; have r2 : w1.cell? ⟨w.heap.size + 1, 2, none⟩ = some (.int .u64 0) := cellOf k1 2; have r3 : w1.cell? ⟨w.heap.size + 1, 3, none⟩ = some (.slice none 0 0) := cellOf k1 3; have r4 : w1.cell? ⟨w.heap.size + 1, 4, none⟩ = some (.bool false) := cellOf k1 4; have z0 := fun i => frozenOf k0 i; have z1 := fun i => frozenOf k1 i; clear k0 k1)
  refine bodyPost_ret (v := .agg #[.int .u32 e.value, .int .u64 e.id, .int .u64 e.version, .slice a' e.vals.length m', .bool e.gone]) (by simp only [results, Tryz.results129]; go_simp) rfl ⟨_, c, rfl, hrow, ?_⟩
  have hF : Fresh w w1 c := Fresh.from (((Below.refl _ _).alloc (Nat.le_refl _) _).alloc (by simp) _) hfr
  have n0 := hfr.not (b := w.heap.size) (by simp; omega)
  have n1 := hfr.not (b := w.heap.size + 1) (by simp)
  exact (((((((hF.set (by simp) n0 _).set (by simp) n0 _).set (by simp) n0 _).set (by simp) n1 _).set (by simp) n1 _).set (by simp) n1 _).set (by simp) n1 _).set (by simp) n1 _
end Go.Proofs.YtdllibalmjadhaaGreat
