/- Searching a rising row of numbers: slices.BinarySearch at uint32. -/
import Derived.Test.YtdllibalmjadhaaGreatProg
import Derived.Test.YtdllibalmjadhaaGreatBase
namespace Go.Proofs.YtdllibalmjadhaaGreat
open Go Go.RowKit

theorem less_any (x y : Int) (w : World) : Calls Tryz.prog 73 #[.int .u32 x, .int .u32 y] w fun e w' => e = .returned (.bool (decide (x < y))) ∧ w = w' := by
  go_enter Tryz.func73, Tryz.ntmps73
  go_wp2
  all_goals (go_ret; exact ⟨by simp, rfl⟩)

theorem nan_any (x : Int) (w : World) : Calls Tryz.prog 74 #[.int .u32 x] w fun e w' => e = .returned (.bool false) ∧ w = w' := by
  go_enter Tryz.func74, Tryz.ntmps74
  go_wp2
  all_goals (go_ret; exact ⟨by simp, rfl⟩)

/-- The row of cells at a is these numbers. -/
def IsU32s (w : World) (a : Addr) (l : List Nat) : Prop := a.spot = none ∧ ∀ (i x : Nat), l[i]? = some x → w.cell? ⟨a.block, a.off + i, none⟩ = some (.int .u32 (x : Int))

/-- How many of a rising list are less. -/
def lb (l : List Nat) (v : Nat) : Nat := (l.takeWhile fun x => decide (x < v)).length

theorem lb_eq (l : List Nat) (v a : Nat) (ha : a ≤ l.length) (h1 : ∀ (k x : Nat), k < a → l[k]? = some x → x < v) (h2 : ∀ (k x : Nat), a ≤ k → l[k]? = some x → v ≤ x) : lb l v = a := by
  unfold lb
  induction l generalizing a with
  | nil => simp at ha ⊢; omega
  | cons y l ih =>
    cases a with
    | zero =>
      have := h2 0 y (Nat.le_refl _) (by simp)
      simp [List.takeWhile_cons]; omega
    | succ a =>
      have h0 := h1 0 y (by omega) (by simp)
      rw [List.takeWhile_cons, if_pos (by simpa using h0), List.length_cons, ih a (by simpa using ha)]
      · intro k x hk hx; exact h1 (k + 1) x (by omega) (by simpa using hx)
      · intro k x hk hx; exact h2 (k + 1) x (by omega) (by simpa using hx)

/-- What a round of the search knows. -/
def Between (l : List Nat) (v a b : Nat) : Prop := a ≤ b ∧ b ≤ l.length ∧ (∀ (k x : Nat), k < a → l[k]? = some x → x < v) ∧ (∀ (k x : Nat), b ≤ k → l[k]? = some x → v ≤ x)

theorem Between.up {l : List Nat} {v a b h x : Nat} (hs : l.Pairwise (· < ·)) (hb : Between l v a b) (h1 : a ≤ h) (h2 : h < b) (hx : l[h]? = some x) (hlt : x < v) : Between l v (h + 1) b := by
  obtain ⟨_, q, r, s⟩ := hb
  refine ⟨by omega, q, ?_, s⟩
  intro k y hk hy
  by_cases e : k = h
  · subst e; rw [hx] at hy; cases hy; exact hlt
  · have hkl : k < l.length := (List.getElem?_eq_some_iff.1 hy).1
    have hhl : h < l.length := by omega
    have := List.pairwise_iff_getElem.1 hs k h hkl hhl (by omega)
    have e1 := (List.getElem?_eq_some_iff.1 hy).2
    have e2 := (List.getElem?_eq_some_iff.1 hx).2
    omega
theorem Between.down {l : List Nat} {v a b h x : Nat} (hs : l.Pairwise (· < ·)) (hb : Between l v a b) (h1 : a ≤ h) (h2 : h < b) (hx : l[h]? = some x) (hlt : ¬ x < v) : Between l v a h := by
  obtain ⟨_, q, r, s⟩ := hb
  refine ⟨h1, by omega, r, ?_⟩
  intro k y hk hy
  by_cases e : k = h
  · subst e; rw [hx] at hy; cases hy; omega
  · have hkl : k < l.length := (List.getElem?_eq_some_iff.1 hy).1
    have hhl : h < l.length := by omega
    have := List.pairwise_iff_getElem.1 hs h k hhl hkl (by omega)
    have e1 := (List.getElem?_eq_some_iff.1 hy).2
    have e2 := (List.getElem?_eq_some_iff.1 hx).2
    omega

theorem Between.no {l : List Nat} {v a b x : Nat} (hs : l.Pairwise (· < ·)) (hb : Between l v a b) (hba : ¬ a < b) (hx : l[a]? = some x) (hne : ¬ x = v) : v ∉ l := by
  intro hm
  obtain ⟨k, hk, e⟩ := List.mem_iff_getElem.1 hm
  obtain ⟨hab, hbl, r, s⟩ := hb
  by_cases hka : k < a
  · have := r k v hka (by rw [List.getElem?_eq_getElem hk, e])
    omega
  · have hvx := s a x (by omega) hx
    have hal := (List.getElem?_eq_some_iff.1 hx).1
    have e2 := (List.getElem?_eq_some_iff.1 hx).2
    by_cases hk2 : k = a
    · subst hk2; omega
    · have := List.pairwise_iff_getElem.1 hs a k hal hk (by omega)
      omega

set_option maxHeartbeats 400000 in
theorem search_any (ab ao : Nat) (l : List Nat) (c v : Nat) (w : World) (hl : l.length < 1073741824) (hs : l.Pairwise (· < ·)) (hc : ∀ (i x : Nat), l[i]? = some x → w.cell? ⟨ab, ao + i, none⟩ = some (.int .u32 (x : Int))) :
    Calls Tryz.prog 35 #[.slice (some ⟨ab, ao, none⟩) l.length c, .int .u32 v] w fun e w' => e = .returned (.tuple #[.int .i64 (lb l v : Nat), .bool (decide (v ∈ l))]) ∧ ∃ q, w.drewN q = w' := by
  have HC := hid hc
  clear hc
  generalize hn : l.length = n at *
  have hnn : n < 1073741824 := hl
  have HN := hid hn
  clear hn
  go_enter Tryz.func35, Tryz.ntmps35
  go_wp2_with (fail)
  go_loop [7, 8] (fun i j => ∃ a b : Nat, i = .int .i64 a ∧ j = .int .i64 b ∧ b ≤ n ∧ Between l v a b) (fun i j => (intOf j - intOf i).toNat)
  case atStart => exact ⟨0, n, rfl, rfl, Nat.le_refl _, by omega, by have := HN.out; omega, fun k x hk => by omega, fun k x hk hx => by have := (List.getElem?_eq_some_iff.1 hx).1; have := HN.out; omega⟩
  case round =>
    obtain ⟨i, j, rfl, rfl, hjn, hB⟩ := hrel
    by_cases hij : i < j
    · obtain ⟨x, hx⟩ : ∃ x, l[(i + j) / 2]? = some x := ⟨_, List.getElem?_eq_getElem (by have := HN.out; omega)⟩
      have hxc := HC.out _ _ hx
      have hm1 : i ≤ (i + j) / 2 := by omega
      have hm2 : (i + j) / 2 < j := by omega
      by_cases hlt : x < v
      · have HB := hid (hB.up hs hm1 hm2 hx hlt)
        clear hB hx
        go_wp2_with (go_at_call 73; refine (less_any _ _ _).mono ?_; rintro e w' ⟨rfl, rfl⟩)
        go_round
        case rel => exact ⟨(i + j) / 2 + 1, j, by go_num, rfl, hjn, HB.out⟩
        case measure => simp [intOf]; omega
      · have HB := hid (hB.down hs hm1 hm2 hx hlt)
        clear hB hx
        go_wp2_with (go_at_call 73; refine (less_any _ _ _).mono ?_; rintro e w' ⟨rfl, rfl⟩)
        go_round
        case rel => exact ⟨i, (i + j) / 2, rfl, by go_num, Nat.le_of_lt (Nat.lt_of_lt_of_le hm2 hjn), HB.out⟩
        case measure => simp [intOf]; omega
    · have hlb : lb l v = i := lb_eq l v i (by have := HN.out; have := hB.1; omega) hB.2.2.1 (fun k x hk hx => hB.2.2.2 k x (by omega) hx)
      have hfin : ∀ b : Bool, (v ∈ l ↔ b = true) → Ending.returned (.tuple #[.int .i64 i, .bool b]) = .returned (.tuple #[.int .i64 (lb l v : Nat), .bool (decide (v ∈ l))]) := by
        intro b hb
        rw [hlb]
        have : decide (v ∈ l) = b := by cases b <;> simp_all
        rw [this]
      have HF := hid hfin
      have HL := hid hlb
      by_cases hin : i < n
      · obtain ⟨x, hx⟩ : ∃ x, l[i]? = some x := ⟨_, List.getElem?_eq_getElem (by have := HN.out; omega)⟩
        have hxc := HC.out _ _ hx
        have HB := hid hB
        have HX := hid hx
        clear hB hlb hx hfin
        by_cases hv : x = v
        · subst hv
          go_wp2_with (go_at_call 74; refine (nan_any _ _).mono ?_; rintro e w' ⟨rfl, rfl⟩)
          go_ret2
          exact ⟨HF.out true (by simpa using List.mem_of_getElem? HX.out), 0, rfl⟩
        · have hv' : ((x : Int) == (v : Int)) = false := by simp; omega
          go_wp2_with (go_at_call 74; refine (nan_any _ _).mono ?_; rintro e w' ⟨rfl, rfl⟩)
          go_ret2
          exact ⟨HF.out false (by simpa using HB.out.no hs hij HX.out hv), 0, rfl⟩
      · have hno : v ∉ l := by
          intro hm
          obtain ⟨k, hk, e⟩ := List.mem_iff_getElem.1 hm
          have := hB.2.2.1 k v (by have := HN.out; have := hB.1; omega) (by rw [List.getElem?_eq_getElem hk, e])
          omega
        have HO := hid hno
        clear hno hB hlb hfin
        go_wp2_with (fail)
        go_ret2
        exact ⟨HF.out false (by simpa using HO.out), 0, rfl⟩

/-- Of nil there is nothing to search. -/
theorem search_nil (v : Nat) (w : World) : Calls Tryz.prog 35 #[.slice none 0 0, .int .u32 v] w fun e w' => e = .returned (.tuple #[.int .i64 (lb [] v : Nat), .bool (decide (v ∈ ([] : List Nat)))]) ∧ ∃ q, w.drewN q = w' := by
  go_enter Tryz.func35, Tryz.ntmps35
  go_wp2_with (fail)
  refine wp_loop_once ?_
  go_wp2_with (fail)
  go_ret2
  exact ⟨by simp [lb], 0, rfl⟩
end Go.Proofs.YtdllibalmjadhaaGreat
