/- Dice. slices.SortFunc and slices.Compact of one number or none. Messages that ask, of one attribute: whether they may be. -/
import Derived.Test.YtdllibalmjadhaaGreatE8
import Derived.Laws.Closers25b
import Derived.Test.YtdllibalmjadhaaGreatE12

namespace Go.Proofs.YtdllibalmjadhaaGreat
open Go Go.RowKit

/-- Dice of some state. -/
def diceObj (s : Nat) : Obj := .cells #[.int .u64 s] 118 (0, 0)
def StepPost (w : World) (fr : Chunk) (db : Nat) (en : Ending) (w' : World) : Prop := ∃ v s' : Nat, en = .returned (.int .u64 v) ∧ v < 18446744073709551616 ∧ Ok w' ((db, diceObj s') :: fr) ∧ Same w w'

theorem step_any (fr : Chunk) (db s : Nat) (w : World) (hok : Ok w ((db, diceObj s) :: fr)) : Calls Tryz.prog 97 #[.pointer (some ⟨db, 0, none⟩)] w (StepPost w fr db) := by
  have h0 : w.cell? ⟨db, 0, none⟩ = some (.int .u64 s) := cellOf (hok.get (b := db) (o := diceObj s) (by simp)) 0
  have z0 : w.frozen? ⟨db, 0, none⟩ = false := frozenOf (hok.get (b := db) (o := diceObj s) (by simp)) 0
  have key : ∀ X Y : Int, (IntKind.u64.min ≤ X ∧ X ≤ IntKind.u64.max) → (IntKind.u64.min ≤ Y ∧ Y ≤ IntKind.u64.max) → StepPost w fr db (.returned (.int .u64 X)) (w.setCell ⟨db, 0, none⟩ (.int .u64 Y)) := by
    rintro X Y ⟨hx0, hx1⟩ ⟨hy0, _⟩
    have hx0' : 0 ≤ X := hx0
    have hy0' : 0 ≤ Y := hy0
    have hx1' : X ≤ 18446744073709551615 := hx1
    obtain ⟨x, rfl⟩ := Int.eq_ofNat_of_zero_le hx0'
    obtain ⟨y, rfl⟩ := Int.eq_ofNat_of_zero_le hy0'
    exact ⟨x, y, rfl, by omega, hok.setCell 0 _, (Same.refl w).setCell _ _⟩
  have HK := hid key
  clear key hok
  generalize hpost : StepPost w fr db = post at *
  clear hpost
  go_enter Tryz.func97, Tryz.ntmps97
  go_wp2
  exact HK.out _ _ (bits_within _ _ _ _) (wrap_within _ _)

def RollPost (w : World) (fr : Chunk) (db n : Nat) (en : Ending) (w' : World) : Prop := ∃ v s' : Nat, en = .returned (.int .i64 v) ∧ v < n ∧ Ok w' ((db, diceObj s') :: fr) ∧ Same w w'
theorem roll_any (fr : Chunk) (db s n : Nat) (h1 : 1 ≤ n) (h2 : n ≤ 1000000) (w : World) (hok : Ok w ((db, diceObj s) :: fr)) : Calls Tryz.prog 45 #[.pointer (some ⟨db, 0, none⟩), .int .i64 n] w (RollPost w fr db n) := by
  have HS := hid (step_any fr db s w hok)
  have d1 : decide ((n : Int) < 1) = false := by simp; omega
  generalize hpost : RollPost w fr db n = post
  clear hok
  have HP := hid hpost
  clear hpost
  go_enter Tryz.func45, Tryz.ntmps45
  go_wp2_with (go_at_call 97; refine HS.out.mono ?_; rintro en w1 ⟨v, s', rfl, hv, ho, hs⟩)
  rw [← HP.out]
  have hlt : v % n < n := Nat.mod_lt _ (by omega)
  have e : wrap64 ((v : Int) % (n : Int)) = ((v % n : Nat) : Int) := by
    have h3 : ((v : Int) % (n : Int)) = ((v % n : Nat) : Int) := by omega
    rw [h3]
    exact IntWalk.wrap64_in _ (by omega)
  have e2 : (Value.int IntKind.i64 (wrap64 ((v : Int) % (n : Int)))) = .int .i64 ((v % n : Nat) : Int) := by rw [e]
  exact ⟨v % n, s', by rw [← e2]; rfl, hlt, ho, hs⟩

theorem pow_ne : ∀ r : Nat, r < 32 → ¬ IntKind.u64.wrap (2 ^ r) = 0 := by decide
theorem u32_mod (x : Int) : IntKind.u32.min ≤ x % 4294967296 ∧ x % 4294967296 ≤ IntKind.u32.max := ⟨by show (0 : Int) ≤ _; omega, by show _ ≤ (4294967295 : Int); omega⟩
def FarPost (w : World) (fr : Chunk) (db : Nat) (en : Ending) (w' : World) : Prop := ∃ v s' : Nat, en = .returned (.int .u32 v) ∧ v < 4294967296 ∧ Ok w' ((db, diceObj s') :: fr) ∧ Same w w'
theorem linksFar_any (fr : Chunk) (db s : Nat) (w : World) (hok : Ok w ((db, diceObj s) :: fr)) : Calls Tryz.prog 114 #[.pointer (some ⟨db, 0, none⟩)] w (FarPost w fr db) := by
  have HR := hid (roll_any fr db s 32 (by decide) (by decide) w hok)
  have HS := hid fun s w' (ho : Ok w' ((db, diceObj s) :: fr)) => step_any fr db s w' ho
  have key : ∀ (X : Int) (s' : Nat) (w' : World), (IntKind.u32.min ≤ X ∧ X ≤ IntKind.u32.max) → Ok w' ((db, diceObj s') :: fr) → Same w w' → FarPost w fr db (.returned (.int .u32 X)) w' := by
    rintro X s' w' ⟨hx0, hx1⟩ h1 h2
    have hx0' : 0 ≤ X := hx0
    have hx1' : X ≤ 4294967295 := hx1
    obtain ⟨x, rfl⟩ := Int.eq_ofNat_of_zero_le hx0'
    exact ⟨x, s', rfl, by omega, h1, h2⟩
  have HK := hid key
  generalize hpost : FarPost w fr db = post at *
  clear hok key hpost
  go_enter Tryz.func114, Tryz.ntmps114
  go_wp2_with (first | (go_at_call 45; refine HR.out.mono ?_; rintro en w1 ⟨r, s1, rfl, hr, ho, hs⟩; have hp := pow_ne r hr) | (go_at_call 97; refine (HS.out _ _ ho).mono ?_; rintro en w2 ⟨v, s2, rfl, hv, ho2, hs2⟩))
  exact HK.out _ _ _ (u32_mod _) ho2 (hs.trans hs2)
end Go.Proofs.YtdllibalmjadhaaGreat

namespace Go.Proofs.YtdllibalmjadhaaGreat
open Go Go.RowKit

set_option maxRecDepth 100000 in
theorem insSortU_small (x f : Value) (n : Nat) (hn : n ≤ 1) (w : World) : Calls Tryz.prog 164 #[x, .int .i64 0, .int .i64 n, f] w fun en w' => en = .returned (.tuple #[]) ∧ w = w' := by
  have h0 : decide ((1 : Int) < (n : Int)) = false := by simp; omega
  have h1 : ¬ ((1 : Int) < (n : Int)) := by omega
  go_enter Tryz.func164, Tryz.ntmps164
  go_wp2
  refine wp_loop_once ?_
  go_wp2
  first | exact done_ret Tryz.results164 ⟨rfl, rfl⟩ rfl | exact done_norm Tryz.results164 ⟨rfl, rfl⟩ rfl
set_option maxRecDepth 100000 in
theorem pdqU_small (x f k : Value) (n : Nat) (hn : n ≤ 1) (w : World) : Calls Tryz.prog 151 #[x, .int .i64 0, .int .i64 n, k, f] w fun en w' => en = .returned (.tuple #[]) ∧ w = w' := by
  have h0 : decide ((n : Int) ≤ 12) = true := by simp; omega
  have h1 : (n : Int) ≤ 12 := by omega
  have hw : IntKind.i64.wrap ((n : Int)) = n := IntWalk.i64_in _ (by omega)
  have HI := hid (insSortU_small x f n hn)
  go_enter Tryz.func151, Tryz.ntmps151
  go_wp2
  refine wp_loop_once ?_
  go_wp2_with (go_at_call 164; refine (HI.out _).mono ?_; rintro en w1 ⟨rfl, rfl⟩)
  first | exact done_ret Tryz.results151 ⟨rfl, rfl⟩ rfl | exact done_norm Tryz.results151 ⟨rfl, rfl⟩ rfl
set_option maxRecDepth 100000 in
theorem sortU_small (a : Option Addr) (f : Value) (n c : Nat) (hn : n ≤ 1) (w : World) : Calls Tryz.prog 115 #[.slice a n c, f] w fun en w' => en = .returned (.tuple #[]) ∧ w = w' := by
  have hw : IntKind.u64.wrap (n : Int) = n := by
    rcases (by omega : n = 0 ∨ n = 1) with rfl | rfl <;> rfl
  have HP := hid (fun k => pdqU_small (.slice a n c) f k n hn w)
  have HL := hid (lenBits_small n hn w)
  go_enter Tryz.func115, Tryz.ntmps115
  go_wp2_with (first | (go_at_call 152; refine HL.out.mono ?_; rintro en w1 ⟨k, rfl, rfl⟩) | (go_at_call 151; refine (HP.out _).mono ?_; rintro en w1 ⟨rfl, rfl⟩))
  first | exact done_ret Tryz.results115 ⟨rfl, rfl⟩ rfl | exact done_norm Tryz.results115 ⟨rfl, rfl⟩ rfl
set_option maxRecDepth 100000 in
theorem compactU_small (a : Option Addr) (n c : Nat) (hn : n ≤ 1) (w : World) : Calls Tryz.prog 118 #[.slice a n c] w fun en w' => en = .returned (.slice a n c) ∧ w = w' := by
  have h0 : decide ((n : Int) < 2) = true := by simp; omega
  have h1 : ((n : Int) < 2) := by omega
  go_enter Tryz.func118, Tryz.ntmps118
  go_wp2
  go_ret
  exact ⟨rfl, rfl⟩
end Go.Proofs.YtdllibalmjadhaaGreat

namespace Go.Proofs.YtdllibalmjadhaaGreat
open Go Go.RowKit

theorem within_any (v a b : Int) (w : World) : Calls Tryz.prog 75 #[.int .i64 v, .int .i64 a, .int .i64 b] w fun en w' => en = .returned (.bool (decide (a ≤ v) && decide (v ≤ b))) ∧ w = w' := by
  by_cases h1 : a ≤ v
  · have d1 : decide (a ≤ v) = true := by simpa using h1
    go_enter Tryz.func75, Tryz.ntmps75
    go_wp2
    go_ret
    exact ⟨by simp [h1], rfl⟩
  · have d1 : decide (a ≤ v) = false := by simpa using h1
    go_enter Tryz.func75, Tryz.ntmps75
    go_wp2
    go_ret
    exact ⟨by simp, rfl⟩
theorem within_yes (v a b : Int) (h1 : a ≤ v) (h2 : v ≤ b) (w : World) : Calls Tryz.prog 75 #[.int .i64 v, .int .i64 a, .int .i64 b] w fun en w' => en = .returned (.bool true) ∧ w = w' :=
  (within_any v a b w).mono fun en w' ⟨h, h'⟩ => ⟨by rw [h, decide_eq_true h1, decide_eq_true h2]; rfl, h'⟩
theorem within_no (v a b : Int) (h1 : v < a ∨ b < v) (w : World) : Calls Tryz.prog 75 #[.int .i64 v, .int .i64 a, .int .i64 b] w fun en w' => en = .returned (.bool false) ∧ w = w' :=
  (within_any v a b w).mono fun en w' ⟨h, h'⟩ => ⟨by
    rw [h]
    rcases h1 with h1 | h1
    · rw [decide_eq_false (by omega)]; rfl
    · rw [decide_eq_false (p := v ≤ b) (by omega), Bool.and_false], h'⟩
theorem hops_any (v : Int) (w : World) : Calls Tryz.prog 76 #[.int .i64 v] w fun en w' => en = .returned (.bool (v == 1 || v == 5)) ∧ w = w' := by
  cases h1 : v == 1 <;>
  · go_enter Tryz.func76, Tryz.ntmps76
    go_wp2
    go_ret
    exact ⟨by simp, rfl⟩
theorem between_any (v : Int) (w : World) : Calls Tryz.prog 77 #[.int .i64 v] w fun en w' => en = .returned (.bool (v == 2 || v == 3)) ∧ w = w' := by
  cases h1 : v == 2 <;>
  · go_enter Tryz.func77, Tryz.ntmps77
    go_wp2
    go_ret
    exact ⟨by simp, rfl⟩
theorem msgentry_any (v : Int) (w : World) : Calls Tryz.prog 121 #[.int .i64 v] w fun en w' => en = .returned (.bool (decide (1 ≤ v) && decide (v ≤ 4))) ∧ w = w' := by
  by_cases h1 : 1 ≤ v
  · have d1 : decide (1 ≤ v) = true := by simpa using h1
    go_enter Tryz.func121, Tryz.ntmps121
    go_wp2
    go_ret
    exact ⟨by simp [h1], rfl⟩
  · have d1 : decide (1 ≤ v) = false := by simpa using h1
    go_enter Tryz.func121, Tryz.ntmps121
    go_wp2
    go_ret
    exact ⟨by simp, rfl⟩
set_option maxRecDepth 100000 in
theorem none_zero (w : World) : Calls Tryz.prog 122 #[.agg #[.int .u32 0, .int .u64 0, .int .u64 0, .slice none 0 0, .bool false]] w fun en w' => en = .returned (.bool true) ∧ Below w.heap.size w w' := by
  go_enter Tryz.func122, Tryz.ntmps122
  go_wp2
  go_ret
  exact ⟨rfl, alloc_below _ _⟩

theorem boxkind_any (v : Int) (w : World) : Calls Tryz.prog 156 #[.int .i64 v] w fun en w' => en = .returned (.bool (decide (1 ≤ v) && decide (v ≤ 3))) ∧ w = w' := by
  by_cases h1 : 1 ≤ v
  · have d1 : decide (1 ≤ v) = true := by simpa using h1
    go_enter Tryz.func156, Tryz.ntmps156
    go_wp2
    go_ret
    exact ⟨by simp [h1], rfl⟩
  · have d1 : decide (1 ≤ v) = false := by simpa using h1
    go_enter Tryz.func156, Tryz.ntmps156
    go_wp2
    go_ret
    exact ⟨by simp, rfl⟩
theorem boxright1_any (k : Int) (x y : Value) (w : World) : Calls Tryz.prog 155 #[.agg #[.int .i64 k, x, y]] w fun en w' => en = .returned (.bool (!decide (1 ≤ k) || !decide (k ≤ 3))) ∧ Below w.heap.size w w' := by
  have HK := hid (boxkind_any k)
  go_enter Tryz.func155, Tryz.ntmps155
  go_wp2_with (go_at_call 156; refine (HK.out _).mono ?_; rintro en w1 ⟨rfl, rfl⟩)
  go_ret
  exact ⟨rfl, alloc_below _ _⟩

/-- A box of one range: any value. -/
structure AnyBox (w : World) (b : Nat) : Prop where
  k : w.cell? ⟨b, 0, none⟩ = some (.int .i64 1)
  lo : w.cell? ⟨b, 1, none⟩ = some (.int .u32 0)
  hi : w.cell? ⟨b, 2, none⟩ = some (.int .u32 0)
theorem AnyBox.below {w w' : World} {b : Nat} (h : AnyBox w b) (hb : Below w.heap.size w w') : AnyBox w' b := ⟨stays hb h.k, stays hb h.lo, stays hb h.hi⟩

set_option maxRecDepth 100000 in
theorem index_anybox (b : Nat) (w : World) (h : AnyBox w b) : Calls Tryz.prog 174 #[.slice (some ⟨b, 0, none⟩) 1 1, .func (.func 155) #[] #[]] w fun en w' => en = .returned (.int .i64 (-1)) ∧ Below w.heap.size w w' := by
  have hcall := fun w' => boxright1_any 1 (.int .u32 0) (.int .u32 0) w'
  have HC := hid hcall
  clear hcall
  go_enter Tryz.func174, Tryz.ntmps174
  go_wp2
  go_loopw [8] (fun q wr => ∃ k : Nat, q = .int .i64 k ∧ k ≤ 1 ∧ Below w.heap.size w wr) (fun q _ => 1 - (match q with | .int _ m => m.toNat | _ => 0))
  case atStart => exact ⟨0, rfl, Nat.zero_le _, Below.refl _ _⟩
  case round =>
    obtain ⟨k, rfl, hk, hb⟩ := hrel
    rcases (by omega : k = 0 ∨ k = 1) with rfl | rfl
    · obtain ⟨h0, h1, h2⟩ := h.below hb
      go_wp2_with (go_at_call 155; refine (HC.out _).mono ?_; rintro en w1 ⟨rfl, hb1⟩)
      go_roundw
      case rel => exact ⟨1, rfl, Nat.le_refl _, below_trans hb hb1⟩
      case measure => simp
    · go_wp2
      go_ret
      exact ⟨rfl, hb⟩

set_option maxRecDepth 100000 in
theorem contains_anybox (b : Nat) (w : World) (h : AnyBox w b) : Calls Tryz.prog 154 #[.slice (some ⟨b, 0, none⟩) 1 1, .func (.func 155) #[] #[]] w fun en w' => en = .returned (.bool false) ∧ Below w.heap.size w w' := by
  have HI := hid (index_anybox b w h)
  go_enter Tryz.func154, Tryz.ntmps154
  go_wp2_with (go_at_call 174; refine HI.out.mono ?_; rintro en w1 ⟨rfl, hb⟩)
  go_ret
  exact ⟨rfl, hb⟩
set_option maxRecDepth 100000 in
theorem boxright_any (b : Nat) (w : World) (h : AnyBox w b) : Calls Tryz.prog 124 #[.int .i64 1, .slice (some ⟨b, 0, none⟩) 1 1] w fun en w' => en = .returned (.bool true) ∧ Below w.heap.size w w' := by
  have HI := hid (contains_anybox b w h)
  go_enter Tryz.func124, Tryz.ntmps124
  go_wp2_with (go_at_call 154; refine HI.out.mono ?_; rintro en w1 ⟨rfl, hb⟩)
  go_ret
  exact ⟨rfl, hb⟩

/-- A message that asks. -/
def askV (hub : Int) (point : Nat) (op : Int) (a b : Nat) (bx : Value) : Value := .agg #[.int .i64 5, .int .i64 hub, .int .u32 point, .int .i64 0, .int .i64 op, .int .u32 0, .int .i64 0, .int .u32 0, .int .i64 0,
  .int .u32 0, .int .u64 0, .int .u64 0, .slice none 0 0, .bool false, .int .u32 a, .int .u32 b, bx, .slice none 0 0]

set_option maxRecDepth 100000 in
theorem held_ask (hub op : Int) (point a b : Nat) (bb : Nat) (w : World) : Calls Tryz.prog 78 #[.int .i64 1, askV hub point op a b (.slice (some ⟨bb, 0, none⟩) 1 1)] w fun en w' => en = .returned (.bool true) ∧ Below w.heap.size w w' := by
  have HN := hid none_zero
  have HM := hid msgentry_any
  unfold askV
  go_enter Tryz.func78, Tryz.ntmps78
  go_wp2_with (first | (go_at_call 121; refine (HM.out _ _).mono ?_; rintro en w1 ⟨rfl, rfl⟩) | (go_at_call 122; refine (HN.out _).mono ?_; rintro en w2 ⟨rfl, hb2⟩; have q5 : w2.cell? ⟨w.heap.size, 5, none⟩ = some (.int .u32 0) := cellOf (holds hb2 (heap1 _ _)) 5))
  go_ret
  exact ⟨rfl, below_trans (alloc_below _ _) hb2⟩

set_option maxRecDepth 100000 in
theorem asked_ask (hub op : Int) (point a b : Nat) (bb : Nat) (w : World) (h : AnyBox w bb) : Calls Tryz.prog 79 #[.int .i64 1, askV hub point op a b (.slice (some ⟨bb, 0, none⟩) 1 1)] w fun en w' => en = .returned (.bool true) ∧ Below w.heap.size w w' := by
  have HR := hid fun w' (hb : Below w.heap.size w w') => boxright_any bb w' (h.below hb)
  unfold askV
  go_enter Tryz.func79, Tryz.ntmps79
  go_wp2_with (go_at_call 124; refine (HR.out _ (alloc_below _ _)).mono ?_; rintro en w1 ⟨rfl, hb1⟩; have hx := holds hb1 (heap1 _ _); have q0 : w1.cell? ⟨w.heap.size, 0, none⟩ = some (.int .i64 5) := cellOf hx 0; have q16 : w1.cell? ⟨w.heap.size, 16, none⟩ = some (.slice (some ⟨bb, 0, none⟩) 1 1) := cellOf hx 16; have q17 : w1.cell? ⟨w.heap.size, 17, none⟩ = some (.slice none 0 0) := cellOf hx 17)
  have hbW := below_trans (alloc_below _ _) hb1
  have hbox := h.below hbW
  have HH := hid h
  clear q0 q16 q17 hb1
  go_loopw [47] (fun q wr => ∃ k : Nat, q = .int .i64 k ∧ k ≤ 1 ∧ Below w1.heap.size w1 wr) (fun q _ => 1 - (match q with | .int _ m => m.toNat | _ => 0))
  case atStart => exact ⟨0, rfl, Nat.zero_le _, Below.refl _ _⟩
  case round =>
    obtain ⟨k, rfl, hk, hb⟩ := hrel
    rcases (by omega : k = 0 ∨ k = 1) with rfl | rfl
    · obtain ⟨h0, h1, h2⟩ := hbox.below hb
      go_wp2
      go_roundw
      case rel => exact ⟨1, rfl, Nat.le_refl _, below_trans hb (alloc_below _ _)⟩
      case measure => simp
    · have hx' := holds hb hx
      have q0 : wr.cell? ⟨w.heap.size, 0, none⟩ = some (.int .i64 5) := cellOf hx' 0
      have q17 : wr.cell? ⟨w.heap.size, 17, none⟩ = some (.slice none 0 0) := cellOf hx' 17
      go_wp2
      go_ret
      exact ⟨rfl, below_trans hbW hb⟩

end Go.Proofs.YtdllibalmjadhaaGreat
