/- The ring: a point's heirs. -/
import Derived.Test.YtdllibalmjadhaaGreatRing2
namespace Go.Proofs.YtdllibalmjadhaaGreat
open Go Go.RowKit

/-- The heirs from here on. -/
def heirsLoop (l : List Nat) (p n : Nat) : Nat → List Nat → Nat → List Nat
  | 0, acc, _ => acc
  | f + 1, acc, q => if acc.length < n ∧ q ≠ p ∧ (acc = [] ∨ q ≠ acc.headD 0) then heirsLoop l p n f (acc ++ [q]) (nextOf l q) else acc
def heirsOf (l : List Nat) (p n : Nat) : List Nat := if l = [] then [] else heirsLoop l p n n [] (nextOf l p)

theorem heirsLoop_length (l : List Nat) (p n : Nat) : ∀ (f : Nat) (acc : List Nat) (q : Nat), acc.length ≤ n → (heirsLoop l p n f acc q).length ≤ n
  | 0, _, _, h => h
  | f + 1, acc, q, h => by
    simp only [heirsLoop]
    split
    · rename_i hc
      exact heirsLoop_length l p n f _ _ (by simp; omega)
    · exact h
theorem heirsOf_length (l : List Nat) (p n : Nat) : (heirsOf l p n).length ≤ n := by
  unfold heirsOf
  split
  · simp
  · exact heirsLoop_length l p n n [] _ (Nat.zero_le _)

theorem heirs_empty (rb p : Nat) (n : Nat) (w : World) (h : RingAt w rb []) : Calls Tryz.prog 15 #[.pointer (some ⟨rb, 0, none⟩), .int .u32 p, .int .i64 n] w fun e w' => e = .returned (.slice none 0 0) ∧ w = w' := by
  go_enter Tryz.func15, Tryz.ntmps15
  go_wp2_with (go_at_call 41; refine (next_empty rb p _ h).mono ?_; rintro e w' ⟨rfl, rfl⟩)
  refine wp_loop_once ?_
  go_wp2_with (fail)
  go_ret
  exact ⟨rfl, rfl⟩

theorem nextOf_lt {l : List Nat} (hok : RingOk l) (hne : l ≠ []) (p : Nat) : nextOf l p < 4294967296 := hok.lt _ (ownerOf_mem hne _)

set_option maxHeartbeats 1000000 in
theorem heirs_some (rb p : Nat) (l : List Nat) (n : Nat) (hn : n ≤ 64) (w : World) (h : RingAt w rb l) (hok : RingOk l) (hne : l ≠ []) : Calls Tryz.prog 15 #[.pointer (some ⟨rb, 0, none⟩), .int .u32 p, .int .i64 n] w fun e w' =>
    ∃ v c, e = .returned v ∧ Row 23 1 c v (heirsOf l p n).length (u32s (heirsOf l p n)) ∧ Fresh w w' c := by
  obtain ⟨i, hi, hz0, hz1, hz2⟩ := info_parts info_u32
  have HI := hid (And.intro hi (And.intro hz0 (And.intro hz1 hz2)))
  clear hi hz0 hz1 hz2
  have hfin : heirsOf l p n = heirsLoop l p n (n - 0) [] (nextOf l p) := by simp [heirsOf, hne]
  generalize heirsOf l p n = fin at *
  have HF := hid hfin
  clear hfin
  go_enter Tryz.func15, Tryz.ntmps15
  go_wp2_with (go_at_call 41; refine (next_some rb p l _ h hok hne).mono ?_; rintro e w1 ⟨rfl, hb⟩)
  go_loopw [7, 8, 9] (fun v q is wr => ∃ (acc : List Nat) (k : Nat) (c : Chunk), is = .bool true ∧ q = .int .u32 k ∧ acc.length ≤ n ∧ Row 23 1 c v acc.length (u32s acc) ∧ Fresh w wr c ∧ fin = heirsLoop l p n (n - acc.length) acc k)
    (fun v _ _ _ => n - (match v with | .slice _ m _ => m | _ => 0))
  case atStart => exact ⟨[], _, [], rfl, rfl, Nat.zero_le _, Row.nil _ _, Fresh.of (Ok.nil _) hb (by simp), HF.out⟩
  case round =>
    obtain ⟨acc, k, c, rfl, rfl, hacc, hrow, hfr, hfin⟩ := hrel
    have hreads := hrow.reads hfr.ok
    have hr := h.below hfr.below
    by_cases hgo : acc.length < n ∧ k ≠ p ∧ (acc = [] ∨ k ≠ acc.headD 0)
    · -- one heir more
      have hstep : fin = heirsLoop l p n (n - (acc ++ [k]).length) (acc ++ [k]) (nextOf l k) := by
        rw [hfin]
        obtain ⟨d, hd⟩ : ∃ d, n - acc.length = d + 1 := ⟨n - acc.length - 1, by omega⟩
        rw [hd, heirsLoop, if_pos hgo]
        congr 1
        simp; omega
      obtain ⟨hi, hz0, hz1, hz2⟩ := HI.out
      obtain ⟨v', w2, c', hap, hrow', hfr', hs', hg, hnil⟩ := row_append (P := Tryz.prog) (w := wr.alloc (.cells #[.int .u32 k] 23)) (hfr.ok.keep _) hrow 22 22 i (.int .u32 0) 4 Tryz.underlying22 hi hz0 hz1 hz2 rfl (by decide)
        ⟨wr.heap.size, 0, none⟩ 1 1 [.int .u32 k] rfl (cell_one_new _ _ _) (by simp [Value.oneCell']) (by unfold maxLen; omega) (by omega)
      have hfr2 : Fresh w w2 c' := ⟨hfr', (hfr.same.alloc _).trans hs'⟩
      have hr2 := h.below hfr2.below
      have hcn := next_some rb k l w2 hr2 hok hne
      have HA := hid hap
      have HN := hid hcn
      obtain ⟨a', cap', rfl⟩ := hrow'.slice
      have hrow2 : Row 23 1 c' (.slice a' (acc.length + 1) cap') (acc ++ [k]).length (u32s (acc ++ [k])) := by simpa [u32s] using hrow'
      have HR := hid (And.intro hrow2 hstep)
      obtain ⟨a, cap, rfl⟩ := hrow.slice
      clear hap hcn hstep hfin hrow' hrow2 hnil hg
      obtain ⟨h1, h2, h3⟩ := hgo
      have h2' : ((k : Int) != (p : Int)) = true := by rw [bne_iff_ne]; omega
      by_cases hem : acc = []
      · subst hem
        have h1' : decide ((0 : Int) < (n : Int)) = true := by simp at h1 ⊢; omega
        simp only [List.length_nil] at *
        go_wp2_with (first | (at_builtin; refine wpList_app rfl _ _ _ _ rfl rfl rfl HA.out ?_) | (go_at_call 41; refine HN.out.mono ?_; rintro e w3 ⟨rfl, hb3⟩))
        go_roundw
        case rel => exact ⟨[k], nextOf l k, c', rfl, rfl, by simp; omega, by simpa using HR.out.1, Fresh.of (hfr2.ok.left.below hb3) (below_trans hfr2.below hb3) (fun b hb => hfr2.new hb), by simpa using HR.out.2⟩
        case measure => simp; omega
      · have hpos : 0 < acc.length := List.length_pos_iff.2 hem
        have h3' : k ≠ acc.headD 0 := h3.resolve_left hem
        have hhead : acc[0]? = some (acc.headD 0) := by cases acc <;> simp_all
        obtain ⟨b0, off, hab, hcell⟩ : ∃ b0 off, a = some ⟨b0, off, none⟩ ∧ wr.cell? ⟨b0, off, none⟩ = some (.int .u32 (acc.headD 0 : Nat)) := by
          rcases hreads with ⟨_, hx⟩ | ⟨b0, off, cap, hv, _, hx⟩
          · exact absurd hx hem
          · have := hx 0 _ hhead
            simp only [Value.slice.injEq] at hv
            exact ⟨b0, off, hv.1, by simpa using this⟩
        subst hab
        have HE := hid hem
        clear hem h3 hhead hreads hrow
        generalize acc.headD 0 = hd at *
        generalize hm : acc.length = m at *
        have HM := hid hm
        clear hm
        have h1' : decide ((m : Int) < (n : Int)) = true := by simp; omega
        have h1'' : decide (m < n) = true := by simpa using h1
        have hm0 : ((m : Int) == 0) = false := by simp; omega
        have h3'' : ((k : Int) != (hd : Int)) = true := by rw [bne_iff_ne]; omega
        go_wp2_with (first | (at_builtin; refine wpList_app rfl _ _ _ _ rfl rfl rfl HA.out ?_) | (go_at_call 41; refine HN.out.mono ?_; rintro e w3 ⟨rfl, hb3⟩))
        go_roundw
        case rel => exact ⟨acc ++ [k], nextOf l k, c', rfl, rfl, by simp [HM.out]; omega, HR.out.1, Fresh.of (hfr2.ok.left.below hb3) (below_trans hfr2.below hb3) (fun b hb => hfr2.new hb), HR.out.2⟩
        case measure => simp; omega
    · -- that is all
      have hend : fin = acc := by
        rw [hfin]
        cases n - acc.length with
        | zero => rfl
        | succ d => rw [heirsLoop, if_neg hgo]
      subst hend
      obtain ⟨a, cap, rfl⟩ := hrow.slice
      have HR := hid hrow
      have HG := hid hgo
      clear hgo hrow hfin
      by_cases h1 : fin.length < n
      · have h1' : decide ((fin.length : Int) < (n : Int)) = true := by simp; omega
        have h1'' : decide (fin.length < n) = true := by simpa using h1
        by_cases h2 : k = p
        · have h2' : ((k : Int) != (p : Int)) = false := by rw [bne_eq_false_iff_eq]; omega
          go_wp2
          go_ret
          exact ⟨_, c, rfl, HR.out, hfr⟩
        · have h2' : ((k : Int) != (p : Int)) = true := by rw [bne_iff_ne]; omega
          have hem : fin ≠ [] := fun e => HG.out ⟨h1, h2, .inl e⟩
          have h3 : k = fin.headD 0 := Classical.not_not.1 fun e => HG.out ⟨h1, h2, .inr e⟩
          have hpos : 0 < fin.length := List.length_pos_iff.2 hem
          have hhead : fin[0]? = some (fin.headD 0) := by cases fin <;> simp_all
          obtain ⟨b0, off, hab, hcell⟩ : ∃ b0 off, a = some ⟨b0, off, none⟩ ∧ wr.cell? ⟨b0, off, none⟩ = some (.int .u32 (fin.headD 0 : Nat)) := by
            rcases hreads with ⟨_, hx⟩ | ⟨b0, off, cap, hv, _, hx⟩
            · exact absurd hx hem
            · have := hx 0 _ hhead
              simp only [Value.slice.injEq] at hv
              exact ⟨b0, off, hv.1, by simpa using this⟩
          subst hab
          rw [← h3] at hcell
          clear hem h3 hhead hreads HG
          have hm0 : ((fin.length : Int) == 0) = false := by rw [beq_eq_false_iff_ne]; omega
          have h3'' : ((k : Int) != (k : Int)) = false := by simp
          go_wp2
          go_ret
          exact ⟨_, c, rfl, HR.out, hfr⟩
      · have h1' : decide ((fin.length : Int) < (n : Int)) = false := by simp; omega
        have h1'' : decide (fin.length < n) = false := by simpa using h1
        go_wp2
        go_ret
        exact ⟨_, c, rfl, HR.out, hfr⟩
end Go.Proofs.YtdllibalmjadhaaGreat
