/- Shadows: a shelf is laid for an owner. The ring: a point's heirs. A hub's heirs; its nodes, one at a time. -/
import Derived.Test.YtdllibalmjadhaaGreatE9
import Derived.Test.YtdllibalmjadhaaGreatE3

namespace Go.Proofs.YtdllibalmjadhaaGreat
open Go Go.RowKit

theorem shelfJoin_nil (s : Value) (w : World) : Calls Tryz.prog 58 #[s, .slice none 0 0] w fun en w' => en = .returned (.int .i64 0) ∧ w = w' := by
  go_enter Tryz.func58, Tryz.ntmps58
  go_wp2
  refine wp_loop_once ?_
  go_wp2
  go_ret
  exact ⟨rfl, rfl⟩

/-- What set leaves: the map, with one key more, or another value. -/
def SetPost (w : World) (fr : Chunk) (db p : Nat) (v : Value) (mb : Nat) (l : List (Nat × Value)) (en : Ending) (w' : World) : Prop := ∃ arr' clk', en = .returned (.tuple #[]) ∧ IsMap encName (mput l p v) arr' clk' ∧
  Ok w' ((db, .cells #[.map (some mb)] 184 (0, 0)) :: (mb, .map arr' clk') :: fr) ∧ Same w w'
set_option maxRecDepth 100000 in
theorem shadowset_any (w : World) (fr : Chunk) (db mb p sb : Nat) (l : List (Nat × Value)) (arr : Array MapEntry) (clk : Nat) (hok : Ok w ((db, .cells #[.map (some mb)] 184 (0, 0)) :: (mb, .map arr clk) :: fr)) (hm : IsMap encName l arr clk) :
    Calls Tryz.prog 144 #[.pointer (some ⟨db, 0, none⟩), .int .u32 p, .pointer (some ⟨sb, 0, none⟩)] w (SetPost w fr db p (.pointer (some ⟨sb, 0, none⟩)) mb l) := by
  have hnil : ∀ w' : World, (binOp .eql 182 (.map (some mb)) (.map none)).run Tryz.prog w' = .ok (.bool false) w' := fun w' => run_eql_map_nil (P := Tryz.prog) w' _ _ _ _ Tryz.underlying182
  have h0 : w.cell? ⟨db, 0, none⟩ = some (.map (some mb)) := cellOf (hok.get (b := db) (o := .cells #[.map (some mb)] 184 (0, 0)) (by simp)) 0
  obtain ⟨es', clk', hm', hup⟩ := run_update (P := Tryz.prog) ownerLaw Tryz.underlying182 (hok.get (b := mb) (o := .map arr clk) (by simp)) hm p (.pointer (some ⟨sb, 0, none⟩))
  simp only [encName] at hup
  have hok1 : Ok w ((mb, .map arr clk) :: (db, .cells #[.map (some mb)] 184 (0, 0)) :: fr) := hok.perm (List.Perm.swap ..)
  have hok2 := (hok1.setBlk (.map es' clk')).perm (List.Perm.swap ..)
  have HP := hid (show SetPost w fr db p (.pointer (some ⟨sb, 0, none⟩)) mb l (.returned (.tuple #[])) (setBlk w mb (.map es' clk')) from ⟨es', clk', rfl, hm', hok2, (Same.refl w).setBlk _ _⟩)
  generalize SetPost w fr db p (.pointer (some ⟨sb, 0, none⟩)) mb l = post at *
  clear hok hok1 hok2 hm hm'
  go_enter Tryz.func144, Tryz.ntmps144
  go_wp2
  first | exact done_ret Tryz.results144 HP.out rfl | exact done_norm Tryz.results144 HP.out rfl

/-- A shadow without entries keeps to be one. -/
def ShadowPost (w : World) (fr : Chunk) (db : Nat) (f : Nat → List Ent) (en : Ending) (w' : World) : Prop := ∃ c', en = .returned (.tuple #[]) ∧ IsShadow [] c' db f ∧ Ok w' (c' ++ fr) ∧ Same w w'
set_option maxRecDepth 100000 in
theorem shadowSet_empty (w : World) (c fr : Chunk) (db p : Nat) (hok : Ok w (c ++ fr)) (h : IsShadow [] c db fun _ => []) :
    Calls Tryz.prog 107 #[.pointer (some ⟨db, 0, none⟩), .int .u32 p, .slice none 0 0] w (ShadowPost w fr db fun _ => []) := by
  obtain ⟨mb, l, arr, clk, cx, rfl, hm, he, _⟩ := h
  have step : ∀ w1 sb cs, IsShelf [] cs sb [] → Fresh w w1 cs → Calls Tryz.prog 144 #[.pointer (some ⟨db, 0, none⟩), .int .u32 p, .pointer (some ⟨sb, 0, none⟩)] w1 (ShadowPost w fr db fun _ => []) := by
    intro w1 sb cs hs hf
    have ho1 : Ok w1 ((db, .cells #[.map (some mb)] 184 (0, 0)) :: (mb, .map arr clk) :: (cs ++ (cx ++ fr))) := (hf.frame hok).cnt (by intro x hx; simp at hx ⊢; try grind) (by intro b; simp; try (first | omega | (simp [List.count_cons]; omega)))
    refine (shadowset_any w1 (cs ++ (cx ++ fr)) db mb p sb l arr clk ho1 hm).mono ?_
    rintro en w2 ⟨arr', clk', rfl, hm', ho2, hs2⟩
    cases hg : mget l p with
    | none =>
      have hn := mget_none.1 hg
      refine ⟨(db, .cells #[.map (some mb)] 184 (0, 0)) :: (mb, .map arr' clk') :: (cx ++ cs), rfl, ⟨mb, _, arr', clk', cx ++ cs, rfl, hm', Each.push hs hn he, fun _ _ => rfl⟩, ?_, hf.same.trans hs2⟩
      exact ho2.cnt (by intro x hx; simp at hx ⊢; try grind) (by intro b; simp; try (first | omega | (simp [List.count_cons]; omega)))
    | some v =>
      obtain ⟨b0, x, c1, y, e1, e2, e3, e4⟩ := he.split hm.nd hg
      subst e2
      refine ⟨(db, .cells #[.map (some mb)] 184 (0, 0)) :: (mb, .map arr' clk') :: (x ++ (cs ++ y)), rfl, ⟨mb, _, arr', clk', x ++ (cs ++ y), rfl, hm', e4 _ sb cs (fun q _ _ b c h => h) hs, fun _ _ => rfl⟩, ?_, hf.same.trans hs2⟩
      exact ho2.cnt (by intro x hx; simp at hx ⊢; try grind) (by intro b; simp; try (first | omega | (simp [List.count_cons]; omega)))
  have step2 : ∀ w1 sb cs, IsShelf [] cs sb [] → Fresh w w1 cs → Calls Tryz.prog 144 #[.pointer (some ⟨db, 0, none⟩), .int .u32 p, .pointer (some ⟨sb, 0, none⟩)] w1 fun en w' => en = .returned (.tuple #[]) ∧ ShadowPost w fr db (fun _ => []) (.returned (.tuple #[])) w' :=
    fun w1 sb cs h1 h2 => (step w1 sb cs h1 h2).mono fun en w' ⟨c', he, h⟩ => ⟨he, c', rfl, h⟩
  have HP := hid step2
  clear step step2 hm he hok
  generalize ShadowPost w fr db (fun _ => []) = post at *
  go_enter Tryz.func107, Tryz.ntmps107
  go_wp2_with (first | (go_at_call 102; refine (shelfNew_any w).mono ?_; rintro en w1 ⟨sb, cs, rfl, hs, h1⟩) | (go_at_call 58; refine (shelfJoin_nil _ _).mono ?_; rintro en w2 ⟨rfl, rfl⟩) | (go_at_call 144; refine (HP.out _ _ _ hs h1).mono ?_; rintro en w3 ⟨rfl, hp3⟩))
  first | exact done_ret Tryz.results107 hp3 rfl | exact done_norm Tryz.results107 hp3 rfl
end Go.Proofs.YtdllibalmjadhaaGreat

namespace Go.Proofs.YtdllibalmjadhaaGreat
open Go Go.RowKit

/-- The heirs from here on. -/
def heirsLoop (l : List Nat) (p n : Nat) : Nat → List Nat → Nat → List Nat
  | 0, acc, _ => acc
  | f + 1, acc, q => if acc.length < n ∧ q ≠ p ∧ (acc = [] ∨ q ≠ acc.headD 0) then heirsLoop l p n f (acc ++ [q]) (nextOf l q) else acc
def heirsOf (l : List Nat) (p n : Nat) : List Nat := if l = [] then [] else heirsLoop l p n n [] (nextOf l p)

theorem heirsLoop_length (l : List Nat) (p n : Nat) : ∀ (f : Nat) (acc : List Nat) (q : Nat), acc.length ≤ n → (heirsLoop l p n f acc q).length ≤ n
  | 0, _, _, h => h
  | f + 1, acc, q, h => by
    simp only [heirsLoop]
    split
    · rename_i hc
      exact heirsLoop_length l p n f _ _ (by simp; omega)
    · exact h
theorem heirsOf_length (l : List Nat) (p n : Nat) : (heirsOf l p n).length ≤ n := by
  unfold heirsOf
  split
  · simp
  · exact heirsLoop_length l p n n [] _ (Nat.zero_le _)

theorem heirs_empty (rb p : Nat) (n : Nat) (w : World) (h : RingAt w rb []) : Calls Tryz.prog 15 #[.pointer (some ⟨rb, 0, none⟩), .int .u32 p, .int .i64 n] w fun e w' => e = .returned (.slice none 0 0) ∧ w = w' := by
  go_enter Tryz.func15, Tryz.ntmps15
  go_wp2_with (go_at_call 41; refine (next_empty rb p _ h).mono ?_; rintro e w' ⟨rfl, rfl⟩)
  refine wp_loop_once ?_
  go_wp2_with (fail)
  go_ret
  exact ⟨rfl, rfl⟩

theorem nextOf_lt {l : List Nat} (hok : RingOk l) (hne : l ≠ []) (p : Nat) : nextOf l p < 4294967296 := hok.lt _ (ownerOf_mem hne _)

set_option maxHeartbeats 1000000 in
theorem heirs_some (rb p : Nat) (l : List Nat) (n : Nat) (hn : n ≤ 64) (w : World) (h : RingAt w rb l) (hok : RingOk l) (hne : l ≠ []) : Calls Tryz.prog 15 #[.pointer (some ⟨rb, 0, none⟩), .int .u32 p, .int .i64 n] w fun e w' =>
    ∃ v c, e = .returned v ∧ Row 23 1 c v (heirsOf l p n).length (u32s (heirsOf l p n)) ∧ Fresh w w' c := by
  obtain ⟨i, hi, hz0, hz1, hz2⟩ := info_parts info_u32
  have HI := hid (And.intro hi (And.intro hz0 (And.intro hz1 hz2)))
  clear hi hz0 hz1 hz2
  have hfin : heirsOf l p n = heirsLoop l p n (n - 0) [] (nextOf l p) := by simp [heirsOf, hne]
  generalize heirsOf l p n = fin at *
  have HF := hid hfin
  clear hfin
  go_enter Tryz.func15, Tryz.ntmps15
  go_wp2_with (go_at_call 41; refine (next_some rb p l _ h hok hne).mono ?_; rintro e w1 ⟨rfl, hb⟩)
  go_loopw [7, 8, 9] (fun v q is wr => ∃ (acc : List Nat) (k : Nat) (c : Chunk), is = .bool true ∧ q = .int .u32 k ∧ acc.length ≤ n ∧ Row 23 1 c v acc.length (u32s acc) ∧ Fresh w wr c ∧ fin = heirsLoop l p n (n - acc.length) acc k)
    (fun v _ _ _ => n - (match v with | .slice _ m _ => m | _ => 0))
  case atStart => exact ⟨[], _, [], rfl, rfl, Nat.zero_le _, Row.nil _ _, Fresh.of (Ok.nil _) hb (by simp), HF.out⟩
  case round =>
    obtain ⟨acc, k, c, rfl, rfl, hacc, hrow, hfr, hfin⟩ := hrel
    have hreads := hrow.reads hfr.ok
    have hr := h.below hfr.below
    by_cases hgo : acc.length < n ∧ k ≠ p ∧ (acc = [] ∨ k ≠ acc.headD 0)
    · -- one heir more
      have hstep : fin = heirsLoop l p n (n - (acc ++ [k]).length) (acc ++ [k]) (nextOf l k) := by
        rw [hfin]
        obtain ⟨d, hd⟩ : ∃ d, n - acc.length = d + 1 := ⟨n - acc.length - 1, by omega⟩
        rw [hd, heirsLoop, if_pos hgo]
        congr 1
        simp; omega
      obtain ⟨hi, hz0, hz1, hz2⟩ := HI.out
      obtain ⟨v', w2, c', hap, hrow', hfr', hs', hg, hnil⟩ := row_append (P := Tryz.prog) (w := wr.alloc (.cells #[.int .u32 k] 23)) (hfr.ok.keep _) hrow 22 22 i (.int .u32 0) 4 Tryz.underlying22 hi hz0 hz1 hz2 rfl (by decide)
        ⟨wr.heap.size, 0, none⟩ 1 1 [.int .u32 k] rfl (cell_one_new _ _ _) (by simp [Value.oneCell']) (by unfold maxLen; omega) (by omega)
      have hfr2 : Fresh w w2 c' := ⟨hfr', (hfr.same.alloc _).trans hs'⟩
      have hr2 := h.below hfr2.below
      have hcn := next_some rb k l w2 hr2 hok hne
      have HA := hid hap
      have HN := hid hcn
      obtain ⟨a', cap', rfl⟩ := hrow'.slice
      have hrow2 : Row 23 1 c' (.slice a' (acc.length + 1) cap') (acc ++ [k]).length (u32s (acc ++ [k])) := by simpa [u32s] using hrow'
      have HR := hid (And.intro hrow2 hstep)
      obtain ⟨a, cap, rfl⟩ := hrow.slice
      clear hap hcn hstep hfin hrow' hrow2 hnil hg
      obtain ⟨h1, h2, h3⟩ := hgo
      have h2' : ((k : Int) != (p : Int)) = true := by rw [bne_iff_ne]; omega
      by_cases hem : acc = []
      · subst hem
        have h1' : decide ((0 : Int) < (n : Int)) = true := by simp at h1 ⊢; omega
        simp only [List.length_nil] at *
        go_wp2_with (first | (at_builtin; refine wpList_app rfl _ _ _ _ rfl rfl rfl HA.out ?_) | (go_at_call 41; refine HN.out.mono ?_; rintro e w3 ⟨rfl, hb3⟩))
        go_roundw
        case rel => exact ⟨[k], nextOf l k, c', rfl, rfl, by simp; omega, by simpa using HR.out.1, Fresh.of (hfr2.ok.left.below hb3) (below_trans hfr2.below hb3) (fun b hb => hfr2.new hb), by simpa using HR.out.2⟩
        case measure => simp; omega
      · have hpos : 0 < acc.length := List.length_pos_iff.2 hem
        have h3' : k ≠ acc.headD 0 := h3.resolve_left hem
        have hhead : acc[0]? = some (acc.headD 0) := by cases acc <;> simp_all
        obtain ⟨b0, off, hab, hcell⟩ : ∃ b0 off, a = some ⟨b0, off, none⟩ ∧ wr.cell? ⟨b0, off, none⟩ = some (.int .u32 (acc.headD 0 : Nat)) := by
          rcases hreads with ⟨_, hx⟩ | ⟨b0, off, cap, hv, _, hx⟩
          · exact absurd hx hem
          · have := hx 0 _ hhead
            simp only [Value.slice.injEq] at hv
            exact ⟨b0, off, hv.1, by simpa using this⟩
        subst hab
        have HE := hid hem
        clear hem h3 hhead hreads hrow
        generalize acc.headD 0 = hd at *
        generalize hm : acc.length = m at *
        have HM := hid hm
        clear hm
        have h1' : decide ((m : Int) < (n : Int)) = true := by simp; omega
        have h1'' : decide (m < n) = true := by simpa using h1
        have hm0 : ((m : Int) == 0) = false := by simp; omega
        have h3'' : ((k : Int) != (hd : Int)) = true := by rw [bne_iff_ne]; omega
        go_wp2_with (first | (at_builtin; refine wpList_app rfl _ _ _ _ rfl rfl rfl HA.out ?_) | (go_at_call 41; refine HN.out.mono ?_; rintro e w3 ⟨rfl, hb3⟩))
        go_roundw
        case rel => exact ⟨acc ++ [k], nextOf l k, c', rfl, rfl, by simp [HM.out]; omega, HR.out.1, Fresh.of (hfr2.ok.left.below hb3) (below_trans hfr2.below hb3) (fun b hb => hfr2.new hb), HR.out.2⟩
        case measure => simp; omega
    · -- that is all
      have hend : fin = acc := by
        rw [hfin]
        cases n - acc.length with
        | zero => rfl
        | succ d => rw [heirsLoop, if_neg hgo]
      subst hend
      obtain ⟨a, cap, rfl⟩ := hrow.slice
      have HR := hid hrow
      have HG := hid hgo
      clear hgo hrow hfin
      by_cases h1 : fin.length < n
      · have h1' : decide ((fin.length : Int) < (n : Int)) = true := by simp; omega
        have h1'' : decide (fin.length < n) = true := by simpa using h1
        by_cases h2 : k = p
        · have h2' : ((k : Int) != (p : Int)) = false := by rw [bne_eq_false_iff_eq]; omega
          go_wp2
          go_ret
          exact ⟨_, c, rfl, HR.out, hfr⟩
        · have h2' : ((k : Int) != (p : Int)) = true := by rw [bne_iff_ne]; omega
          have hem : fin ≠ [] := fun e => HG.out ⟨h1, h2, .inl e⟩
          have h3 : k = fin.headD 0 := Classical.not_not.1 fun e => HG.out ⟨h1, h2, .inr e⟩
          have hpos : 0 < fin.length := List.length_pos_iff.2 hem
          have hhead : fin[0]? = some (fin.headD 0) := by cases fin <;> simp_all
          obtain ⟨b0, off, hab, hcell⟩ : ∃ b0 off, a = some ⟨b0, off, none⟩ ∧ wr.cell? ⟨b0, off, none⟩ = some (.int .u32 (fin.headD 0 : Nat)) := by
            rcases hreads with ⟨_, hx⟩ | ⟨b0, off, cap, hv, _, hx⟩
            · exact absurd hx hem
            · have := hx 0 _ hhead
              simp only [Value.slice.injEq] at hv
              exact ⟨b0, off, hv.1, by simpa using this⟩
          subst hab
          rw [← h3] at hcell
          clear hem h3 hhead hreads HG
          have hm0 : ((fin.length : Int) == 0) = false := by rw [beq_eq_false_iff_ne]; omega
          have h3'' : ((k : Int) != (k : Int)) = false := by simp
          go_wp2
          go_ret
          exact ⟨_, c, rfl, HR.out, hfr⟩
      · have h1' : decide ((fin.length : Int) < (n : Int)) = false := by simp; omega
        have h1'' : decide (fin.length < n) = false := by simpa using h1
        go_wp2
        go_ret
        exact ⟨_, c, rfl, HR.out, hfr⟩
end Go.Proofs.YtdllibalmjadhaaGreat

namespace Go.Proofs.YtdllibalmjadhaaGreat
open Go Go.RowKit

theorem mput_same {p : Nat} {v : Value} : ∀ {l : List (Nat × Value)}, mget l p = some v → mput l p v = l
  | [], h => by simp [mget] at h
  | q :: l, h => by
    simp only [mget] at h
    simp only [mput]
    split at h
    · rename_i hk
      cases h
      rw [if_pos hk]
    · rename_i hk
      rw [if_neg hk, mput_same h]

theorem all_any (p : Nat) (w : World) : Calls Tryz.prog 96 #[.int .u32 p] w fun en w' => en = .returned (.agg #[.int .u32 p, .int .u32 p]) ∧ Below w.heap.size w w' := by
  go_enter Tryz.func96, Tryz.ntmps96
  go_wp2
  refine bodyPost_ret (v := .agg #[.int .u32 p, .int .u32 p]) (by simp [results, Tryz.results96, go_sem]) rfl ⟨rfl, alloc_below _ _⟩

set_option maxRecDepth 100000 in
theorem hubheirs_any (F c fr : Chunk) (hb p : Nat) (H : HubS) (w : World) (hok : Ok w (c ++ fr)) (h : IsHub F c hb H) (hne : H.pts ≠ []) : Calls Tryz.prog 106 #[.pointer (some ⟨hb, 0, none⟩), .int .u32 p] w fun en w' =>
    ∃ v cv, en = .returned v ∧ Row 23 1 cv v (heirsOf H.pts p (H.reps - 1)).length (u32s (heirsOf H.pts p (H.reps - 1))) ∧ Fresh w w' cv := by
  obtain ⟨rb, mb, arr, clk, l, cr, cn, h⟩ := h
  have hg := h.get hok
  have hr := h.reps
  have hat := h.ringAt hok
  have hcall : ∀ w', Below w.heap.size w w' → Calls Tryz.prog 15 #[.pointer (some ⟨rb, 0, none⟩), .int .u32 p, .int .i64 ((H.reps - 1 : Nat) : Int)] w' _ := fun w' hb' => heirs_some rb p H.pts (H.reps - 1) (by omega) w' (hat.below hb') h.ok hne
  have HC := hid hcall
  have hsub : IntKind.i64.wrap ((H.reps : Int) - 1) = ((H.reps - 1 : Nat) : Int) := by
    rw [IntWalk.i64_in _ (by omega)]; omega
  clear hcall hok h hat
  go_enter Tryz.func106, Tryz.ntmps106
  go_wp2_with (fail)
  refine wp_region_b [10] (by kernel_rfl) (by kernel_rfl) ?_
  intro E _ hE hI
  have h0 : ∀ w' : InD E, w'.val.cell? ⟨hb, 0, none⟩ = some (.int .i64 H.reps) := fun w' => cellOf (holds (hE w') hg) 0
  have h1 : ∀ w' : InD E, w'.val.cell? ⟨hb, 1, none⟩ = some (.pointer (some ⟨rb, 0, none⟩)) := fun w' => cellOf (holds (hE w') hg) 1
  repeat (refine wpX_step (fun K hK => ?_); go_simp; refine hK _ _ ?_; clear hK K)
  refine wpX_step (fun K hK => ?_); go_simp
  refine ⟨fun u w' => (∃ cv, Row 23 1 cv u (heirsOf H.pts p (H.reps - 1)).length (u32s (heirsOf H.pts p (H.reps - 1))) ∧ Fresh w w' cv) ∧ E w', fun w' hw' => ?_, fun u w h => h.2, ?_⟩
  · refine (HC.out w' (hE ⟨w', hw'⟩)).mono ?_
    rintro en w'' ⟨v, cv, rfl, hrow, hf⟩
    exact ⟨v, rfl, ⟨cv, hrow, Fresh.from (hE ⟨w', hw'⟩) hf⟩, hI _ (below_trans (hE ⟨w', hw'⟩) hf.below)⟩
  rintro u y _
  refine hK _ _ ?_; clear hK K
  repeat (refine wpX_step (fun K hK => ?_); go_simp; refine hK _ _ ?_; clear hK K)
  refine wpX_nil ?_
  rintro w' ⟨⟨cv, hrow, hf⟩, _⟩
  go_wp2
  go_ret
  exact ⟨_, cv, rfl, hrow, hf⟩

/-- A hub without entries. -/
def HubS.bare (H : HubS) : Prop := H.sh = (fun _ => []) ∧ H.sd = fun _ _ => []
/-- What is left of a hub. -/
def HubPost (w : World) (fr : Chunk) (hb : Nat) (H : HubS) (r : Value) (en : Ending) (w' : World) : Prop := ∃ c', en = .returned r ∧ IsHub [] c' hb H ∧ Ok w' (c' ++ fr) ∧ Same w w'

/-- A node of a hub without entries. -/
theorem bare_node (c fr : Chunk) (hb p : Nat) (H : HubS) (hbare : H.bare) (w : World) (hok : Ok w (c ++ fr)) (h : IsHub [] c hb H) (hl : H.lives p = true) : ∃ xb sb db,
    Calls Tryz.prog 48 #[.pointer (some ⟨hb, 0, none⟩), .int .u32 p] w (fun en w' => en = .returned (.pointer (some ⟨xb, 0, none⟩)) ∧ w = w') ∧
    w.heap[xb]? = some (.cells #[.bool false, .int .i64 0, .pointer (some ⟨sb, 0, none⟩), .pointer (some ⟨db, 0, none⟩)] 127 (0, 0)) ∧
    (∀ w' a b, Below w.heap.size w w' → Calls Tryz.prog 95 #[.pointer (some ⟨sb, 0, none⟩), .agg #[.int .u32 (a : Nat), .int .u32 (b : Nat)]] w' fun en w'' => en = .returned (.slice none 0 0) ∧ Below w'.heap.size w' w'') ∧
    (∀ (o : Nat), Calls Tryz.prog 107 #[.pointer (some ⟨db, 0, none⟩), .int .u32 o, .slice none 0 0] w (HubPost w fr hb H (.tuple #[]))) := by
  obtain ⟨rb, mb, arr, clk, l, cr, cn, h⟩ := h
  obtain ⟨hs, hd⟩ := hbare
  simp only [HubS.lives, Bool.and_eq_true, decide_eq_true_eq, Bool.not_eq_true'] at hl
  obtain ⟨hp, hdd⟩ := hl
  have hat := h.at hok
  obtain ⟨xb, x, c1, y, hg, e2, ⟨sb, db, cs, cd, e3, hsh, hsd⟩, hput⟩ := h.split hp
  have hc := h.chunk
  have hring := h.ring
  have hrok := h.ok
  have hmap := h.map
  have hkeys := h.keys
  have hreps := h.reps
  clear h
  subst hc e2 e3
  rw [hs] at hsh
  rw [hd] at hsd
  have hxb := hok.get (b := xb) (o := .cells #[.bool (H.dead p), .int .i64 0, .pointer (some ⟨sb, 0, none⟩), .pointer (some ⟨db, 0, none⟩)] 127 (0, 0)) (by simp)
  rw [hdd] at hxb
  refine ⟨xb, sb, db, ?_, hxb, fun w' a b hb' => ?_, fun o => ?_⟩
  · have := alive_some hb p xb false l w hat hg (cellOf hxb 0)
    exact this.mono fun en w' ⟨h1, h2⟩ => ⟨by simpa using h1, h2⟩
  · refine scan_empty [] cs [] sb a b w' ?_ hsh
    exact (hok.below hb').cnt (by intro x hx; simp at hx ⊢; try grind) (by intro b; simp; try (first | omega | (simp [List.count_cons]; omega)))
  · have hok' : Ok w (cd ++ ((hb, .cells #[.int .i64 H.reps, .pointer (some ⟨rb, 0, none⟩), .map (some mb), .slice none 0 0] 90 (0, 0)) :: (mb, .map arr clk) :: (cr ++ (x ++ ((xb, .cells #[.bool (H.dead p), .int .i64 0, .pointer (some ⟨sb, 0, none⟩), .pointer (some ⟨db, 0, none⟩)] 127 (0, 0)) :: (cs ++ y)) ++ fr)))) := hok.cnt (by intro x hx; simp at hx ⊢; try grind) (by intro b; simp; try (first | omega | (simp [List.count_cons]; omega)))
    refine (shadowSet_empty w cd _ db o hok' hsd).mono ?_
    rintro en w' ⟨cd', rfl, hsd', hok2, hsame⟩
    have hnode : H.node [] p xb ((xb, .cells #[.bool (H.dead p), .int .i64 0, .pointer (some ⟨sb, 0, none⟩), .pointer (some ⟨db, 0, none⟩)] 127 (0, 0)) :: (cs ++ cd')) := ⟨sb, db, cs, cd', rfl, by rw [hs]; exact hsh, by rw [hd]; exact hsd'⟩
    have hput' := hput (H.node []) xb _ (fun q _ _ b c hq => hq) hnode
    have e : mput l p (.pointer (some ⟨xb, 0, none⟩)) = l := mput_same hg
    rw [e] at hput'
    refine ⟨_, rfl, ⟨rb, mb, arr, clk, l, cr, _, ⟨rfl, hring, hrok, hmap, hput', hkeys, hreps⟩⟩, ?_, hsame⟩
    exact hok2.cnt (by intro x hx; simp at hx ⊢; try grind) (by intro b; simp; try (first | omega | (simp [List.count_cons]; omega)))
end Go.Proofs.YtdllibalmjadhaaGreat
