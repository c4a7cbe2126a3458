/- slices.Insert of one number. -/
import Derived.Test.YtdllibalmjadhaaGreatE3
import Derived.Lib.Overlaps

namespace Go.Proofs.YtdllibalmjadhaaGreat
open Go Go.RowKit

/-- A row is handed back, of these cells, beside what was there. -/
def GrowsTo (e : TypeId) (size : Nat) (w : World) (fr : Chunk) (n : Nat) (xs : List Value) (en : Ending) (w' : World) : Prop := ∃ v' c', en = .returned v' ∧ Row e size c' v' n xs ∧ Ok w' (c' ++ fr) ∧ Same w w'

set_option maxRecDepth 100000 in
theorem insert_end (w : World) (c fr : Chunk) (v : Value) (n : Nat) (xs : List Value) (hok : Ok w (c ++ fr)) (hrow : Row 23 1 c v n xs) (hn : n ≤ 100) (vb : Nat) (x : Value) (hx : w.cell? ⟨vb, 0, none⟩ = some x) (h1 : x.oneCell' = true) :
    Calls Tryz.prog 101 #[v, .int .i64 n, .slice (some ⟨vb, 0, none⟩) 1 1] w (GrowsTo 23 1 w fr (n + 1) (xs ++ [x])) := by
  obtain ⟨i, hi, hz0, hz1, hz2⟩ := info_parts info_u32
  obtain ⟨v', w2, c', hap, hrow', hok', hs', hg, hnil⟩ := row_append (P := Tryz.prog) hok hrow 22 22 i (.int .u32 0) 4 Tryz.underlying22 hi hz0 hz1 hz2 rfl (by decide)
    ⟨vb, 0, none⟩ 1 1 [x] rfl (by intro j u hj; cases j with | zero => simp at hj; subst hj; simpa [Addr.add] using hx | succ j => simp at hj) (by simpa using h1) (by unfold maxLen; omega) (by omega)
  have HA := hid hap
  have HR := hid hrow'
  have HO := hid (And.intro hok' hs')
  clear hap hrow' hg hnil hok' hs'
  have hnn : ((n : Int) == (n : Int)) = true := by simp
  rcases hrow.2 with ⟨rfl, rfl, rfl⟩ | ⟨g, cap, cur, rfl, rfl, hcap, hmax, hsz, htk⟩
  · go_enter Tryz.func101, Tryz.ntmps101
    go_wp2_with (at_builtin; refine wpList_app rfl _ _ _ _ rfl rfl rfl HA.out ?_)
    all_goals (go_ret; exact ⟨v', c', rfl, HR.out, HO.out.1, HO.out.2⟩)
  · unfold maxLen at hmax
    clear hrow hsz htk
    go_enter Tryz.func101, Tryz.ntmps101
    go_wp2_with (at_builtin; refine wpList_app rfl _ _ _ _ rfl rfl rfl HA.out ?_)
    all_goals (go_ret; exact ⟨v', c', rfl, HR.out, HO.out.1, HO.out.2⟩)

theorem overlaps_no (w : World) (vb g o lb cb : Nat) (x : Value) (cur : Array Value) (Tv Tg : TypeId) (hv : w.heap[vb]? = some (.cells #[x] Tv (0, 0))) (hg : w.heap[g]? = some (.cells cur Tg (0, 0))) (hne : vb ≠ g) (hc : cur.size ≠ 0) :
    (callFunc 141 #[.slice (some ⟨vb, 0, none⟩) 1 1, .slice (some ⟨g, o, none⟩) lb cb]).run Tryz.prog w = .ok (.value (.bool false)) w := by
  obtain ⟨i0, hi0, h0, h1, h2⟩ := info_parts info_u32
  rw [run_callFunc_extern Tryz.func141 (by kernel_rfl) (by kernel_rfl) (by kernel_rfl) (e := Extern.SlicesOverlaps.overlaps #[22, 22] #[4]) (by kernel_rfl),
    Lib.run_overlaps_apart w 22 4 23 Tryz.underlying22 1 (fun w => by simp [Go.sizeOf, typeInfo, hi0, h1]) ⟨vb, 0, none⟩ ⟨g, o, none⟩ 1 1 lb cb hne Tv Tg 1 cur.size (by simp [World.shape?, hv]) (by simp [World.shape?, hg]) hc (by simp [World.frozen?, hv]) (by simp [World.frozen?, hv])]
  rfl

theorem insert_cells (cs : List Value) (x : Value) (i n : Nat) (hi : i < n) (hn : n + 1 ≤ cs.length) (xs c1 : List Value) (hxs : xs = (cs.take n).drop i) (h1 : c1 = cs.take (i + 1) ++ xs ++ cs.drop (i + 1 + xs.length)) :
    c1.length = cs.length ∧ (c1.take i ++ x :: c1.drop (i + 1)).length = cs.length ∧ (c1.take i ++ x :: c1.drop (i + 1)).take (n + 1) = (cs.take i ++ [x]) ++ (cs.take n).drop i := by
  have hxl : xs.length = n - i := by rw [hxs]; simp; omega
  have hl : c1.length = cs.length := by rw [h1]; simp [hxl]; omega
  refine ⟨hl, by simp [hl]; omega, ?_⟩
  have e1 : c1.take i = cs.take i := by
    rw [h1, List.append_assoc, List.take_append_of_le_length (by simp; omega), List.take_take]
    congr 1; omega
  have e2 : c1.drop (i + 1) = xs ++ cs.drop (i + 1 + xs.length) := by
    rw [h1, List.append_assoc, List.drop_append_of_le_length (by simp; omega), List.drop_eq_nil_of_le (by simp; omega)]
    rfl
  rw [e1, e2]
  have e3 : (cs.take i ++ x :: (xs ++ cs.drop (i + 1 + xs.length))) = (cs.take i ++ [x] ++ xs) ++ cs.drop (i + 1 + xs.length) := by simp
  rw [e3, List.take_append_of_le_length (by simp [hxl]; omega), List.take_of_length_le (by simp [hxl]; omega), hxs]

set_option maxRecDepth 100000 in
set_option maxHeartbeats 1000000 in
/-- There is room. -/
theorem insert_room (w : World) (fr : Chunk) (g cap n i : Nat) (cur : Array Value) (hok : Ok w ((g, .cells cur 23 (0, 0)) :: fr)) (hcap : n + 1 ≤ cap) (hmax : cap ≤ maxLen) (hsz : cur.size = cap * 1) (hn : n ≤ 100) (hi : i < n)
    (h1 : ∀ u ∈ cur.toList.take n, u.oneCell' = true) (vb : Nat) (x : Value) (T : TypeId) (hx : (vb, .cells #[x] T (0, 0)) ∈ fr) (hx1 : x.oneCell' = true) :
    Calls Tryz.prog 101 #[.slice (some ⟨g, 0, none⟩) n cap, .int .i64 i, .slice (some ⟨vb, 0, none⟩) 1 1] w (GrowsTo 23 1 w fr (n + 1) ((cur.toList.take i ++ [x]) ++ (cur.toList.take n).drop i)) := by
  obtain ⟨inf, hi0, hz0, hz1, hz2⟩ := info_parts info_u32
  have hmax' := hmax
  unfold maxLen at hmax
  have hvb : vb ≠ g := hok.ne (List.mem_map.2 ⟨_, hx, rfl⟩)
  have hg := hok.get (List.mem_cons_self ..)
  have hv := hok.get (List.mem_cons_of_mem _ hx)
  have hov := overlaps_no w vb g (i + 1) (n - i) (cap - (i + 1)) x cur T 23 hv hg hvb (by omega)
  have hsz' : cur.toList.length = cap := by simp; omega
  obtain ⟨xs, hxs⟩ : ∃ xs, xs = (cur.toList.take n).drop i := ⟨_, rfl⟩
  have hxl : xs.length = (n - i) * 1 := by rw [hxs]; simp; omega
  obtain ⟨c1, hc1⟩ : ∃ c1, c1 = cur.toList.take (i + 1) ++ xs ++ cur.toList.drop (i + 1 + xs.length) := ⟨_, rfl⟩
  obtain ⟨k1, k2, k3⟩ := insert_cells cur.toList x i n hi (by omega) xs c1 hxs hc1
  have hcp1 : ∀ ty L, L = n - i → (Builtin.copy_ #[22, 22] ty #[.slice (some ⟨g, i + 1, none⟩) L (cap - (i + 1)), .slice (some ⟨g, i, none⟩) (n + 1 - i) (cap - i)]).run Tryz.prog w.drew = .ok (.int .i64 ((n - i : Nat) : Int)) (w.drew.setRow g c1.toArray) := by
    intro ty L hL
    subst hL
    rw [hc1]
    refine run_copy 22 ty 23 inf 1 Tryz.underlying22 hi0 hz1 (w := w.drew) (g := g) (o := i + 1) (cur := cur) hg ⟨g, i, none⟩ _ _ _ _ (n - i) (by omega) xs hxl ?_ ?_ (by omega)
    · intro j u hj
      rw [add_none]
      show w.cell? _ = _
      rw [hok.cell (List.mem_cons_self ..) (i + j)]
      rw [hxs, List.getElem?_drop, List.getElem?_take] at hj
      split at hj
      · simpa using hj
      · cases hj
    · intro u hu
      rw [hxs] at hu
      exact h1 u (List.mem_of_mem_drop hu)
  have hok1 : Ok (w.drew.setRow g c1.toArray) ((g, .cells c1.toArray 23 (0, 0)) :: fr) := (hok.drew).setRow _
  have hcp2 : ∀ ty, (Builtin.copy_ #[22, 22] ty #[.slice (some ⟨g, i, none⟩) (n + 1 - i) (cap - i), .slice (some ⟨vb, 0, none⟩) 1 1]).run Tryz.prog (w.drew.setRow g c1.toArray) = .ok (.int .i64 ((1 : Nat) : Int)) ((w.drew.setRow g c1.toArray).setRow g (c1.take i ++ x :: c1.drop (i + 1)).toArray) := by
    intro ty
    have := run_copy (P := Tryz.prog) 22 ty 23 inf 1 Tryz.underlying22 hi0 hz1 (w := w.drew.setRow g c1.toArray) (g := g) (o := i) (cur := c1.toArray) (T := 23) (hok1.get (List.mem_cons_self ..)) ⟨vb, 0, none⟩ (n + 1 - i) (cap - i) 1 1 1 (by omega) [x] rfl ?_ (by simpa using hx1) (by simp [k1]; omega)
    · simpa using this
    · intro j u hj
      rw [add_none]
      rw [hok1.cell (List.mem_cons_of_mem _ hx)]
      cases j with
      | zero => simpa using hj
      | succ j => simp at hj
  have HF := hid (And.intro (hok1.setRow (c1.take i ++ x :: c1.drop (i + 1)).toArray) (And.intro k2 k3))
  have H1 := hid hcp1
  have H2 := hid hcp2
  clear hcp1 hcp2 k1 k2 k3 hok1 hc1 hxs
  have hin : ((i : Int) == (n : Int)) = false := by rw [beq_eq_false_iff_ne]; omega
  go_enter Tryz.func101, Tryz.ntmps101
  go_wp2_with (fail)
  refine wp_region_y [8] (fun _ => True) (by kernel_rfl) (by kernel_rfl) trivial ?_
  intro E _ hE hI
  have hw1 : IntKind.i64.wrap ((i : Int) + 1) = (i : Int) + 1 := IntWalk.i64_in _ (by omega)
  have hb1 : (0 : Int) ≤ (i : Int) + 1 := by omega
  have hb2 : ((i : Int) + 1).toNat = i + 1 := by omega
  have hb3 : (i : Int) + 1 ≤ (n : Int) + 1 := by omega
  have hb4 : (i : Int) ≤ (n : Int) + 1 := by omega
  have hb5 : ¬ cap = i + 1 := by omega
  have hb6 : ¬ cap = i := by omega
  repeat (refine wpX_step (fun K hK => ?_); go_simp; refine hK _ _ ?_; clear hK K)
  refine wpX_val1 rfl rfl (exec_builtin2 _ _ _ .copy _ _ _ Builtin.copy_ (fun _ _ => rfl) rfl rfl rfl (H1.out _ _ rfl)) (hI _ trivial) ?_
  refine wpX_nil ?_
  rintro w' rfl
  go_wp2_with (refine wpList_cpy rfl _ _ _ _ rfl rfl rfl (H2.out _) ?_)
  go_ret
  refine ⟨_, _, rfl, ⟨?_, .inr ⟨g, cap, _, rfl, rfl, hcap, hmax', ?_, ?_⟩⟩, HF.out.1, ((Same.refl w).drew.setRow _ _).setRow _ _⟩
  · simp; omega
  · have := HF.out.2.1
    simp only [List.size_toArray]; omega
  · have := HF.out.2.2
    rw [Nat.mul_one]
    simpa using this

theorem grow_cells (cs d0 d1 d2 r : List Value) (x : Value) (xs : List Value) (i n c : Nat) (hi : i < n) (hc : n + 1 ≤ c) (hcs : cs.length = i) (hr : r.length = c - i) (hxs : xs.length = n - i) (h0 : d0 = cs ++ r) (h1 : d1 = d0.take i ++ x :: d0.drop (i + 1)) (h2 : d2 = d1.take (i + 1) ++ xs ++ d1.drop (i + 1 + xs.length)) :
    d0.length = c ∧ d1.length = c ∧ d2.length = c ∧ d2.take (n + 1) = (cs ++ [x]) ++ xs := by
  have l0 : d0.length = c := by rw [h0]; simp [hcs, hr]; omega
  have l1 : d1.length = c := by rw [h1]; simp [l0]; omega
  have l2 : d2.length = c := by rw [h2]; simp [l1, hxs]; omega
  have e0 : d0.take i = cs := by rw [h0, ← hcs, List.take_left]
  have e1 : d1.take (i + 1) = cs ++ [x] := by
    rw [h1, e0]
    have : cs ++ x :: d0.drop (i + 1) = (cs ++ [x]) ++ d0.drop (i + 1) := by simp
    rw [this, List.take_left' (by simp [hcs])]
  refine ⟨l0, l1, l2, ?_⟩
  rw [h2, e1, List.take_left' (by simp [hcs, hxs]; omega)]

set_option maxRecDepth 100000 in
set_option maxHeartbeats 1000000 in
/-- There is no room. -/
theorem insert_grow (w : World) (fr : Chunk) (g cap n i : Nat) (cur : Array Value) (hok : Ok w ((g, .cells cur 23 (0, 0)) :: fr)) (hcap : cap < n + 1) (hcapn : n ≤ cap) (hsz : cur.size = cap * 1) (hn : n ≤ 100) (hi : i < n)
    (h1 : ∀ u ∈ cur.toList.take n, u.oneCell' = true) (vb : Nat) (x : Value) (T : TypeId) (hx : (vb, .cells #[x] T (0, 0)) ∈ fr) (hx1 : x.oneCell' = true) :
    Calls Tryz.prog 101 #[.slice (some ⟨g, 0, none⟩) n cap, .int .i64 i, .slice (some ⟨vb, 0, none⟩) 1 1] w (GrowsTo 23 1 w fr (n + 1) ((cur.toList.take i ++ [x]) ++ (cur.toList.take n).drop i)) := by
  obtain ⟨inf, hi0, hz0, hz1, hz2⟩ := info_parts info_u32
  have hg := hok.get (List.mem_cons_self ..)
  have hsz' : cur.toList.length = cap := by simp; omega
  obtain ⟨xs, hxs⟩ : ∃ xs, xs = (cur.toList.take n).drop i := ⟨_, rfl⟩
  have hxl : xs.length = (n - i) * 1 := by rw [hxs]; simp; omega
  obtain ⟨c, hap, hc1, hc2⟩ := run_append_zeros (P := Tryz.prog) 22 3 22 23 inf (.int .u32 0) 4 Tryz.underlying22 Tryz.underlying3 hi0 hz0 hz1 hz2 rfl w (some ⟨g, 0, none⟩) i cap (n + 1 - i) (by omega) (by omega) (by omega) (by omega) (cur.toList.take i) (by simp; omega)
    (by
      intro ad had j v hj
      cases had
      rw [add_none, Nat.zero_add, hok.cell (List.mem_cons_self ..) j]
      rw [List.getElem?_take] at hj
      split at hj
      · simpa using hj
      · cases hj) (by intro h; cases h)
  have hik : i + (n + 1 - i) = n + 1 := by omega
  rw [hik] at hap hc1
  obtain ⟨d0, hd0⟩ : ∃ d0, d0 = cur.toList.take i ++ List.replicate (n + 1 - i) (Value.int .u32 0) ++ List.replicate (c - (n + 1)) (Value.int .u32 0) := ⟨_, rfl⟩
  rw [← hd0] at hap
  obtain ⟨d1, hd1⟩ : ∃ d1, d1 = d0.take i ++ x :: d0.drop (i + 1) := ⟨_, rfl⟩
  obtain ⟨d2, hd2⟩ : ∃ d2, d2 = d1.take (i + 1) ++ xs ++ d1.drop (i + 1 + xs.length) := ⟨_, rfl⟩
  obtain ⟨l0, l1, l2, hfin⟩ := grow_cells (cur.toList.take i) d0 d1 d2 (List.replicate (n + 1 - i) (Value.int .u32 0) ++ List.replicate (c - (n + 1)) (Value.int .u32 0)) x xs i n c hi (by omega) (by simp; omega) (by simp; omega) (by omega) (by rw [hd0, List.append_assoc]) hd1 hd2
  generalize hG : w.heap.size = G at *
  have hk : (n : Int) + 1 - i = ((n + 1 - i : Nat) : Int) := by omega
  rw [← hk] at hap
  obtain ⟨W1, hW1⟩ : ∃ W1, W1 = w.drew.alloc (.cells d0.toArray 23) := ⟨_, rfl⟩
  rw [← hW1] at hap
  have hok1 : Ok W1 ((G, .cells d0.toArray 23 (0, 0)) :: ((g, .cells cur 23 (0, 0)) :: fr)) := by
    rw [hW1, ← hG]; exact hok.drew.alloc _
  have hs1 : Same w W1 := by rw [hW1]; exact (Same.refl w).drew.alloc _
  have hcp1 : ∀ ty dc, (Builtin.copy_ #[22, 22] ty #[.slice (some ⟨G, i, none⟩) (n + 1 - i) dc, .slice (some ⟨vb, 0, none⟩) 1 1]).run Tryz.prog W1 = .ok (.int .i64 ((1 : Nat) : Int)) (W1.setRow G d1.toArray) := by
    intro ty dc
    have := run_copy (P := Tryz.prog) 22 ty 23 inf 1 Tryz.underlying22 hi0 hz1 (w := W1) (g := G) (o := i) (cur := d0.toArray) (T := 23) (hok1.get (List.mem_cons_self ..)) ⟨vb, 0, none⟩ (n + 1 - i) dc 1 1 1 (by omega) [x] rfl ?_ (by simpa using hx1) (by simp [l0]; omega)
    · rw [hd1]; simpa using this
    · intro j u hj
      rw [add_none, hok1.cell (List.mem_cons_of_mem _ (List.mem_cons_of_mem _ hx))]
      cases j with
      | zero => simpa using hj
      | succ j => simp at hj
  have hok2 : Ok (W1.setRow G d1.toArray) ((G, .cells d1.toArray 23 (0, 0)) :: ((g, .cells cur 23 (0, 0)) :: fr)) := hok1.setRow _
  obtain ⟨W2, hW2⟩ : ∃ W2, W2 = W1.setRow G d1.toArray := ⟨_, rfl⟩
  rw [← hW2] at hok2
  have hs2 : Same w W2 := by rw [hW2]; exact hs1.setRow _ _
  have hcp2 : ∀ ty, (Builtin.copy_ #[22, 22] ty #[.slice (some ⟨G, i + 1, none⟩) (n - i) (c - (i + 1)), .slice (some ⟨g, i, none⟩) (n - i) (cap - i)]).run Tryz.prog W2.drew = .ok (.int .i64 ((n - i : Nat) : Int)) (W2.drew.setRow G d2.toArray) := by
    intro ty
    have := run_copy (P := Tryz.prog) 22 ty 23 inf 1 Tryz.underlying22 hi0 hz1 (w := W2.drew) (g := G) (o := i + 1) (cur := d1.toArray) (T := 23) (hok2.drew.get (List.mem_cons_self ..)) ⟨g, i, none⟩ (n - i) (c - (i + 1)) (n - i) (cap - i) (n - i) (by omega) xs hxl ?_ ?_ (by simp [l1]; omega)
    · rw [hd2]; simpa using this
    · intro j u hj
      rw [add_none, hok2.drew.cell (List.mem_cons_of_mem _ (List.mem_cons_self ..))]
      rw [hxs, List.getElem?_drop, List.getElem?_take] at hj
      split at hj
      · simpa using hj
      · cases hj
    · intro u hu
      rw [hxs] at hu
      exact h1 u (List.mem_of_mem_drop hu)
  have hok3 : Ok (W2.drew.setRow G d2.toArray) ((G, .cells d2.toArray 23 (0, 0)) :: fr) := (hok2.drew.setRow _).re (by grind) (by simp only [List.map_cons]; grind)
  have HA := hid hap
  have HF := hid (And.intro hok3 (And.intro l2 hfin))
  have H1 := hid hcp1
  have H2 := hid hcp2
  have HW := hid hW2
  have hs3 : Same w (W2.drew.setRow G d2.toArray) := hs2.drew.setRow _ _
  have HS := hid hs3
  have HX := hid hxs
  clear hap hcp1 hcp2 hok1 hok2 hok3 hd0 hd1 hd2 hxs hW1 hW2 l0 l1 l2 hs1 hs2 hs3 hik hG hfin hk
  have hin : ((i : Int) == (n : Int)) = false := by rw [beq_eq_false_iff_ne]; omega
  go_enter Tryz.func101, Tryz.ntmps101
  have hc3 : c ≤ 9223372036854775807 := by unfold maxLen at hc2; omega
  have hb7 : ¬ c = i := by omega
  have hb8 : ¬ c = i + 1 := by omega
  have hb9 : ¬ cap = i := by omega
  go_wp2_with (first | (at_builtin; refine wpList_app rfl _ _ _ _ rfl rfl rfl HA.out ?_) | (refine wpList_cpy rfl _ _ _ _ rfl rfl rfl (H1.out _ _) ?_))
  rw [← HW.out]
  refine wp_region_y [8] (fun _ => True) (by kernel_rfl) (by kernel_rfl) trivial ?_
  intro E _ hE hI
  have hw1 : IntKind.i64.wrap ((i : Int) + 1) = (i : Int) + 1 := IntWalk.i64_in _ (by omega)
  have hb1 : (0 : Int) ≤ (i : Int) + 1 := by omega
  have hb2 : ((i : Int) + 1).toNat = i + 1 := by omega
  have hb3 : (i : Int) + 1 ≤ (n : Int) + 1 := by omega
  have hb4 : (i : Int) ≤ (n : Int) := by omega
  repeat (refine wpX_step (fun K hK => ?_); go_simp; refine hK _ _ ?_; clear hK K)
  refine wpX_val1 rfl rfl (exec_builtin2 _ _ _ .copy _ _ _ Builtin.copy_ (fun _ _ => rfl) rfl rfl rfl (H2.out _)) (hI _ trivial) ?_
  refine wpX_nil ?_
  rintro w' rfl
  go_wp2
  go_ret
  refine ⟨_, _, rfl, ⟨?_, .inr ⟨G, c, _, rfl, rfl, hc1, hc2, ?_, ?_⟩⟩, HF.out.1, HS.out⟩
  · simp; omega
  · have := HF.out.2.1
    simp only [List.size_toArray]; omega
  · have := HF.out.2.2
    rw [Nat.mul_one]
    rw [HX.out] at this
    simpa using this
end Go.Proofs.YtdllibalmjadhaaGreat
