/- slices.DeleteFunc at numbers. -/
import Derived.Test.YtdllibalmjadhaaGreatE12
import Derived.Test.YtdllibalmjadhaaGreatE14

namespace Go.Proofs.YtdllibalmjadhaaGreat
open Go Go.RowKit

theorem run_clearU {w : World} {g o m c : Nat} {cur : Array Value} (hg : w.heap[g]? = some (.cells cur 23 (0, 0))) (hm : o + m = cur.size ∨ o + m ≤ cur.size) (ty : TypeId) :
    ∃ cur', cur'.size = cur.size ∧ (∀ k, k < o → cur'[k]? = cur[k]?) ∧ ((Builtin.clear_ #[22] ty #[.slice (some ⟨g, o, none⟩) m c]).run Tryz.prog w = .ok (.tuple #[]) (w.setRow g cur')) := by
  have hm' : o + m ≤ cur.size := by omega
  obtain ⟨i, hi, hz0, hz1, hz2⟩ := info_parts info_u32
  have hze : (zeroValue 23).run Tryz.prog w = .ok (.int .u32 0) w := by simp [zeroValue, typeInfo, hi, hz0]
  cases m with
  | zero =>
    refine ⟨cur, rfl, fun _ _ => rfl, ?_⟩
    rw [setRow_self w g cur 23 (0, 0) hg]
    simp [Builtin.clear_, run_underlying Tryz.underlying22]
  | succ m =>
    have hst := run_storeCells_at (P := Tryz.prog) g o 23 (List.replicate (m + 1) (.int .u32 0)) 0 cur w hg (by simp; omega) (by intro v hv; rw [List.eq_of_mem_replicate hv]; rfl)
    simp only [Nat.add_zero] at hst
    have hzc : (Builtin.zeroCells (Value.int IntKind.u32 0).cells (m + 1)).toList = List.replicate (m + 1) (.int .u32 0) := by
      have : (Value.int IntKind.u32 0).cells = #[.int .u32 0] := rfl
      rw [this, zeroCells_one]
    refine ⟨(cur.toList.take o ++ List.replicate (m + 1) (Value.int .u32 0) ++ cur.toList.drop (o + (List.replicate (m + 1) (Value.int .u32 0)).length)).toArray, ?_, fun k hk => ?_, ?_⟩
    rotate_left 2
    · simp [Builtin.clear_, run_underlying Tryz.underlying22, hze, hzc, hst]
    · simp; omega
    · simp [List.getElem?_append, hk]
      omega

/-- Where the first one is that goes. -/
def IdxAlive (w : World) (d : Nat → Bool) (l : List Nat) (en : Ending) (w' : World) : Prop := ∃ i : Int, en = .returned (.int .i64 i) ∧ ((i = -1 ∧ ∀ x ∈ l, d x = false) ∨ ∃ k : Nat, i = k ∧ k < l.length ∧ (∀ x, l[k]? = some x → d x = true) ∧ ∀ x ∈ l.take k, d x = false) ∧ Below w.heap.size w w'
set_option maxHeartbeats 1000000 in
theorem indexAlive_any (s : Value) (l : List Nat) (cb : Nat) (d : Nat → Bool) (hl : l.length < 1073741824) (w : World) (hr : ReadsU w s l)
    (hcl : ∀ x w', Below w.heap.size w w' → Calls Tryz.prog 94 #[.int .u32 (x : Nat), .pointer (some ⟨cb, 0, none⟩)] w' fun en w'' => en = .returned (.bool (d x)) ∧ Below w'.heap.size w' w'') :
    Calls Tryz.prog 132 #[s, .func (.func 94) #[] #[.pointer (some ⟨cb, 0, none⟩)]] w (IdxAlive w d l) := by
  have HC := hid hcl
  clear hcl
  obtain ⟨a, n, k, rfl, hn⟩ : ∃ a n k, s = .slice a n k ∧ n = l.length := by
    rcases hr with ⟨rfl, rfl⟩ | ⟨b, off, cap, rfl, _⟩
    · exact ⟨_, _, _, rfl, rfl⟩
    · exact ⟨_, _, _, rfl, rfl⟩
  subst hn
  generalize hpost : IdxAlive w d l = post
  have HP := hid hpost
  clear hpost
  go_enter Tryz.func132, Tryz.ntmps132
  go_wp2
  go_loopw [8] (fun q wr => ∃ j : Nat, q = .int .i64 j ∧ j ≤ l.length ∧ (∀ x ∈ l.take j, d x = false) ∧ Below w.heap.size w wr) (fun q _ => l.length - (match q with | .int _ m => m.toNat | _ => 0))
  case atStart => exact ⟨0, rfl, Nat.zero_le _, by simp, Below.refl _ _⟩
  case round =>
    obtain ⟨j, rfl, hj, hall, hb⟩ := hrel
    rcases Nat.lt_or_ge j l.length with hlt | hge
    · obtain ⟨x, hx⟩ : ∃ x, l[j]? = some x := ⟨l[j], List.getElem?_eq_getElem hlt⟩
      obtain ⟨pb, off, rfl, hcell⟩ := (hr.below hb).cell.2 j x hx
      have hwk : IntKind.i64.wrap ((j : Int) + 1) = (j : Int) + 1 := IntWalk.i64_in _ (by omega)
      have hd1 : decide ((j : Int) < (l.length : Int)) = true := by simpa using hlt
      have hx1 : l[j] = x := by rw [List.getElem?_eq_getElem hlt] at hx; exact Option.some.inj hx
      have HA := hid hall
      have HC2 := hid (HC.out x wr hb)
      clear hall hr
      cases hdx : d x with
      | true =>
        rw [hdx] at HC2
        go_wp2_with (go_at_call 94; refine HC2.out.mono ?_; rintro en w3 ⟨rfl, hb3⟩)
        rw [← HP.out]
        exact ⟨(j : Int), rfl, .inr ⟨j, rfl, hlt, fun y hy => by rw [hx] at hy; cases hy; exact hdx, HA.out⟩, below_trans hb hb3⟩
      | false =>
        rw [hdx] at HC2
        go_wp2_with (go_at_call 94; refine HC2.out.mono ?_; rintro en w3 ⟨rfl, hb3⟩)
        go_roundw
        case rel =>
          refine ⟨j + 1, rfl, hlt, fun y hy => ?_, below_trans hb hb3⟩
          rw [List.take_add_one, hx] at hy
          rcases List.mem_append.1 hy with hy | hy
          · exact HA.out y hy
          · simp at hy; rw [hy]; exact hdx
        case measure => simp; omega
    · obtain rfl : j = l.length := by omega
      have hd1 : decide ((l.length : Int) < (l.length : Int)) = false := by simp
      have HF := hid (show IdxAlive w d l (.returned (.int .i64 (-1))) wr from ⟨-1, rfl, .inl ⟨rfl, by rwa [List.take_length] at hall⟩, hb⟩)
      rw [HP.out] at HF
      clear hall hr
      go_wp2
      exact HF.out

/-- What is left of numbers. -/
def DelUAlive (w : World) (fr : Chunk) (d : Nat → Bool) (l : List Nat) (en : Ending) (w' : World) : Prop := ∃ v c', en = .returned v ∧ Row 23 1 c' v (l.filter fun x => !d x).length (u32s (l.filter fun x => !d x)) ∧ Ok w' (c' ++ fr) ∧ Same w w'
set_option maxHeartbeats 2000000 in
theorem delUAlive_any (c fr : Chunk) (s : Value) (l : List Nat) (cb : Nat) (d : Nat → Bool) (hl : l.length < 1073741824) (w : World) (hok : Ok w (c ++ fr)) (hrow : Row 23 1 c s l.length (u32s l))
    (hcl : ∀ x w', Ok w' fr → Same w w' → Calls Tryz.prog 94 #[.int .u32 (x : Nat), .pointer (some ⟨cb, 0, none⟩)] w' fun en w'' => en = .returned (.bool (d x)) ∧ Below w'.heap.size w' w'') :
    Calls Tryz.prog 87 #[s, .func (.func 94) #[] #[.pointer (some ⟨cb, 0, none⟩)]] w (DelUAlive w fr d l) := by
  have hrd : ReadsU w s l := hrow.reads hok
  have HI := hid (indexAlive_any s l cb d hl w hrd (fun x w' hb => hcl x w' (hok.right.below hb) ((Same.refl w).below hb)))
  have HC := hid hcl
  clear hcl hrd
  obtain ⟨a, k, rfl⟩ := hrow.slice
  generalize hpost : DelUAlive w fr d l = post
  have HP := hid hpost
  clear hpost
  by_cases hno : ∀ x ∈ l, d x = false
  · have hfl : (l.filter fun x => !d x) = l := List.filter_eq_self.2 fun x hx => by rw [hno x hx]; rfl
    have hstay := hid fun w1 (hb1 : Below w.heap.size w w1) => show DelUAlive w fr d l (.returned (.slice a l.length k)) w1 from ⟨_, c, rfl, by rw [hfl]; exact hrow, hok.below hb1, (Same.refl w).below hb1⟩
    have hni : ∀ i : Int, ((i = -1 ∧ ∀ x ∈ l, d x = false) ∨ ∃ k : Nat, i = k ∧ k < l.length ∧ (∀ x, l[k]? = some x → d x = true) ∧ ∀ x ∈ l.take k, d x = false) → i = -1 := by
      rintro i (⟨h, _⟩ | ⟨k, _, hk, h2, _⟩)
      · exact h
      · have := h2 _ (List.getElem?_eq_getElem hk)
        rw [hno _ (List.getElem_mem hk)] at this; cases this
    have HNi := hid hni
    clear hok hrow hno hfl hni
    go_enter Tryz.func87, Tryz.ntmps87
    go_wp2_with (go_at_call 132; refine HI.out.mono ?_; rintro en w1 ⟨i, rfl, hi, hb1⟩; obtain rfl := HNi.out i hi)
    have := hstay.out w1 hb1
    rw [HP.out] at this
    exact this
  · have hyes : ∀ i : Int, ((i = -1 ∧ ∀ x ∈ l, d x = false) ∨ ∃ k : Nat, i = k ∧ k < l.length ∧ (∀ x, l[k]? = some x → d x = true) ∧ ∀ x ∈ l.take k, d x = false) → ∃ k : Nat, i = k ∧ k < l.length ∧ (∀ x, l[k]? = some x → d x = true) ∧ ∀ x ∈ l.take k, d x = false := by
      rintro i (⟨_, h⟩ | h)
      · exact absurd h hno
      · exact h
    have HY := hid hyes
    clear hyes hno
    obtain ⟨_, ⟨h0, h1, _⟩ | ⟨g, cap, cur, h0, h1, h2, h3, h4, h5⟩⟩ := hrow
    · have hln : l = [] := List.eq_nil_of_length_eq_zero h1
      subst hln
      clear hok HC
      go_enter Tryz.func87, Tryz.ntmps87
      go_wp2_with (go_at_call 132; refine HI.out.mono ?_; rintro en w1 ⟨i, rfl, hi, hb1⟩; obtain ⟨k', _, hk', _⟩ := HY.out i hi; exact absurd hk' (by simp))
    · cases h0
      subst h1
      have hcur0 : ∀ (j x : Nat), l[j]? = some x → cur[j]? = some (.int .u32 (x : Int)) := fun j x hx => by
        have hjl : j < l.length := (List.getElem?_eq_some_iff.1 hx).1
        have e1 : (cur.toList.take (l.length * 1))[j]? = (u32s l)[j]? := by rw [h5]
        rw [List.getElem?_take_of_lt (by omega)] at e1
        simpa [u32s, hx] using e1
      have hpre : ∀ k : Nat, k ≤ l.length → (∀ x ∈ l.take k, d x = false) → cur.toList.take k = u32s (l.take k) := fun k hk _ => by
        have e1 : (cur.toList.take (l.length * 1)).take k = (u32s l).take k := by rw [h5]
        rw [List.take_take, Nat.min_eq_left (by omega)] at e1
        rw [e1]; simp [u32s]
      have hszc : cur.size = k := by omega
      clear h5 h4
      have HF0 := hid (And.intro hok (And.intro hcur0 hpre))
      clear hok hcur0 hpre
      go_enter Tryz.func87, Tryz.ntmps87
      go_wp2_with (go_at_call 132; refine HI.out.mono ?_; rintro en w1 ⟨i, rfl, hi, hb1⟩; obtain ⟨i0, rfl, hi0, hd0, ha0⟩ := HY.out i hi; have hne : ((i0 : Int) == -1) = false := beq_eq_false_iff_ne.2 (by omega))
      have hwk0 : IntKind.i64.wrap ((i0 : Int) + 1) = (i0 : Int) + 1 := IntWalk.i64_in _ (by omega)
      obtain ⟨hok, hcur0, hpre⟩ := HF0.out
      have hok1 := hok.below hb1
      have hs1 : Same w w1 := (Same.refl w).below hb1
      have hfl0 : (l.take (i0 + 1)).filter (fun x => !d x) = l.take i0 := by
        rw [List.take_add_one, List.getElem?_eq_getElem hi0, List.filter_append, List.filter_eq_self.2 (fun x hx => by rw [ha0 x hx]; rfl)]
        simp [hd0 _ (List.getElem?_eq_getElem hi0)]
      have hst0 : cur.toList.take i0 = u32s ((l.take (i0 + 1)).filter fun x => !d x) := by rw [hfl0]; exact hpre i0 (by omega) ha0
      have HS := hid (And.intro hok1 (And.intro hs1 (And.intro hst0 hcur0)))
      clear hok hok1 hs1 hst0 hcur0 hpre HI HY hd0 ha0 hfl0 HF0 hi
      go_wp2
      go_loopw [5, 6] (fun qi qj wr => ∃ (i j : Nat) (cur' : Array Value), qi = .int .i64 i ∧ qj = .int .i64 j ∧ i < j ∧ j ≤ l.length ∧ cur'.size = cur.size ∧ cur'.toList.take i = u32s ((l.take j).filter fun x => !d x) ∧ (∀ (m x : Nat), j ≤ m → l[m]? = some x → cur'[m]? = some (.int .u32 (x : Int))) ∧ Ok wr ((g, .cells cur' 23 (0, 0)) :: fr) ∧ Same w wr)
        (fun _ qj _ => l.length - (match qj with | .int _ m => m.toNat | _ => 0))
      case atStart => exact ⟨i0, i0 + 1, cur, rfl, by first | rfl | go_num, by omega, hi0, rfl, HS.out.2.2.1, fun m x _ hx => HS.out.2.2.2 m x hx, HS.out.1, HS.out.2.1⟩
      case round =>
        obtain ⟨i, j, cur', rfl, rfl, hij, hj, hsz, htk, hrest, hok, hsame⟩ := hrel
        have hwi : IntKind.i64.wrap ((i : Int) + 1) = (i : Int) + 1 := IntWalk.i64_in _ (by omega)
        have hwj : IntKind.i64.wrap ((j : Int) + 1) = (j : Int) + 1 := IntWalk.i64_in _ (by omega)
        rcases Nat.lt_or_ge j l.length with hlt | hge
        · obtain ⟨x, hx⟩ : ∃ x, l[j]? = some x := ⟨l[j], List.getElem?_eq_getElem hlt⟩
          have hcell : wr.cell? ⟨g, j, none⟩ = some (.int .u32 x) := by rw [hok.cell (List.mem_cons_self ..)]; exact hrest j x (Nat.le_refl _) hx
          have hd1 : decide ((j : Int) < (l.length : Int)) = true := by simpa using hlt
          have HC2 := hid (HC.out x wr hok.tail hsame)
          have hfl : (l.take (j + 1)).filter (fun x => !d x) = (l.take j).filter (fun x => !d x) ++ (if d x then [] else [x]) := by
            rw [List.take_add_one, hx, List.filter_append]
            cases hdx : d x <;> simp [hdx]
          have hil : i < cur'.size := by omega
          obtain ⟨y, hy⟩ : ∃ y, cur'[i]? = some y := ⟨_, Array.getElem?_eq_getElem hil⟩
          have HX := hid (And.intro hok (And.intro hsame (And.intro htk (And.intro hrest hfl))))
          clear hok hsame htk hrest hfl
          cases hdx : d x with
          | true =>
            rw [hdx] at HC2
            go_wp2_with (go_at_call 94; refine HC2.out.mono ?_; rintro en w3 ⟨rfl, hb3⟩)
            go_roundw
            case rel =>
              obtain ⟨hok, hsame, htk, hrest, hfl⟩ := HX.out
              rw [hdx] at hfl
              exact ⟨i, j + 1, cur', rfl, rfl, by omega, hlt, hsz, by rw [htk, hfl]; simp, fun m x hm hx => hrest m x (by omega) hx, hok.below hb3, hsame.below hb3⟩
            case measure => simp; omega
          | false =>
            rw [hdx] at HC2
            go_wp2_with (go_at_call 94; refine HC2.out.mono ?_; rintro en w3 ⟨rfl, hb3⟩; have hg3 : w3.heap[g]? = some (.cells cur' 23 (0, 0)) := holds hb3 (HX.out.1.get (List.mem_cons_self ..)); have hci : w3.cell? ⟨g, i, none⟩ = some y := (cellOf hg3 i).trans hy; have hzi : w3.frozen? ⟨g, i, none⟩ = false := frozenOf hg3 i)
            go_roundw
            case rel =>
              obtain ⟨hok, hsame, htk, hrest, hfl⟩ := HX.out
              rw [hdx] at hfl
              refine ⟨i + 1, j + 1, cur'.setIfInBounds i (.int .u32 (x : Int)), rfl, rfl, by omega, hlt, by simpa using hsz, ?_, fun m y hm hy => ?_, (hok.below hb3).setCell i _, (hsame.below hb3).setCell _ _⟩
              · rw [hfl, Array.toList_setIfInBounds, List.take_set, List.take_add_one]
                have hil : i < cur'.toList.length := by simp; omega
                rw [List.getElem?_eq_getElem hil]
                have hk : (cur'.toList.take i).length = i := by simp; omega
                rw [List.set_append_right _ _ (by omega), hk, htk]
                simp [u32s]
              · rw [Array.getElem?_setIfInBounds_ne (by omega)]
                exact hrest m y (by omega) hy
            case measure => simp; omega
        · obtain rfl : j = l.length := by omega
          have hd1 : decide ((l.length : Int) < (l.length : Int)) = false := by simp
          have hflen : (l.filter fun x => !d x).length = i := by
            have := congrArg List.length htk
            rw [List.take_length] at this
            simp [u32s] at this
            omega
          have hgr : wr.heap[g]? = some (.cells cur' 23 (0, 0)) := hok.get (List.mem_cons_self ..)
          obtain ⟨cur2, hsz2, hk2, hclr⟩ := run_clearU (o := i) (m := l.length - i) (c := k - i) hgr (.inr (by omega)) 0
          have hik : (i : Int) < (k : Int) := by omega
          have hik' : i < k := by omega
          have hil' : i ≤ l.length := by omega
          have HX := hid (And.intro hok (And.intro hsame (And.intro htk (And.intro hflen (And.intro hsz2 hk2)))))
          clear hok hsame htk hrest hflen hsz2 hk2 HS
          go_wp2
          obtain ⟨hok, hsame, htk, hflen, hsz2, hk2⟩ := HX.out
          rw [List.take_length] at htk
          have htk2 : cur2.toList.take i = u32s (l.filter fun x => !d x) := by
            rw [← htk]
            apply List.ext_getElem?
            intro m
            rcases Nat.lt_or_ge m i with hm | hm
            · rw [List.getElem?_take_of_lt hm, List.getElem?_take_of_lt hm]
              simpa using hk2 m hm
            · rw [List.getElem?_eq_none (by simp; omega), List.getElem?_eq_none (by simp; omega)]
          have hrow2 : Row 23 1 [(g, .cells cur2 23 (0, 0))] (.slice (some ⟨g, 0, none⟩) i k) (l.filter fun x => !d x).length (u32s (l.filter fun x => !d x)) := by
            rw [hflen]
            exact ⟨by rw [u32s_length, hflen]; omega, .inr ⟨g, k, cur2, rfl, rfl, by omega, h3, by omega, by rw [Nat.mul_one]; exact htk2⟩⟩
          rw [← HP.out]
          exact ⟨_, _, rfl, hrow2, hok.setRow cur2, hsame.setRow _ _⟩

/-- Where the first one is that goes. -/
def IdxCopied (w : World) (d : Nat → Bool) (l : List Nat) (en : Ending) (w' : World) : Prop := ∃ i : Int, en = .returned (.int .i64 i) ∧ ((i = -1 ∧ ∀ x ∈ l, d x = false) ∨ ∃ k : Nat, i = k ∧ k < l.length ∧ (∀ x, l[k]? = some x → d x = true) ∧ ∀ x ∈ l.take k, d x = false) ∧ Below w.heap.size w w'
set_option maxHeartbeats 1000000 in
theorem indexCopied_any (s : Value) (l : List Nat) (cb : Nat) (d : Nat → Bool) (hl : l.length < 1073741824) (w : World) (hr : ReadsU w s l)
    (hcl : ∀ x w', Below w.heap.size w w' → Calls Tryz.prog 88 #[.int .u32 (x : Nat), .pointer (some ⟨cb, 0, none⟩)] w' fun en w'' => en = .returned (.bool (d x)) ∧ Below w'.heap.size w' w'') :
    Calls Tryz.prog 132 #[s, .func (.func 88) #[] #[.pointer (some ⟨cb, 0, none⟩)]] w (IdxCopied w d l) := by
  have HC := hid hcl
  clear hcl
  obtain ⟨a, n, k, rfl, hn⟩ : ∃ a n k, s = .slice a n k ∧ n = l.length := by
    rcases hr with ⟨rfl, rfl⟩ | ⟨b, off, cap, rfl, _⟩
    · exact ⟨_, _, _, rfl, rfl⟩
    · exact ⟨_, _, _, rfl, rfl⟩
  subst hn
  generalize hpost : IdxCopied w d l = post
  have HP := hid hpost
  clear hpost
  go_enter Tryz.func132, Tryz.ntmps132
  go_wp2
  go_loopw [8] (fun q wr => ∃ j : Nat, q = .int .i64 j ∧ j ≤ l.length ∧ (∀ x ∈ l.take j, d x = false) ∧ Below w.heap.size w wr) (fun q _ => l.length - (match q with | .int _ m => m.toNat | _ => 0))
  case atStart => exact ⟨0, rfl, Nat.zero_le _, by simp, Below.refl _ _⟩
  case round =>
    obtain ⟨j, rfl, hj, hall, hb⟩ := hrel
    rcases Nat.lt_or_ge j l.length with hlt | hge
    · obtain ⟨x, hx⟩ : ∃ x, l[j]? = some x := ⟨l[j], List.getElem?_eq_getElem hlt⟩
      obtain ⟨pb, off, rfl, hcell⟩ := (hr.below hb).cell.2 j x hx
      have hwk : IntKind.i64.wrap ((j : Int) + 1) = (j : Int) + 1 := IntWalk.i64_in _ (by omega)
      have hd1 : decide ((j : Int) < (l.length : Int)) = true := by simpa using hlt
      have hx1 : l[j] = x := by rw [List.getElem?_eq_getElem hlt] at hx; exact Option.some.inj hx
      have HA := hid hall
      have HC2 := hid (HC.out x wr hb)
      clear hall hr
      cases hdx : d x with
      | true =>
        rw [hdx] at HC2
        go_wp2_with (go_at_call 88; refine HC2.out.mono ?_; rintro en w3 ⟨rfl, hb3⟩)
        rw [← HP.out]
        exact ⟨(j : Int), rfl, .inr ⟨j, rfl, hlt, fun y hy => by rw [hx] at hy; cases hy; exact hdx, HA.out⟩, below_trans hb hb3⟩
      | false =>
        rw [hdx] at HC2
        go_wp2_with (go_at_call 88; refine HC2.out.mono ?_; rintro en w3 ⟨rfl, hb3⟩)
        go_roundw
        case rel =>
          refine ⟨j + 1, rfl, hlt, fun y hy => ?_, below_trans hb hb3⟩
          rw [List.take_add_one, hx] at hy
          rcases List.mem_append.1 hy with hy | hy
          · exact HA.out y hy
          · simp at hy; rw [hy]; exact hdx
        case measure => simp; omega
    · obtain rfl : j = l.length := by omega
      have hd1 : decide ((l.length : Int) < (l.length : Int)) = false := by simp
      have HF := hid (show IdxCopied w d l (.returned (.int .i64 (-1))) wr from ⟨-1, rfl, .inl ⟨rfl, by rwa [List.take_length] at hall⟩, hb⟩)
      rw [HP.out] at HF
      clear hall hr
      go_wp2
      exact HF.out

/-- What is left of numbers. -/
def DelUCopied (w : World) (fr : Chunk) (d : Nat → Bool) (l : List Nat) (en : Ending) (w' : World) : Prop := ∃ v c', en = .returned v ∧ Row 23 1 c' v (l.filter fun x => !d x).length (u32s (l.filter fun x => !d x)) ∧ Ok w' (c' ++ fr) ∧ Same w w'
set_option maxHeartbeats 2000000 in
theorem delUCopied_any (c fr : Chunk) (s : Value) (l : List Nat) (cb : Nat) (d : Nat → Bool) (hl : l.length < 1073741824) (w : World) (hok : Ok w (c ++ fr)) (hrow : Row 23 1 c s l.length (u32s l))
    (hcl : ∀ x w', Ok w' fr → Same w w' → Calls Tryz.prog 88 #[.int .u32 (x : Nat), .pointer (some ⟨cb, 0, none⟩)] w' fun en w'' => en = .returned (.bool (d x)) ∧ Below w'.heap.size w' w'') :
    Calls Tryz.prog 87 #[s, .func (.func 88) #[] #[.pointer (some ⟨cb, 0, none⟩)]] w (DelUCopied w fr d l) := by
  have hrd : ReadsU w s l := hrow.reads hok
  have HI := hid (indexCopied_any s l cb d hl w hrd (fun x w' hb => hcl x w' (hok.right.below hb) ((Same.refl w).below hb)))
  have HC := hid hcl
  clear hcl hrd
  obtain ⟨a, k, rfl⟩ := hrow.slice
  generalize hpost : DelUCopied w fr d l = post
  have HP := hid hpost
  clear hpost
  by_cases hno : ∀ x ∈ l, d x = false
  · have hfl : (l.filter fun x => !d x) = l := List.filter_eq_self.2 fun x hx => by rw [hno x hx]; rfl
    have hstay := hid fun w1 (hb1 : Below w.heap.size w w1) => show DelUCopied w fr d l (.returned (.slice a l.length k)) w1 from ⟨_, c, rfl, by rw [hfl]; exact hrow, hok.below hb1, (Same.refl w).below hb1⟩
    have hni : ∀ i : Int, ((i = -1 ∧ ∀ x ∈ l, d x = false) ∨ ∃ k : Nat, i = k ∧ k < l.length ∧ (∀ x, l[k]? = some x → d x = true) ∧ ∀ x ∈ l.take k, d x = false) → i = -1 := by
      rintro i (⟨h, _⟩ | ⟨k, _, hk, h2, _⟩)
      · exact h
      · have := h2 _ (List.getElem?_eq_getElem hk)
        rw [hno _ (List.getElem_mem hk)] at this; cases this
    have HNi := hid hni
    clear hok hrow hno hfl hni
    go_enter Tryz.func87, Tryz.ntmps87
    go_wp2_with (go_at_call 132; refine HI.out.mono ?_; rintro en w1 ⟨i, rfl, hi, hb1⟩; obtain rfl := HNi.out i hi)
    have := hstay.out w1 hb1
    rw [HP.out] at this
    exact this
  · have hyes : ∀ i : Int, ((i = -1 ∧ ∀ x ∈ l, d x = false) ∨ ∃ k : Nat, i = k ∧ k < l.length ∧ (∀ x, l[k]? = some x → d x = true) ∧ ∀ x ∈ l.take k, d x = false) → ∃ k : Nat, i = k ∧ k < l.length ∧ (∀ x, l[k]? = some x → d x = true) ∧ ∀ x ∈ l.take k, d x = false := by
      rintro i (⟨_, h⟩ | h)
      · exact absurd h hno
      · exact h
    have HY := hid hyes
    clear hyes hno
    obtain ⟨_, ⟨h0, h1, _⟩ | ⟨g, cap, cur, h0, h1, h2, h3, h4, h5⟩⟩ := hrow
    · have hln : l = [] := List.eq_nil_of_length_eq_zero h1
      subst hln
      clear hok HC
      go_enter Tryz.func87, Tryz.ntmps87
      go_wp2_with (go_at_call 132; refine HI.out.mono ?_; rintro en w1 ⟨i, rfl, hi, hb1⟩; obtain ⟨k', _, hk', _⟩ := HY.out i hi; exact absurd hk' (by simp))
    · cases h0
      subst h1
      have hcur0 : ∀ (j x : Nat), l[j]? = some x → cur[j]? = some (.int .u32 (x : Int)) := fun j x hx => by
        have hjl : j < l.length := (List.getElem?_eq_some_iff.1 hx).1
        have e1 : (cur.toList.take (l.length * 1))[j]? = (u32s l)[j]? := by rw [h5]
        rw [List.getElem?_take_of_lt (by omega)] at e1
        simpa [u32s, hx] using e1
      have hpre : ∀ k : Nat, k ≤ l.length → (∀ x ∈ l.take k, d x = false) → cur.toList.take k = u32s (l.take k) := fun k hk _ => by
        have e1 : (cur.toList.take (l.length * 1)).take k = (u32s l).take k := by rw [h5]
        rw [List.take_take, Nat.min_eq_left (by omega)] at e1
        rw [e1]; simp [u32s]
      have hszc : cur.size = k := by omega
      clear h5 h4
      have HF0 := hid (And.intro hok (And.intro hcur0 hpre))
      clear hok hcur0 hpre
      go_enter Tryz.func87, Tryz.ntmps87
      go_wp2_with (go_at_call 132; refine HI.out.mono ?_; rintro en w1 ⟨i, rfl, hi, hb1⟩; obtain ⟨i0, rfl, hi0, hd0, ha0⟩ := HY.out i hi; have hne : ((i0 : Int) == -1) = false := beq_eq_false_iff_ne.2 (by omega))
      have hwk0 : IntKind.i64.wrap ((i0 : Int) + 1) = (i0 : Int) + 1 := IntWalk.i64_in _ (by omega)
      obtain ⟨hok, hcur0, hpre⟩ := HF0.out
      have hok1 := hok.below hb1
      have hs1 : Same w w1 := (Same.refl w).below hb1
      have hfl0 : (l.take (i0 + 1)).filter (fun x => !d x) = l.take i0 := by
        rw [List.take_add_one, List.getElem?_eq_getElem hi0, List.filter_append, List.filter_eq_self.2 (fun x hx => by rw [ha0 x hx]; rfl)]
        simp [hd0 _ (List.getElem?_eq_getElem hi0)]
      have hst0 : cur.toList.take i0 = u32s ((l.take (i0 + 1)).filter fun x => !d x) := by rw [hfl0]; exact hpre i0 (by omega) ha0
      have HS := hid (And.intro hok1 (And.intro hs1 (And.intro hst0 hcur0)))
      clear hok hok1 hs1 hst0 hcur0 hpre HI HY hd0 ha0 hfl0 HF0 hi
      go_wp2
      go_loopw [5, 6] (fun qi qj wr => ∃ (i j : Nat) (cur' : Array Value), qi = .int .i64 i ∧ qj = .int .i64 j ∧ i < j ∧ j ≤ l.length ∧ cur'.size = cur.size ∧ cur'.toList.take i = u32s ((l.take j).filter fun x => !d x) ∧ (∀ (m x : Nat), j ≤ m → l[m]? = some x → cur'[m]? = some (.int .u32 (x : Int))) ∧ Ok wr ((g, .cells cur' 23 (0, 0)) :: fr) ∧ Same w wr)
        (fun _ qj _ => l.length - (match qj with | .int _ m => m.toNat | _ => 0))
      case atStart => exact ⟨i0, i0 + 1, cur, rfl, by first | rfl | go_num, by omega, hi0, rfl, HS.out.2.2.1, fun m x _ hx => HS.out.2.2.2 m x hx, HS.out.1, HS.out.2.1⟩
      case round =>
        obtain ⟨i, j, cur', rfl, rfl, hij, hj, hsz, htk, hrest, hok, hsame⟩ := hrel
        have hwi : IntKind.i64.wrap ((i : Int) + 1) = (i : Int) + 1 := IntWalk.i64_in _ (by omega)
        have hwj : IntKind.i64.wrap ((j : Int) + 1) = (j : Int) + 1 := IntWalk.i64_in _ (by omega)
        rcases Nat.lt_or_ge j l.length with hlt | hge
        · obtain ⟨x, hx⟩ : ∃ x, l[j]? = some x := ⟨l[j], List.getElem?_eq_getElem hlt⟩
          have hcell : wr.cell? ⟨g, j, none⟩ = some (.int .u32 x) := by rw [hok.cell (List.mem_cons_self ..)]; exact hrest j x (Nat.le_refl _) hx
          have hd1 : decide ((j : Int) < (l.length : Int)) = true := by simpa using hlt
          have HC2 := hid (HC.out x wr hok.tail hsame)
          have hfl : (l.take (j + 1)).filter (fun x => !d x) = (l.take j).filter (fun x => !d x) ++ (if d x then [] else [x]) := by
            rw [List.take_add_one, hx, List.filter_append]
            cases hdx : d x <;> simp [hdx]
          have hil : i < cur'.size := by omega
          obtain ⟨y, hy⟩ : ∃ y, cur'[i]? = some y := ⟨_, Array.getElem?_eq_getElem hil⟩
          have HX := hid (And.intro hok (And.intro hsame (And.intro htk (And.intro hrest hfl))))
          clear hok hsame htk hrest hfl
          cases hdx : d x with
          | true =>
            rw [hdx] at HC2
            go_wp2_with (go_at_call 88; refine HC2.out.mono ?_; rintro en w3 ⟨rfl, hb3⟩)
            go_roundw
            case rel =>
              obtain ⟨hok, hsame, htk, hrest, hfl⟩ := HX.out
              rw [hdx] at hfl
              exact ⟨i, j + 1, cur', rfl, rfl, by omega, hlt, hsz, by rw [htk, hfl]; simp, fun m x hm hx => hrest m x (by omega) hx, hok.below hb3, hsame.below hb3⟩
            case measure => simp; omega
          | false =>
            rw [hdx] at HC2
            go_wp2_with (go_at_call 88; refine HC2.out.mono ?_; rintro en w3 ⟨rfl, hb3⟩; have hg3 : w3.heap[g]? = some (.cells cur' 23 (0, 0)) := holds hb3 (HX.out.1.get (List.mem_cons_self ..)); have hci : w3.cell? ⟨g, i, none⟩ = some y := (cellOf hg3 i).trans hy; have hzi : w3.frozen? ⟨g, i, none⟩ = false := frozenOf hg3 i)
            go_roundw
            case rel =>
              obtain ⟨hok, hsame, htk, hrest, hfl⟩ := HX.out
              rw [hdx] at hfl
              refine ⟨i + 1, j + 1, cur'.setIfInBounds i (.int .u32 (x : Int)), rfl, rfl, by omega, hlt, by simpa using hsz, ?_, fun m y hm hy => ?_, (hok.below hb3).setCell i _, (hsame.below hb3).setCell _ _⟩
              · rw [hfl, Array.toList_setIfInBounds, List.take_set, List.take_add_one]
                have hil : i < cur'.toList.length := by simp; omega
                rw [List.getElem?_eq_getElem hil]
                have hk : (cur'.toList.take i).length = i := by simp; omega
                rw [List.set_append_right _ _ (by omega), hk, htk]
                simp [u32s]
              · rw [Array.getElem?_setIfInBounds_ne (by omega)]
                exact hrest m y (by omega) hy
            case measure => simp; omega
        · obtain rfl : j = l.length := by omega
          have hd1 : decide ((l.length : Int) < (l.length : Int)) = false := by simp
          have hflen : (l.filter fun x => !d x).length = i := by
            have := congrArg List.length htk
            rw [List.take_length] at this
            simp [u32s] at this
            omega
          have hgr : wr.heap[g]? = some (.cells cur' 23 (0, 0)) := hok.get (List.mem_cons_self ..)
          obtain ⟨cur2, hsz2, hk2, hclr⟩ := run_clearU (o := i) (m := l.length - i) (c := k - i) hgr (.inr (by omega)) 0
          have hik : (i : Int) < (k : Int) := by omega
          have hik' : i < k := by omega
          have hil' : i ≤ l.length := by omega
          have HX := hid (And.intro hok (And.intro hsame (And.intro htk (And.intro hflen (And.intro hsz2 hk2)))))
          clear hok hsame htk hrest hflen hsz2 hk2 HS
          go_wp2
          obtain ⟨hok, hsame, htk, hflen, hsz2, hk2⟩ := HX.out
          rw [List.take_length] at htk
          have htk2 : cur2.toList.take i = u32s (l.filter fun x => !d x) := by
            rw [← htk]
            apply List.ext_getElem?
            intro m
            rcases Nat.lt_or_ge m i with hm | hm
            · rw [List.getElem?_take_of_lt hm, List.getElem?_take_of_lt hm]
              simpa using hk2 m hm
            · rw [List.getElem?_eq_none (by simp; omega), List.getElem?_eq_none (by simp; omega)]
          have hrow2 : Row 23 1 [(g, .cells cur2 23 (0, 0))] (.slice (some ⟨g, 0, none⟩) i k) (l.filter fun x => !d x).length (u32s (l.filter fun x => !d x)) := by
            rw [hflen]
            exact ⟨by rw [u32s_length, hflen]; omega, .inr ⟨g, k, cur2, rfl, rfl, by omega, h3, by omega, by rw [Nat.mul_one]; exact htk2⟩⟩
          rw [← HP.out]
          exact ⟨_, _, rfl, hrow2, hok.setRow cur2, hsame.setRow _ _⟩

end Go.Proofs.YtdllibalmjadhaaGreat
