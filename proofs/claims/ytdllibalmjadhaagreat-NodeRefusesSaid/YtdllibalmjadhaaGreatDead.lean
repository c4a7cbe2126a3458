/- A hub's nodes that crashed. -/
import Derived.Test.YtdllibalmjadhaaGreatHub1
namespace Go.Proofs.YtdllibalmjadhaaGreat
open Go Go.RowKit

/-- Where a node lies, if it is alive. -/
theorem alive_bool (F c fr : Chunk) (hb : Nat) (H : HubS) (p : Nat) (w : World) (hok : Ok w (c ++ fr)) (h : IsHub F c hb H) : Calls Tryz.prog 48 #[.pointer (some ⟨hb, 0, none⟩), .int .u32 p] w fun en w' =>
    w = w' ∧ ((H.lives p = true ∧ ∃ xb, en = .returned (.pointer (some ⟨xb, 0, none⟩))) ∨ (H.lives p = false ∧ en = .returned (.pointer none))) := by
  obtain ⟨rb, mb, arr, clk, l, cr, cn, h⟩ := h
  have hat := h.at hok
  by_cases hp : p ∈ H.pts
  · obtain ⟨xb, x, c1, y, hg, e2, ⟨sb, db, cs, cd, e3, _⟩, _⟩ := h.split hp
    have hd : w.cell? ⟨xb, 0, none⟩ = some (.bool (H.dead p)) := by
      have h1 := h.chunk
      subst h1; subst e2; subst e3
      exact cellOf (hok.get (b := xb) (o := .cells #[.bool (H.dead p), .int .i64 0, .pointer (some ⟨sb, 0, none⟩), .pointer (some ⟨db, 0, none⟩)] 127 (0, 0)) (by simp)) 0
    refine (alive_some hb p xb (H.dead p) l w hat hg hd).mono ?_
    rintro en w' ⟨rfl, rfl⟩
    refine ⟨rfl, ?_⟩
    cases hdd : H.dead p with
    | false => exact .inl ⟨by simp [HubS.lives, hp, hdd], xb, by simp⟩
    | true => exact .inr ⟨by simp [HubS.lives, hdd], by simp⟩
  · refine (alive_none hb p l w hat (h.out hp)).mono ?_
    rintro en w' ⟨rfl, rfl⟩
    exact ⟨rfl, .inr ⟨by simp [HubS.lives, hp], rfl⟩⟩

def HubS.deads (H : HubS) (l : List Nat) : List Nat := l.filter fun p => !H.lives p
theorem HubS.deads_step (H : HubS) (l : List Nat) (i p : Nat) (h : l[i]? = some p) : H.deads (l.take (i + 1)) = if H.lives p then H.deads (l.take i) else H.deads (l.take i) ++ [p] := by
  have : l.take (i + 1) = l.take i ++ [p] := by rw [List.take_add_one, h]; rfl
  rw [this]
  simp only [HubS.deads, List.filter_append, List.filter_cons, List.filter_nil]
  cases H.lives p <;> simp
theorem HubS.deads_length (H : HubS) (l : List Nat) : (H.deads l).length ≤ l.length := List.length_filter_le ..

/-- A row of points, read. -/
theorem ReadsU.cell {w : World} {a : Option Addr} {n cap : Nat} {l : List Nat} (h : ReadsU w (.slice a n cap) l) : n = l.length ∧ ∀ i x, l[i]? = some x → ∃ b off, a = some ⟨b, off, none⟩ ∧ w.cell? ⟨b, off + i, none⟩ = some (.int .u32 (x : Nat)) := by
  rcases h with ⟨hv, hl⟩ | ⟨b, off, cap', hv, _, hc⟩
  · subst hl
    cases hv
    exact ⟨rfl, fun i x hx => by simp at hx⟩
  · cases hv
    exact ⟨rfl, fun i x hx => ⟨b, off, rfl, hc i x hx⟩⟩

set_option maxHeartbeats 1000000 in
set_option maxRecDepth 100000 in
theorem dead_any (F c fr : Chunk) (hb : Nat) (H : HubS) (w : World) (hok : Ok w (c ++ fr)) (h : IsHub F c hb H) : Calls Tryz.prog 24 #[.pointer (some ⟨hb, 0, none⟩)] w fun en w' =>
    ∃ v cv, en = .returned v ∧ Row 23 1 cv v (H.deads H.pts).length (u32s (H.deads H.pts)) ∧ Fresh w w' cv := by
  obtain ⟨i, hi, hz0, hz1, hz2⟩ := info_parts info_u32
  have HI := hid (And.intro hi (And.intro hz0 (And.intro hz1 hz2)))
  clear hi hz0 hz1 hz2
  have hlive : ∀ (w' : World) (p : Nat), Below w.heap.size w w' → Calls Tryz.prog 48 #[.pointer (some ⟨hb, 0, none⟩), .int .u32 p] w' fun en w'' => w' = w'' ∧ ((H.lives p = true ∧ ∃ xb, en = .returned (.pointer (some ⟨xb, 0, none⟩))) ∨ (H.lives p = false ∧ en = .returned (.pointer none))) :=
    fun w' p hb' => alive_bool F c fr hb H p w' (hok.below hb') h
  obtain ⟨rb, mb, arr, clk, l, cr, cn, h⟩ := h
  have h1 : w.cell? ⟨hb, 1, none⟩ = some (.pointer (some ⟨rb, 0, none⟩)) := cellOf (h.get hok) 1
  have HP := hid (points_any rb H.pts w _ (Ok.all w) (h.ringAt hok) h.ok)
  have hle := h.ok.le
  have HL := hid hlive
  clear hlive hok h
  generalize H.pts = pts at *
  go_enter Tryz.func24, Tryz.ntmps24
  go_wp2_with (go_at_call 17; refine HP.out.mono ?_; rintro en w1 ⟨v, cp, rfl, hrow, ho, hs, hbl⟩; obtain ⟨a, cap, rfl⟩ := hrow.slice)
  clear h1
  go_loopw [3, 14] (fun v q wr => ∃ (k : Nat) (c : Chunk), q = .int .i64 k ∧ k ≤ pts.length ∧ Row 23 1 c v (H.deads (pts.take k)).length (u32s (H.deads (pts.take k))) ∧ Fresh w wr (c ++ cp))
    (fun _ q _ => pts.length - (match q with | .int _ m => m.toNat | _ => 0))
  case atStart => exact ⟨0, [], rfl, Nat.zero_le _, Row.nil _ _, ⟨ho, hs⟩⟩
  case round =>
    obtain ⟨k, c, rfl, hk, hrow', hfr⟩ := hrel
    have hrd : ReadsU wr (.slice a pts.length cap) pts := hrow.reads (fr := []) (hfr.ok.sublist (by simp))
    have hok1 : Ok wr (c ++ (cp ++ allOf w)) := by simpa using hfr.ok
    obtain ⟨a1, cap1, rfl⟩ := hrow'.slice
    rcases Nat.lt_or_ge k pts.length with hlt | hge
    · obtain ⟨x, hx⟩ : ∃ x, pts[k]? = some x := ⟨pts[k], List.getElem?_eq_getElem hlt⟩
      obtain ⟨b, off, rfl, hcell⟩ := hrd.cell.2 k x hx
      have hstep := H.deads_step pts k x hx
      have hdl := H.deads_length (pts.take k)
      rw [List.length_take, Nat.min_eq_left hk] at hdl
      have hl1 := HL.out wr x hfr.below
      have hwk : IntKind.i64.wrap ((k : Int) + 1) = (k : Int) + 1 := IntWalk.i64_in _ (by omega)
      have hd1 : decide ((k : Int) < (pts.length : Int)) = true := by simpa using hlt
      have hd2 : decide (k < pts.length) = true := by simpa using hlt
      have HX := hid (And.intro hx (And.intro hrow' (And.intro hfr (And.intro hok1 (And.intro hrd hrow)))))
      clear hx hrow' hfr hok1 hrd hrow hk
      cases hv : H.lives x with
      | true =>
        rw [hv] at hl1 hstep
        have HA := hid hl1
        have HS := hid hstep
        clear hl1 hstep
        go_wp2_with (go_at_call 48; refine HA.out.mono ?_; rintro en w2 ⟨rfl, ⟨_, xb, rfl⟩ | ⟨h, _⟩⟩)
        go_roundw
        case rel =>
          obtain ⟨hx, hrow', hfr, _⟩ := HX.out
          refine ⟨k + 1, c, rfl, hlt, ?_, hfr⟩
          have e : H.deads (pts.take (k + 1)) = H.deads (pts.take k) := by simpa using HS.out
          rw [e]; exact hrow'
        case measure => simp; omega
      | false =>
        rw [hv] at hl1 hstep
        have HA := hid hl1
        obtain ⟨hx, hrow', hfr, hok1, hrd, hrow⟩ := HX.out
        obtain ⟨hi, hz0, hz1, hz2⟩ := HI.out
        generalize hacc : H.deads (pts.take k) = acc at *
        obtain ⟨v', w2, c', hap, hrow2, hfr', hs', hg, hnil⟩ := row_append (P := Tryz.prog) (w := wr.alloc (.cells #[.int .u32 x] 23)) (hok1.keep _) hrow' 22 22 i (.int .u32 0) 4 Tryz.underlying22 hi hz0 hz1 hz2 rfl (by decide)
          ⟨wr.heap.size, 0, none⟩ 1 1 [.int .u32 x] rfl (cell_one_new _ _ _) (by simp [Value.oneCell']) (by unfold maxLen; omega) (by omega)
        have hfr2 : Fresh w w2 (c' ++ cp) := ⟨by simpa using hfr', (hfr.same.alloc _).trans hs'⟩
        have HAP := hid hap
        have hrow3 : Row 23 1 c' v' (H.deads (pts.take (k + 1))).length (u32s (H.deads (pts.take (k + 1)))) := by
          have e : H.deads (pts.take (k + 1)) = acc ++ [x] := by simpa using hstep
          rw [e]; simpa [u32s] using hrow2
        have HR := hid (And.intro hrow3 hfr2)
        clear hl1 hstep hap hrow2 hrow3 hfr' hs' hg hnil hfr2 hi hz0 hz1 hz2 hx hrow' hfr hok1 hrd hrow
        go_wp2_with (first | (go_at_call 48; refine HA.out.mono ?_; rintro en w3 ⟨rfl, ⟨h, _⟩ | ⟨_, rfl⟩⟩) | (at_builtin; refine wpList_app rfl _ _ _ _ rfl rfl rfl HAP.out ?_))
        go_roundw
        case rel => exact ⟨k + 1, c', rfl, hlt, HR.out.1, HR.out.2⟩
        case measure => simp; omega
    · have hkk : k = pts.length := by omega
      subst hkk
      rw [List.take_length] at *
      have hd1 : decide ((pts.length : Int) < (pts.length : Int)) = false := by simp
      have hd2 : decide (pts.length < pts.length) = false := by simp
      have HX := hid (And.intro hrow' (And.intro hfr (And.intro hok1 (And.intro hrd hrow))))
      clear hrow' hfr hok1 hrd hrow
      go_wp2
      go_ret
      exact ⟨_, c, rfl, HX.out.1, HX.out.2.1.sub (by simp)⟩
end Go.Proofs.YtdllibalmjadhaaGreat
