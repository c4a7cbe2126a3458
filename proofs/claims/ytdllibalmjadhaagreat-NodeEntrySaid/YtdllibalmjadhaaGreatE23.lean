/- Whom a point knows far off: one at most. -/
import Derived.Test.YtdllibalmjadhaaGreatE18
import Derived.Test.YtdllibalmjadhaaGreatE22

namespace Go.Proofs.YtdllibalmjadhaaGreat
open Go Go.RowKit

def IsU32 (u : Value) : Prop := ∃ f : Nat, u = .int .u32 f ∧ f < 4294967296
def IsOwn (u : Value) : Prop := ∃ o : Nat, u = .tuple #[.int .u32 o, .bool true] ∧ o < 4294967296
def LinksPost (w : World) (fr : Chunk) (db n : Nat) (en : Ending) (w' : World) : Prop := ∃ v cv l s', en = .returned v ∧ Row 23 1 cv v l.length (u32s l) ∧ l.length ≤ n ∧ (∀ x ∈ l, x < 4294967296) ∧ Ok w' ((db, diceObj s') :: (cv ++ fr)) ∧ Same w w'

set_option maxHeartbeats 2000000 in
set_option maxRecDepth 100000 in
theorem linksOf_any (cR fr : Chunk) (db s rb p n : Nat) (pts : List Nat) (hn : n ≤ 1) (w : World) (hok : Ok w ((db, diceObj s) :: (cR ++ fr))) (hring : IsRing cR rb pts) (hrok : RingOk pts) (hp : p ∈ pts) :
    Calls Tryz.prog 69 #[.pointer (some ⟨rb, 0, none⟩), .int .u32 p, .int .i64 n, .pointer (some ⟨db, 0, none⟩)] w (LinksPost w (cR ++ fr) db n) := by
  have hne : pts ≠ [] := fun e => by rw [e] at hp; cases hp
  have hrat : ∀ (s : Nat) (rest : Chunk) (w' : World), Ok w' ((db, diceObj s) :: (rest ++ (cR ++ fr))) → RingAt w' rb pts := fun s rest w' h => hring.at (fr := rest ++ fr) (h.tail.cnt (by intro x hx; simp at hx ⊢; try grind) (by intro b; simp; try (first | omega | (simp [List.count_cons]; omega))))
  have hdp : decide (p ∈ pts) = true := by simpa using hp
  have hbox := heap1 w (.cells #[.int .u32 p] 23)
  have hok0 : Ok (w.alloc (.cells #[.int .u32 p] 23)) ((db, diceObj s) :: ([(w.heap.size, .cells #[.int .u32 p] 23 (0, 0))] ++ (cR ++ fr))) := (hok.alloc _).cnt (by intro x hx; simp at hx ⊢; try grind) (by intro b; simp; try (first | omega | (simp [List.count_cons]; omega)))
  have hs0 : Same w (w.alloc (.cells #[.int .u32 p] 23)) := (Same.refl w).alloc _
  have HH := hid fun w' (hb' : Below (w.alloc (.cells #[.int .u32 p] 23)).heap.size (w.alloc (.cells #[.int .u32 p] 23)) w') => by
    have := rhas_any rb p pts w' (hrat s _ w' (hok0.below hb')) hrok; rw [hdp] at this; exact this
  have HNx := hid fun w' (hb' : Below (w.alloc (.cells #[.int .u32 p] 23)).heap.size (w.alloc (.cells #[.int .u32 p] 23)) w') => next_some rb p pts w' (hrat s _ w' (hok0.below hb')) hrok hne
  have hmm : min (n : Int) 6 = n := by omega
  generalize hpost : LinksPost w (cR ++ fr) db n = post
  have HP := hid hpost
  clear hpost hok
  go_enter Tryz.func69, Tryz.ntmps69
  go_wp2_with (fail)
  generalize hw0 : w.alloc (.cells #[.int .u32 p] 23) = w0 at *
  generalize w.heap.size = pb at *
  have c0 : w0.cell? ⟨pb, 0, none⟩ = some (.int .u32 p) := cellOf hbox 0
  clear hw0
  go_wp2_with (first | (go_at_call 54; refine (HH.out _ (Below.refl _ _)).mono ?_; rintro en w1 ⟨rfl, hb1⟩; have c1 : w1.cell? ⟨pb, 0, none⟩ = some (.int .u32 p) := cellOf (holds hb1 hbox) 0) | (go_at_call 41; refine (HNx.out _ hb1).mono ?_; rintro en w2 ⟨rfl, hb2⟩; have hb12 := below_trans hb1 hb2))
  have hok2 := hok0.below hb12
  have hs2 := hs0.below hb12
  clear c0 c1 hb1 hb2 hb12 hok0 hs0 hbox HH HNx hdp
  generalize nextOf pts p = q at *
  go_loopw [11, 27] (fun v k wr => ∃ (j : Nat) (cv : Chunk) (l : List Nat) (s' : Nat), k = .int .i64 j ∧ j ≤ n ∧ Row 23 1 cv v l.length (u32s l) ∧ l.length ≤ j ∧ (∀ x ∈ l, x < 4294967296) ∧ Ok wr ((db, diceObj s') :: (cv ++ ([(pb, .cells #[.int .u32 p] 23 (0, 0))] ++ (cR ++ fr)))) ∧ Same w wr)
    (fun _ k _ => n - (match k with | .int _ m => m.toNat | _ => 0))
  case atStart => exact ⟨0, [], [], s, rfl, Nat.zero_le _, Row.nil _ _, Nat.zero_le _, by simp, hok2, hs2⟩
  case round =>
    clear hok2 hs2
    obtain ⟨j, cv, l, s', rfl, hj, hrow, hl, hlt, hok, hsame⟩ := hrel
    rcases Nat.lt_or_ge j n with hjn | hjn
    · have hwk : IntKind.i64.wrap ((j : Int) + 1) = (j : Int) + 1 := IntWalk.i64_in _ (by omega)
      have hd1 : decide ((j : Int) < (n : Int)) = true := by simpa using hjn
      have hd2 : decide (j < n) = true := by simpa using hjn
      obtain ⟨av, kv, rfl⟩ := hrow.slice
      go_wp2_with (fail)
      refine wp_region_y [3, 5] (fun w' => ∃ s', Ok w' ((db, diceObj s') :: (cv ++ ([(pb, .cells #[.int .u32 p] 23 (0, 0))] ++ (cR ++ fr)))) ∧ Same w w') (by kernel_rfl) (by kernel_rfl) ⟨s', hok.drew, hsame.drew⟩ ?_
      intro E _ hE hI
      have b1 : ∀ w' : InD E, w'.val.cell? ⟨pb, 0, none⟩ = some (.int .u32 p) := fun w' => by
        obtain ⟨s'', h1, _⟩ := hE w'
        exact cellOf (h1.get (b := pb) (o := .cells #[.int .u32 p] 23 (0, 0)) (by simp)) 0
      repeat (refine wpX_step (fun K hK => ?_); go_simp; refine hK _ _ ?_; clear hK K)
      refine wpX_step (fun K hK => ?_); go_simp
      refine ⟨fun u w' => IsU32 u ∧ E w', ?_, fun u w h => h.2, ?_⟩
      · refine (linksFar_any _ db s' _ hok.drew).mono ?_
        rintro en w3 ⟨v, s3, rfl, hv, ho3, hs3⟩
        exact ⟨_, rfl, ⟨v, rfl, hv⟩, hI _ ⟨s3, ho3, (hsame.drew).trans hs3⟩⟩
      rintro u y ⟨⟨f, rfl, hf⟩, _⟩
      refine hK _ _ ?_; clear hK K
      repeat (refine wpX_step (fun K hK => ?_); go_simp; refine hK _ _ ?_; clear hK K)
      refine wpX_step (fun K hK => ?_); go_simp
      refine ⟨fun u w' => IsOwn u ∧ E w', fun w' _ hw' => ?_, fun u w h => h.2, ?_⟩
      · have e : IntKind.u32.wrap ((p : Int) + (f : Int)) = (((p + f) % 4294967296 : Nat) : Int) := by
          have h0 : IntKind.u32.wrap ((p : Int) + (f : Int)) = ((p : Int) + (f : Int)) % 4294967296 := rfl
          rw [h0]; omega
        rw [e]
        obtain ⟨s3, ho3, hs3⟩ := hE ⟨w', hw'⟩
        refine (owner_some rb _ pts w' (hrat s3 (cv ++ [(pb, .cells #[.int .u32 p] 23 (0, 0))]) w' (by rw [List.append_assoc]; exact ho3)) hrok hne).mono ?_
        rintro en w4 ⟨rfl, hb4⟩
        exact ⟨_, rfl, ⟨_, rfl, hrok.lt _ (ownerOf_mem hne _)⟩, hI _ ⟨s3, ho3.below hb4, hs3.below hb4⟩⟩
      rintro u y ⟨⟨o, rfl, ho⟩, _⟩
      refine hK _ _ ?_; clear hK K
      repeat (refine wpX_step (fun K hK => ?_); go_simp; refine hK _ _ ?_; clear hK K)
      refine wpX_nil ?_
      rintro w5 hw5'
      have hw5 : E w5 := by first | exact hw5' | exact hw5'.2
      obtain ⟨s5, hok5, hs5⟩ := hE ⟨w5, hw5⟩
      have hok5' : Ok w5 ((db, diceObj s5) :: (cv ++ ([(pb, .cells #[.int .u32 p] 23 (0, 0))] ++ (cR ++ fr)))) := hok5
      have hs5' : Same w w5 := hs5
      have c5 : w5.cell? ⟨pb, 0, none⟩ = some (.int .u32 p) := cellOf (hok5'.get (b := pb) (o := .cells #[.int .u32 p] 23 (0, 0)) (by simp)) 0
      clear b1 hI hE hok5 hs5
      by_cases h1 : o = p
      · have g1 : ((o : Int) != (p : Int)) = false := by simp [h1]
        go_wp2
        go_roundw
        case rel => exact ⟨j + 1, cv, l, s5, rfl, hjn, hrow, by omega, hlt, hok5', hs5'⟩
        case measure => simp; omega
      · have g1 : ((o : Int) != (p : Int)) = true := by simp; omega
        by_cases h2 : o = q
        · have g2 : ((o : Int) != (q : Int)) = false := by simp [h2]
          go_wp2
          go_roundw
          case rel => exact ⟨j + 1, cv, l, s5, rfl, hjn, hrow, by omega, hlt, hok5', hs5'⟩
          case measure => simp; omega
        · have g2 : ((o : Int) != (q : Int)) = true := by simp; omega
          obtain ⟨i, hi, hz0, hz1, hz2⟩ := info_parts info_u32
          obtain ⟨v', w6, cv', hap, hrow6, ok6, s6, _, _⟩ := row_append (P := Tryz.prog) (w := w5.alloc (.cells #[.int .u32 o] 23)) (c := cv) (fr := (db, diceObj s5) :: ([(pb, .cells #[.int .u32 p] 23 (0, 0))] ++ (cR ++ fr))) ((hok5'.keep _).cnt (by intro x hx; simp at hx ⊢; try grind) (by intro b; simp; try (first | omega | (simp [List.count_cons]; omega)))) hrow 22 22 i (.int .u32 0) 4 Tryz.underlying22 hi hz0 hz1 hz2 rfl (by decide) ⟨w5.heap.size, 0, none⟩ 1 1 [.int .u32 o] rfl (cell_one_new _ _ _) (by simp [Value.oneCell']) (by unfold maxLen; omega) (by omega)
          have hrow6' : Row 23 1 cv' v' (l ++ [o]).length (u32s (l ++ [o])) := by
            have e : u32s (l ++ [o]) = u32s l ++ [.int .u32 o] := by simp [u32s]
            rw [e, List.length_append]; exact hrow6
          have ok6' : Ok w6 ((db, diceObj s5) :: (cv' ++ ([(pb, .cells #[.int .u32 p] 23 (0, 0))] ++ (cR ++ fr)))) := ok6.cnt (by intro x hx; simp at hx ⊢; try grind) (by intro b; simp; try (first | omega | (simp [List.count_cons]; omega)))
          have HX := hid (And.intro hrow6' (And.intro ok6' ((hs5'.alloc _).trans s6)))
          have hlo : ∀ x ∈ l ++ [o], x < 4294967296 := fun x hx => by
            rcases List.mem_append.1 hx with hx | hx
            · exact hlt x hx
            · simp at hx; omega
          clear hrow6 hrow6' ok6 ok6' s6 hok5' hs5' hi hz0 hz1 hz2 hrow hok hsame
          go_wp2_with (at_builtin; refine wpList_app rfl _ _ _ _ rfl rfl rfl hap ?_)
          go_roundw
          case rel => exact ⟨j + 1, cv', l ++ [o], s5, rfl, hjn, HX.out.1, by simp; omega, hlo, HX.out.2.1, HX.out.2.2⟩
          case measure => simp; omega
    · obtain rfl : j = n := by omega
      have hd1 : decide ((j : Int) < (j : Int)) = false := by simp
      obtain ⟨av, kv, rfl⟩ := hrow.slice
      have HF := hid (show LinksPost w (cR ++ fr) db j (.returned (.slice av l.length kv)) wr from ⟨_, cv, l, s', rfl, hrow, hl, hlt, hok.sublist (List.Sublist.cons_cons _ (List.Sublist.append_left (List.sublist_append_right _ _) _)), hsame⟩)
      rw [HP.out] at HF
      have HSo := hid fun f => sortU_small av f l.length kv (by omega) wr
      have HCo := hid (compactU_small av l.length kv (by omega) wr)
      clear hrow hlt hok hsame
      go_wp2_with (first | (go_at_call 115; refine (HSo.out _).mono ?_; rintro en w3 ⟨rfl, rfl⟩) | (go_at_call 118; refine HCo.out.mono ?_; rintro en w4 ⟨rfl, rfl⟩))
      exact HF.out
end Go.Proofs.YtdllibalmjadhaaGreat
