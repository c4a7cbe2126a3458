/- Shadows: a shelf is laid for an owner. -/
import Derived.Test.YtdllibalmjadhaaGreatDead
namespace Go.Proofs.YtdllibalmjadhaaGreat
open Go Go.RowKit

theorem shelfJoin_nil (s : Value) (w : World) : Calls Tryz.prog 58 #[s, .slice none 0 0] w fun en w' => en = .returned (.int .i64 0) ∧ w = w' := by
  go_enter Tryz.func58, Tryz.ntmps58
  go_wp2
  refine wp_loop_once ?_
  go_wp2
  go_ret
  exact ⟨rfl, rfl⟩

/-- What set leaves: the map, with one key more, or another value. -/
def SetPost (w : World) (fr : Chunk) (db p : Nat) (v : Value) (mb : Nat) (l : List (Nat × Value)) (en : Ending) (w' : World) : Prop := ∃ arr' clk', en = .returned (.tuple #[]) ∧ IsMap encName (mput l p v) arr' clk' ∧
  Ok w' ((db, .cells #[.map (some mb)] 184 (0, 0)) :: (mb, .map arr' clk') :: fr) ∧ Same w w'
set_option maxRecDepth 100000 in
theorem shadowset_any (w : World) (fr : Chunk) (db mb p sb : Nat) (l : List (Nat × Value)) (arr : Array MapEntry) (clk : Nat) (hok : Ok w ((db, .cells #[.map (some mb)] 184 (0, 0)) :: (mb, .map arr clk) :: fr)) (hm : IsMap encName l arr clk) :
    Calls Tryz.prog 144 #[.pointer (some ⟨db, 0, none⟩), .int .u32 p, .pointer (some ⟨sb, 0, none⟩)] w (SetPost w fr db p (.pointer (some ⟨sb, 0, none⟩)) mb l) := by
  have hnil : ∀ w' : World, (binOp .eql 182 (.map (some mb)) (.map none)).run Tryz.prog w' = .ok (.bool false) w' := fun w' => run_eql_map_nil (P := Tryz.prog) w' _ _ _ _ Tryz.underlying182
  have h0 : w.cell? ⟨db, 0, none⟩ = some (.map (some mb)) := cellOf (hok.get (b := db) (o := .cells #[.map (some mb)] 184 (0, 0)) (by simp)) 0
  obtain ⟨es', clk', hm', hup⟩ := run_update (P := Tryz.prog) ownerLaw Tryz.underlying182 (hok.get (b := mb) (o := .map arr clk) (by simp)) hm p (.pointer (some ⟨sb, 0, none⟩))
  simp only [encName] at hup
  have hok1 : Ok w ((mb, .map arr clk) :: (db, .cells #[.map (some mb)] 184 (0, 0)) :: fr) := hok.perm (List.Perm.swap ..)
  have hok2 := (hok1.setBlk (.map es' clk')).perm (List.Perm.swap ..)
  have HP := hid (show SetPost w fr db p (.pointer (some ⟨sb, 0, none⟩)) mb l (.returned (.tuple #[])) (setBlk w mb (.map es' clk')) from ⟨es', clk', rfl, hm', hok2, (Same.refl w).setBlk _ _⟩)
  generalize SetPost w fr db p (.pointer (some ⟨sb, 0, none⟩)) mb l = post at *
  clear hok hok1 hok2 hm hm'
  go_enter Tryz.func144, Tryz.ntmps144
  go_wp2
  first | exact done_ret Tryz.results144 HP.out rfl | exact done_norm Tryz.results144 HP.out rfl

/-- A shadow without entries keeps to be one. -/
def ShadowPost (w : World) (fr : Chunk) (db : Nat) (f : Nat → List Ent) (en : Ending) (w' : World) : Prop := ∃ c', en = .returned (.tuple #[]) ∧ IsShadow [] c' db f ∧ Ok w' (c' ++ fr) ∧ Same w w'
set_option maxRecDepth 100000 in
theorem shadowSet_empty (w : World) (c fr : Chunk) (db p : Nat) (hok : Ok w (c ++ fr)) (h : IsShadow [] c db fun _ => []) :
    Calls Tryz.prog 107 #[.pointer (some ⟨db, 0, none⟩), .int .u32 p, .slice none 0 0] w (ShadowPost w fr db fun _ => []) := by
  obtain ⟨mb, l, arr, clk, cx, rfl, hm, he, _⟩ := h
  have step : ∀ w1 sb cs, IsShelf [] cs sb [] → Fresh w w1 cs → Calls Tryz.prog 144 #[.pointer (some ⟨db, 0, none⟩), .int .u32 p, .pointer (some ⟨sb, 0, none⟩)] w1 (ShadowPost w fr db fun _ => []) := by
    intro w1 sb cs hs hf
    have ho1 : Ok w1 ((db, .cells #[.map (some mb)] 184 (0, 0)) :: (mb, .map arr clk) :: (cs ++ (cx ++ fr))) := (hf.frame hok).cnt (by intro x hx; simp at hx ⊢; try grind) (by intro b; simp; try (first | omega | (simp [List.count_cons]; omega)))
    refine (shadowset_any w1 (cs ++ (cx ++ fr)) db mb p sb l arr clk ho1 hm).mono ?_
    rintro en w2 ⟨arr', clk', rfl, hm', ho2, hs2⟩
    cases hg : mget l p with
    | none =>
      have hn := mget_none.1 hg
      refine ⟨(db, .cells #[.map (some mb)] 184 (0, 0)) :: (mb, .map arr' clk') :: (cx ++ cs), rfl, ⟨mb, _, arr', clk', cx ++ cs, rfl, hm', Each.push hs hn he, fun _ _ => rfl⟩, ?_, hf.same.trans hs2⟩
      exact ho2.cnt (by intro x hx; simp at hx ⊢; try grind) (by intro b; simp; try (first | omega | (simp [List.count_cons]; omega)))
    | some v =>
      obtain ⟨b0, x, c1, y, e1, e2, e3, e4⟩ := he.split hm.nd hg
      subst e2
      refine ⟨(db, .cells #[.map (some mb)] 184 (0, 0)) :: (mb, .map arr' clk') :: (x ++ (cs ++ y)), rfl, ⟨mb, _, arr', clk', x ++ (cs ++ y), rfl, hm', e4 _ sb cs (fun q _ _ b c h => h) hs, fun _ _ => rfl⟩, ?_, hf.same.trans hs2⟩
      exact ho2.cnt (by intro x hx; simp at hx ⊢; try grind) (by intro b; simp; try (first | omega | (simp [List.count_cons]; omega)))
  have step2 : ∀ w1 sb cs, IsShelf [] cs sb [] → Fresh w w1 cs → Calls Tryz.prog 144 #[.pointer (some ⟨db, 0, none⟩), .int .u32 p, .pointer (some ⟨sb, 0, none⟩)] w1 fun en w' => en = .returned (.tuple #[]) ∧ ShadowPost w fr db (fun _ => []) (.returned (.tuple #[])) w' :=
    fun w1 sb cs h1 h2 => (step w1 sb cs h1 h2).mono fun en w' ⟨c', he, h⟩ => ⟨he, c', rfl, h⟩
  have HP := hid step2
  clear step step2 hm he hok
  generalize ShadowPost w fr db (fun _ => []) = post at *
  go_enter Tryz.func107, Tryz.ntmps107
  go_wp2_with (first | (go_at_call 102; refine (shelfNew_any w).mono ?_; rintro en w1 ⟨sb, cs, rfl, hs, h1⟩) | (go_at_call 58; refine (shelfJoin_nil _ _).mono ?_; rintro en w2 ⟨rfl, rfl⟩) | (go_at_call 144; refine (HP.out _ _ _ hs h1).mono ?_; rintro en w3 ⟨rfl, hp3⟩))
  first | exact done_ret Tryz.results107 hp3 rfl | exact done_norm Tryz.results107 hp3 rfl
end Go.Proofs.YtdllibalmjadhaaGreat
