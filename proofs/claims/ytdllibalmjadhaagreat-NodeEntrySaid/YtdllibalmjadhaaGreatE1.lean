/- From what a walk leaves to what the row asks: where nothing that was there has changed. Plain tools on worlds: lists of blocks that a world holds, each block once. Searching a rising row of numbers: slices.BinarySearch at uint32. -/
import Derived.Below
import Derived.ChangeSame
import Derived.WalkKit
import Derived.Deep.QuietTactic
import Derived.BigQuiet
import Derived.WalkLawsBesides
import Derived.WalkSpells
import Derived.Test.YtdllibalmjadhaaGreatProg

namespace Go.Proofs.YtdllibalmjadhaaGreat
open Go Go.RowKit Go.WideShapes Go.ChangeShapes

section
variable {H : Type} {enc : TypeId × Value → H} {P : Program}
theorem post_below {f : Func} {s : ChangeSpec} {apart fresh handsOn again : Bool} {W W' : World} {args : Array Value} {v : Value} {ds gs : List (DataW H)} {before pa pv : List MemPlace}
    (hW : DataW.Whole enc P f.params.toList s.vars apart W args.toList ds gs before)
    (hres : ∀ (b : Nat) (sp : Nat → Bool) (hd : Bool), DataW.TrodAll enc P W' b sp hd f.resultTypes.toList (v.resultList f.resultTypes.size) (s.fn H (ds ++ gs)).results [])
    (hargs : ∀ sp : Nat → Bool, (∀ p ∈ before, sp p.block = true) → DataW.TrodAll enc P W' 0 sp true f.params.toList args.toList (s.fn H (ds ++ gs)).args pa)
    (hvars : ∀ sp : Nat → Bool, (∀ p ∈ before, sp p.block = true) → DataW.TrodVars enc P W' sp s.vars (s.fn H (ds ++ gs)).vars pv)
    (hps : before = pa ++ pv) (hb : Below W.heap.size W W')
    (hok : ∀ (j : Nat) (t : TypeId) (r : Value), f.resultTypes[j]? = some t → (v.resultList f.resultTypes.size)[j]? = some r → Value.okWide P W' .any 0 t r) :
    s.post enc P f apart fresh handsOn again W args v W' := by
  have hlt : ∀ p ∈ before, p.block < W.heap.size := fun p hp => hW.lt p hp
  have hold : ∀ p ∈ before, (fun b => decide (b < W.heap.size)) p.block = true := fun p hp => by simpa using hlt p hp
  refine ⟨ds, gs, before, [], pa, pv, hW, hres _ _ _, hargs _ hold, hvars _ hold, World.keptBut_mono (fun p hp => ⟨hp, ?_⟩) (hb.frame (· ∈ before)), fun _ => ?_⟩
  · have hq := hp
    rw [hps, List.mem_append] at hq
    exact Or.inr hq
  · obtain ⟨_, _, _, _, _, hz, hn⟩ := hW
    refine ⟨hok, _, _, ([] ++ pa) ++ pv, ⟨[] ++ pa, pv, trodAll_append (hargs _ (fun _ _ => rfl)) (hres _ _ _), hvars _ (fun _ _ => rfl), rfl, ?_, ?_⟩, ?_⟩
    · intro b off hp
      have hin : MemPlace.cell b off ∈ before := by rw [hps]; simpa using hp
      exact (hb.frozen (hlt _ hin)).trans (hz b off hin)
    · intro ha
      simpa [hps] using hn ha
    · exact fun p hp _ => by rw [hps]; simpa using hp
end
end Go.Proofs.YtdllibalmjadhaaGreat

namespace Go.Proofs.YtdllibalmjadhaaGreat
open Go Go.RowKit

theorem hid {p : Prop} (h : p) : Hid p := h

/-- Blocks of a heap, by number. -/
abbrev Chunk := List (Nat × Obj)

/-- The world holds these blocks; no block stands twice. -/
structure Ok (w : World) (c : Chunk) : Prop where
  nd : (c.map Prod.fst).Nodup
  own : ∀ b o, (b, o) ∈ c → w.heap[b]? = some o

/-- The streams are as they were. -/
structure Same (w w' : World) : Prop where
  os : w'.os = w.os
  tape : w'.tape = w.tape
  output : w'.output = w.output

theorem Same.refl (w : World) : Same w w := ⟨rfl, rfl, rfl⟩
theorem Same.trans {a b c : World} (h : Same a b) (k : Same b c) : Same a c := ⟨k.os.trans h.os, k.tape.trans h.tape, k.output.trans h.output⟩
theorem Same.alloc {a w : World} (h : Same a w) (o : Obj) : Same a (w.alloc o) := ⟨h.os, h.tape, h.output⟩
theorem Same.drewN {a w : World} (h : Same a w) (n : Nat) : Same a (w.drewN n) := ⟨h.os, h.tape, h.output⟩
theorem Same.drew {a w : World} (h : Same a w) : Same a w.drew := ⟨h.os, h.tape, h.output⟩
theorem Same.setCell {a w : World} (h : Same a w) (p : Addr) (v : Value) : Same a (w.setCell p v) := ⟨h.os, h.tape, h.output⟩
theorem Same.below {B : Nat} {a w w' : World} (h : Same a w) (k : Below B w w') : Same a w' := h.trans ⟨k.os, k.tape, k.output⟩

theorem Ok.nil (w : World) : Ok w [] := ⟨by simp, by simp⟩
theorem Ok.get {w : World} {c : Chunk} (h : Ok w c) {b : Nat} {o : Obj} (hb : (b, o) ∈ c) : w.heap[b]? = some o := h.own b o hb
theorem Ok.lt {w : World} {c : Chunk} (h : Ok w c) {b : Nat} {o : Obj} (hb : (b, o) ∈ c) : b < w.heap.size := (Array.getElem?_eq_some_iff.1 (h.own b o hb)).1
theorem Ok.lt' {w : World} {c : Chunk} (h : Ok w c) {b : Nat} (hb : b ∈ c.map Prod.fst) : b < w.heap.size := by
  obtain ⟨⟨b', o⟩, hm, rfl⟩ := List.mem_map.1 hb
  exact h.lt hm
theorem Ok.perm {w : World} {c c' : Chunk} (h : Ok w c) (p : c.Perm c') : Ok w c' :=
  ⟨(p.map Prod.fst).nodup_iff.1 h.nd, fun b o hb => h.own b o (p.mem_iff.2 hb)⟩
theorem Ok.sublist {w : World} {c c' : Chunk} (h : Ok w c) (p : c'.Sublist c) : Ok w c' :=
  ⟨h.nd.sublist (p.map Prod.fst), fun b o hb => h.own b o (p.subset hb)⟩
theorem Ok.right {w : World} {a b : Chunk} (h : Ok w (a ++ b)) : Ok w b := h.sublist (List.sublist_append_right a b)
theorem Ok.left {w : World} {a b : Chunk} (h : Ok w (a ++ b)) : Ok w a := h.sublist (List.sublist_append_left a b)
theorem Ok.tail {w : World} {x : Nat × Obj} {b : Chunk} (h : Ok w (x :: b)) : Ok w b := h.sublist (List.sublist_cons_self x b)
theorem Ok.ofHeap {w w' : World} {c : Chunk} (h : Ok w c) (k : ∀ b o, (b, o) ∈ c → w'.heap[b]? = w.heap[b]?) : Ok w' c :=
  ⟨h.nd, fun b o hb => (k b o hb).trans (h.own b o hb)⟩
theorem Ok.below {w w' : World} {c : Chunk} (h : Ok w c) (k : Below w.heap.size w w') : Ok w' c := h.ofHeap fun _ _ hb => k.block _ (h.lt hb)
theorem Ok.drewN {w : World} {c : Chunk} (h : Ok w c) (n : Nat) : Ok (w.drewN n) c := ⟨h.nd, h.own⟩
theorem Ok.drew {w : World} {c : Chunk} (h : Ok w c) : Ok w.drew c := ⟨h.nd, h.own⟩
theorem Ok.keep {w : World} {c : Chunk} (h : Ok w c) (o : Obj) : Ok (w.alloc o) c := h.ofHeap fun _ _ hb => Below.heap_alloc _ _ _ (h.lt hb)
theorem Ok.alloc {w : World} {c : Chunk} (h : Ok w c) (o : Obj) : Ok (w.alloc o) ((w.heap.size, o) :: c) := by
  refine ⟨?_, ?_⟩
  · refine List.nodup_cons.2 ⟨fun hm => ?_, h.nd⟩
    exact absurd (h.lt' hm) (Nat.lt_irrefl _)
  · intro b o' hm
    rcases List.mem_cons.1 hm with he | hm
    · obtain ⟨rfl, rfl⟩ := Prod.mk.inj he
      show (w.heap.push _)[w.heap.size]? = some _
      simp
    · exact (h.keep o).own b o' hm
theorem Ok.setCell {w : World} {c : Chunk} {b : Nat} {cs : Array Value} {T : TypeId} {fz : Nat × Nat} (h : Ok w ((b, .cells cs T fz) :: c)) (i : Nat) (v : Value) :
    Ok (w.setCell ⟨b, i, none⟩ v) ((b, .cells (cs.setIfInBounds i v) T fz) :: c) := by
  have hnd := h.nd
  simp only [List.map_cons, List.nodup_cons] at hnd
  refine ⟨by simpa using hnd, ?_⟩
  intro b' o hm
  rcases List.mem_cons.1 hm with he | hm
  · obtain ⟨rfl, rfl⟩ := Prod.mk.inj he
    have := h.get (List.mem_cons_self ..)
    simp only [World.setCell, Array.getElem?_modify, this]
    simp
  · have hb : b' ≠ b := fun e => hnd.1 (List.mem_map.2 ⟨(b', o), hm, e⟩)
    rw [Below.heap_setCell _ _ _ _ hb]
    exact h.get (List.mem_cons_of_mem _ hm)
theorem Ok.ne {w : World} {c : Chunk} {b b' : Nat} {o : Obj} (h : Ok w ((b, o) :: c)) (hb : b' ∈ c.map Prod.fst) : b' ≠ b := by
  have hnd := h.nd
  simp only [List.map_cons, List.nodup_cons] at hnd
  exact fun e => hnd.1 (e ▸ hb)

theorem add_none (b off j : Nat) : (⟨b, off, none⟩ : Addr).add j = ⟨b, off + j, none⟩ := by cases j <;> simp [Addr.add]
theorem cell_lt {w : World} {a : Addr} {v : Value} (h : w.cell? a = some v) : a.block < w.heap.size := by
  unfold World.cell? at h
  rcases Nat.lt_or_ge a.block w.heap.size with h' | h'
  · exact h'
  · rw [Array.getElem?_eq_none h'] at h; cases h
/-- A cell that was there reads as it did. -/
theorem stays {w w' : World} (hb : Below w.heap.size w w') {a : Addr} {v : Value} (h : w.cell? a = some v) : w'.cell? a = some v := (hb.cell (cell_lt h)).trans h
theorem drewN_below (w : World) (n : Nat) : Below w.heap.size w (w.drewN n) := ⟨rfl, rfl, rfl, Nat.le_refl _, fun _ _ => rfl⟩
theorem alloc_below (w : World) (o : Obj) : Below w.heap.size w (w.alloc o) := (Below.refl _ _).alloc (Nat.le_refl _) _
theorem below_trans {a b c : World} (h : Below a.heap.size a b) (k : Below b.heap.size b c) : Below a.heap.size a c := h.trans (k.mono h.size)
theorem Ok.cell {w : World} {c : Chunk} (h : Ok w c) {b : Nat} {cs : Array Value} {T : TypeId} {fz : Nat × Nat} (hb : (b, .cells cs T fz) ∈ c) (i : Nat) : w.cell? ⟨b, i, none⟩ = cs[i]? := by
  simp [World.cell?, h.get hb]
theorem Ok.frozen {w : World} {c : Chunk} (h : Ok w c) {b : Nat} {cs : Array Value} {T : TypeId} (hb : (b, .cells cs T (0, 0)) ∈ c) (i : Nat) : w.frozen? ⟨b, i, none⟩ = false := by
  simp [World.frozen?, h.get hb]

/-- A block that is no row of cells, set anew. -/
def setBlk (w : World) (b : Nat) (o : Obj) : World := { w with heap := w.heap.setIfInBounds b o }
theorem setBlk_other (w : World) {b k : Nat} (o : Obj) (h : k ≠ b) : (setBlk w b o).heap[k]? = w.heap[k]? := by
  show (w.heap.setIfInBounds b o)[k]? = _
  rw [Array.getElem?_setIfInBounds_ne (Ne.symm h)]
theorem Same.setBlk {a w : World} (h : Same a w) (b : Nat) (o : Obj) : Same a (setBlk w b o) := ⟨h.os, h.tape, h.output⟩
theorem Ok.setBlk {w : World} {c : Chunk} {b : Nat} {o : Obj} (h : Ok w ((b, o) :: c)) (o' : Obj) : Ok (setBlk w b o') ((b, o') :: c) := by
  have hnd := h.nd
  simp only [List.map_cons, List.nodup_cons] at hnd
  refine ⟨by simpa using hnd, ?_⟩
  have hlt := h.lt (List.mem_cons_self ..)
  intro b' o'' hm
  rcases List.mem_cons.1 hm with he | hm
  · obtain ⟨rfl, rfl⟩ := Prod.mk.inj he
    show (w.heap.setIfInBounds _ _)[_]? = some _
    simp [hlt]
  · have hb : b' ≠ b := fun e => hnd.1 (List.mem_map.2 ⟨(b', o''), hm, e⟩)
    have := h.get (List.mem_cons_of_mem _ hm)
    show (w.heap.setIfInBounds b o')[b']? = some o''
    rw [Array.getElem?_setIfInBounds_ne (Ne.symm hb)]
    exact this
/-- What a world holds, whole. -/
def allOf (w : World) : Chunk := (List.range w.heap.size).map fun b => (b, w.heap.getD b default)
theorem Ok.all (w : World) : Ok w (allOf w) := by
  refine ⟨?_, ?_⟩
  · have : (allOf w).map Prod.fst = List.range w.heap.size := by simp [allOf, Function.comp_def]
    rw [this]; exact List.nodup_range
  · intro b o hm
    simp only [allOf, List.mem_map, List.mem_range, Prod.mk.injEq] at hm
    obtain ⟨b', hb, rfl, rfl⟩ := hm
    simp [Array.getD, hb]
theorem mem_allOf {w : World} {b : Nat} {o : Obj} (h : w.heap[b]? = some o) : (b, o) ∈ allOf w := by
  obtain ⟨hb, he⟩ := Array.getElem?_eq_some_iff.1 h
  simp only [allOf, List.mem_map, List.mem_range]
  exact ⟨b, hb, by simp [Array.getD, hb, he]⟩
theorem Ok.toBelow {w w' : World} (h : Ok w' (allOf w)) (s : Same w w') : Below w.heap.size w w' := by
  have hk : ∀ k, k < w.heap.size → w'.heap[k]? = w.heap[k]? := by
    intro k hk
    have : w.heap[k]? = some w.heap[k] := Array.getElem?_eq_getElem hk
    rw [this]; exact h.get (mem_allOf this)
  refine ⟨s.os, s.tape, s.output, ?_, hk⟩
  rcases Nat.eq_zero_or_pos w.heap.size with h0 | h0
  · omega
  · have h1 := hk (w.heap.size - 1) (by omega)
    rw [Array.getElem?_eq_getElem (show w.heap.size - 1 < w.heap.size by omega)] at h1
    have := (Array.getElem?_eq_some_iff.1 h1).1
    omega

/-- w' is w and these new blocks. -/
structure Fresh (w w' : World) (c : Chunk) : Prop where
  ok : Ok w' (c ++ allOf w)
  same : Same w w'
theorem Fresh.below {w w' : World} {c : Chunk} (h : Fresh w w' c) : Below w.heap.size w w' := h.ok.right.toBelow h.same
theorem Fresh.new {w w' : World} {c : Chunk} (h : Fresh w w' c) {b : Nat} (hb : b ∈ c.map Prod.fst) : w.heap.size ≤ b := by
  rcases Nat.lt_or_ge b w.heap.size with h' | h'
  · exfalso
    have hnd := h.ok.nd
    rw [List.map_append, List.nodup_append] at hnd
    have hm : b ∈ (allOf w).map Prod.fst := by
      have : (allOf w).map Prod.fst = List.range w.heap.size := by simp [allOf, Function.comp_def]
      rw [this]; exact List.mem_range.2 h'
    exact hnd.2.2 b hb b hm rfl
  · exact h'
theorem Fresh.frame {w w' : World} {c fr : Chunk} (h : Fresh w w' c) (hf : Ok w fr) : Ok w' (c ++ fr) := by
  refine ⟨?_, fun b o hb => ?_⟩
  · rw [List.map_append, List.nodup_append]
    refine ⟨h.ok.left.nd, hf.nd, fun a ha b hb e => ?_⟩
    subst e
    have := h.new ha
    have := hf.lt' hb
    omega
  · rcases List.mem_append.1 hb with hb | hb
    · exact h.ok.get (List.mem_append_left _ hb)
    · rw [h.below.block b (hf.lt hb)]; exact hf.get hb
theorem Fresh.refl (w : World) : Fresh w w [] := ⟨Ok.all w, Same.refl w⟩
theorem Fresh.of {w w' : World} {c : Chunk} (hok : Ok w' c) (hb : Below w.heap.size w w') (hn : ∀ b ∈ c.map Prod.fst, w.heap.size ≤ b) : Fresh w w' c := by
  refine ⟨⟨?_, fun b o hm => ?_⟩, hb.os, hb.tape, hb.output⟩
  · have ha := Ok.all w
    rw [List.map_append, List.nodup_append]
    refine ⟨hok.nd, ha.nd, fun a h1 b h2 e => ?_⟩
    subst e
    have := hn _ h1
    have := ha.lt' h2
    omega
  · rcases List.mem_append.1 hm with hm | hm
    · exact hok.get hm
    · have ha := Ok.all w
      rw [hb.block b (ha.lt hm)]; exact ha.get hm
theorem Fresh.from {w w0 w1 : World} {c : Chunk} (hb : Below w.heap.size w w0) (h : Fresh w0 w1 c) : Fresh w w1 c :=
  Fresh.of h.ok.left (below_trans hb h.below) (fun _ hb' => Nat.le_trans hb.size (h.new hb'))
theorem Fresh.on {w w1 w2 : World} {c : Chunk} (h : Fresh w w1 c) (hb : Below w1.heap.size w1 w2) : Fresh w w2 c :=
  Fresh.of (h.ok.left.below hb) (below_trans h.below hb) (fun _ hb' => h.new hb')
theorem Fresh.alloc {w w1 : World} {c : Chunk} (h : Fresh w w1 c) (o : Obj) : Fresh w (w1.alloc o) c := h.on (alloc_below _ _)
theorem Fresh.push {w w1 : World} {c : Chunk} (h : Fresh w w1 c) (o : Obj) : Fresh w (w1.alloc o) ((w1.heap.size, o) :: c) :=
  ⟨(h.ok.alloc o), ⟨h.same.os, h.same.tape, h.same.output⟩⟩
theorem Fresh.drewN {w w1 : World} {c : Chunk} (h : Fresh w w1 c) (n : Nat) : Fresh w (w1.drewN n) c := h.on (drewN_below _ _)
theorem Fresh.set {w w1 : World} {c : Chunk} (h : Fresh w w1 c) {p : Addr} (hp : w.heap.size ≤ p.block) (hn : p.block ∉ c.map Prod.fst) (v : Value) : Fresh w (w1.setCell p v) c :=
  Fresh.of (h.ok.left.ofHeap fun _ _ hb => Below.heap_setCell _ _ _ _ (fun e => hn (e ▸ List.mem_map.2 ⟨_, hb, rfl⟩))) (h.below.setCell hp v) (fun _ hb => h.new hb)
theorem Fresh.not {w w1 : World} {c : Chunk} (h : Fresh w w1 c) {b : Nat} (hb : b < w.heap.size) : b ∉ c.map Prod.fst := fun hm => by
  have := h.new hm
  omega
theorem Fresh.trans {w w1 w2 : World} {c1 c2 : Chunk} (h : Fresh w w1 c1) (k : Fresh w1 w2 c2) : Fresh w w2 (c2 ++ c1) := by
  have hc := k.frame h.ok.left
  exact Fresh.of hc (below_trans h.below k.below) (fun b hb => by
    rw [List.map_append, List.mem_append] at hb
    rcases hb with hb | hb
    · exact Nat.le_trans h.below.size (k.new hb)
    · exact h.new hb)
theorem Fresh.sub {w w1 : World} {c c' : Chunk} (h : Fresh w w1 c) (hs : c'.Sublist c) : Fresh w w1 c' :=
  Fresh.of (h.ok.left.sublist hs) h.below (fun _ hb => h.new ((hs.map Prod.fst).subset hb))

theorem Ok.cnt {w : World} {c c' : Chunk} (h : Ok w c) (hm : ∀ x, x ∈ c' → x ∈ c) (hn : ∀ b, (c'.map Prod.fst).count b ≤ (c.map Prod.fst).count b) : Ok w c' :=
  ⟨List.nodup_iff_count.2 fun b => Nat.le_trans (hn b) (List.nodup_iff_count.1 h.nd b), fun b o hb => h.own b o (hm _ hb)⟩
theorem Ok.re {w : World} {c c' : Chunk} (h : Ok w c) (hm : ∀ x, x ∈ c' → x ∈ c) (hn : (c.map Prod.fst).Nodup → (c'.map Prod.fst).Nodup) : Ok w c' := ⟨hn h.nd, fun b o hb => h.own b o (hm _ hb)⟩
example {w : World} {a b c d : Chunk} (h : Ok w (a ++ (b ++ (c ++ d)))) : Ok w (c ++ (a ++ (d ++ b))) := h.re (by grind) (by simp only [List.map_append]; grind)
theorem Ok.swap {w : World} {a b c : Chunk} (h : Ok w (a ++ (b ++ c))) : Ok w (b ++ (a ++ c)) := h.perm (List.perm_append_comm_assoc ..)

theorem cellOf {w : World} {b : Nat} {cs : Array Value} {T : TypeId} {fz : Nat × Nat} (h : w.heap[b]? = some (.cells cs T fz)) (i : Nat) : w.cell? ⟨b, i, none⟩ = cs[i]? := by simp [World.cell?, h]
theorem frozenOf {w : World} {b : Nat} {cs : Array Value} {T : TypeId} (h : w.heap[b]? = some (.cells cs T (0, 0))) (i : Nat) : w.frozen? ⟨b, i, none⟩ = false := by simp [World.frozen?, h]
theorem heap1 (w : World) (a : Obj) : (w.alloc a).heap[w.heap.size]? = some a := by
  show (w.heap.push a)[w.heap.size]? = _
  simp
theorem heap2 (w : World) (a b : Obj) : ((w.alloc a).alloc b).heap[w.heap.size]? = some a := by
  rw [Below.heap_alloc _ _ _ (by simp)]; exact heap1 w a
theorem heap2' (w : World) (a b : Obj) : ((w.alloc a).alloc b).heap[w.heap.size + 1]? = some b := by
  have := heap1 (w.alloc a) b
  simpa using this
theorem heap3 (w : World) (a b c : Obj) : (((w.alloc a).alloc b).alloc c).heap[w.heap.size]? = some a := by
  rw [Below.heap_alloc _ _ _ (by simp; omega)]; exact heap2 w a b
theorem heap3' (w : World) (a b c : Obj) : (((w.alloc a).alloc b).alloc c).heap[w.heap.size + 1]? = some b := by
  rw [Below.heap_alloc _ _ _ (by simp)]; exact heap2' w a b
theorem heap3'' (w : World) (a b c : Obj) : (((w.alloc a).alloc b).alloc c).heap[w.heap.size + 2]? = some c := by
  have := heap1 ((w.alloc a).alloc b) c
  simpa using this
/-- A block that was there is there. -/
theorem holds {w w' : World} (hb : Below w.heap.size w w') {b : Nat} {o : Obj} (h : w.heap[b]? = some o) : w'.heap[b]? = some o := by
  rw [hb.block b (Array.getElem?_eq_some_iff.1 h).1]; exact h
end Go.Proofs.YtdllibalmjadhaaGreat

namespace Go.Proofs.YtdllibalmjadhaaGreat
open Go Go.RowKit

theorem less_any (x y : Int) (w : World) : Calls Tryz.prog 73 #[.int .u32 x, .int .u32 y] w fun e w' => e = .returned (.bool (decide (x < y))) ∧ w = w' := by
  go_enter Tryz.func73, Tryz.ntmps73
  go_wp2
  all_goals (go_ret; exact ⟨by simp, rfl⟩)

theorem nan_any (x : Int) (w : World) : Calls Tryz.prog 74 #[.int .u32 x] w fun e w' => e = .returned (.bool false) ∧ w = w' := by
  go_enter Tryz.func74, Tryz.ntmps74
  go_wp2
  all_goals (go_ret; exact ⟨by simp, rfl⟩)

/-- The row of cells at a is these numbers. -/
def IsU32s (w : World) (a : Addr) (l : List Nat) : Prop := a.spot = none ∧ ∀ (i x : Nat), l[i]? = some x → w.cell? ⟨a.block, a.off + i, none⟩ = some (.int .u32 (x : Int))

/-- How many of a rising list are less. -/
def lb (l : List Nat) (v : Nat) : Nat := (l.takeWhile fun x => decide (x < v)).length

theorem lb_eq (l : List Nat) (v a : Nat) (ha : a ≤ l.length) (h1 : ∀ (k x : Nat), k < a → l[k]? = some x → x < v) (h2 : ∀ (k x : Nat), a ≤ k → l[k]? = some x → v ≤ x) : lb l v = a := by
  unfold lb
  induction l generalizing a with
  | nil => simp at ha ⊢; omega
  | cons y l ih =>
    cases a with
    | zero =>
      have := h2 0 y (Nat.le_refl _) (by simp)
      simp [List.takeWhile_cons]; omega
    | succ a =>
      have h0 := h1 0 y (by omega) (by simp)
      rw [List.takeWhile_cons, if_pos (by simpa using h0), List.length_cons, ih a (by simpa using ha)]
      · intro k x hk hx; exact h1 (k + 1) x (by omega) (by simpa using hx)
      · intro k x hk hx; exact h2 (k + 1) x (by omega) (by simpa using hx)

/-- What a round of the search knows. -/
def Between (l : List Nat) (v a b : Nat) : Prop := a ≤ b ∧ b ≤ l.length ∧ (∀ (k x : Nat), k < a → l[k]? = some x → x < v) ∧ (∀ (k x : Nat), b ≤ k → l[k]? = some x → v ≤ x)

theorem Between.up {l : List Nat} {v a b h x : Nat} (hs : l.Pairwise (· < ·)) (hb : Between l v a b) (h1 : a ≤ h) (h2 : h < b) (hx : l[h]? = some x) (hlt : x < v) : Between l v (h + 1) b := by
  obtain ⟨_, q, r, s⟩ := hb
  refine ⟨by omega, q, ?_, s⟩
  intro k y hk hy
  by_cases e : k = h
  · subst e; rw [hx] at hy; cases hy; exact hlt
  · have hkl : k < l.length := (List.getElem?_eq_some_iff.1 hy).1
    have hhl : h < l.length := by omega
    have := List.pairwise_iff_getElem.1 hs k h hkl hhl (by omega)
    have e1 := (List.getElem?_eq_some_iff.1 hy).2
    have e2 := (List.getElem?_eq_some_iff.1 hx).2
    omega
theorem Between.down {l : List Nat} {v a b h x : Nat} (hs : l.Pairwise (· < ·)) (hb : Between l v a b) (h1 : a ≤ h) (h2 : h < b) (hx : l[h]? = some x) (hlt : ¬ x < v) : Between l v a h := by
  obtain ⟨_, q, r, s⟩ := hb
  refine ⟨h1, by omega, r, ?_⟩
  intro k y hk hy
  by_cases e : k = h
  · subst e; rw [hx] at hy; cases hy; omega
  · have hkl : k < l.length := (List.getElem?_eq_some_iff.1 hy).1
    have hhl : h < l.length := by omega
    have := List.pairwise_iff_getElem.1 hs h k hhl hkl (by omega)
    have e1 := (List.getElem?_eq_some_iff.1 hy).2
    have e2 := (List.getElem?_eq_some_iff.1 hx).2
    omega

theorem Between.no {l : List Nat} {v a b x : Nat} (hs : l.Pairwise (· < ·)) (hb : Between l v a b) (hba : ¬ a < b) (hx : l[a]? = some x) (hne : ¬ x = v) : v ∉ l := by
  intro hm
  obtain ⟨k, hk, e⟩ := List.mem_iff_getElem.1 hm
  obtain ⟨hab, hbl, r, s⟩ := hb
  by_cases hka : k < a
  · have := r k v hka (by rw [List.getElem?_eq_getElem hk, e])
    omega
  · have hvx := s a x (by omega) hx
    have hal := (List.getElem?_eq_some_iff.1 hx).1
    have e2 := (List.getElem?_eq_some_iff.1 hx).2
    by_cases hk2 : k = a
    · subst hk2; omega
    · have := List.pairwise_iff_getElem.1 hs a k hal hk (by omega)
      omega

set_option maxHeartbeats 400000 in
theorem search_any (ab ao : Nat) (l : List Nat) (c v : Nat) (w : World) (hl : l.length < 1073741824) (hs : l.Pairwise (· < ·)) (hc : ∀ (i x : Nat), l[i]? = some x → w.cell? ⟨ab, ao + i, none⟩ = some (.int .u32 (x : Int))) :
    Calls Tryz.prog 35 #[.slice (some ⟨ab, ao, none⟩) l.length c, .int .u32 v] w fun e w' => e = .returned (.tuple #[.int .i64 (lb l v : Nat), .bool (decide (v ∈ l))]) ∧ ∃ q, w.drewN q = w' := by
  have HC := hid hc
  clear hc
  generalize hn : l.length = n at *
  have hnn : n < 1073741824 := hl
  have HN := hid hn
  clear hn
  go_enter Tryz.func35, Tryz.ntmps35
  go_wp2_with (fail)
  go_loop [7, 8] (fun i j => ∃ a b : Nat, i = .int .i64 a ∧ j = .int .i64 b ∧ b ≤ n ∧ Between l v a b) (fun i j => (intOf j - intOf i).toNat)
  case atStart => exact ⟨0, n, rfl, rfl, Nat.le_refl _, by omega, by have := HN.out; omega, fun k x hk => by omega, fun k x hk hx => by have := (List.getElem?_eq_some_iff.1 hx).1; have := HN.out; omega⟩
  case round =>
    obtain ⟨i, j, rfl, rfl, hjn, hB⟩ := hrel
    by_cases hij : i < j
    · obtain ⟨x, hx⟩ : ∃ x, l[(i + j) / 2]? = some x := ⟨_, List.getElem?_eq_getElem (by have := HN.out; omega)⟩
      have hxc := HC.out _ _ hx
      have hm1 : i ≤ (i + j) / 2 := by omega
      have hm2 : (i + j) / 2 < j := by omega
      by_cases hlt : x < v
      · have HB := hid (hB.up hs hm1 hm2 hx hlt)
        clear hB hx
        go_wp2_with (go_at_call 73; refine (less_any _ _ _).mono ?_; rintro e w' ⟨rfl, rfl⟩)
        go_round
        case rel => exact ⟨(i + j) / 2 + 1, j, by go_num, rfl, hjn, HB.out⟩
        case measure => simp [intOf]; omega
      · have HB := hid (hB.down hs hm1 hm2 hx hlt)
        clear hB hx
        go_wp2_with (go_at_call 73; refine (less_any _ _ _).mono ?_; rintro e w' ⟨rfl, rfl⟩)
        go_round
        case rel => exact ⟨i, (i + j) / 2, rfl, by go_num, Nat.le_of_lt (Nat.lt_of_lt_of_le hm2 hjn), HB.out⟩
        case measure => simp [intOf]; omega
    · have hlb : lb l v = i := lb_eq l v i (by have := HN.out; have := hB.1; omega) hB.2.2.1 (fun k x hk hx => hB.2.2.2 k x (by omega) hx)
      have hfin : ∀ b : Bool, (v ∈ l ↔ b = true) → Ending.returned (.tuple #[.int .i64 i, .bool b]) = .returned (.tuple #[.int .i64 (lb l v : Nat), .bool (decide (v ∈ l))]) := by
        intro b hb
        rw [hlb]
        have : decide (v ∈ l) = b := by cases b <;> simp_all
        rw [this]
      have HF := hid hfin
      have HL := hid hlb
      by_cases hin : i < n
      · obtain ⟨x, hx⟩ : ∃ x, l[i]? = some x := ⟨_, List.getElem?_eq_getElem (by have := HN.out; omega)⟩
        have hxc := HC.out _ _ hx
        have HB := hid hB
        have HX := hid hx
        clear hB hlb hx hfin
        by_cases hv : x = v
        · subst hv
          go_wp2_with (go_at_call 74; refine (nan_any _ _).mono ?_; rintro e w' ⟨rfl, rfl⟩)
          go_ret2
          exact ⟨HF.out true (by simpa using List.mem_of_getElem? HX.out), 0, rfl⟩
        · have hv' : ((x : Int) == (v : Int)) = false := by simp; omega
          go_wp2_with (go_at_call 74; refine (nan_any _ _).mono ?_; rintro e w' ⟨rfl, rfl⟩)
          go_ret2
          exact ⟨HF.out false (by simpa using HB.out.no hs hij HX.out hv), 0, rfl⟩
      · have hno : v ∉ l := by
          intro hm
          obtain ⟨k, hk, e⟩ := List.mem_iff_getElem.1 hm
          have := hB.2.2.1 k v (by have := HN.out; have := hB.1; omega) (by rw [List.getElem?_eq_getElem hk, e])
          omega
        have HO := hid hno
        clear hno hB hlb hfin
        go_wp2_with (fail)
        go_ret2
        exact ⟨HF.out false (by simpa using HO.out), 0, rfl⟩

/-- Of nil there is nothing to search. -/
theorem search_nil (v : Nat) (w : World) : Calls Tryz.prog 35 #[.slice none 0 0, .int .u32 v] w fun e w' => e = .returned (.tuple #[.int .i64 (lb [] v : Nat), .bool (decide (v ∈ ([] : List Nat)))]) ∧ ∃ q, w.drewN q = w' := by
  go_enter Tryz.func35, Tryz.ntmps35
  go_wp2_with (fail)
  refine wp_loop_once ?_
  go_wp2_with (fail)
  go_ret2
  exact ⟨by simp [lb], 0, rfl⟩
end Go.Proofs.YtdllibalmjadhaaGreat
