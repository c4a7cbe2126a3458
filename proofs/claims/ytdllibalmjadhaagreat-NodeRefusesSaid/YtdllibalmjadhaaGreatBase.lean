/- Plain tools on worlds: lists of blocks that a world holds, each block once. -/
import Derived.WalkKit
import Derived.Deep.QuietTactic
import Derived.BigQuiet
import Derived.WalkLawsBesides
import Derived.WalkSpells
namespace Go.Proofs.YtdllibalmjadhaaGreat
open Go Go.RowKit

theorem hid {p : Prop} (h : p) : Hid p := h

/-- Blocks of a heap, by number. -/
abbrev Chunk := List (Nat × Obj)

/-- The world holds these blocks; no block stands twice. -/
structure Ok (w : World) (c : Chunk) : Prop where
  nd : (c.map Prod.fst).Nodup
  own : ∀ b o, (b, o) ∈ c → w.heap[b]? = some o

/-- The streams are as they were. -/
structure Same (w w' : World) : Prop where
  os : w'.os = w.os
  tape : w'.tape = w.tape
  output : w'.output = w.output

theorem Same.refl (w : World) : Same w w := ⟨rfl, rfl, rfl⟩
theorem Same.trans {a b c : World} (h : Same a b) (k : Same b c) : Same a c := ⟨k.os.trans h.os, k.tape.trans h.tape, k.output.trans h.output⟩
theorem Same.alloc {a w : World} (h : Same a w) (o : Obj) : Same a (w.alloc o) := ⟨h.os, h.tape, h.output⟩
theorem Same.drewN {a w : World} (h : Same a w) (n : Nat) : Same a (w.drewN n) := ⟨h.os, h.tape, h.output⟩
theorem Same.drew {a w : World} (h : Same a w) : Same a w.drew := ⟨h.os, h.tape, h.output⟩
theorem Same.setCell {a w : World} (h : Same a w) (p : Addr) (v : Value) : Same a (w.setCell p v) := ⟨h.os, h.tape, h.output⟩
theorem Same.below {B : Nat} {a w w' : World} (h : Same a w) (k : Below B w w') : Same a w' := h.trans ⟨k.os, k.tape, k.output⟩

theorem Ok.nil (w : World) : Ok w [] := ⟨by simp, by simp⟩
theorem Ok.get {w : World} {c : Chunk} (h : Ok w c) {b : Nat} {o : Obj} (hb : (b, o) ∈ c) : w.heap[b]? = some o := h.own b o hb
theorem Ok.lt {w : World} {c : Chunk} (h : Ok w c) {b : Nat} {o : Obj} (hb : (b, o) ∈ c) : b < w.heap.size := (Array.getElem?_eq_some_iff.1 (h.own b o hb)).1
theorem Ok.lt' {w : World} {c : Chunk} (h : Ok w c) {b : Nat} (hb : b ∈ c.map Prod.fst) : b < w.heap.size := by
  obtain ⟨⟨b', o⟩, hm, rfl⟩ := List.mem_map.1 hb
  exact h.lt hm
theorem Ok.perm {w : World} {c c' : Chunk} (h : Ok w c) (p : c.Perm c') : Ok w c' :=
  ⟨(p.map Prod.fst).nodup_iff.1 h.nd, fun b o hb => h.own b o (p.mem_iff.2 hb)⟩
theorem Ok.sublist {w : World} {c c' : Chunk} (h : Ok w c) (p : c'.Sublist c) : Ok w c' :=
  ⟨h.nd.sublist (p.map Prod.fst), fun b o hb => h.own b o (p.subset hb)⟩
theorem Ok.right {w : World} {a b : Chunk} (h : Ok w (a ++ b)) : Ok w b := h.sublist (List.sublist_append_right a b)
theorem Ok.left {w : World} {a b : Chunk} (h : Ok w (a ++ b)) : Ok w a := h.sublist (List.sublist_append_left a b)
theorem Ok.tail {w : World} {x : Nat × Obj} {b : Chunk} (h : Ok w (x :: b)) : Ok w b := h.sublist (List.sublist_cons_self x b)
theorem Ok.ofHeap {w w' : World} {c : Chunk} (h : Ok w c) (k : ∀ b o, (b, o) ∈ c → w'.heap[b]? = w.heap[b]?) : Ok w' c :=
  ⟨h.nd, fun b o hb => (k b o hb).trans (h.own b o hb)⟩
theorem Ok.below {w w' : World} {c : Chunk} (h : Ok w c) (k : Below w.heap.size w w') : Ok w' c := h.ofHeap fun _ _ hb => k.block _ (h.lt hb)
theorem Ok.drewN {w : World} {c : Chunk} (h : Ok w c) (n : Nat) : Ok (w.drewN n) c := ⟨h.nd, h.own⟩
theorem Ok.drew {w : World} {c : Chunk} (h : Ok w c) : Ok w.drew c := ⟨h.nd, h.own⟩
theorem Ok.keep {w : World} {c : Chunk} (h : Ok w c) (o : Obj) : Ok (w.alloc o) c := h.ofHeap fun _ _ hb => Below.heap_alloc _ _ _ (h.lt hb)
theorem Ok.alloc {w : World} {c : Chunk} (h : Ok w c) (o : Obj) : Ok (w.alloc o) ((w.heap.size, o) :: c) := by
  refine ⟨?_, ?_⟩
  · refine List.nodup_cons.2 ⟨fun hm => ?_, h.nd⟩
    exact absurd (h.lt' hm) (Nat.lt_irrefl _)
  · intro b o' hm
    rcases List.mem_cons.1 hm with he | hm
    · obtain ⟨rfl, rfl⟩ := Prod.mk.inj he
      show (w.heap.push _)[w.heap.size]? = some _
      simp
    · exact (h.keep o).own b o' hm
theorem Ok.setCell {w : World} {c : Chunk} {b : Nat} {cs : Array Value} {T : TypeId} {fz : Nat × Nat} (h : Ok w ((b, .cells cs T fz) :: c)) (i : Nat) (v : Value) :
    Ok (w.setCell ⟨b, i, none⟩ v) ((b, .cells (cs.setIfInBounds i v) T fz) :: c) := by
  have hnd := h.nd
  simp only [List.map_cons, List.nodup_cons] at hnd
  refine ⟨by simpa using hnd, ?_⟩
  intro b' o hm
  rcases List.mem_cons.1 hm with he | hm
  · obtain ⟨rfl, rfl⟩ := Prod.mk.inj he
    have := h.get (List.mem_cons_self ..)
    simp only [World.setCell, Array.getElem?_modify, this]
    simp
  · have hb : b' ≠ b := fun e => hnd.1 (List.mem_map.2 ⟨(b', o), hm, e⟩)
    rw [Below.heap_setCell _ _ _ _ hb]
    exact h.get (List.mem_cons_of_mem _ hm)
theorem Ok.ne {w : World} {c : Chunk} {b b' : Nat} {o : Obj} (h : Ok w ((b, o) :: c)) (hb : b' ∈ c.map Prod.fst) : b' ≠ b := by
  have hnd := h.nd
  simp only [List.map_cons, List.nodup_cons] at hnd
  exact fun e => hnd.1 (e ▸ hb)

theorem add_none (b off j : Nat) : (⟨b, off, none⟩ : Addr).add j = ⟨b, off + j, none⟩ := by cases j <;> simp [Addr.add]
theorem cell_lt {w : World} {a : Addr} {v : Value} (h : w.cell? a = some v) : a.block < w.heap.size := by
  unfold World.cell? at h
  rcases Nat.lt_or_ge a.block w.heap.size with h' | h'
  · exact h'
  · rw [Array.getElem?_eq_none h'] at h; cases h
/-- A cell that was there reads as it did. -/
theorem stays {w w' : World} (hb : Below w.heap.size w w') {a : Addr} {v : Value} (h : w.cell? a = some v) : w'.cell? a = some v := (hb.cell (cell_lt h)).trans h
theorem drewN_below (w : World) (n : Nat) : Below w.heap.size w (w.drewN n) := ⟨rfl, rfl, rfl, Nat.le_refl _, fun _ _ => rfl⟩
theorem alloc_below (w : World) (o : Obj) : Below w.heap.size w (w.alloc o) := (Below.refl _ _).alloc (Nat.le_refl _) _
theorem below_trans {a b c : World} (h : Below a.heap.size a b) (k : Below b.heap.size b c) : Below a.heap.size a c := h.trans (k.mono h.size)
theorem Ok.cell {w : World} {c : Chunk} (h : Ok w c) {b : Nat} {cs : Array Value} {T : TypeId} {fz : Nat × Nat} (hb : (b, .cells cs T fz) ∈ c) (i : Nat) : w.cell? ⟨b, i, none⟩ = cs[i]? := by
  simp [World.cell?, h.get hb]
theorem Ok.frozen {w : World} {c : Chunk} (h : Ok w c) {b : Nat} {cs : Array Value} {T : TypeId} (hb : (b, .cells cs T (0, 0)) ∈ c) (i : Nat) : w.frozen? ⟨b, i, none⟩ = false := by
  simp [World.frozen?, h.get hb]

/-- A block that is no row of cells, set anew. -/
def setBlk (w : World) (b : Nat) (o : Obj) : World := { w with heap := w.heap.setIfInBounds b o }
theorem setBlk_other (w : World) {b k : Nat} (o : Obj) (h : k ≠ b) : (setBlk w b o).heap[k]? = w.heap[k]? := by
  show (w.heap.setIfInBounds b o)[k]? = _
  rw [Array.getElem?_setIfInBounds_ne (Ne.symm h)]
theorem Same.setBlk {a w : World} (h : Same a w) (b : Nat) (o : Obj) : Same a (setBlk w b o) := ⟨h.os, h.tape, h.output⟩
theorem Ok.setBlk {w : World} {c : Chunk} {b : Nat} {o : Obj} (h : Ok w ((b, o) :: c)) (o' : Obj) : Ok (setBlk w b o') ((b, o') :: c) := by
  have hnd := h.nd
  simp only [List.map_cons, List.nodup_cons] at hnd
  refine ⟨by simpa using hnd, ?_⟩
  have hlt := h.lt (List.mem_cons_self ..)
  intro b' o'' hm
  rcases List.mem_cons.1 hm with he | hm
  · obtain ⟨rfl, rfl⟩ := Prod.mk.inj he
    show (w.heap.setIfInBounds _ _)[_]? = some _
    simp [hlt]
  · have hb : b' ≠ b := fun e => hnd.1 (List.mem_map.2 ⟨(b', o''), hm, e⟩)
    have := h.get (List.mem_cons_of_mem _ hm)
    show (w.heap.setIfInBounds b o')[b']? = some o''
    rw [Array.getElem?_setIfInBounds_ne (Ne.symm hb)]
    exact this
/-- What a world holds, whole. -/
def allOf (w : World) : Chunk := (List.range w.heap.size).map fun b => (b, w.heap.getD b default)
theorem Ok.all (w : World) : Ok w (allOf w) := by
  refine ⟨?_, ?_⟩
  · have : (allOf w).map Prod.fst = List.range w.heap.size := by simp [allOf, Function.comp_def]
    rw [this]; exact List.nodup_range
  · intro b o hm
    simp only [allOf, List.mem_map, List.mem_range, Prod.mk.injEq] at hm
    obtain ⟨b', hb, rfl, rfl⟩ := hm
    simp [Array.getD, hb]
theorem mem_allOf {w : World} {b : Nat} {o : Obj} (h : w.heap[b]? = some o) : (b, o) ∈ allOf w := by
  obtain ⟨hb, he⟩ := Array.getElem?_eq_some_iff.1 h
  simp only [allOf, List.mem_map, List.mem_range]
  exact ⟨b, hb, by simp [Array.getD, hb, he]⟩
theorem Ok.toBelow {w w' : World} (h : Ok w' (allOf w)) (s : Same w w') : Below w.heap.size w w' := by
  have hk : ∀ k, k < w.heap.size → w'.heap[k]? = w.heap[k]? := by
    intro k hk
    have : w.heap[k]? = some w.heap[k] := Array.getElem?_eq_getElem hk
    rw [this]; exact h.get (mem_allOf this)
  refine ⟨s.os, s.tape, s.output, ?_, hk⟩
  rcases Nat.eq_zero_or_pos w.heap.size with h0 | h0
  · omega
  · have h1 := hk (w.heap.size - 1) (by omega)
    rw [Array.getElem?_eq_getElem (show w.heap.size - 1 < w.heap.size by omega)] at h1
    have := (Array.getElem?_eq_some_iff.1 h1).1
    omega

/-- w' is w and these new blocks. -/
structure Fresh (w w' : World) (c : Chunk) : Prop where
  ok : Ok w' (c ++ allOf w)
  same : Same w w'
theorem Fresh.below {w w' : World} {c : Chunk} (h : Fresh w w' c) : Below w.heap.size w w' := h.ok.right.toBelow h.same
theorem Fresh.new {w w' : World} {c : Chunk} (h : Fresh w w' c) {b : Nat} (hb : b ∈ c.map Prod.fst) : w.heap.size ≤ b := by
  rcases Nat.lt_or_ge b w.heap.size with h' | h'
  · exfalso
    have hnd := h.ok.nd
    rw [List.map_append, List.nodup_append] at hnd
    have hm : b ∈ (allOf w).map Prod.fst := by
      have : (allOf w).map Prod.fst = List.range w.heap.size := by simp [allOf, Function.comp_def]
      rw [this]; exact List.mem_range.2 h'
    exact hnd.2.2 b hb b hm rfl
  · exact h'
theorem Fresh.frame {w w' : World} {c fr : Chunk} (h : Fresh w w' c) (hf : Ok w fr) : Ok w' (c ++ fr) := by
  refine ⟨?_, fun b o hb => ?_⟩
  · rw [List.map_append, List.nodup_append]
    refine ⟨h.ok.left.nd, hf.nd, fun a ha b hb e => ?_⟩
    subst e
    have := h.new ha
    have := hf.lt' hb
    omega
  · rcases List.mem_append.1 hb with hb | hb
    · exact h.ok.get (List.mem_append_left _ hb)
    · rw [h.below.block b (hf.lt hb)]; exact hf.get hb
theorem Fresh.refl (w : World) : Fresh w w [] := ⟨Ok.all w, Same.refl w⟩
theorem Fresh.of {w w' : World} {c : Chunk} (hok : Ok w' c) (hb : Below w.heap.size w w') (hn : ∀ b ∈ c.map Prod.fst, w.heap.size ≤ b) : Fresh w w' c := by
  refine ⟨⟨?_, fun b o hm => ?_⟩, hb.os, hb.tape, hb.output⟩
  · have ha := Ok.all w
    rw [List.map_append, List.nodup_append]
    refine ⟨hok.nd, ha.nd, fun a h1 b h2 e => ?_⟩
    subst e
    have := hn _ h1
    have := ha.lt' h2
    omega
  · rcases List.mem_append.1 hm with hm | hm
    · exact hok.get hm
    · have ha := Ok.all w
      rw [hb.block b (ha.lt hm)]; exact ha.get hm
theorem Fresh.from {w w0 w1 : World} {c : Chunk} (hb : Below w.heap.size w w0) (h : Fresh w0 w1 c) : Fresh w w1 c :=
  Fresh.of h.ok.left (below_trans hb h.below) (fun _ hb' => Nat.le_trans hb.size (h.new hb'))
theorem Fresh.on {w w1 w2 : World} {c : Chunk} (h : Fresh w w1 c) (hb : Below w1.heap.size w1 w2) : Fresh w w2 c :=
  Fresh.of (h.ok.left.below hb) (below_trans h.below hb) (fun _ hb' => h.new hb')
theorem Fresh.alloc {w w1 : World} {c : Chunk} (h : Fresh w w1 c) (o : Obj) : Fresh w (w1.alloc o) c := h.on (alloc_below _ _)
theorem Fresh.push {w w1 : World} {c : Chunk} (h : Fresh w w1 c) (o : Obj) : Fresh w (w1.alloc o) ((w1.heap.size, o) :: c) :=
  ⟨(h.ok.alloc o), ⟨h.same.os, h.same.tape, h.same.output⟩⟩
theorem Fresh.drewN {w w1 : World} {c : Chunk} (h : Fresh w w1 c) (n : Nat) : Fresh w (w1.drewN n) c := h.on (drewN_below _ _)
theorem Fresh.set {w w1 : World} {c : Chunk} (h : Fresh w w1 c) {p : Addr} (hp : w.heap.size ≤ p.block) (hn : p.block ∉ c.map Prod.fst) (v : Value) : Fresh w (w1.setCell p v) c :=
  Fresh.of (h.ok.left.ofHeap fun _ _ hb => Below.heap_setCell _ _ _ _ (fun e => hn (e ▸ List.mem_map.2 ⟨_, hb, rfl⟩))) (h.below.setCell hp v) (fun _ hb => h.new hb)
theorem Fresh.not {w w1 : World} {c : Chunk} (h : Fresh w w1 c) {b : Nat} (hb : b < w.heap.size) : b ∉ c.map Prod.fst := fun hm => by
  have := h.new hm
  omega
theorem Fresh.trans {w w1 w2 : World} {c1 c2 : Chunk} (h : Fresh w w1 c1) (k : Fresh w1 w2 c2) : Fresh w w2 (c2 ++ c1) := by
  have hc := k.frame h.ok.left
  exact Fresh.of hc (below_trans h.below k.below) (fun b hb => by
    rw [List.map_append, List.mem_append] at hb
    rcases hb with hb | hb
    · exact Nat.le_trans h.below.size (k.new hb)
    · exact h.new hb)
theorem Fresh.sub {w w1 : World} {c c' : Chunk} (h : Fresh w w1 c) (hs : c'.Sublist c) : Fresh w w1 c' :=
  Fresh.of (h.ok.left.sublist hs) h.below (fun _ hb => h.new ((hs.map Prod.fst).subset hb))

theorem Ok.cnt {w : World} {c c' : Chunk} (h : Ok w c) (hm : ∀ x, x ∈ c' → x ∈ c) (hn : ∀ b, (c'.map Prod.fst).count b ≤ (c.map Prod.fst).count b) : Ok w c' :=
  ⟨List.nodup_iff_count.2 fun b => Nat.le_trans (hn b) (List.nodup_iff_count.1 h.nd b), fun b o hb => h.own b o (hm _ hb)⟩
theorem Ok.re {w : World} {c c' : Chunk} (h : Ok w c) (hm : ∀ x, x ∈ c' → x ∈ c) (hn : (c.map Prod.fst).Nodup → (c'.map Prod.fst).Nodup) : Ok w c' := ⟨hn h.nd, fun b o hb => h.own b o (hm _ hb)⟩
example {w : World} {a b c d : Chunk} (h : Ok w (a ++ (b ++ (c ++ d)))) : Ok w (c ++ (a ++ (d ++ b))) := h.re (by grind) (by simp only [List.map_append]; grind)
theorem Ok.swap {w : World} {a b c : Chunk} (h : Ok w (a ++ (b ++ c))) : Ok w (b ++ (a ++ c)) := h.perm (List.perm_append_comm_assoc ..)

theorem cellOf {w : World} {b : Nat} {cs : Array Value} {T : TypeId} {fz : Nat × Nat} (h : w.heap[b]? = some (.cells cs T fz)) (i : Nat) : w.cell? ⟨b, i, none⟩ = cs[i]? := by simp [World.cell?, h]
theorem frozenOf {w : World} {b : Nat} {cs : Array Value} {T : TypeId} (h : w.heap[b]? = some (.cells cs T (0, 0))) (i : Nat) : w.frozen? ⟨b, i, none⟩ = false := by simp [World.frozen?, h]
theorem heap1 (w : World) (a : Obj) : (w.alloc a).heap[w.heap.size]? = some a := by
  show (w.heap.push a)[w.heap.size]? = _
  simp
theorem heap2 (w : World) (a b : Obj) : ((w.alloc a).alloc b).heap[w.heap.size]? = some a := by
  rw [Below.heap_alloc _ _ _ (by simp)]; exact heap1 w a
theorem heap2' (w : World) (a b : Obj) : ((w.alloc a).alloc b).heap[w.heap.size + 1]? = some b := by
  have := heap1 (w.alloc a) b
  simpa using this
theorem heap3 (w : World) (a b c : Obj) : (((w.alloc a).alloc b).alloc c).heap[w.heap.size]? = some a := by
  rw [Below.heap_alloc _ _ _ (by simp; omega)]; exact heap2 w a b
theorem heap3' (w : World) (a b c : Obj) : (((w.alloc a).alloc b).alloc c).heap[w.heap.size + 1]? = some b := by
  rw [Below.heap_alloc _ _ _ (by simp)]; exact heap2' w a b
theorem heap3'' (w : World) (a b c : Obj) : (((w.alloc a).alloc b).alloc c).heap[w.heap.size + 2]? = some c := by
  have := heap1 ((w.alloc a).alloc b) c
  simpa using this
/-- A block that was there is there. -/
theorem holds {w w' : World} (hb : Below w.heap.size w w') {b : Nat} {o : Obj} (h : w.heap[b]? = some o) : w'.heap[b]? = some o := by
  rw [hb.block b (Array.getElem?_eq_some_iff.1 h).1]; exact h
end Go.Proofs.YtdllibalmjadhaaGreat
