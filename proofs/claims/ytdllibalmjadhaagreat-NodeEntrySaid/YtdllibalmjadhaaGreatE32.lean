/- Arguments, as they read: slices of numbers; what was read reads as it did. -/
import Derived.Test.YtdllibalmjadhaaGreatE1
import Derived.Test.YtdllibalmjadhaaGreatE31
import Derived.ProofKit
import Derived.OpenShut

namespace Go.Proofs.YtdllibalmjadhaaGreat
open Go Go.RowKit Go.WideShapes Go.ChangeShapes

theorem cells_u32 : Tryz.prog.cellsOf 23 = 1 := by kernel_rfl
theorem cells_int : Tryz.prog.cellsOf 3 = 1 := by kernel_rfl
theorem laidOut_any : laidOutB Tryz.prog = true := by kernel_rfl

section
variable {H : Type} {enc : TypeId × Value → H}
theorem open_u32s {W : World} {a : Option Addr} {n c : Nat} {d : DataW H} {ps : List MemPlace} (h : DataW.Trod enc Tryz.prog W 0 (fun _ => true) true 22 (.slice a n c) d ps) : ∃ l : List Nat, n = l.length ∧ (∀ x ∈ l, x < 4294967296) ∧ ReadsL u32v W a l := by
  obtain ⟨fuel, hf⟩ := h
  rcases open_ints Tryz.underlying22 Tryz.underlying23 cells_u32 hf with ⟨hcs, _⟩ | ⟨a', len, cap, zs, hcs, _, hl, _, hz, _, hcell, hwf⟩
  · simp only [Value.cells, List.cons.injEq, Value.slice.injEq, and_true] at hcs
    obtain ⟨rfl, rfl, rfl⟩ := hcs
    exact ⟨[], rfl, by simp, fun i x hx => by simp at hx⟩
  · simp only [Value.cells, List.cons.injEq, Value.slice.injEq, and_true] at hcs
    obtain ⟨rfl, rfl, rfl⟩ := hcs
    simp only [if_true] at hz
    have hw : ∀ z ∈ zs, 0 ≤ z ∧ z ≤ 4294967295 := fun z hzm => by
      have := hwf z hzm
      simp [Lit.wf] at this
      exact this
    refine ⟨(zs.take n).map Int.toNat, by simp; omega, fun x hx => ?_, fun i x hx => ?_⟩
    · obtain ⟨z, hzm, rfl⟩ := List.mem_map.1 hx
      have := hw z (List.mem_of_mem_take hzm)
      omega
    · have hi : i < n := by
        have := (List.getElem?_eq_some_iff.1 hx).1
        simp at this; omega
      obtain ⟨b, off, rfl, hc⟩ := ints_at hcell (by omega)
      refine ⟨b, off, rfl, ?_⟩
      rw [hc i (by omega)]
      have hzi : i < zs.length := by omega
      have e1 : zs.getD i 0 = zs[i] := by simp [List.getD, hzi]
      rw [List.getElem?_map, List.getElem?_take_of_lt hi, List.getElem?_eq_getElem hzi] at hx
      simp only [Option.map_some, Option.some.injEq] at hx
      have h0 := hw zs[i] (List.getElem_mem hzi)
      have e2 : zs[i] = (x : Int) := by omega
      rw [e1, e2]; rfl
theorem open_i64s {W : World} {a : Option Addr} {n c : Nat} {d : DataW H} {ps : List MemPlace} (h : DataW.Trod enc Tryz.prog W 0 (fun _ => true) true 24 (.slice a n c) d ps) : ∃ l : List Int, n = l.length ∧ ReadsL (Value.int .i64) W a l := by
  obtain ⟨fuel, hf⟩ := h
  rcases open_ints Tryz.underlying24 Tryz.underlying3 cells_int hf with ⟨hcs, _⟩ | ⟨a', len, cap, zs, hcs, _, hl, _, hz, _, hcell, hwf⟩
  · simp only [Value.cells, List.cons.injEq, Value.slice.injEq, and_true] at hcs
    obtain ⟨rfl, rfl, rfl⟩ := hcs
    exact ⟨[], rfl, fun i x hx => by simp at hx⟩
  · simp only [Value.cells, List.cons.injEq, Value.slice.injEq, and_true] at hcs
    obtain ⟨rfl, rfl, rfl⟩ := hcs
    simp only [if_true] at hz
    refine ⟨zs.take n, by simp; omega, fun i x hx => ?_⟩
    have hi : i < n := by
      have := (List.getElem?_eq_some_iff.1 hx).1
      simp at this; omega
    obtain ⟨b, off, rfl, hc⟩ := ints_at hcell (by omega)
    refine ⟨b, off, rfl, ?_⟩
    rw [hc i (by omega)]
    have hzi : i < zs.length := by omega
    have e1 : zs.getD i 0 = zs[i] := by simp [List.getD, hzi]
    rw [List.getElem?_take_of_lt hi, List.getElem?_eq_getElem hzi] at hx
    rw [e1]; exact congrArg (fun z => some (Value.int .i64 z)) (Option.some.inj hx)

/-- What was read reads as it did. -/
theorem trodAll_stay {P : Program} (hl : laidOutB P = true) {W W' : World} (hb : Below W.heap.size W W') (sp : Nat → Bool) (ts : List TypeId) : ∀ {vs : List Value} {ds : List (DataW H)} {ps : List MemPlace}, DataW.TrodAll enc P W 0 (fun _ => true) true ts vs ds ps → (∀ t ∈ ts, P.readableRec t = true ∧ t < P.types.size) →
    (∀ x ∈ ps, x.block < W.heap.size) → (∀ x ∈ ps, sp x.block = true) → DataW.TrodAll enc P W' 0 sp true ts vs ds ps := by
  induction ts with
  | nil =>
    intro vs ds ps h _ _ _
    obtain ⟨rfl, rfl, rfl⟩ := trodAll_nil h
    exact trodAll_mk0
  | cons t ts ih =>
    intro vs ds ps h hr hlt hsp
    obtain ⟨v, vs', d, ds', p, q, rfl, rfl, rfl, h1, h2⟩ := trodAll_cons h
    have ht := hr t (List.mem_cons_self ..)
    exact trodAll_cons_mk (WideElems.Trod_stays hl ht.1 ht.2 h1 (fun x hx => hb.same (hlt x (List.mem_append_left _ hx))) (fun x hx => hsp x (List.mem_append_left _ hx)))
      (ih h2 (fun t ht => hr t (List.mem_cons_of_mem _ ht)) (fun x hx => hlt x (List.mem_append_right _ hx)) (fun x hx => hsp x (List.mem_append_right _ hx)))
end
end Go.Proofs.YtdllibalmjadhaaGreat
