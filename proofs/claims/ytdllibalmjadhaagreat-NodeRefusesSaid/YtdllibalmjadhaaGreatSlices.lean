/- Slices that own their row; what append, copy and their like do to them. -/
import Derived.Test.YtdllibalmjadhaaGreatRegions
import Derived.Maps.AppendAt
namespace Go.Proofs.YtdllibalmjadhaaGreat
open Go Go.RowKit

/-- The slice v owns the chunk c: n elements of so many cells, the cells xs. -/
def Row (e : TypeId) (size : Nat) (c : Chunk) (v : Value) (n : Nat) (xs : List Value) : Prop :=
  xs.length = n * size ∧ ((v = .slice none 0 0 ∧ n = 0 ∧ c = []) ∨
    ∃ g cap cur, v = .slice (some ⟨g, 0, none⟩) n cap ∧ c = [(g, .cells cur e (0, 0))] ∧ n ≤ cap ∧ cap ≤ maxLen ∧ cur.size = cap * size ∧ cur.toList.take (n * size) = xs)

theorem Row.nil (e : TypeId) (size : Nat) : Row e size [] (.slice none 0 0) 0 [] := ⟨by simp, .inl ⟨rfl, rfl, rfl⟩⟩
theorem Row.slice {e : TypeId} {size : Nat} {c : Chunk} {v : Value} {n : Nat} {xs : List Value} (h : Row e size c v n xs) : ∃ a cap, v = .slice a n cap := by
  rcases h.2 with ⟨h, hn, _⟩ | ⟨g, cap, cur, h, _⟩
  · exact ⟨none, 0, by rw [h, hn]⟩
  · exact ⟨_, cap, h⟩
theorem Row.own {e : TypeId} {size : Nat} {c : Chunk} {v : Value} {n : Nat} {xs : List Value} (h : Row e size c v n xs) {w : World} {fr : Chunk} (hok : Ok w (c ++ fr)) : w.ownsRow 0 e size v n xs := by
  refine ⟨h.1, ?_⟩
  rcases h.2 with ⟨h, hn, _⟩ | ⟨g, cap, cur, h, hc, h1, h2, h3, h4⟩
  · exact .inl ⟨h, hn⟩
  · exact .inr ⟨g, cap, cur, h, Nat.zero_le _, hok.get (by rw [hc]; simp), h1, h2, h3, h4⟩

/-- Behind a law that lets a row grow. -/
theorem Row.grown {e : TypeId} {size : Nat} {c : Chunk} {v : Value} {n : Nat} {xs : List Value} (h : Row e size c v n xs) {w w' : World} {fr : Chunk} (hok : Ok w (c ++ fr)) {v' : Value} {n' : Nat} {xs' : List Value}
    (hown : w'.ownsRow 0 e size v' n' xs') (hg : w.grownBy w' v.ownBlock) (hloc : v'.ownBlock = v.ownBlock ∨ v'.ownBlock = some w.heap.size) :
    ∃ c', Row e size c' v' n' xs' ∧ Ok w' (c' ++ fr) ∧ Same w w' := by
  have hkeep : ∀ b o, (b, o) ∈ fr → w'.heap[b]? = w.heap[b]? := by
    intro b o hb
    refine hg.block b (hok.lt (List.mem_append_right _ hb)) (fun e' => ?_)
    rcases h.2 with ⟨h, hn, _⟩ | ⟨g, cap, cur, h, hc, _⟩
    · rw [h] at e'; cases e'
    · rw [h] at e'
      have hgb : b = g := by simpa [Value.ownBlock] using e'
      subst hgb
      subst hc
      exact hok.ne (List.mem_map.2 ⟨(b, o), hb, rfl⟩) rfl
  have hfr : Ok w' fr := hok.right.ofHeap hkeep
  refine (?_ : ∃ c', Row e size c' v' n' xs' ∧ Ok w' (c' ++ fr)).elim fun c' hc' => ⟨c', hc'.1, hc'.2, hg.os, hg.tape, hg.output⟩
  obtain ⟨hl, hown⟩ := hown
  rcases hown with ⟨hv, hn⟩ | ⟨g', cap', cur', hv, _, hb, h1, h2, h3, h4⟩
  · exact ⟨[], ⟨hl, .inl ⟨hv, hn, rfl⟩⟩, hfr⟩
  · refine ⟨[(g', .cells cur' e (0, 0))], ⟨hl, .inr ⟨g', cap', cur', hv, rfl, h1, h2, h3, h4⟩⟩, ⟨?_, ?_⟩⟩
    · simp only [List.cons_append, List.nil_append, List.map_cons, List.nodup_cons]
      refine ⟨fun hm => ?_, hfr.nd⟩
      rw [hv] at hloc
      simp only [Value.ownBlock] at hloc
      rcases hloc with hloc | hloc
      · rcases h.2 with ⟨h, hn, _⟩ | ⟨g, cap, cur, h, hc, _⟩
        · rw [h] at hloc; cases hloc
        · rw [h] at hloc
          have : g' = g := by simpa using hloc
          subst this
          subst hc
          exact hok.ne hm rfl
      · have : g' = w.heap.size := by simpa using hloc
        have := hok.right.lt' hm
        omega
    · intro b o hm
      rcases List.mem_cons.1 hm with he | hm
      · obtain ⟨rfl, rfl⟩ := Prod.mk.inj he; exact hb
      · exact hfr.get hm

section
variable {P : Program}

/-- append of a slice that is not nil. -/
theorem row_append {w : World} {c fr : Chunk} {e : TypeId} {size : Nat} {v : Value} {n : Nat} {xs : List Value} (hok : Ok w (c ++ fr)) (hrow : Row e size c v n xs)
    (t ty : TypeId) (i : TypeInfo) (z : Value) (bytes : Nat) (ht : P.underlying t = some (.slice e)) (hi : P.info? e = some i) (hz : i.zero = some z)
    (hsize : i.size = size) (hby : i.bytes = bytes) (hzs : z.cells.size = size) (hsz : 0 < size)
    (a : Addr) (m cp : Nat) (news : List Value) (hl : news.length = m * size) (hnews : ∀ (j : Nat) u, news[j]? = some u → w.cell? (a.add j) = some u) (h1 : ∀ u ∈ news, u.oneCell' = true)
    (h63 : n + m ≤ maxLen) (hbytes : (n + m) * bytes ≤ 140737488355328) :
    ∃ v' w' c', (Builtin.append_ #[t, t] ty #[v, .slice (some a) m cp]).run P w = .ok v' w' ∧ Row e size c' v' (n + m) (xs ++ news) ∧ Ok w' (c' ++ fr) ∧ Same w w' ∧ w.grownBy w' v.ownBlock ∧ (v' = .slice none 0 0 ↔ v = .slice none 0 0 ∧ m = 0) := by
  obtain ⟨v', w', hr, ho, hg, hn, hloc⟩ := run_append_own_at (P := P) w 0 t ty e i z size bytes ht hi hz hsize hby hzs hsz v n xs (hrow.own hok) a m cp news hl hnews h1 h63 hbytes (Nat.zero_le _)
  obtain ⟨c', h2, h3, h4⟩ := hrow.grown hok ho hg hloc
  exact ⟨v', w', c', hr, h2, h3, h4, hg, hn⟩

/-- append of nil. -/
theorem run_append_nil (t ty e : TypeId) (i : TypeInfo) (ht : P.underlying t = some (.slice e)) (hi : P.info? e = some i) (a : Option Addr) (n cap : Nat) (hc : n ≤ cap) (w : World) :
    (Builtin.append_ #[t, t] ty #[.slice a n cap, .slice none 0 0]).run P w = .ok (.slice a n cap) w := by
  cases a <;> simp [Builtin.append_, run_underlying ht, Builtin.lenOf, sizeOf, hi, hc, Builtin.firstCells, storeCells, typeInfo]

theorem wpList_app {ops : Array Oper} {rest : List Oper} {o : Oper} {a : Act} {Q : Exit → Act → World → Prop} {w : World} (hgd : o.guard = none) (s x : Operand) (t u : TypeId)
    (ho : o.op = .call { callee := .builtin .append, args := #[s, x], argTypes := #[t, u] }) {vs vx : Value} (hs : a.eval s = vs) (hx : a.eval x = vx) {v' : Value} {w' : World}
    (hr : (Builtin.append_ #[t, u] o.type #[vs, vx]).run P w = .ok v' w') (h : wpList P ops Q rest (a.put o.dst v') w') : wpList P ops Q (o :: rest) a w := by
  refine wpList_plain hgd fun K hK => ?_
  unfold Oper.wp execOp
  simp only [ho, resolve, invoke, builtin, Sem.run_bind, Sem.run_pure, Result.andThen_ok, List.map_toArray, List.map_cons, List.map_nil, hs, hx, hr]
  exact hK _ _ h

theorem exec_builtin2 (o : Oper) (a : Act) (w : World) (b : Builtin) (s x : Operand) (ts : Array TypeId) (f : Array TypeId → TypeId → Array Value → Sem Value) (hf : ∀ cs args, builtin b ts o.type cs args = (do pure (.value (← f ts o.type args))))
    (ho : o.op = .call { callee := .builtin b, args := #[s, x], argTypes := ts }) {vs vx : Value} (hs : a.eval s = vs) (hx : a.eval x = vx) {v' : Value} {w' : World}
    (hr : (f ts o.type #[vs, vx]).run P w = .ok v' w') : (execOp a.eval o).run P w = .ok (.value v') w' := by
  unfold execOp
  simp only [ho, resolve, invoke, hf, Sem.run_bind, Sem.run_pure, Result.andThen_ok, List.map_toArray, List.map_cons, List.map_nil, hs, hx, hr]

theorem wpList_val {ops : Array Oper} {rest : List Oper} {o : Oper} {a : Act} {Q : Exit → Act → World → Prop} {w : World} (hgd : o.guard = none) {v' : Value} {w' : World}
    (hr : (execOp a.eval o).run P w = .ok (.value v') w') (h : wpList P ops Q rest (a.put o.dst v') w') : wpList P ops Q (o :: rest) a w := by
  refine wpList_plain hgd fun K hK => ?_
  unfold Oper.wp
  rw [hr]
  exact hK _ _ h

theorem wpList_cpy {ops : Array Oper} {rest : List Oper} {o : Oper} {a : Act} {Q : Exit → Act → World → Prop} {w : World} (hgd : o.guard = none) (s x : Operand) (t u : TypeId)
    (ho : o.op = .call { callee := .builtin .copy, args := #[s, x], argTypes := #[t, u] }) {vs vx : Value} (hs : a.eval s = vs) (hx : a.eval x = vx) {v' : Value} {w' : World}
    (hr : (Builtin.copy_ #[t, u] o.type #[vs, vx]).run P w = .ok v' w') (h : wpList P ops Q rest (a.put o.dst v') w') : wpList P ops Q (o :: rest) a w :=
  wpList_val hgd (exec_builtin2 o a w .copy s x #[t, u] Builtin.copy_ (fun _ _ => rfl) ho hs hx hr) h
theorem wpList_del {ops : Array Oper} {rest : List Oper} {o : Oper} {a : Act} {Q : Exit → Act → World → Prop} {w : World} (hgd : o.guard = none) (s x : Operand) (t u : TypeId)
    (ho : o.op = .call { callee := .builtin .delete, args := #[s, x], argTypes := #[t, u] }) {vs vx : Value} (hs : a.eval s = vs) (hx : a.eval x = vx) {v' : Value} {w' : World}
    (hr : (Builtin.delete_ #[t, u] o.type #[vs, vx]).run P w = .ok v' w') (h : wpList P ops Q rest (a.put o.dst v') w') : wpList P ops Q (o :: rest) a w :=
  wpList_val hgd (exec_builtin2 o a w .delete s x #[t, u] Builtin.delete_ (fun _ _ => rfl) ho hs hx hr) h

theorem wpX_val {ops : Array Oper} {D : World → Prop} {eff : Nat → Bool} {Q : Act → World → Prop} {k : Nat} {o : Oper} {rest : List Oper} {C : World → Prop} {a : Act} (hg : o.guard = none) (he : eff k = true) (R : Value → World → Prop)
    (hr : ∀ w, C w → ∃ v w', (execOp a.eval o).run P w = .ok (.value v) w' ∧ R v w') (hD : ∀ u w, R u w → D w) (h : ∀ u, (∃ w, R u w) → wpX P ops D eff Q (k + 1) rest (R u) (a.put o.dst u)) : wpX P ops D eff Q k (o :: rest) C a := by
  simp only [wpX, Region.wanted, hg, if_true, xOper, he]
  refine ⟨R, fun w hw => ?_, hD, h⟩
  obtain ⟨v, w', h1, h2⟩ := hr w hw
  unfold effAt
  rw [h1]
  exact h2
/-- An effect in one world. -/
theorem wpX_val1 {ops : Array Oper} {D : World → Prop} {eff : Nat → Bool} {Q : Act → World → Prop} {k : Nat} {o : Oper} {rest : List Oper} {a : Act} {w w' : World} {v : Value} (hg : o.guard = none) (he : eff k = true)
    (hr : (execOp a.eval o).run P w = .ok (.value v) w') (hD : D w') (h : wpX P ops D eff Q (k + 1) rest (fun x => x = w') (a.put o.dst v)) : wpX P ops D eff Q k (o :: rest) (fun x => x = w) a := by
  refine wpX_val hg he (fun u x => u = v ∧ x = w') (fun x hx => by subst hx; exact ⟨v, w', hr, rfl, rfl⟩) (fun u x h => by rw [h.2]; exact hD) ?_
  rintro u ⟨x, rfl, rfl⟩
  exact wpX_weaken _ _ _ _ _ (fun y hy => hy.2) h

theorem Ok.setRow {w : World} {c : Chunk} {b : Nat} {cs : Array Value} {T : TypeId} {fz : Nat × Nat} (h : Ok w ((b, .cells cs T fz) :: c)) (cs' : Array Value) :
    Ok (w.setRow b cs') ((b, .cells cs' T fz) :: c) := by
  have hnd := h.nd
  simp only [List.map_cons, List.nodup_cons] at hnd
  refine ⟨by simpa using hnd, ?_⟩
  intro b' o hm
  rcases List.mem_cons.1 hm with he | hm
  · obtain ⟨rfl, rfl⟩ := Prod.mk.inj he
    have := h.get (List.mem_cons_self ..)
    simp only [World.setRow, Array.getElem?_modify, this]
    simp
  · have hb : b' ≠ b := fun e => hnd.1 (List.mem_map.2 ⟨(b', o), hm, e⟩)
    simp only [World.setRow, Array.getElem?_modify]
    rw [if_neg (fun e => hb e.symm)]
    exact h.get (List.mem_cons_of_mem _ hm)
theorem Same.setRow {a w : World} (h : Same a w) (b : Nat) (cs : Array Value) : Same a (w.setRow b cs) := ⟨h.os, h.tape, h.output⟩

/-- copy into a row. -/
theorem run_copy (t ty e : TypeId) (i : TypeInfo) (size : Nat) (ht : P.underlying t = some (.slice e)) (hi : P.info? e = some i) (hsize : i.size = size) {w : World} {g o : Nat} {cur : Array Value} {T : TypeId} (hg : w.heap[g]? = some (.cells cur T (0, 0)))
    (a : Addr) (dl dc sl sc n : Nat) (hn : min sl dl = n) (xs : List Value) (hl : xs.length = n * size) (hx : ∀ (j : Nat) u, xs[j]? = some u → w.cell? (a.add j) = some u) (h1 : ∀ u ∈ xs, u.oneCell' = true) (hroom : o + xs.length ≤ cur.size) :
    (Builtin.copy_ #[t, t] ty #[.slice (some ⟨g, o, none⟩) dl dc, .slice (some a) sl sc]).run P w = .ok (.int .i64 (n : Nat)) (w.setRow g (cur.toList.take o ++ xs ++ cur.toList.drop (o + xs.length)).toArray) := by
  have hload := run_loadCells_list (P := P) w a xs hx
  have hstore := run_storeCells_at (P := P) g o T xs 0 cur w hg (by omega) h1
  rw [hl] at hload
  simp only [Nat.add_zero] at hstore
  have hn' : Nat.min sl dl = n := hn
  simp [Builtin.copy_, run_underlying ht, Builtin.lenOf, sizeOf, typeInfo, hi, hsize, hn', Builtin.firstCells, hload, hstore, goInt]

/-- A whole block is written. -/
theorem run_storeWhole {w : World} {g : Nat} {cur : Array Value} {T : TypeId} (hg : w.heap[g]? = some (.cells cur T (0, 0))) (xs : List Value) (hl : xs.length = cur.size) (h1 : ∀ u ∈ xs, u.oneCell' = true) :
    (storeCells ⟨g, 0, none⟩ xs).run P w = .ok () (w.setRow g xs.toArray) := by
  have hstore := run_storeCells_at (P := P) g 0 T xs 0 cur w hg (by omega) h1
  rw [hstore]
  simp [List.drop_eq_nil_of_le, hl]
/-- A whole block is read. -/
theorem run_loadRow {w : World} {g n : Nat} {cs : Array Value} {T : TypeId} {fz : Nat × Nat} (hg : w.heap[g]? = some (.cells cs T fz)) (hn : cs.size = n) : (loadCellsFrom ⟨g, 0, none⟩ 0 n #[]).run P w = .ok cs w := by
  subst hn
  have := run_loadCells_list (P := P) w ⟨g, 0, none⟩ cs.toList (fun j v hv => by
    have hadd : (⟨g, 0, none⟩ : Addr).add j = ⟨g, j, none⟩ := by unfold Addr.add; split <;> simp_all
    rw [hadd, cell_of_row _ _ j cs T fz hg]
    simpa using hv)
  simpa [loadCells] using this
theorem Below.setRow {B : Nat} {a w : World} (h : Below B a w) {g : Nat} (hg : B ≤ g) (cs : Array Value) : Below B a (w.setRow g cs) :=
  ⟨h.os, h.tape, h.output, by rw [setRow_size]; exact h.size, fun b hb => by rw [setRow_other _ _ _ _ (by omega)]; exact h.block b hb⟩

theorem zeroCells_one (z : Value) (n : Nat) : Builtin.zeroCells #[z] n = (List.replicate n z).toArray := by
  rw [← Array.toList_inj]
  simp only [Builtin.zeroCells, Array.toList_map, Array.toList_range]
  apply List.ext_getElem?
  intro i
  simp only [List.getElem?_map, List.getElem?_replicate]
  by_cases h : i < n
  · simp [h, Nat.mod_one]
  · simp [h]

/-- append of zeros where there is no room. -/
theorem run_append_zeros (t u ty e : TypeId) (i : TypeInfo) (z : Value) (bytes : Nat) (ht : P.underlying t = some (.slice e)) (hu : P.underlying u = some (.int .i64)) (hi : P.info? e = some i) (hz : i.zero = some z)
    (hsize : i.size = 1) (hby : i.bytes = bytes) (hzc : z.cells = #[z]) (w : World) (a : Option Addr) (n cap k : Nat) (hk : 0 < k) (hgrow : cap < n + k) (hsmall : n + k ≤ 250) (hb : bytes ≤ 64) (xs : List Value) (hl : xs.length = n)
    (hx : ∀ ad, a = some ad → ∀ (j : Nat) v, xs[j]? = some v → w.cell? (ad.add j) = some v) (hnil : a = none → n = 0) :
    ∃ c, (Builtin.append_ #[t, u] ty #[.slice a n cap, .int .i64 (k : Nat)]).run P w = .ok (.slice (some ⟨w.heap.size, 0, none⟩) (n + k) c) (w.drew.alloc (.cells (xs ++ List.replicate k z ++ List.replicate (c - (n + k)) z).toArray e)) ∧ n + k ≤ c ∧ c ≤ maxLen := by
  let c := n + k + (w.tape w.drawn (.appendCap (n + k) cap e)) % (2 ^ 63 - (n + k))
  have hpos : 0 < 2 ^ 63 - (n + k) := by omega
  have hmod := Nat.mod_lt (w.tape w.drawn (.appendCap (n + k) cap e)) hpos
  have hc1 : n + k ≤ c := Nat.le_add_right _ _
  have hc2 : c ≤ maxLen := by unfold maxLen; omega
  refine ⟨c, ?_, hc1, hc2⟩
  have hold : ∀ w' : World, (∀ b, w'.cell? b = w.cell? b) → (Builtin.firstCells 1 n (.slice a n cap)).run P w' = .ok xs.toArray w' := by
    intro w' hw'
    cases a with
    | none => simp [Builtin.firstCells]; exact List.length_eq_zero_iff.1 (by rw [hl]; exact hnil rfl)
    | some ad =>
      have := run_loadCells_list (P := P) w' ad xs (fun j v hj => by rw [hw']; exact hx ad rfl j v hj)
      rw [hl] at this
      simpa [Builtin.firstCells] using this
  have hold' := hold w.drew (fun _ => rfl)
  have hwr : IntKind.i64.wrap (k : Int) = k := IntWalk.i64_in _ (by omega)
  have hnext : Builtin.nextslicecap (n + k) cap ≤ 2 * (n + k) := by
    unfold Builtin.nextslicecap
    split
    · omega
    · rw [if_pos (by omega)]; omega
  have h48 : ¬ (Builtin.nextslicecap (n + k) cap * bytes > 2 ^ 48) := by
    have : Builtin.nextslicecap (n + k) cap * bytes ≤ 2 * (n + k) * 64 := Nat.mul_le_mul hnext hb
    omega
  have h48' : ¬ ((k : Int) * (bytes : Int) > 2 ^ 48) := by
    have : k * bytes ≤ 250 * 64 := Nat.mul_le_mul (by omega) hb
    have h2 : ((k * bytes : Nat) : Int) = (k : Int) * bytes := by simp
    omega
  have hneg : ¬ ((k : Int) < 0) := by omega
  have hroom : ¬ (n + k ≤ cap) := by omega
  have hmax : ¬ (((n + k : Nat) : Int) > IntKind.i64.max) := by simp [IntKind.max, IntKind.signed, IntKind.bits]; omega
  have hask : ∀ (m : Nat) (w' : World), (askRoom m).run P w' = .ok () w' := by
    intro m w'; unfold askRoom; split <;> simp [Go.mark, Sem.run]
  have hk0 : ¬ k = 0 := by omega
  have hai : (asInt (.int .i64 (k : Int))).run P w = .ok (k : Int) w := by simp [asInt, asIntOf]
  have h48a : ¬ (281474976710656 < Builtin.nextslicecap (n + k) cap * bytes) := by omega
  have h48b : ¬ (281474976710656 < (k : Int) * (bytes : Int)) := by
    have : (2 : Int) ^ 48 = 281474976710656 := by decide
    omega
  have hmaxa : ¬ (9223372036854775807 < (n : Int) + (k : Int)) := by omega
  subst hby
  simp [Builtin.append_, run_underlying ht, run_underlying hu, sizeOf, typeInfo, zeroValue, hi, hz, hsize, hai, hwr, h48b, hroom, hmaxa, h48a, hk0, Question.forced, hold', newRow, hzc, zeroCells_one, Question.cut, c]
  rw [if_neg hneg]
  congr 2
  congr 1
  apply Array.ext'
  simp
end
end Go.Proofs.YtdllibalmjadhaaGreat
