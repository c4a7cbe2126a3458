/- Regions whose order is open, once more: some of its operations that make memory may come whenever they like ('floats'); what they leave holds whatever else is made. The others come one behind the other, behind all floats. -/
import Derived.Test.YtdllibalmjadhaaGreatE2

namespace Go.Proofs.YtdllibalmjadhaaGreat
open Go Go.RowKit

section
variable {P : Program} {ops : Array Oper} {md : Region.Mode} {D : World → Prop} {eff : Nat → Bool} {fs : Nat → Option (Value → World → Prop)} {lst : Nat}

/-- What holds still, whatever is made. -/
def Cl (C : World → Prop) : Prop := ∀ w w', C w → Below w.heap.size w w' → C w'
theorem Cl.and {C C' : World → Prop} (h : Cl C) (h' : Cl C') : Cl fun w => C w ∧ C' w := fun w w' ⟨a, b⟩ hb => ⟨h w w' a hb, h' w w' b hb⟩

/-- An effect that comes last need not stay in the class. -/
def yOper (P : Program) (D : World → Prop) (e f : Bool) (o : Oper) (C : World → Prop) (a : Act) (K : (World → Prop) → Act → Prop) : Prop :=
  if e then ∃ R : Value → World → Prop, (∀ w, C w → effAt P o a w R) ∧ (f = true ∨ ∀ u w, R u w → D w) ∧ ∀ u, (∃ w, R u w) → K (R u) (a.put o.dst u)
  else ∃ v, (∀ w : InD D, plainAt P o a w.1 v) ∧ K C (a.put o.dst v)
theorem yOper_no {e : Bool} {o : Oper} {C : World → Prop} {a : Act} {K : (World → Prop) → Act → Prop} : yOper P D e false o C a K ↔ xOper P D e o C a K := by
  unfold yOper xOper
  cases e <;> simp

def zOper (P : Program) (D : World → Prop) (e f : Bool) (q : Option (Value → World → Prop)) (o : Oper) (C : World → Prop) (a : Act) (K : (World → Prop) → Act → Prop) : Prop :=
  match q with
  | some R => Cl C ∧ (∀ w : InD D, effAt P o a w.1 fun u w' => R u w' ∧ Below w.1.heap.size w.1 w') ∧ ∀ u, (∃ w, C w ∧ R u w) → K (fun w => C w ∧ R u w) (a.put o.dst u)
  | none => yOper P D e f o C a K

def wpZ (P : Program) (ops : Array Oper) (D : World → Prop) (eff : Nat → Bool) (fs : Nat → Option (Value → World → Prop)) (lst : Nat) (Q : Act → World → Prop) : Nat → List Oper → (World → Prop) → Act → Prop
  | _, [], C, a => ∀ w, C w → Q a w
  | k, o :: rest, C, a => if Region.wanted o (yielded ops a.tmps) then zOper P D (eff k) (k == lst) (fs k) o C a (wpZ P ops D eff fs lst Q (k + 1) rest) else wpZ P ops D eff fs lst Q (k + 1) rest C (a.put o.dst undef)

def zOp (P : Program) (ops : Array Oper) (D : World → Prop) (eff : Nat → Bool) (fs : Nat → Option (Value → World → Prop)) (lst : Nat) (i : Nat) (K : (World → Prop) → Act → Prop) (C : World → Prop) (a : Act) : Prop :=
  match ops[i]? with
  | none => K C a
  | some o => if Region.wanted o (yielded ops a.tmps) then zOper P D (eff i) (i == lst) (fs i) o C a K else K C (a.put o.dst undef)

theorem zOper_mono {e : Bool} {q : Option (Value → World → Prop)} {o : Oper} {C : World → Prop} {a : Act} {K K' : (World → Prop) → Act → Prop} (hne : ∃ w, C w)
    (hRD : ∀ w, C w → D w)
    (h : ∀ C a, (∃ w, C w) → (∀ w, C w → D w) → K C a → K' C a) (hh : zOper P D e false q o C a K) : zOper P D e false q o C a K' := by
  unfold zOper at *
  cases q with
  | some R => exact ⟨hh.1, hh.2.1, fun u hu => h _ _ hu (fun w hw => hRD w hw.1) (hh.2.2 u hu)⟩
  | none =>
    simp only [yOper_no] at *
    unfold xOper at *
    cases e with
    | true =>
      simp only [if_true] at *
      obtain ⟨R, h1, h2, h3⟩ := hh
      exact ⟨R, h1, h2, fun u hu => h _ _ hu (h2 u) (h3 u hu)⟩
    | false =>
      simp only [Bool.false_eq_true, if_false] at *
      obtain ⟨v, h1, h2⟩ := hh
      exact ⟨v, h1, h _ _ hne hRD h2⟩
theorem zOp_mono {i : Nat} (hil : i ≠ lst) {C : World → Prop} {a : Act} {K K' : (World → Prop) → Act → Prop} (hne : ∃ w, C w) (hRD : ∀ w, C w → D w)
    (h : ∀ C a, (∃ w, C w) → (∀ w, C w → D w) → K C a → K' C a) (hh : zOp P ops D eff fs lst i K C a) : zOp P ops D eff fs lst i K' C a := by
  have hb : (i == lst) = false := by simpa using hil
  unfold zOp at *
  split
  · exact h _ _ hne hRD (by simpa [*] using hh)
  · rename_i o ho
    simp only [ho] at hh
    split
    · rename_i hw; simp only [hw, if_true, hb] at hh ⊢; exact zOper_mono hne hRD h hh
    · rename_i hw; simp only [hw] at hh; exact h _ _ hne hRD hh

def wpAnyZ (P : Program) (md : Region.Mode) (ops : Array Oper) (D : World → Prop) (eff : Nat → Bool) (fs : Nat → Option (Value → World → Prop)) (lst : Nat) (Q : Act → World → Prop) : Nat → Array Bool → (World → Prop) → Act → Prop
  | 0, listed, C, a => Region.ready md ops listed = [] ∧ ∀ w, C w → Q a w
  | fuel + 1, listed, C, a =>
    (Region.ready md ops listed = [] → ∀ w, C w → Q a w) ∧
    ∀ i ∈ Region.ready md ops listed, zOp P ops D eff fs lst i (wpAnyZ P md ops D eff fs lst Q fuel (listed.setIfInBounds i true)) C a

theorem wp_of_zOper {e f : Bool} {q : Option (Value → World → Prop)} (hDC : Cl D) {o : Oper} {a : Act} {C : World → Prop} {K : (World → Prop) → Act → Prop} {K' : Act → World → Prop} {Q' : Exit → Act → World → Prop} {w : World} (hw : C w) (hD : D w)
    (h : ∀ C a w', C w' → (f = true ∨ D w') → K C a → K' a w') (hh : zOper P D e f q o C a K) : o.wp P a w K' Q' := by
  unfold zOper at hh
  cases q with
  | none =>
    simp only [yOper] at hh
    unfold Oper.wp
    cases e with
    | true =>
      simp only [if_true] at hh
      obtain ⟨R, h1, h2, h3⟩ := hh
      have h4 := h1 w hw
      have hd : ∀ u w', R u w' → (f = true ∨ D w') := fun u w' hu => h2.imp id fun h => h u w' hu
      unfold effAt at h4
      generalize (execOp a.eval o).run P w = r at *
      cases r with
      | ok n w' =>
        cases n <;> simp only [effUpon] at h4 <;> simp only [Oper.upon]
        case value u => exact h _ _ _ h4 (hd _ _ h4) (h3 u ⟨_, h4⟩)
        case skip => exact h _ _ _ h4 (hd _ _ h4) (h3 _ ⟨_, h4⟩)
        case enter f args => exact h4.mono fun e w'' ⟨u, he, hu⟩ => by subst he; exact h _ _ _ hu (hd _ _ hu) (h3 u ⟨_, hu⟩)
      | halt x w' => simp only [effUpon] at h4
    | false =>
      simp only [Bool.false_eq_true, if_false] at hh
      obtain ⟨v, h1, h2⟩ := hh
      have h4 := h1 ⟨w, hD⟩
      unfold plainAt at h4
      generalize (execOp a.eval o).run P w = r at *
      cases r with
      | ok n w' =>
        cases n <;> simp only [plainUpon] at h4 <;> simp only [Oper.upon]
        case value u => obtain ⟨e1, e2⟩ := h4; rw [e1, e2]; exact h _ _ _ hw (.inr hD) h2
        case skip => obtain ⟨e1, e2⟩ := h4; rw [e1, ← e2]; exact h _ _ _ hw (.inr hD) h2
      | halt x w' => simp only [plainUpon] at h4
  | some R =>
    obtain ⟨hcl, h1, h3⟩ := hh
    unfold Oper.wp
    have h4 := h1 ⟨w, hD⟩
    unfold effAt at h4
    generalize (execOp a.eval o).run P w = r at *
    have go : ∀ u w', R u w' ∧ Below w.heap.size w w' → K' (a.put o.dst u) w' := fun u w' hu =>
      h _ _ _ ⟨hcl w w' hw hu.2, hu.1⟩ (.inr (hDC w w' hD hu.2)) (h3 u ⟨w', hcl w w' hw hu.2, hu.1⟩)
    cases r with
    | ok n w' =>
      cases n <;> simp only [effUpon] at h4 <;> simp only [Oper.upon]
      case value u => exact go _ _ h4
      case skip => exact go _ _ h4
      case enter f args => exact h4.mono fun e w'' ⟨u, he, hu⟩ => by subst he; exact go _ _ hu
    | halt x w' => simp only [effUpon] at h4

theorem wpOp_of_zOp {i : Nat} (hDC : Cl D) {a : Act} {C : World → Prop} {K : (World → Prop) → Act → Prop} {K' : Act → World → Prop} {Q' : Exit → Act → World → Prop} {w : World} (hC : C w) (hD : D w)
    (h : ∀ C a w', C w' → (i = lst ∨ D w') → K C a → K' a w') (hh : zOp P ops D eff fs lst i K C a) : wpOp P ops Q' i K' a w := by
  unfold zOp at hh
  unfold wpOp
  split
  · rename_i ho; simp only [ho] at hh; exact h _ _ _ hC (.inr hD) hh
  · rename_i o ho
    simp only [ho] at hh
    split
    · rename_i hw; simp only [hw, if_true] at hh; exact .inl (wp_of_zOper hDC hC hD (fun C a w' h1 h2 h3 => h C a w' h1 (h2.imp (fun h => by simpa using h) id) h3) hh)
    · rename_i hw; simp only [hw] at hh; exact h _ _ _ hC (.inr hD) hh

/-- The last operation waits for all others. -/
structure Last (md : Region.Mode) (ops : Array Oper) (lst : Nat) : Prop where
  held : ∀ (l : Array Bool), Closed md ops l → ∀ i j, i ∈ Region.ready md ops l → j ≠ lst → (∃ o, ops[j]? = some o) → l.getD j true = false → i ≠ lst
  fin : ∀ (l : Array Bool), Closed md ops l → lst ∈ Region.ready md ops l → Region.ready md ops (l.setIfInBounds lst true) = []

theorem wpAny_of_Z {Q : Act → World → Prop} {Q' : Exit → Act → World → Prop} (hL : Last md ops lst) (hDC : Cl D) (hQ : ∀ a w, Q a w → Q' .normal a w) : ∀ (fuel : Nat) (listed : Array Bool) (C : World → Prop) (a : Act) (w : World), Closed md ops listed → C w → D w →
    wpAnyZ P md ops D eff fs lst Q fuel listed C a → wpAny P md ops Q' fuel listed a w
  | 0, _, _, _, _, _, hw, _, h => ⟨h.1, hQ _ _ (h.2 _ hw)⟩
  | fuel + 1, listed, _, _, _, hcl, hw, hD, h => ⟨fun h0 => hQ _ _ (h.1 h0 _ hw), fun i hi => wpOp_of_zOp hDC hw hD (fun C a' w' hw' hD' hz => by
      rcases hD' with rfl | hD'
      · have hr := hL.fin listed hcl hi
        cases fuel with
        | zero => exact ⟨hr, hQ _ _ (hz.2 _ hw')⟩
        | succ n => exact ⟨fun _ => hQ _ _ (hz.1 hr _ hw'), fun j hj => by rw [hr] at hj; cases hj⟩
      · exact wpAny_of_Z hL hDC hQ fuel _ C a' w' (hcl.set hi) hw' hD' hz) (h.2 i hi)⟩

theorem zOp_put {j : Nat} (hjl : j ≠ lst) {oi oj : Oper} {v : Value} (hj : ops[j]? = some oj) (hap : oi.apart ops oj = true)
    (hsi : ∀ cs b, oi.op ≠ .select cs b) (hsj : ∀ cs b, oj.op ≠ .select cs b) {e : Bool} {C : World → Prop} {K : (World → Prop) → Act → Prop} {a : Act}
    (hy : Rests P ops D e oi v a) (h : zOp P ops D eff fs lst j K C (a.put oi.dst v)) : zOp P ops D eff fs lst j (fun C' a' => Rests P ops D e oi v a' ∧ K C' (a'.put oi.dst v)) C a := by
  have hb : (j == lst) = false := by simpa using hjl
  cases hq : fs j with
  | none =>
    have h' : xOp P ops D eff j K C (a.put oi.dst v) := by
      unfold xOp
      unfold zOp at h
      simp only [hj, hq, zOper, hb, yOper_no] at h ⊢
      exact h
    have h2 := xOp_put hj hap hsi hsj hy h'
    unfold zOp
    unfold xOp at h2
    simp only [hj, hq, zOper, hb, yOper_no] at h2 ⊢
    exact h2
  | some R =>
    obtain ⟨h1, h2, h3⟩ := Oper.apart_spec hap
    have keep : ∀ u, Rests P ops D e oi v (a.put oj.dst u) := fun u => hy.same (execOp_put oi hsi a oj.dst u h3) (wanted_put oi a oj.dst u h3)
    unfold zOp at *
    simp only [hj, hq, zOper] at *
    rw [wanted_put oj a oi.dst v h1] at h
    split
    · rename_i hw
      simp only [hw, if_true] at h
      obtain ⟨r0, r1, r3⟩ := h
      refine ⟨r0, fun w => by rw [← effAt_same (execOp_put oj hsj a oi.dst v h1)]; exact r1 w, fun u hu => ⟨keep u, ?_⟩⟩
      rw [← Act.put_comm a v u h2]; exact r3 u hu
    · rename_i hw
      simp only [hw] at h
      refine ⟨keep _, ?_⟩
      rw [← Act.put_comm a v undef h2]; exact h

theorem Rests.zOp {i : Nat} {o : Oper} {v : Value} {a : Act} {C : World → Prop} (hi : ops[i]? = some o) (hy : Rests P ops D (eff i || (fs i).isSome) o v a) {K : (World → Prop) → Act → Prop} (h : K C (a.put o.dst v)) : zOp P ops D eff fs lst i K C a := by
  unfold YtdllibalmjadhaaGreat.zOp
  simp only [hi]
  rcases hy with ⟨hw, he, hv⟩ | ⟨hw, rfl⟩
  · simp only [Bool.or_eq_false_iff] at he
    cases hq : fs i with
    | none => simp only [hw, if_true, zOper, yOper, he.1, Bool.false_eq_true, if_false]; exact ⟨v, hv, h⟩
    | some R => rw [hq] at he; cases he.2
  · simp only [hw, Bool.false_eq_true, if_false]; exact h

theorem wpAnyZ_quiet {Q : Act → World → Prop} {i : Nat} {oi : Oper} {v : Value} (hL : Last md ops lst) (hi : ops[i]? = some oi) (hsel : ∀ (j : Nat) (o : Oper) cs b, ops[j]? = some o → o.op ≠ .select cs b) :
    ∀ (fuel : Nat) (listed : Array Bool) (C : World → Prop) (a : Act), (∃ w, C w) → (∀ w, C w → D w) →
      (∀ j oj, ops[j]? = some oj → j ≠ i → listed.getD j true = false → (∀ e ∈ oj.after, Region.binds md e = true → e.on ≠ i) → oi.apart ops oj = true) → Closed md ops listed →
      i ∈ Region.ready md ops listed → Rests P ops D (eff i || (fs i).isSome) oi v a →
      wpAnyZ P md ops D eff fs lst Q fuel (listed.setIfInBounds i true) C (a.put oi.dst v) → wpAnyZ P md ops D eff fs lst Q (fuel + 1) listed C a := by
  intro fuel
  induction fuel with
  | zero =>
    intro listed C a hne hCD _ _ hr hy H
    refine ⟨fun h => (by rw [h] at hr; cases hr), fun j hj => ?_⟩
    by_cases hji : j = i
    · subst hji; exact hy.zOp hi H
    · have := ready_mono hj hji
      rw [H.1] at this
      cases this
  | succ fuel ih =>
    intro listed C a hne hCD hfree hcl hr hy H
    refine ⟨fun h => (by rw [h] at hr; cases hr), fun j hj => ?_⟩
    by_cases hji : j = i
    · subst hji; exact hy.zOp hi H
    · have h1 := H.2 j (ready_mono hj hji)
      obtain ⟨hjun, oj, hoj, hall⟩ := mem_ready.1 hj
      have hap := hfree j oj hoj hji hjun (not_on hr hall)
      have hjl : j ≠ lst := fun e => by
        by_cases hil : i = lst
        · exact hji (e.trans hil.symm)
        · exact hL.held listed hcl j i hj hil ⟨oi, hi⟩ (mem_ready.1 hr).1 e
      have h2 := zOp_put hjl hoj hap (fun cs b => hsel i oi cs b hi) (fun cs b => hsel j oj cs b hoj) hy h1
      have hfree' : ∀ k ok, ops[k]? = some ok → k ≠ i → (listed.setIfInBounds j true).getD k true = false →
          (∀ e ∈ ok.after, Region.binds md e = true → e.on ≠ i) → oi.apart ops ok = true := fun k ok hk hki hun hno => by
        refine hfree k ok hk hki ?_ hno
        by_cases hjk : j = k
        · subst hjk; exact hjun
        · rw [getD_set_ne true hjk] at hun; exact hun
      refine zOp_mono hjl hne hCD (fun C' a' hne' hCD' h3 => ih (listed.setIfInBounds j true) C' a' hne' hCD' hfree' (hcl.set hj) (ready_mono hr (Ne.symm hji)) h3.1 ?_) h2
      rw [Array.setIfInBounds_comm _ _ hji]
      exact h3.2

/-- An effect may be taken first, where no other one, and no float, can come ahead of it. -/
theorem wpAnyZ_eff {Q : Act → World → Prop} {i : Nat} {oi : Oper} {R : Value → World → Prop} (hL : Last md ops lst) (hi : ops[i]? = some oi) (hei : eff i = true) (hqi : fs i = none) (hsel : ∀ (j : Nat) (o : Oper) cs b, ops[j]? = some o → o.op ≠ .select cs b)
    (hRD : i = lst ∨ ∀ u w, R u w → D w) :
    ∀ (fuel : Nat) (listed : Array Bool) (C : World → Prop) (a : Act), (∃ w, C w) →
      (∀ j oj, ops[j]? = some oj → j ≠ i → listed.getD j true = false → (∀ e ∈ oj.after, Region.binds md e = true → e.on ≠ i) → oi.apart ops oj = true) →
      Closed md ops listed →
      (∀ l : Array Bool, Closed md ops l → (∀ k, listed.getD k false = true → l.getD k false = true) → l.getD i true = false → ∀ j ∈ Region.ready md ops l, j ≠ i → eff j = false ∧ fs j = none) →
      i ∈ Region.ready md ops listed → Region.wanted oi (yielded ops a.tmps) = true → (∀ w, C w → effAt P oi a w R) →
      (∀ u, (∃ w, R u w) → wpAnyZ P md ops D eff fs lst Q fuel (listed.setIfInBounds i true) (R u) (a.put oi.dst u)) → wpAnyZ P md ops D eff fs lst Q (fuel + 1) listed C a := by
  intro fuel
  induction fuel with
  | zero =>
    intro listed C a hne _ _ _ hr hw hE H
    refine ⟨fun h => (by rw [h] at hr; cases hr), fun j hj => ?_⟩
    by_cases hji : j = i
    · subst hji
      unfold zOp
      simp only [hi, hw, if_true, zOper, hqi, yOper, hei]
      exact ⟨R, hE, hRD.imp (fun h => by simpa using h) id, H⟩
    · obtain ⟨w0, hw0⟩ := hne
      obtain ⟨u, w', hu⟩ := eff_some (hE w0 hw0)
      have := ready_mono hj hji
      rw [(H u ⟨w', hu⟩).1] at this
      cases this
  | succ fuel ih =>
    intro listed C a hne hfree hcl hch hr hw hE H
    refine ⟨fun h => (by rw [h] at hr; cases hr), fun j hj => ?_⟩
    by_cases hji : j = i
    · subst hji
      unfold zOp
      simp only [hi, hw, if_true, zOper, hqi, yOper, hei]
      exact ⟨R, hE, hRD.imp (fun h => by simpa using h) id, H⟩
    · obtain ⟨w0, hw0⟩ := hne
      obtain ⟨u0, w1, hu0⟩ := eff_some (hE w0 hw0)
      obtain ⟨hjun, oj, hoj, hall⟩ := mem_ready.1 hj
      have hil : i ≠ lst := fun e => hL.held listed hcl i j hr (fun e' => hji (e'.trans e.symm)) ⟨oj, hoj⟩ hjun e
      have hRD' := hRD.resolve_left hil
      obtain ⟨hej, hqj⟩ := hch listed hcl (fun _ h => h) (mem_ready.1 hr).1 j hj hji
      obtain ⟨h1, h2, h3⟩ := Oper.apart_spec (hfree j oj hoj hji hjun (not_on hr hall))
      have hsi := fun cs b => hsel i oi cs b hi
      have hsj := fun cs b => hsel j oj cs b hoj
      have hfree' : ∀ k ok, ops[k]? = some ok → k ≠ i → (listed.setIfInBounds j true).getD k true = false →
          (∀ e ∈ ok.after, Region.binds md e = true → e.on ≠ i) → oi.apart ops ok = true := fun k ok hk hki hun hno => by
        refine hfree k ok hk hki ?_ hno
        by_cases hjk : j = k
        · subst hjk; exact hjun
        · rw [getD_set_ne true hjk] at hun; exact hun
      have hk : ∀ u, (∃ w, R u w) → zOp P ops D eff fs lst j (wpAnyZ P md ops D eff fs lst Q fuel ((listed.setIfInBounds i true).setIfInBounds j true)) (R u) (a.put oi.dst u) := fun u hu => (H u hu).2 j (ready_mono hj hji)
      have go : ∀ v, (∀ u, (∃ w, R u w) → wpAnyZ P md ops D eff fs lst Q fuel ((listed.setIfInBounds i true).setIfInBounds j true) (R u) ((a.put oi.dst u).put oj.dst v)) →
          wpAnyZ P md ops D eff fs lst Q (fuel + 1) (listed.setIfInBounds j true) C (a.put oj.dst v) := fun v hv => by
        refine ih (listed.setIfInBounds j true) C (a.put oj.dst v) ⟨w0, hw0⟩ hfree' (hcl.set hj) ?_ (ready_mono hr (Ne.symm hji)) ?_ ?_ ?_
        · intro l hl hsub; exact hch l hl (fun k hk => hsub k (getD_set hk))
        · rw [wanted_put oi a oj.dst v h3]; exact hw
        · intro w hw'; rw [effAt_same (execOp_put oi hsi a oj.dst v h3)]; exact hE w hw'
        · intro u hu
          rw [Array.setIfInBounds_comm _ _ hji, ← Act.put_comm a u v h2]
          exact hv u hu
      unfold zOp at hk ⊢
      simp only [hoj, zOper, hqj, yOper, hej, Bool.false_eq_true, if_false] at hk ⊢
      have hwp : ∀ u, Region.wanted oj (yielded ops (a.put oi.dst u).tmps) = Region.wanted oj (yielded ops a.tmps) := fun u => wanted_put oj a oi.dst u h1
      simp only [hwp] at hk
      split
      · rename_i hwj
        simp only [hwj, if_true] at hk
        obtain ⟨v, hv, _⟩ := hk u0 ⟨w1, hu0⟩
        have hv' : ∀ w : InD D, plainAt P oj a w.1 v := fun w => by rw [← plainAt_same (execOp_put oj hsj a oi.dst u0 h1)]; exact hv w
        refine ⟨v, hv', go v fun u hu => ?_⟩
        obtain ⟨v2, hv2, hK⟩ := hk u hu
        have e : v2 = v := by
          have d := hRD' _ _ hu0
          have a1 := hv2 ⟨w1, d⟩
          rw [plainAt_same (execOp_put oj hsj a oi.dst u h1)] at a1
          exact plain_one a1 (hv' ⟨w1, d⟩)
        subst e
        exact hK
      · rename_i hwj
        simp only [hwj] at hk
        exact go undef fun u hu => hk u hu

/-- A float may be taken first, where no effect can come ahead of it. -/
theorem wpAnyZ_float {Q : Act → World → Prop} {i : Nat} {oi : Oper} {R : Value → World → Prop} (hi : ops[i]? = some oi) (hqi : fs i = some R) (hfs : ∀ k R, fs k = some R → ∀ u, Cl (R u)) (hsel : ∀ (j : Nat) (o : Oper) cs b, ops[j]? = some o → o.op ≠ .select cs b) :
    ∀ (fuel : Nat) (listed : Array Bool) (C : World → Prop) (a : Act), (∃ w, C w) → (∀ w, C w → D w) → Cl C →
      (∀ j oj, ops[j]? = some oj → j ≠ i → listed.getD j true = false → (∀ e ∈ oj.after, Region.binds md e = true → e.on ≠ i) → oi.apart ops oj = true) →
      Closed md ops listed →
      (∀ l : Array Bool, Closed md ops l → (∀ k, listed.getD k false = true → l.getD k false = true) → l.getD i true = false → ∀ j ∈ Region.ready md ops l, j ≠ i → eff j = false ∨ (fs j).isSome = true) →
      i ∈ Region.ready md ops listed → Region.wanted oi (yielded ops a.tmps) = true → (∀ w : InD D, effAt P oi a w.1 fun u w' => R u w' ∧ Below w.1.heap.size w.1 w') →
      (∀ u, (∃ w, C w ∧ R u w) → wpAnyZ P md ops D eff fs lst Q fuel (listed.setIfInBounds i true) (fun w => C w ∧ R u w) (a.put oi.dst u)) → wpAnyZ P md ops D eff fs lst Q (fuel + 1) listed C a := by
  have some1 : ∀ {C : World → Prop} {a : Act}, (∃ w, C w) → (∀ w, C w → D w) → Cl C → (∀ w : InD D, effAt P oi a w.1 fun u w' => R u w' ∧ Below w.1.heap.size w.1 w') → ∃ u w', C w' ∧ R u w' := by
    rintro C a ⟨w0, hw0⟩ hCD hcl h
    obtain ⟨u, w', hu⟩ := eff_some (h ⟨w0, hCD w0 hw0⟩)
    exact ⟨u, w', hcl w0 w' hw0 hu.2, hu.1⟩
  intro fuel
  induction fuel with
  | zero =>
    intro listed C a hne hCD hcC _ _ _ hr hw hE H
    refine ⟨fun h => (by rw [h] at hr; cases hr), fun j hj => ?_⟩
    by_cases hji : j = i
    · subst hji
      unfold zOp
      simp only [hi, hw, if_true, zOper, hqi]
      exact ⟨hcC, hE, H⟩
    · obtain ⟨u, w', hu⟩ := some1 hne hCD hcC hE
      have := ready_mono hj hji
      rw [(H u ⟨w', hu⟩).1] at this
      cases this
  | succ fuel ih =>
    intro listed C a hne hCD hcC hfree hcl hch hr hw hE H
    refine ⟨fun h => (by rw [h] at hr; cases hr), fun j hj => ?_⟩
    by_cases hji : j = i
    · subst hji
      unfold zOp
      simp only [hi, hw, if_true, zOper, hqi]
      exact ⟨hcC, hE, H⟩
    · obtain ⟨u0, w1, hu0⟩ := some1 hne hCD hcC hE
      obtain ⟨hjun, oj, hoj, hall⟩ := mem_ready.1 hj
      have hej := hch listed hcl (fun _ h => h) (mem_ready.1 hr).1 j hj hji
      obtain ⟨h1, h2, h3⟩ := Oper.apart_spec (hfree j oj hoj hji hjun (not_on hr hall))
      have hsi := fun cs b => hsel i oi cs b hi
      have hsj := fun cs b => hsel j oj cs b hoj
      have hfree' : ∀ k ok, ops[k]? = some ok → k ≠ i → (listed.setIfInBounds j true).getD k true = false →
          (∀ e ∈ ok.after, Region.binds md e = true → e.on ≠ i) → oi.apart ops ok = true := fun k ok hk hki hun hno => by
        refine hfree k ok hk hki ?_ hno
        by_cases hjk : j = k
        · subst hjk; exact hjun
        · rw [getD_set_ne true hjk] at hun; exact hun
      have hk : ∀ u, (∃ w, C w ∧ R u w) → zOp P ops D eff fs lst j (wpAnyZ P md ops D eff fs lst Q fuel ((listed.setIfInBounds i true).setIfInBounds j true)) (fun w => C w ∧ R u w) (a.put oi.dst u) := fun u hu => (H u hu).2 j (ready_mono hj hji)
      have go : ∀ C' v, (∃ w, C' w) → (∀ w, C' w → D w) → Cl C' → (∀ u, (∃ w, C' w ∧ R u w) → wpAnyZ P md ops D eff fs lst Q fuel ((listed.setIfInBounds i true).setIfInBounds j true) (fun w => C' w ∧ R u w) ((a.put oi.dst u).put oj.dst v)) →
          wpAnyZ P md ops D eff fs lst Q (fuel + 1) (listed.setIfInBounds j true) C' (a.put oj.dst v) := fun C' v hne' hCD' hcC' hv => by
        refine ih (listed.setIfInBounds j true) C' (a.put oj.dst v) hne' hCD' hcC' hfree' (hcl.set hj) ?_ (ready_mono hr (Ne.symm hji)) ?_ ?_ ?_
        · intro l hl hsub; exact hch l hl (fun k hk => hsub k (getD_set hk))
        · rw [wanted_put oi a oj.dst v h3]; exact hw
        · intro w; rw [effAt_same (execOp_put oi hsi a oj.dst v h3)]; exact hE w
        · intro u hu
          rw [Array.setIfInBounds_comm _ _ hji, ← Act.put_comm a u v h2]
          exact hv u hu
      unfold zOp at hk ⊢
      simp only [hoj] at hk ⊢
      have hwp : ∀ u, Region.wanted oj (yielded ops (a.put oi.dst u).tmps) = Region.wanted oj (yielded ops a.tmps) := fun u => wanted_put oj a oi.dst u h1
      simp only [hwp] at hk
      split
      · rename_i hwj
        simp only [hwj, if_true] at hk
        cases hqj : fs j with
        | none =>
          have hej' : eff j = false := by rcases hej with h | h; exact h; rw [hqj] at h; cases h
          simp only [hqj, zOper, yOper, hej', Bool.false_eq_true, if_false] at hk ⊢
          obtain ⟨v, hv, _⟩ := hk u0 ⟨w1, hu0⟩
          have hv' : ∀ w : InD D, plainAt P oj a w.1 v := fun w => by rw [← plainAt_same (execOp_put oj hsj a oi.dst u0 h1)]; exact hv w
          refine ⟨v, hv', go C v hne hCD hcC fun u hu => ?_⟩
          obtain ⟨v2, hv2, hK⟩ := hk u hu
          have e : v2 = v := by
            have d := hCD _ hu0.1
            have a1 := hv2 ⟨w1, d⟩
            rw [plainAt_same (execOp_put oj hsj a oi.dst u h1)] at a1
            exact plain_one a1 (hv' ⟨w1, d⟩)
          subst e
          exact hK
        | some Rj =>
          simp only [hqj, zOper] at hk ⊢
          obtain ⟨_, hspec, _⟩ := hk u0 ⟨w1, hu0⟩
          have hspec' : ∀ w : InD D, effAt P oj a w.1 fun u w' => Rj u w' ∧ Below w.1.heap.size w.1 w' := fun w => by rw [← effAt_same (execOp_put oj hsj a oi.dst u0 h1)]; exact hspec w
          refine ⟨hcC, hspec', fun uj huj => ?_⟩
          refine go (fun w => C w ∧ Rj uj w) uj huj (fun w hw => hCD w hw.1) (hcC.and (hfs j Rj hqj uj)) fun u hu => ?_
          obtain ⟨w2, ⟨hc2, hj2⟩, hr2⟩ := hu
          have := (hk u ⟨w2, hc2, hr2⟩).2.2 uj ⟨w2, ⟨hc2, hr2⟩, hj2⟩
          have e : (fun w => (C w ∧ R u w) ∧ Rj uj w) = (fun w => (C w ∧ Rj uj w) ∧ R u w) := by funext w; exact propext and_right_comm
          rw [e] at this
          exact this
      · rename_i hwj
        simp only [hwj] at hk
        exact go C undef hne hCD hcC fun u hu => hk u hu

theorem wpAnyZ_lex {Q : Act → World → Prop} (hL : Last md ops lst) (hlst : lst + 1 = ops.size) (hs : Region.noSelect ops = true) (hfs : ∀ k R, fs k = some R → ∀ u, Cl (R u)) (ch0 fl : List Nat) (hdis : ∀ k, eff k = true → fs k = none) (heff : ∀ k, eff k = true → k ∈ ch0) (hfl : ∀ k, (fs k).isSome = true → k ∈ fl)
    (hwt : ∀ f ∈ fl, ∀ c ∈ ch0, waits md ops 6 c f = true) : ∀ (l : List Oper) (k : Nat) (listed : Array Bool) (ch : List Nat) (C : World → Prop) (a : Act), (∃ w, C w) → (l ≠ [] → ∀ w, C w → D w) → (∀ j, l[j]? = ops[k + j]?) →
    Region.lexFrom md ops l.length k listed = true → Closed md ops listed → chained md ops ch = true → (∀ j ∈ ch0, j ∈ ch ∨ listed.getD j false = true) → (∀ j ∈ ch, k ≤ j) → ch.Pairwise (· < ·) →
    wpZ P ops D eff fs lst Q k l C a → wpAnyZ P md ops D eff fs lst Q l.length listed C a
  | [], _, _, _, _, _, _, _, _, hB, _, _, _, _, _, h => ⟨by simpa [Region.lexFrom] using hB, h⟩
  | o :: l, k, listed, ch, C, a, hne, hCD0, hl, hB, hcl, hchd, hin, hge, hpw, h => by
    have hCD := hCD0 (by simp)
    have h0 : ops[k]? = some o := by simpa using (hl 0).symm
    have hl' : ∀ j, l[j]? = ops[(k + 1) + j]? := fun j => by have := hl (j + 1); simpa [Nat.add_assoc, Nat.add_comm 1 j] using this
    simp only [List.length_cons, Region.lexFrom, Bool.and_eq_true] at hB
    obtain ⟨⟨hr, hf⟩, hB'⟩ := hB
    have hr' : k ∈ Region.ready md ops listed := by simpa using hr
    have hku := (mem_ready.1 hr').1
    -- a float that waits holds all effects back
    have hold : ∀ (l : Array Bool) (f : Nat), Closed md ops l → (fs f).isSome = true → l.getD f true = false → ∀ j ∈ Region.ready md ops l, eff j = false := by
      intro l f hcl' hf' hlf j hj
      cases hej : eff j with
      | false => rfl
      | true =>
        exfalso
        obtain ⟨_, oj, hoj, hall⟩ := mem_ready.1 hj
        exact waits_no hcl' (getD_false hlf) 6 j oj (hwt f (hfl f hf') j (heff j hej)) hoj hall
    have hset : ∀ j, listed.getD j false = true → (listed.setIfInBounds k true).getD j false = true := fun j h => getD_set h
    have hnl : ∀ (l : Array Bool) j, j ∈ Region.ready md ops l → l.getD j false = false := fun l j hj => getD_false (mem_ready.1 hj).1
    -- what is left of the chain behind k
    obtain ⟨ch', hchd', hin', hge', hpw', hk'⟩ : ∃ ch', chained md ops ch' = true ∧ (∀ j ∈ ch0, j ∈ ch' ∨ (listed.setIfInBounds k true).getD j false = true) ∧ (∀ j ∈ ch', k + 1 ≤ j) ∧ ch'.Pairwise (· < ·) ∧
        (eff k = true → ∀ l : Array Bool, Closed md ops l → (∀ j, listed.getD j false = true → l.getD j false = true) → l.getD k true = false → ∀ j ∈ Region.ready md ops l, j ≠ k → eff j = false) := by
      have hksz : k < listed.size := by
        rcases Nat.lt_or_ge k listed.size with h' | h'
        · exact h'
        · rw [Array.getD_eq_getD_getElem?, Array.getElem?_eq_none h'] at hku; cases hku
      cases ch with
      | nil =>
        refine ⟨[], rfl, fun j hj => .inr (hset j ((hin j hj).resolve_left (by simp))), by simp, by simp, fun hek => ?_⟩
        have := (hin k (heff k hek)).resolve_left (by simp)
        rw [getD_false hku] at this; cases this
      | cons i ch =>
        by_cases hik : i = k
        · subst hik
          refine ⟨ch, ?_, fun j hj => ?_, fun j hj => (List.pairwise_cons.1 hpw).1 j hj, (List.pairwise_cons.1 hpw).2, fun _ l hcl' hsub hli j hj hji => ?_⟩
          · cases ch with
            | nil => rfl
            | cons => simp only [chained, Bool.and_eq_true] at hchd; exact hchd.2
          · rcases hin j hj with h | h
            · rcases List.mem_cons.1 h with rfl | h
              · exact .inr (by simp [hksz])
              · exact .inl h
            · exact .inr (hset j h)
          · cases hej : eff j with
            | false => rfl
            | true =>
              exfalso
              rcases hin j (heff j hej) with h | h
              · rcases List.mem_cons.1 h with rfl | h
                · exact hji rfl
                · exact (chained_no hcl' ch i hchd (getD_false hli) j h).2 hj
              · have := hsub j h; rw [hnl l j hj] at this; cases this
        · refine ⟨i :: ch, hchd, fun j hj => (hin j hj).imp id (hset j), fun j hj => ?_, hpw, fun hek => ?_⟩
          · have h1 : k < i := by have := hge i (List.mem_cons_self ..); omega
            rcases List.mem_cons.1 hj with rfl | hj
            · exact h1
            · have := (List.pairwise_cons.1 hpw).1 j hj; omega
          · exfalso
            rcases hin k (heff k hek) with h | h
            · rcases List.mem_cons.1 h with h | h
              · exact hik h.symm
              · have h1 := (List.pairwise_cons.1 hpw).1 k h
                have h2 := hge i (List.mem_cons_self ..)
                omega
            · rw [getD_false hku] at h; cases h
    have next : ∀ C' a', (∃ w, C' w) → (l ≠ [] → ∀ w, C' w → D w) → wpZ P ops D eff fs lst Q (k + 1) l C' a' → wpAnyZ P md ops D eff fs lst Q l.length (listed.setIfInBounds k true) C' a' := fun C' a' hne' hCD' h' =>
      wpAnyZ_lex hL hlst hs hfs ch0 fl hdis heff hfl hwt l (k + 1) _ ch' C' a' hne' hCD' hl' hB' (hcl.set hr') hchd' hin' hge' hpw' h'
    simp only [wpZ] at h
    split at h
    · rename_i hw
      cases hq : fs k with
      | some R =>
        simp only [hq, zOper] at h
        obtain ⟨h1, h2, h3⟩ := h
        exact wpAnyZ_float h0 hq hfs (Region.noSelect_spec hs) l.length listed C a hne hCD h1 (Region.free_spec h0 hf) hcl
          (fun l hcl' _ hlk j hj _ => .inl (hold l k hcl' (by rw [hq]; rfl) hlk j hj)) hr' hw h2 (fun u hu => next _ _ hu (fun _ w hw => hCD w hw.1) (h3 u hu))
      | none =>
        simp only [hq, zOper, yOper] at h
        cases he : eff k with
        | true =>
          simp only [he, if_true] at h
          obtain ⟨R, h1, h2, h3⟩ := h
          have h2' : k = lst ∨ ∀ u w, R u w → D w := h2.imp (fun h => by simpa using h) id
          refine wpAnyZ_eff hL h0 he hq (Region.noSelect_spec hs) h2' l.length listed C a hne (Region.free_spec h0 hf) hcl (fun l hcl' hsub hlk j hj hji => ⟨hk' he l hcl' hsub hlk j hj hji, ?_⟩) hr' hw h1 (fun u hu => next _ _ hu (fun hl0 => (h2'.resolve_left fun e => hl0 (by
            cases l with
            | nil => rfl
            | cons o' l' =>
              have h9 := hl' 0
              have h10 : ops[k + 1 + 0]? = none := Array.getElem?_eq_none (by omega)
              rw [h10] at h9
              simp at h9)) u) (h3 u hu))
          cases hqj : fs j with
          | none => rfl
          | some R' =>
            exfalso
            have hfj : (fs j).isSome = true := by rw [hqj]; rfl
            cases hlj : listed.getD j true with
            | false => rw [hold listed j hcl hfj hlj k hr'] at he; cases he
            | true =>
              have h5 := (mem_ready.1 hj).1
              have h6 : listed.getD j false = true := by
                obtain ⟨_, ok, hok, hall⟩ := mem_ready.1 hr'
                cases h7 : listed.getD j false with
                | true => rfl
                | false => exact (waits_no hcl h7 6 k ok (hwt j (hfl j hfj) k (heff k he)) hok hall).elim
              have h8 := hsub j h6
              rw [getD_false h5] at h8; cases h8
        | false =>
          simp only [he, Bool.false_eq_true, if_false] at h
          obtain ⟨v, h1, h2⟩ := h
          exact wpAnyZ_quiet hL h0 (Region.noSelect_spec hs) l.length listed C a hne hCD (Region.free_spec h0 hf) hcl hr' (.inl ⟨hw, by rw [he, hq]; rfl, h1⟩) (next _ _ hne (fun _ => hCD) h2)
    · rename_i hw
      exact wpAnyZ_quiet hL h0 (Region.noSelect_spec hs) l.length listed C a hne hCD (Region.free_spec h0 hf) hcl hr' (.inr ⟨by simpa using hw, rfl⟩) (next _ _ hne (fun _ => hCD) h)

/-- The floats of a region, and what each leaves. -/
def floats (fl : List (Nat × (Value → World → Prop))) (k : Nat) : Option (Value → World → Prop) := (fl.find? fun p => p.1 == k).map Prod.snd
def floatsOk (md : Region.Mode) (ops : Array Oper) (fl ch : List Nat) : Bool := fl.all fun f => !ch.contains f && ch.all fun c => waits md ops 6 c f

def lastOk (md : Region.Mode) (ops : Array Oper) : Bool := decide (0 < ops.size) && (List.range (ops.size - 1)).all fun k => waits md ops 6 (ops.size - 1) k
theorem Last.of (h : lastOk md ops = true) : Last md ops (ops.size - 1) := by
  simp only [lastOk, Bool.and_eq_true, decide_eq_true_eq, List.all_eq_true, List.mem_range] at h
  have held : ∀ (l : Array Bool), Closed md ops l → ∀ i j, i ∈ Region.ready md ops l → j ≠ ops.size - 1 → (∃ o, ops[j]? = some o) → l.getD j true = false → i ≠ ops.size - 1 := by
    intro l hcl i j hi hj ⟨o, ho⟩ hjl e
    subst e
    obtain ⟨_, oi, hoi, hall⟩ := mem_ready.1 hi
    have hjs : j < ops.size := (Array.getElem?_eq_some_iff.1 ho).1
    exact waits_no hcl (getD_false hjl) 6 (ops.size - 1) oi (h.2 j (by omega)) hoi hall
  refine ⟨held, fun l hcl hr => ?_⟩
  cases hq : Region.ready md ops (l.setIfInBounds (ops.size - 1) true) with
  | nil => rfl
  | cons m t =>
    exfalso
    have hm : m ∈ Region.ready md ops (l.setIfInBounds (ops.size - 1) true) := by rw [hq]; exact List.mem_cons_self ..
    obtain ⟨hml, om, hom, _⟩ := mem_ready.1 hm
    have hlu := (mem_ready.1 hr).1
    by_cases e : ops.size - 1 = m
    · subst e
      rcases Nat.lt_or_ge (ops.size - 1) l.size with h' | h'
      · simp [h'] at hml
      · rw [Array.getD_eq_getD_getElem?, Array.getElem?_eq_none h'] at hlu; cases hlu
    · rw [getD_set_ne true e] at hml
      exact held l hcl (ops.size - 1) m hr (Ne.symm e) ⟨om, hom⟩ hml rfl

/-- One walk in the text's order serves every order. 'fl': the floats; 'ch': the other operations that are not quiet. -/
theorem wp_region_z (fl : List Nat) (Rs : List (Value → World → Prop)) (ch : List Nat) {id : Nat} {Q : Exit → Act → World → Prop} {a : Act} {w : World} {l : List Oper} (hm : P.follows .mixedOrders = true)
    (hB : (Region.lexB .any l.toArray && chained .any l.toArray ch && rising ch && floatsOk .any l.toArray fl ch && lastOk .any l.toArray) = true)
    (hR : ∀ R ∈ Rs, ∀ u, Cl (R u))
    (h : ∀ (E : World → Prop), Nonempty (InD E) → (∀ w' : InD E, Below w.heap.size w w'.val) → (∀ w', Below w.heap.size w w' → E w') → Cl E → wpZ P l.toArray E (effOf ch) (floats (fl.zip Rs)) (l.toArray.size - 1) (fun a' w' => Q .normal a' w') 0 l E a) : (Code.region id l.toArray true).wp P Q a w := by
  simp only [Region.lexB, Bool.and_eq_true] at hB
  obtain ⟨⟨⟨⟨⟨hs, hlex⟩, hch⟩, hri⟩, hfo⟩, hla⟩ := hB
  have hL := Last.of hla
  have hpos : 0 < l.toArray.size := by
    simp only [lastOk, Bool.and_eq_true, decide_eq_true_eq] at hla
    exact hla.1
  let E : World → Prop := fun w' => Below w.heap.size w w'
  have hE : E w.drew := (Below.refl _ _).drew
  have hCl : Cl E := fun w1 w2 h1 h2 => below_trans h1 h2
  have hmem : ∀ k, (floats (fl.zip Rs) k).isSome = true → k ∈ fl := by
    intro k hk
    unfold floats at hk
    rw [Option.isSome_map, List.find?_isSome] at hk
    obtain ⟨⟨i, R⟩, hi, hk⟩ := hk
    rw [← beq_iff_eq.1 hk]
    exact (List.of_mem_zip hi).1
  simp only [floatsOk, List.all_eq_true, Bool.and_eq_true, Bool.not_eq_true'] at hfo
  refine wp_region_any hm (wpAny_of_Z (D := E) (eff := effOf ch) (fs := floats (fl.zip Rs)) (Q := fun a' w' => Q .normal a' w') hL hCl (fun _ _ h => h) _ _ E _ _ (Closed.start _) hE hE ?_)
  have := wpAnyZ_lex (P := P) (D := E) (Q := fun a' w' => Q .normal a' w') (eff := effOf ch) (fs := floats (fl.zip Rs)) hL (by omega) hs ?_ ch fl ?_ (fun k hk => by simpa [effOf] using hk) hmem (fun f hf c hc => (hfo f hf).2 c hc) l 0 (Array.replicate l.toArray.size false) ch E a ⟨_, hE⟩ (fun _ _ h => h) (by simp) (by simpa using hlex) (Closed.start _) hch
    (fun j hj => .inl hj) (by simp) (rising_pw _ hri) (h E ⟨⟨_, hE⟩⟩ (fun w' => w'.property) (fun _ h => h) hCl)
  · simpa using this
  · intro k R hk
    unfold floats at hk
    rw [Option.map_eq_some_iff] at hk
    obtain ⟨⟨i, R'⟩, hi, rfl⟩ := hk
    exact hR _ (List.of_mem_zip (List.mem_of_find?_eq_some hi)).2
  · intro k hk
    cases hq : floats (fl.zip Rs) k with
    | none => rfl
    | some R =>
      have h1 := (hfo k (hmem k (by rw [hq]; rfl))).1
      unfold effOf at hk
      rw [hk] at h1; cases h1

theorem wpZ_step {Q : Act → World → Prop} {k : Nat} {o : Oper} {rest : List Oper} {C : World → Prop} {a : Act}
    (h : ∀ K : (World → Prop) → Act → Prop, (∀ C a, wpZ P ops D eff fs lst Q (k + 1) rest C a → K C a) → if Region.wanted o (yielded ops a.tmps) then zOper P D (eff k) (k == lst) (fs k) o C a K else K C (a.put o.dst undef)) : wpZ P ops D eff fs lst Q k (o :: rest) C a :=
  h _ (fun _ _ h => h)
theorem wpZ_val {Q : Act → World → Prop} {k : Nat} {o : Oper} {rest : List Oper} {C : World → Prop} {a : Act} (hg : o.guard = none) (he : eff k = true) (hq : fs k = none) (R : Value → World → Prop)
    (hr : ∀ w, C w → ∃ v w', (execOp a.eval o).run P w = .ok (.value v) w' ∧ R v w') (hD : k = lst ∨ ∀ u w, R u w → D w) (h : ∀ u, (∃ w, R u w) → wpZ P ops D eff fs lst Q (k + 1) rest (R u) (a.put o.dst u)) : wpZ P ops D eff fs lst Q k (o :: rest) C a := by
  simp only [wpZ, Region.wanted, hg, if_true, zOper, hq, yOper, he]
  refine ⟨R, fun w hw => ?_, hD.imp (fun e => by simpa using e) id, h⟩
  obtain ⟨v, w', h1, h2⟩ := hr w hw
  unfold effAt
  rw [h1]
  exact h2
theorem wpZ_nil {Q : Act → World → Prop} {k : Nat} {C : World → Prop} {a : Act} (h : ∀ w, C w → Q a w) : wpZ P ops D eff fs lst Q k [] C a := h
end
attribute [go_sem] zOper yOper floats
end Go.Proofs.YtdllibalmjadhaaGreat
