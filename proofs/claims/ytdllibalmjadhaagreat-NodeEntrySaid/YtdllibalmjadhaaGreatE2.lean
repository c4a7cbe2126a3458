/- A statement that leaves its order open: its quiet operations may come whenever they like, its other ones come one behind the other: one walk, in the text's order, serves every order. Spans of the circle: circle.Far, Size, Has. Slices that own their row; what append, copy and their like do to them. -/
import Derived.Still
import Derived.Deep.QuietTactic
import Derived.BigQuiet
import Derived.Test.YtdllibalmjadhaaGreatE1
import Derived.Test.YtdllibalmjadhaaGreatProg
import Derived.Maps.AppendAt

namespace Go.Proofs.YtdllibalmjadhaaGreat
open Go Go.RowKit

section
variable {P : Program} {ops : Array Oper} {md : Region.Mode} {D : World → Prop} {eff : Nat → Bool}

/-- A world of a class. -/
structure InD (D : World → Prop) where
  val : World
  property : D val
/-- The operation yields v, and leaves the world as it was. -/
def plainUpon (w : World) (v : Value) : Result Next → Prop
  | .ok (.value u) w' => w' = w ∧ u = v
  | .ok .skip w' => w' = w ∧ v = undef
  | _ => False
def plainAt (P : Program) (o : Oper) (a : Act) (w : World) (v : Value) : Prop := plainUpon w v ((execOp a.eval o).run P w)
/-- The operation yields something, in a world, as told. -/
def effUpon (P : Program) (R : Value → World → Prop) : Result Next → Prop
  | .ok (.value u) w' => R u w'
  | .ok .skip w' => R undef w'
  | .ok (.enter f args) w' => Calls P f args w' fun e w'' => ∃ u, e = .returned u ∧ R u w''
  | _ => False
def effAt (P : Program) (o : Oper) (a : Act) (w : World) (R : Value → World → Prop) : Prop := effUpon P R ((execOp a.eval o).run P w)

theorem plain_one {o : Oper} {a : Act} {w : World} {v v' : Value} (h : plainAt P o a w v) (h' : plainAt P o a w v') : v = v' := by
  unfold plainAt at *
  generalize (execOp a.eval o).run P w = r at *
  cases r with
  | ok n w' => cases n <;> simp only [plainUpon] at h h' <;> first | exact h.2.symm.trans h'.2 | exact h.2.trans h'.2.symm | exact h.elim
  | halt x w' => simp only [plainUpon] at h

/-- What is asked of one operation; what follows behind a variable. -/
def xOper (P : Program) (D : World → Prop) (e : Bool) (o : Oper) (C : World → Prop) (a : Act) (K : (World → Prop) → Act → Prop) : Prop :=
  if e then ∃ R : Value → World → Prop, (∀ w, C w → effAt P o a w R) ∧ (∀ u w, R u w → D w) ∧ ∀ u, (∃ w, R u w) → K (R u) (a.put o.dst u)
  else ∃ v, (∀ w : InD D, plainAt P o a w.1 v) ∧ K C (a.put o.dst v)

/-- The walk in the text's order. -/
def wpX (P : Program) (ops : Array Oper) (D : World → Prop) (eff : Nat → Bool) (Q : Act → World → Prop) : Nat → List Oper → (World → Prop) → Act → Prop
  | _, [], C, a => ∀ w, C w → Q a w
  | k, o :: rest, C, a => if Region.wanted o (yielded ops a.tmps) then xOper P D (eff k) o C a (wpX P ops D eff Q (k + 1) rest) else wpX P ops D eff Q (k + 1) rest C (a.put o.dst undef)

def xOp (P : Program) (ops : Array Oper) (D : World → Prop) (eff : Nat → Bool) (i : Nat) (K : (World → Prop) → Act → Prop) (C : World → Prop) (a : Act) : Prop :=
  match ops[i]? with
  | none => K C a
  | some o => if Region.wanted o (yielded ops a.tmps) then xOper P D (eff i) o C a K else K C (a.put o.dst undef)

theorem xOper_mono {e : Bool} {o : Oper} {C : World → Prop} {a : Act} {K K' : (World → Prop) → Act → Prop} (hne : ∃ w, C w)
    (h : ∀ C a, (∃ w, C w) → K C a → K' C a) (hh : xOper P D e o C a K) : xOper P D e o C a K' := by
  unfold xOper at *
  cases e with
  | true =>
    simp only [if_true] at *
    obtain ⟨R, h1, h2, h3⟩ := hh
    exact ⟨R, h1, h2, fun u hu => h _ _ hu (h3 u hu)⟩
  | false =>
    simp only [Bool.false_eq_true, if_false] at *
    obtain ⟨v, h1, h2⟩ := hh
    exact ⟨v, h1, h _ _ hne h2⟩
theorem xOp_mono {i : Nat} {C : World → Prop} {a : Act} {K K' : (World → Prop) → Act → Prop} (hne : ∃ w, C w)
    (h : ∀ C a, (∃ w, C w) → K C a → K' C a) (hh : xOp P ops D eff i K C a) : xOp P ops D eff i K' C a := by
  unfold xOp at *
  split
  · exact h _ _ hne (by simpa [*] using hh)
  · rename_i o ho
    simp only [ho] at hh
    split
    · rename_i hw; simp only [hw, if_true] at hh; exact xOper_mono hne h hh
    · rename_i hw; simp only [hw] at hh; exact h _ _ hne hh

def wpAnyX (P : Program) (md : Region.Mode) (ops : Array Oper) (D : World → Prop) (eff : Nat → Bool) (Q : Act → World → Prop) : Nat → Array Bool → (World → Prop) → Act → Prop
  | 0, listed, C, a => Region.ready md ops listed = [] ∧ ∀ w, C w → Q a w
  | fuel + 1, listed, C, a =>
    (Region.ready md ops listed = [] → ∀ w, C w → Q a w) ∧
    ∀ i ∈ Region.ready md ops listed, xOp P ops D eff i (wpAnyX P md ops D eff Q fuel (listed.setIfInBounds i true)) C a

theorem wp_of_xOper {e : Bool} {o : Oper} {a : Act} {C : World → Prop} {K : (World → Prop) → Act → Prop} {K' : Act → World → Prop} {Q' : Exit → Act → World → Prop} {w : World} (hw : C w) (hD : D w)
    (h : ∀ C a w', C w' → D w' → K C a → K' a w') (hh : xOper P D e o C a K) : o.wp P a w K' Q' := by
  unfold xOper at hh
  unfold Oper.wp
  cases e with
  | true =>
    simp only [if_true] at hh
    obtain ⟨R, h1, h2, h3⟩ := hh
    have h4 := h1 w hw
    unfold effAt at h4
    generalize (execOp a.eval o).run P w = r at *
    cases r with
    | ok n w' =>
      cases n <;> simp only [effUpon] at h4 <;> simp only [Oper.upon]
      case value u => exact h _ _ _ h4 (h2 _ _ h4) (h3 u ⟨_, h4⟩)
      case skip => exact h _ _ _ h4 (h2 _ _ h4) (h3 _ ⟨_, h4⟩)
      case enter f args => exact h4.mono fun e w'' ⟨u, he, hu⟩ => by subst he; exact h _ _ _ hu (h2 _ _ hu) (h3 u ⟨_, hu⟩)
    | halt x w' => simp only [effUpon] at h4
  | false =>
    simp only [Bool.false_eq_true, if_false] at hh
    obtain ⟨v, h1, h2⟩ := hh
    have h4 := h1 ⟨w, hD⟩
    unfold plainAt at h4
    generalize (execOp a.eval o).run P w = r at *
    cases r with
    | ok n w' =>
      cases n <;> simp only [plainUpon] at h4 <;> simp only [Oper.upon]
      case value u => obtain ⟨e1, e2⟩ := h4; rw [e1, e2]; exact h _ _ _ hw hD h2
      case skip => obtain ⟨e1, e2⟩ := h4; rw [e1, ← e2]; exact h _ _ _ hw hD h2
    | halt x w' => simp only [plainUpon] at h4

theorem wpOp_of_xOp {i : Nat} {a : Act} {C : World → Prop} {K : (World → Prop) → Act → Prop} {K' : Act → World → Prop} {Q' : Exit → Act → World → Prop} {w : World} (hC : C w) (hD : D w)
    (h : ∀ C a w', C w' → D w' → K C a → K' a w') (hh : xOp P ops D eff i K C a) : wpOp P ops Q' i K' a w := by
  unfold xOp at hh
  unfold wpOp
  split
  · rename_i ho; simp only [ho] at hh; exact h _ _ _ hC hD hh
  · rename_i o ho
    simp only [ho] at hh
    split
    · rename_i hw; simp only [hw, if_true] at hh; exact .inl (wp_of_xOper hC hD h hh)
    · rename_i hw; simp only [hw] at hh; exact h _ _ _ hC hD hh

theorem wpAny_of_X {Q : Act → World → Prop} {Q' : Exit → Act → World → Prop} (hQ : ∀ a w, Q a w → Q' .normal a w) : ∀ (fuel : Nat) (listed : Array Bool) (C : World → Prop) (a : Act) (w : World), C w → D w →
    wpAnyX P md ops D eff Q fuel listed C a → wpAny P md ops Q' fuel listed a w
  | 0, _, _, _, _, hw, _, h => ⟨h.1, hQ _ _ (h.2 _ hw)⟩
  | fuel + 1, _, _, _, _, hw, hD, h => ⟨fun h0 => hQ _ _ (h.1 h0 _ hw), fun i hi => wpOp_of_xOp hw hD (fun C a' w' hw' hD' => wpAny_of_X hQ fuel _ C a' w' hw' hD') (h.2 i hi)⟩

/-- What an operation is known to do: quietly, or not. -/
def Known (P : Program) (ops : Array Oper) (D : World → Prop) (e : Bool) (o : Oper) (C : World → Prop) (R : Value → World → Prop) (v : Value) (a : Act) : Prop :=
  (Region.wanted o (yielded ops a.tmps) = true ∧ ((e = true ∧ (∀ w, C w → effAt P o a w R) ∧ ∀ u w, R u w → D w) ∨ (e = false ∧ ∀ w : InD D, plainAt P o a w.1 v))) ∨
  (Region.wanted o (yielded ops a.tmps) = false ∧ v = undef)

theorem plainAt_same {o : Oper} {a a' : Act} (he : execOp a'.eval o = execOp a.eval o) (w : World) (v : Value) : plainAt P o a' w v = plainAt P o a w v := by
  unfold plainAt; rw [he]
theorem effAt_same {o : Oper} {a a' : Act} (he : execOp a'.eval o = execOp a.eval o) (w : World) (R : Value → World → Prop) : effAt P o a' w R = effAt P o a w R := by
  unfold effAt; rw [he]

/-- An effect yields something in some world. -/
theorem eff_some {o : Oper} {a : Act} {w : World} {R : Value → World → Prop} (h : effAt P o a w R) : ∃ u w', R u w' := by
  unfold effAt at h
  generalize (execOp a.eval o).run P w = r at *
  cases r with
  | ok n w' =>
    cases n <;> simp only [effUpon] at h
    case value u => exact ⟨u, w', h⟩
    case skip => exact ⟨_, w', h⟩
    case enter f args => obtain ⟨e, w'', fr, ⟨u, _, hu⟩, _⟩ := h []; exact ⟨u, w'', hu⟩
  | halt x w' => simp only [effUpon] at h

/-- An operation that yields v wherever it comes, or is passed over. -/
def Rests (P : Program) (ops : Array Oper) (D : World → Prop) (e : Bool) (o : Oper) (v : Value) (a : Act) : Prop :=
  (Region.wanted o (yielded ops a.tmps) = true ∧ e = false ∧ ∀ w : InD D, plainAt P o a w.1 v) ∨ (Region.wanted o (yielded ops a.tmps) = false ∧ v = undef)

theorem Rests.same {e : Bool} {o : Oper} {v : Value} {a a' : Act} (h : Rests P ops D e o v a) (he : execOp a'.eval o = execOp a.eval o)
    (hw : Region.wanted o (yielded ops a'.tmps) = Region.wanted o (yielded ops a.tmps)) : Rests P ops D e o v a' := by
  unfold Rests at *
  rw [hw]
  simp only [plainAt_same he]
  exact h

theorem xOp_put {j : Nat} {oi oj : Oper} {v : Value} (hj : ops[j]? = some oj) (hap : oi.apart ops oj = true)
    (hsi : ∀ cs b, oi.op ≠ .select cs b) (hsj : ∀ cs b, oj.op ≠ .select cs b) {e : Bool} {C : World → Prop} {K : (World → Prop) → Act → Prop} {a : Act}
    (hy : Rests P ops D e oi v a) (h : xOp P ops D eff j K C (a.put oi.dst v)) : xOp P ops D eff j (fun C' a' => Rests P ops D e oi v a' ∧ K C' (a'.put oi.dst v)) C a := by
  obtain ⟨h1, h2, h3⟩ := Oper.apart_spec hap
  have keep : ∀ u, Rests P ops D e oi v (a.put oj.dst u) := fun u => hy.same (execOp_put oi hsi a oj.dst u h3) (wanted_put oi a oj.dst u h3)
  unfold xOp at *
  simp only [hj] at *
  rw [wanted_put oj a oi.dst v h1] at h
  split
  · rename_i hw
    simp only [hw, if_true] at h
    unfold xOper at *
    cases he : eff j with
    | true =>
      simp only [he, if_true] at *
      obtain ⟨R, r1, r2, r3⟩ := h
      refine ⟨R, fun w hw' => by rw [← effAt_same (execOp_put oj hsj a oi.dst v h1)]; exact r1 w hw', r2, fun u hu => ⟨keep u, ?_⟩⟩
      rw [← Act.put_comm a v u h2]; exact r3 u hu
    | false =>
      simp only [he, Bool.false_eq_true, if_false] at *
      obtain ⟨u, r1, r2⟩ := h
      refine ⟨u, fun w => by rw [← plainAt_same (execOp_put oj hsj a oi.dst v h1)]; exact r1 w, keep u, ?_⟩
      rw [← Act.put_comm a v u h2]; exact r2
  · rename_i hw
    simp only [hw] at h
    refine ⟨keep _, ?_⟩
    rw [← Act.put_comm a v undef h2]; exact h

theorem Rests.xOp {i : Nat} {o : Oper} {v : Value} {a : Act} {C : World → Prop} (hi : ops[i]? = some o) (hy : Rests P ops D (eff i) o v a) {K : (World → Prop) → Act → Prop} (h : K C (a.put o.dst v)) : xOp P ops D eff i K C a := by
  unfold YtdllibalmjadhaaGreat.xOp
  simp only [hi]
  rcases hy with ⟨hw, he, hv⟩ | ⟨hw, rfl⟩
  · simp only [hw, if_true, xOper, he, Bool.false_eq_true, if_false]; exact ⟨v, hv, h⟩
  · simp only [hw, Bool.false_eq_true, if_false]; exact h

theorem not_on {i : Nat} {oj : Oper} {listed : Array Bool} (hr : i ∈ Region.ready md ops listed) (hall : ∀ e ∈ oj.after, Region.binds md e = true → listed.getD e.on false = true) : ∀ e ∈ oj.after, Region.binds md e = true → e.on ≠ i := fun e he hb heq => by
  have h1 := hall e he hb
  have h0 := (mem_ready.1 hr).1
  rw [heq] at h1
  rcases Nat.lt_or_ge i listed.size with h' | h'
  · simp [h'] at h0 h1; rw [h0] at h1; cases h1
  · simp [Array.getElem?_eq_none h'] at h1

/-- A quiet operation may be taken first. -/
theorem wpAnyX_quiet {Q : Act → World → Prop} {i : Nat} {oi : Oper} {v : Value} (hi : ops[i]? = some oi) (hsel : ∀ (j : Nat) (o : Oper) cs b, ops[j]? = some o → o.op ≠ .select cs b) :
    ∀ (fuel : Nat) (listed : Array Bool) (C : World → Prop) (a : Act), (∃ w, C w) →
      (∀ j oj, ops[j]? = some oj → j ≠ i → listed.getD j true = false → (∀ e ∈ oj.after, Region.binds md e = true → e.on ≠ i) → oi.apart ops oj = true) →
      i ∈ Region.ready md ops listed → Rests P ops D (eff i) oi v a →
      wpAnyX P md ops D eff Q fuel (listed.setIfInBounds i true) C (a.put oi.dst v) → wpAnyX P md ops D eff Q (fuel + 1) listed C a := by
  intro fuel
  induction fuel with
  | zero =>
    intro listed C a hne _ hr hy H
    refine ⟨fun h => (by rw [h] at hr; cases hr), fun j hj => ?_⟩
    by_cases hji : j = i
    · subst hji; exact hy.xOp hi H
    · have := ready_mono hj hji
      rw [H.1] at this
      cases this
  | succ fuel ih =>
    intro listed C a hne hfree hr hy H
    refine ⟨fun h => (by rw [h] at hr; cases hr), fun j hj => ?_⟩
    by_cases hji : j = i
    · subst hji; exact hy.xOp hi H
    · have h1 := H.2 j (ready_mono hj hji)
      obtain ⟨hjun, oj, hoj, hall⟩ := mem_ready.1 hj
      have h2 := xOp_put hoj (hfree j oj hoj hji hjun (not_on hr hall)) (fun cs b => hsel i oi cs b hi) (fun cs b => hsel j oj cs b hoj) hy h1
      have hfree' : ∀ k ok, ops[k]? = some ok → k ≠ i → (listed.setIfInBounds j true).getD k true = false →
          (∀ e ∈ ok.after, Region.binds md e = true → e.on ≠ i) → oi.apart ops ok = true := fun k ok hk hki hun hno => by
        refine hfree k ok hk hki ?_ hno
        by_cases hjk : j = k
        · subst hjk; exact hjun
        · rw [getD_set_ne true hjk] at hun; exact hun
      refine xOp_mono hne (fun C' a' hne' h3 => ih (listed.setIfInBounds j true) C' a' hne' hfree' (ready_mono hr (Ne.symm hji)) h3.1 ?_) h2
      rw [Array.setIfInBounds_comm _ _ hji]
      exact h3.2

/-- What has come: with each operation all that it waits for. -/
def Closed (md : Region.Mode) (ops : Array Oper) (listed : Array Bool) : Prop :=
  ∀ k ok, ops[k]? = some ok → listed.getD k false = true → ∀ e ∈ ok.after, Region.binds md e = true → listed.getD e.on false = true
theorem getD_set {listed : Array Bool} {i k : Nat} (h : listed.getD k false = true) : (listed.setIfInBounds i true).getD k false = true := by
  by_cases e : i = k
  · subst e
    rcases Nat.lt_or_ge i listed.size with h' | h'
    · simp [h']
    · simp [Array.getElem?_eq_none h'] at h
  · rw [getD_set_ne false e]; exact h
theorem Closed.set {listed : Array Bool} {i : Nat} (h : Closed md ops listed) (hr : i ∈ Region.ready md ops listed) : Closed md ops (listed.setIfInBounds i true) := by
  intro k ok hk hl e he hb
  by_cases hik : i = k
  · subst hik
    obtain ⟨_, oi, hoi, hall⟩ := mem_ready.1 hr
    rw [hoi] at hk; cases hk
    exact getD_set (hall e he hb)
  · rw [getD_set_ne false hik] at hl
    exact getD_set (h k ok hk hl e he hb)
theorem Closed.start (n : Nat) : Closed md ops (Array.replicate n false) := by
  intro k ok hk hl
  exfalso
  have : (Array.replicate n false).getD k false = false := by
    simp only [Array.getD_eq_getD_getElem?, Array.getElem?_replicate]
    split <;> rfl
  rw [this] at hl
  cases hl

/-- An effect may be taken first, where no other one can come ahead of it. -/
theorem wpAnyX_eff {Q : Act → World → Prop} {i : Nat} {oi : Oper} {R : Value → World → Prop} (hi : ops[i]? = some oi) (hei : eff i = true) (hsel : ∀ (j : Nat) (o : Oper) cs b, ops[j]? = some o → o.op ≠ .select cs b)
    (hRD : ∀ u w, R u w → D w) :
    ∀ (fuel : Nat) (listed : Array Bool) (C : World → Prop) (a : Act), (∃ w, C w) →
      (∀ j oj, ops[j]? = some oj → j ≠ i → listed.getD j true = false → (∀ e ∈ oj.after, Region.binds md e = true → e.on ≠ i) → oi.apart ops oj = true) →
      Closed md ops listed →
      (∀ l : Array Bool, Closed md ops l → (∀ k, listed.getD k false = true → l.getD k false = true) → l.getD i true = false → ∀ j ∈ Region.ready md ops l, j ≠ i → eff j = false) →
      i ∈ Region.ready md ops listed → Region.wanted oi (yielded ops a.tmps) = true → (∀ w, C w → effAt P oi a w R) →
      (∀ u, (∃ w, R u w) → wpAnyX P md ops D eff Q fuel (listed.setIfInBounds i true) (R u) (a.put oi.dst u)) → wpAnyX P md ops D eff Q (fuel + 1) listed C a := by
  intro fuel
  induction fuel with
  | zero =>
    intro listed C a hne _ _ _ hr hw hE H
    refine ⟨fun h => (by rw [h] at hr; cases hr), fun j hj => ?_⟩
    by_cases hji : j = i
    · subst hji
      unfold xOp
      simp only [hi, hw, if_true, xOper, hei]
      exact ⟨R, hE, hRD, H⟩
    · obtain ⟨w0, hw0⟩ := hne
      obtain ⟨u, w', hu⟩ := eff_some (hE w0 hw0)
      have := ready_mono hj hji
      rw [(H u ⟨w', hu⟩).1] at this
      cases this
  | succ fuel ih =>
    intro listed C a hne hfree hcl hch hr hw hE H
    refine ⟨fun h => (by rw [h] at hr; cases hr), fun j hj => ?_⟩
    by_cases hji : j = i
    · subst hji
      unfold xOp
      simp only [hi, hw, if_true, xOper, hei]
      exact ⟨R, hE, hRD, H⟩
    · obtain ⟨w0, hw0⟩ := hne
      obtain ⟨u0, w1, hu0⟩ := eff_some (hE w0 hw0)
      obtain ⟨hjun, oj, hoj, hall⟩ := mem_ready.1 hj
      have hej := hch listed hcl (fun _ h => h) (mem_ready.1 hr).1 j hj hji
      obtain ⟨h1, h2, h3⟩ := Oper.apart_spec (hfree j oj hoj hji hjun (not_on hr hall))
      have hsi := fun cs b => hsel i oi cs b hi
      have hsj := fun cs b => hsel j oj cs b hoj
      have hfree' : ∀ k ok, ops[k]? = some ok → k ≠ i → (listed.setIfInBounds j true).getD k true = false →
          (∀ e ∈ ok.after, Region.binds md e = true → e.on ≠ i) → oi.apart ops ok = true := fun k ok hk hki hun hno => by
        refine hfree k ok hk hki ?_ hno
        by_cases hjk : j = k
        · subst hjk; exact hjun
        · rw [getD_set_ne true hjk] at hun; exact hun
      have hk : ∀ u, (∃ w, R u w) → xOp P ops D eff j (wpAnyX P md ops D eff Q fuel ((listed.setIfInBounds i true).setIfInBounds j true)) (R u) (a.put oi.dst u) := fun u hu => (H u hu).2 j (ready_mono hj hji)
      have go : ∀ v, (∀ u, (∃ w, R u w) → wpAnyX P md ops D eff Q fuel ((listed.setIfInBounds i true).setIfInBounds j true) (R u) ((a.put oi.dst u).put oj.dst v)) →
          wpAnyX P md ops D eff Q (fuel + 1) (listed.setIfInBounds j true) C (a.put oj.dst v) := fun v hv => by
        refine ih (listed.setIfInBounds j true) C (a.put oj.dst v) ⟨w0, hw0⟩ hfree' (hcl.set hj) ?_ (ready_mono hr (Ne.symm hji)) ?_ ?_ ?_
        · intro l hl hsub; exact hch l hl (fun k hk => hsub k (getD_set hk))
        · rw [wanted_put oi a oj.dst v h3]; exact hw
        · intro w hw'; rw [effAt_same (execOp_put oi hsi a oj.dst v h3)]; exact hE w hw'
        · intro u hu
          rw [Array.setIfInBounds_comm _ _ hji, ← Act.put_comm a u v h2]
          exact hv u hu
      unfold xOp at hk ⊢
      simp only [hoj, xOper, hej, Bool.false_eq_true, if_false] at hk ⊢
      have hwp : ∀ u, Region.wanted oj (yielded ops (a.put oi.dst u).tmps) = Region.wanted oj (yielded ops a.tmps) := fun u => wanted_put oj a oi.dst u h1
      simp only [hwp] at hk
      split
      · rename_i hwj
        simp only [hwj, if_true] at hk
        obtain ⟨v, hv, _⟩ := hk u0 ⟨w1, hu0⟩
        have hv' : ∀ w : InD D, plainAt P oj a w.1 v := fun w => by rw [← plainAt_same (execOp_put oj hsj a oi.dst u0 h1)]; exact hv w
        refine ⟨v, hv', go v fun u hu => ?_⟩
        obtain ⟨v2, hv2, hK⟩ := hk u hu
        have e : v2 = v := by
          have d := hRD _ _ hu0
          have a1 := hv2 ⟨w1, d⟩
          rw [plainAt_same (execOp_put oj hsj a oi.dst u h1)] at a1
          exact plain_one a1 (hv' ⟨w1, d⟩)
        subst e
        exact hK
      · rename_i hwj
        simp only [hwj] at hk
        exact go undef fun u hu => hk u hu

/-- Operation j waits for i, by so many steps at most. -/
def waits (md : Region.Mode) (ops : Array Oper) : Nat → Nat → Nat → Bool
  | 0, _, _ => false
  | n + 1, j, i => match ops[j]? with
    | some o => o.after.toList.any fun e => Region.binds md e && (e.on == i || waits md ops n e.on i)
    | none => false
/-- Each waits for the one ahead of it. -/
def chained (md : Region.Mode) (ops : Array Oper) : List Nat → Bool
  | i :: j :: l => waits md ops 4 j i && chained md ops (j :: l)
  | _ => true

theorem waits_no {i : Nat} {l : Array Bool} (hcl : Closed md ops l) (hi : l.getD i false = false) : ∀ (n j : Nat) (o : Oper), waits md ops n j i = true → ops[j]? = some o → (∀ e ∈ o.after, Region.binds md e = true → l.getD e.on false = true) → False
  | 0, _, _, h, _, _ => by simp [waits] at h
  | n + 1, j, o, h, ho, hall => by
    simp only [waits, ho, List.any_eq_true, Bool.and_eq_true, Bool.or_eq_true, beq_iff_eq] at h
    obtain ⟨e, he, hb, h⟩ := h
    have h1 := hall e (by simpa using he) hb
    rcases h with h | h
    · rw [h] at h1; rw [h1] at hi; cases hi
    · cases n with
      | zero => simp [waits] at h
      | succ n =>
        cases ho' : ops[e.on]? with
        | none => simp [waits, ho'] at h
        | some o' => exact waits_no hcl hi (n + 1) e.on o' h ho' (hcl e.on o' ho' h1)

theorem getD_false {l : Array Bool} {i : Nat} (h : l.getD i true = false) : l.getD i false = false := by
  rw [Array.getD_eq_getD_getElem?] at *
  cases e : l[i]? with
  | none => rw [e] at h; cases h
  | some b => rw [e] at h; simpa using h

theorem chained_no {l : Array Bool} (hcl : Closed md ops l) : ∀ (ch : List Nat) (i : Nat), chained md ops (i :: ch) = true → l.getD i false = false → ∀ j ∈ ch, l.getD j false = false ∧ j ∉ Region.ready md ops l
  | [], _, _, _, j, hj => by cases hj
  | k :: ch, i, h, hi, j, hj => by
    simp only [chained, Bool.and_eq_true] at h
    have hk : l.getD k false = false ∧ k ∉ Region.ready md ops l := by
      cases ho : ops[k]? with
      | none => have := h.1; simp [waits, ho] at this
      | some o =>
        refine ⟨?_, fun hr => ?_⟩
        · cases hl : l.getD k false with
          | false => rfl
          | true => exact (waits_no hcl hi 4 k o h.1 ho (hcl k o ho hl)).elim
        · obtain ⟨_, o', ho', hall⟩ := mem_ready.1 hr
          rw [ho] at ho'; cases ho'
          exact waits_no hcl hi 4 k o h.1 ho hall
    rcases List.mem_cons.1 hj with rfl | hj
    · exact hk
    · exact chained_no hcl ch k h.2 hk.1 j hj

theorem wpAnyX_lex {Q : Act → World → Prop} (hs : Region.noSelect ops = true) (ch0 : List Nat) (heff : ∀ k, eff k = true → k ∈ ch0) : ∀ (l : List Oper) (k : Nat) (listed : Array Bool) (ch : List Nat) (C : World → Prop) (a : Act), (∃ w, C w) → (∀ j, l[j]? = ops[k + j]?) →
    Region.lexFrom md ops l.length k listed = true → Closed md ops listed → chained md ops ch = true → (∀ j ∈ ch0, j ∈ ch ∨ listed.getD j false = true) → (∀ j ∈ ch, k ≤ j) → ch.Pairwise (· < ·) →
    wpX P ops D eff Q k l C a → wpAnyX P md ops D eff Q l.length listed C a
  | [], _, _, _, _, _, _, _, hB, _, _, _, _, _, h => ⟨by simpa [Region.lexFrom] using hB, h⟩
  | o :: l, k, listed, ch, C, a, hne, hl, hB, hcl, hchd, hin, hge, hpw, h => by
    have h0 : ops[k]? = some o := by simpa using (hl 0).symm
    have hl' : ∀ j, l[j]? = ops[(k + 1) + j]? := fun j => by have := hl (j + 1); simpa [Nat.add_assoc, Nat.add_comm 1 j] using this
    simp only [List.length_cons, Region.lexFrom, Bool.and_eq_true] at hB
    obtain ⟨⟨hr, hf⟩, hB'⟩ := hB
    have hr' : k ∈ Region.ready md ops listed := by simpa using hr
    have hku := (mem_ready.1 hr').1
    -- what is left of the chain behind k
    obtain ⟨ch', hchd', hin', hge', hpw', hk'⟩ : ∃ ch', chained md ops ch' = true ∧ (∀ j ∈ ch0, j ∈ ch' ∨ (listed.setIfInBounds k true).getD j false = true) ∧ (∀ j ∈ ch', k + 1 ≤ j) ∧ ch'.Pairwise (· < ·) ∧
        (eff k = true → ∀ l : Array Bool, Closed md ops l → (∀ j, listed.getD j false = true → l.getD j false = true) → l.getD k true = false → ∀ j ∈ Region.ready md ops l, j ≠ k → eff j = false) := by
      have hset : ∀ j, listed.getD j false = true → (listed.setIfInBounds k true).getD j false = true := fun j h => getD_set h
      have hnl : ∀ (l : Array Bool) j, j ∈ Region.ready md ops l → l.getD j false = false := fun l j hj => getD_false (mem_ready.1 hj).1
      have hksz : k < listed.size := by
        rcases Nat.lt_or_ge k listed.size with h' | h'
        · exact h'
        · rw [Array.getD_eq_getD_getElem?, Array.getElem?_eq_none h'] at hku; cases hku
      cases ch with
      | nil =>
        refine ⟨[], rfl, fun j hj => .inr (hset j ((hin j hj).resolve_left (by simp))), by simp, by simp, fun hek => ?_⟩
        have := (hin k (heff k hek)).resolve_left (by simp)
        rw [getD_false hku] at this; cases this
      | cons i ch =>
        by_cases hik : i = k
        · subst hik
          refine ⟨ch, ?_, fun j hj => ?_, fun j hj => (List.pairwise_cons.1 hpw).1 j hj, (List.pairwise_cons.1 hpw).2, fun _ l hcl' hsub hli j hj hji => ?_⟩
          · cases ch with
            | nil => rfl
            | cons => simp only [chained, Bool.and_eq_true] at hchd; exact hchd.2
          · rcases hin j hj with h | h
            · rcases List.mem_cons.1 h with rfl | h
              · exact .inr (by simp [hksz])
              · exact .inl h
            · exact .inr (hset j h)
          · cases hej : eff j with
            | false => rfl
            | true =>
              exfalso
              rcases hin j (heff j hej) with h | h
              · rcases List.mem_cons.1 h with rfl | h
                · exact hji rfl
                · exact (chained_no hcl' ch i hchd (getD_false hli) j h).2 hj
              · have := hsub j h; rw [hnl l j hj] at this; cases this
        · refine ⟨i :: ch, hchd, fun j hj => (hin j hj).imp id (hset j), fun j hj => ?_, hpw, fun hek => ?_⟩
          · have h1 : k < i := by have := hge i (List.mem_cons_self ..); omega
            rcases List.mem_cons.1 hj with rfl | hj
            · exact h1
            · have := (List.pairwise_cons.1 hpw).1 j hj; omega
          · exfalso
            rcases hin k (heff k hek) with h | h
            · rcases List.mem_cons.1 h with h | h
              · exact hik h.symm
              · have h1 := (List.pairwise_cons.1 hpw).1 k h
                have h2 := hge i (List.mem_cons_self ..)
                omega
            · rw [getD_false hku] at h; cases h
    have next : ∀ C' a', (∃ w, C' w) → wpX P ops D eff Q (k + 1) l C' a' → wpAnyX P md ops D eff Q l.length (listed.setIfInBounds k true) C' a' := fun C' a' hne' h' =>
      wpAnyX_lex hs ch0 heff l (k + 1) _ ch' C' a' hne' hl' hB' (hcl.set hr') hchd' hin' hge' hpw' h'
    simp only [wpX] at h
    split at h
    · rename_i hw
      unfold xOper at h
      cases he : eff k with
      | true =>
        simp only [he, if_true] at h
        obtain ⟨R, h1, h2, h3⟩ := h
        exact wpAnyX_eff h0 he (Region.noSelect_spec hs) h2 l.length listed C a hne (Region.free_spec h0 hf) hcl (hk' he) hr' hw h1 (fun u hu => next _ _ hu (h3 u hu))
      | false =>
        simp only [he, Bool.false_eq_true, if_false] at h
        obtain ⟨v, h1, h2⟩ := h
        exact wpAnyX_quiet h0 (Region.noSelect_spec hs) l.length listed C a hne (Region.free_spec h0 hf) hr' (.inl ⟨hw, he, h1⟩) (next _ _ hne h2)
    · rename_i hw
      exact wpAnyX_quiet h0 (Region.noSelect_spec hs) l.length listed C a hne (Region.free_spec h0 hf) hr' (.inr ⟨by simpa using hw, rfl⟩) (next _ _ hne h)

/-- The effects of a region, in order, are those that a list says. -/
def effOf (ch : List Nat) (k : Nat) : Bool := ch.contains k
def rising : List Nat → Bool
  | i :: j :: l => decide (i < j) && rising (j :: l)
  | _ => true
theorem rising_pw : ∀ (l : List Nat), rising l = true → l.Pairwise (· < ·)
  | [], _ => List.Pairwise.nil
  | [_], _ => List.pairwise_singleton ..
  | i :: j :: l, h => by
    simp only [rising, Bool.and_eq_true, decide_eq_true_eq] at h
    have ih := rising_pw (j :: l) h.2
    refine List.pairwise_cons.2 ⟨fun k hk => ?_, ih⟩
    rcases List.mem_cons.1 hk with rfl | hk
    · exact h.1
    · have := (List.pairwise_cons.1 ih).1 k hk; omega

/-- One walk in the text's order serves every order. 'ch': the operations that are not quiet; 'D': what holds of every world on the way. -/
theorem wp_region_x (ch : List Nat) (D : World → Prop) {id : Nat} {Q : Exit → Act → World → Prop} {a : Act} {w : World} {l : List Oper} (hm : P.follows .mixedOrders = true)
    (hB : (Region.lexB .any l.toArray && chained .any l.toArray ch && rising ch) = true) (hD : D w.drew)
    (h : wpX P l.toArray D (effOf ch) (fun a' w' => Q .normal a' w') 0 l (fun w' => w' = w.drew) a) : (Code.region id l.toArray true).wp P Q a w := by
  simp only [Region.lexB, Bool.and_eq_true] at hB
  obtain ⟨⟨⟨hs, hlex⟩, hch⟩, hri⟩ := hB
  refine wp_region_any hm (wpAny_of_X (D := D) (eff := effOf ch) (Q := fun a' w' => Q .normal a' w') (fun _ _ h => h) _ _ (fun w' => w' = w.drew) _ _ rfl hD ?_)
  have := wpAnyX_lex (P := P) (D := D) (Q := fun a' w' => Q .normal a' w') (eff := effOf ch) hs ch (fun k hk => by simpa [effOf] using hk) l 0 (Array.replicate l.toArray.size false) ch (fun w' => w' = w.drew) a ⟨_, rfl⟩ (by simp) (by simpa using hlex) (Closed.start _) hch
    (fun j hj => .inl hj) (by simp) (rising_pw _ hri) h
  simpa using this

/-- The same, the class behind a name. -/
theorem wp_region_y (ch : List Nat) (D : World → Prop) {id : Nat} {Q : Exit → Act → World → Prop} {a : Act} {w : World} {l : List Oper} (hm : P.follows .mixedOrders = true)
    (hB : (Region.lexB .any l.toArray && chained .any l.toArray ch && rising ch) = true) (hD : D w.drew)
    (h : ∀ (E : World → Prop), Nonempty (InD E) → (∀ w' : InD E, D w'.val) → (∀ w', D w' → E w') → wpX P l.toArray E (effOf ch) (fun a' w' => Q .normal a' w') 0 l (fun w' => w' = w.drew) a) : (Code.region id l.toArray true).wp P Q a w :=
  wp_region_x ch D hm hB hD (h D ⟨⟨_, hD⟩⟩ (fun w' => w'.property) (fun _ h => h))

theorem wpX_weaken {Q : Act → World → Prop} : ∀ (l : List Oper) (k : Nat) (C C' : World → Prop) (a : Act), (∀ w, C w → C' w) → wpX P ops D eff Q k l C' a → wpX P ops D eff Q k l C a
  | [], _, _, _, _, hc, h => fun w hw => h w (hc w hw)
  | o :: l, k, C, C', a, hc, h => by
    simp only [wpX] at *
    split
    · rename_i hw
      simp only [hw, if_true] at h
      unfold xOper at *
      cases he : eff k with
      | true =>
        simp only [he, if_true] at *
        obtain ⟨R, h1, h2, h3⟩ := h
        exact ⟨R, fun w hw => h1 w (hc w hw), h2, h3⟩
      | false =>
        simp only [he, Bool.false_eq_true, if_false] at *
        obtain ⟨v, h1, h2⟩ := h
        exact ⟨v, h1, wpX_weaken l (k + 1) C C' _ hc h2⟩
    · rename_i hw
      simp only [hw] at h
      exact wpX_weaken l (k + 1) C C' _ hc h

/-- The same where what comes leaves all that was there as it was. -/
theorem wp_region_b (ch : List Nat) {id : Nat} {Q : Exit → Act → World → Prop} {a : Act} {w : World} {l : List Oper} (hm : P.follows .mixedOrders = true)
    (hB : (Region.lexB .any l.toArray && chained .any l.toArray ch && rising ch) = true)
    (h : ∀ (E : World → Prop), Nonempty (InD E) → (∀ w' : InD E, Below w.heap.size w w'.val) → (∀ w', Below w.heap.size w w' → E w') → wpX P l.toArray E (effOf ch) (fun a' w' => Q .normal a' w') 0 l E a) : (Code.region id l.toArray true).wp P Q a w :=
  wp_region_y ch (fun w' => Below w.heap.size w w') hm hB (Below.refl _ _).drew fun E hn h1 h2 => wpX_weaken l 0 _ E a (fun _ hw => by subst hw; exact h2 _ (Below.refl _ _).drew) (h E hn h1 h2)

theorem wpX_step {Q : Act → World → Prop} {k : Nat} {o : Oper} {rest : List Oper} {C : World → Prop} {a : Act}
    (h : ∀ K : (World → Prop) → Act → Prop, (∀ C a, wpX P ops D eff Q (k + 1) rest C a → K C a) → if Region.wanted o (yielded ops a.tmps) then xOper P D (eff k) o C a K else K C (a.put o.dst undef)) : wpX P ops D eff Q k (o :: rest) C a :=
  h _ (fun _ _ h => h)
theorem wpX_nil {Q : Act → World → Prop} {k : Nat} {C : World → Prop} {a : Act} (h : ∀ w, C w → Q a w) : wpX P ops D eff Q k [] C a := h
end
attribute [go_sem] xOper plainAt plainUpon effAt effUpon effOf
end Go.Proofs.YtdllibalmjadhaaGreat

namespace Go.Proofs.YtdllibalmjadhaaGreat
open Go Go.RowKit

/-- The steps from one value to another one. -/
def far (a b : Nat) : Nat := (b + 4294967296 - a) % 4294967296
/-- How many values a span has. -/
def spanSize (f t : Nat) : Nat := if f = t then 4294967296 else far f t
/-- A value's next one. -/
def succ32 (a : Nat) : Nat := (a + 1) % 4294967296
def spanHas (f t v : Nat) : Bool := decide (far (succ32 f) v < spanSize f t)

theorem far_lt (a b : Nat) : far a b < 4294967296 := Nat.mod_lt _ (by decide)
theorem succ32_lt (a : Nat) : succ32 a < 4294967296 := Nat.mod_lt _ (by decide)
theorem wrap_sub (a b : Nat) (ha : a < 4294967296) (hb : b < 4294967296) : IntKind.u32.wrap ((b : Int) - (a : Int)) = (far a b : Nat) := by
  unfold far; simp [IntKind.wrap, IntKind.signed, IntKind.bits]; omega
theorem wrap_succ (a : Nat) : IntKind.u32.wrap ((a : Int) + 1) = (succ32 a : Nat) := by
  unfold succ32; simp [IntKind.wrap, IntKind.signed, IntKind.bits]

theorem far_any (a b : Nat) (ha : a < 4294967296) (hb : b < 4294967296) (w : World) : Calls Tryz.prog 89 #[.int .u32 a, .int .u32 b] w fun e w' => e = .returned (.int .u32 (far a b : Nat)) ∧ w = w' := by
  have h := wrap_sub a b ha hb
  go_enter Tryz.func89, Tryz.ntmps89
  go_wp2
  go_ret
  exact ⟨rfl, rfl⟩

theorem size_any (f t : Nat) (hf : f < 4294967296) (ht : t < 4294967296) (w : World) : Calls Tryz.prog 90 #[.agg #[.int .u32 f, .int .u32 t]] w fun e w' => e = .returned (.int .u64 (spanSize f t : Nat)) ∧ Below w.heap.size w w' := by
  by_cases h : f = t
  · have hs : spanSize f t = 4294967296 := by simp [spanSize, h]
    rw [hs]
    subst h
    go_enter Tryz.func90, Tryz.ntmps90
    go_wp2
    go_ret
    exact ⟨rfl, (Below.refl _ _).alloc (Nat.le_refl _) _⟩
  · have hs : spanSize f t = far f t := by simp [spanSize, h]
    rw [hs]
    have h1 : ((f : Int) == (t : Int)) = false := by simp; omega
    have hfar := far_lt f t
    go_enter Tryz.func90, Tryz.ntmps90
    go_wp2_with (go_at_call 89; refine (far_any f t hf ht _).mono ?_; rintro e w' ⟨rfl, rfl⟩)
    go_ret
    exact ⟨rfl, (Below.refl _ _).alloc (Nat.le_refl _) _⟩

theorem has_any (f t v : Nat) (hf : f < 4294967296) (ht : t < 4294967296) (hv : v < 4294967296) (w : World) : Calls Tryz.prog 91 #[.agg #[.int .u32 f, .int .u32 t], .int .u32 v] w fun e w' => e = .returned (.bool (spanHas f t v)) ∧ Below w.heap.size w w' := by
  have hw := wrap_succ f
  have hs := succ32_lt f
  have hfar := far_lt (succ32 f) v
  have hw64 : IntKind.u64.wrap ((far (succ32 f) v : Nat) : Int) = (far (succ32 f) v : Nat) := by simp [IntKind.wrap, IntKind.signed, IntKind.bits]; omega
  go_enter Tryz.func91, Tryz.ntmps91
  go_wp2_with (fail)
  refine wp_region_b [4, 7] (by kernel_rfl) (by kernel_rfl) ?_
  intro E _ hE hI
  have h0 : ∀ w' : InD E, w'.val.cell? ⟨w.heap.size, 0, none⟩ = some (.int .u32 f) := fun w' => stays (hE w') (by simp)
  have h1 : ∀ w' : InD E, w'.val.cell? ⟨w.heap.size, 1, none⟩ = some (.int .u32 t) := fun w' => stays (hE w') (by simp)
  repeat (refine wpX_step (fun K hK => ?_); go_simp; refine hK _ _ ?_; clear hK K)
  refine wpX_step (fun K hK => ?_); go_simp
  refine ⟨fun u w' => u = .int .u32 (far (succ32 f) v : Nat) ∧ E w', fun w' hw' => (far_any _ _ hs hv _).mono fun e w'' ⟨he, hb⟩ => ⟨_, he, rfl, by subst hb; exact hw'⟩, fun u w h => h.2, ?_⟩
  rintro u x ⟨rfl, _⟩
  refine hK _ _ ?_
  clear hK K
  repeat (refine wpX_step (fun K hK => ?_); go_simp; refine hK _ _ ?_; clear hK K)
  refine wpX_step (fun K hK => ?_); go_simp
  refine ⟨fun u w' => u = .int .u64 (spanSize f t : Nat) ∧ E w', fun w' hw' => (size_any _ _ hf ht _).mono fun e w'' ⟨he, hb⟩ => ⟨_, he, rfl, hI _ (below_trans (hE ⟨w', hw'⟩) hb)⟩, fun u w h => h.2, ?_⟩
  rintro u x ⟨rfl, _⟩
  refine hK _ _ ?_
  clear hK K
  repeat (refine wpX_step (fun K hK => ?_); go_simp; refine hK _ _ ?_; clear hK K)
  refine wpX_nil ?_
  intro w' hw'
  have hd := hE ⟨w', hw'⟩
  go_wp2
  go_ret
  exact ⟨by simp [spanHas], below_trans ((Below.refl _ _).alloc (Nat.le_refl _) _) hd⟩
end Go.Proofs.YtdllibalmjadhaaGreat

namespace Go.Proofs.YtdllibalmjadhaaGreat
open Go Go.RowKit

/-- The slice v owns the chunk c: n elements of so many cells, the cells xs. -/
def Row (e : TypeId) (size : Nat) (c : Chunk) (v : Value) (n : Nat) (xs : List Value) : Prop :=
  xs.length = n * size ∧ ((v = .slice none 0 0 ∧ n = 0 ∧ c = []) ∨
    ∃ g cap cur, v = .slice (some ⟨g, 0, none⟩) n cap ∧ c = [(g, .cells cur e (0, 0))] ∧ n ≤ cap ∧ cap ≤ maxLen ∧ cur.size = cap * size ∧ cur.toList.take (n * size) = xs)

theorem Row.nil (e : TypeId) (size : Nat) : Row e size [] (.slice none 0 0) 0 [] := ⟨by simp, .inl ⟨rfl, rfl, rfl⟩⟩
theorem Row.slice {e : TypeId} {size : Nat} {c : Chunk} {v : Value} {n : Nat} {xs : List Value} (h : Row e size c v n xs) : ∃ a cap, v = .slice a n cap := by
  rcases h.2 with ⟨h, hn, _⟩ | ⟨g, cap, cur, h, _⟩
  · exact ⟨none, 0, by rw [h, hn]⟩
  · exact ⟨_, cap, h⟩
theorem Row.own {e : TypeId} {size : Nat} {c : Chunk} {v : Value} {n : Nat} {xs : List Value} (h : Row e size c v n xs) {w : World} {fr : Chunk} (hok : Ok w (c ++ fr)) : w.ownsRow 0 e size v n xs := by
  refine ⟨h.1, ?_⟩
  rcases h.2 with ⟨h, hn, _⟩ | ⟨g, cap, cur, h, hc, h1, h2, h3, h4⟩
  · exact .inl ⟨h, hn⟩
  · exact .inr ⟨g, cap, cur, h, Nat.zero_le _, hok.get (by rw [hc]; simp), h1, h2, h3, h4⟩

/-- Behind a law that lets a row grow. -/
theorem Row.grown {e : TypeId} {size : Nat} {c : Chunk} {v : Value} {n : Nat} {xs : List Value} (h : Row e size c v n xs) {w w' : World} {fr : Chunk} (hok : Ok w (c ++ fr)) {v' : Value} {n' : Nat} {xs' : List Value}
    (hown : w'.ownsRow 0 e size v' n' xs') (hg : w.grownBy w' v.ownBlock) (hloc : v'.ownBlock = v.ownBlock ∨ v'.ownBlock = some w.heap.size) :
    ∃ c', Row e size c' v' n' xs' ∧ Ok w' (c' ++ fr) ∧ Same w w' := by
  have hkeep : ∀ b o, (b, o) ∈ fr → w'.heap[b]? = w.heap[b]? := by
    intro b o hb
    refine hg.block b (hok.lt (List.mem_append_right _ hb)) (fun e' => ?_)
    rcases h.2 with ⟨h, hn, _⟩ | ⟨g, cap, cur, h, hc, _⟩
    · rw [h] at e'; cases e'
    · rw [h] at e'
      have hgb : b = g := by simpa [Value.ownBlock] using e'
      subst hgb
      subst hc
      exact hok.ne (List.mem_map.2 ⟨(b, o), hb, rfl⟩) rfl
  have hfr : Ok w' fr := hok.right.ofHeap hkeep
  refine (?_ : ∃ c', Row e size c' v' n' xs' ∧ Ok w' (c' ++ fr)).elim fun c' hc' => ⟨c', hc'.1, hc'.2, hg.os, hg.tape, hg.output⟩
  obtain ⟨hl, hown⟩ := hown
  rcases hown with ⟨hv, hn⟩ | ⟨g', cap', cur', hv, _, hb, h1, h2, h3, h4⟩
  · exact ⟨[], ⟨hl, .inl ⟨hv, hn, rfl⟩⟩, hfr⟩
  · refine ⟨[(g', .cells cur' e (0, 0))], ⟨hl, .inr ⟨g', cap', cur', hv, rfl, h1, h2, h3, h4⟩⟩, ⟨?_, ?_⟩⟩
    · simp only [List.cons_append, List.nil_append, List.map_cons, List.nodup_cons]
      refine ⟨fun hm => ?_, hfr.nd⟩
      rw [hv] at hloc
      simp only [Value.ownBlock] at hloc
      rcases hloc with hloc | hloc
      · rcases h.2 with ⟨h, hn, _⟩ | ⟨g, cap, cur, h, hc, _⟩
        · rw [h] at hloc; cases hloc
        · rw [h] at hloc
          have : g' = g := by simpa using hloc
          subst this
          subst hc
          exact hok.ne hm rfl
      · have : g' = w.heap.size := by simpa using hloc
        have := hok.right.lt' hm
        omega
    · intro b o hm
      rcases List.mem_cons.1 hm with he | hm
      · obtain ⟨rfl, rfl⟩ := Prod.mk.inj he; exact hb
      · exact hfr.get hm

section
variable {P : Program}

/-- append of a slice that is not nil. -/
theorem row_append {w : World} {c fr : Chunk} {e : TypeId} {size : Nat} {v : Value} {n : Nat} {xs : List Value} (hok : Ok w (c ++ fr)) (hrow : Row e size c v n xs)
    (t ty : TypeId) (i : TypeInfo) (z : Value) (bytes : Nat) (ht : P.underlying t = some (.slice e)) (hi : P.info? e = some i) (hz : i.zero = some z)
    (hsize : i.size = size) (hby : i.bytes = bytes) (hzs : z.cells.size = size) (hsz : 0 < size)
    (a : Addr) (m cp : Nat) (news : List Value) (hl : news.length = m * size) (hnews : ∀ (j : Nat) u, news[j]? = some u → w.cell? (a.add j) = some u) (h1 : ∀ u ∈ news, u.oneCell' = true)
    (h63 : n + m ≤ maxLen) (hbytes : (n + m) * bytes ≤ 140737488355328) :
    ∃ v' w' c', (Builtin.append_ #[t, t] ty #[v, .slice (some a) m cp]).run P w = .ok v' w' ∧ Row e size c' v' (n + m) (xs ++ news) ∧ Ok w' (c' ++ fr) ∧ Same w w' ∧ w.grownBy w' v.ownBlock ∧ (v' = .slice none 0 0 ↔ v = .slice none 0 0 ∧ m = 0) := by
  obtain ⟨v', w', hr, ho, hg, hn, hloc⟩ := run_append_own_at (P := P) w 0 t ty e i z size bytes ht hi hz hsize hby hzs hsz v n xs (hrow.own hok) a m cp news hl hnews h1 h63 hbytes (Nat.zero_le _)
  obtain ⟨c', h2, h3, h4⟩ := hrow.grown hok ho hg hloc
  exact ⟨v', w', c', hr, h2, h3, h4, hg, hn⟩

/-- append of nil. -/
theorem run_append_nil (t ty e : TypeId) (i : TypeInfo) (ht : P.underlying t = some (.slice e)) (hi : P.info? e = some i) (a : Option Addr) (n cap : Nat) (hc : n ≤ cap) (w : World) :
    (Builtin.append_ #[t, t] ty #[.slice a n cap, .slice none 0 0]).run P w = .ok (.slice a n cap) w := by
  cases a <;> simp [Builtin.append_, run_underlying ht, Builtin.lenOf, sizeOf, hi, hc, Builtin.firstCells, storeCells, typeInfo]

theorem wpList_app {ops : Array Oper} {rest : List Oper} {o : Oper} {a : Act} {Q : Exit → Act → World → Prop} {w : World} (hgd : o.guard = none) (s x : Operand) (t u : TypeId)
    (ho : o.op = .call { callee := .builtin .append, args := #[s, x], argTypes := #[t, u] }) {vs vx : Value} (hs : a.eval s = vs) (hx : a.eval x = vx) {v' : Value} {w' : World}
    (hr : (Builtin.append_ #[t, u] o.type #[vs, vx]).run P w = .ok v' w') (h : wpList P ops Q rest (a.put o.dst v') w') : wpList P ops Q (o :: rest) a w := by
  refine wpList_plain hgd fun K hK => ?_
  unfold Oper.wp execOp
  simp only [ho, resolve, invoke, builtin, Sem.run_bind, Sem.run_pure, Result.andThen_ok, List.map_toArray, List.map_cons, List.map_nil, hs, hx, hr]
  exact hK _ _ h

theorem exec_builtin2 (o : Oper) (a : Act) (w : World) (b : Builtin) (s x : Operand) (ts : Array TypeId) (f : Array TypeId → TypeId → Array Value → Sem Value) (hf : ∀ cs args, builtin b ts o.type cs args = (do pure (.value (← f ts o.type args))))
    (ho : o.op = .call { callee := .builtin b, args := #[s, x], argTypes := ts }) {vs vx : Value} (hs : a.eval s = vs) (hx : a.eval x = vx) {v' : Value} {w' : World}
    (hr : (f ts o.type #[vs, vx]).run P w = .ok v' w') : (execOp a.eval o).run P w = .ok (.value v') w' := by
  unfold execOp
  simp only [ho, resolve, invoke, hf, Sem.run_bind, Sem.run_pure, Result.andThen_ok, List.map_toArray, List.map_cons, List.map_nil, hs, hx, hr]

theorem wpList_val {ops : Array Oper} {rest : List Oper} {o : Oper} {a : Act} {Q : Exit → Act → World → Prop} {w : World} (hgd : o.guard = none) {v' : Value} {w' : World}
    (hr : (execOp a.eval o).run P w = .ok (.value v') w') (h : wpList P ops Q rest (a.put o.dst v') w') : wpList P ops Q (o :: rest) a w := by
  refine wpList_plain hgd fun K hK => ?_
  unfold Oper.wp
  rw [hr]
  exact hK _ _ h

theorem wpList_cpy {ops : Array Oper} {rest : List Oper} {o : Oper} {a : Act} {Q : Exit → Act → World → Prop} {w : World} (hgd : o.guard = none) (s x : Operand) (t u : TypeId)
    (ho : o.op = .call { callee := .builtin .copy, args := #[s, x], argTypes := #[t, u] }) {vs vx : Value} (hs : a.eval s = vs) (hx : a.eval x = vx) {v' : Value} {w' : World}
    (hr : (Builtin.copy_ #[t, u] o.type #[vs, vx]).run P w = .ok v' w') (h : wpList P ops Q rest (a.put o.dst v') w') : wpList P ops Q (o :: rest) a w :=
  wpList_val hgd (exec_builtin2 o a w .copy s x #[t, u] Builtin.copy_ (fun _ _ => rfl) ho hs hx hr) h
theorem wpList_del {ops : Array Oper} {rest : List Oper} {o : Oper} {a : Act} {Q : Exit → Act → World → Prop} {w : World} (hgd : o.guard = none) (s x : Operand) (t u : TypeId)
    (ho : o.op = .call { callee := .builtin .delete, args := #[s, x], argTypes := #[t, u] }) {vs vx : Value} (hs : a.eval s = vs) (hx : a.eval x = vx) {v' : Value} {w' : World}
    (hr : (Builtin.delete_ #[t, u] o.type #[vs, vx]).run P w = .ok v' w') (h : wpList P ops Q rest (a.put o.dst v') w') : wpList P ops Q (o :: rest) a w :=
  wpList_val hgd (exec_builtin2 o a w .delete s x #[t, u] Builtin.delete_ (fun _ _ => rfl) ho hs hx hr) h

theorem wpX_val {ops : Array Oper} {D : World → Prop} {eff : Nat → Bool} {Q : Act → World → Prop} {k : Nat} {o : Oper} {rest : List Oper} {C : World → Prop} {a : Act} (hg : o.guard = none) (he : eff k = true) (R : Value → World → Prop)
    (hr : ∀ w, C w → ∃ v w', (execOp a.eval o).run P w = .ok (.value v) w' ∧ R v w') (hD : ∀ u w, R u w → D w) (h : ∀ u, (∃ w, R u w) → wpX P ops D eff Q (k + 1) rest (R u) (a.put o.dst u)) : wpX P ops D eff Q k (o :: rest) C a := by
  simp only [wpX, Region.wanted, hg, if_true, xOper, he]
  refine ⟨R, fun w hw => ?_, hD, h⟩
  obtain ⟨v, w', h1, h2⟩ := hr w hw
  unfold effAt
  rw [h1]
  exact h2
/-- An effect in one world. -/
theorem wpX_val1 {ops : Array Oper} {D : World → Prop} {eff : Nat → Bool} {Q : Act → World → Prop} {k : Nat} {o : Oper} {rest : List Oper} {a : Act} {w w' : World} {v : Value} (hg : o.guard = none) (he : eff k = true)
    (hr : (execOp a.eval o).run P w = .ok (.value v) w') (hD : D w') (h : wpX P ops D eff Q (k + 1) rest (fun x => x = w') (a.put o.dst v)) : wpX P ops D eff Q k (o :: rest) (fun x => x = w) a := by
  refine wpX_val hg he (fun u x => u = v ∧ x = w') (fun x hx => by subst hx; exact ⟨v, w', hr, rfl, rfl⟩) (fun u x h => by rw [h.2]; exact hD) ?_
  rintro u ⟨x, rfl, rfl⟩
  exact wpX_weaken _ _ _ _ _ (fun y hy => hy.2) h

theorem Ok.setRow {w : World} {c : Chunk} {b : Nat} {cs : Array Value} {T : TypeId} {fz : Nat × Nat} (h : Ok w ((b, .cells cs T fz) :: c)) (cs' : Array Value) :
    Ok (w.setRow b cs') ((b, .cells cs' T fz) :: c) := by
  have hnd := h.nd
  simp only [List.map_cons, List.nodup_cons] at hnd
  refine ⟨by simpa using hnd, ?_⟩
  intro b' o hm
  rcases List.mem_cons.1 hm with he | hm
  · obtain ⟨rfl, rfl⟩ := Prod.mk.inj he
    have := h.get (List.mem_cons_self ..)
    simp only [World.setRow, Array.getElem?_modify, this]
    simp
  · have hb : b' ≠ b := fun e => hnd.1 (List.mem_map.2 ⟨(b', o), hm, e⟩)
    simp only [World.setRow, Array.getElem?_modify]
    rw [if_neg (fun e => hb e.symm)]
    exact h.get (List.mem_cons_of_mem _ hm)
theorem Same.setRow {a w : World} (h : Same a w) (b : Nat) (cs : Array Value) : Same a (w.setRow b cs) := ⟨h.os, h.tape, h.output⟩

/-- copy into a row. -/
theorem run_copy (t ty e : TypeId) (i : TypeInfo) (size : Nat) (ht : P.underlying t = some (.slice e)) (hi : P.info? e = some i) (hsize : i.size = size) {w : World} {g o : Nat} {cur : Array Value} {T : TypeId} (hg : w.heap[g]? = some (.cells cur T (0, 0)))
    (a : Addr) (dl dc sl sc n : Nat) (hn : min sl dl = n) (xs : List Value) (hl : xs.length = n * size) (hx : ∀ (j : Nat) u, xs[j]? = some u → w.cell? (a.add j) = some u) (h1 : ∀ u ∈ xs, u.oneCell' = true) (hroom : o + xs.length ≤ cur.size) :
    (Builtin.copy_ #[t, t] ty #[.slice (some ⟨g, o, none⟩) dl dc, .slice (some a) sl sc]).run P w = .ok (.int .i64 (n : Nat)) (w.setRow g (cur.toList.take o ++ xs ++ cur.toList.drop (o + xs.length)).toArray) := by
  have hload := run_loadCells_list (P := P) w a xs hx
  have hstore := run_storeCells_at (P := P) g o T xs 0 cur w hg (by omega) h1
  rw [hl] at hload
  simp only [Nat.add_zero] at hstore
  have hn' : Nat.min sl dl = n := hn
  simp [Builtin.copy_, run_underlying ht, Builtin.lenOf, sizeOf, typeInfo, hi, hsize, hn', Builtin.firstCells, hload, hstore, goInt]

/-- A whole block is written. -/
theorem run_storeWhole {w : World} {g : Nat} {cur : Array Value} {T : TypeId} (hg : w.heap[g]? = some (.cells cur T (0, 0))) (xs : List Value) (hl : xs.length = cur.size) (h1 : ∀ u ∈ xs, u.oneCell' = true) :
    (storeCells ⟨g, 0, none⟩ xs).run P w = .ok () (w.setRow g xs.toArray) := by
  have hstore := run_storeCells_at (P := P) g 0 T xs 0 cur w hg (by omega) h1
  rw [hstore]
  simp [List.drop_eq_nil_of_le, hl]
/-- A whole block is read. -/
theorem run_loadRow {w : World} {g n : Nat} {cs : Array Value} {T : TypeId} {fz : Nat × Nat} (hg : w.heap[g]? = some (.cells cs T fz)) (hn : cs.size = n) : (loadCellsFrom ⟨g, 0, none⟩ 0 n #[]).run P w = .ok cs w := by
  subst hn
  have := run_loadCells_list (P := P) w ⟨g, 0, none⟩ cs.toList (fun j v hv => by
    have hadd : (⟨g, 0, none⟩ : Addr).add j = ⟨g, j, none⟩ := by unfold Addr.add; split <;> simp_all
    rw [hadd, cell_of_row _ _ j cs T fz hg]
    simpa using hv)
  simpa [loadCells] using this
theorem Below.setRow {B : Nat} {a w : World} (h : Below B a w) {g : Nat} (hg : B ≤ g) (cs : Array Value) : Below B a (w.setRow g cs) :=
  ⟨h.os, h.tape, h.output, by rw [setRow_size]; exact h.size, fun b hb => by rw [setRow_other _ _ _ _ (by omega)]; exact h.block b hb⟩

theorem zeroCells_one (z : Value) (n : Nat) : Builtin.zeroCells #[z] n = (List.replicate n z).toArray := by
  rw [← Array.toList_inj]
  simp only [Builtin.zeroCells, Array.toList_map, Array.toList_range]
  apply List.ext_getElem?
  intro i
  simp only [List.getElem?_map, List.getElem?_replicate]
  by_cases h : i < n
  · simp [h, Nat.mod_one]
  · simp [h]

/-- append of zeros where there is no room. -/
theorem run_append_zeros (t u ty e : TypeId) (i : TypeInfo) (z : Value) (bytes : Nat) (ht : P.underlying t = some (.slice e)) (hu : P.underlying u = some (.int .i64)) (hi : P.info? e = some i) (hz : i.zero = some z)
    (hsize : i.size = 1) (hby : i.bytes = bytes) (hzc : z.cells = #[z]) (w : World) (a : Option Addr) (n cap k : Nat) (hk : 0 < k) (hgrow : cap < n + k) (hsmall : n + k ≤ 250) (hb : bytes ≤ 64) (xs : List Value) (hl : xs.length = n)
    (hx : ∀ ad, a = some ad → ∀ (j : Nat) v, xs[j]? = some v → w.cell? (ad.add j) = some v) (hnil : a = none → n = 0) :
    ∃ c, (Builtin.append_ #[t, u] ty #[.slice a n cap, .int .i64 (k : Nat)]).run P w = .ok (.slice (some ⟨w.heap.size, 0, none⟩) (n + k) c) (w.drew.alloc (.cells (xs ++ List.replicate k z ++ List.replicate (c - (n + k)) z).toArray e)) ∧ n + k ≤ c ∧ c ≤ maxLen := by
  let c := n + k + (w.tape w.drawn (.appendCap (n + k) cap e)) % (2 ^ 63 - (n + k))
  have hpos : 0 < 2 ^ 63 - (n + k) := by omega
  have hmod := Nat.mod_lt (w.tape w.drawn (.appendCap (n + k) cap e)) hpos
  have hc1 : n + k ≤ c := Nat.le_add_right _ _
  have hc2 : c ≤ maxLen := by unfold maxLen; omega
  refine ⟨c, ?_, hc1, hc2⟩
  have hold : ∀ w' : World, (∀ b, w'.cell? b = w.cell? b) → (Builtin.firstCells 1 n (.slice a n cap)).run P w' = .ok xs.toArray w' := by
    intro w' hw'
    cases a with
    | none => simp [Builtin.firstCells]; exact List.length_eq_zero_iff.1 (by rw [hl]; exact hnil rfl)
    | some ad =>
      have := run_loadCells_list (P := P) w' ad xs (fun j v hj => by rw [hw']; exact hx ad rfl j v hj)
      rw [hl] at this
      simpa [Builtin.firstCells] using this
  have hold' := hold w.drew (fun _ => rfl)
  have hwr : IntKind.i64.wrap (k : Int) = k := IntWalk.i64_in _ (by omega)
  have hnext : Builtin.nextslicecap (n + k) cap ≤ 2 * (n + k) := by
    unfold Builtin.nextslicecap
    split
    · omega
    · rw [if_pos (by omega)]; omega
  have h48 : ¬ (Builtin.nextslicecap (n + k) cap * bytes > 2 ^ 48) := by
    have : Builtin.nextslicecap (n + k) cap * bytes ≤ 2 * (n + k) * 64 := Nat.mul_le_mul hnext hb
    omega
  have h48' : ¬ ((k : Int) * (bytes : Int) > 2 ^ 48) := by
    have : k * bytes ≤ 250 * 64 := Nat.mul_le_mul (by omega) hb
    have h2 : ((k * bytes : Nat) : Int) = (k : Int) * bytes := by simp
    omega
  have hneg : ¬ ((k : Int) < 0) := by omega
  have hroom : ¬ (n + k ≤ cap) := by omega
  have hmax : ¬ (((n + k : Nat) : Int) > IntKind.i64.max) := by simp [IntKind.max, IntKind.signed, IntKind.bits]; omega
  have hask : ∀ (m : Nat) (w' : World), (askRoom m).run P w' = .ok () w' := by
    intro m w'; unfold askRoom; split <;> simp [Go.mark, Sem.run]
  have hk0 : ¬ k = 0 := by omega
  have hai : (asInt (.int .i64 (k : Int))).run P w = .ok (k : Int) w := by simp [asInt, asIntOf]
  have h48a : ¬ (281474976710656 < Builtin.nextslicecap (n + k) cap * bytes) := by omega
  have h48b : ¬ (281474976710656 < (k : Int) * (bytes : Int)) := by
    have : (2 : Int) ^ 48 = 281474976710656 := by decide
    omega
  have hmaxa : ¬ (9223372036854775807 < (n : Int) + (k : Int)) := by omega
  subst hby
  simp [Builtin.append_, run_underlying ht, run_underlying hu, sizeOf, typeInfo, zeroValue, hi, hz, hsize, hai, hwr, h48b, hroom, hmaxa, h48a, hk0, Question.forced, hold', newRow, hzc, zeroCells_one, Question.cut, c]
  rw [if_neg hneg]
  congr 2
  congr 1
  apply Array.ext'
  simp
end
end Go.Proofs.YtdllibalmjadhaaGreat
