/- A range over a map that takes entries away. Copies of shelves, shadows and hubs. -/
import Derived.Test.YtdllibalmjadhaaGreatE5
import Derived.Test.YtdllibalmjadhaaGreatE9
import Derived.Test.YtdllibalmjadhaaGreatE10
import Derived.Shelf.SlMaps.Clone

namespace Go.Proofs.YtdllibalmjadhaaGreat
open Go Go.RowKit

section
variable {K : Type} [DecidableEq K] {P : Program} {kT : TypeId} {enc : K → Value}

theorem filter_eraseIdx {α : Type} (f : α → Bool) : ∀ (l : List α) (j : Nat) (h : j < l.length), f l[j] = false → (l.eraseIdx j).filter f = l.filter f
  | [], _, h, _ => by simp at h
  | a :: l, 0, _, hf => by
    simp only [List.getElem_cons_zero] at hf
    simp [hf]
  | a :: l, j + 1, h, hf => by
    simp only [List.length_cons, Nat.add_lt_add_iff_right] at h
    simp only [List.getElem_cons_succ] at hf
    simp only [List.eraseIdx_cons_succ, List.filter_cons, filter_eraseIdx f l j h hf]

theorem born_at {l : List (K × Value)} {es : Array MapEntry} {clk : Nat} (hm : IsMap enc l es clk) (hinj : ∀ a b, enc a = enc b → a = b) {k : K} {v : Value} {s j : Nat} (hf : es.find? (·.born == s) = some { key := enc k, val := v, born := s }) (hj : midx (l.map Prod.fst) k = some j) : ∃ h : j < es.toList.length, es.toList[j].born = s := by
  obtain ⟨i, hi, he⟩ := List.getElem_of_mem (Array.mem_def.1 (Array.mem_of_find?_eq_some hf))
  have hlen : es.toList.length = l.length := by have := congrArg List.length hm.ents; simpa using this
  have hil : i < l.length := by omega
  have h1 : (es.toList.map fun e => (e.key, e.val))[i]? = (l.map fun p => (enc p.1, p.2))[i]? := by rw [hm.ents]
  rw [List.getElem?_map, List.getElem?_map, List.getElem?_eq_getElem hi, List.getElem?_eq_getElem hil, he] at h1
  simp only [Option.map_some, Option.some.injEq, Prod.mk.injEq] at h1
  have hk : k = l[i].1 := hinj _ _ h1.1
  have h2 := midx_some hj
  have hjl : j < (l.map Prod.fst).length := (List.getElem?_eq_some_iff.1 h2).1
  have h3 : (l.map Prod.fst)[j] = (l.map Prod.fst)[i]'(by simpa using hil) := by
    rw [(List.getElem?_eq_some_iff.1 h2).2]; simpa using hk
  have hij : j = i := by
    have hp := List.pairwise_iff_getElem.1 hm.nd
    rcases Nat.lt_trichotomy j i with hlt | he | hgt
    · exact absurd h3 (hp j i hjl (by simpa using hil) hlt)
    · exact he
    · exact absurd h3.symm (hp i j (by simpa using hil) hjl hgt)
  subst hij
  exact ⟨hi, by rw [he]⟩

theorem Ranging.del {l todo : List (K × Value)} {es : Array MapEntry} {clk : Nat} {seen : Array Nat} {s : Nat} {k : K} {v : Value} (hr : Ranging enc l todo es clk (seen.push s)) (hinj : ∀ a b, enc a = enc b → a = b) (hf : es.find? (·.born == s) = some { key := enc k, val := v, born := s })
    (hk : k ∉ todo.map Prod.fst) {j : Nat} (hj : midx (l.map Prod.fst) k = some j) : Ranging enc (mdel l k) todo (es.eraseIdxIfInBounds j) clk (seen.push s) := by
  obtain ⟨hjl, hb⟩ := born_at hr.map hinj hf hj
  refine ⟨hr.map.del hj, ?_, ?_⟩
  · have hsub : (es.eraseIdxIfInBounds j).toList = es.toList.eraseIdx j := by simp [Array.toList_eraseIdxIfInBounds]
    rw [hsub, filter_eraseIdx _ _ _ hjl (by rw [hb]; simp)]
    exact hr.left
  · have h1 := hr.sub.filter (fun p => decide (p.1 ≠ k))
    rwa [List.filter_eq_self.2 (fun p hp => by simp; exact fun e => hk (e ▸ List.mem_map.2 ⟨p, hp, rfl⟩))] at h1

theorem run_delete_at (L : KeyLaw P kT enc) {T eT : TypeId} (hT : P.underlying T = some (.map kT eT)) {w : World} {b : Nat} {l : List (K × Value)} {es : Array MapEntry} {clk : Nat}
    (hb : w.heap[b]? = some (.map es clk)) (hm : IsMap enc l es clk) (k : K) {j : Nat} (hj : midx (l.map Prod.fst) k = some j) (T2 ty : TypeId) :
    (Builtin.delete_ #[T, T2] ty #[.map (some b), enc k]).run P w = .ok (.tuple #[]) (setBlk w b (.map (es.eraseIdxIfInBounds j) clk)) := by
  have hjl : j < es.toList.length := by
    have h1 := (List.getElem?_eq_some_iff.1 (midx_some hj)).1
    have h2 := congrArg List.length hm.ents
    simp at h1 h2
    simpa [h2] using h1
  have hsz : j < es.size := by simpa using hjl
  simp [Builtin.delete_, run_underlying hT, Go.getObj, Go.setObj, Sem.run, hb, L.check, run_find L k w es.toList l hm.ents, hj, setBlk, hsz]
end

/-- How much of a range is to come, of any map. -/
def toComeK (w : World) (ib mb : Nat) : Nat := match w.heap[ib]?, w.heap[mb]? with
  | some (.mapIter _ _ seen _), some (.map arr _) => (arr.toList.filter fun e => !seen.contains e.born).length
  | _, _ => 0
theorem toComeK_eq {K : Type} [DecidableEq K] {enc : K → Value} {w : World} {ib mb : Nat} {arr : Array MapEntry} {clk : Nat} {l todo : List (K × Value)} {seen : Array Nat} (h : w.heap[ib]? = some (.mapIter (some mb) clk seen clk)) (hm : w.heap[mb]? = some (.map arr clk)) (hr : Ranging enc l todo arr clk seen) : toComeK w ib mb = todo.length := by
  unfold toComeK
  rw [h, hm]
  have := congrArg List.length hr.left
  simpa using this
end Go.Proofs.YtdllibalmjadhaaGreat

namespace Go.Proofs.YtdllibalmjadhaaGreat
open Go Go.RowKit

set_option maxHeartbeats 2000000 in
set_option maxRecDepth 100000 in
theorem cloneShelf_any (b : Nat) (es : Array MapEntry) (clock : Nat) (w : World) (hb : w.heap[b]? = some (.map es clock)) :
    Calls Tryz.prog 119 #[.map (some b)] w fun e w' => e = .returned (.map (some w.heap.size)) ∧ w.alloc (.map es clock) = w' := by
  have hq : ∀ w, (binOp .eql 164 (.map (some b)) (.map none)).run Tryz.prog w = .ok (.bool false) w := fun w => run_eql_map_nil_sl (P := Tryz.prog) w 164 _ _ (some b) Tryz.underlying164
  go_enter Tryz.func119, Tryz.ntmps119
  go_wp2
  rw [run_callFunc_extern (P := Tryz.prog) (fn := Tryz.f100) (by kernel_rfl) (by kernel_rfl) (by kernel_rfl) (by kernel_rfl) (e := Extern.MapsClone.clone) (by kernel_rfl), run_maps_clone_sl w 164 hb]
  simp only [Result.andThen]
  rw [Oper.upon_value]
  go_wp2
  rw [run_typeAssert_map_sl _ 164 20 _ _ _ Tryz.underlying164]
  simp only [Result.andThen]
  rw [Oper.upon_value]
  go_wp2
  go_ret
  exact ⟨rfl, rfl⟩

theorem shelfFork_at (sb mb : Nat) (arr : Array MapEntry) (clk : Nat) (w : World) (h1 : w.heap[sb]? = some (.cells #[.map (some mb)] 166 (0, 0))) (h2 : w.heap[mb]? = some (.map arr clk)) :
    Calls Tryz.prog 71 #[.pointer (some ⟨sb, 0, none⟩)] w fun en w' => ∃ sb' mb', en = .returned (.pointer (some ⟨sb', 0, none⟩)) ∧ Fresh w w' [(sb', .cells #[.map (some mb')] 166 (0, 0)), (mb', .map arr clk)] := by
  have c0 : w.cell? ⟨sb, 0, none⟩ = some (.map (some mb)) := cellOf h1 0
  have HC := hid (cloneShelf_any mb arr clk w h2)
  go_enter Tryz.func71, Tryz.ntmps71
  go_wp2_with (go_at_call 119; refine HC.out.mono ?_; rintro en w1 ⟨rfl, rfl⟩)
  go_ret
  have h := ((Fresh.refl w).push (.map arr clk)).push (.cells #[.map (some w.heap.size)] 166)
  exact ⟨_, _, rfl, by simpa using h.sub (c' := [((w.alloc (.map arr clk)).heap.size, .cells #[.map (some w.heap.size)] 166), (w.heap.size, .map arr clk)]) (by simp)⟩

theorem Each.mem {R : Nat → Nat → Chunk → Prop} {p : Nat × Value} : ∀ {l : List (Nat × Value)} {c : Chunk}, Each R c l → p ∈ l → ∃ b c1, p.2 = .pointer (some ⟨b, 0, none⟩) ∧ R p.1 b c1 ∧ ∀ x, x ∈ c1 → x ∈ c
  | [], _, _, h => by cases h
  | q :: l, _, ⟨b, c1, c2, h1, h2, h3, h4⟩, h => by
    subst h1
    rcases List.mem_cons.1 h with rfl | h
    · exact ⟨b, c1, h2, h3, fun x hx => List.mem_append_left _ hx⟩
    · obtain ⟨b', c1', e1, e2, e3⟩ := Each.mem h4 h
      exact ⟨b', c1', e1, e2, fun x hx => List.mem_append_right _ (e3 x hx)⟩
theorem allOf_keep {w w' : World} {c : Chunk} (h : Ok w' (c ++ allOf w)) {b : Nat} {o : Obj} (hb : w.heap[b]? = some o) : w'.heap[b]? = some o := h.get (List.mem_append_right _ (mem_allOf hb))
/-- Keys that are done, and keys to come. -/
structure Split (l ln todo : List (Nat × Value)) : Prop where
  all : ∀ q, q ∈ l.map Prod.fst ↔ q ∈ ln.map Prod.fst ∨ q ∈ todo.map Prod.fst
  apart : ∀ q, q ∈ todo.map Prod.fst → q ∉ ln.map Prod.fst
theorem Split.start (l : List (Nat × Value)) : Split l [] l := ⟨by simp, by simp⟩
theorem Split.step {l ln todo t1 t2 : List (Nat × Value)} {p : Nat × Value} (h : Split l ln todo) (hs : todo = t1 ++ p :: t2) (hnd : (todo.map Prod.fst).Nodup) (v : Value) : Split l (mput ln p.1 v) (t1 ++ t2) := by
  have hp : p.1 ∈ todo.map Prod.fst := by rw [hs]; simp
  have hn := h.apart _ hp
  rw [mput_of_not hn]
  subst hs
  have ho : p.1 ∉ (t1 ++ t2).map Prod.fst := by
    simp only [List.map_append, List.map_cons, List.nodup_append, List.nodup_cons] at hnd
    obtain ⟨_, ⟨h2, _⟩, h3⟩ := hnd
    rw [List.map_append, List.mem_append]
    exact fun h => h.elim (fun hm => h3 _ hm _ (List.mem_cons_self ..) rfl) h2
  refine ⟨fun q => ?_, fun q hq => ?_⟩
  · rw [h.all q]
    simp only [List.map_append, List.map_cons, List.map_nil, List.mem_append, List.mem_cons, List.not_mem_nil, or_false]
    grind
  · have hq' : q ∈ (t1 ++ p :: t2).map Prod.fst := by
      simp only [List.map_append, List.map_cons, List.mem_append, List.mem_cons] at hq ⊢
      grind
    have := h.apart q hq'
    simp only [List.map_append, List.map_cons, List.map_nil, List.mem_append, List.mem_singleton, not_or]
    exact ⟨this, fun e => ho (e ▸ hq)⟩

def ShadowStep (w : World) (F : Chunk) (f : Nat → List Ent) (db mb ib : Nat) (it : Obj) (ln : List (Nat × Value)) (w' : World) : Prop := ∃ arr clk cx, IsMap encName ln arr clk ∧ Each (fun q sb c1 => IsShelf F c1 sb (f q)) cx ln ∧ Ok w' ((mb, .map arr clk) :: (db, .cells #[.map (some mb)] 184 (0, 0)) :: (cx ++ ((ib, it) :: allOf w))) ∧ Same w w'
def ShelfNew (w : World) (arr : Array MapEntry) (clk : Nat) (u : Value) (w' : World) : Prop := ∃ sb mb, u = .pointer (some ⟨sb, 0, none⟩) ∧ Fresh w w' [(sb, .cells #[.map (some mb)] 166 (0, 0)), (mb, .map arr clk)]
def ShadowFork (w : World) (F : Chunk) (f : Nat → List Ent) (en : Ending) (w' : World) : Prop := ∃ db' c', en = .returned (.pointer (some ⟨db', 0, none⟩)) ∧ IsShadow F c' db' f ∧ Fresh w w' c'

set_option maxHeartbeats 2000000 in
set_option maxRecDepth 100000 in
theorem shadowFork_any (F cd fr : Chunk) (db : Nat) (f : Nat → List Ent) (w : World) (hok : Ok w (cd ++ fr)) (h : IsShadow F cd db f) : Calls Tryz.prog 72 #[.pointer (some ⟨db, 0, none⟩)] w (ShadowFork w F f) := by
  obtain ⟨mb, l, arr, clk, cx, hc, hm, he, hz⟩ := h
  have hdb : w.heap[db]? = some (.cells #[.map (some mb)] 184 (0, 0)) := by subst hc; exact hok.get (by simp)
  have hmb : w.heap[mb]? = some (.map arr clk) := by subst hc; exact hok.get (by simp)
  have hcx : ∀ {b o}, (b, o) ∈ cx → w.heap[b]? = some o := fun {b o} hx => by subst hc; exact hok.get (by simp [hx])
  have HMB := hid hmb
  clear hok hc
  generalize hpost : ShadowFork w F f = post
  have HP := hid hpost
  clear hpost
  go_enter Tryz.func72, Tryz.ntmps72
  go_wp2_with (go_at_call 103; refine (shadowNew_any w).mono ?_; rintro en w1 ⟨db', mb', rfl, hf1⟩; have c1 : w1.cell? ⟨db, 0, none⟩ = some (.map (some mb)) := cellOf (holds hf1.below hdb) 0; have hrg := run_range (P := Tryz.prog) Tryz.underlying182 (holds hf1.below hmb))
  have hst : Ok (w1.alloc (.mapIter (some mb) clk #[] clk)) ((mb', .map #[] 0) :: (db', .cells #[.map (some mb')] 184 (0, 0)) :: ([] ++ ((w1.heap.size, .mapIter (some mb) clk #[] clk) :: allOf w))) := (hf1.ok.alloc _).cnt (by intro x hx; simp at hx ⊢; try grind) (by intro b; simp; try (first | omega | (simp [List.count_cons]; omega)))
  have hs0 : Same w (w1.alloc (.mapIter (some mb) clk #[] clk)) := hf1.same.alloc _
  have hstart : Ranging encName l l arr clk #[] := Ranging.start hm
  generalize w1.heap.size = ib at *
  generalize w1.alloc (.mapIter (some mb) clk #[] clk) = w2 at *
  clear hf1 c1 hrg
  go_loopw [] (fun wr => ∃ seen todo ln arr' clk' cx', Ranging encName l todo arr clk seen ∧ Split l ln todo ∧ IsMap encName ln arr' clk' ∧ Each (fun q sb c1 => IsShelf F c1 sb (f q)) cx' ln ∧ Ok wr ((mb', .map arr' clk') :: (db', .cells #[.map (some mb')] 184 (0, 0)) :: (cx' ++ ((ib, .mapIter (some mb) clk seen clk) :: allOf w))) ∧ Same w wr)
    (fun wr => toComeK wr ib mb)
  case atStart => exact ⟨#[], l, [], #[], 0, [], hstart, Split.start l, IsMap.empty _, rfl, hst, hs0⟩
  case round =>
    clear hst hs0 hstart
    obtain ⟨seen, todo, ln, arr', clk', cx', hran, hsp, hmn, hen, hok, hsame⟩ := hrel
    have hall : Ok wr (((mb', .map arr' clk') :: (db', .cells #[.map (some mb')] 184 (0, 0)) :: (cx' ++ [(ib, .mapIter (some mb) clk seen clk)])) ++ allOf w) := by simpa using hok
    have hi : wr.heap[ib]? = some (.mapIter (some mb) clk seen clk) := hok.get (by simp)
    have hmr : wr.heap[mb]? = some (.map arr clk) := allOf_keep hall hmb
    by_cases htd : todo = []
    · subst htd
      have hnx := run_next_over (P := Tryz.prog) hi hmr hran 0
      have hz' : ∀ q, q ∉ ln.map Prod.fst → f q = [] := fun q hq => hz q fun hl => by
        rcases (hsp.all q).1 hl with h | h
        · exact hq h
        · cases h
      have hok' : Ok wr (((db', .cells #[.map (some mb')] 184 (0, 0)) :: (mb', .map arr' clk') :: cx') ++ allOf w) := by
        have h1 := hok.sublist (c' := (mb', .map arr' clk') :: (db', .cells #[.map (some mb')] 184 (0, 0)) :: (cx' ++ allOf w)) (List.Sublist.cons_cons _ (List.Sublist.cons_cons _ (List.Sublist.append_left (List.sublist_cons_self _ _) _)))
        exact Ok.perm h1 (List.Perm.swap _ _ _)
      have HF := hid (show ShadowFork w F f (.returned (.pointer (some ⟨db', 0, none⟩))) wr from ⟨db', _, rfl, ⟨mb', ln, arr', clk', cx', rfl, hmn, hen, hz'⟩, ⟨hok', hsame⟩⟩)
      rw [HP.out] at HF
      clear hran hsp hmn hen hok hok' hall hsame hm he hz hz' hdb hmb hi hmr
      go_wp2
      exact HF.out
    · obtain ⟨t1, p, t2, s, n, htodo, hran', hfind, hnx⟩ := run_next_some (P := Tryz.prog) hi hmr hran htd 0
      have hokn : Ok (setBlk (wr.drewN n) ib (.mapIter (some mb) clk (seen.push s) clk)) ((mb', .map arr' clk') :: (db', .cells #[.map (some mb')] 184 (0, 0)) :: (cx' ++ ((ib, .mapIter (some mb) clk (seen.push s) clk) :: allOf w))) := by
        have h1 : Ok (wr.drewN n) ((ib, .mapIter (some mb) clk seen clk) :: ((mb', .map arr' clk') :: (db', .cells #[.map (some mb')] 184 (0, 0)) :: (cx' ++ allOf w))) := (hok.drewN n).cnt (by intro x hx; simp at hx ⊢; try grind) (by intro b; simp; try (first | omega | (simp [List.count_cons]; omega)))
        exact (h1.setBlk (.mapIter (some mb) clk (seen.push s) clk)).cnt (by intro x hx; simp at hx ⊢; try grind) (by intro b; simp; try (first | omega | (simp [List.count_cons]; omega)))
      have hsn : Same w (setBlk (wr.drewN n) ib (.mapIter (some mb) clk (seen.push s) clk)) := (hsame.drewN n).setBlk _ _
      have hleft := toComeK_eq hi hmr hran
      generalize hwn : setBlk (wr.drewN n) ib (.mapIter (some mb) clk (seen.push s) clk) = wn at *
      have halln : Ok wn (((mb', .map arr' clk') :: (db', .cells #[.map (some mb')] 184 (0, 0)) :: (cx' ++ [(ib, .mapIter (some mb) clk (seen.push s) clk)])) ++ allOf w) := by simpa using hokn
      have hin : wn.heap[ib]? = some (.mapIter (some mb) clk (seen.push s) clk) := hokn.get (by simp)
      have hmn' : wn.heap[mb]? = some (.map arr clk) := allOf_keep halln hmb
      have hen' := run_entry (P := Tryz.prog) hin hmn' hfind
      have hpl : p ∈ l := hran.sub.subset (by rw [htodo]; simp)
      have hnd : (todo.map Prod.fst).Nodup := (hran.sub.map Prod.fst).nodup hran.map.nd
      have hstep := fun v => hsp.step htodo hnd v
      have hlen : (t1 ++ t2).length < todo.length := by rw [htodo]; simp
      have hpt : p.1 ∈ todo.map Prod.fst := by rw [htodo]; simp
      have hpn := hsp.apart _ hpt
      obtain ⟨b, c1, hv, hsh, hsub⟩ := he.mem hpl
      obtain ⟨mb1, l1, arr1, clk1, hc1, hm1, he1, hl1⟩ := hsh
      obtain ⟨q, pv⟩ := p
      simp only at hv hpn hstep
      subst hv hc1
      have hb1 : wn.heap[b]? = some (.cells #[.map (some mb1)] 166 (0, 0)) := allOf_keep halln (hcx (hsub _ (by simp)))
      have hb2 : wn.heap[mb1]? = some (.map arr1 clk1) := allOf_keep halln (hcx (hsub _ (by simp)))
      have hd1 : wn.heap[db']? = some (.cells #[.map (some mb')] 184 (0, 0)) := hokn.get (by simp)
      have HX := hid (And.intro hran' (And.intro hokn (And.intro hsn (And.intro hmn hen))))
      simp only [encName] at hnx hen'
      clear hran' hokn hsn hmn hen hran hok hall hsame hi hmr hm he hz hdb hmb hcx hsub hwn halln hin hmn' hfind hnd hpt htodo htd hpl hsp
      go_wp2_with (fail)
      have hbx := alloc_below wn (.cells #[.int .u32 q] 186)
      have hkx := heap1 wn (.cells #[.int .u32 q] 186)
      generalize wn.heap.size = kb at *
      generalize hw0 : wn.alloc (.cells #[.int .u32 q] 186) = w0 at *
      refine wp_region_z [] [] [6, 7] (by kernel_rfl) (by kernel_rfl) (by simp) ?_
      intro E _ hE hI _
      have b1 : ∀ w' : InD E, w'.val.cell? ⟨db', 0, none⟩ = some (.map (some mb')) := fun w' => cellOf (holds (hE w') (holds (hw0 ▸ alloc_below wn (.cells #[.int .u32 q] 186)) hd1)) 0
      have b2 : ∀ w' : InD E, w'.val.cell? ⟨kb, 0, none⟩ = some (.int .u32 q) := fun w' => cellOf (holds (hE w') hkx) 0
      repeat (refine wpZ_step (fun K hK => ?_); go_simp; refine hK _ _ ?_; clear hK K)
      refine wpZ_step (fun K hK => ?_); go_simp
      refine ⟨fun u w' => ShelfNew w0 arr1 clk1 u w' ∧ E w', fun w' hw' => ?_, fun u w h => h.2, ?_⟩
      · have hbb : Below wn.heap.size wn w' := below_trans (hw0 ▸ alloc_below wn (.cells #[.int .u32 q] 186)) (hE ⟨w', hw'⟩)
        refine (shelfFork_at b mb1 arr1 clk1 w' (holds hbb hb1) (holds hbb hb2)).mono ?_
        rintro en w'' ⟨sb', mb1', rfl, hf⟩
        exact ⟨_, rfl, ⟨sb', mb1', rfl, Fresh.from (hE ⟨w', hw'⟩) hf⟩, hI _ (below_trans (hE ⟨w', hw'⟩) hf.below)⟩
      rintro u y ⟨⟨sb', _, rfl, _⟩, _⟩
      refine hK _ _ ?_; clear hK K
      refine wpZ_step (fun K hK => ?_); go_simp
      refine ⟨fun _ w' => ShadowStep w F f db' mb' ib (.mapIter (some mb) clk (seen.push s) clk) (mput ln q (.pointer (some ⟨sb', 0, none⟩))) w', fun w8 h8 _ => ?_, ?_⟩
      · obtain ⟨sb'', mb1', hp, hf8⟩ := h8
        cases hp
        obtain ⟨_, hokn, hsn, hmn, hen⟩ := HX.out
        have ok0 := hw0 ▸ hokn.keep (.cells #[.int .u32 q] 186)
        have ok8 : Ok w8 ((mb', .map arr' clk') :: ((db', .cells #[.map (some mb')] 184 (0, 0)) :: ((cx' ++ [(sb', .cells #[.map (some mb1')] 166 (0, 0)), (mb1', .map arr1 clk1)]) ++ ((ib, .mapIter (some mb) clk (seen.push s) clk) :: allOf w)))) := (hf8.frame ok0).cnt (by intro x hx; simp at hx ⊢; try grind) (by intro b; simp; try (first | omega | (simp [List.count_cons]; omega)))
        obtain ⟨arr2, clk2, hm2, hup⟩ := run_update (P := Tryz.prog) ownerLaw Tryz.underlying182 (ok8.get (b := mb') (o := .map arr' clk') (by simp)) hmn q (.pointer (some ⟨sb', 0, none⟩))
        simp only [encName] at hup
        rw [hup]
        have hs0 : Same w w0 := hw0 ▸ hsn.alloc _
        exact ⟨arr2, clk2, _, hm2, Each.push (R := fun q sb c1 => IsShelf F c1 sb (f q)) ⟨mb1', l1, arr1, clk1, rfl, hm1, he1, hl1⟩ hpn hen, ok8.setBlk _, (hs0.trans hf8.same).setBlk _ _⟩
      rintro u y _
      refine hK _ _ ?_; clear hK K
      refine wpZ_nil ?_
      rintro w9 ⟨arr2, clk2, cx2, hm2, hen2, ok9, hs9⟩
      have hran2 := HX.out.1
      have hi9 : w9.heap[ib]? = some (.mapIter (some mb) clk (seen.push s) clk) := ok9.get (by simp)
      have hstp := hstep (.pointer (some ⟨sb', 0, none⟩))
      have HY := hid (And.intro hran2 (And.intro hstp (And.intro hm2 (And.intro hen2 (And.intro ok9 hs9)))))
      have hall9 : Ok w9 (((mb', .map arr2 clk2) :: (db', .cells #[.map (some mb')] 184 (0, 0)) :: (cx2 ++ [(ib, .mapIter (some mb) clk (seen.push s) clk)])) ++ allOf w) := by simpa using ok9
      have hleft' := toComeK_eq hi9 (allOf_keep hall9 HMB.out) hran2
      clear b1 b2 hI hE HX hran2 hstp hm2 hen2 ok9 hs9 hall9 hi9 hstep hbx hkx hw0 hb1 hb2 hd1
      go_wp2
      go_roundw
      case rel => exact ⟨seen.push s, t1 ++ t2, _, arr2, clk2, cx2, HY.out.1, HY.out.2.1, HY.out.2.2.1, HY.out.2.2.2.1, HY.out.2.2.2.2.1, HY.out.2.2.2.2.2⟩
      case measure => rw [hleft', hleft]; exact hlen
end Go.Proofs.YtdllibalmjadhaaGreat
