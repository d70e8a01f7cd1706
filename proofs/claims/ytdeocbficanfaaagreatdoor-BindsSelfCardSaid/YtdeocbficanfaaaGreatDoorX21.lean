/-
  Go read by value: lemmas (part 21): A23, A24, F0, F1, F2, F3, F4, F5, F6, F7, F8, F9, M4.
-/
import Derived.Maps.RangeRun
import Derived.Test.YtdeocbficanfaaaGreatDoorX12
import Derived.Test.YtdeocbficanfaaaGreatDoorX16
import Derived.Test.YtdeocbficanfaaaGreatDoorX17
import Derived.Test.YtdeocbficanfaaaGreatDoorX19
import Derived.Test.YtdeocbficanfaaaGreatDoorX20
set_option linter.unusedVariables false
set_option linter.unusedSimpArgs false
set_option linter.unusedSectionVars false
namespace Go.Av
section
variable {P : Program} {T : Tab} {W0 : World}
variable {ops : Array Oper} {st : St} {o : Oper}
theorem aeff_rangeM {K : Hp → AV → Prop} {t : TypeId} {x : Operand} {ks : List (List UInt8)} {vs : List AV} {kt et : TypeId} {s : Nat} {z : List ZC} (hT : TabOK P T) (hw : wantA ops st o = some true) (ho : o.op = .range t x) (ht : T t = some ⟨s, .map kt et, z⟩)
    (hx : st.eval x = .mapv ks vs) (h : K { st.H with objs := st.H.objs ++ [.miter ks vs (List.range ks.length) ks.length] } (.ref st.H.objs.length 0)) : AEff P W0 ops o st K := by
  refine aeff_heap hw (fun g w a hr => ?_) h
  obtain ⟨d, hd, hkd⟩ := (hT t _ ht).kind
  cases hkd
  have ex := hr.eval x
  rw [hx] at ex
  obtain ⟨bm, es, cl, ex, hfm, hm, hk, hv⟩ := ex
  have hes : es.size = ks.length := by have := congrArg List.length hk.1; simpa using this
  have e0 := (hr.inv.object (.mapIter (some bm) cl #[] cl) .gone trivial).2
  obtain ⟨i, e⟩ := hr.inv.object (.mapIter (some bm) cl #[] cl) (.miter ks vs (List.range ks.length) ks.length)
    ⟨w.heap.size, bm, es, cl, #[], by simp [Gh.lay], hr.inv.pubNew _ (Nat.le_refl _), hr.inv.freshFro, heap_push_new, e0.fro _ hfm, (e0.froz _ hfm).trans hm, hk, AR.mono e0 _ _ hv,
      fun j hj => by rw [hes]; exact List.mem_range.1 hj, fun j y hy => by
        have hlt := (List.getElem?_eq_some_iff.1 hy).1
        simp only [Array.length_toList] at hlt
        simp; omega, fun y hy => by
        have hlt := (List.getElem?_eq_some_iff.1 hy).1
        simp only [Array.length_toList] at hlt
        omega⟩
  refine ⟨.pointer (some ⟨w.heap.size, 0, none⟩), _, _, .inl ?_, e, i, w.heap.size, by simp [Gh.lay], rfl⟩
  unfold execOp; rw [ho]
  simp only [ex]
  simp only [Sem.run_bind, run_range_map w t kt et bm es cl hd hm, Result.andThen]
  rfl
theorem aeff_nextM {K : Hp → AV → Prop} {x : Operand} {r last : Nat} {ks : List (List UInt8)} {vs : List AV} {left : List Nat} (hw : wantA ops st o = some true) (ho : o.op = .next x false)
    (hx : st.eval x = .ref r 0) (hob : st.H.objs[r]? = some (.miter ks vs left last))
    (hend : left = [] → K st.H (.tuple [.bool false]))
    (hgo : ∀ j ∈ left, j < ks.length → K { st.H with objs := st.H.objs.set r (.miter ks vs (left.filter fun i => !(i == j)) j) } (.tuple [.bool true, .any, .any])) : AEff P W0 ops o st K := by
  intro g w a hr
  refine .inr ⟨wantA_sound hw hr, ?_⟩
  obtain ⟨b, bm, es, cl, seen, hl, hp, hf, hh, hfm, hm, hk, hv, h1, h2, h3⟩ := hr.inv.obj r _ hob
  have hes : es.size = ks.length := by have := congrArg List.length hk.1; simpa using this
  have ex : a.eval x = .pointer (some ⟨b, 0, none⟩) := by
    have := hr.eval x; rw [hx] at this
    obtain ⟨b', hl', e⟩ := this
    rw [hl] at hl'; cases hl'; exact e
  have hne : bm ≠ b := by rintro rfl; rw [hf] at hfm; cases hfm
  have key := run_next_at (P := P) w 0 b bm cl cl seen es cl hh hm hk.2.1 (Nat.le_refl _)
  rcases key with ⟨h0, hrun⟩ | ⟨e, he, w1, hw1, hrun⟩
  · have hnil : left = [] := by
      cases hleft : left with
      | nil => rfl
      | cons j l =>
        have hj : j ∈ left := by rw [hleft]; exact .head _
        have hlt := h1 j hj
        have hin := (h2 j es[j] (by simp [hlt])).1 hj
        have : es[j] ∈ leftOf es seen := by unfold leftOf; rw [Array.mem_filter]; exact ⟨Array.getElem_mem hlt, by rw [hin]; rfl⟩
        have hz : leftOf es seen = #[] := Array.eq_empty_of_size_eq_zero h0
        rw [hz] at this
        simp at this
    have : (execOp a.eval o).run P w = .ok (.value (.tuple #[.bool false])) w := by
      unfold execOp; rw [ho]
      simp only [ex, Sem.run_bind]
      rw [show ∀ t, Instr.next (.pointer (some ⟨b, 0, none⟩)) false t = Instr.next (.pointer (some ⟨b, 0, none⟩)) false 0 from fun _ => rfl, hrun]
      rfl
    rw [this]
    exact ⟨g, .tuple [.bool false], st.H, .refl _ _, hr.inv, ⟨_, rfl, AR.cons rfl AR.nil⟩, hend hnil⟩
  · have hmem : e ∈ es.toList ∧ seen.contains e.born = false := by
      have : e ∈ leftOf es seen := by simpa using he
      unfold leftOf at this
      rw [Array.mem_filter] at this
      exact ⟨by simpa using this.1, by simpa using this.2⟩
    obtain ⟨j, hj, hje⟩ := List.mem_iff_getElem.1 hmem.1
    have hjs : j < es.size := by simpa using hj
    have hje' : es.toList[j]? = some e := by rw [List.getElem?_eq_getElem hj, hje]
    have hjl : j ∈ left := (h2 j e hje').2 hmem.2
    have hw1h : w1.heap = w.heap ∧ w1.os = w.os ∧ w1.output = w.output ∧ w1.tape = w.tape := by
      rcases hw1 with rfl | rfl <;> exact ⟨rfl, rfl, rfl, rfl⟩
    have hb := heap_some_lt hh
    have inj : ∀ i y, es.toList[i]? = some y → y.born = e.born → i = j := by
      intro i y hy hby
      have hnd := hk.2.2.1
      obtain ⟨hil, hiy⟩ := List.getElem?_eq_some_iff.1 hy
      rw [List.nodup_iff_pairwise_ne, List.pairwise_iff_getElem] at hnd
      rcases Nat.lt_trichotomy i j with q | q | q
      · exact absurd (by rw [List.getElem_map, List.getElem_map, hiy, hje, hby]) (hnd i j (by simpa using hil) (by simpa using hj) q)
      · exact q
      · exact absurd (by rw [List.getElem_map, List.getElem_map, hiy, hje, hby]) (hnd j i (by simpa using hj) (by simpa using hil) q)
    have hch := hr.inv.change hob hl hp hf (w' := ChangeMaps.setBlock w1 b (.mapIter (some bm) cl (seen.push e.born) cl)) (x := .miter ks vs (left.filter fun i => !(i == j)) j)
      (by simp [ChangeMaps.setBlock, hw1h.1]) (by simp [ChangeMaps.setBlock, hw1h.2.1]) (by simp [ChangeMaps.setBlock, hw1h.2.2.1]) (by simp [ChangeMaps.setBlock, hw1h.2.2.2])
      (fun c hc => by simp [ChangeMaps.setBlock, hw1h.1, Array.getElem?_setIfInBounds_ne (Ne.symm hc)])
      (fun ext => ⟨b, bm, es, cl, seen.push e.born, hl, hp, hf, by simp [ChangeMaps.setBlock, hw1h.1, hb], hfm, (ext.froz _ hfm).trans hm, hk, AR.mono ext _ _ hv,
        fun i hi => h1 i (List.mem_filter.1 hi).1, fun i y hy => by
          rw [List.mem_filter, h2 i y hy]
          simp only [Array.contains_push, Bool.or_eq_false_iff, Bool.not_eq_true', beq_eq_false_iff_ne, ne_eq]
          constructor
          · rintro ⟨q1, q2⟩
            exact ⟨q1, fun q => q2 (inj i y hy q)⟩
          · rintro ⟨q1, q2⟩
            refine ⟨q1, fun q => ?_⟩
            subst q
            rw [hje'] at hy
            cases hy
            exact q2 rfl,
        fun y hy => by rw [hje'] at hy; cases hy; simp⟩)
    have : (execOp a.eval o).run P w = .ok (.value (.tuple #[.bool true, e.key, e.val])) (ChangeMaps.setBlock w1 b (.mapIter (some bm) cl (seen.push e.born) cl)) := by
      unfold execOp; rw [ho]
      simp only [ex, Sem.run_bind]
      rw [show ∀ t, Instr.next (.pointer (some ⟨b, 0, none⟩)) false t = Instr.next (.pointer (some ⟨b, 0, none⟩)) false 0 from fun _ => rfl, hrun]
      rfl
    rw [this]
    exact ⟨g, .tuple [.bool true, .any, .any], _, hch.2, hch.1, ⟨_, rfl, AR.cons rfl (AR.cons trivial (AR.cons trivial AR.nil))⟩, hgo j hjl (by omega)⟩
theorem aeff_entryM {K : Hp → AV → Prop} {x : Operand} {r last : Nat} {ks : List (List UInt8)} {vs : List AV} {left : List Nat} (hw : wantA ops st o = some true) (ho : o.op = .entry x)
    (hx : st.eval x = .ref r 0) (hob : st.H.objs[r]? = some (.miter ks vs left last)) (hlt : last < ks.length)
    (h : K st.H (.tuple [.str ks[last], vs.getD last .any])) : AEff P W0 ops o st K := by
  intro g w a hr
  refine .inr ⟨wantA_sound hw hr, ?_⟩
  obtain ⟨b, bm, es, cl, seen, hl, hp, hf, hh, hfm, hm, hk, hv, h1, h2, h3⟩ := hr.inv.obj r _ hob
  have hes : es.size = ks.length := by have := congrArg List.length hk.1; simpa using this
  have ex : a.eval x = .pointer (some ⟨b, 0, none⟩) := by
    have := hr.eval x; rw [hx] at this
    obtain ⟨b', hl', e⟩ := this
    rw [hl] at hl'; cases hl'; exact e
  have hel : last < es.toList.length := by simpa [hes] using hlt
  have heq : es.toList[last]? = some (es.toList[last]) := List.getElem?_eq_getElem hel
  have hback := h3 _ heq
  obtain ⟨seen', rfl⟩ : ∃ s, seen = Array.push s (es.toList[last]).born := by
    refine ⟨seen.pop, ?_⟩
    have hb3 : seen.toList.getLast? = some (es.toList[last]).born := by simpa using hback
    apply Array.toList_inj.1
    rw [Array.toList_push, Array.toList_pop]
    obtain ⟨l, hl2⟩ : ∃ l, seen.toList = l ++ [(es.toList[last]).born] := List.getLast?_eq_some_iff.1 hb3
    rw [hl2]; simp
  have hrun := run_entry_at (P := P) w b bm cl seen' es cl (es.toList[last]) hh hm (List.getElem_mem hel) hk.2.2.1
  have : (execOp a.eval o).run P w = .ok (.value (.tuple #[(es.toList[last]).key, (es.toList[last]).val])) w := by
    unfold execOp; rw [ho]
    simp only [ex, Sem.run_bind, hrun]
    rfl
  rw [this]
  refine ⟨g, .tuple [.str ks[last], vs.getD last .any], st.H, .refl _ _, hr.inv, ⟨_, rfl, AR.cons ?_ (AR.cons ?_ AR.nil)⟩, h⟩
  · have := congrArg (fun l => l[last]?) hk.1
    simp only [List.getElem?_map, heq, Option.map_some, List.getElem?_eq_getElem hlt, Option.some.injEq] at this
    exact this
  · have := AR.get last .any undef hv trivial
    simp only [List.getD_eq_getElem?_getD, List.getElem?_map, heq, Option.map_some, Option.getD_some] at this
    rw [List.getD_eq_getElem?_getD]
    exact this
theorem sb {st : St} {n : Nat} {env' : List (Nat × AV)} {H : Hp} (h : ∀ d, Le (look st.env d) (look env' d) := by (repeat' first | exact only_nil | refine only_cons (by simp (disch := omega)) ?_)) (hn : n = st.n := by rfl) (hH : H = st.H := by rfl) : Sub st ⟨n, env', H⟩ := ⟨hn, hH, h⟩
end
theorem small_if {α : Type} {n m : Nat} (h : n ≤ m) (a b : α) : (if n ≤ m then a else b) = a := if_pos h
theorem small_ifI {α : Type} {n m : Int} (h : n ≤ m) (a b : α) : (if n ≤ m then a else b) = a := if_pos h
theorem Le.of_eq {a b : AV} (h : a = b) : Le a b := h ▸ .refl _
end Go.Av
namespace Go.Av
def planPre (ops : Array Oper) (late : List Nat) : List (Nat × Bool) → Array Bool → Bool
  | [], _ => true
  | (i, tk) :: p, listed =>
    (match ops[i]? with
      | none => false
      | some o =>
        if tk then fixOp o.op && Region.free .any ops listed i && (Region.ready .any ops listed).contains i && !late.contains i
        else Region.ready .any ops listed == [i]) &&
    planPre ops late p (listed.setIfInBounds i true)
def after : List (Nat × Bool) → Array Bool → Array Bool
  | [], listed => listed
  | (i, _) :: p, listed => after p (listed.setIfInBounds i true)
def AW (P : Program) (W0 : World) (ops : Array Oper) (late : List Nat) (H0 : Hp) (Q : Exit → St → Prop) (listed : Array Bool) (n : Nat) (st : St) : Prop :=
  listed.size = ops.size → Closed ops listed → Early late H0 listed st.H → AAny P W0 (Early late H0) ops Q n listed st
section
variable {P : Program} {T : Tab} {mu : TypeId → Bool} {W0 : World} {ops : Array Oper} {late : List Nat} {H0 : Hp} {Q : Exit → St → Prop}
theorem ADr.anyK {n : Nat} (hT : TabOK P T) (hs : Region.noSelect ops = true) : ∀ (p : List (Nat × Bool)) (listed : Array Bool) (st : St), listed.size = ops.size → Closed ops listed → Early late H0 listed st.H →
    planPre ops late p listed = true → ADr P W0 T mu ops late H0 (fun _ st => AW P W0 ops late H0 Q (after p listed) n st) p st → AAny P W0 (Early late H0) ops Q (p.length + n) listed st
  | [], listed, st, hsz, hcl, hE, hp, h => by rw [List.length_nil, Nat.zero_add]; exact h hsz hcl hE
  | (i, tk) :: p, listed, st, hsz, hcl, hE, hp, ⟨o, ho, h⟩ => by
    simp only [planPre, ho, Bool.and_eq_true] at hp
    obtain ⟨hp1, hp2⟩ := hp
    rw [show (((i, tk) :: p).length + n) = (p.length + n) + 1 from by simp only [List.length_cons]; omega]
    have hilt : i < listed.size := by rw [hsz]; exact (Array.getElem?_eq_some_iff.1 ho).1
    have hsz' : (listed.setIfInBounds i true).size = ops.size := by simpa using hsz
    have early : ∀ H', (late.contains i = true ∨ H' = H0) → Early late H0 (listed.setIfInBounds i true) H' := by
      rintro H' (hl | rfl)
      · exact .inl (List.any_eq_true.2 ⟨i, List.contains_iff_mem.1 hl, by simp [hilt]⟩)
      · exact .inr rfl
    cases tk with
    | true =>
      rcases h with ⟨H', y, hstep, hl, hset, h⟩ | ⟨hf, _⟩
      · simp only [if_true, Bool.and_eq_true, Bool.not_eq_true'] at hp1
        obtain ⟨⟨⟨hfix, hfree⟩, hready⟩, hnl⟩ := hp1
        obtain ⟨e1, hx⟩ := fix_step hfix hstep
        subst e1
        have hH : st.H = H0 := hl.resolve_left (by rw [hnl]; simp)
        have hrd : i ∈ Region.ready .any ops listed := by simpa using hready
        refine aany_take hT hs ho (by rw [hfree, hready]; rfl) (Early.set hnl) hcl hE hx ?_ ?_
        · intro listed' H hcl' hu hI
          rcases hset rfl with hall | hall
          · have : H = H0 := hI.resolve_left fun hlj => by
              obtain ⟨j, hj, hlj⟩ := List.any_eq_true.1 hlj
              have h2 := waits_listed hcl' i 2 j (List.all_eq_true.1 hall j hj) hlj
              rcases Nat.lt_or_ge i listed'.size with q | q
              · simp [q] at h2 hu; rw [h2] at hu; cases hu
              · simp [Array.getElem?_eq_none q] at h2
            subst this
            rw [withH hH]; exact hx
          · exact (fix_step hfix (hall H)).2
        · exact ADr.anyK hT hs p _ _ hsz' (hcl.set hrd) (by rw [put_H]; exact (Early.set hnl _ _).2 hE) hp2 (by rwa [withH rfl] at h)
      · cases hf
    | false =>
      simp only [Bool.false_eq_true, if_false, beq_iff_eq] at hp1
      have hrd : i ∈ Region.ready .any ops listed := by rw [hp1]; simp
      refine aany_one ho hp1 ?_
      rcases h with ⟨H', y, hstep, hl, _, h⟩ | ⟨_, h⟩
      · exact aeff_step hT hstep ⟨early H' hl, ADr.anyK hT hs p _ _ hsz' (hcl.set hrd) (by rw [put_H]; exact early H' hl) hp2 h⟩
      · exact h.mono fun H' y ⟨hl, h⟩ => ⟨early H' hl, ADr.anyK hT hs p _ _ hsz' (hcl.set hrd) (by rw [put_H]; exact early H' hl) hp2 h⟩
theorem cutIf {st : St} (id : Nat) {l : Array Oper} {b : Bool} {c : Operand} {x y : Code} (T : St → Prop) (h : AWP P W0 (.seq (.region id l b) (.cond c x y)) st (fun e s => e = .normal ∧ T s)) (k : ∀ s, T s → Q .normal s) : AWP P W0 (.seq (.region id l b) (.cond c x y)) st Q :=
  h.mono fun _ _ ⟨e, t⟩ => e ▸ k _ t
theorem awp_drawK {id : Nat} {l : List Oper} {st : St} (plan : List (Nat × Bool)) (late : List Nat) (hT : TabOK P T) (hm : P.follows .mixedOrders = true)
    (hchk : (Region.noSelect l.toArray && planPre l.toArray late plan (Array.replicate l.length false)) = true) (n : Nat) (hn : plan.length + n = l.length)
    (h : ADr P W0 T mu l.toArray late st.H (fun _ st' => AW P W0 l.toArray late st.H Q (after plan (Array.replicate l.length false)) n st') plan st) : AWP P W0 (.region id l.toArray true) st Q := by
  simp only [Bool.and_eq_true] at hchk
  refine awp_region_any (I := Early late st.H) hm ?_
  have := ADr.anyK hT hchk.1 plan (Array.replicate l.length false) st (by simp) (fun j oj _ hl => by
    rcases Nat.lt_or_ge j l.length with q | q
    · simp [q] at hl
    · simp [Array.getElem?_eq_none, q] at hl) (.inr rfl) hchk.2 h
  rwa [hn] at this
theorem aw_done {n : Nat} {listed : Array Bool} {st : St} (h : Q .normal st) (hr : Region.ready .any ops listed = []) : AW P W0 ops late H0 Q listed n st :=
  fun _ _ _ => aany_done hr h
theorem aw_next {i : Nat} {n : Nat} {listed : Array Bool} {st : St} {o : Oper} (hi : ops[i]? = some o) (hr : i ∈ Region.ready .any ops listed) (hl : late.contains i = true)
    (h : AEff P W0 ops o st fun H' y => AW P W0 ops late H0 Q (listed.setIfInBounds i true) n (St.put { st with H := H' } o.dst y)) :
    listed.size = ops.size → Closed ops listed → Early late H0 listed st.H → AEff P W0 ops o st fun H' y => Early late H0 (listed.setIfInBounds i true) H' ∧ AAny P W0 (Early late H0) ops Q n (listed.setIfInBounds i true) (St.put { st with H := H' } o.dst y) := by
  intro hsz hcl _
  have hilt : i < listed.size := by rw [hsz]; exact (Array.getElem?_eq_some_iff.1 hi).1
  have early : ∀ H', Early late H0 (listed.setIfInBounds i true) H' := fun H' => .inl (List.any_eq_true.2 ⟨i, List.contains_iff_mem.1 hl, by simp [hilt]⟩)
  exact h.mono fun H' y q => ⟨early H', q (by simpa using hsz) (hcl.set hr) (by rw [put_H]; exact early H')⟩
theorem aw_one {i : Nat} {n : Nat} {listed : Array Bool} {st : St} {o : Oper} (hi : ops[i]? = some o) (hr : Region.ready .any ops listed = [i]) (hl : late.contains i = true)
    (h : AEff P W0 ops o st fun H' y => AW P W0 ops late H0 Q (listed.setIfInBounds i true) n (St.put { st with H := H' } o.dst y)) : AW P W0 ops late H0 Q listed (n + 1) st :=
  fun hsz hcl hE => aany_one hi hr (aw_next hi (by rw [hr]; simp) hl h hsz hcl hE)
theorem aw_many {is : List Nat} {n : Nat} {listed : Array Bool} {st : St} (hr : Region.ready .any ops listed = is) (hl : (is.all fun i => late.contains i) = true)
    (h : ∀ i ∈ is, ∀ o, ops[i]? = some o → AEff P W0 ops o st fun H' y => AW P W0 ops late H0 Q (listed.setIfInBounds i true) n (St.put { st with H := H' } o.dst y)) (hne : is.isEmpty = false) : AW P W0 ops late H0 Q listed (n + 1) st := by
  intro hsz hcl hE
  exact ⟨fun h0 => (by rw [hr] at h0; rw [h0] at hne; cases hne), fun i hi o ho => aw_next ho hi (List.all_eq_true.1 hl i (by rw [← hr]; exact hi)) (h i (by rw [← hr]; exact hi) o ho) hsz hcl hE⟩
theorem aw_two {i j : Nat} {oi oj : Oper} {n : Nat} {listed : Array Bool} {st : St} (hi : ops[i]? = some oi) (hj : ops[j]? = some oj) (hr : Region.ready .any ops listed = [i, j]) (hl : ([i, j].all fun i => late.contains i) = true)
    (h : AEff P W0 ops oi st fun H' y => AW P W0 ops late H0 Q (listed.setIfInBounds i true) n (St.put { st with H := H' } oi.dst y))
    (k : AEff P W0 ops oj st fun H' y => AW P W0 ops late H0 Q (listed.setIfInBounds j true) n (St.put { st with H := H' } oj.dst y)) : AW P W0 ops late H0 Q listed (n + 1) st := by
  refine aw_many hr hl (fun l hl o ho => ?_) rfl
  simp only [List.mem_cons, List.not_mem_nil, or_false] at hl
  rcases hl with rfl | rfl
  · rw [hi] at ho; cases ho; exact h
  · rw [hj] at ho; cases ho; exact k
theorem aw_fn {st : St} {o : Oper} {c : Call} {f : FuncId} {args : List AV} {K : Hp → AV → Prop} (ho : o.op = .call c) (hc : c.callee = .value (.func f)) (hg : o.guard = none) (hen : enters P f) (ha : c.args.toList.map st.eval = args)
    (h : SF P W0 f args st.H fun r H' => K H' r) : AEff P W0 ops o st K :=
  aeff_call (by simp [wantA, hg]) ho hc (f := f) (caps := []) rfl hen (by rw [List.append_nil, ha]; exact h)
def Goes (P : Program) (W0 : World) (ops : Array Oper) (i : Nat) (st st' : St) : Prop := ∃ o, ops[i]? = some o ∧ ∀ K : St → Prop, K st' → AEff P W0 ops o st fun H' y => K (St.put { st with H := H' } o.dst y)
theorem goes_run {ops : Array Oper} {i : Nat} {st st' : St} (hT : TabOK P T) (h : runD T mu ops [(i, false)] st = some st') : Goes P W0 ops i st st' := by
  obtain ⟨o, H', y, ho, hs, h2⟩ := runD_step h
  cases h2
  exact ⟨o, ho, fun K k => aeff_step hT hs k⟩
theorem goes_fn {ops : Array Oper} {i : Nat} {o : Oper} {st st' : St} {c : Call} {f : FuncId} {args : List AV} {v : AV} (ho : ops[i]? = some o) (hop : o.op = .call c) (hc : c.callee = .value (.func f)) (hg : o.guard = none) (hen : enters P f) (ha : c.args.toList.map st.eval = args)
    (h : SF P W0 f args st.H fun r H' => H' = st.H ∧ r = v) (hput : St.put st o.dst v = st') : Goes P W0 ops i st st' :=
  ⟨o, ho, fun K k => aw_fn hop hc hg hen ha (h.mono (by rintro r H' ⟨rfl, rfl⟩; rw [show ({ st with H := st.H } : St) = st from rfl, hput]; exact k))⟩
theorem ag_one {i : Nat} {n : Nat} {listed : Array Bool} {st st' : St} (hr : Region.ready .any ops listed = [i]) (hl : late.contains i = true) (h : Goes P W0 ops i st st') (k : AW P W0 ops late H0 Q (listed.setIfInBounds i true) n st') : AW P W0 ops late H0 Q listed (n + 1) st := by
  obtain ⟨o, ho, h⟩ := h
  exact aw_one ho hr hl (h _ k)
theorem ag_two {i j : Nat} {n : Nat} {listed : Array Bool} {st st1 st2 : St} (hr : Region.ready .any ops listed = [i, j]) (hl : ([i, j].all fun i => late.contains i) = true) (h1 : Goes P W0 ops i st st1) (h2 : Goes P W0 ops j st st2)
    (k1 : AW P W0 ops late H0 Q (listed.setIfInBounds i true) n st1) (k2 : AW P W0 ops late H0 Q (listed.setIfInBounds j true) n st2) : AW P W0 ops late H0 Q listed (n + 1) st := by
  obtain ⟨o1, ho1, h1⟩ := h1
  obtain ⟨o2, ho2, h2⟩ := h2
  exact aw_two ho1 ho2 hr hl (h1 _ k1) (h2 _ k2)
theorem ag_three {i j k : Nat} {n : Nat} {listed : Array Bool} {st st1 st2 st3 : St} (hr : Region.ready .any ops listed = [i, j, k]) (hl : ([i, j, k].all fun i => late.contains i) = true) (h1 : Goes P W0 ops i st st1) (h2 : Goes P W0 ops j st st2) (h3 : Goes P W0 ops k st st3)
    (k1 : AW P W0 ops late H0 Q (listed.setIfInBounds i true) n st1) (k2 : AW P W0 ops late H0 Q (listed.setIfInBounds j true) n st2) (k3 : AW P W0 ops late H0 Q (listed.setIfInBounds k true) n st3) : AW P W0 ops late H0 Q listed (n + 1) st := by
  obtain ⟨o1, ho1, h1⟩ := h1
  obtain ⟨o2, ho2, h2⟩ := h2
  obtain ⟨o3, ho3, h3⟩ := h3
  refine aw_many hr hl (fun l hl o ho => ?_) rfl
  simp only [List.mem_cons, List.not_mem_nil, or_false] at hl
  rcases hl with rfl | rfl | rfl
  · rw [ho1] at ho; cases ho; exact h1 _ k1
  · rw [ho2] at ho; cases ho; exact h2 _ k2
  · rw [ho3] at ho; cases ho; exact h3 _ k3
theorem ag_plan {n : Nat} {listed : Array Bool} {st : St} (p : List (Nat × Bool)) (hT : TabOK P T) (hs : (Region.noSelect ops && planPre ops late p listed) = true) (h : ADr P W0 T mu ops late H0 (fun _ st => AW P W0 ops late H0 Q (after p listed) n st) p st) : AW P W0 ops late H0 Q listed (p.length + n) st := by
  rw [Bool.and_eq_true] at hs
  exact fun hsz hcl hE => ADr.anyK hT hs.1 p listed st hsz hcl hE hs.2 h
end
end Go.Av
namespace Go.Av
open Go.Proofs
variable {W0 : World}
set_option maxRecDepth 10000
set_option maxHeartbeats 4000000
theorem take_one {α : Type} (l : List α) (i : Nat) (h : i < l.length) : l.take (i + 1) = l.take i ++ [l[i]] := by simp
end Go.Av
namespace Go.Av
open Go.Proofs
variable {W0 : World}
set_option maxRecDepth 10000
set_option maxHeartbeats 4000000
@[simp] theorem strs_tail (l : List Str) : (strs l).tail = strs l.tail := by simp [strs]
theorem splitB_long {a : Str} (h : longB a = true) : splitB a = pieces [] a := by simp [splitB, h]
theorem piece_len {a x : Str} (h : longB a = true) (hx : x ∈ pieces [] a) : x.length ≤ 128 := by
  have := pieces_le a [] a (by simp) x hx
  have := longB_len h
  omega
theorem pieces_small {a : Str} (h : longB a = true) : (pieces [] a).length ≤ 1000 := by
  have := pieces_len [] a
  have := longB_len h
  omega
theorem goIn_drop {sp : Str} {ls : List Str} {i : Nat} (h : i < ls.length) (cur : List Hs) : goIn sp (ls.drop i) cur =
    match findL (isH ((if i + 1 = ls.length then sp else [109]) ++ 58 :: ls[i])) cur with
    | none => none
    | some k => goIn sp (ls.drop (i + 1)) k.ins := by
  rw [List.drop_eq_getElem_cons h]
  simp only [goIn]
  by_cases hl : i + 1 = ls.length
  · have : ls.drop (i + 1) = [] := List.drop_of_length_le (by omega)
    rw [if_pos this, if_pos hl]; rfl
  · have : ls.drop (i + 1) ≠ [] := by intro h; have := congrArg List.length h; simp at this; omega
    rw [if_neg this, if_neg hl]; rfl
def oneP (s : List Bd) (p : Path) (sp long : Str) (ls : List Str) (b : Option Bd) : Option (Lk × List Hs) :=
  match b with
  | none => none
  | some b => match goIn sp (ls.drop 1) b.ins with
    | none => none
    | some h => some (⟨p, sp, long, b.site, if b.br then ls else ls.drop 1⟩, h)
theorem one_parts {s : List Bd} {p : Path} {sp long : Str} {ls : List Str} (hl : longB long = true) (hls : pieces [] long = ls) (h0 : 0 < ls.length) :
    one s p sp long = oneP s p sp long ls (findL (isBd ((if ls.length = 1 then sp else [109]) ++ (58 : UInt8) :: ls[0])) s) := by
  unfold one
  rw [splitB_long hl, hls]
  cases ls with
  | nil => simp at h0
  | cons x r =>
    have : (x :: r).length = 1 ↔ r = [] := by simp
    simp only [this, List.getElem_cons_zero, oneP, List.drop_succ_cons, List.drop_zero]
    rfl
end Go.Av
namespace Go.Av
open Go.Proofs
variable {W0 : World}
set_option maxRecDepth 10000
set_option maxHeartbeats 4000000
def E0 : Hp := ⟨[], []⟩
theorem E0.gr (H : Hp) : Gr E0 H := ⟨by simp [E0], by simp [E0]⟩
def WKo (H : Hp) (r : Nat) (w : Wk) : Prop := ∃ vL vX, H.objs[r]? = some (.cells [vL, vX, .int .i64 w.E]) ∧ App E0 H 5 (lks w.L) vL ∧ App E0 H 5 (lks w.X) vX ∧ Parted vL vX
def Fr (P : Nat → Prop) (H H' : Hp) : Prop := H'.objs.length = H.objs.length ∧ ∀ j, ¬ P j → H'.objs[j]? = H.objs[j]?
theorem Fr.refl {P : Nat → Prop} (H : Hp) : Fr P H H := ⟨rfl, fun _ _ => rfl⟩
theorem Fr.trans {P : Nat → Prop} {H H' H'' : Hp} (h : Fr P H H') (k : Fr P H' H'') : Fr P H H'' := ⟨k.1.trans h.1, fun j hj => (k.2 j hj).trans (h.2 j hj)⟩
theorem Fr.mono {P Q : Nat → Prop} {H H' : Hp} (h : Fr P H H') (hp : ∀ j, P j → Q j) : Fr Q H H' := ⟨h.1, fun j hj => h.2 j fun k => hj (hp j k)⟩
theorem obj_lt {H : Hp} {r : Nat} {o : AObj} (h : H.objs[r]? = some o) : r < H.objs.length := (List.getElem?_eq_some_iff.1 h).1
theorem WKo.lt {H : Hp} {r : Nat} {w : Wk} (h : WKo H r w) : r < H.objs.length := let ⟨_, _, h, _⟩ := h; obj_lt h
theorem WKo.keep {H H' : Hp} {r : Nat} {w : Wk} (h : WKo H r w) (ho : H'.objs[r]? = H.objs[r]?) (hh : H'.hi = H.hi) : WKo H' r w :=
  let ⟨a, b, h1, h2, h3, h4⟩ := h; ⟨a, b, ho.trans h1, h2.same hh, h3.same hh, h4⟩
theorem wko_end {Hc : Hp} {n m r : Nat} {w : Wk} (h : WKo Hc r w) (hr : r < n) (hm : Hc.hi.length ≤ m) : WKo ⟨(Hc.objs.take n).map (clnO n m), Hc.hi.take m⟩ r w := by
  obtain ⟨a, b, h1, h2, h3, h4⟩ := h
  refine ⟨cln n m a, cln n m b, ?_, ?_, ?_, ?_⟩
  · simp only [List.getElem?_map, List.getElem?_take, hr, if_true, h1]; simp [clnO]
  · have := h2.cln n m ((Hc.objs.take n).map (clnO n m)) hm; rwa [lks_cln] at this
  · have := h3.cln n m ((Hc.objs.take n).map (clnO n m)) hm; rwa [lks_cln] at this
  · exact ((h4.cln n m).symm.cln n m).symm
theorem fr_end {H Hc : Hp} {m : Nat} {P : Nat → Prop} (hlen : H.objs.length ≤ Hc.objs.length) (hf : ∀ j, j < H.objs.length → ¬ P j → Hc.objs[j]? = H.objs[j]?) (hold : H.objs.map (clnO H.objs.length m) = H.objs) (hi : List Nat) :
    Fr P H ⟨(Hc.objs.take H.objs.length).map (clnO H.objs.length m), hi⟩ := by
  refine ⟨by simp; omega, fun j hj => ?_⟩
  simp only [List.getElem?_map, List.getElem?_take]
  split
  · rename_i hlt
    rw [hf j hlt hj]
    have := congrArg (fun l => l[j]?) hold
    simpa only [List.getElem?_map] using this
  · rename_i hge
    rw [List.getElem?_eq_none (by omega)]; rfl
end Go.Av
namespace Go.Av
open Go.Proofs
variable {W0 : World}
set_option maxRecDepth 10000
set_option maxHeartbeats 4000000
def sttO (x : Stt) : AObj := .cells [.sl 4 (bds x.S) .shut, .sl 6 (Hs.avs x.Out) .shut]
def STo (H : Hp) (rt : Nat) (x : Stt) : Prop := H.objs[rt]? = some (sttO x)
theorem STo.set {H : Hp} {rt : Nat} (x : Stt) (h : rt < H.objs.length) : STo { H with objs := H.objs.set rt (sttO x) } rt x := by simp [STo, h]
theorem typW_node (N : Nat) (s : List Bd) (k n : Int) (a b : Str) (l : List Tr) (p : Path) (w : Wk) : typW (N + 1) s (.node k n a b l) p w =
    foldK (fun i t w => typW N (if k = 7 ∨ k = 62 ∨ k = 72 then bindB s (116 :: 58 :: a) p [] else s) t (down p i) w) 0 l (if k = 4 then (refer w s p [116] a).1 else w) := rfl
theorem WKo.set {H : Hp} {r rt : Nat} {w : Wk} {o : AObj} (h : WKo H r w) (hne : r ≠ rt) : WKo { H with objs := H.objs.set rt o } r w := h.keep (by simp only; rw [List.getElem?_set_ne (Ne.symm hne)]) rfl
theorem STo.fr {H H' : Hp} {rt : Nat} {x : Stt} {P : Nat → Prop} (h : STo H rt x) (hf : Fr P H H') (hne : ¬ P rt) : STo H' rt x := (hf.2 rt hne).trans h
theorem Fr.set {P : Nat → Prop} {H : Hp} {rt : Nat} {o : AObj} (hp : P rt) : Fr P H { H with objs := H.objs.set rt o } :=
  ⟨by simp, fun j hj => by simp only; rw [List.getElem?_set_ne]; rintro rfl; exact hj hp⟩
theorem pos_len : ∀ {l : List Tr}, (∀ t ∈ l, 1 ≤ t.cnt) → l.length ≤ Tr.cnts l
  | [], _ => Nat.le_refl _
  | t :: l, h => by
    have := pos_len (l := l) fun u hu => h u (.tail _ hu)
    have := h t (.head _)
    simp only [List.length_cons, Tr.cnts]; omega
theorem putKids_drop {p : Path} {l : List Tr} {i : Nat} (h : i < l.length) (x : Stt) : putKids p (l.drop i) x = putKids p (l.drop (i + 1)) (x.put (118 :: 58 :: l[i].name) p []) := by
  rw [List.drop_eq_getElem_cons h]; rfl
theorem kid8 {l : List Tr} (h8 : ∀ t ∈ l, t.kind = 8) {i : Nat} (h : i < l.length) : ∃ n a b ks, l[i] = .node 8 n a b ks := by
  have := h8 l[i] (List.getElem_mem h)
  cases hk : l[i] with
  | none => rw [hk] at this; simp [Tr.kind] at this
  | node k n a b ks => rw [hk] at this; obtain rfl : k = 8 := this; exact ⟨n, a, b, ks, rfl⟩
end Go.Av
namespace Go.Av
open Go.Proofs
variable {W0 : World}
set_option maxRecDepth 10000
set_option maxHeartbeats 4000000
theorem exprW_node (N : Nat) (s : List Bd) (k n : Int) (a b : Str) (l : List Tr) (p : Path) (w : Wk) : exprW (N + 1) s (.node k n a b l) p w =
    foldK (fun i t w => if (k = 24 ∧ i = 0) ∨ (k = 33 ∧ i = 1) then typW N s t (down p i) w
      else exprW N (if k = 24 ∨ (k = 29 ∧ i = 1) then bindB s (118 :: 58 :: a) p [] else if k = 34 then bindB s (118 :: 58 :: b) p [] else s) t (down p i) w) 0 l (if k = 23 then (refer w s p [118] a).1 else w) := rfl
theorem exprW_var (N : Nat) (s : List Bd) (n : Int) (a b : Str) (p : Path) (w : Wk) : exprW (N + 1) s (.node 23 n a b []) p w = (refer w s p [118] a).1 := by simp [exprW_node, foldK]
end Go.Av
namespace Go.Av
open Go.Proofs
variable {W0 : World}
set_option maxRecDepth 10000
set_option maxHeartbeats 4000000
def mu5 : TypeId → Bool := fun t => t == 95 || t == 62
@[simp] theorem mu5_eq (t : TypeId) : mu5 t = (t == 95 || t == 62) := rfl
theorem adj_fn {P : Program} {T : Tab} {ops : Array Oper} {late : List Nat} {J : Hp → Prop} {Q : Exit → St → Prop} {i : Nat} {p : List (Nat × Bool)} {st : St} {o : Oper} {c : Call} {f : FuncId} {d : Nat} {args : List AV} (hi : ops[i]? = some o) (ho : o.op = .call c) (hc : c.callee = .value (.func f)) (hg : o.guard = none) (hd : o.dst = some d)
    (hen : enters P f) (ha : c.args.toList.map st.eval = args)
    (h : SF P W0 f args st.H fun r H' => (late.contains i = true ∨ J H') ∧ ADrJ P W0 T ops late J Q p (St.put { st with H := H' } (some d) r)) : ADrJ P W0 T ops late J Q ((i, false) :: p) st := by
  refine ⟨o, hi, .inr ⟨rfl, aeff_call (by simp [wantA, hg]) ho hc (f := f) (caps := []) rfl hen ?_⟩⟩
  rw [List.append_nil, ha, hd]
  exact h
theorem adj_fixN {P : Program} {T : Tab} {mu : TypeId → Bool} {ops : Array Oper} {late : List Nat} {J : Hp → Prop} {Q : Exit → St → Prop} {i : Nat} {p : List (Nat × Bool)} {st st' : St} {o : Oper} {y : AV} (ho : ops[i]? = some o) (ha : aheadOf ops late i = true) (hf : fixOp o.op = true) (hJs : J st.H)
    (hx : ∀ H, J H → stepA T mu ops { st with H := H } o = some (H, y)) (hput : St.put st o.dst y = st') (h : ADrJ P W0 T ops late J Q p st') : ADrJ P W0 T ops late J Q ((i, true) :: p) st :=
  adj_fix ho ha hf hJs hx (by rw [hput]; exact h)
theorem adj_stepN {P : Program} {T : Tab} {mu : TypeId → Bool} {ops : Array Oper} {late : List Nat} {J : Hp → Prop} {Q : Exit → St → Prop} {i : Nat} {p : List (Nat × Bool)} {st st' : St} {o : Oper} {y : AV} {H' : Hp} (hT : TabOK P T) (ho : ops[i]? = some o) (hx : stepA T mu ops st o = some (H', y)) (hl : late.contains i = true ∨ J H')
    (hput : St.put { st with H := H' } o.dst y = st') (h : ADrJ P W0 T ops late J Q p st') : ADrJ P W0 T ops late J Q ((i, false) :: p) st :=
  adj_step hT ho hx hl (by rw [hput]; exact h)
def specF (N : Nat) (p : Path) (i : Nat) (k : Tr) (x : Wk × Stt) : Wk × Stt := specW N x.2 k (down p i) x.1
theorem sigW_name (N : Nat) (s : List Bd) (n : Int) (a b : Str) (p : Path) (w : Wk) : sigW (N + 1) s (.node 51 n a b []) p w = refer w s p [115] a := by simp [sigW, Tr.kind, Tr.name]
theorem sigW_wh (N : Nat) (s : List Bd) (n : Int) (a b : Str) (g t : Tr) (p : Path) (w : Wk) : sigW (N + 1) s (.node 52 n a b [g, t]) p w = (typW N s t (down p 1) (sigW N s g (down p 0) w).1, (sigW N s g (down p 0) w).2) := by simp [sigW, Tr.kind, Tr.kid, Tr.kids]
theorem sigW_body (N : Nat) (s : List Bd) (n : Int) (a b : Str) (l : List Tr) (p : Path) (w : Wk) : sigW (N + 1) s (.node 50 n a b l) p w = ((foldK (specF N p) 0 l (w, ⟨s, []⟩)).1, (foldK (specF N p) 0 l (w, ⟨s, []⟩)).2.Out) := by simp [sigW, Tr.kind, Tr.kids]; exact ⟨rfl, rfl⟩
theorem mul_le (M : Nat) {a b : Nat} (h : a ≤ b) : M * a ≤ M * b := Nat.mul_le_mul_left _ h
theorem specW_val (N : Nat) (x : Stt) (n : Int) (a b : Str) (t : Tr) (p : Path) (w : Wk) : specW (N + 1) x (.node 60 n a b [t]) p w = (typW N x.S t (down p 0) w, x.put (118 :: 58 :: a) p []) := by simp [specW, Tr.kind, Tr.kid, Tr.kids, Tr.name]
theorem specW_data (N : Nat) (x : Stt) (n : Int) (a b : Str) (l : List Tr) (p : Path) (w : Wk) : specW (N + 1) x (.node 62 n a b l) p w = dataW (N + 1) x (.node 62 n a b l) p w := by simp [specW, Tr.kind]
theorem specW_str (N : Nat) (x : Stt) (n : Int) (a b : Str) (g : Tr) (p : Path) (w : Wk) : specW (N + 1) x (.node 63 n a b [g]) p w = ((sigW N x.S g (down p 0) w).1, x.put (109 :: 58 :: a) p (sigW N x.S g (down p 0) w).2) := by simp [specW, Tr.kind, Tr.kid, Tr.kids, Tr.name]
theorem specW_inc (N : Nat) (x : Stt) (n : Int) (a b : Str) (g : Tr) (p : Path) (w : Wk) : specW (N + 1) x (.node 64 n a b [g]) p w = ((sigW N x.S g (down p 0) w).1, ⟨bringB x.S (sigW N x.S g (down p 0) w).2 p, putAll x.Out (sigW N x.S g (down p 0) w).2 p⟩) := by simp [specW, Tr.kind, Tr.kid, Tr.kids]
theorem specW_share (N : Nat) (x : Stt) (n : Int) (a b : Str) (p : Path) (w : Wk) : specW (N + 1) x (.node 65 n a b []) p w = (w, x) := by simp [specW, Tr.kind]
end Go.Av
namespace Go.Av
open Go.Proofs
variable {W0 : World}
set_option maxRecDepth 10000
set_option maxHeartbeats 4000000
end Go.Av
namespace Go.Av
open Go.Proofs
variable {W0 : World}
set_option maxRecDepth 10000
set_option maxHeartbeats 4000000
def declF (N : Nat) (p : Path) (i : Nat) (k : Tr) (x : Wk × Stt) : Wk × Stt := declW N x.2 k (down p i) x.1
theorem modW_path (N : Nat) (s : List Bd) (n : Int) (a b : Str) (p : Path) (w : Wk) : modW (N + 1) s (.node 41 n a b []) p w = refer w s p [109] a := by simp [modW, Tr.kind, Tr.name]
theorem modW_app (N : Nat) (s : List Bd) (n : Int) (a b : Str) (m : Tr) (p : Path) (w : Wk) : modW (N + 1) s (.node 42 n a b [m]) p w = ((modW N s m (down p 0) (refer w s p [102] a).1).1, (refer w s p [102] a).2) := by simp [modW, Tr.kind, Tr.name, Tr.kid, Tr.kids]
theorem modW_seal (N : Nat) (s : List Bd) (n : Int) (a b : Str) (m g : Tr) (p : Path) (w : Wk) : modW (N + 1) s (.node 43 n a b [m, g]) p w = sigW N s g (down p 1) (modW N s m (down p 0) w).1 := by simp [modW, Tr.kind, Tr.kid, Tr.kids]
theorem modW_body (N : Nat) (s : List Bd) (n : Int) (a b : Str) (l : List Tr) (p : Path) (w : Wk) : modW (N + 1) s (.node 40 n a b l) p w =
    ({ (foldK (declF N p) 0 l (w, ⟨s, []⟩)).1 with X := (foldK (declF N p) 0 l (w, ⟨s, []⟩)).1.X ++ endsL (foldK (declF N p) 0 l (w, ⟨s, []⟩)).2.Out p }, (foldK (declF N p) 0 l (w, ⟨s, []⟩)).2.Out) := by simp [modW, Tr.kind, Tr.kids]; exact ⟨⟨rfl, rfl, rfl⟩, rfl⟩
theorem declW_val1 (N : Nat) (x : Stt) (n : Int) (a b : Str) (e : Tr) (p : Path) (w : Wk) : declW (N + 1) x (.node 70 n a b [e]) p w = (exprW N x.S e (down p 0) w, x.put (118 :: 58 :: a) p []) := by simp [declW, Tr.kind, Tr.kid, Tr.kids, Tr.name]
theorem declW_val2 (N : Nat) (x : Stt) (n : Int) (a b : Str) (t e : Tr) (p : Path) (w : Wk) : declW (N + 1) x (.node 70 n a b [t, e]) p w = (exprW N x.S e (down p 1) (typW N x.S t (down p 0) w), x.put (118 :: 58 :: a) p []) := by simp [declW, Tr.kind, Tr.kid, Tr.kids, Tr.name]
theorem declW_typ (N : Nat) (x : Stt) (n : Int) (a b : Str) (t : Tr) (p : Path) (w : Wk) : declW (N + 1) x (.node 71 n a b [t]) p w = (typW N x.S t (down p 0) w, x.put (116 :: 58 :: a) p []) := by simp [declW, Tr.kind, Tr.kid, Tr.kids, Tr.name]
theorem declW_data (N : Nat) (x : Stt) (n : Int) (a b : Str) (l : List Tr) (p : Path) (w : Wk) : declW (N + 1) x (.node 72 n a b l) p w = dataW (N + 1) x (.node 72 n a b l) p w := by simp [declW, Tr.kind]
theorem declW_str (N : Nat) (x : Stt) (n : Int) (a b : Str) (m : Tr) (p : Path) (w : Wk) : declW (N + 1) x (.node 73 n a b [m]) p w = ((modW N x.S m (down p 0) w).1, x.put (109 :: 58 :: a) p (modW N x.S m (down p 0) w).2) := by simp [declW, Tr.kind, Tr.kid, Tr.kids, Tr.name]
theorem declW_sg (N : Nat) (x : Stt) (n : Int) (a b : Str) (g : Tr) (p : Path) (w : Wk) : declW (N + 1) x (.node 74 n a b [g]) p w = ((sigW N x.S g (down p 0) w).1, ⟨bindB x.S (115 :: 58 :: a) p (sigW N x.S g (down p 0) w).2, x.Out⟩) := by simp [declW, Tr.kind, Tr.kid, Tr.kids, Tr.name]
theorem declW_ftor (N : Nat) (x : Stt) (n : Int) (a b : Str) (g m : Tr) (p : Path) (w : Wk) : declW (N + 1) x (.node 75 n a b [g, m]) p w =
    ((modW N (bindB x.S (109 :: 58 :: b) p (sigW N x.S g (down p 0) w).2) m (down p 1) (sigW N x.S g (down p 0) w).1).1, ⟨bindB x.S (102 :: 58 :: a) p (modW N (bindB x.S (109 :: 58 :: b) p (sigW N x.S g (down p 0) w).2) m (down p 1) (sigW N x.S g (down p 0) w).1).2, x.Out⟩) := by simp [declW, Tr.kind, Tr.kid, Tr.kids, Tr.name, Tr.mark]
theorem declW_opn (N : Nat) (x : Stt) (n : Int) (a b : Str) (p : Path) (w : Wk) : declW (N + 1) x (.node 76 n a b []) p w = ((refer w x.S p [109] a).1, ⟨bringB x.S (refer w x.S p [109] a).2 p, x.Out⟩) := by simp [declW, Tr.kind, Tr.name]
theorem declW_inc (N : Nat) (x : Stt) (n : Int) (a b : Str) (p : Path) (w : Wk) : declW (N + 1) x (.node 77 n a b []) p w = ((refer w x.S p [109] a).1, ⟨bringB x.S (refer w x.S p [109] a).2 p, putAll x.Out (refer w x.S p [109] a).2 p⟩) := by simp [declW, Tr.kind, Tr.name]
end Go.Av
namespace Go.Av
open Go.Proofs
variable {W0 : World}
set_option maxRecDepth 10000
set_option maxHeartbeats 4000000
end Go.Av
namespace Go.Av
open Go.Proofs
variable {W0 : World}
set_option maxRecDepth 10000
set_option maxHeartbeats 4000000
theorem App.leC {H0 H : Hp} {sz : Nat} {es : List (List AV)} {v : AV} (h : App H0 H sz es v) (n m : Nat) : Le (Av.cln n m v) (.sl sz (clnLL n m es) .shut) := by
  rcases h.is with ⟨rfl, rfl⟩ | rfl | ⟨q, h1, rfl, h3⟩
  · exact .nil _ _ trivial
  · exact .sl (LeLL.refl _) (.inr rfl)
  · exact .sl (LeLL.refl _) (.inr rfl)
def wkR (w : Wk) : AV := .ptr [.sl 5 (lks w.L) .shut, .sl 5 (lks w.X) .shut, .int .i64 w.E]
def progR (t : Tr) : AV := if checkE t 7 = 0 then .tuple [wkR (progW t.cnt t), .int .i64 (progW t.cnt t).E] else .tuple [.nilp, .int .i64 (checkE t 7)]
theorem checkE_ok {t : Tr} (h : checkE t 7 = 0) : isB t 7 = true := by
  unfold checkE at h
  repeat' split at h
  all_goals first | (simp at h; done) | simp_all
theorem put_nodup {l : List Hs} (k : Hs) (h : (l.map Hs.label).Nodup) : ((put l k).map Hs.label).Nodup := by
  unfold put
  rw [List.map_append, List.nodup_append]
  refine ⟨?_, by simp, ?_⟩
  · rw [List.nodup_iff_pairwise_ne, List.pairwise_map] at h ⊢
    exact h.filter _
  · intro a ha b hb
    simp only [List.map_cons, List.map_nil, List.mem_singleton] at hb
    subst hb
    obtain ⟨x, hx, rfl⟩ := List.mem_map.1 ha
    have := (List.mem_filter.1 hx).2
    simpa using this
end Go.Av
namespace Go.Av
def LkOK (k : Lk) : Prop := k.at'.length ≤ 10000 ∧ k.site.length ≤ 10000 ∧ k.rest.length ≤ 200
structure LB (w : Wk) : Prop where
  l : ∀ k ∈ w.L, LkOK k
  x : ∀ k ∈ w.X, LkOK k
theorem splitB_len (s : Str) : (splitB s).length ≤ 129 := by
  unfold splitB
  split
  · rename_i h
    have := pieces_len [] s
    have := longB_len h
    omega
  · simp
theorem one_lk {U : List Str} {s : List Bd} {p : Path} {sp long : Str} {k : Lk} {h : List Hs} (hs : SOK U s) (hp : p.length ≤ 10000) (e : one s p sp long = some (k, h)) : LkOK k := by
  have hl := splitB_len long
  unfold one at e
  split at e
  · cases e
  · rename_i x r hr
    rw [hr] at hl
    simp only [List.length_cons] at hl
    split at e
    · cases e
    · rename_i b hb
      split at e
      · cases e
      · cases e
        refine ⟨hp, (hs b (findL_some hb).1).site, ?_⟩
        simp only
        split
        · simp only [List.length_cons]; omega
        · omega
theorem refer_lb {U : List Str} {w : Wk} {s : List Bd} {p : Path} {sp long : Str} (hs : SOK U s) (hp : p.length ≤ 10000) (h : LB w) : LB (refer w s p sp long).1 := by
  unfold refer
  split
  · exact ⟨h.l, h.x⟩
  · rename_i k hh e
    refine ⟨fun q hq => ?_, h.x⟩
    rcases List.mem_append.1 hq with q1 | q1
    · exact h.l q q1
    · rw [List.mem_singleton.1 q1]; exact one_lk hs hp e
theorem foldK_inv {σ : Type} {f : Nat → Tr → σ → σ} (R : σ → Prop) : ∀ (l : List Tr) (i : Nat) (x : σ), (∀ t ∈ l, ∀ j x, i ≤ j → R x → R (f j t x)) → R x → R (foldK f i l x)
  | [], _, _, _, h => h
  | t :: l, i, x, hs, h => foldK_inv R l (i + 1) (f i t x) (fun u hu j x hj => hs u (.tail _ hu) j x (by omega)) (hs t (.head _) i x (Nat.le_refl _) h)
theorem bind1 {U : List Str} {s : List Bd} {x : Str} {p : Path} {c : UInt8} (hs : SOK U s) (hx : x.length ≤ 128) (hp : p.length ≤ 10000) : SOK U (bindB s (c :: 58 :: x) p []) := bindB_ok hs (by simp) (by simp; omega) hp .nil
theorem typW_lb {U : List Str} : ∀ (N : Nat) (s : List Bd) (t : Tr) (p : Path) (w : Wk), TyW t → SOK U s → p.length + N ≤ 10000 → LB w → LB (typW N s t p w)
  | 0, _, _, _, _, _, _, _, h => h
  | N + 1, s, _, p, w, .mk (k := k) (n := n) (a := a) (b := b) (l := l) h4 ha hl _, hs, hp, h => by
    simp only [typW, Tr.kids, Tr.kind, Tr.name]
    have hs' : SOK U (if k = 7 ∨ k = 62 ∨ k = 72 then bindB s (116 :: 58 :: a) p [] else s) := by
      split
      · exact bind1 hs ha (by omega)
      · exact hs
    have h0 : LB (if k = 4 then (refer w s p [116] a).1 else w) := by
      split
      · exact refer_lb hs (by omega) h
      · exact h
    exact foldK_inv LB l 0 _ (fun t ht j x _ hx => typW_lb (U := U) N _ t _ x (hl t ht) hs' (by rw [down_len]; omega) hx) h0
theorem exprW_lb {U : List Str} : ∀ (N : Nat) (s : List Bd) (t : Tr) (p : Path) (w : Wk), ExW t → SOK U s → p.length + N ≤ 10000 → LB w → LB (exprW N s t p w)
  | 0, _, _, _, _, _, _, _, h => h
  | N + 1, s, t, p, w, ht, hs, hp, h => by
    have ih := exprW_lb (U := U) N
    have it := typW_lb (U := U) N
    have hd : ∀ i, (down p i).length + N ≤ 10000 := fun i => by rw [down_len]; omega
    cases ht with
    | var hx => simp only [exprW, Tr.kind, Tr.kids, foldK, if_true]; exact refer_lb hs (by omega) h
    | lam ha h1 h2 =>
      simp only [exprW, Tr.kind, Tr.kids, foldK, Tr.name]
      simp
      exact ih _ _ _ _ h2 (bind1 hs ha (by omega)) (hd _) (it _ _ _ _ h1 hs (hd _) h)
    | bnd ha h1 h2 =>
      simp only [exprW, Tr.kind, Tr.kids, foldK, Tr.name]
      simp
      exact ih _ _ _ _ h2 (bind1 hs ha (by omega)) (hd _) (ih _ _ _ _ h1 hs (hd _) h)
    | arm hb h2 =>
      simp only [exprW, Tr.kind, Tr.kids, foldK, Tr.name, Tr.mark]
      simp
      exact ih _ _ _ _ h2 (bind1 hs hb (by omega)) (hd _) h
    | fold h1 h2 h3 =>
      simp only [exprW, Tr.kind, Tr.kids, foldK]
      simp
      refine foldK_inv LB _ 2 _ (fun t ht j x hj hx => ?_) (it _ _ _ _ h2 hs (hd _) (ih _ _ _ _ h1 hs (hd _) h))
      rw [if_neg (by omega)]
      exact ih _ _ _ _ (h3 t ht) hs (hd _) hx
    | other n23 n24 n29 n33 n34 hl =>
      simp only [exprW, Tr.kind, Tr.kids, n23, n24, n29, n33, n34, if_false, false_and, or_false]
      exact foldK_inv LB _ 0 _ (fun t ht j x _ hx => ih _ _ _ _ (hl t ht) hs (hd _) hx) h
def SigL (U : List Str) (N : Nat) : Prop := ∀ (s : List Bd) (t : Tr) (p : Path) (w : Wk), SgW t → SOK U s → InU U t → p.length + N ≤ 10000 → LB w → LB (sigW N s t p w).1
def SpecL (U : List Str) (N : Nat) : Prop := ∀ (x : Stt) (t : Tr) (p : Path) (w : Wk), SpW t → SOK U x.S → HsOK U x.Out → InU U t → p.length + N ≤ 10000 → LB w → LB (specW N x t p w).1
def ModL (U : List Str) (N : Nat) : Prop := ∀ (s : List Bd) (t : Tr) (p : Path) (w : Wk), MdW t → SOK U s → InU U t → p.length + N ≤ 10000 → LB w → LB (modW N s t p w).1
def DeclL (U : List Str) (N : Nat) : Prop := ∀ (x : Stt) (t : Tr) (p : Path) (w : Wk), DcW t → SOK U x.S → HsOK U x.Out → InU U t → p.length + N ≤ 10000 → LB w → LB (declW N x t p w).1
theorem sigL_step {U : List Str} {N : Nat} (ihg : SigL U N) (ihp : SpecL U N) : SigL U (N + 1) := by
  intro s t p w ht hs hu hp h
  have hd : ∀ i, (down p i).length + N ≤ 10000 := fun i => by rw [down_len]; omega
  cases ht with
  | name hx => simp only [sigW, Tr.kind, if_true]; exact refer_lb hs (by omega) h
  | @wh n a b g t2 h1 h2 =>
    rw [sigW_wh]
    exact typW_lb N _ _ _ _ h2 hs (hd _) (ihg _ _ _ _ h1 hs hu.kids.head (hd _) h)
  | @body n a b l hl =>
    rw [sigW_body]
    refine (foldK_inv (fun y : Wk × Stt => LB y.1 ∧ SOK U y.2.S ∧ HsOK U y.2.Out) l 0 (w, ⟨s, []⟩) (fun t ht j x _ hx => ?_) ⟨h, hs, .nil⟩).1
    have q := ((sigs_ok U N).2 x.2 t (down p j) x.1 (hl t ht) hx.2.1 hx.2.2 (hu.kids.mem t ht) (hd _)).2
    exact ⟨ihp _ _ _ _ (hl t ht) hx.2.1 hx.2.2 (hu.kids.mem t ht) (hd _) hx.1, q.s, q.o⟩
theorem specW_tysM (N : Nat) (x : Stt) (n : Int) (a b : Str) (l : List Tr) (p : Path) (w : Wk) : specW (N + 1) x (.node 61 n a b l) p w = (foldK (fun i k w => typW N x.S k (down p i) w) 0 l w, x.put (116 :: 58 :: a) p []) := by simp [specW, Tr.kind, Tr.kids, Tr.name]
theorem specL_step {U : List Str} {N : Nat} (ihg : SigL U N) : SpecL U (N + 1) := by
  intro x t p w ht hs ho hu hp h
  have hd : ∀ i, (down p i).length + N ≤ 10000 := fun i => by rw [down_len]; omega
  cases ht with
  | val ha h1 => rw [specW_val]; exact typW_lb N _ _ _ _ h1 hs (hd _) h
  | typ0 ha => rw [specW_tysM]; exact h
  | typ1 ha h1 => rw [specW_tysM]; exact typW_lb N _ _ _ _ h1 hs (hd _) h
  | data h8 h1 => rw [specW_data]; exact typW_lb (N + 1) _ _ _ _ h1 hs hp h
  | str ha h1 => rw [specW_str]; exact ihg _ _ _ _ h1 hs hu.kids.head (hd _) h
  | inc h1 => rw [specW_inc]; exact ihg _ _ _ _ h1 hs hu.kids.head (hd _) h
  | share => simp only [specW, Tr.kind]; exact h
theorem sigsL (U : List Str) : ∀ N, SigL U N ∧ SpecL U N
  | 0 => ⟨fun s t p w _ _ _ _ h => by simp only [sigW]; exact h, fun x t p w _ _ _ _ _ h => by simp only [specW]; exact h⟩
  | N + 1 => have ih := sigsL U N; ⟨sigL_step ih.1 ih.2, specL_step ih.1⟩
theorem linkOf_ok {out : List Hs} {p : Path} (hp : p.length ≤ 10000) (hs : ∀ h ∈ out, h.site.length ≤ 10000) (x : Str) : LkOK (linkOf out p x) := by
  unfold linkOf
  split
  · rename_i h e
    refine ⟨hp, hs h (findL_some e).1, ?_⟩
    simp only
    split <;> simp
  · exact ⟨by simp, by simp, by simp⟩
theorem ends_lb {w : Wk} {out : List Hs} {p : Path} (hp : p.length ≤ 10000) (hs : ∀ h ∈ out, h.site.length ≤ 10000) (h : LB w) : LB { w with X := w.X ++ endsL out p } := by
  refine ⟨h.l, fun k hk => ?_⟩
  rcases List.mem_append.1 hk with q | q
  · exact h.x k q
  · obtain ⟨x, _, rfl⟩ := List.mem_map.1 q
    exact linkOf_ok hp hs x
theorem modL_step {U : List Str} {N : Nat} (ihm : ModL U N) (ihd : DeclL U N) : ModL U (N + 1) := by
  intro s t p w ht hs hu hp h
  have hd : ∀ i, (down p i).length + N ≤ 10000 := fun i => by rw [down_len]; omega
  cases ht with
  | path hx => rw [modW_path]; exact refer_lb hs (by omega) h
  | app hx h1 => rw [modW_app]; exact ihm _ _ _ _ h1 hs hu.kids.head (hd _) (refer_lb hs (by omega) h)
  | sealM h1 h2 => rw [modW_seal]; exact (sigsL U N).1 _ _ _ _ h2 hs hu.kids.tail.head (hd _) (ihm _ _ _ _ h1 hs hu.kids.head (hd _) h)
  | @body n a b l hl =>
    rw [modW_body]
    have := foldK_inv (fun y : Wk × Stt => LB y.1 ∧ SOK U y.2.S ∧ HsOK U y.2.Out) l 0 (w, ⟨s, []⟩) (f := declF N p) (fun t ht j x _ hx => ?_) ⟨h, hs, .nil⟩
    · exact ends_lb (by omega) this.2.2.site this.1
    · have q := ((mods_ok U N).2 x.2 t (down p j) x.1 (hl t ht) hx.2.1 hx.2.2 (hu.kids.mem t ht) (hd _)).2
      exact ⟨ihd _ _ _ _ (hl t ht) hx.2.1 hx.2.2 (hu.kids.mem t ht) (hd _) hx.1, q.s, q.o⟩
theorem declL_step {U : List Str} {N : Nat} (ihm : ModL U N) : DeclL U (N + 1) := by
  intro x t p w ht hs ho hu hp h
  have hd : ∀ i, (down p i).length + N ≤ 10000 := fun i => by rw [down_len]; omega
  cases ht with
  | val1 ha h1 => rw [declW_val1]; exact exprW_lb N _ _ _ _ h1 hs (hd _) h
  | val2 ha h1 h2 => rw [declW_val2]; exact exprW_lb N _ _ _ _ h2 hs (hd _) (typW_lb N _ _ _ _ h1 hs (hd _) h)
  | typ ha h1 => rw [declW_typ]; exact typW_lb N _ _ _ _ h1 hs (hd _) h
  | data h8 h1 => rw [declW_data]; exact typW_lb (N + 1) _ _ _ _ h1 hs hp h
  | str ha h1 => rw [declW_str]; exact ihm _ _ _ _ h1 hs hu.kids.head (hd _) h
  | sg ha h1 => rw [declW_sg]; exact (sigsL U N).1 _ _ _ _ h1 hs hu.kids.head (hd _) h
  | @ftor n a b g m ha hb h1 h2 =>
    rw [declW_ftor]
    have q := ((sigs_ok U N).1 x.S g (down p 0) w h1 hs hu.kids.head (hd _)).2
    exact ihm _ _ _ _ h2 (bindB_ok hs (by simp) (by simp; omega) (by omega) q) hu.kids.tail.head (hd _) ((sigsL U N).1 _ _ _ _ h1 hs hu.kids.head (hd _) h)
  | opn hx => rw [declW_opn]; exact refer_lb hs (by omega) h
  | inc hx => rw [declW_inc]; exact refer_lb hs (by omega) h
theorem modsL (U : List Str) : ∀ N, ModL U N ∧ DeclL U N
  | 0 => ⟨fun s t p w _ _ _ _ h => by simp only [modW]; exact h, fun x t p w _ _ _ _ _ h => by simp only [declW]; exact h⟩
  | N + 1 => have ih := modsL U N; ⟨modL_step ih.1 ih.2, declL_step ih.1⟩
theorem seenL_site : ∀ {s : List Bd} {l : List Hs}, (∀ h ∈ l, h.site.length ≤ 10000) → (∀ b ∈ s, b.site.length ≤ 10000) → ∀ h ∈ seenL s l, h.site.length ≤ 10000
  | [], l, h1, _ => h1
  | b :: s, l, h1, h2 => by
    refine seenL_site (s := s) (l := put l (seenH b)) (fun h hh => ?_) fun c hc => h2 c (.tail _ hc)
    rcases List.mem_append.1 hh with q | q
    · exact h1 h (List.mem_filter.1 q).1
    · rw [List.mem_singleton.1 q]; exact h2 b (.head _)
theorem progW_lb {t : Tr} (hc : t.cnt ≤ 4000) (h : isB t 7 = true) : LB (progW t.cnt t) ∧ (progW t.cnt t).L.length ≤ 33554431 ∧ (progW t.cnt t).X.length ≤ 33554431 := by
  obtain ⟨n, a, b, l, rfl, hl⟩ := pr_ok h
  obtain ⟨N, hN⟩ : ∃ N, (Tr.node 80 n a b l).cnt = N := ⟨_, rfl⟩
  rw [hN] at hc ⊢
  obtain ⟨U, hUd⟩ : ∃ U, Tr.labss l = U := ⟨_, rfl⟩
  have hul : InUs U l := fun x hx => hUd ▸ hx
  have hUl : U.length ≤ Tr.cnts l := hUd ▸ labss_len l
  simp only [Tr.cnt] at hN
  have hUc : (U.length + 1) * Tr.cnts l ≤ 4001 * 4000 := Nat.mul_le_mul (by omega) (by omega)
  have hUc2 : U.length * Tr.cnts l ≤ 4000 * 4000 := Nat.mul_le_mul (by omega) (by omega)
  have hd : ∀ i, (down [] i).length + N ≤ 10000 := fun i => by rw [down_len]; simp only [List.length_nil]; omega
  have hpw : progW N (.node 80 n a b l) = { (foldK (declF N []) 0 l (⟨[], [], 0⟩, ⟨[], []⟩)).1 with X := (foldK (declF N []) 0 l (⟨[], [], 0⟩, ⟨[], []⟩)).1.X ++ endsL (foldK (declF N []) 0 l (⟨[], [], 0⟩, ⟨[], []⟩)).2.Out [] ++ endsL (seenL (foldK (declF N []) 0 l (⟨[], [], 0⟩, ⟨[], []⟩)).2.S []) [] } := rfl
  have q1 := foldK_inv (fun y : Wk × Stt => LB y.1 ∧ SOK U y.2.S ∧ HsOK U y.2.Out) l 0 (⟨[], [], 0⟩, ⟨[], []⟩) (f := declF N []) (fun t ht j x _ hx => by
    have q := ((mods_ok U N).2 x.2 t (down [] j) x.1 (hl t ht) hx.2.1 hx.2.2 (hul.mem t ht) (hd _)).2
    exact ⟨(modsL U N).2 _ _ _ _ (hl t ht) hx.2.1 hx.2.2 (hul.mem t ht) (hd _) hx.1, q.s, q.o⟩) ⟨⟨by simp, by simp⟩, by simp [SOK], .nil⟩
  have q2 := decl_fold (U := U) (N := N) (mods_ok U N).2 (p := []) (by simp only [List.length_nil]; omega) hl hul ⟨[], []⟩ ⟨[], [], 0⟩ 0 (by simp [SOK]) .nil
  rw [hpw]
  obtain ⟨fin, hfin⟩ : ∃ fin, foldK (declF N []) 0 l (⟨[], [], 0⟩, ⟨[], []⟩) = fin := ⟨_, rfl⟩
  have q2' : LenX U ⟨[], [], 0⟩ fin.1 (Tr.cnts l) ∧ SttOK U ⟨[], []⟩ fin.2 (Tr.cnts l) := hfin ▸ q2
  rw [hfin] at q1 ⊢
  have hx1 := q2'.1.1
  have hx2 := q2'.1.2
  have hx3 := q2'.2.len
  have hx4 := q1.2.2.len
  simp only [List.length_nil] at hx1 hx2 hx3
  have hsl : ∀ (s : List Bd) (l : List Hs), (seenL s l).length ≤ s.length + l.length := by
    intro s
    induction s with
    | nil => intro l; simp [seenL]
    | cons b s ih => intro l; have := ih (put l (seenH b)); have := put_len l (seenH b); simp only [seenL, List.length_cons]; omega
  have hse := hsl fin.2.S []
  simp only [List.length_nil] at hse
  refine ⟨ends_lb (w := { fin.1 with X := fin.1.X ++ endsL fin.2.Out [] }) (by simp) (seenL_site (by simp) fun b hb => (q1.2.1 b hb).site) (ends_lb (by simp) q1.2.2.site q1.1), by simp only; omega, ?_⟩
  simp only [List.length_append, ends_len]
  omega
end Go.Av
