/-
  Go read by value: lemmas (part 21): A23, A24, F0, F1.
-/
import Derived.Maps.RangeRun
import Derived.Test.YtdeocbficanfaaaGreatDoorZ11
import Derived.Test.YtdeocbficanfaaaGreatDoorZ16
import Derived.Test.YtdeocbficanfaaaGreatDoorZ20
set_option linter.unusedVariables false
set_option linter.unusedSimpArgs false
set_option linter.unusedSectionVars false
namespace Go.Av
section
variable {P : Program} {T : Tab} {W0 : World}
theorem WInv.objLe {g : Gh} {H : Hp} {w : World} (h : WInv W0 g H w) {r : Nat} {cs : List AV} (ds : List AV) (ho : H.objs[r]? = some (.cells cs)) (hl : LeL cs ds) : WInv W0 g { H with objs := H.objs.set r (.cells ds) } w := by
  have hlt : r < H.objs.length := by
    rcases Nat.lt_or_ge r H.objs.length with k | k
    · exact k
    · rw [List.getElem?_eq_none k] at ho; cases ho
  refine ⟨h.base, h.size, h.os, h.out, h.tape, h.pubOld, h.pubNew, h.fro, h.locIn, fun q hq => h.locNew q (by simpa using hq), h.inj, fun q y hy => ?_, h.verIn, h.verNew, h.verHi, h.tok, h.tokInj⟩
  rw [List.getElem?_set] at hy
  split at hy
  · rename_i e
    subst e
    cases hy
    obtain ⟨b, vs, T, hl', hp, hf, hh, k⟩ := h.obj r _ ho
    exact ⟨b, vs, T, hl', hp, hf, hh, LeL.rel hl _ k⟩
  · exact h.obj q y hy
theorem awp_objLe {c : Code} {st : St} {Q : Exit → St → Prop} (r : Nat) {cs : List AV} (ds : List AV) (ho : st.H.objs[r]? = some (.cells cs)) (hl : LeL cs ds)
    (h : AWP P W0 c { st with H := { st.H with objs := st.H.objs.set r (.cells ds) } } Q) : AWP P W0 c st Q :=
  fun g w a hr => h g w a ⟨hr.inv.objLe ds ho hl, hr.defers, hr.size, hr.fr⟩
variable {ops : Array Oper} {st : St} {o : Oper}
theorem aeff_rangeM {K : Hp → AV → Prop} {t : TypeId} {x : Operand} {ks : List (List UInt8)} {vs : List AV} {kt et : TypeId} {s : Nat} {z : List ZC} (hT : TabOK P T) (hw : wantA ops st o = some true) (ho : o.op = .range t x) (ht : T t = some ⟨s, .map kt et, z⟩)
    (hx : st.eval x = .mapv ks vs) (h : K { st.H with objs := st.H.objs ++ [.miter ks vs (List.range ks.length) ks.length] } (.ref st.H.objs.length 0)) : AEff P W0 ops o st K := by
  refine aeff_heap hw (fun g w a hr => ?_) h
  obtain ⟨d, hd, hkd⟩ := (hT t _ ht).kind
  cases hkd
  have ex := hr.eval x
  rw [hx] at ex
  obtain ⟨bm, es, cl, ex, hfm, hm, hk, hv⟩ := ex
  have hes : es.size = ks.length := by have := congrArg List.length hk.1; simpa using this
  have e0 := (hr.inv.object (.mapIter (some bm) cl #[] cl) .gone trivial).2
  obtain ⟨i, e⟩ := hr.inv.object (.mapIter (some bm) cl #[] cl) (.miter ks vs (List.range ks.length) ks.length)
    ⟨w.heap.size, bm, es, cl, #[], by simp [Gh.lay], hr.inv.pubNew _ (Nat.le_refl _), hr.inv.freshFro, heap_push_new, e0.fro _ hfm, (e0.froz _ hfm).trans hm, hk, AR.mono e0 _ _ hv,
      fun j hj => by rw [hes]; exact List.mem_range.1 hj, fun j y hy => by
        have hlt := (List.getElem?_eq_some_iff.1 hy).1
        simp only [Array.length_toList] at hlt
        simp; omega, fun y hy => by
        have hlt := (List.getElem?_eq_some_iff.1 hy).1
        simp only [Array.length_toList] at hlt
        omega⟩
  refine ⟨.pointer (some ⟨w.heap.size, 0, none⟩), _, _, .inl ?_, e, i, w.heap.size, by simp [Gh.lay], rfl⟩
  unfold execOp; rw [ho]
  simp only [ex]
  simp only [Sem.run_bind, run_range_map w t kt et bm es cl hd hm, Result.andThen]
  rfl
theorem aeff_nextM {K : Hp → AV → Prop} {x : Operand} {r last : Nat} {ks : List (List UInt8)} {vs : List AV} {left : List Nat} (hw : wantA ops st o = some true) (ho : o.op = .next x false)
    (hx : st.eval x = .ref r 0) (hob : st.H.objs[r]? = some (.miter ks vs left last))
    (hend : left = [] → K st.H (.tuple [.bool false]))
    (hgo : ∀ j ∈ left, j < ks.length → K { st.H with objs := st.H.objs.set r (.miter ks vs (left.filter fun i => !(i == j)) j) } (.tuple [.bool true, .any, .any])) : AEff P W0 ops o st K := by
  intro g w a hr
  refine .inr ⟨wantA_sound hw hr, ?_⟩
  obtain ⟨b, bm, es, cl, seen, hl, hp, hf, hh, hfm, hm, hk, hv, h1, h2, h3⟩ := hr.inv.obj r _ hob
  have hes : es.size = ks.length := by have := congrArg List.length hk.1; simpa using this
  have ex : a.eval x = .pointer (some ⟨b, 0, none⟩) := by
    have := hr.eval x; rw [hx] at this
    obtain ⟨b', hl', e⟩ := this
    rw [hl] at hl'; cases hl'; exact e
  have hne : bm ≠ b := by rintro rfl; rw [hf] at hfm; cases hfm
  have key := run_next_at (P := P) w 0 b bm cl cl seen es cl hh hm hk.2.1 (Nat.le_refl _)
  rcases key with ⟨h0, hrun⟩ | ⟨e, he, w1, hw1, hrun⟩
  · have hnil : left = [] := by
      cases hleft : left with
      | nil => rfl
      | cons j l =>
        have hj : j ∈ left := by rw [hleft]; exact .head _
        have hlt := h1 j hj
        have hin := (h2 j es[j] (by simp [hlt])).1 hj
        have : es[j] ∈ leftOf es seen := by unfold leftOf; rw [Array.mem_filter]; exact ⟨Array.getElem_mem hlt, by rw [hin]; rfl⟩
        have hz : leftOf es seen = #[] := Array.eq_empty_of_size_eq_zero h0
        rw [hz] at this
        simp at this
    have : (execOp a.eval o).run P w = .ok (.value (.tuple #[.bool false])) w := by
      unfold execOp; rw [ho]
      simp only [ex, Sem.run_bind]
      rw [show ∀ t, Instr.next (.pointer (some ⟨b, 0, none⟩)) false t = Instr.next (.pointer (some ⟨b, 0, none⟩)) false 0 from fun _ => rfl, hrun]
      rfl
    rw [this]
    exact ⟨g, .tuple [.bool false], st.H, .refl _ _, hr.inv, ⟨_, rfl, AR.cons rfl AR.nil⟩, hend hnil⟩
  · have hmem : e ∈ es.toList ∧ seen.contains e.born = false := by
      have : e ∈ leftOf es seen := by simpa using he
      unfold leftOf at this
      rw [Array.mem_filter] at this
      exact ⟨by simpa using this.1, by simpa using this.2⟩
    obtain ⟨j, hj, hje⟩ := List.mem_iff_getElem.1 hmem.1
    have hjs : j < es.size := by simpa using hj
    have hje' : es.toList[j]? = some e := by rw [List.getElem?_eq_getElem hj, hje]
    have hjl : j ∈ left := (h2 j e hje').2 hmem.2
    have hw1h : w1.heap = w.heap ∧ w1.os = w.os ∧ w1.output = w.output ∧ w1.tape = w.tape := by
      rcases hw1 with rfl | rfl <;> exact ⟨rfl, rfl, rfl, rfl⟩
    have hb := heap_some_lt hh
    have inj : ∀ i y, es.toList[i]? = some y → y.born = e.born → i = j := by
      intro i y hy hby
      have hnd := hk.2.2.1
      obtain ⟨hil, hiy⟩ := List.getElem?_eq_some_iff.1 hy
      rw [List.nodup_iff_pairwise_ne, List.pairwise_iff_getElem] at hnd
      rcases Nat.lt_trichotomy i j with q | q | q
      · exact absurd (by rw [List.getElem_map, List.getElem_map, hiy, hje, hby]) (hnd i j (by simpa using hil) (by simpa using hj) q)
      · exact q
      · exact absurd (by rw [List.getElem_map, List.getElem_map, hiy, hje, hby]) (hnd j i (by simpa using hj) (by simpa using hil) q)
    have hch := hr.inv.change hob hl hp hf (w' := ChangeMaps.setBlock w1 b (.mapIter (some bm) cl (seen.push e.born) cl)) (x := .miter ks vs (left.filter fun i => !(i == j)) j)
      (by simp [ChangeMaps.setBlock, hw1h.1]) (by simp [ChangeMaps.setBlock, hw1h.2.1]) (by simp [ChangeMaps.setBlock, hw1h.2.2.1]) (by simp [ChangeMaps.setBlock, hw1h.2.2.2])
      (fun c hc => by simp [ChangeMaps.setBlock, hw1h.1, Array.getElem?_setIfInBounds_ne (Ne.symm hc)])
      (fun ext => ⟨b, bm, es, cl, seen.push e.born, hl, hp, hf, by simp [ChangeMaps.setBlock, hw1h.1, hb], hfm, (ext.froz _ hfm).trans hm, hk, AR.mono ext _ _ hv,
        fun i hi => h1 i (List.mem_filter.1 hi).1, fun i y hy => by
          rw [List.mem_filter, h2 i y hy]
          simp only [Array.contains_push, Bool.or_eq_false_iff, Bool.not_eq_true', beq_eq_false_iff_ne, ne_eq]
          constructor
          · rintro ⟨q1, q2⟩
            exact ⟨q1, fun q => q2 (inj i y hy q)⟩
          · rintro ⟨q1, q2⟩
            refine ⟨q1, fun q => ?_⟩
            subst q
            rw [hje'] at hy
            cases hy
            exact q2 rfl,
        fun y hy => by rw [hje'] at hy; cases hy; simp⟩)
    have : (execOp a.eval o).run P w = .ok (.value (.tuple #[.bool true, e.key, e.val])) (ChangeMaps.setBlock w1 b (.mapIter (some bm) cl (seen.push e.born) cl)) := by
      unfold execOp; rw [ho]
      simp only [ex, Sem.run_bind]
      rw [show ∀ t, Instr.next (.pointer (some ⟨b, 0, none⟩)) false t = Instr.next (.pointer (some ⟨b, 0, none⟩)) false 0 from fun _ => rfl, hrun]
      rfl
    rw [this]
    exact ⟨g, .tuple [.bool true, .any, .any], _, hch.2, hch.1, ⟨_, rfl, AR.cons rfl (AR.cons trivial (AR.cons trivial AR.nil))⟩, hgo j hjl (by omega)⟩
theorem aeff_entryM {K : Hp → AV → Prop} {x : Operand} {r last : Nat} {ks : List (List UInt8)} {vs : List AV} {left : List Nat} (hw : wantA ops st o = some true) (ho : o.op = .entry x)
    (hx : st.eval x = .ref r 0) (hob : st.H.objs[r]? = some (.miter ks vs left last)) (hlt : last < ks.length)
    (h : K st.H (.tuple [.str ks[last], vs.getD last .any])) : AEff P W0 ops o st K := by
  intro g w a hr
  refine .inr ⟨wantA_sound hw hr, ?_⟩
  obtain ⟨b, bm, es, cl, seen, hl, hp, hf, hh, hfm, hm, hk, hv, h1, h2, h3⟩ := hr.inv.obj r _ hob
  have hes : es.size = ks.length := by have := congrArg List.length hk.1; simpa using this
  have ex : a.eval x = .pointer (some ⟨b, 0, none⟩) := by
    have := hr.eval x; rw [hx] at this
    obtain ⟨b', hl', e⟩ := this
    rw [hl] at hl'; cases hl'; exact e
  have hel : last < es.toList.length := by simpa [hes] using hlt
  have heq : es.toList[last]? = some (es.toList[last]) := List.getElem?_eq_getElem hel
  have hback := h3 _ heq
  obtain ⟨seen', rfl⟩ : ∃ s, seen = Array.push s (es.toList[last]).born := by
    refine ⟨seen.pop, ?_⟩
    have hb3 : seen.toList.getLast? = some (es.toList[last]).born := by simpa using hback
    apply Array.toList_inj.1
    rw [Array.toList_push, Array.toList_pop]
    obtain ⟨l, hl2⟩ : ∃ l, seen.toList = l ++ [(es.toList[last]).born] := List.getLast?_eq_some_iff.1 hb3
    rw [hl2]; simp
  have hrun := run_entry_at (P := P) w b bm cl seen' es cl (es.toList[last]) hh hm (List.getElem_mem hel) hk.2.2.1
  have : (execOp a.eval o).run P w = .ok (.value (.tuple #[(es.toList[last]).key, (es.toList[last]).val])) w := by
    unfold execOp; rw [ho]
    simp only [ex, Sem.run_bind, hrun]
    rfl
  rw [this]
  refine ⟨g, .tuple [.str ks[last], vs.getD last .any], st.H, .refl _ _, hr.inv, ⟨_, rfl, AR.cons ?_ (AR.cons ?_ AR.nil)⟩, h⟩
  · have := congrArg (fun l => l[last]?) hk.1
    simp only [List.getElem?_map, heq, Option.map_some, List.getElem?_eq_getElem hlt, Option.some.injEq] at this
    exact this
  · have := AR.get last .any undef hv trivial
    simp only [List.getD_eq_getElem?_getD, List.getElem?_map, heq, Option.map_some, Option.getD_some] at this
    rw [List.getD_eq_getElem?_getD]
    exact this
theorem sb {st : St} {n : Nat} {env' : List (Nat × AV)} {H : Hp} (h : ∀ d, Le (look st.env d) (look env' d) := by (repeat' first | exact only_nil | refine only_cons (by simp (disch := omega)) ?_)) (hn : n = st.n := by rfl) (hH : H = st.H := by rfl) : Sub st ⟨n, env', H⟩ := ⟨hn, hH, h⟩
end
theorem small_if {α : Type} {n m : Nat} (h : n ≤ m) (a b : α) : (if n ≤ m then a else b) = a := if_pos h
theorem small_ifI {α : Type} {n m : Int} (h : n ≤ m) (a b : α) : (if n ≤ m then a else b) = a := if_pos h
theorem Le.of_eq {a b : AV} (h : a = b) : Le a b := h ▸ .refl _
end Go.Av
namespace Go.Av
def planPre (ops : Array Oper) (late : List Nat) : List (Nat × Bool) → Array Bool → Bool
  | [], _ => true
  | (i, tk) :: p, listed =>
    (match ops[i]? with
      | none => false
      | some o =>
        if tk then fixOp o.op && Region.free .any ops listed i && (Region.ready .any ops listed).contains i && !late.contains i
        else Region.ready .any ops listed == [i]) &&
    planPre ops late p (listed.setIfInBounds i true)
def after : List (Nat × Bool) → Array Bool → Array Bool
  | [], listed => listed
  | (i, _) :: p, listed => after p (listed.setIfInBounds i true)
def AW (P : Program) (W0 : World) (ops : Array Oper) (late : List Nat) (H0 : Hp) (Q : Exit → St → Prop) (listed : Array Bool) (n : Nat) (st : St) : Prop :=
  listed.size = ops.size → Closed ops listed → Early late H0 listed st.H → AAny P W0 (Early late H0) ops Q n listed st
section
variable {P : Program} {T : Tab} {mu : TypeId → Bool} {W0 : World} {ops : Array Oper} {late : List Nat} {H0 : Hp} {Q : Exit → St → Prop}
theorem ADr.anyK {n : Nat} (hT : TabOK P T) (hs : Region.noSelect ops = true) : ∀ (p : List (Nat × Bool)) (listed : Array Bool) (st : St), listed.size = ops.size → Closed ops listed → Early late H0 listed st.H →
    planPre ops late p listed = true → ADr P W0 T mu ops late H0 (fun _ st => AW P W0 ops late H0 Q (after p listed) n st) p st → AAny P W0 (Early late H0) ops Q (p.length + n) listed st
  | [], listed, st, hsz, hcl, hE, hp, h => by rw [List.length_nil, Nat.zero_add]; exact h hsz hcl hE
  | (i, tk) :: p, listed, st, hsz, hcl, hE, hp, ⟨o, ho, h⟩ => by
    simp only [planPre, ho, Bool.and_eq_true] at hp
    obtain ⟨hp1, hp2⟩ := hp
    rw [show (((i, tk) :: p).length + n) = (p.length + n) + 1 from by simp only [List.length_cons]; omega]
    have hilt : i < listed.size := by rw [hsz]; exact (Array.getElem?_eq_some_iff.1 ho).1
    have hsz' : (listed.setIfInBounds i true).size = ops.size := by simpa using hsz
    have early : ∀ H', (late.contains i = true ∨ H' = H0) → Early late H0 (listed.setIfInBounds i true) H' := by
      rintro H' (hl | rfl)
      · exact .inl (List.any_eq_true.2 ⟨i, List.contains_iff_mem.1 hl, by simp [hilt]⟩)
      · exact .inr rfl
    cases tk with
    | true =>
      rcases h with ⟨H', y, hstep, hl, hset, h⟩ | ⟨hf, _⟩
      · simp only [if_true, Bool.and_eq_true, Bool.not_eq_true'] at hp1
        obtain ⟨⟨⟨hfix, hfree⟩, hready⟩, hnl⟩ := hp1
        obtain ⟨e1, hx⟩ := fix_step hfix hstep
        subst e1
        have hH : st.H = H0 := hl.resolve_left (by rw [hnl]; simp)
        have hrd : i ∈ Region.ready .any ops listed := by simpa using hready
        refine aany_take hT hs ho (by rw [hfree, hready]; rfl) (Early.set hnl) hcl hE hx ?_ ?_
        · intro listed' H hcl' hu hI
          rcases hset rfl with hall | hall
          · have : H = H0 := hI.resolve_left fun hlj => by
              obtain ⟨j, hj, hlj⟩ := List.any_eq_true.1 hlj
              have h2 := waits_listed hcl' i 2 j (List.all_eq_true.1 hall j hj) hlj
              rcases Nat.lt_or_ge i listed'.size with q | q
              · simp [q] at h2 hu; rw [h2] at hu; cases hu
              · simp [Array.getElem?_eq_none q] at h2
            subst this
            rw [withH hH]; exact hx
          · exact (fix_step hfix (hall H)).2
        · exact ADr.anyK hT hs p _ _ hsz' (hcl.set hrd) (by rw [put_H]; exact (Early.set hnl _ _).2 hE) hp2 (by rwa [withH rfl] at h)
      · cases hf
    | false =>
      simp only [Bool.false_eq_true, if_false, beq_iff_eq] at hp1
      have hrd : i ∈ Region.ready .any ops listed := by rw [hp1]; simp
      refine aany_one ho hp1 ?_
      rcases h with ⟨H', y, hstep, hl, _, h⟩ | ⟨_, h⟩
      · exact aeff_step hT hstep ⟨early H' hl, ADr.anyK hT hs p _ _ hsz' (hcl.set hrd) (by rw [put_H]; exact early H' hl) hp2 h⟩
      · exact h.mono fun H' y ⟨hl, h⟩ => ⟨early H' hl, ADr.anyK hT hs p _ _ hsz' (hcl.set hrd) (by rw [put_H]; exact early H' hl) hp2 h⟩
theorem cutIf {st : St} (id : Nat) {l : Array Oper} {b : Bool} {c : Operand} {x y : Code} (T : St → Prop) (h : AWP P W0 (.seq (.region id l b) (.cond c x y)) st (fun e s => e = .normal ∧ T s)) (k : ∀ s, T s → Q .normal s) : AWP P W0 (.seq (.region id l b) (.cond c x y)) st Q :=
  h.mono fun _ _ ⟨e, t⟩ => e ▸ k _ t
theorem awp_drawK {id : Nat} {l : List Oper} {st : St} (plan : List (Nat × Bool)) (late : List Nat) (hT : TabOK P T) (hm : P.follows .mixedOrders = true)
    (hchk : (Region.noSelect l.toArray && planPre l.toArray late plan (Array.replicate l.length false)) = true) (n : Nat) (hn : plan.length + n = l.length)
    (h : ADr P W0 T mu l.toArray late st.H (fun _ st' => AW P W0 l.toArray late st.H Q (after plan (Array.replicate l.length false)) n st') plan st) : AWP P W0 (.region id l.toArray true) st Q := by
  simp only [Bool.and_eq_true] at hchk
  refine awp_region_any (I := Early late st.H) hm ?_
  have := ADr.anyK hT hchk.1 plan (Array.replicate l.length false) st (by simp) (fun j oj _ hl => by
    rcases Nat.lt_or_ge j l.length with q | q
    · simp [q] at hl
    · simp [Array.getElem?_eq_none, q] at hl) (.inr rfl) hchk.2 h
  rwa [hn] at this
theorem aw_done {n : Nat} {listed : Array Bool} {st : St} (h : Q .normal st) (hr : Region.ready .any ops listed = []) : AW P W0 ops late H0 Q listed n st :=
  fun _ _ _ => aany_done hr h
theorem aw_next {i : Nat} {n : Nat} {listed : Array Bool} {st : St} {o : Oper} (hi : ops[i]? = some o) (hr : i ∈ Region.ready .any ops listed) (hl : late.contains i = true)
    (h : AEff P W0 ops o st fun H' y => AW P W0 ops late H0 Q (listed.setIfInBounds i true) n (St.put { st with H := H' } o.dst y)) :
    listed.size = ops.size → Closed ops listed → Early late H0 listed st.H → AEff P W0 ops o st fun H' y => Early late H0 (listed.setIfInBounds i true) H' ∧ AAny P W0 (Early late H0) ops Q n (listed.setIfInBounds i true) (St.put { st with H := H' } o.dst y) := by
  intro hsz hcl _
  have hilt : i < listed.size := by rw [hsz]; exact (Array.getElem?_eq_some_iff.1 hi).1
  have early : ∀ H', Early late H0 (listed.setIfInBounds i true) H' := fun H' => .inl (List.any_eq_true.2 ⟨i, List.contains_iff_mem.1 hl, by simp [hilt]⟩)
  exact h.mono fun H' y q => ⟨early H', q (by simpa using hsz) (hcl.set hr) (by rw [put_H]; exact early H')⟩
theorem aw_one {i : Nat} {n : Nat} {listed : Array Bool} {st : St} {o : Oper} (hi : ops[i]? = some o) (hr : Region.ready .any ops listed = [i]) (hl : late.contains i = true)
    (h : AEff P W0 ops o st fun H' y => AW P W0 ops late H0 Q (listed.setIfInBounds i true) n (St.put { st with H := H' } o.dst y)) : AW P W0 ops late H0 Q listed (n + 1) st :=
  fun hsz hcl hE => aany_one hi hr (aw_next hi (by rw [hr]; simp) hl h hsz hcl hE)
theorem aw_many {is : List Nat} {n : Nat} {listed : Array Bool} {st : St} (hr : Region.ready .any ops listed = is) (hl : (is.all fun i => late.contains i) = true)
    (h : ∀ i ∈ is, ∀ o, ops[i]? = some o → AEff P W0 ops o st fun H' y => AW P W0 ops late H0 Q (listed.setIfInBounds i true) n (St.put { st with H := H' } o.dst y)) (hne : is.isEmpty = false) : AW P W0 ops late H0 Q listed (n + 1) st := by
  intro hsz hcl hE
  exact ⟨fun h0 => (by rw [hr] at h0; rw [h0] at hne; cases hne), fun i hi o ho => aw_next ho hi (List.all_eq_true.1 hl i (by rw [← hr]; exact hi)) (h i (by rw [← hr]; exact hi) o ho) hsz hcl hE⟩
theorem aw_two {i j : Nat} {oi oj : Oper} {n : Nat} {listed : Array Bool} {st : St} (hi : ops[i]? = some oi) (hj : ops[j]? = some oj) (hr : Region.ready .any ops listed = [i, j]) (hl : ([i, j].all fun i => late.contains i) = true)
    (h : AEff P W0 ops oi st fun H' y => AW P W0 ops late H0 Q (listed.setIfInBounds i true) n (St.put { st with H := H' } oi.dst y))
    (k : AEff P W0 ops oj st fun H' y => AW P W0 ops late H0 Q (listed.setIfInBounds j true) n (St.put { st with H := H' } oj.dst y)) : AW P W0 ops late H0 Q listed (n + 1) st := by
  refine aw_many hr hl (fun l hl o ho => ?_) rfl
  simp only [List.mem_cons, List.not_mem_nil, or_false] at hl
  rcases hl with rfl | rfl
  · rw [hi] at ho; cases ho; exact h
  · rw [hj] at ho; cases ho; exact k
theorem aw_step {ops : Array Oper} {o : Oper} {st : St} {K : Hp → AV → Prop} {r : Hp × AV} (hT : TabOK P T) (hs : stepA T mu ops st o = some r) (h : K r.1 r.2) : AEff P W0 ops o st K := aeff_step hT hs h
theorem aw_fn {st : St} {o : Oper} {c : Call} {f : FuncId} {args : List AV} {K : Hp → AV → Prop} (ho : o.op = .call c) (hc : c.callee = .value (.func f)) (hg : o.guard = none) (hen : enters P f) (ha : c.args.toList.map st.eval = args)
    (h : SF P W0 f args st.H fun r H' => K H' r) : AEff P W0 ops o st K :=
  aeff_call (by simp [wantA, hg]) ho hc (f := f) (caps := []) rfl hen (by rw [List.append_nil, ha]; exact h)
theorem AEff.cutLe {ops : Array Oper} {o : Oper} {st : St} {K : Hp → AV → Prop} (hw : wantA ops st o = some true)
    (h : AEff P W0 ops o st fun H' y => H'.objs.take st.H.objs.length = st.H.objs ∧ H'.hi.take st.H.hi.length = st.H.hi ∧ ∃ y', Le (cln st.H.objs.length st.H.hi.length y) y' ∧ K st.H y') : AEff P W0 ops o st K := by
  intro g w a r
  have hw' := wantA_sound hw r
  rcases h g w a r with ⟨hw2, q⟩ | ⟨hw2, q⟩
  · rw [hw'] at hw2; cases hw2
  · refine .inr ⟨hw2, q.mono fun v w' ⟨g', y, H', e, i, hv, h1, h2, y', hl, k⟩ => ?_⟩
    have hc := i.cut st.H.objs.length st.H.hi.length
    rw [h1, h2, r.inv.old (Nat.le_refl _)] at hc
    exact ⟨g'.cut st.H.objs.length st.H.hi.length, y', st.H, Ext.cut r.inv e (Nat.le_refl _) (Nat.le_refl _), hc, Le.rel hl v (VR.cut y v hv), k⟩
theorem aeff_fresh {ops : Array Oper} {o : Oper} {st : St} {K : Hp → AV → Prop} {sz : Nat} {x : AV} {t e : TypeId} {i : TI} (fs : List (List AV)) (hT : TabOK P T) (hw : wantA ops st o = some true) (hst : stepA T mu ops st o = swapH (appendA T st.H t t (.sl sz [] .capped) x))
    (ht : T t = some ⟨1, .slice e, [.slnil]⟩) (he : T e = some i) (hi : i.size = sz) (hsz : 0 < sz) (hx : restA sz x = some fs) (hok : fs.all (·.all okCell) = true) (hl : fs.length ≤ 67108864) (hd : ∀ n m, clnLL n m fs = fs)
    (k : K st.H (.sl sz fs .shut)) : AEff P W0 ops o st K := by
  obtain ⟨v', H', e1, a1, g1, o1⟩ := (App.capped st.H st.H sz []).append (T := T) (Gr.refl _) ht he hi hsz hx hok (by simpa using hl)
  rw [e1] at hst
  rw [List.nil_append] at a1
  have hle := a1.le'
  rw [hd] at hle
  exact AEff.cutLe hw (aeff_step hT hst ⟨g1.objs, g1.hi, _, hle, k⟩)
def Goes (P : Program) (W0 : World) (ops : Array Oper) (i : Nat) (st st' : St) : Prop := ∃ o, ops[i]? = some o ∧ ∀ K : St → Prop, K st' → AEff P W0 ops o st fun H' y => K (St.put { st with H := H' } o.dst y)
theorem goes_run {ops : Array Oper} {i : Nat} {st st' : St} (hT : TabOK P T) (h : runD T mu ops [(i, false)] st = some st') : Goes P W0 ops i st st' := by
  obtain ⟨o, H', y, ho, hs, h2⟩ := runD_step h
  cases h2
  exact ⟨o, ho, fun K k => aeff_step hT hs k⟩
theorem goes_fresh {ops : Array Oper} {i : Nat} {o : Oper} {st st' : St} {sz : Nat} {x : AV} {t e : TypeId} {ti : TI} (fs : List (List AV)) (hT : TabOK P T) (ho : ops[i]? = some o) (hw : wantA ops st o = some true) (hst : stepA T mu ops st o = swapH (appendA T st.H t t (.sl sz [] .capped) x))
    (ht : T t = some ⟨1, .slice e, [.slnil]⟩) (he : T e = some ti) (hi : ti.size = sz) (hsz : 0 < sz) (hx : restA sz x = some fs) (hok : fs.all (·.all okCell) = true) (hl : fs.length ≤ 67108864) (hd : ∀ n m, clnLL n m fs = fs)
    (hput : St.put st o.dst (.sl sz fs .shut) = st') : Goes P W0 ops i st st' :=
  ⟨o, ho, fun K k => aeff_fresh fs hT hw hst ht he hi hsz hx hok hl hd (by rw [show ({ st with H := st.H } : St) = st from rfl, hput]; exact k)⟩
theorem goes_fn {ops : Array Oper} {i : Nat} {o : Oper} {st st' : St} {c : Call} {f : FuncId} {args : List AV} {v : AV} (ho : ops[i]? = some o) (hop : o.op = .call c) (hc : c.callee = .value (.func f)) (hg : o.guard = none) (hen : enters P f) (ha : c.args.toList.map st.eval = args)
    (h : SF P W0 f args st.H fun r H' => H' = st.H ∧ r = v) (hput : St.put st o.dst v = st') : Goes P W0 ops i st st' :=
  ⟨o, ho, fun K k => aw_fn hop hc hg hen ha (h.mono (by rintro r H' ⟨rfl, rfl⟩; rw [show ({ st with H := st.H } : St) = st from rfl, hput]; exact k))⟩
theorem ag_one {i : Nat} {n : Nat} {listed : Array Bool} {st st' : St} (hr : Region.ready .any ops listed = [i]) (hl : late.contains i = true) (h : Goes P W0 ops i st st') (k : AW P W0 ops late H0 Q (listed.setIfInBounds i true) n st') : AW P W0 ops late H0 Q listed (n + 1) st := by
  obtain ⟨o, ho, h⟩ := h
  exact aw_one ho hr hl (h _ k)
theorem ag_two {i j : Nat} {n : Nat} {listed : Array Bool} {st st1 st2 : St} (hr : Region.ready .any ops listed = [i, j]) (hl : ([i, j].all fun i => late.contains i) = true) (h1 : Goes P W0 ops i st st1) (h2 : Goes P W0 ops j st st2)
    (k1 : AW P W0 ops late H0 Q (listed.setIfInBounds i true) n st1) (k2 : AW P W0 ops late H0 Q (listed.setIfInBounds j true) n st2) : AW P W0 ops late H0 Q listed (n + 1) st := by
  obtain ⟨o1, ho1, h1⟩ := h1
  obtain ⟨o2, ho2, h2⟩ := h2
  exact aw_two ho1 ho2 hr hl (h1 _ k1) (h2 _ k2)
theorem ag_three {i j k : Nat} {n : Nat} {listed : Array Bool} {st st1 st2 st3 : St} (hr : Region.ready .any ops listed = [i, j, k]) (hl : ([i, j, k].all fun i => late.contains i) = true) (h1 : Goes P W0 ops i st st1) (h2 : Goes P W0 ops j st st2) (h3 : Goes P W0 ops k st st3)
    (k1 : AW P W0 ops late H0 Q (listed.setIfInBounds i true) n st1) (k2 : AW P W0 ops late H0 Q (listed.setIfInBounds j true) n st2) (k3 : AW P W0 ops late H0 Q (listed.setIfInBounds k true) n st3) : AW P W0 ops late H0 Q listed (n + 1) st := by
  obtain ⟨o1, ho1, h1⟩ := h1
  obtain ⟨o2, ho2, h2⟩ := h2
  obtain ⟨o3, ho3, h3⟩ := h3
  refine aw_many hr hl (fun l hl o ho => ?_) rfl
  simp only [List.mem_cons, List.not_mem_nil, or_false] at hl
  rcases hl with rfl | rfl | rfl
  · rw [ho1] at ho; cases ho; exact h1 _ k1
  · rw [ho2] at ho; cases ho; exact h2 _ k2
  · rw [ho3] at ho; cases ho; exact h3 _ k3
theorem ag_four {i j k m : Nat} {n : Nat} {listed : Array Bool} {st st1 st2 st3 st4 : St} (hr : Region.ready .any ops listed = [i, j, k, m]) (hl : ([i, j, k, m].all fun i => late.contains i) = true) (h1 : Goes P W0 ops i st st1) (h2 : Goes P W0 ops j st st2) (h3 : Goes P W0 ops k st st3) (h4 : Goes P W0 ops m st st4)
    (k1 : AW P W0 ops late H0 Q (listed.setIfInBounds i true) n st1) (k2 : AW P W0 ops late H0 Q (listed.setIfInBounds j true) n st2) (k3 : AW P W0 ops late H0 Q (listed.setIfInBounds k true) n st3) (k4 : AW P W0 ops late H0 Q (listed.setIfInBounds m true) n st4) : AW P W0 ops late H0 Q listed (n + 1) st := by
  obtain ⟨o1, ho1, h1⟩ := h1
  obtain ⟨o2, ho2, h2⟩ := h2
  obtain ⟨o3, ho3, h3⟩ := h3
  obtain ⟨o4, ho4, h4⟩ := h4
  refine aw_many hr hl (fun l hl o ho => ?_) rfl
  simp only [List.mem_cons, List.not_mem_nil, or_false] at hl
  rcases hl with rfl | rfl | rfl | rfl
  · rw [ho1] at ho; cases ho; exact h1 _ k1
  · rw [ho2] at ho; cases ho; exact h2 _ k2
  · rw [ho3] at ho; cases ho; exact h3 _ k3
  · rw [ho4] at ho; cases ho; exact h4 _ k4
theorem ag_plan {n : Nat} {listed : Array Bool} {st : St} (p : List (Nat × Bool)) (hT : TabOK P T) (hs : (Region.noSelect ops && planPre ops late p listed) = true) (h : ADr P W0 T mu ops late H0 (fun _ st => AW P W0 ops late H0 Q (after p listed) n st) p st) : AW P W0 ops late H0 Q listed (p.length + n) st := by
  rw [Bool.and_eq_true] at hs
  exact fun hsz hcl hE => ADr.anyK hT hs.1 p listed st hsz hcl hE hs.2 h
end
end Go.Av
namespace Go.Av
open Go.Proofs
variable {W0 : World}
set_option maxRecDepth 10000
set_option maxHeartbeats 4000000
theorem take_one {α : Type} (l : List α) (i : Nat) (h : i < l.length) : l.take (i + 1) = l.take i ++ [l[i]] := by simp
theorem sf41 {l : List Hs} {own : Own} {k : Hs} {H : Hp} (hl : l.length ≤ 67108863) : SF Tryz.prog W0 41 [.sl 6 (Hs.avs l) own, .agg k.av] H fun r H' => H' = H ∧ r = .sl 6 (Hs.avs (put l k)) .shut := by
  obtain ⟨lab, ins, bl, site, br, bins⟩ := k
  simp only [Hs.av]
  refine SF.pureLe (sf_start [4] 32 Tryz.func41 rfl rfl rfl (by decide) (by simp) ?_)
  repeat' first
    | refine aSq ?_ | refine aBl ?_
    | refine ru ?_
    | fail
  refine awp_loop_inv (fun q st => ∃ (i : Nat) (v : AV) (Hc : Hp), q = l.length - i ∧ i ≤ l.length ∧ Gr H Hc ∧ App H Hc 6 (Hs.avs ((l.take i).filter fun h => !(h.label == lab))) v ∧
    Sub st ⟨32, [(0, .sl 6 (Hs.avs l) own), (3, .ptr [.str lab, .sl 6 (Hs.avs ins) .shut, .str bl, .sl 1 (ints site) .shut, .bool br, .sl 6 (Hs.avs bins) .shut]), (5, v), (6, .int .i64 i)], Hc⟩) l.length
    ⟨0, .slnil, H, by simp, by simp, Gr.refl _, App.slnil _ _ _, rfl, rfl, only_cons (by simp) (only_cons (by simp) (only_cons (by simp) (only_cons (by simp) only_nil)))⟩ ?_
  rintro q st ⟨i, v, Hc, rfl, hi, hg, a1, hs2⟩
  refine awp_sub hs2 ?_
  clear hs2 st
  have hfl := List.length_filter_le (fun h : Hs => !(h.label == lab)) (l.take i)
  rw [List.length_take] at hfl
  repeat' first
    | refine aSq ?_ | refine aRt ?_ | refine aSk ?_ | refine aEx ?_ | refine aBl ?_ | refine tN ?_
    | (refine dr 5 [(0, true), (1, true), (2, true), (3, true), (4, true), (5, true), (6, true), (7, true)] [] ?_; refine dl ?_)
    | (refine rg 6 ?_; refine tk 6 ?_; obtain ⟨v', H', e1, a2, g2, ho2⟩ := a1.append (T := tab) hg (x := .sl 6 [(l[i]'(by assumption)).av] .capped) (fs := [(l[i]'(by assumption)).av]) (t := 93) (e := 102) tab93 tab102 rfl (by decide) (by simp) (by simp [Hs.av_eq]) (by simp; omega); rw [Hs.av_eq] at e1; refine aops_take 2 (mu := mu0) tab_ok (by simp [e1]; rfl) ?_; refine dn ?_)
    | (refine rg 7 ?_; refine tk 3 ?_; obtain ⟨v', H', e1, a2, g2, ho2⟩ := a1.append (T := tab) hg (x := .sl 6 [(Hs.mk lab ins bl site br bins).av] .capped) (fs := [(Hs.mk lab ins bl site br bins).av]) (t := 93) (e := 102) tab93 tab102 rfl (by decide) (by simp) (by simp [Hs.av]) (by simp; omega); simp only [Hs.av] at e1; refine aops_take 2 (mu := mu0) tab_ok (by simp [e1]; rfl) ?_; refine dn ?_)
    | refine ru ?_
    | (refine awp_if rfl (fun hb => ?_) (fun hb => ?_) <;> (try simp at hb) <;> try (exfalso; omega))
    | fail
  · have hlt : i < l.length := by assumption
    exact ⟨l.length - (i + 1), by omega, i + 1, v', H', rfl, by omega, g2, by rw [take_one l i hlt, List.filter_append, List.filter_cons_of_pos (by simpa using hb), List.filter_nil, hss_append]; exact a2,
      rfl, rfl, only_cons (by simp) (only_cons (by simp) (only_cons (by simp) (only_cons (by simp (disch := omega)) only_nil)))⟩
  · have hlt : i < l.length := by assumption
    exact ⟨l.length - (i + 1), by omega, i + 1, v, Hc, rfl, by omega, hg, by rw [take_one l i hlt, List.filter_append, List.filter_cons_of_neg (by simpa using hb), List.filter_nil, List.append_nil]; exact a1,
      rfl, rfl, only_cons (by simp) (only_cons (by simp) (only_cons (by simp) (only_cons (by simp (disch := omega)) only_nil)))⟩
  · rw [List.take_of_length_le (by omega)] at a2
    have q := a2.le'
    refine ⟨g2, _, ?_, rfl⟩
    have e2 : Hs.avs (List.filter (fun h => !(h.label == lab)) l) ++ [(Hs.mk lab ins bl site br bins).av] = Hs.avs (put l (.mk lab ins bl site br bins)) := by rw [put, hss_append]; rfl
    rw [e2, hss_cln] at q
    simpa using q
theorem sf161 {l : List Hs} {own : Own} {x : Str} {H : Hp} (hl : l.length ≤ 67108864) : SF Tryz.prog W0 161 [.sl 6 (Hs.avs l) own, .str x] H fun r H' => H' = H ∧ r = .int .i64 (lastI (isH x) l 0 (-1)) := by
  refine SF.pureLe (sf_start [4] 22 Tryz.func161 rfl rfl rfl (by decide) (by simp) ?_)
  repeat' first
    | refine aSq ?_ | refine aBl ?_
    | refine ru ?_
    | fail
  refine awp_loop_inv (fun q st => ∃ (i : Nat) (k : Int), q = l.length - i ∧ i ≤ l.length ∧ lastI (isH x) (l.drop i) i k = lastI (isH x) l 0 (-1) ∧
    Sub st ⟨22, [(0, .sl 6 (Hs.avs l) own), (1, .str x), (5, .int .i64 k), (6, .int .i64 i)], H⟩) l.length
    ⟨0, -1, by simp, by simp, rfl, rfl, rfl, only_cons (by simp) (only_cons (by simp) (only_cons (by simp) (only_cons (by simp) only_nil)))⟩ ?_
  rintro q st ⟨i, k, rfl, hi, hk, hs2⟩
  refine awp_sub hs2 ?_
  clear hs2 st
  repeat' first
    | refine aSq ?_ | refine aRt ?_ | refine aSk ?_ | refine aEx ?_ | refine aBl ?_ | refine tN ?_
    | refine ru ?_
    | (refine awp_if rfl (fun hb => ?_) (fun hb => ?_) <;> (try simp at hb) <;> try (exfalso; omega))
    | fail
  · have hlt : i < l.length := by assumption
    rw [List.drop_eq_getElem_cons hlt] at hk
    simp only [lastI, isH, hb] at hk
    exact ⟨l.length - (i + 1), by omega, i + 1, i, rfl, by omega, by simpa using hk, rfl, rfl, only_cons (by simp) (only_cons (by simp) (only_cons (by simp) (only_cons (by simp (disch := omega)) only_nil)))⟩
  · have hlt : i < l.length := by assumption
    rw [List.drop_eq_getElem_cons hlt] at hk
    simp only [lastI, isH] at hk
    exact ⟨l.length - (i + 1), by omega, i + 1, k, rfl, by omega, by simpa [hb] using hk, rfl, rfl, only_cons (by simp) (only_cons (by simp) (only_cons (by simp) (only_cons (by simp (disch := omega)) only_nil)))⟩
  · rw [List.drop_of_length_le (by omega)] at hk
    exact ⟨Gr.refl _, _, by simp; exact .refl _, by rw [← hk]; rfl⟩
theorem sf82 {s : List Bd} {own o2 o3 : Own} {x : Str} {p : Path} {ins : List Hs} {H : Hp} (hs : s.length ≤ 67108863) : SF Tryz.prog W0 82 [.sl 4 (bds s) own, .str x, .sl 1 (ints p) o2, .sl 6 (Hs.avs ins) o3] H fun r H' => H' = H ∧ r = .sl 4 (bds (bindB s x p ins)) .shut := by
  refine SF.pureLe (sf_start [8] 18 Tryz.func82 rfl rfl rfl (by decide) (by simp) ?_)
  repeat' first
    | refine aSq ?_ | refine aRt ?_
    | (refine rg 1 ?_; refine tk 2 ?_; obtain ⟨v', H', e1, a2, g2, ho2⟩ := (App.capped H H 4 []).append (T := tab) (Gr.refl H) (x := .sl 4 (bds s) own) (fs := bds s) (t := 92) (e := 100) tab92 tab100 rfl (by decide) (by simp) (by simp) (by simp; omega); refine aops_take 1 (mu := mu0) tab_ok (by simp [e1]; rfl) ?_; refine tk 5 ?_; obtain ⟨v2, H2, e2, a3, g3, ho3⟩ := a2.append (T := tab) g2 (x := .sl 4 [[.str x, .sl 1 (ints p) o2, .bool false, .sl 6 (Hs.avs ins) o3]] .capped) (fs := [[.str x, .sl 1 (ints p) o2, .bool false, .sl 6 (Hs.avs ins) o3]]) (t := 92) (e := 100) tab92 tab100 rfl (by decide) (by simp) (by simp) (by simp; omega); refine aops_take 2 (mu := mu0) tab_ok (by simp [e2]; rfl) ?_; refine dn ?_)
    | refine ru ?_
    | fail
  refine ⟨g3, _, ?_, rfl⟩
  have q := a3.le2 (es' := bds (bindB s x p ins)) (by
    rw [List.nil_append, clnLL_append, bds_cln, bindB, bds_append]
    refine LeLL.append (LeLL.refl _) ?_
    simp only [clnLL, clnL, bds, List.map_cons, List.map_nil, Bd.av, cln, ints_cln, hss_cln]
    exact .cons (.cons (.refl _) (.cons (.sl (LeLL.refl _) (.inr rfl)) (.cons (.refl _) (.cons (.sl (LeLL.refl _) (.inr rfl)) .nil)))) .nil)
  simpa using q
theorem sf82n {s : List Bd} {own o2 : Own} {x : Str} {p : Path} {H : Hp} (hs : s.length ≤ 67108863) : SF Tryz.prog W0 82 [.sl 4 (bds s) own, .str x, .sl 1 (ints p) o2, .slnil] H fun r H' => H' = H ∧ r = .sl 4 (bds (bindB s x p [])) .shut :=
  SF.args (.cons (.refl _) (.cons (.refl _) (.cons (.refl _) (.cons (.nilShut 6) .nil)))) (sf82 (ins := []) hs)
theorem sf86 {s : List Bd} {own o2 o3 : Own} {p : Path} {ins : List Hs} {H : Hp} (hs : s.length + ins.length ≤ 67108863) : SF Tryz.prog W0 86 [.sl 4 (bds s) own, .sl 6 (Hs.avs ins) o3, .sl 1 (ints p) o2] H fun r H' => H' = H ∧ r = .sl 4 (bds (bringB s ins p)) .shut := by
  refine SF.pureLe (sf_start [6] 34 Tryz.func86 rfl rfl rfl (by decide) (by simp) ?_)
  repeat' first
    | refine aSq ?_ | refine aBl ?_
    | (refine rg 1 ?_; refine tk 2 ?_; obtain ⟨v', H', e1, a2, g2, ho2⟩ := (App.capped H H 4 []).append (T := tab) (Gr.refl H) (x := .sl 4 (bds s) own) (fs := bds s) (t := 92) (e := 100) tab92 tab100 rfl (by decide) (by simp) (by simp) (by simp; omega); refine aops_take 2 (mu := mu0) tab_ok (by simp [e1]; rfl) ?_; refine dn ?_)
    | refine ru ?_
    | fail
  rw [List.nil_append] at a2
  refine awp_loop_inv (fun q st => ∃ (i : Nat) (v : AV) (es : List (List AV)) (Hc : Hp), q = ins.length - i ∧ i ≤ ins.length ∧ Gr H Hc ∧ es.length = s.length + i ∧ App H Hc 4 es v ∧ (∀ n m, LeLL (clnLL n m es) (bds (bringB s (ins.take i) p))) ∧
    Sub st ⟨34, [(1, .sl 6 (Hs.avs ins) o3), (2, .sl 1 (ints p) o2), (7, v), (8, .int .i64 i)], Hc⟩) ins.length
    ⟨0, v', bds s, H', by simp, by simp, g2, by simp, a2, fun n m => by rw [bds_cln]; simp [bringB], rfl, rfl, only_cons (by simp) (only_cons (by simp) (only_cons (by simp) (only_cons (by simp) only_nil)))⟩ ?_
  rintro q st ⟨i, v, es, Hc, rfl, hi, hg, hel, a1, hle, hs2⟩
  refine awp_sub hs2 ?_
  clear hs2 st
  repeat' first
    | refine aSq ?_ | refine aRt ?_ | refine aSk ?_ | refine aEx ?_ | refine aBl ?_ | refine tN ?_
    | (refine dr 5 [(0, true), (1, true), (2, true), (3, true), (4, true), (5, true), (6, true), (7, true), (8, true), (9, true), (10, true), (11, true), (12, true), (13, false), (14, false), (15, false)] [14, 15] ?_; refine dh 14 ?_; obtain ⟨v2, H2, e2, a3, g3, ho3⟩ := a1.append (T := tab) hg (x := .sl 4 [[.str (ins[i]'(by assumption)).label, .sl 1 (ints p) o2, .bool true, .sl 6 (Hs.avs (ins[i]'(by assumption)).ins) .shut]] .capped) (fs := [[.str (ins[i]'(by assumption)).label, .sl 1 (ints p) o2, .bool true, .sl 6 (Hs.avs (ins[i]'(by assumption)).ins) .shut]]) (t := 92) (e := 100) tab92 tab100 rfl (by decide) (by simp) (by simp) (by simp; omega); refine adr_tail (by decide +kernel) (by simp [e2]; rfl) ?_)
    | refine ru ?_
    | (refine awp_if rfl (fun hb => ?_) (fun hb => ?_) <;> (try simp at hb) <;> try (exfalso; omega))
    | fail
  · have hlt : i < ins.length := by assumption
    refine ⟨ins.length - (i + 1), by omega, i + 1, v2, _, H2, rfl, by omega, g3, by simp [hel]; omega, a3, fun n m => ?_, rfl, rfl, only_cons (by simp) (only_cons (by simp) (only_cons (by simp) (only_cons (by simp (disch := omega)) only_nil)))⟩
    rw [clnLL_append, take_one ins i hlt]
    rw [show bds (bringB s (ins.take i ++ [ins[i]]) p) = bds (bringB s (ins.take i) p) ++ bds [⟨ins[i].label, p, true, ins[i].ins⟩] from by simp only [bringB, List.map_append, List.map_cons, List.map_nil, bds_append, List.append_assoc]]
    refine LeLL.append (hle n m) ?_
    simp only [clnLL, clnL, bds, List.map_cons, List.map_nil, Bd.av, cln, ints_cln, hss_cln, clnOwn]
    exact .cons (.cons (.refl _) (.cons (.sl (LeLL.refl _) (.inr rfl)) (.cons (.refl _) (.cons (.refl _) .nil)))) .nil
  · rw [List.take_of_length_le (by omega)] at hle
    exact ⟨hg, _, by simpa using a1.le2 (hle _ _), rfl⟩
theorem putAll_drop {l k : List Hs} {p : Path} {i : Nat} (h : i < k.length) : putAll l (k.drop i) p = putAll (put l (giveH p k[i])) (k.drop (i + 1)) p := by
  rw [List.drop_eq_getElem_cons h]; rfl
theorem putAll_bound {p : Path} : ∀ {k l : List Hs}, (putAll l k p).length ≤ l.length + k.length
  | [], _ => by simp [putAll]
  | h :: k, l => by
    have := putAll_bound (p := p) (k := k) (l := put l (giveH p h))
    have := put_len l (giveH p h)
    simp only [putAll, List.length_cons]; omega
theorem sf85 {l k : List Hs} {own o2 o3 : Own} {p : Path} {H : Hp} (hl : l.length + k.length ≤ 67108863) : SF Tryz.prog W0 85 [.sl 6 (Hs.avs l) own, .sl 6 (Hs.avs k) o3, .sl 1 (ints p) o2] H fun r H' => H' = H ∧ r = .sl 6 (Hs.avs (putAll l k p)) .shut := by
  refine SF.pureLe (sf_start [6] 40 Tryz.func85 rfl rfl rfl (by decide) (by simp) ?_)
  repeat' first
    | refine aSq ?_ | refine aBl ?_
    | refine ru ?_
    | fail
  refine awp_loop_inv (fun q st => ∃ (i : Nat) (cur : List Hs) (ow : Own), q = k.length - i ∧ i ≤ k.length ∧ putAll cur (k.drop i) p = putAll l k p ∧ cur.length + (k.length - i) ≤ 67108863 ∧
    Sub st ⟨40, [(1, .sl 6 (Hs.avs k) o3), (2, .sl 1 (ints p) o2), (0, .sl 6 (Hs.avs cur) ow), (7, .int .i64 i)], H⟩) k.length
    ⟨0, l, own, by simp, by simp, rfl, by omega, rfl, rfl, only_cons (by simp) (only_cons (by simp) (only_cons (by simp) (only_cons (by simp) only_nil)))⟩ ?_
  rintro q st ⟨i, cur, ow, rfl, hi, hk, hc, hs2⟩
  refine awp_sub hs2 ?_
  clear hs2 st
  repeat' first
    | refine aSq ?_ | refine aRt ?_ | refine aSk ?_ | refine aEx ?_ | refine aBl ?_ | refine tN ?_
    | (refine dr 4 [(0, true), (1, true), (2, true), (3, true), (4, true), (5, true), (6, true), (7, true), (8, true), (9, true), (10, true), (11, true), (12, true), (13, true), (14, true), (15, true), (16, true), (17, true), (18, true), (19, true), (20, true), (21, true), (22, true), (23, true), (24, false), (25, true)] [] ?_; refine da 24 fun _ => ?_; refine df en41 ?_; refine SF.then (SF.args (.cons (.refl _) (.cons ?_ .nil)) (sf41 (own := ow) (l := cur) (k := giveH p (k[i]'(by assumption))) (by omega))) ?_; (simp only [giveH, Hs.av]; exact .agg (.cons (.refl _) (.cons (.refl _) (.cons (.refl _) (.cons (.sl (LeLL.refl _) (.inr rfl)) (.cons (.refl _) (.cons (.refl _) .nil))))))); refine ⟨.inr rfl, ?_⟩; refine dl ?_)
    | refine ru ?_
    | (refine awp_if rfl (fun hb => ?_) (fun hb => ?_) <;> (try simp at hb) <;> try (exfalso; omega))
    | fail
  · have hlt : i < k.length := by assumption
    rw [putAll_drop hlt] at hk
    have := put_len cur (giveH p k[i])
    exact ⟨k.length - (i + 1), by omega, i + 1, _, .shut, rfl, by omega, hk, by omega, rfl, rfl, only_cons (by simp) (only_cons (by simp) (only_cons (by simp) (only_cons (by simp (disch := omega)) only_nil)))⟩
  · rw [List.drop_of_length_le (by omega)] at hk
    exact ⟨Gr.refl _, _, by simp; exact .shut _ _ _, by rw [← hk]; rfl⟩
end Go.Av
namespace Go.Av
open Go.Proofs
variable {W0 : World}
set_option maxRecDepth 10000
set_option maxHeartbeats 4000000
@[simp] theorem strs_tail (l : List Str) : (strs l).tail = strs l.tail := by simp [strs]
def oneR : Option (Lk × List Hs) → AV
  | none => .tuple [.agg (Lk.mk [] [] [] [] []).av, .sl 6 [] .shut, .bool false]
  | some (k, h) => .tuple [.agg k.av, .sl 6 (Hs.avs h) .shut, .bool true]
theorem splitB_long {a : Str} (h : longB a = true) : splitB a = pieces [] a := by simp [splitB, h]
theorem piece_len {a x : Str} (h : longB a = true) (hx : x ∈ pieces [] a) : x.length ≤ 128 := by
  have := pieces_le a [] a (by simp) x hx
  have := longB_len h
  omega
theorem pieces_small {a : Str} (h : longB a = true) : (pieces [] a).length ≤ 1000 := by
  have := pieces_len [] a
  have := longB_len h
  omega
theorem goIn_drop {sp : Str} {ls : List Str} {i : Nat} (h : i < ls.length) (cur : List Hs) : goIn sp (ls.drop i) cur =
    match findL (isH ((if i + 1 = ls.length then sp else [109]) ++ 58 :: ls[i])) cur with
    | none => none
    | some k => goIn sp (ls.drop (i + 1)) k.ins := by
  rw [List.drop_eq_getElem_cons h]
  simp only [goIn]
  by_cases hl : i + 1 = ls.length
  · have : ls.drop (i + 1) = [] := List.drop_of_length_le (by omega)
    rw [if_pos this, if_pos hl]; rfl
  · have : ls.drop (i + 1) ≠ [] := by intro h; have := congrArg List.length h; simp at this; omega
    rw [if_neg this, if_neg hl]; rfl
def oneP (s : List Bd) (p : Path) (sp long : Str) (ls : List Str) (b : Option Bd) : Option (Lk × List Hs) :=
  match b with
  | none => none
  | some b => match goIn sp (ls.drop 1) b.ins with
    | none => none
    | some h => some (⟨p, sp, long, b.site, if b.br then ls else ls.drop 1⟩, h)
theorem one_parts {s : List Bd} {p : Path} {sp long : Str} {ls : List Str} (hl : longB long = true) (hls : pieces [] long = ls) (h0 : 0 < ls.length) :
    one s p sp long = oneP s p sp long ls (findL (isBd ((if ls.length = 1 then sp else [109]) ++ (58 : UInt8) :: ls[0])) s) := by
  unfold one
  rw [splitB_long hl, hls]
  cases ls with
  | nil => simp at h0
  | cons x r =>
    have : (x :: r).length = 1 ↔ r = [] := by simp
    simp only [this, List.getElem_cons_zero, oneP, List.drop_succ_cons, List.drop_zero]
    rfl
theorem sf120 {U : List Str} {s : List Bd} {p : Path} {sp long : Str} {o1 o2 : Own} {H : Hp} (hU : U.length ≤ 60000000) (hso : SOK U s) (hs : s.length ≤ 67108863) (hp : p.length ≤ 67108863) (hsp : sp.length ≤ 10) (hl : longB long = true) :
    SF Tryz.prog W0 120 [.sl 4 (bds s) o1, .sl 1 (ints p) o2, .str sp, .str long] H fun r H' => H' = H ∧ r = oneR (one s p sp long) := by
  have hll := longB_len hl
  obtain ⟨ls, hls⟩ : ∃ ls, pieces [] long = ls := ⟨_, rfl⟩
  have h0 : 0 < ls.length := by rw [← hls]; exact List.length_pos_iff.2 (pieces_ne _ _)
  have hln : ls.length ≤ 1000 := by rw [← hls]; exact pieces_small hl
  have hx : ∀ y ∈ ls, y.length ≤ 128 := fun y hy => piece_len hl (by rw [hls]; exact hy)
  have hx0 := hx ls[0] (List.getElem_mem _)
  rw [one_parts hl hls h0]
  refine SF.pureLe (sf_startC 8 38 [9, 10] 110 tab_ok Tryz.func120 rfl rfl rfl (by decide) (by simp) ?_)
  obtain ⟨first, hf⟩ : ∃ f : Str, f = if ls.length = 1 then sp else [109] := ⟨_, rfl⟩
  have hfl : first.length ≤ 10 := by rw [hf]; split <;> simp [hsp]
  repeat' first
    | (refine cutIf 3 (fun s' => Sub s' ⟨110, [(0, .sl 4 (bds s) o1), (1, .sl 1 (ints p) o2), (2, .str sp), (3, .str long), (8, .ref H.objs.length 0), (9, .slnil), (10, .bool false), (11, .sl 1 (strs ls) .shut), (12, .str first)], { H with objs := H.objs ++ [.cells [.slnil, .str [], .str [], .slnil, .slnil]] }⟩) (aSq ?_) (fun s' hs' => thenN (awp_sub hs' ?_)))
    | refine aSq ?_ | refine aSk ?_ | refine aBl ?_ | refine tN ?_
    | (refine rg 1 ?_; refine tk 1 ?_; refine fc en160 ?_; refine SF.then (sf160 (by omega)) ?_; rw [splitB_long hl, hls]; refine tk 1 ?_; refine dn ?_)
    | refine ru ?_
    | (refine awp_if rfl (fun hb => ?_) (fun hb => ?_) <;> (try simp at hb) <;> try (exfalso; omega))
    | fail
  · exact ⟨rfl, sb (only_cons (by simp) (only_cons (by simp) (only_cons (by simp) (only_cons (by simp) (only_cons (by simp) (only_cons (by simp) (only_cons (by simp) (only_cons (by simp) (only_cons (.of_eq (by rw [hf]; split <;> first | (simp; done) | (exfalso; omega))) only_nil)))))))))⟩
  · exact ⟨rfl, sb (only_cons (by simp) (only_cons (by simp) (only_cons (by simp) (only_cons (by simp) (only_cons (by simp) (only_cons (by simp) (only_cons (by simp) (only_cons (by simp) (only_cons (.of_eq (by rw [hf]; split <;> first | (simp; done) | (exfalso; omega))) only_nil)))))))))⟩
  rw [← hf]
  refine awp_loop_inv (fun q st => ∃ (i : Nat) (k : Int), q = s.length - i ∧ i ≤ s.length ∧ lastI (isBd (first ++ (58 : UInt8) :: ls[0])) (s.drop i) i k = lastI (isBd (first ++ (58 : UInt8) :: ls[0])) s 0 (-1) ∧
    Sub st ⟨110, [(0, .sl 4 (bds s) o1), (1, .sl 1 (ints p) o2), (2, .str sp), (3, .str long), (8, .ref H.objs.length 0), (9, .slnil), (10, .bool false), (11, .sl 1 (strs ls) .shut), (12, .str first), (13, .int .i64 k), (14, .int .i64 i)],
      { H with objs := H.objs ++ [.cells [.slnil, .str [], .str [], .slnil, .slnil]] }⟩) s.length
    ⟨0, -1, by simp, by simp, rfl, sb⟩ ?_
  clear hf
  rintro q st ⟨i, k, rfl, hi, hk, hs2⟩
  refine awp_sub hs2 ?_
  clear hs2 st
  have hxb := fun h : i < s.length => hso s[i] (List.getElem_mem h)
  repeat' first
    | refine aSq ?_ | refine aRt ?_ | refine aSk ?_ | refine aEx ?_ | refine aBl ?_ | refine tN ?_ | refine tR ?_
    | (refine dr 9 [(0, true), (1, true), (2, true), (3, true), (4, true), (5, true), (6, true), (7, true), (8, true), (9, true), (10, true), (11, true)] [] ?_; refine dl ?_ (h := (by simp (disch := omega) [small_if]; with_reducible rfl)))
    | (rw [List.drop_of_length_le (by omega)] at hk; simp only [lastI] at hk; rcases lastI_find (isBd (first ++ (58 : UInt8) :: ls[0])) s 0 (-1) with ⟨g1, g2⟩ | ⟨j, hj, g2, g1, g3⟩ <;> (rw [g2] at hk; subst hk; try rw [Nat.zero_add]) <;> refine ru ?_)
    | (refine ru ?_ (by simp (disch := omega) [small_if]; with_reducible rfl))
    | (refine awp_if rfl (fun hb => ?_) (fun hb => ?_) <;> (try simp at hb) <;> try (exfalso; omega))
    | fail
  all_goals first
    | (have hlt : i < s.length := by assumption
       rw [List.drop_eq_getElem_cons hlt] at hk
       have hb2 : (s[i].label == first ++ (58 : UInt8) :: ls[0]) = true := by simpa using hb
       simp only [lastI, isBd, hb2, if_true] at hk
       exact ⟨s.length - (i + 1), by omega, i + 1, i, rfl, by omega, hk, sb⟩)
    | (have hlt : i < s.length := by assumption
       rw [List.drop_eq_getElem_cons hlt] at hk
       have hb2 : (s[i].label == first ++ (58 : UInt8) :: ls[0]) = false := by simpa using hb
       simp only [lastI, isBd, hb2, Bool.false_eq_true, if_false] at hk
       exact ⟨s.length - (i + 1), by omega, i + 1, k, rfl, by omega, hk, sb⟩)
    | (rw [g1]
       simp [retC, oneP, oneR]
       exact ⟨(Gr.refl H).obj _, .tuple (.cons (.agg (.cons (.nilShut 1) (.cons (.refl _) (.cons (.refl _) (.cons (.nilShut 1) (.cons (.nilShut 1) .nil)))))) (.cons (.nilShut 6) (.cons (.refl _) .nil)))⟩)
    | skip
  all_goals
    rw [g1]
    have hbj := hso s[j] (List.getElem_mem hj)
    obtain ⟨res, hres⟩ : ∃ res, goIn sp (ls.drop 1) s[j].ins = res := ⟨_, rfl⟩
    simp only [oneP, hres]
    refine awp_loop_inv (fun q st => ∃ (i : Nat) (cur : List Hs), q = ls.length - i ∧ i ≤ ls.length ∧ 1 ≤ i ∧ HsOK U cur ∧ goIn sp (ls.drop i) cur = res ∧
      Sub st ⟨110, [(0, .sl 4 (bds s) o1), (1, .sl 1 (ints p) o2), (2, .str sp), (3, .str long), (8, .ref H.objs.length 0), (9, .slnil), (10, .bool false), (11, .sl 1 (strs ls) .shut), (13, .int .i64 j), (15, .sl 6 (Hs.avs cur) .shut), (16, .int .i64 i)],
        { H with objs := H.objs ++ [.cells [.slnil, .str [], .str [], .slnil, .slnil]] }⟩) (ls.length - 1)
      ⟨1, s[j].ins, by simp, by omega, by simp, hbj.ins, hres, sb⟩ ?_
    clear g2 g3 hb hi
    rintro q st ⟨i, cur, rfl, hi, hi1, hcur, hgo, hs2⟩
    refine awp_sub hs2 ?_
    clear hs2 st
    have hcl := hcur.len
    repeat' first
      | refine aSq ?_ | refine aRt ?_ | refine aSk ?_ | refine aEx ?_ | refine aBl ?_ | refine tN ?_ | refine tR ?_ | refine iR ?_
      | (refine rg 17 ?_; have hxi := hx (ls[i]'(by assumption)) (List.getElem_mem _); refine tk 6 ?_ (by simp (disch := omega) [small_if]; with_reducible rfl); refine dn ?_)
      | (refine rg 20 ?_; refine tk 2 ?_; refine fc en161 ?_; (have hlt : i < ls.length := by assumption); rw [goIn_drop hlt] at hgo; refine SF.then (sf161 (by omega)) ?_; (first | (have hla : i + 1 = ls.length := by omega); rw [if_pos hla] at hgo; rcases lastI_find (isH (sp ++ (58 : UInt8) :: ls[i])) cur 0 (-1) with ⟨g1, g2⟩ | ⟨k, hk, g2, g1, g3⟩ <;> rw [g1] at hgo <;> rw [g2] | (have hla : ¬ i + 1 = ls.length := by omega); rw [if_neg hla] at hgo; rcases lastI_find (isH ([109] ++ (58 : UInt8) :: ls[i])) cur 0 (-1) with ⟨g1, g2⟩ | ⟨k, hk, g2, g1, g3⟩ <;> rw [g1] at hgo <;> rw [show (109 : UInt8) :: 58 :: ls[i] = [109] ++ (58 : UInt8) :: ls[i] from rfl, g2]); (all_goals (try rw [Nat.zero_add])); (all_goals refine tk 1 ?_); all_goals refine dn ?_)
      | (refine ru ?_ (by simp (disch := omega) [small_if]; with_reducible rfl))
      | (refine awp_if rfl (fun hb => ?_) (fun hb => ?_) <;> (try simp at hb) <;> try (exfalso; omega))
      | fail
  all_goals first
    | (simp only at hgo
       subst hgo
       simp [retC, oneR]
       exact ⟨(Gr.refl H).obj _, .tuple (.cons (.agg (.cons (.nilShut 1) (.cons (.refl _) (.cons (.refl _) (.cons (.nilShut 1) (.cons (.nilShut 1) .nil)))))) (.cons (.nilShut 6) (.cons (.refl _) .nil)))⟩)
    | exact ⟨ls.length - (i + 1), by omega, i + 1, cur[k].ins, rfl, by omega, by omega, hcur.ins _ (List.getElem_mem hk), by simpa only using hgo, sb⟩
    | skip
  all_goals
    have hil : i = ls.length := by omega
    subst hil
    rw [List.drop_length] at hgo
    simp only [goIn] at hgo
    subst hgo
  all_goals
    rw [List.drop_one]
    obtain ⟨rest, hrest⟩ : ∃ rest : List Str, rest = if s[j].br then ls else ls.tail := ⟨_, rfl⟩
    have hrl : rest.length ≤ 1000 := by rw [hrest]; split <;> first | omega | (simp; omega)
    repeat' first
      | (refine cutIf 25 (fun s' => Sub s' ⟨110, [(0, .sl 4 (bds s) o1), (1, .sl 1 (ints p) o2), (2, .str sp), (3, .str long), (8, .ref H.objs.length 0), (13, .int .i64 j), (15, .sl 6 (Hs.avs cur) .shut), (19, .sl 1 (strs rest) .shut)], { H with objs := H.objs ++ [.cells [.slnil, .str [], .str [], .slnil, .slnil]] }⟩) (aSq ?_) (fun s' hs' => thenN (awp_sub hs' ?_)))
      | refine aSq ?_ | refine aSk ?_ | refine tN ?_
      | (refine ru ?_ (by simp (disch := omega) [small_ifI, small_if]; with_reducible rfl))
      | (refine awp_if rfl (fun hb => ?_) (fun hb => ?_) <;> (try simp at hb) <;> try (exfalso; omega))
      | fail
  · exact ⟨rfl, sb (by (repeat' first | exact only_nil | refine only_cons (by simp [hrest, hb]) ?_))⟩
  · exact ⟨rfl, sb (by (repeat' first | exact only_nil | refine only_cons (by simp [hrest, hb]) ?_))⟩
  · refine AWP.mono (Q := fun e st => e = .normal ∧ Sub st ⟨110, [(8, .ref H.objs.length 0), (9, .sl 6 (Hs.avs cur) .shut), (10, .bool true)],
      { H with objs := H.objs ++ [.cells [.sl 1 (ints p) .shut, .str sp, .str long, .sl 1 (ints s[j].site) .shut, .sl 1 (strs rest) .shut]] }⟩) ?_ ?_
    · rintro e st ⟨rfl, hs2⟩
      refine thenN (awp_sub hs2 ?_)
      refine awp_ret ?_
      simp [retC, oneR, Lk.av]
      refine ⟨(Gr.refl H).obj _, ?_⟩
      subst hrest
      simp
    · clear hres hx hxb hx0 hln hrest
      refine awp_drawK (id := 27) (mu := mu0) [(1, true), (3, true), (4, true), (5, true), (6, true), (7, true), (8, true), (9, true), (11, true), (14, true)] [0, 2, 10, 12, 13, 15, 16, 17] tab_ok mixedT (by decide +kernel) 8 rfl ?_
      refine dh 10 ?_
      refine adr_nil ?_
      refine ag_two (i := 0) (j := 10) (by decide +kernel) (by decide) (goes_run (mu := mu0) tab_ok (by simp; with_reducible rfl)) (goes_run (mu := mu0) tab_ok (by simp; with_reducible rfl)) ?_ ?_
      · refine ag_two (i := 2) (j := 10) (by decide +kernel) (by decide) (goes_fresh (mu := mu0) (t := 33) (x := .sl 1 (ints p) o2) (ints p) tab_ok rfl rfl (by simp) tab33 tab3 rfl (by decide) (by simp) (by simp) (by simp; omega) (fun n m => ints_cln n m p) (by simp; rfl)) (goes_run (mu := mu0) tab_ok (by simp; with_reducible rfl)) ?_ ?_
        · refine ag_one (i := 10) (by decide +kernel) (by decide) (goes_run (mu := mu0) tab_ok (by simp; with_reducible rfl)) ?_
          refine ag_one (i := 12) (by decide +kernel) (by decide) (goes_fresh (mu := mu0) (t := 36) (x := .sl 1 (strs rest) .shut) (strs rest) tab_ok rfl rfl (by simp) tab36 tab9 rfl (by decide) (by simp) (by simp) (by simp; omega) (fun n m => strs_cln n m _) (by simp; rfl)) ?_
          refine ag_one (i := 13) (by decide +kernel) (by decide) (goes_run (mu := mu0) tab_ok (by simp; with_reducible rfl)) ?_
          refine ag_one (i := 15) (by decide +kernel) (by decide) (goes_run (mu := mu0) tab_ok (by simp; with_reducible rfl)) ?_
          refine ag_one (i := 16) (by decide +kernel) (by decide) (goes_run (mu := mu0) tab_ok (by simp; with_reducible rfl)) ?_
          refine ag_one (i := 17) (by decide +kernel) (by decide) (goes_run (mu := mu0) tab_ok (by simp; with_reducible rfl)) ?_
          exact aw_done ⟨rfl, sb⟩ (by decide +kernel)
        · refine ag_one (i := 2) (by decide +kernel) (by decide) (goes_fresh (mu := mu0) (t := 33) (x := .sl 1 (ints p) o2) (ints p) tab_ok rfl rfl (by simp) tab33 tab3 rfl (by decide) (by simp) (by simp) (by simp; omega) (fun n m => ints_cln n m p) (by simp; rfl)) ?_
          refine ag_one (i := 12) (by decide +kernel) (by decide) (goes_fresh (mu := mu0) (t := 36) (x := .sl 1 (strs rest) .shut) (strs rest) tab_ok rfl rfl (by simp) tab36 tab9 rfl (by decide) (by simp) (by simp) (by simp; omega) (fun n m => strs_cln n m _) (by simp; rfl)) ?_
          refine ag_one (i := 13) (by decide +kernel) (by decide) (goes_run (mu := mu0) tab_ok (by simp; with_reducible rfl)) ?_
          refine ag_one (i := 15) (by decide +kernel) (by decide) (goes_run (mu := mu0) tab_ok (by simp; with_reducible rfl)) ?_
          refine ag_one (i := 16) (by decide +kernel) (by decide) (goes_run (mu := mu0) tab_ok (by simp; with_reducible rfl)) ?_
          refine ag_one (i := 17) (by decide +kernel) (by decide) (goes_run (mu := mu0) tab_ok (by simp; with_reducible rfl)) ?_
          exact aw_done ⟨rfl, sb⟩ (by decide +kernel)
      · refine ag_one (i := 0) (by decide +kernel) (by decide) (goes_run (mu := mu0) tab_ok (by simp; with_reducible rfl)) ?_
        refine ag_one (i := 2) (by decide +kernel) (by decide) (goes_fresh (mu := mu0) (t := 33) (x := .sl 1 (ints p) o2) (ints p) tab_ok rfl rfl (by simp) tab33 tab3 rfl (by decide) (by simp) (by simp) (by simp; omega) (fun n m => ints_cln n m p) (by simp; rfl)) ?_
        refine ag_one (i := 12) (by decide +kernel) (by decide) (goes_fresh (mu := mu0) (t := 36) (x := .sl 1 (strs rest) .shut) (strs rest) tab_ok rfl rfl (by simp) tab36 tab9 rfl (by decide) (by simp) (by simp) (by simp; omega) (fun n m => strs_cln n m _) (by simp; rfl)) ?_
        refine ag_one (i := 13) (by decide +kernel) (by decide) (goes_run (mu := mu0) tab_ok (by simp; with_reducible rfl)) ?_
        refine ag_one (i := 15) (by decide +kernel) (by decide) (goes_run (mu := mu0) tab_ok (by simp; with_reducible rfl)) ?_
        refine ag_one (i := 16) (by decide +kernel) (by decide) (goes_run (mu := mu0) tab_ok (by simp; with_reducible rfl)) ?_
        refine ag_one (i := 17) (by decide +kernel) (by decide) (goes_run (mu := mu0) tab_ok (by simp; with_reducible rfl)) ?_
        exact aw_done ⟨rfl, sb⟩ (by decide +kernel)
end Go.Av
