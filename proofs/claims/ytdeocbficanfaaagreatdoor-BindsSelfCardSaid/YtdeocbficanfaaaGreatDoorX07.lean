/-
  Go read by value: lemmas (part 7): A7.
-/
import Derived.Laws.IdiomMaps
import Derived.Test.YtdeocbficanfaaaGreatDoorX06
set_option linter.unusedVariables false
set_option linter.unusedSimpArgs false
set_option linter.unusedSectionVars false
namespace Go.Av
def okCell : AV → Bool
  | .any | .agg _ | .tuple _ => false
  | _ => true
theorem okCell_one {g w a v} (h : okCell a = true) (hv : VR g w a v) : v.oneCell' = true := by
  cases a <;> simp only [okCell, Bool.false_eq_true] at h <;> simp only [VR] at hv
  case sl =>
    cases hv with
    | inl h => obtain ⟨_, _, rfl⟩ := h; rfl
    | inr h => obtain ⟨b, o, c, rfl, _⟩ := h; rfl
  all_goals first
    | (subst hv; simp [strV, Value.oneCell']; done)
    | (obtain ⟨b, o, rfl, _⟩ := hv; rfl)
    | (obtain ⟨b, _, rfl⟩ := hv; rfl)
    | (obtain ⟨b, rfl, _⟩ := hv; rfl)
    | (obtain ⟨b, o, c, rfl, _⟩ := hv; rfl)
theorem okCells_one {g w} : ∀ {as : List AV} {vs : List Value}, as.all okCell = true → AR g w as vs → ∀ v ∈ vs, v.oneCell' = true
  | [], _, _, h => by cases h; simp
  | a :: as, _, h, ⟨v, vs', e, h1, h2⟩ => by
    subst e
    simp only [List.all_cons, Bool.and_eq_true] at h
    intro u hu
    rcases List.mem_cons.1 hu with rfl | hu
    · exact okCell_one h.1 h1
    · exact okCells_one h.2 h2 u hu
def HeapStep (P : Program) (W0 : World) (o : Oper) (st : St) (r : AV) (H' : Hp) : Prop :=
  ∀ g w a, Rel W0 g w a st → ∃ v w' g', ((execOp a.eval o).run P w = .ok (.value v) w' ∨ (v = undef ∧ (execOp a.eval o).run P w = .ok .skip w')) ∧
    Ext g w g' w' ∧ WInv W0 g' H' w' ∧ VR g' w' r v
section
variable {P : Program} {T : Tab} {W0 : World}
theorem AR_CR {g w b} {cs : Array Value} {Ty : TypeId} {fr} (hh : w.heap[b]? = some (.cells cs Ty fr)) : ∀ {as : List AV} {vs : List Value} {o : Nat}, AR g w as vs → (∀ j v, vs[j]? = some v → cs[o + j]? = some v) → o + as.length ≤ g.pub b → CR g w b o as
  | [], _, _, _, _, _ => trivial
  | a :: as, _, o, ⟨v, vs', e, h1, h2⟩, hc, hp => by
    subst e
    simp only [List.length_cons] at hp
    refine ⟨⟨v, ?_, by omega, h1⟩, AR_CR hh h2 (fun j u hj => ?_) (by omega)⟩
    · rw [cell_row hh]; simpa using hc 0 v rfl
    · rw [show o + 1 + j = o + (j + 1) from by omega]; exact hc (j + 1) u (by simpa using hj)
theorem made_cells {g w H} (inv : WInv W0 g H w) {as : List AV} {vs : Array Value} (Ty : TypeId) (h : AR g w as vs.toList) :
    ∃ g', Ext g w g' (w.alloc (.cells vs Ty)) ∧ WInv W0 g' H (w.alloc (.cells vs Ty)) ∧ CR g' (w.alloc (.cells vs Ty)) w.heap.size 0 as := by
  obtain ⟨i, e⟩ := inv.made (.cells vs Ty) vs.size
  refine ⟨_, e, i, AR_CR (fr := (0, 0)) (heap_push_new) (AR.mono e _ _ h) (fun j v hj => by simpa using hj) ?_⟩
  have := h.length
  simp only [Array.length_toList] at this
  simp [Gh.publish]; omega
theorem made_object {g w H} (inv : WInv W0 g H w) {as : List AV} {vs : Array Value} (Ty : TypeId) (h : AR g w as vs.toList) :
    ∃ g', Ext g w g' (w.alloc (.cells vs Ty)) ∧ WInv W0 g' { H with objs := H.objs ++ [.cells as] } (w.alloc (.cells vs Ty)) ∧ g'.loc H.objs.length = some w.heap.size := by
  have e : Ext g w (g.lay H.objs.length w.heap.size) (w.alloc (.cells vs Ty)) := by
    have := inv.object (.cells vs Ty) .gone trivial
    exact this.2
  obtain ⟨i, e⟩ := inv.object (.cells vs Ty) (.cells as) ⟨w.heap.size, vs, Ty, by simp [Gh.lay], inv.pubNew _ (Nat.le_refl _), inv.freshFro, heap_push_new, AR.mono e _ _ h⟩
  exact ⟨_, e, i, by simp [Gh.lay]⟩
def boxA (mu : TypeId → Bool) (H : Hp) (t : TypeId) (x : AV) : Option (AV × Hp) :=
  (cellsA x).map fun vs => if mu t then (.ref H.objs.length 0, { H with objs := H.objs ++ [.cells vs] }) else (.ptr vs, H)
theorem boxA_sound {mu : TypeId → Bool} {st : St} {o : Oper} {t : TypeId} {x : Operand} {r : AV} {H' : Hp} (ho : o.op = .box t x)
    (h : boxA mu st.H t (st.eval x) = some (r, H')) : HeapStep P W0 o st r H' := by
  intro g w a hr
  obtain ⟨vs, hvs, h⟩ := Option.map_eq_some_iff.1 h
  have har := cellsA_rel hvs (hr.eval x)
  refine ⟨.pointer (some ⟨w.heap.size, 0, none⟩), w.alloc (.cells (a.eval x).cells t), ?_⟩
  have hrun : (execOp a.eval o).run P w = .ok (.value (.pointer (some ⟨w.heap.size, 0, none⟩))) (w.alloc (.cells (a.eval x).cells t)) := by
    unfold execOp; rw [ho]; simp [Instr.box, newVar, newRow]
  split at h
  · cases h
    obtain ⟨g', e, i, l⟩ := made_object hr.inv t har
    exact ⟨g', .inl hrun, e, i, _, l, rfl⟩
  · cases h
    obtain ⟨g', e, i, l⟩ := made_cells hr.inv t har
    exact ⟨g', .inl hrun, e, i, _, _, rfl, l⟩
def allocA (T : Tab) (H : Hp) (t : TypeId) : Option (AV × Hp) :=
  (T t).map fun i => (.ref H.objs.length 0, { H with objs := H.objs ++ [.cells (i.zero.map ZC.av)] })
theorem allocA_sound {st : St} {o : Oper} {t : TypeId} {r : AV} {H' : Hp} (hT : TabOK P T) (ho : o.op = .alloc t)
    (h : allocA T st.H t = some (r, H')) : HeapStep P W0 o st r H' := by
  intro g w a hr
  obtain ⟨i, hi, h⟩ := Option.map_eq_some_iff.1 h
  cases h
  have hz := run_zero hT hi w
  have hzc := zval_cells hT hi
  refine ⟨.pointer (some ⟨w.heap.size, 0, none⟩), w.alloc (.cells (zval i).cells t), ?_⟩
  have hrun : (execOp a.eval o).run P w = .ok (.value (.pointer (some ⟨w.heap.size, 0, none⟩))) (w.alloc (.cells (zval i).cells t)) := by
    unfold execOp; rw [ho]; simp [Instr.alloc, newVar, newRow, hz]
  obtain ⟨g', e, i, l⟩ := made_object hr.inv t (as := i.zero.map ZC.av) (vs := (zval i).cells) (by rw [hzc]; exact zcells_rel _)
  exact ⟨g', .inl hrun, e, i, _, l, rfl⟩
def storeA (T : Tab) (H : Hp) (t : TypeId) (p x : AV) : Option Hp :=
  match T t, p, cellsA x with
  | some i, .ref r k, some vs =>
    match H.objs[r]? with
    | some (.cells cs) => if vs.length = i.size ∧ k + i.size ≤ cs.length ∧ vs.all okCell = true then some { H with objs := H.objs.set r (.cells (cs.take k ++ vs ++ cs.drop (k + i.size))) } else none
    | _ => none
  | _, _, _ => none
theorem storeA_sound {st : St} {o : Oper} {t : TypeId} {p x : Operand} {H' : Hp} (hT : TabOK P T) (ho : o.op = .store t p x)
    (h : storeA T st.H t (st.eval p) (st.eval x) = some H') : HeapStep P W0 o st (.tuple []) H' := by
  intro g w a hr
  unfold storeA at h
  split at h
  · rename_i i r k vs hi hp hx
    split at h
    · rename_i cs hcs
      split at h
      · rename_i hc
        cases h
        obtain ⟨hl, hk, hok⟩ := hc
        have har := cellsA_rel hx (hr.eval x)
        have hpv := hr.eval p
        rw [hp] at hpv
        obtain ⟨b, hb, hpe⟩ := hpv
        obtain ⟨b', us, Ty, hb', hpub, hfro, hh, hus⟩ := hr.inv.obj r _ hcs
        rw [hb] at hb'; cases hb'
        have hul := hus.length
        have hvl := har.length
        simp only [Array.length_toList] at hul hvl
        have hst := run_storeCells_at P b k Ty (a.eval x).cells.toList 0 us w hh (by simp; omega) (okCells_one hok har)
        refine ⟨undef, w.setRow b (us.toList.take k ++ (a.eval x).cells.toList ++ us.toList.drop (k + (a.eval x).cells.size)).toArray, g, .inr ⟨rfl, ?_⟩, ?_⟩
        · unfold execOp; rw [ho]
          simp only [Instr.storeAt, hpe, Instr.sureAddr, storeVar]
          simp only [Sem.run_bind, Sem.run_pure, Result.andThen_ok, run_size hT hi]
          rw [if_neg (by simp; omega)]
          rw [hst]; simp
        · have := hr.inv.change hcs hb hpub hfro (w' := w.setRow b (us.toList.take k ++ (a.eval x).cells.toList ++ us.toList.drop (k + (a.eval x).cells.size)).toArray) (by simp) rfl rfl rfl
            (fun c hc => setRow_other w b c _ hc) (x := .cells (cs.take k ++ vs ++ cs.drop (k + i.size))) (fun e => ?_)
          · obtain ⟨i', e⟩ := this
            exact ⟨e, i', VR.undef⟩
          · refine ⟨b, _, Ty, hb, hpub, hfro, setRow_heap w b us _ Ty (0, 0) hh, ?_⟩
            have h1 := AR.mono e _ _ hus
            have h2 := AR.mono e _ _ har
            have h3 := ((h1.take k).append h2).append (h1.drop (k + (a.eval x).cells.size))
            rw [show k + i.size = k + (a.eval x).cells.size from by omega]
            simpa using h3
      · cases h
    · cases h
  · cases h
def getA : List (List UInt8) → List AV → List UInt8 → Option AV
  | k' :: ks, v :: vs, k => if k' = k then some v else getA ks vs k
  | _, _, _ => none
def setA : List (List UInt8) → List AV → List UInt8 → AV → List (List UInt8) × List AV
  | k' :: ks, v' :: vs, k, v => if k' = k then (k' :: ks, v :: vs) else let r := setA ks vs k v; (k' :: r.1, v' :: r.2)
  | _, _, k, v => ([k], [v])
theorem beq_mk (a b : List UInt8) : ((⟨a.toArray⟩ : ByteArray) == ⟨b.toArray⟩) = decide (a = b) := by
  have e : ((⟨a.toArray⟩ : ByteArray) == ⟨b.toArray⟩) = (a.toArray == b.toArray) := rfl
  rw [e]
  by_cases h : a = b
  · subst h; simp
  · simp [h]
def idxA : List (List UInt8) → List UInt8 → Option Nat
  | k' :: ks, k => if k' = k then some 0 else (idxA ks k).map (· + 1)
  | [], _ => none
theorem findNow_str (k : List UInt8) : ∀ (es : List MapEntry) (ks : List (List UInt8)) (i : Nat), es.map (·.key) = ks.map strV →
    Instr.findNow .string (strV k) es i = some ((idxA ks k).map fun j => (i + j, (es.map (·.val)).getD j undef))
  | [], ks, i, h => by
    have : ks = [] := by simpa using h.symm
    subst this; rfl
  | e :: es, [], i, h => by simp at h
  | e :: es, k' :: ks, i, h => by
    simp only [List.map_cons, List.cons.injEq] at h
    simp only [Instr.findNow, h.1, strV, Instr.sameNow, beq_mk, idxA]
    by_cases hk : k = k'
    · subst hk; simp
    · have hk' : ¬ k' = k := fun e => hk e.symm
      have ih := findNow_str k es ks (i + 1) h.2
      simp only [strV] at ih
      simp only [hk, hk', decide_false, if_false, ih, Option.map_map]
      congr 1
      cases idxA ks k with
      | none => rfl
      | some j => simp; omega
theorem getA_idx {g w} {k : List UInt8} : ∀ {ks : List (List UInt8)} {as : List AV} {vs : List Value}, AR g w as vs → ks.length = as.length →
    (match idxA ks k with
     | none => getA ks as k = none
     | some j => ∃ c, getA ks as k = some c ∧ VR g w c (vs.getD j undef))
  | [], [], _, _, _ => rfl
  | k' :: ks, a :: as, _, ⟨v, vs', e, h1, h2⟩, hl => by
    subst e
    have ih := getA_idx (k := k) h2 (by simpa using hl : ks.length = as.length)
    simp only [idxA, getA]
    by_cases hk : k' = k
    · simp only [hk, if_true]; exact ⟨a, rfl, h1⟩
    · simp only [hk, if_false]
      cases hj : idxA ks k with
      | none => rw [hj] at ih; exact ih
      | some j => rw [hj] at ih; simpa using ih
  | [], _ :: _, _, _, hl => by simp at hl
  | _ :: _, [], _, _, hl => by simp at hl
def lookOut (z : ZC) (ok : Bool) (r : Option AV) : AV := if ok then .tuple [r.getD z.av, .bool r.isSome] else r.getD z.av
def lookA (T : Tab) (H : Hp) (t : TypeId) (m k : AV) (ok : Bool) : Option AV :=
  match (T t).map (·.kind), k with
  | some (TK.map kt et), .str k =>
    match (T kt).map (·.kind), T et with
    | some TK.str, some ei =>
      if ei.isAgg then none else
      match ei.zero.head? with
      | none => none
      | some z =>
      match m with
      | .mnil => some (lookOut z ok none)
      | .mref r => match H.objs[r]? with | some (.map ks vs) => some (lookOut z ok (getA ks vs k)) | _ => none
      | .mapv ks vs => if ks.length = vs.length then some (lookOut z ok (getA ks vs k)) else none
      | _ => none
    | _, _ => none
  | _, _ => none
theorem run_checkKey {kt : TypeId} {s : ByteArray} (hd : P.underlying kt = some .string) (b : Bool) (w : World) : (Instr.checkKey b 10000 kt (.string s)).run P w = .ok () w := by
  show (Instr.checkKey b (9999 + 1) kt (.string s)).run P w = .ok () w
  generalize 9999 = n
  simp [Instr.checkKey, run_underlying hd]
theorem lookA_sound {g w} {H : Hp} {t : TypeId} {m k r : AV} {u v : Value} {ok : Bool} (hT : TabOK P T) (inv : WInv W0 g H w) (h : lookA T H t m k ok = some r)
    (hm : VR g w m u) (hk : VR g w k v) : ∃ z, (Instr.lookup t u v ok).run P w = .ok z w ∧ VR g w r z := by
  unfold lookA at h
  split at h
  · rename_i kt et kk hkind
    obtain ⟨i, hi, hkind⟩ := Option.map_eq_some_iff.1 hkind
    obtain ⟨d, hd, hkd⟩ := (hT t i hi).kind
    rw [hkind] at hkd; cases hkd
    cases hk
    split at h
    · rename_i ei hks hei
      obtain ⟨ki, hki, hks⟩ := Option.map_eq_some_iff.1 hks
      obtain ⟨kd, hkd', hkk⟩ := (hT kt ki hki).kind
      rw [hks] at hkk; cases hkk
      split at h
      · cases h
      · rename_i hag
        split at h
        · cases h
        · rename_i z hz
          have hzero : (zeroValue et).run P w = .ok z.val w := by
            have := run_zero hT hei w
            rw [this]
            have hag' : ei.isAgg = false := by simpa using hag
            simp only [zval, hag', Bool.false_eq_true, if_false]
            cases hzz : ei.zero with
            | nil => rw [hzz] at hz; cases hz
            | cons a l => rw [hzz] at hz; cases hz; rfl
          have fin : ∀ (es : List MapEntry) (ks : List (List UInt8)) (as : List AV), es.map (·.key) = ks.map strV → AR g w as (es.map (·.val)) → ks.length = as.length →
              ∃ x y, (Instr.findKey kt (strV kk) es).run P w = .ok x w ∧ (match x with | some (_, v) => pure (v, true) | none => do pure (← zeroValue et, false) : Sem (Value × Bool)).run P w = .ok (y, (getA ks as kk).isSome) w ∧
                VR g w ((getA ks as kk).getD z.av) y := by
            intro es ks as hkeys har hlen
            have hf := findNow_str kk es ks 0 hkeys
            have hg := getA_idx (k := kk) har hlen
            cases hj : idxA ks kk with
            | none =>
              rw [hj] at hf hg
              exact ⟨none, z.val, by simp [Instr.findKey, run_underlying hkd', hf], by simp [hzero, hg], by simp [hg]; exact z.rel⟩
            | some j =>
              rw [hj] at hf hg
              obtain ⟨c, hc, hv⟩ := hg
              exact ⟨some (0 + j, (es.map (·.val)).getD j undef), (es.map (·.val)).getD j undef, by simp [Instr.findKey, run_underlying hkd', hf], by simp [hc], by simpa [hc] using hv⟩
          have shut : ∀ (es : Array MapEntry) (x : Option (Nat × Value)) (y : Value) (c : Option AV), (Instr.findKey kt (strV kk) es.toList).run P w = .ok x w →
              (match x with | some (_, v) => pure (v, true) | none => do pure (← zeroValue et, false) : Sem (Value × Bool)).run P w = .ok (y, c.isSome) w → VR g w (c.getD z.av) y →
              (do pure (← (pure es : Sem (Array MapEntry))) : Sem (Array MapEntry)).run P w = .ok es w →
              ∃ zz, (do
                Instr.checkKey es.isEmpty 10000 kt (strV kk)
                let (v, k) ← match ← Instr.findKey kt (strV kk) es.toList with
                  | some (_, v) => pure (v, true)
                  | none => pure (← zeroValue et, false)
                pure (if ok then .tuple #[v, .bool k] else v) : Sem Value).run P w = .ok zz w ∧ VR g w (lookOut z ok c) zz := by
            intro es x y c h1 h2 h3 _
            refine ⟨if ok then .tuple #[y, .bool c.isSome] else y, ?_, ?_⟩
            · simp only [Sem.run_bind, show (strV kk) = Value.string ⟨kk.toArray⟩ from rfl, run_checkKey hkd', Result.andThen_ok] at h1 ⊢
              simp only [h1, Result.andThen_ok]
              cases x with
              | none => simp only [Sem.run_bind, hzero, Result.andThen_ok, Sem.run_pure, Result.ok.injEq, Prod.mk.injEq, and_true] at h2 ⊢; simp [h2]
              | some p => simp only [Sem.run_pure, Result.ok.injEq, Prod.mk.injEq, and_true, Result.andThen_ok] at h2 ⊢; simp [h2]
            · cases ok
              · exact h3
              · exact ⟨_, rfl, AR.cons h3 (AR.cons rfl AR.nil)⟩
          cases m <;> simp only [reduceCtorEq] at h
          case mnil =>
            cases h
            cases hm
            obtain ⟨x, y, h1, h2, h3⟩ := fin [] [] [] rfl AR.nil rfl
            obtain ⟨zz, h4, h5⟩ := shut #[] x y _ h1 h2 h3 rfl
            exact ⟨zz, by simp [Instr.lookup, run_underlying hd] at h4 ⊢; exact h4, h5⟩
          case mref r' =>
            split at h
            · rename_i ks vs hobj
              cases h
              obtain ⟨b, es, cl, hl, _, hf, hh, ⟨hkeys, _⟩, har⟩ := inv.obj _ _ hobj
              obtain ⟨b', hl', rfl⟩ := hm
              rw [hl] at hl'; cases hl'
              have hlen : ks.length = vs.length := by
                have h1 := congrArg List.length hkeys
                have h2 := har.length
                simp at h1 h2; omega
              obtain ⟨x, y, h1, h2, h3⟩ := fin es.toList ks vs hkeys har hlen
              obtain ⟨zz, h4, h5⟩ := shut es x y _ h1 h2 h3 rfl
              exact ⟨zz, by simp [Instr.lookup, run_underlying hd, getObj, Sem.run, hh] at h4 ⊢; exact h4, h5⟩
            · cases h
          case mapv ks vs =>
            split at h
            · rename_i hlen
              cases h
              obtain ⟨b, es, cl, rfl, hf, hh, ⟨hkeys, _⟩, har⟩ := hm
              obtain ⟨x, y, h1, h2, h3⟩ := fin es.toList ks vs hkeys har hlen
              obtain ⟨zz, h4, h5⟩ := shut es x y _ h1 h2 h3 rfl
              exact ⟨zz, by simp [Instr.lookup, run_underlying hd, getObj, Sem.run, hh] at h4 ⊢; exact h4, h5⟩
            · cases h
    · cases h
  · cases h
end
end Go.Av
