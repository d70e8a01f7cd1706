/-
  Go read by value: lemmas (part 8): A8.
-/
import Derived.Laws.OwnMore
import Derived.Test.YtdeocbficanfaaaGreatDoorX07
set_option linter.unusedVariables false
set_option linter.unusedSimpArgs false
set_option linter.unusedSectionVars false
namespace Go.Av
section
variable {P : Program} {T : Tab} {W0 : World}
theorem setA_idx {k : List UInt8} {v : AV} : ∀ {ks : List (List UInt8)} {as : List AV}, ks.length = as.length →
    (match idxA ks k with
     | none => setA ks as k v = (ks ++ [k], as ++ [v])
     | some j => setA ks as k v = (ks, as.set j v) ∧ ks[j]? = some k)
  | [], [], _ => rfl
  | k' :: ks, a :: as, hl => by
    have ih := setA_idx (k := k) (v := v) (show ks.length = as.length by simpa using hl)
    simp only [idxA, setA]
    by_cases hk : k' = k
    · subst hk; simp
    · simp only [hk, if_false]
      cases hj : idxA ks k with
      | none => rw [hj] at ih; simp [ih]
      | some j => rw [hj] at ih; simp [ih.1, ih.2]
  | [], _ :: _, hl => by simp at hl
  | _ :: _, [], hl => by simp at hl
theorem strV_inj {a b : List UInt8} (h : strV a = strV b) : a = b := by simpa [strV] using h
theorem idxA_none {k : List UInt8} : ∀ {ks : List (List UInt8)}, idxA ks k = none → ∀ q ∈ ks, q ≠ k
  | [], _, q, hq => by simp at hq
  | k' :: ks, h, q, hq => by
    simp only [idxA] at h
    split at h
    · cases h
    · rename_i hk
      rcases List.mem_cons.1 hq with rfl | hq
      · exact hk
      · exact idxA_none (by simpa using h) q hq
def putA (T : Tab) (H : Hp) (t : TypeId) (m k v : AV) : Option Hp :=
  match (T t).map (·.kind), m, k with
  | some (TK.map kt _), .mref r, .str k =>
    match (T kt).map (·.kind), H.objs[r]? with
    | some TK.str, some (.map ks vs) => some { H with objs := H.objs.set r (.map (setA ks vs k v).1 (setA ks vs k v).2) }
    | _, _ => none
  | _, _, _ => none
theorem run_getObj {w : World} {b : Nat} {o : Obj} (h : w.heap[b]? = some o) (hn : ∀ c t f, o ≠ .cells c t f) : (getObj b).run P w = .ok o w := by
  cases o <;> first | exact absurd rfl (hn _ _ _) | simp only [getObj, Sem.run, h]
theorem run_setObj {w : World} {b : Nat} {o o' : Obj} (h : w.heap[b]? = some o) (hn : ∀ c t f, o ≠ .cells c t f) : (setObj b o').run P w = .ok () { w with heap := w.heap.setIfInBounds b o' } := by
  cases o <;> first | exact absurd rfl (hn _ _ _) | simp only [setObj, Sem.run, h]
theorem putA_sound {st : St} {o : Oper} {t : TypeId} {m k v : Operand} {H' : Hp} (hT : TabOK P T) (ho : o.op = .mapUpdate t m k v)
    (h : putA T st.H t (st.eval m) (st.eval k) (st.eval v) = some H') : HeapStep P W0 o st (.tuple []) H' := by
  intro g w a hr
  unfold putA at h
  split at h
  · rename_i kt et r kk hkind hm hk
    obtain ⟨i, hi, hkind⟩ := Option.map_eq_some_iff.1 hkind
    obtain ⟨d, hd, hkd⟩ := (hT t i hi).kind
    rw [hkind] at hkd; cases hkd
    split at h
    · rename_i ks vs hks hobj
      obtain ⟨ki, hki, hks⟩ := Option.map_eq_some_iff.1 hks
      obtain ⟨kd, hkd', hkk⟩ := (hT kt ki hki).kind
      rw [hks] at hkk; cases hkk
      cases h
      obtain ⟨b, es, cl, hl, hpub, hf, hh, ⟨hkeys, hst⟩, har⟩ := hr.inv.obj _ _ hobj
      have em : a.eval m = .map (some b) := by
        have := hr.eval m; rw [hm] at this
        obtain ⟨b', hl', e⟩ := this
        rw [hl] at hl'; cases hl'; exact e
      have ek : a.eval k = strV kk := by have := hr.eval k; rw [hk] at this; exact this
      have hlen : ks.length = vs.length := by
        have h1 := congrArg List.length hkeys
        have h2 := har.length
        simp at h1 h2; omega
      have hfind := findNow_str kk es.toList ks 0 hkeys
      have hset := setA_idx (k := kk) (v := st.eval v) hlen
      have hb := heap_some_lt hh
      have hge := run_getObj (P := P) hh (by simp)
      have close : ∀ (es' : Array MapEntry) (cl' : Nat), KeysOf es' cl' (setA ks vs kk (st.eval v)).1 →
          (∀ {g' w'}, Ext g w g' w' → AR g' w' (setA ks vs kk (st.eval v)).2 (es'.toList.map (·.val))) →
          (setObj b (.map es' cl')).run P w = .ok () { w with heap := w.heap.setIfInBounds b (.map es' cl') } ∧
          Ext g w g { w with heap := w.heap.setIfInBounds b (.map es' cl') } ∧
          WInv W0 g { st.H with objs := st.H.objs.set r (.map (setA ks vs kk (st.eval v)).1 (setA ks vs kk (st.eval v)).2) } { w with heap := w.heap.setIfInBounds b (.map es' cl') } := by
        intro es' cl' h1 h2
        refine ⟨run_setObj hh (by simp), ?_⟩
        have := hr.inv.change hobj hl hpub hf (w' := { w with heap := w.heap.setIfInBounds b (.map es' cl') }) (by simp) rfl rfl rfl
          (fun c hc => by simp [Array.getElem?_setIfInBounds_ne (Ne.symm hc)]) (x := .map (setA ks vs kk (st.eval v)).1 (setA ks vs kk (st.eval v)).2)
          (fun e => ⟨b, es', cl', hl, hpub, hf, by simp [hb], h1, h2 e⟩)
        exact ⟨this.2, this.1⟩
      cases hj : idxA ks kk with
      | none =>
        rw [hj] at hfind hset
        have hnew : ∀ x ∈ es.toList, x.key ≠ strV kk := by
          intro x hx hxk
          have hm : strV kk ∈ es.toList.map (·.key) := hxk ▸ List.mem_map_of_mem hx
          rw [hkeys] at hm
          obtain ⟨q, hq, hqe⟩ := List.mem_map.1 hm
          exact idxA_none hj q hq (strV_inj hqe)
        obtain ⟨c1, c2, c3⟩ := close (es.push { key := strV kk, val := a.eval v, born := cl }) (cl + 1) ⟨by simp [hset, hkeys], MapKept.stamped_push hst (fun x hx hxk => hnew x hx hxk)⟩ (fun e => by
          simp only [hset, Array.toList_push, List.map_append, List.map_cons, List.map_nil]
          exact (AR.mono e _ _ har).append (AR.cons (VR.mono e _ _ (hr.eval v)) AR.nil))
        refine ⟨undef, _, g, .inr ⟨rfl, ?_⟩, c2, c3, VR.undef⟩
        unfold execOp; rw [ho]
        simp [Instr.mapUpdate, em, ek, run_underlying hd, hge, show (strV kk) = Value.string ⟨kk.toArray⟩ from rfl, run_checkKey hkd', Instr.findKey, run_underlying hkd']
        simp only [strV, Option.map_none] at hfind
        simp only [hfind, Sem.run_pure, Result.andThen_ok]
        simp only [strV] at c1
        rw [c1]; rfl
      | some j =>
        rw [hj] at hfind hset
        obtain ⟨hs1, hs2⟩ := hset
        have hkey : (es[j]?).map (·.key) = some (strV kk) := by
          have : (es.toList.map (·.key))[j]? = some (strV kk) := by rw [hkeys]; simp [hs2]
          simpa using this
        obtain ⟨c1, c2, c3⟩ := close (es.modify j fun e => { e with key := strV kk, val := a.eval v }) cl (by
          refine ⟨?_, MapKept.stamped_modify hst j _ (fun _ _ => rfl) (fun e0 he0 he1 => ?_)⟩
          rotate_left
          · rw [he1] at hkey; simpa using hkey.symm
          rw [hs1, ← hkeys]
          apply List.ext_getElem?
          intro q
          simp only [List.getElem?_map, Array.getElem?_toList, Array.getElem?_modify]
          by_cases hq : j = q
          · subst hq
            obtain ⟨e0, he0, he1⟩ := Option.map_eq_some_iff.1 hkey
            simp [he0, he1]
          · simp [hq]) (fun e => by
          have h1 := AR.set j (AR.mono e _ _ har) (VR.mono e _ _ (hr.eval v))
          rw [hs1]
          have : (es.modify j fun e => { e with key := strV kk, val := a.eval v }).toList.map (·.val) = (es.toList.map (·.val)).set j (a.eval v) := by
            apply List.ext_getElem?
            intro q
            simp only [List.getElem?_map, Array.getElem?_toList, Array.getElem?_modify, List.getElem?_set]
            by_cases hq : j = q
            · subst hq
              obtain ⟨e0, he0, he1⟩ := Option.map_eq_some_iff.1 hkey
              have hlt : j < es.size := by
                rcases Nat.lt_or_ge j es.size with h | h
                · exact h
                · simp [Array.getElem?_eq_none h] at he0
              simp [he0, hlt]
            · simp [hq]
          rw [this]; exact h1)
        refine ⟨undef, _, g, .inr ⟨rfl, ?_⟩, c2, c3, VR.undef⟩
        have hold : (((es[j]?).map (·.key)).getD (strV kk)) = strV kk := by rw [hkey]; rfl
        have hstay : (Instr.keyThatStays (strV kk) (strV kk)).run P w = .ok (strV kk) w := by
          have : Instr.sameBits 10000 (strV kk) (strV kk) = true := by
            show Instr.sameBits (9999 + 1) (Value.string ⟨kk.toArray⟩) (Value.string ⟨kk.toArray⟩) = true
            simp [Instr.sameBits, beq_mk]
          simp [Instr.keyThatStays, this]
        unfold execOp; rw [ho]
        simp only [strV, Option.map_some, Nat.zero_add] at hfind
        simp only [strV] at c1 hold hstay
        simp [Instr.mapUpdate, em, ek, run_underlying hd, hge, show (strV kk) = Value.string ⟨kk.toArray⟩ from rfl, run_checkKey hkd', Instr.findKey, run_underlying hkd', hfind]
        rw [hold, hstay]
        simp only [Result.andThen_ok]
        rw [c1]; rfl
    · cases h
  · cases h
def mapA (H : Hp) : AV × Hp := (.mref H.objs.length, { H with objs := H.objs ++ [.map [] []] })
theorem mapA_sound {st : St} {o : Oper} {t : TypeId} (ho : o.op = .makeMap t none) : HeapStep P W0 o st (mapA st.H).1 (mapA st.H).2 := by
  intro g w a hr
  have e0 := (hr.inv.object (.map #[] 0) .gone trivial).2
  obtain ⟨i, e⟩ := hr.inv.object (.map #[] 0) (.map [] []) ⟨w.heap.size, #[], 0, by simp [Gh.lay], hr.inv.pubNew _ (Nat.le_refl _), hr.inv.freshFro, heap_push_new, ⟨rfl, MapKept.stamped_empty 0⟩, AR.nil⟩
  refine ⟨.map (some w.heap.size), _, _, .inl ?_, e, i, w.heap.size, by simp [Gh.lay], rfl⟩
  unfold execOp; rw [ho]; simp [Instr.makeMap]
def makeA (T : Tab) (H : Hp) (t : TypeId) (x y : AV) : Option (AV × Hp) :=
  match (T t).map (·.kind), x, y with
  | some (TK.slice e), .int _ n, .int _ m =>
    match T e with
    | some i => if 0 ≤ n ∧ m = n ∧ n ≤ 268435455 ∧ i.size = 1 then (i.zero.head?).map fun z => (.osl H.objs.length n.toNat, { H with objs := H.objs ++ [.cells (List.replicate n.toNat z.av)] }) else none
    | none => none
  | _, _, _ => none
theorem AR_replicate {g w} {a : AV} {v : Value} (h : VR g w a v) : ∀ n, AR g w (List.replicate n a) (List.replicate n v)
  | 0 => AR.nil
  | n + 1 => AR.cons h (AR_replicate h n)
theorem makeA_sound {st : St} {o : Oper} {t : TypeId} {x y : Operand} {r : AV} {H' : Hp} (hT : TabOK P T) (ho : o.op = .makeSlice t x y)
    (h : makeA T st.H t (st.eval x) (st.eval y) = some (r, H')) : HeapStep P W0 o st r H' := by
  intro g w a hr
  unfold makeA at h
  split at h
  · rename_i e k n k' m hk hx hy
    obtain ⟨ti, hi, hk⟩ := Option.map_eq_some_iff.1 hk
    obtain ⟨d, hd, hkd⟩ := (hT t ti hi).kind
    rw [hk] at hkd; cases hkd
    split at h
    · rename_i i hei
      split at h
      · rename_i hc
        obtain ⟨h0, rfl, hmax, hsz⟩ := hc
        obtain ⟨z, hz, h⟩ := Option.map_eq_some_iff.1 h
        cases h
        obtain ⟨ei, h1, h2, h3, h4, h5, h6⟩ := (hT e i hei).info
        have hzl : i.zero = [z] := by
          rw [hsz] at h5
          match hq : i.zero, h5 with
          | [z'], _ => rw [hq] at hz; simpa using hz
        have hzv : (zval i).cells = #[z.val] := by
          have := zval_cells hT hei
          rw [hzl] at this
          exact Array.toList_inj.1 (by simpa using this)
        have hvx := hr.eval x
        have hvy := hr.eval y
        rw [hx] at hvx; rw [hy] at hvy
        have hb2 : (ei.bytes : Int) * m ≤ 281474976710656 := by
          have : (ei.bytes : Int) * m ≤ 1048576 * 268435455 := Int.mul_le_mul (by omega) hmax h0 (by omega)
          omega
        have hmk := run_make (P := P) w t e ei (zval i) hd h1 h4 k k' m m h0 (Int.le_refl _) hb2 (by omega)
        rw [hzv, h2, hsz, Nat.mul_one] at hmk
        have hto : (madeCells #[z.val] m.toNat).toList = List.replicate m.toNat z.val := by
          apply List.ext_getElem?
          intro j
          by_cases hj : j < m.toNat
          · simp [madeCells, hj, Nat.mod_one]
          · simp [madeCells, hj]
        obtain ⟨g', ee, ii, l⟩ := made_object hr.inv e (as := List.replicate m.toNat z.av) (vs := madeCells #[z.val] m.toNat) (by rw [hto]; exact AR_replicate z.rel _)
        refine ⟨_, _, g', .inl ?_, ee, ii, w.heap.size, m.toNat, rfl, l, Nat.le_refl _⟩
        unfold execOp; rw [ho]
        simp only [VR] at hvx hvy
        simp [hvx, hvy, hmk]
      · cases h
    · cases h
  · cases h
def rangeA (T : Tab) (H : Hp) (t : TypeId) (x : AV) : Option (AV × Hp) :=
  match (T t).map (·.kind), x with
  | some TK.str, .str s => some (.ref H.objs.length 0, { H with objs := H.objs ++ [.iter s 0] })
  | _, _ => none
theorem rangeA_sound {st : St} {o : Oper} {t : TypeId} {x : Operand} {r : AV} {H' : Hp} (hT : TabOK P T) (ho : o.op = .range t x)
    (h : rangeA T st.H t (st.eval x) = some (r, H')) : HeapStep P W0 o st r H' := by
  intro g w a hr
  unfold rangeA at h
  split at h
  · rename_i s hkind hx
    obtain ⟨i, hi, hkind⟩ := Option.map_eq_some_iff.1 hkind
    obtain ⟨d, hd, hkd⟩ := (hT t i hi).kind
    rw [hkind] at hkd; cases hkd
    cases h
    have ex : a.eval x = strV s := by have := hr.eval x; rw [hx] at this; exact this
    obtain ⟨i, e⟩ := hr.inv.object (.stringIter ⟨s.toArray⟩ 0) (.iter s 0) ⟨w.heap.size, by simp [Gh.lay], hr.inv.pubNew _ (Nat.le_refl _), hr.inv.freshFro, heap_push_new⟩
    refine ⟨.pointer (some ⟨w.heap.size, 0, none⟩), _, _, .inl ?_, e, i, w.heap.size, by simp [Gh.lay], rfl⟩
    unfold execOp; rw [ho]; simp [Instr.range, ex, strV, run_underlying hd]
  · cases h
def nextA (H : Hp) (x : AV) : Option (AV × Hp) :=
  match x with
  | .ref r 0 =>
    match H.objs[r]? with
    | some (.iter s p) =>
      if p < s.length then
        some (.tuple [.bool true, .int .i64 p, .int .i32 (Utf8.decode ⟨s.toArray⟩ p).1], { H with objs := H.objs.set r (.iter s (p + (Utf8.decode ⟨s.toArray⟩ p).2)) })
      else some (.tuple [.bool false], H)
    | _ => none
  | _ => none
theorem nextA_sound {st : St} {o : Oper} {x : Operand} {r : AV} {H' : Hp} (ho : o.op = .next x true)
    (h : nextA st.H (st.eval x) = some (r, H')) : HeapStep P W0 o st r H' := by
  intro g w a hr
  unfold nextA at h
  split at h
  · rename_i r' hx
    split at h
    · rename_i s p hobj
      obtain ⟨b, hl, hpub, hf, hh⟩ := hr.inv.obj _ _ hobj
      have ex : a.eval x = .pointer (some ⟨b, 0, none⟩) := by
        have := hr.eval x; rw [hx] at this
        obtain ⟨b', hl', e⟩ := this
        rw [hl] at hl'; cases hl'; exact e
      have hge := run_getObj (P := P) hh (by simp)
      have hb := heap_some_lt hh
      split at h
      · rename_i hp
        cases h
        have := hr.inv.change hobj hl hpub hf (w' := { w with heap := w.heap.setIfInBounds b (.stringIter ⟨s.toArray⟩ (p + (Utf8.decode ⟨s.toArray⟩ p).2)) }) (by simp) rfl rfl rfl
          (fun c hc => by simp [Array.getElem?_setIfInBounds_ne (Ne.symm hc)]) (x := .iter s (p + (Utf8.decode ⟨s.toArray⟩ p).2))
          (fun e => ⟨b, hl, hpub, hf, by simp [hb]⟩)
        refine ⟨_, _, g, .inl ?_, this.2, this.1, ⟨_, rfl, AR.cons rfl (AR.cons rfl (AR.cons rfl AR.nil))⟩⟩
        unfold execOp; rw [ho]
        have hso := run_setObj (P := P) (o' := .stringIter ⟨s.toArray⟩ (p + (Utf8.decode ⟨s.toArray⟩ p).2)) hh (by simp)
        simp [Instr.next, ex, hge, size_mk, hp, hso, goInt]
      · rename_i hp
        cases h
        refine ⟨_, w, g, .inl ?_, .refl _ _, hr.inv, ⟨_, rfl, AR.cons rfl AR.nil⟩⟩
        unfold execOp; rw [ho]
        simp [Instr.next, ex, hge, size_mk, hp]
    · cases h
  · cases h
def litA (sz : Nat) : Nat → List (Nat × AV) → Option (List (List AV))
  | _, [] => some []
  | i, (j, v) :: rest =>
    match cellsA v with
    | some cs => if j = i ∧ cs.length = sz then (litA sz (i + 1) rest).map (cs :: ·) else none
    | none => none
def sliceLitA (T : Tab) (t : TypeId) (n : Nat) (parts : List (Nat × AV)) : Option AV :=
  match (T t).map (·.kind) with
  | some (TK.slice e) =>
    match T e with
    | some i => if 0 < i.size ∧ n * i.size ≤ 16777216 ∧ parts.length = n then (litA i.size 0 parts).map fun es => .sl i.size es .capped else none
    | none => none
  | _ => none
end
end Go.Av
