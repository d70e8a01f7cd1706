/-
  Go read by value: lemmas (part 9): A9, A10.
-/
import Derived.Laws.Append
import Derived.Test.YtdeocbficanfaaaGreatDoorX08
set_option linter.unusedVariables false
set_option linter.unusedSimpArgs false
set_option linter.unusedSectionVars false
namespace Go.Av
def RowsR (g : Gh) (w : World) (sz : Nat) : List (List AV) → List Value → Prop
  | [], us => us = []
  | e :: es, us => ∃ vs us', us = vs ++ us' ∧ e.length = sz ∧ AR g w e vs ∧ RowsR g w sz es us'
theorem RowsR.length {g w sz} : ∀ {es : List (List AV)} {us : List Value}, RowsR g w sz es us → us.length = es.length * sz
  | [], _, h => by cases h; simp
  | e :: es, _, ⟨vs, us', rfl, hl, h1, h2⟩ => by
    have := h1.length
    have := RowsR.length h2
    simp only [List.length_append, List.length_cons, Nat.succ_mul]; omega
theorem RowsR.mono {g w g' w' sz} (x : Ext g w g' w') : ∀ {es : List (List AV)} {us : List Value}, RowsR g w sz es us → RowsR g' w' sz es us
  | [], _, h => h
  | _ :: _, _, ⟨vs, us', e, hl, h1, h2⟩ => ⟨vs, us', e, hl, AR.mono x _ _ h1, RowsR.mono x h2⟩
theorem RowsR.append {g w sz} : ∀ {es fs : List (List AV)} {us vs : List Value}, RowsR g w sz es us → RowsR g w sz fs vs → RowsR g w sz (es ++ fs) (us ++ vs)
  | [], _, _, _, h, k => by cases h; exact k
  | e :: es, _, _, _, ⟨xs, us', rfl, hl, h1, h2⟩, k => ⟨xs, us' ++ _, by simp, hl, h1, RowsR.append h2 k⟩
theorem ER.rows {g w b sz} : ∀ {es : List (List AV)} {o : Nat}, ER g w b sz o es → ∃ us, RowsR g w sz es us ∧ ∀ j v, us[j]? = some v → w.cell? ⟨b, o + j, none⟩ = some v
  | [], _, _ => ⟨[], rfl, by simp⟩
  | e :: es, o, ⟨hl, hc, hr⟩ => by
    obtain ⟨vs, h1, h2⟩ := hc.vals
    obtain ⟨us, h3, h4⟩ := ER.rows hr
    have hvl := h1.length
    refine ⟨vs ++ us, ⟨vs, us, rfl, hl, h1, h3⟩, fun j v hj => ?_⟩
    by_cases hlt : j < vs.length
    · rw [List.getElem?_append_left hlt] at hj; exact h2 j v hj
    · rw [List.getElem?_append_right (by omega)] at hj
      have := h4 _ v hj
      rwa [show o + sz + (j - vs.length) = o + j from by omega] at this
theorem RowsR.er {g w b sz} {cs : Array Value} {Ty : TypeId} {fr} (hh : w.heap[b]? = some (.cells cs Ty fr)) : ∀ {es : List (List AV)} {us : List Value} {o : Nat}, RowsR g w sz es us →
    (∀ j v, us[j]? = some v → cs[o + j]? = some v) → o + es.length * sz ≤ g.pub b → ER g w b sz o es
  | [], _, _, _, _, _ => trivial
  | e :: es, _, o, ⟨vs, us', rfl, hl, h1, h2⟩, hc, hp => by
    have hvl := h1.length
    simp only [List.length_cons, Nat.succ_mul] at hp
    refine ⟨hl, AR_CR hh h1 (fun j v hj => hc j v ?_) (by omega), RowsR.er hh h2 (fun j v hj => ?_) (by omega)⟩
    · rw [List.getElem?_append_left (by
        rcases Nat.lt_or_ge j vs.length with k | k
        · exact k
        · simp [List.getElem?_eq_none k] at hj)]; exact hj
    · rw [show o + sz + j = o + (vs.length + j) from by omega]
      exact hc _ v (by rw [List.getElem?_append_right (by omega)]; simpa using hj)
section
variable {P : Program} {T : Tab} {W0 : World}
theorem fill_lit {g w} {sz : Nat} : ∀ {as : List (Nat × AV)} {vs : List (Nat × Value)} {i : Nat} {es : List (List AV)} {cv : Array Value}, litA sz i as = some es → pairsR g w as vs →
    (i + as.length) * sz ≤ cv.size →
    ∃ (rv : Array Value) (us : List Value), Instr.fill (fun i => some (i * sz, sz)) cv vs = some rv ∧ RowsR g w sz es us ∧ rv.toList = cv.toList.take (i * sz) ++ us ++ cv.toList.drop ((i + as.length) * sz)
  | [], vs, i, es, cv, h, hq, _ => by
    cases h
    have : vs = [] := List.eq_nil_of_length_eq_zero hq.1.symm
    subst this
    exact ⟨cv, [], rfl, rfl, by simp⟩
  | (j, a) :: as, vs, i, es, cv, h, hq, hs => by
    obtain ⟨v, hv0, hva⟩ := hq.2 0 j a rfl
    match vs, hv0 with
    | x :: vs', hv0 =>
    simp at hv0; subst hv0
    simp only [litA] at h
    split at h
    · rename_i cs hcs
      split at h
      · rename_i hc
        obtain ⟨rfl, hcl⟩ := hc
        obtain ⟨es', hes, rfl⟩ := Option.map_eq_some_iff.1 h
        have har := cellsA_rel hcs hva
        have hl := har.length
        simp only [Array.length_toList] at hl
        have e1 : (j + (as.length + 1)) * sz = j * sz + (as.length + 1) * sz := Nat.add_mul ..
        have e2 : (as.length + 1) * sz = as.length * sz + sz := Nat.succ_mul ..
        have e3 : (j + 1) * sz = j * sz + sz := Nat.succ_mul ..
        have e4 : (j + 1 + as.length) * sz = (j + 1) * sz + as.length * sz := Nat.add_mul ..
        simp only [List.length_cons] at hs
        have hfold := foldl_set (j * sz) v.cells.toList 0 cv (by simp; omega)
        simp only [Nat.add_zero, Array.length_toList] at hfold
        have hfs : (v.cells.zipIdx.foldl (fun cs x => cs.setIfInBounds (j * sz + x.2) x.1) cv).toList = cv.toList.take (j * sz) ++ v.cells.toList ++ cv.toList.drop (j * sz + v.cells.size) := by
          rw [← Array.foldl_toList, Array.toList_zipIdx]; exact hfold
        have hsize : (v.cells.zipIdx.foldl (fun cs x => cs.setIfInBounds (j * sz + x.2) x.1) cv).size = cv.size := by
          rw [← Array.length_toList, hfs]; simp; omega
        obtain ⟨rv, us, h1, h2, h3⟩ := fill_lit (as := as) (vs := vs') (i := j + 1) hes
          ⟨by have := hq.1; simpa using this, fun q i a hj => by have := hq.2 (q + 1) i a (by simpa using hj); simpa using this⟩ (by rw [hsize]; omega)
        refine ⟨rv, v.cells.toList ++ us, ?_, ⟨_, us, rfl, hcl, har, h2⟩, ?_⟩
        · simp only [Instr.fill]
          rw [if_neg (by simp; omega)]
          exact h1
        · rw [h3, hfs]
          have t1 : (cv.toList.take (j * sz) ++ v.cells.toList).length = (j + 1) * sz := by simp; omega
          rw [List.take_left' t1, List.length_cons, List.drop_append, t1]
          rw [show (j + 1 + as.length) * sz - (j + 1) * sz = as.length * sz from by omega, List.drop_eq_nil_of_le (by rw [t1]; omega), List.drop_drop]
          simp only [List.nil_append, List.append_assoc]
          congr 4
          omega
      · cases h
    · cases h
theorem sliceLitA_sound {st : St} {o : Oper} {t : TypeId} {n : Nat} {parts : Array (Nat × Operand)} {r : AV} (hT : TabOK P T) (ho : o.op = .buildSlice t n parts)
    (h : sliceLitA T t n (parts.toList.map fun p => (p.1, st.eval p.2)) = some r) : HeapStep P W0 o st r st.H := by
  intro g w a hr
  unfold sliceLitA at h
  split at h
  · rename_i e hkind
    obtain ⟨i, hi, hkind⟩ := Option.map_eq_some_iff.1 hkind
    obtain ⟨d, hd, hkd⟩ := (hT t i hi).kind
    rw [hkind] at hkd; cases hkd
    split at h
    · rename_i ei hei
      split at h
      · rename_i hc
        obtain ⟨hpos, hmax, hlen⟩ := hc
        obtain ⟨es, hes, rfl⟩ := Option.map_eq_some_iff.1 h
        simp only [List.length_map, Array.length_toList] at hlen
        have hz := run_zero hT hei w
        have hq : pairsR g w (parts.toList.map fun p => (p.1, st.eval p.2)) (parts.toList.map fun p => (p.1, a.eval p.2)) := by
          refine ⟨by simp, fun j i x hj => ?_⟩
          simp only [List.getElem?_map, Option.map_eq_some_iff, Prod.mk.injEq] at hj
          obtain ⟨p, hp, rfl, rfl⟩ := hj
          exact ⟨_, by simp [hp], hr.eval p.2⟩
        have hesl : es.length = n := by
          have : ∀ (l : List (Nat × AV)) (k : Nat) (es : List (List AV)), litA ei.size k l = some es → es.length = l.length := by
            intro l
            induction l with
            | nil => intro k es h; cases h; rfl
            | cons x l ih =>
              intro k es h
              simp only [litA] at h
              split at h
              · split at h
                · obtain ⟨es', h1, rfl⟩ := Option.map_eq_some_iff.1 h
                  simp [ih _ _ h1]
                · cases h
              · cases h
          rw [this _ _ _ hes]; simpa using hlen
        generalize hcv : ((Array.range (n * ei.size)).map (fun x => (if n * ei.size = 0 then #[] else (zval ei).cells)[x % (if n * ei.size = 0 then #[] else (zval ei).cells).size]!)) = cv
        have hcs : cv.size = n * ei.size := by rw [← hcv]; simp
        obtain ⟨rv, us, h1, h2, h3⟩ := fill_lit (g := g) (w := w) (cv := cv) hes hq (by simp [hlen, hcs])
        have hus : rv.toList = us := by
          rw [h3]
          simp only [Nat.zero_mul, List.take_zero, List.nil_append, Nat.zero_add, List.length_map, Array.length_toList, hlen]
          rw [List.drop_eq_nil_of_le (by simp [hcs])]; simp
        have hul := h2.length
        obtain ⟨i', e'⟩ := hr.inv.made (.cells rv e) (n * ei.size)
        refine ⟨.slice (some ⟨w.heap.size, 0, none⟩) n n, w.alloc (.cells rv e), _, .inl ?_, e', i', .inr ⟨w.heap.size, 0, n, by rw [hesl], by omega, hesl.symm, ?_⟩⟩
        · unfold execOp; rw [ho]
          simp only [Instr.buildSlice, Sem.run_bind, run_underlying hd, Result.andThen_ok, run_size hT hei]
          rw [if_neg (by omega)]
          by_cases h0 : n * ei.size = 0
          · have hn : n = 0 := by
              rcases Nat.mul_eq_zero.1 h0 with h | h
              · exact h
              · omega
            subst hn
            have : cv = #[] := Array.eq_empty_of_size_eq_zero (by rw [hcs]; omega)
            subst this
            have e0 : (Array.range 0).map (fun _ : Nat => (default : Value)) = #[] := Array.eq_empty_of_size_eq_zero (by simp)
            simp [h1, newRow, e0]
          · simp only [h0, if_false] at hcv
            simp [h0, hz, hcv, h1, newRow]
        · refine (h2.mono e').er heap_push_new (fun j v hj => ?_) ?_
          · rw [Nat.zero_add, ← Array.getElem?_toList, hus]; exact hj
          · simp [Gh.publish, hesl]
      · cases h
    · cases h
  · cases h
def Gh.tokAt (g : Gh) (t n b o cap sz : Nat) : Gh :=
  { g with pub := fun x => if x = b then o + n * sz else g.pub x, ver := fun t' n' => if t' = t ∧ n' = n then some (b, o, cap, sz) else g.ver t' n' }
structure Later (hi hi' : List Nat) (t n : Nat) : Prop where
  at_ : hi'[t]? = some n
  other : ∀ t', t' ≠ t → hi'[t']? = hi[t']?
  more : ∀ m, hi[t]? = some m → m < n
  len : ∀ t', hi'.length ≤ t' → hi.length ≤ t' ∧ t' ≠ t
theorem later_new (hi : List Nat) (n : Nat) : Later hi (hi ++ [n]) hi.length n := by
  refine ⟨by simp, fun t' ht => ?_, fun m hm => by simp at hm, fun t' ht => ?_⟩
  · rcases Nat.lt_or_ge t' hi.length with h | h
    · rw [List.getElem?_append_left h]
    · rw [List.getElem?_eq_none (by simp; omega), List.getElem?_eq_none h]
  · simp at ht; omega
theorem later_set {hi : List Nat} {t m n : Nat} (h : hi[t]? = some m) (hmn : m < n) : Later hi (hi.set t n) t n := by
  have hlt : t < hi.length := by
    rcases Nat.lt_or_ge t hi.length with k | k
    · exact k
    · simp [List.getElem?_eq_none k] at h
  refine ⟨by simp [hlt], fun t' ht => by rw [List.getElem?_set_ne (Ne.symm ht)], fun m' hm' => ?_, fun t' ht => ?_⟩
  · rw [h] at hm'; cases hm'; exact hmn
  · simp at ht; omega
theorem Later.verNone {W0 g H w hi' t n} (inv : WInv W0 g H w) (l : Later H.hi hi' t n) : g.ver t n = none := by
  cases h : H.hi[t]? with
  | some m => exact inv.verHi t m n h (l.more m h)
  | none =>
    refine inv.verNew t n ?_
    rcases Nat.lt_or_ge t H.hi.length with k | k
    · simp [List.getElem?_eq_getElem k] at h
    · exact k
theorem WInv.tokNew {W0 g H w} (h : WInv W0 g H w) {cs : Array Value} {Ty t n cap sz : Nat} {hi' : List Nat} (l : Later H.hi hi' t n) (hsz : 0 < sz) (hn : n ≤ cap) (hcs : cs.size = cap * sz) :
    WInv W0 (g.tokAt t n w.heap.size 0 cap sz) { H with hi := hi' } (w.alloc (.cells cs Ty)) ∧ Ext g w (g.tokAt t n w.heap.size 0 cap sz) (w.alloc (.cells cs Ty)) := by
  have hnone := l.verNone h
  have e : Ext g w (g.tokAt t n w.heap.size 0 cap sz) (w.alloc (.cells cs Ty)) := by
    refine ⟨by simp, fun b => ?_, fun b off v _ hc => ?_, fun _ h => h, fun b hb => heap_push_old (h.fro b hb).2.1, fun _ _ h => h, fun t' n' x hx => ?_⟩
    · simp only [Gh.tokAt]
      split
      · rename_i hb; subst hb; rw [h.pubNew _ (Nat.le_refl _)]; exact Nat.zero_le _
      · exact Nat.le_refl _
    · rw [cell_heap (heap_push_old (cell_lt hc))]; exact hc
    · simp only [Gh.tokAt]
      split
      · rename_i hc; obtain ⟨rfl, rfl⟩ := hc; rw [hnone] at hx; cases hx
      · exact hx
  have old : ∀ b, b < w.heap.size → (g.tokAt t n w.heap.size 0 cap sz).pub b = g.pub b := fun b hb => by simp [Gh.tokAt, Nat.ne_of_lt hb]
  have oldver : ∀ t' n', ¬ (t' = t ∧ n' = n) → (g.tokAt t n w.heap.size 0 cap sz).ver t' n' = g.ver t' n' := fun t' n' hne => by simp only [Gh.tokAt, if_neg hne]
  refine ⟨⟨fun b hb => ?_, ?_, h.os, h.out, h.tape, fun b hb => ?_, fun b hb => ?_, fun b hb => ?_, fun r b hb => ?_, h.locNew, h.inj, fun r x hx => ?_, fun t' m b x hv => ?_, fun t' m ht => ?_, fun t' m k ht hk => ?_, fun t' m hm => ?_, fun t1 t2 n1 n2 b x x' h1 h2 v1 v2 => ?_⟩, e⟩
  · rw [heap_push_old (Nat.lt_of_lt_of_le hb h.size)]; exact h.base b hb
  · simp only [size_alloc]; exact Nat.le_succ_of_le h.size
  · rw [old b (Nat.lt_of_lt_of_le hb h.size)]; exact h.pubOld b hb
  · simp only [size_alloc] at hb
    have : b ≠ w.heap.size := by omega
    simp only [Gh.tokAt, if_neg this]; exact h.pubNew b (by omega)
  · obtain ⟨h1, h2, es, cl, h3⟩ := h.fro b hb
    exact ⟨h1, by simp only [size_alloc]; omega, es, cl, (heap_push_old h2).trans h3⟩
  · have := h.locIn r b hb; simp only [size_alloc]; omega
  · refine (h.obj r x hx).keep e fun b hb => ?_
    have hlt := (h.locIn r b hb).2
    exact ⟨heap_push_old hlt, fun hp => (old b hlt).trans hp, id⟩
  · by_cases hc : t' = t ∧ m = n
    · obtain ⟨rfl, rfl⟩ := hc
      simp [Gh.tokAt] at hv
      simp only [size_alloc]; have := h.size; omega
    · rw [oldver _ _ hc] at hv
      have := h.verIn t' m b x hv; simp only [size_alloc]; omega
  · obtain ⟨h1, h2⟩ := l.len t' ht
    rw [oldver _ _ (by omega)]; exact h.verNew t' m h1
  · by_cases hc : t' = t
    · subst hc
      rw [show ({ H with hi := hi' } : Hp).hi = hi' from rfl, l.at_] at ht
      cases ht
      rw [oldver _ _ (by omega)]
      cases hh : H.hi[t']? with
      | some m' => exact h.verHi t' m' k hh (Nat.lt_trans (l.more m' hh) hk)
      | none =>
        refine h.verNew t' k ?_
        rcases Nat.lt_or_ge t' H.hi.length with q | q
        · simp [List.getElem?_eq_getElem q] at hh
        · exact q
    · rw [oldver _ _ (fun hx => hc hx.1)]
      exact h.verHi t' m k (by rw [← l.other t' hc]; exact ht) hk
  · by_cases hc : t' = t
    · subst hc
      rw [show ({ H with hi := hi' } : Hp).hi = hi' from rfl, l.at_] at hm
      cases hm
      refine ⟨w.heap.size, 0, cap, sz, cs, Ty, by simp [Gh.tokAt], hn, hsz, by simp [Gh.tokAt], heap_push_new, by omega, fun r hr => ?_⟩
      have := (h.locIn r _ hr).2; omega
    · refine (h.tok t' m (by rw [← l.other t' hc]; exact hm)).keep e fun b x hv => ?_
      have hlt := (h.verIn t' m b x hv).2
      exact ⟨heap_push_old hlt, old b hlt, fun _ => id⟩
  · by_cases c1 : t1 = t <;> by_cases c2 : t2 = t
    · omega
    · subst c1
      rw [show ({ H with hi := hi' } : Hp).hi = hi' from rfl, l.at_] at h1
      cases h1
      simp [Gh.tokAt] at v1
      rw [oldver _ _ (fun hx => c2 hx.1)] at v2
      have := (h.verIn _ _ _ _ v2).2; omega
    · subst c2
      rw [show ({ H with hi := hi' } : Hp).hi = hi' from rfl, l.at_] at h2
      cases h2
      simp [Gh.tokAt] at v2
      rw [oldver _ _ (fun hx => c1 hx.1)] at v1
      have := (h.verIn _ _ _ _ v1).2; omega
    · rw [oldver _ _ (fun hx => c1 hx.1)] at v1
      rw [oldver _ _ (fun hx => c2 hx.1)] at v2
      exact h.tokInj t1 t2 n1 n2 b x x' (by rw [← l.other t1 c1]; exact h1) (by rw [← l.other t2 c2]; exact h2) v1 v2
theorem WInv.tokGrow {W0 g H w} (h : WInv W0 g H w) {cs cs' : Array Value} {Ty t m n b o cap sz : Nat} (ht : H.hi[t]? = some m) (hmn : m < n) (hv : g.ver t m = some (b, o, cap, sz)) (hn : n ≤ cap)
    (hh : w.heap[b]? = some (.cells cs Ty (0, 0))) (hsz : cs'.size = cs.size) (hsame : ∀ j, j < o + m * sz → cs'[j]? = cs[j]?) :
    WInv W0 (g.tokAt t n b o cap sz) { H with hi := H.hi.set t n } (w.setRow b cs') ∧ Ext g w (g.tokAt t n b o cap sz) (w.setRow b cs') := by
  have l := later_set ht hmn
  have hnone := l.verNone h
  obtain ⟨b0, o0, cap0, sz0, cs0, Ty0, hv0, hn0, hs0, hp0, hh0, hc0, hl0⟩ := h.tok t m ht
  rw [hv] at hv0; cases hv0
  rw [hh] at hh0; cases hh0
  have hbin := h.verIn t m b _ hv
  have hle : o + m * sz ≤ o + n * sz := by have := Nat.mul_le_mul_right sz (Nat.le_of_lt hmn); omega
  have hrow := setRow_heap w b cs cs' Ty (0, 0) hh
  have hoth : ∀ c, c ≠ b → (w.setRow b cs').heap[c]? = w.heap[c]? := fun c hc => setRow_other w b c cs' hc
  have hnofro : g.fro b = false := by
    cases hf : g.fro b with
    | false => rfl
    | true => obtain ⟨_, _, es, cl, h3⟩ := h.fro b hf; rw [hh] at h3; cases h3
  have e : Ext g w (g.tokAt t n b o cap sz) (w.setRow b cs') := by
    refine ⟨by simp, fun c => ?_, fun c off v hpc hc => ?_, fun _ h => h, fun c hc => ?_, fun _ _ h => h, fun t' n' x hx => ?_⟩
    · simp only [Gh.tokAt]
      split
      · rename_i hb; subst hb; omega
      · exact Nat.le_refl _
    · by_cases hcb : c = b
      · subst hcb
        rw [cell_row hrow, hsame off (by omega)]
        rwa [cell_row hh] at hc
      · rw [cell_heap (hoth c hcb)]; exact hc
    · exact hoth c fun e => by subst e; rw [hnofro] at hc; cases hc
    · simp only [Gh.tokAt]
      split
      · rename_i hc; obtain ⟨rfl, rfl⟩ := hc; rw [hnone] at hx; cases hx
      · exact hx
  have old : ∀ c, c ≠ b → (g.tokAt t n b o cap sz).pub c = g.pub c := fun c hc => by simp [Gh.tokAt, hc]
  have oldver : ∀ t' n', ¬ (t' = t ∧ n' = n) → (g.tokAt t n b o cap sz).ver t' n' = g.ver t' n' := fun t' n' hne => by simp only [Gh.tokAt, if_neg hne]
  have sz' : (w.setRow b cs').heap.size = w.heap.size := by simp
  have hlast : H.hi.length = (H.hi.set t n).length := by simp
  refine ⟨⟨fun c hc => ?_, by rw [sz']; exact h.size, h.os, h.out, h.tape, fun c hc => ?_, fun c hc => ?_, fun c hc => ?_, by rw [sz']; exact h.locIn, h.locNew, h.inj, fun r x hx => ?_, fun t' m' c x hv' => ?_, fun t' m' ht' => ?_, fun t' m' k ht' hk => ?_, fun t' m' hm' => ?_, fun t1 t2 n1 n2 c x x' h1 h2 v1 v2 => ?_⟩, e⟩
  · rw [hoth c (by omega)]; exact h.base c hc
  · rw [old c (by omega)]; exact h.pubOld c hc
  · rw [sz'] at hc; rw [old c (by omega)]; exact h.pubNew c hc
  · obtain ⟨h1, h2, es, cl, h3⟩ := h.fro c hc
    exact ⟨h1, by rw [sz']; exact h2, es, cl, (hoth c fun e => by subst e; have hc' : g.fro c = true := hc; rw [hnofro] at hc'; cases hc').trans h3⟩
  · refine (h.obj r x hx).keep e fun c hc => ?_
    have hcb : c ≠ b := fun e => by subst e; exact hl0 r hc
    exact ⟨hoth c hcb, fun hp => (old c hcb).trans hp, id⟩
  · rw [sz']
    by_cases hc : t' = t ∧ m' = n
    · obtain ⟨rfl, rfl⟩ := hc
      simp [Gh.tokAt] at hv'
      obtain ⟨rfl, _⟩ := hv'
      exact hbin
    · rw [oldver _ _ hc] at hv'
      exact h.verIn t' m' c x hv'
  · obtain ⟨h1, h2⟩ := l.len t' ht'
    rw [oldver _ _ (by omega)]; exact h.verNew t' m' h1
  · by_cases hc : t' = t
    · subst hc
      rw [show ({ H with hi := H.hi.set t' n } : Hp).hi = H.hi.set t' n from rfl, l.at_] at ht'
      cases ht'
      rw [oldver _ _ (by omega)]
      exact h.verHi t' m k ht (Nat.lt_trans hmn hk)
    · rw [oldver _ _ (fun hx => hc hx.1)]
      exact h.verHi t' m' k (by rw [← l.other t' hc]; exact ht') hk
  · by_cases hc : t' = t
    · subst hc
      rw [show ({ H with hi := H.hi.set t' n } : Hp).hi = H.hi.set t' n from rfl, l.at_] at hm'
      cases hm'
      exact ⟨b, o, cap, sz, cs', Ty, by simp [Gh.tokAt], hn, hs0, by simp [Gh.tokAt], hrow, by omega, hl0⟩
    · have ht0 : H.hi[t']? = some m' := by rw [← l.other t' hc]; exact hm'
      refine (h.tok t' m' ht0).keep e fun c x hv' => ?_
      have hcb : c ≠ b := fun e => by subst e; exact hc (h.tokInj t' t m' m c x _ ht0 ht hv' hv)
      exact ⟨hoth c hcb, old c hcb, fun _ => id⟩
  · have back : ∀ t' n' (hn' : (H.hi.set t n)[t']? = some n') y, (g.tokAt t n b o cap sz).ver t' n' = some (c, y) → ∃ n0 y0, H.hi[t']? = some n0 ∧ g.ver t' n0 = some (c, y0) := by
      intro t' n' hn' y hy
      by_cases hc : t' = t
      · subst hc
        rw [l.at_] at hn'; cases hn'
        simp [Gh.tokAt] at hy
        obtain ⟨rfl, _⟩ := hy
        exact ⟨m, _, ht, hv⟩
      · rw [oldver _ _ (fun hx => hc hx.1)] at hy
        exact ⟨n', y, by rw [← l.other t' hc]; exact hn', hy⟩
    obtain ⟨p1, y1, q1, z1⟩ := back t1 n1 h1 x v1
    obtain ⟨p2, y2, q2, z2⟩ := back t2 n2 h2 x' v2
    exact h.tokInj t1 t2 p1 p2 c y1 y2 q1 q2 z1 z2
def restA (sz : Nat) : AV → Option (List (List AV))
  | .slnil => some []
  | .sl sz' es _ => if sz' = sz then some es else none
  | _ => none
def appendA (T : Tab) (H : Hp) (t t2 : TypeId) (s x : AV) : Option (AV × Hp) :=
  if t = t2 then
  match (T t).map (·.kind) with
  | some (TK.slice e) =>
    match T e with
    | none => none
    | some i =>
    match restA i.size s, restA i.size x with
    | some es, some fs =>
      if fs.isEmpty then some (s, H)
      else if 0 < i.size ∧ es.length + fs.length ≤ 67108864 then
        match s with
        | .slnil => some (.sl i.size fs (.tok H.hi.length), { H with hi := H.hi ++ [fs.length] })
        | .sl _ _ .capped => some (.sl i.size (es ++ fs) (.tok H.hi.length), { H with hi := H.hi ++ [es.length + fs.length] })
        | .sl _ _ (.tok k) => if H.hi[k]? = some es.length ∧ fs.all (·.all okCell) = true then some (.sl i.size (es ++ fs) (.tok k), { H with hi := H.hi.set k (es.length + fs.length) }) else none
        | _ => none
      else none
    | _, _ => none
  | _ => none
  else none
def sliceLies (w : World) (v : Value) (n : Nat) (us : List Value) : Prop :=
  (v = .slice none 0 0 ∧ n = 0 ∧ us = []) ∨ ∃ b o cap, v = .slice (some ⟨b, o, none⟩) n cap ∧ n ≤ cap ∧ ∀ j u, us[j]? = some u → w.cell? ⟨b, o + j, none⟩ = some u
theorem restA_val {g w sz a v es} (h : restA sz a = some es) (hv : VR g w a v) : ∃ us, RowsR g w sz es us ∧ sliceLies w v es.length us := by
  cases a <;> simp only [restA, reduceCtorEq] at h
  case slnil => cases h; cases hv; exact ⟨[], rfl, .inl ⟨rfl, rfl, rfl⟩⟩
  case sl sz' es' own =>
    split at h
    · rename_i e; subst e; cases h
      rcases hv with ⟨rfl, _, rfl⟩ | ⟨b, o, cap, rfl, hc, _, hER⟩
      · exact ⟨[], rfl, .inl ⟨rfl, rfl, rfl⟩⟩
      obtain ⟨us, h1, h2⟩ := hER.rows
      exact ⟨us, h1, .inr ⟨b, o, cap, rfl, hc, h2⟩⟩
    · cases h
theorem zeroCells_size (z : Array Value) (n : Nat) : (Builtin.zeroCells z n).size = n * z.size := by simp [Builtin.zeroCells]
theorem okRows_one {g w sz} : ∀ {es : List (List AV)} {us : List Value}, es.all (·.all okCell) = true → RowsR g w sz es us → ∀ v ∈ us, v.oneCell' = true
  | [], _, _, h => by cases h; simp
  | e :: es, _, h, ⟨vs, us', rfl, _, h1, h2⟩ => by
    simp only [List.all_cons, Bool.and_eq_true] at h
    intro u hu
    rcases List.mem_append.1 hu with hu | hu
    · exact okCells_one h.1 h1 u hu
    · exact okRows_one h.2 h2 u hu
theorem run_append_room' {w : World} (t ty e : TypeId) (i : TypeInfo) (ht : P.underlying t = some (.slice e)) (hi : P.info? e = some i)
    (g o sLen sCap : Nat) (cur : Array Value) (hg : w.heap[g]? = some (.cells cur e (0, 0)) ∨ ∃ T, w.heap[g]? = some (.cells cur T (0, 0)))
    (a : Addr) (m c : Nat) (news : List Value) (hl : news.length = m * i.size) (hnews : ∀ j u, news[j]? = some u → w.cell? (a.add j) = some u) (h1 : ∀ u ∈ news, u.oneCell' = true)
    (hroom : sLen + m ≤ sCap) (hfit : o + sLen * i.size + news.length ≤ cur.size) :
    (Builtin.append_ #[t, t] ty #[.slice (some ⟨g, o, none⟩) sLen sCap, .slice (some a) m c]).run P w =
      .ok (.slice (some ⟨g, o, none⟩) (sLen + m) sCap) (w.setRow g (cur.toList.take (o + sLen * i.size) ++ news ++ cur.toList.drop (o + sLen * i.size + news.length)).toArray) := by
  obtain ⟨T, hg⟩ : ∃ T, w.heap[g]? = some (.cells cur T (0, 0)) := by
    rcases hg with h | h
    · exact ⟨_, h⟩
    · exact h
  have hf := run_firstCells_some (P := P) w i.size m a m c news hl hnews
  have hst := run_storeCells_at P g (o + sLen * i.size) T news 0 cur w hg (by simpa using hfit) h1
  simp only [Nat.add_zero] at hst
  simp [Builtin.append_, run_underlying ht, sizeOf, typeInfo, hi, Builtin.lenOf, hroom, hf, add_plain, hst]
theorem append_empty {w : World} {t ty e : TypeId} {i : TypeInfo} (ht : P.underlying t = some (.slice e)) (hi : P.info? e = some i) {base base2 : Option Addr} {n cap c2 : Nat} (hn : n ≤ cap)
    (h2 : base2 = none ∨ ∃ a, base2 = some a) : (Builtin.append_ #[t, t] ty #[.slice base n cap, .slice base2 0 c2]).run P w = .ok (.slice base n cap) w := by
  rcases h2 with rfl | ⟨a, rfl⟩
  · cases base <;> simp [Builtin.append_, run_underlying ht, sizeOf, typeInfo, hi, Builtin.lenOf, hn, Builtin.firstCells, storeCells]
  · cases base <;> simp [Builtin.append_, run_underlying ht, sizeOf, typeInfo, hi, Builtin.lenOf, hn, Builtin.firstCells, storeCells, loadCells, loadCellsFrom]
theorem appendA_sound {st : St} {o : Oper} {c : Call} {t t2 : TypeId} {s x : Operand} {r : AV} {H' : Hp} (hT : TabOK P T) (ho : o.op = .call c) (hc : c.callee = .builtin .append)
    (hts : c.argTypes = #[t, t2]) (hxs : c.args = #[s, x]) (h : appendA T st.H t t2 (st.eval s) (st.eval x) = some (r, H')) : HeapStep P W0 o st r H' := by
  intro g w a hr
  have hrun : ∀ v w', (Builtin.append_ #[t, t2] o.type #[a.eval s, a.eval x]).run P w = .ok v w' → (execOp a.eval o).run P w = .ok (.value v) w' := by
    intro v w' hh
    unfold execOp; rw [ho]
    simp [resolve, hc, hts, hxs, invoke, builtin, hh]
  unfold appendA at h
  split at h
  · rename_i htt; subst htt
    split at h
    · rename_i e hkind
      obtain ⟨i, hi, hkind⟩ := Option.map_eq_some_iff.1 hkind
      obtain ⟨d, hd, hkd⟩ := (hT t i hi).kind
      rw [hkind] at hkd; cases hkd
      split at h
      · cases h
      · rename_i ei hei
        obtain ⟨ti, hti, hsz, hbytes, hzero, hzl, _⟩ := (hT e ei hei).info
        have hzs : (zval ei).cells.size = ei.size := by
          have := congrArg List.length (zval_cells hT hei)
          simpa [hzl] using this
        split at h
        · rename_i es fs hes hfs
          obtain ⟨us, hus, hsat⟩ := restA_val hes (hr.eval s)
          obtain ⟨vs, hvs, hxat⟩ := restA_val hfs (hr.eval x)
          have hul := hus.length
          have hvl := hvs.length
          split at h
          · rename_i hemp
            have hfs0 : fs = [] := by simpa using hemp
            subst hfs0
            cases h
            have hv := hr.eval s
            refine ⟨a.eval s, w, g, .inl (hrun _ _ ?_), .refl _ _, hr.inv, hv⟩
            rcases hsat with ⟨e1, _, _⟩ | ⟨b, oo, cap, e1, hle, _⟩ <;> rcases hxat with ⟨e2, _, _⟩ | ⟨b2, oo2, cap2, e2, _, _⟩ <;> rw [e1, e2]
            · exact append_empty hd hti (Nat.le_refl _) (.inl rfl)
            · exact append_empty hd hti (Nat.le_refl _) (.inr ⟨_, rfl⟩)
            · exact append_empty hd hti hle (.inl rfl)
            · exact append_empty hd hti hle (.inr ⟨_, rfl⟩)
          · rename_i hne
            have hfpos : 0 < fs.length := by
              cases fs with
              | nil => simp at hne
              | cons _ _ => simp
            split at h
            · rename_i hlim
              obtain ⟨hsp, hlim⟩ := hlim
              obtain ⟨b2, o2, cap2, ex, hle2, hxc⟩ : ∃ b o cap, a.eval x = .slice (some ⟨b, o, none⟩) fs.length cap ∧ fs.length ≤ cap ∧ ∀ j u, vs[j]? = some u → w.cell? ⟨b, o + j, none⟩ = some u := by
                rcases hxat with ⟨_, h0, _⟩ | h
                · omega
                · exact h
              have hxc' : ∀ j u, vs[j]? = some u → w.cell? ((⟨b2, o2, none⟩ : Addr).add j) = some u := fun j u hj => by rw [add_plain]; exact hxc j u hj
              have newArr : ∀ (n : Nat) (es0 : List (List AV)) (us0 : List Value) (k : Nat) (hi' : List Nat) (capN : Nat) (news : Array Value), RowsR g w ei.size es0 us0 → n = es0.length → Later st.H.hi hi' k n → n ≤ capN →
                  news = us0.toArray ++ Builtin.zeroCells (zval ei).cells (capN - n) →
                  ∃ g', Ext g w g' (w.drew.alloc (.cells news e)) ∧ WInv W0 g' { st.H with hi := hi' } (w.drew.alloc (.cells news e)) ∧
                    VR g' (w.drew.alloc (.cells news e)) (.sl ei.size es0 (.tok k)) (.slice (some ⟨w.heap.size, 0, none⟩) n capN) := by
                intro n es0 us0 k hi' capN news hrows hn hl hcap hnews
                obtain ⟨i1, e1⟩ := hr.inv.drawn (w.drawn + 1)
                have hlen := hrows.length
                have hsize : news.size = capN * ei.size := by
                  have e0 : capN * ei.size = n * ei.size + (capN - n) * ei.size := by rw [← Nat.add_mul]; congr 1; omega
                  rw [hnews]; simp only [Array.size_append, zeroCells_size, hzs, List.size_toArray, hlen, ← hn]; omega
                obtain ⟨i2, e2⟩ := WInv.tokNew (cs := news) (Ty := e) i1 hl hsp hcap hsize
                refine ⟨_, e1.trans e2, i2, .inr ⟨w.heap.size, 0, capN, by rw [hn], by rw [← hn]; exact hcap, by rw [← hn]; simp [OwnOK, Gh.tokAt], ?_⟩⟩
                refine (hrows.mono (e1.trans e2)).er (heap_push_new (w := w.drew)) (fun j u hj => ?_) (by simp [Gh.tokAt, ← hn])
                rw [Nat.zero_add, hnews, ← Array.getElem?_toList]
                simp only [Array.toList_append]
                rw [List.getElem?_append_left (by
                  rcases Nat.lt_or_ge j us0.length with q | q
                  · exact q
                  · simp [List.getElem?_eq_none q] at hj)]
                exact hj
              have hfit : ∀ old, old < es.length + fs.length → Builtin.nextslicecap (es.length + fs.length) old * ti.bytes ≤ 281474976710656 := fun old hold =>
                growslice_fits hold (by
                  have : (es.length + fs.length) * ti.bytes ≤ 67108864 * 1048576 := Nat.mul_le_mul hlim hbytes
                  omega)
              cases hsv : st.eval s <;> rw [hsv] at h hes <;> (try simp only [reduceCtorEq] at h)
              case slnil =>
                cases h
                simp only [restA] at hes
                cases hes
                have es0 : a.eval s = .slice none 0 0 := by have := hr.eval s; rw [hsv] at this; exact this
                have hrunA := run_append_nil (P := P) w t o.type e ti (zval ei) hd hti (by rw [hzero]; rfl) ⟨b2, o2, none⟩ fs.length cap2 vs (by rw [hvl, hsz]) hxc' hfpos (by simp at hlim; omega) (by
                  have : fs.length * ti.bytes ≤ 67108864 * 1048576 := Nat.mul_le_mul (by simpa using hlim) hbytes
                  omega)
                obtain ⟨g', e1, i1, v1⟩ := newArr fs.length fs vs st.H.hi.length (st.H.hi ++ [fs.length]) (grownCap w fs.length 0 e) _ hvs rfl (later_new _ _) (grownCap_ge _ _ _ _) rfl
                exact ⟨_, _, g', .inl (hrun _ _ (by rw [es0, ex]; exact hrunA)), e1, i1, v1⟩
              case sl sz' es' own =>
                simp only [restA] at hes
                split at hes
                · rename_i hszz; subst hszz
                  cases hes
                  have hv := hr.eval s
                  rw [hsv] at hv
                  generalize hva : a.eval s = va at hv
                  rcases hv with ⟨rfl, hfree, rfl⟩ | ⟨b, oo, cap, rfl, hcap, hown, hER⟩
                  · cases own with
                    | tok k => exact hfree.elim
                    | shut => cases h
                    | capped =>
                      cases h
                      have hrunA := run_append_nil (P := P) w t o.type e ti (zval ei) hd hti (by rw [hzero]; rfl) ⟨b2, o2, none⟩ fs.length cap2 vs (by rw [hvl, hsz]) hxc' hfpos (by simp at hlim; omega) (by
                        have : fs.length * ti.bytes ≤ 67108864 * 1048576 := Nat.mul_le_mul (by simpa using hlim) hbytes
                        omega)
                      obtain ⟨g', e1, i1, v1⟩ := newArr fs.length fs vs st.H.hi.length (st.H.hi ++ [fs.length]) (grownCap w fs.length 0 e) _ hvs rfl (later_new _ _) (grownCap_ge _ _ _ _) rfl
                      exact ⟨_, _, g', .inl (hrun _ _ (by rw [hva, ex]; exact hrunA)), e1, by simpa using i1, by simpa using v1⟩
                  have es0 := hva
                  have huc : ∀ j u, us[j]? = some u → w.cell? ((⟨b, oo, none⟩ : Addr).add j) = some u := by
                    rcases hsat with ⟨e1, _, _⟩ | ⟨b', o', cap', e1, _, hc'⟩
                    · rw [es0] at e1; cases e1
                    · rw [es0] at e1; cases e1
                      intro j u hj; rw [add_plain]; exact hc' j u hj
                  have grow : cap < es.length + fs.length → ∀ (k : Nat) (hi' : List Nat), Later st.H.hi hi' k (es.length + fs.length) →
                      ∃ v w' g', (execOp a.eval o).run P w = .ok (.value v) w' ∧ Ext g w g' w' ∧ WInv W0 g' { st.H with hi := hi' } w' ∧ VR g' w' (.sl ei.size (es ++ fs) (.tok k)) v := by
                    intro hlt k hi' hl
                    have hrunA := run_append_grow (P := P) w t o.type e ti (zval ei) hd hti (by rw [hzero]; rfl) ⟨b, oo, none⟩ es.length cap us (by rw [hul, hsz]) huc ⟨b2, o2, none⟩ fs.length cap2 vs (by rw [hvl, hsz]) hxc' hlt (by omega) (hfit cap hlt)
                    obtain ⟨g', e1, i1, v1⟩ := newArr (es.length + fs.length) (es ++ fs) (us ++ vs) k hi' (grownCap w (es.length + fs.length) cap e) _ (hus.append hvs) (by simp) hl (grownCap_ge _ _ _ _) rfl
                    refine ⟨_, _, g', hrun _ _ ?_, e1, i1, v1⟩
                    rw [es0, ex, hrunA]; simp
                  cases own with
                  | capped =>
                    cases h
                    have hcapn : cap = es.length := hown
                    obtain ⟨v, w', g', h1, h2⟩ := grow (by omega) _ _ (later_new _ _)
                    exact ⟨v, w', g', .inl h1, h2⟩
                  | shut => cases h
                  | tok k =>
                    simp only at h
                    split at h
                    · rename_i hk
                      obtain ⟨hk, hok⟩ := hk
                      cases h
                      by_cases hlt : cap < es.length + fs.length
                      · obtain ⟨v, w', g', h1, h2⟩ := grow hlt k _ (later_set hk (by omega))
                        exact ⟨v, w', g', .inl h1, h2⟩
                      · -- in its place
                        obtain ⟨b0, o0, cap0, sz0, cs, Ty, hv0, hn0, hs0, hp0, hh0, hc0, hl0⟩ := hr.inv.tok k _ hk
                        have hown' : g.ver k es.length = some (b, oo, cap, ei.size) := hown
                        rw [hown'] at hv0; cases hv0
                        have e1 : (es.length + fs.length) * ei.size = es.length * ei.size + fs.length * ei.size := Nat.add_mul ..
                        have e2 : (es.length + fs.length) * ei.size ≤ cap * ei.size := Nat.mul_le_mul_right _ (by omega)
                        have hrunA := run_append_room' (P := P) t o.type e ti hd hti b oo es.length cap cs (.inr ⟨Ty, hh0⟩) ⟨b2, o2, none⟩ fs.length cap2 vs (by rw [hvl, hsz]) hxc' (okRows_one hok hvs) (by omega) (by rw [hvl, hsz]; omega)
                        rw [hsz] at hrunA
                        have hnewlen : (cs.toList.take (oo + es.length * ei.size) ++ vs ++ cs.toList.drop (oo + es.length * ei.size + vs.length)).length = cs.size := by simp; omega
                        have hget : ∀ j, j < oo + es.length * ei.size → (cs.toList.take (oo + es.length * ei.size) ++ vs ++ cs.toList.drop (oo + es.length * ei.size + vs.length))[j]? = cs[j]? := by
                          intro j hj
                          rw [List.append_assoc, List.getElem?_append_left (by simp; omega), List.getElem?_take, if_pos hj]
                          simp
                        obtain ⟨i1, x1⟩ := hr.inv.tokGrow (n := es.length + fs.length) (cs' := (cs.toList.take (oo + es.length * ei.size) ++ vs ++ cs.toList.drop (oo + es.length * ei.size + vs.length)).toArray) hk (by omega) hown' (by omega) hh0 (by simpa using hnewlen) (fun j hj => by simpa using hget j hj)
                        refine ⟨_, _, _, .inl (hrun _ _ (by rw [es0, ex]; exact hrunA)), x1, i1, .inr ⟨b, oo, cap, by simp, by simp; omega, by simp [OwnOK, Gh.tokAt], ?_⟩⟩
                        refine ((hus.append hvs).mono x1).er (setRow_heap w b cs _ Ty (0, 0) hh0) (fun j u hj => ?_) (by simp [Gh.tokAt])
                        by_cases hju : j < us.length
                        · rw [List.getElem?_append_left hju] at hj
                          have := huc j u hj
                          rw [add_plain, cell_row hh0] at this
                          rw [← this]
                          simpa using hget (oo + j) (by omega)
                        · rw [List.getElem?_append_right (by omega)] at hj
                          have hjv : j - us.length < vs.length := by
                            rcases Nat.lt_or_ge (j - us.length) vs.length with q | q
                            · exact q
                            · simp [List.getElem?_eq_none q] at hj
                          have : (cs.toList.take (oo + es.length * ei.size) ++ vs ++ cs.toList.drop (oo + es.length * ei.size + vs.length))[oo + j]? = some u := by
                            rw [List.append_assoc, List.getElem?_append_right (by simp; omega), List.getElem?_append_left (by simp; omega), ← hj]
                            congr 1
                            simp; omega
                          simpa using this
                    · cases h
                · cases hes
            · cases h
        · cases h
    · cases h
  · cases h
end
end Go.Av
namespace Go.Av
section
variable {P : Program} {T : Tab} {W0 : World}
def wantA (ops : Array Oper) (st : St) (o : Oper) : Option Bool :=
  match o.guard with
  | none => some true
  | some (j, want) =>
    match (ops[j]?).bind (·.dst) with
    | none => some false
    | some d =>
      if d < st.n then
        match look st.env d with
        | .bool b => some (b == want)
        | .any => none
        | _ => some false
      else some false
theorem wantA_sound {g w a} {st : St} {ops : Array Oper} {o : Oper} {b : Bool} (h : wantA ops st o = some b) (hr : Rel W0 g w a st) :
    Region.wanted o (yielded ops a.tmps) = b := by
  unfold wantA at h
  unfold Region.wanted
  split at h
  · rename_i hg; rw [hg]; cases h; rfl
  · rename_i j want hg
    rw [hg]
    simp only
    unfold yielded
    split at h
    · rename_i hd
      rw [hd]; cases h; simp
    · rename_i d hd
      rw [hd]
      split at h
      · rename_i hlt
        have hv := hr.fr d
        have hsz : d < a.tmps.size := by rw [hr.size]; exact hlt
        have hget : a.tmps[d]? = some (a.tmps.getD d undef) := by
          simp [Array.getD_eq_getD_getElem?, Array.getElem?_eq_getElem hsz]
        simp only [Option.bind_some, hget]
        generalize a.tmps.getD d undef = v at hv ⊢
        split at h
        · rename_i b' hb
          rw [hb] at hv; cases hv; cases h
          cases b' <;> cases want <;> rfl
        · cases h
        · rename_i hnb hna
          cases h
          cases hq : look st.env d <;> rw [hq] at hv <;> simp only [VR] at hv
          case any => exact absurd hq hna
          case bool x => exact absurd hq (hnb x)
          case sl =>
            cases hv with
            | inl h => obtain ⟨_, _, rfl⟩ := h; simp
            | inr h => obtain ⟨b, o, c, rfl, _⟩ := h; simp
          all_goals first
            | (subst hv; simp [strV]; done)
            | (obtain ⟨b, o, rfl, _⟩ := hv; simp; done)
            | (obtain ⟨b, _, rfl⟩ := hv; simp; done)
            | (obtain ⟨b, rfl, _⟩ := hv; simp; done)
            | (obtain ⟨b, o, c, rfl, _⟩ := hv; simp; done)
      · rename_i hge
        have : a.tmps[d]? = none := Array.getElem?_eq_none (by rw [hr.size]; exact Nat.le_of_not_lt hge)
        simp only [Option.bind_some, this]
        cases h; simp
def Runs (P : Program) (r : Result Next) (K : Value → World → Prop) : Prop :=
  match r with
  | .ok (.value v) w => K v w
  | .ok .skip w => K undef w
  | .ok (.enter f args) w => Calls P f args w fun e w' => ∃ v, e = .returned v ∧ K v w'
  | _ => False
def AEff (P : Program) (W0 : World) (ops : Array Oper) (o : Oper) (st : St) (K : Hp → AV → Prop) : Prop :=
  ∀ g w a, Rel W0 g w a st →
    (Region.wanted o (yielded ops a.tmps) = false ∧ K st.H (.tuple [])) ∨
    (Region.wanted o (yielded ops a.tmps) = true ∧ Runs P ((execOp a.eval o).run P w) fun v w' => ∃ g' y H', Ext g w g' w' ∧ WInv W0 g' H' w' ∧ VR g' w' y v ∧ K H' y)
theorem Runs.mono {r : Result Next} {K K' : Value → World → Prop} (h : Runs P r K) (k : ∀ v w, K v w → K' v w) : Runs P r K' := by
  unfold Runs at *
  split at h
  · exact k _ _ h
  · exact k _ _ h
  · exact h.mono fun _ _ ⟨v, e, q⟩ => ⟨v, e, k _ _ q⟩
  · exact h
variable {ops : Array Oper} {rest : List Oper} {st : St} {Q : Exit → St → Prop} {o : Oper}
theorem AEff.mono {K K' : Hp → AV → Prop} (h : AEff P W0 ops o st K) (k : ∀ H y, K H y → K' H y) : AEff P W0 ops o st K' := by
  intro g w a r
  rcases h g w a r with ⟨hw, q⟩ | ⟨hw, q⟩
  · exact .inl ⟨hw, k _ _ q⟩
  · exact .inr ⟨hw, q.mono fun v w' ⟨g', y, H', e, i, hv, q⟩ => ⟨g', y, H', e, i, hv, k _ _ q⟩⟩
theorem aeff_skip {K : Hp → AV → Prop} (hw : wantA ops st o = some false) (h : K st.H (.tuple [])) : AEff P W0 ops o st K :=
  fun _ _ _ r => .inl ⟨wantA_sound hw r, h⟩
theorem aeff_heap {K : Hp → AV → Prop} {x : AV} {H' : Hp} (hw : wantA ops st o = some true) (hs : HeapStep P W0 o st x H') (h : K H' x) : AEff P W0 ops o st K := by
  intro g w a r
  refine .inr ⟨wantA_sound hw r, ?_⟩
  obtain ⟨v, w', g', hrun, e', i', hv⟩ := hs g w a r
  rcases hrun with hrun | ⟨rfl, hrun⟩ <;> rw [hrun] <;> exact ⟨g', x, H', e', i', hv, h⟩
theorem pureA_heap {x : AV} (hT : TabOK P T) (h : pureA T st o.op = some x) : HeapStep P W0 o st x st.H := by
  intro g w a r
  obtain ⟨v, h1, h2⟩ := pureA_sound hT h r
  exact ⟨v, w, g, .inl h1, .refl _ _, r.inv, h2⟩
def enters (P : Program) (f : FuncId) : Prop := ∃ fn, P.funcs[f]? = some fn ∧ fn.name ≠ "runtime.NumGoroutine" ∧ fn.body ≠ none
theorem aeff_call {K : Hp → AV → Prop} {c : Call} {x : Operand} {f : FuncId} {caps : List AV} (hw : wantA ops st o = some true) (ho : o.op = .call c) (hc : c.callee = .value x) (hf : st.eval x = .fn f caps) (hen : enters P f)
    (h : SF P W0 f (c.args.toList.map st.eval ++ caps) st.H fun r H' => K H' r) : AEff P W0 ops o st K := by
  intro g w a r
  refine .inr ⟨wantA_sound hw r, ?_⟩
  obtain ⟨fn, hfn, hname, hbody⟩ := hen
  have hx := r.eval x
  rw [hf] at hx
  obtain ⟨vs, ex, har⟩ := hx
  have hrun : (execOp a.eval o).run P w = .ok (.enter f (c.args.map a.eval ++ vs)) w := by
    unfold execOp; rw [ho]
    simp only [resolve, hc, ex, Deferred.ofValue]
    simp [invoke, callFunc, hfn, hname, hbody]
  rw [hrun]
  have hargs : AR g w (c.args.toList.map st.eval ++ caps) (c.args.map a.eval ++ vs).toList := by
    rw [Array.toList_append, Array.toList_map]
    exact (evals_rel r _).append har
  refine (h g w _ r.inv hargs).mono ?_
  rintro en w' ⟨v, g', x', H', rfl, hq, e', i', hv⟩
  exact ⟨v, rfl, g', x', H', e', i', hv, hq⟩
theorem AEff.wp {K : Hp → AV → Prop} {R : Act → World → Prop} {g w a} (h : AEff P W0 ops o st K) (r : Rel W0 g w a st) {Qc : Exit → Act → World → Prop}
    (hr : ∀ g' w' v H' y, Ext g w g' w' → Rel W0 g' w' (a.put o.dst v) (St.put { st with H := H' } o.dst y) → K H' y → R (a.put o.dst v) w') :
    if Region.wanted o (yielded ops a.tmps) then o.wp P a w R Qc else R (a.put o.dst undef) w := by
  rcases h g w a r with ⟨hw, q⟩ | ⟨hw, q⟩
  · rw [hw]
    simp only [Bool.false_eq_true, if_false]
    exact hr g w undef st.H _ (.refl _ _) (r.put VR.undef o.dst) q
  · rw [hw]
    simp only [if_true]
    unfold Oper.wp
    generalize (execOp a.eval o).run P w = rr at q ⊢
    unfold Runs at q
    split at q
    · rename_i v w'
      obtain ⟨g', y, H', e, i, hv, k⟩ := q
      exact hr g' w' v H' y e ((r.step e i).put hv o.dst) k
    · rename_i w'
      obtain ⟨g', y, H', e, i, hv, k⟩ := q
      exact hr g' w' undef H' y e ((r.step e i).put hv o.dst) k
    · rename_i f args w'
      simp only [Oper.upon]
      refine q.mono ?_
      rintro en w'' ⟨v, rfl, g', y, H', e, i, hv, k⟩
      exact hr g' w'' v H' y e ((r.step e i).put hv o.dst) k
    · exact q.elim
def AOps (P : Program) (W0 : World) (ops : Array Oper) (l : List Oper) (st : St) (Q : Exit → St → Prop) : Prop :=
  ∀ g0 w0 g w a, Ext g0 w0 g w → Rel W0 g w a st → wpList P ops (Post W0 Q g0 w0) l a w
theorem awp_region {id : Nat} {l : List Oper} (h : AOps P W0 l.toArray l st Q) : AWP P W0 (.region id l.toArray false) st Q :=
  fun g w a r => wp_region_lit (h g w g w a (.refl _ _) r)
theorem aops_nil (h : Q .normal st) : AOps P W0 ops [] st Q :=
  fun _ _ g w _ e r => wpList_nil ⟨g, st, h, e, r⟩
theorem aops_cons (h : AEff P W0 ops o st fun H' y => AOps P W0 ops rest (St.put { st with H := H' } o.dst y) Q) : AOps P W0 ops (o :: rest) st Q := by
  intro g0 w0 g w a e r
  refine wpList_step fun K hK => ?_
  exact h.wp r fun g' w' v H' y e' r' k => hK _ _ (k g0 w0 g' w' _ (e.trans e') r')
def stepA (T : Tab) (mu : TypeId → Bool) (ops : Array Oper) (st : St) (o : Oper) : Option (Hp × AV) :=
  match wantA ops st o with
  | some false => some (st.H, .tuple [])
  | none => none
  | some true =>
    match o.op with
    | .store t p x => (storeA T st.H t (st.eval p) (st.eval x)).map fun H => (H, .tuple [])
    | .box t x => (boxA mu st.H t (st.eval x)).map fun r => (r.2, r.1)
    | .alloc t => (allocA T st.H t).map fun r => (r.2, r.1)
    | .buildSlice t n ps => (sliceLitA T t n (ps.toList.map fun p => (p.1, st.eval p.2))).map fun r => (st.H, r)
    | .makeMap _ none => some ((mapA st.H).2, (mapA st.H).1)
    | .makeSlice t x y => (makeA T st.H t (st.eval x) (st.eval y)).map fun r => (r.2, r.1)
    | .lookup t m k ok => (lookA T st.H t (st.eval m) (st.eval k) ok).map fun r => (st.H, r)
    | .mapUpdate t m k v => (putA T st.H t (st.eval m) (st.eval k) (st.eval v)).map fun H => (H, .tuple [])
    | .range t x => (rangeA T st.H t (st.eval x)).map fun r => (r.2, r.1)
    | .next x true => (nextA st.H (st.eval x)).map fun r => (r.2, r.1)
    | .call { callee := .builtin .append, args := ⟨[s, x]⟩, argTypes := ⟨[t, t2]⟩ } => (appendA T st.H t t2 (st.eval s) (st.eval x)).map fun r => (r.2, r.1)
    | op => (pureA T st op).map fun r => (st.H, r)
theorem aeff_step {mu : TypeId → Bool} {K : Hp → AV → Prop} {H' : Hp} {y : AV} (hT : TabOK P T) (hs : stepA T mu ops st o = some (H', y)) (h : K H' y) : AEff P W0 ops o st K := by
  unfold stepA at hs
  split at hs
  · rename_i hw; cases hs; exact aeff_skip hw h
  · cases hs
  · rename_i hw
    split at hs
    · rename_i t p x ho
      obtain ⟨H, h1, h2⟩ := Option.map_eq_some_iff.1 hs; cases h2
      exact aeff_heap hw (storeA_sound hT ho h1) h
    · rename_i t x ho
      obtain ⟨r, h1, h2⟩ := Option.map_eq_some_iff.1 hs; cases h2
      exact aeff_heap hw (boxA_sound ho h1) h
    · rename_i t ho
      obtain ⟨r, h1, h2⟩ := Option.map_eq_some_iff.1 hs; cases h2
      exact aeff_heap hw (allocA_sound hT ho h1) h
    · rename_i t n ps ho
      obtain ⟨r, h1, h2⟩ := Option.map_eq_some_iff.1 hs; cases h2
      exact aeff_heap hw (sliceLitA_sound hT ho h1) h
    · rename_i t ho
      cases hs
      exact aeff_heap hw (mapA_sound ho) h
    · rename_i t x y ho
      obtain ⟨r, h1, h2⟩ := Option.map_eq_some_iff.1 hs; cases h2
      exact aeff_heap hw (makeA_sound hT ho h1) h
    · rename_i t m k ok ho
      obtain ⟨r, h1, h2⟩ := Option.map_eq_some_iff.1 hs; cases h2
      refine aeff_heap hw (H' := st.H) (fun g w a r' => ?_) h
      obtain ⟨z, h2, h3⟩ := lookA_sound (P := P) hT r'.inv h1 (r'.eval m) (r'.eval k)
      refine ⟨z, w, g, .inl ?_, .refl _ _, r'.inv, h3⟩
      unfold execOp; rw [ho]; simp [h2]
    · rename_i t m k v ho
      obtain ⟨H, h1, h2⟩ := Option.map_eq_some_iff.1 hs; cases h2
      exact aeff_heap hw (putA_sound hT ho h1) h
    · rename_i t x ho
      obtain ⟨r, h1, h2⟩ := Option.map_eq_some_iff.1 hs; cases h2
      exact aeff_heap hw (rangeA_sound hT ho h1) h
    · rename_i x ho
      obtain ⟨r, h1, h2⟩ := Option.map_eq_some_iff.1 hs; cases h2
      exact aeff_heap hw (nextA_sound ho h1) h
    · rename_i s x t t2 ho
      obtain ⟨r, h1, h2⟩ := Option.map_eq_some_iff.1 hs; cases h2
      exact aeff_heap hw (appendA_sound (t := t) (t2 := t2) (s := s) (x := x) hT ho rfl rfl rfl h1) h
    · obtain ⟨r, h1, h2⟩ := Option.map_eq_some_iff.1 hs; cases h2
      exact aeff_heap hw (pureA_heap hT h1) h
theorem aops_step {mu : TypeId → Bool} {H' : Hp} {y : AV} (hT : TabOK P T) (hs : stepA T mu ops st o = some (H', y)) (h : AOps P W0 ops rest (St.put { st with H := H' } o.dst y) Q) : AOps P W0 ops (o :: rest) st Q :=
  aops_cons (aeff_step hT hs h)
theorem aops_call {c : Call} {x : Operand} {f : FuncId} {caps : List AV} (hw : wantA ops st o = some true) (ho : o.op = .call c) (hc : c.callee = .value x) (hf : st.eval x = .fn f caps) (hen : enters P f)
    (h : SF P W0 f (c.args.toList.map st.eval ++ caps) st.H fun r H' => AOps P W0 ops rest (St.put { st with H := H' } o.dst r) Q) : AOps P W0 ops (o :: rest) st Q :=
  aops_cons (aeff_call hw ho hc hf hen h)
end
end Go.Av
