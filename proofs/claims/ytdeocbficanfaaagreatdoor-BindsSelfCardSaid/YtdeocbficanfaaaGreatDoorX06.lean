/-
  Go read by value: lemmas (part 6): A6.
-/
import Derived.Laws.Cover4
import Derived.Laws.BytesString
import Derived.Test.YtdeocbficanfaaaGreatDoorX05
set_option linter.unusedVariables false
set_option linter.unusedSimpArgs false
set_option linter.unusedSectionVars false
namespace Go.Av
def nums (k : IntKind) : List (List AV) → Option (List Int)
  | [] => some []
  | [.int k' n] :: es => if k' = k then (nums k es).map (n :: ·) else none
  | _ => none
def convA (T : Tab) (s d : TypeId) (x : AV) : Option AV :=
  match (T s).map (·.kind), (T d).map (·.kind), x with
  | some (TK.int _), some (TK.int k), .int _ n => some (.int k (k.wrap n))
  | some TK.str, some TK.str, .str s => some (.str s)
  | some (TK.slice e), some TK.str, .sl sz es _ =>
    if sz = 1 then
      match (T e).map (·.kind) with
      | some (TK.int .i32) => (nums .i32 es).map fun ns => .str (ns.flatMap fun n => (Utf8.encode n).data.toList)
      | some (TK.int .u8) => (nums .u8 es).map fun ns => .str (ns.map fun n => UInt8.ofNat n.toNat)
      | _ => none
    else none
  | _, _, _ => none
def fillA (fs : List (Nat × Nat × Bool)) (cells : List AV) : List (Nat × AV) → Option (List AV)
  | [] => some cells
  | (i, v) :: rest =>
    match fs[i]?, cellsA v with
    | some (off, sz, _), some vs => if vs.length = sz ∧ off + sz ≤ cells.length then fillA fs (cells.take off ++ vs ++ cells.drop (off + sz)) rest else none
    | _, _ => none
def buildA (T : Tab) (t : TypeId) (parts : List (Nat × AV)) : Option AV :=
  (T t).bind fun i =>
  match i.kind with
  | .struct fs => (fillA fs (i.zero.map ZC.av) parts).map .agg
  | _ => none
def pairsR (g : Gh) (w : World) (as : List (Nat × AV)) (vs : List (Nat × Value)) : Prop :=
  as.length = vs.length ∧ ∀ (j i : Nat) (a : AV), as[j]? = some (i, a) → ∃ v, vs[j]? = some (i, v) ∧ VR g w a v
section
variable {P : Program} {T : Tab} {W0 : World} {g : Gh} {w : World}
theorem nums_vals {k : IntKind} {b : Nat} : ∀ {es : List (List AV)} {o : Nat} {ns : List Int}, nums k es = some ns → ER g w b 1 o es →
    ns.length = es.length ∧ ∀ j v, (ns.map (Value.int k))[j]? = some v → w.cell? ⟨b, o + j, none⟩ = some v
  | [], _, ns, h, _ => by cases h; simp
  | [.int k' n] :: es, o, ns, h, hr => by
    simp only [nums] at h
    split at h
    · rename_i e; subst e
      obtain ⟨ns', hns, rfl⟩ := Option.map_eq_some_iff.1 h
      obtain ⟨h1, h2⟩ := nums_vals hns hr.2.2
      refine ⟨by simp [h1], fun j v hj => ?_⟩
      cases j with
      | zero =>
        obtain ⟨⟨u, hu, _, e⟩, _⟩ := hr.2.1
        simp at hj
        rw [← hj, ← e]; simpa using hu
      | succ j =>
        rw [show o + (j + 1) = o + 1 + j from by omega]
        exact h2 j v (by simpa using hj)
    · cases h
  | [] :: _, _, _, h, _ => by simp [nums] at h
  | (.any :: _) :: _, _, _, h, _ => by simp [nums] at h
  | (.bool _ :: _) :: _, _, _, h, _ => by simp [nums] at h
  | (.str _ :: _) :: _, _, _, h, _ => by simp [nums] at h
  | (.nilp :: _) :: _, _, _, h, _ => by simp [nums] at h
  | (.ptr _ :: _) :: _, _, _, h, _ => by simp [nums] at h
  | (.ref _ _ :: _) :: _, _, _, h, _ => by simp [nums] at h
  | (.slnil :: _) :: _, _, _, h, _ => by simp [nums] at h
  | (.sl _ _ _ :: _) :: _, _, _, h, _ => by simp [nums] at h
  | (.agg _ :: _) :: _, _, _, h, _ => by simp [nums] at h
  | (.tuple _ :: _) :: _, _, _, h, _ => by simp [nums] at h
  | (.fn _ _ :: _) :: _, _, _, h, _ => by simp [nums] at h
  | (.nilf :: _) :: _, _, _, h, _ => by simp [nums] at h
  | (.mnil :: _) :: _, _, _, h, _ => by simp [nums] at h
  | (.mref _ :: _) :: _, _, _, h, _ => by simp [nums] at h
  | (.mapv _ _ :: _) :: _, _, _, h, _ => by simp [nums] at h
  | (.osl _ _ :: _) :: _, _, _, h, _ => by simp [nums] at h
  | (.int _ _ :: _ :: _) :: _, _, _, h, _ => by simp [nums] at h
theorem runesBytes_eq (ns : List Int) : runesBytes ns = ⟨(ns.flatMap fun n => (Utf8.encode n).data.toList).toArray⟩ := by
  have key : ∀ (ns : List Int) (s : ByteArray), (ns.foldl (fun r n => r ++ Utf8.encode n) s).data.toList = s.data.toList ++ ns.flatMap fun n => (Utf8.encode n).data.toList := by
    intro ns
    induction ns with
    | nil => intro s; simp
    | cons n ns ih => intro s; simp [ih]
  have := key ns .empty
  unfold runesBytes
  exact congrArg ByteArray.mk ((Array.toArray_toList).symm.trans (congrArg List.toArray (by simpa using this)))
theorem pushes_eq (ns : List Int) : ns.foldl (fun r n => r.push (UInt8.ofNat n.toNat)) ByteArray.empty = ⟨(ns.map fun n => UInt8.ofNat n.toNat).toArray⟩ := by
  have key : ∀ (ns : List Int) (s : ByteArray), (ns.foldl (fun r n => r.push (UInt8.ofNat n.toNat)) s).data.toList = s.data.toList ++ ns.map fun n => UInt8.ofNat n.toNat := by
    intro ns
    induction ns with
    | nil => intro s; simp
    | cons n ns ih => intro s; rw [List.foldl_cons, ih]; simp [ByteArray.push]
  have := key ns .empty
  exact congrArg ByteArray.mk ((Array.toArray_toList).symm.trans (congrArg List.toArray (by simpa using this)))
theorem convA_sound {s d : TypeId} {a r : AV} {v : Value} (hT : TabOK P T) (h : convA T s d a = some r) (hv : VR g w a v) :
    ∃ z, (convert s d v).run P w = .ok z w ∧ VR g w r z := by
  unfold convA at h
  split at h
  · rename_i k n hs hd
    obtain ⟨si, hsi, hs⟩ := Option.map_eq_some_iff.1 hs
    obtain ⟨di, hdi, hd⟩ := Option.map_eq_some_iff.1 hd
    obtain ⟨sd, hsd, hks⟩ := (hT s si hsi).kind
    obtain ⟨dd, hdd, hkd⟩ := (hT d di hdi).kind
    rw [hs] at hks; rw [hd] at hkd; cases hks; cases hkd; cases h; cases hv
    exact ⟨_, by simp [convert, run_underlying hsd, run_underlying hdd, Conv.intToInt], rfl⟩
  · rename_i hs hd
    obtain ⟨si, hsi, hs⟩ := Option.map_eq_some_iff.1 hs
    obtain ⟨di, hdi, hd⟩ := Option.map_eq_some_iff.1 hd
    obtain ⟨sd, hsd, hks⟩ := (hT s si hsi).kind
    obtain ⟨dd, hdd, hkd⟩ := (hT d di hdi).kind
    rw [hs] at hks; rw [hd] at hkd; cases hks; cases hkd; cases h; cases hv
    exact ⟨_, by simp [convert, run_underlying hsd, run_underlying hdd, strV], rfl⟩
  · rename_i e sz es own hs hd
    obtain ⟨si, hsi, hs⟩ := Option.map_eq_some_iff.1 hs
    obtain ⟨di, hdi, hd⟩ := Option.map_eq_some_iff.1 hd
    obtain ⟨sd, hsd, hks⟩ := (hT s si hsi).kind
    obtain ⟨dd, hdd, hkd⟩ := (hT d di hdi).kind
    rw [hs] at hks; rw [hd] at hkd; cases hks; cases hkd
    rcases hv with ⟨rfl, _, rfl⟩ | ⟨b, o, cap, rfl, _, _, hER⟩
    · split at h
      · split at h
        · rename_i he
          obtain ⟨ei, hei, he⟩ := Option.map_eq_some_iff.1 he
          obtain ⟨ed, hed, hke⟩ := (hT e ei hei).kind
          rw [he] at hke; cases hke
          simp only [nums, Option.map_some, Option.some.injEq] at h
          subst h
          exact ⟨_, by simp [convert, run_underlying hsd, run_underlying hdd, run_underlying hed]; rfl, rfl⟩
        · rename_i he
          obtain ⟨ei, hei, he⟩ := Option.map_eq_some_iff.1 he
          obtain ⟨ed, hed, hke⟩ := (hT e ei hei).kind
          rw [he] at hke; cases hke
          simp only [nums, Option.map_some, Option.some.injEq] at h
          subst h
          exact ⟨_, by simp [convert, run_underlying hsd, run_underlying hdd, run_underlying hed]; rfl, rfl⟩
        · cases h
      · cases h
    split at h
    · rename_i hsz; subst hsz
      split at h
      · rename_i he
        obtain ⟨ei, hei, he⟩ := Option.map_eq_some_iff.1 he
        obtain ⟨ed, hed, hke⟩ := (hT e ei hei).kind
        rw [he] at hke; cases hke
        obtain ⟨ns, hns, rfl⟩ := Option.map_eq_some_iff.1 h
        obtain ⟨hl, hc⟩ := nums_vals hns hER
        have := run_loadCells_list (P := P) w ⟨b, o, none⟩ (ns.map (Value.int .i32)) (fun j v hj => by rw [add_plain]; exact hc j v hj)
        rw [List.length_map, hl] at this
        refine ⟨.string (runesBytes ns), ?_, ?_⟩
        · rw [run_convert_runes_string w s d e _ _ _ hsd hed hdd]
          exact run_runesToString w _ _ _ ns this
        · rw [runesBytes_eq]; rfl
      · rename_i he
        obtain ⟨ei, hei, he⟩ := Option.map_eq_some_iff.1 he
        obtain ⟨ed, hed, hke⟩ := (hT e ei hei).kind
        rw [he] at hke; cases hke
        obtain ⟨ns, hns, rfl⟩ := Option.map_eq_some_iff.1 h
        obtain ⟨hl, hc⟩ := nums_vals hns hER
        have := run_loadCells_list (P := P) w ⟨b, o, none⟩ (ns.map (Value.int .u8)) (fun j v hj => by rw [add_plain]; exact hc j v hj)
        rw [List.length_map, hl] at this
        have hb := run_bytesToString w ⟨b, o, none⟩ es.length cap ns this
        refine ⟨_, by simp only [convert, Sem.run_bind, run_underlying hsd, run_underlying hdd, run_underlying hed, Result.andThen_ok]; exact hb, ?_⟩
        rw [pushes_eq]; rfl
      · cases h
    · cases h
  · cases h
theorem foldl_set (off : Nat) : ∀ (vs : List Value) (k : Nat) (cells : Array Value), off + k + vs.length ≤ cells.size →
    ((vs.zipIdx k).foldl (fun cs x => cs.setIfInBounds (off + x.2) x.1) cells).toList = cells.toList.take (off + k) ++ vs ++ cells.toList.drop (off + k + vs.length)
  | [], k, cells, _ => by simp
  | v :: vs, k, cells, h => by
    simp only [List.zipIdx_cons, List.foldl_cons]
    rw [foldl_set off vs (k + 1) _ (by simp at h ⊢; omega)]
    have := list_seg_step cells.toList (off + k) v vs (by simp at h ⊢; omega)
    simpa [Array.toList_setIfInBounds, Nat.add_assoc] using this
theorem fillA_sound {place : Nat → Option (Nat × Nat)} {fs : List (Nat × Nat × Bool)} (hp : ∀ i off sz ag, fs[i]? = some (off, sz, ag) → place i = some (off, sz)) :
    ∀ {as : List (Nat × AV)} {vs : List (Nat × Value)} {ca r : List AV} {cv : Array Value}, fillA fs ca as = some r → pairsR g w as vs → AR g w ca cv.toList →
      ∃ rv : Array Value, Instr.fill place cv vs = some rv ∧ AR g w r rv.toList
  | [], vs, ca, r, cv, h, hq, hc => by
    cases h
    have : vs = [] := List.eq_nil_of_length_eq_zero hq.1.symm
    subst this
    exact ⟨cv, rfl, hc⟩
  | (i, a) :: as, vs, ca, r, cv, h, hq, hc => by
    obtain ⟨v, hv0, hva⟩ := hq.2 0 i a rfl
    match vs, hv0 with
    | x :: vs', hv0 =>
    simp at hv0; subst hv0
    simp only [fillA] at h
    split at h
    · rename_i off sz ag cs hfs hcs
      split at h
      · rename_i hlen
        have har := cellsA_rel hcs hva
        have hl := har.length
        have hcl := hc.length
        simp only [Array.length_toList] at hl hcl
        have hfold := foldl_set off v.cells.toList 0 cv (by simp; omega)
        have ih := fillA_sound hp (as := as) (vs := vs') (cv := (v.cells.zipIdx.foldl (fun cs x => cs.setIfInBounds (off + x.2) x.1) cv)) h
          ⟨by have := hq.1; simpa using this, fun j i a hj => by have := hq.2 (j + 1) i a (by simpa using hj); simpa using this⟩ (by
            rw [← Array.foldl_toList, Array.toList_zipIdx, hfold]
            simp only [Nat.add_zero, Array.length_toList, hl]
            rw [hlen.1]
            exact ((hc.take off).append har).append (hc.drop (off + sz)))
        obtain ⟨rv, h1, h2⟩ := ih
        refine ⟨rv, ?_, h2⟩
        simp only [Instr.fill, hp i off sz ag hfs]
        rw [if_neg (by simp; omega)]
        exact h1
      · cases h
    · cases h
theorem run_mapM {α β : Type} (f : α → Sem β) (k : α → β) : ∀ (l : List α), (∀ x ∈ l, (f x).run P w = .ok (k x) w) → (l.mapM f).run P w = .ok (l.map k) w
  | [], _ => by simp
  | x :: l, h => by
    simp only [List.mapM_cons, Sem.run_bind, h x (by simp), Result.andThen_ok, run_mapM f k l (fun y hy => h y (by simp [hy])), Sem.run_pure, List.map_cons]
theorem run_mapM_array {α β : Type} (f : α → Sem β) (k : α → β) (l : Array α) (h : ∀ x ∈ l.toList, (f x).run P w = .ok (k x) w) : (l.mapM f).run P w = .ok (l.map k) w := by
  rw [Array.mapM_eq_mapM_toList, Sem.run_map, run_mapM f k _ h]
  show Result.ok (l.toList.map k).toArray w = _
  rw [← Array.toList_map, Array.toArray_toList]
theorem buildA_sound {t : TypeId} {as : List (Nat × AV)} {vs : Array (Nat × Value)} {r : AV} (hT : TabOK P T) (h : buildA T t as = some r) (hq : pairsR g w as vs.toList) :
    ∃ z, (Instr.build t vs).run P w = .ok z w ∧ VR g w r z := by
  obtain ⟨i, hi, h⟩ := Option.bind_eq_some_iff.1 h
  obtain ⟨d, hd, hkd⟩ := (hT t i hi).kind
  split at h
  · rename_i fs hk
    rw [hk] at hkd
    obtain ⟨fields, rfl, hlen, hf⟩ := hkd
    obtain ⟨cs, hcs, rfl⟩ := Option.map_eq_some_iff.1 h
    have hz := run_zero hT hi w
    have hzc := zval_cells hT hi
    have hsz : ∀ f ∈ fields.toList, (do pure (f.offset, ← sizeOf f.type) : Sem (Nat × Nat)).run P w = .ok (f.offset, (P.info? f.type).elim 0 (·.size)) w := by
      intro f hfm
      obtain ⟨j, hj⟩ := List.getElem?_of_mem hfm
      have hjlt : j < fs.length := by
        rw [← hlen, ← Array.length_toList]
        rcases Nat.lt_or_ge j fields.toList.length with k | k
        · exact k
        · simp [List.getElem?_eq_none k] at hj
      obtain ⟨f', fi, fd, h1, _, h3, _⟩ := hf j _ _ _ (List.getElem?_eq_getElem hjlt)
      have : f' = f := by
        have h1' : fields.toList[j]? = some f' := by simpa using h1
        rw [hj] at h1'; exact (Option.some.inj h1').symm
      subst this
      simp [sizeOf, run_typeInfo (P := P) w h3, h3]
    have hpl := run_mapM_array (P := P) (w := w) _ (fun f : Field => (f.offset, (P.info? f.type).elim 0 (·.size))) fields hsz
    obtain ⟨rv, h1, h2⟩ := fillA_sound (g := g) (w := w) (place := fun x => (fields.map fun f : Field => (f.offset, (P.info? f.type).elim 0 (·.size)))[x]?) (fs := fs) (by
      intro j off sz ag hj
      obtain ⟨f', fi, fd, e1, e2, e3, e4, _⟩ := hf j off sz ag hj
      simp [e1, e2, e3, e4]) hcs hq (cv := (zval i).cells) (by rw [hzc]; exact zcells_rel _)
    refine ⟨.agg rv, ?_, ⟨rv, rfl, h2⟩⟩
    unfold Instr.build
    simp only [Sem.run_bind, hz, Result.andThen_ok, run_underlying hd, hpl, h1, Sem.run_pure]
  · cases h
def pureA (T : Tab) (st : St) : Op → Option AV
  | .move x | .assign x => some (st.eval x)
  | .pick c a b => match st.eval c with | .bool x => some (if x then st.eval a else st.eval b) | _ => none
  | .nilCheck x => match st.eval x with | .ptr cs => some (.ptr cs) | .ref r k => some (.ref r k) | .fn f cs => some (.fn f cs) | _ => none
  | .binOp op t x y _ => binA T op t (st.eval x) (st.eval y)
  | .unOp op _ x => unA op (st.eval x)
  | .convert s d x => convA T s d (st.eval x)
  | .load t a => loadA T st.H t (st.eval a)
  | .fieldAddr s x f => fieldA T s f (st.eval x)
  | .field s x f => partA T s f (st.eval x)
  | .indexAddr t x i => elemA T t (st.eval x) (st.eval i)
  | .index t x i => byteA T t (st.eval x) (st.eval i)
  | .slice t x lo hi mx => sliceA T t (st.eval x) (lo.map st.eval) (hi.map st.eval) (mx.map st.eval)
  | .build t ps => buildA T t (ps.toList.map fun p => (p.1, st.eval p.2))
  | .extract x i => match st.eval x with | .tuple vs => vs[i]? | _ => none
  | .makeFunc (.func f) first caps => if first.size = 0 then some (.fn f (caps.toList.map st.eval)) else none
  | .call c =>
    match c.callee with
    | .builtin .len => match c.argTypes[0]?, c.args[0]? with | some t, some x => lenA T t (st.eval x) | _, _ => none
    | .builtin .max => match c.args.toList with
      | [x, y] => match st.eval x, st.eval y with | .int k a, .int _ b => some (.int k (if b > a then b else a)) | _, _ => none
      | _ => none
    | .builtin .min => match c.args.toList with
      | [x, y] => match st.eval x, st.eval y with | .int k a, .int _ b => some (.int k (if b < a then b else a)) | _, _ => none
      | _ => none
    | _ => none
  | _ => none
theorem optVR_eval {a : Act} {st : St} (r : Rel W0 g w a st) (x : Option Operand) : optVR g w (x.map st.eval) (x.map a.eval) := by
  cases x with
  | none => trivial
  | some x => exact r.eval x
theorem evals_rel {a : Act} {st : St} (r : Rel W0 g w a st) : ∀ l : List Operand, AR g w (l.map st.eval) (l.map a.eval)
  | [] => AR.nil
  | x :: l => AR.cons (r.eval x) (evals_rel r l)
theorem pureA_sound {o : Oper} {a : Act} {st : St} {r : AV} (hT : TabOK P T) (h : pureA T st o.op = some r) (hr : Rel W0 g w a st) :
    ∃ v, (execOp a.eval o).run P w = .ok (.value v) w ∧ VR g w r v := by
  have wrap : ∀ {s : Sem Value} {v : Value}, s.run P w = .ok v w → (do pure (Next.value (← s)) : Sem Next).run P w = .ok (.value v) w := fun h => by simp [h]
  obtain ⟨dst, op, ty, pos, after, guard⟩ := o
  simp only at h
  cases op <;> simp only [pureA, reduceCtorEq] at h
  case move x => cases h; exact ⟨_, rfl, hr.eval x⟩
  case assign x => cases h; exact ⟨_, rfl, hr.eval x⟩
  case pick c x y =>
    have hc := hr.eval c
    split at h
    · rename_i b hb
      rw [hb] at hc
      cases h
      refine ⟨if b then a.eval x else a.eval y, ?_, ?_⟩
      · have hc' : a.eval c = .bool b := hc
        simp [execOp, hc', asBool]
      · cases b
        · exact hr.eval y
        · exact hr.eval x
    · cases h
  case nilCheck x =>
    have hx := hr.eval x
    split at h <;> (try (cases h; done))
    · rename_i cs hc
      rw [hc] at hx; cases h
      have hx' := hx
      obtain ⟨b, o, e, _⟩ := hx
      exact ⟨_, by simp [execOp, e], e ▸ hx'⟩
    · rename_i r' k hc
      rw [hc] at hx; cases h
      have hx' := hx
      obtain ⟨b, _, e⟩ := hx
      exact ⟨_, by simp [execOp, e], e ▸ hx'⟩
    · rename_i f cs hc
      rw [hc] at hx; cases h
      have hx' := hx
      obtain ⟨vs, e, _⟩ := hx
      exact ⟨_, by simp [execOp, e], e ▸ hx'⟩
  case binOp op t x y t' =>
    obtain ⟨z, h1, h2, h3, h4⟩ := binA_sound (P := P) hT h (hr.eval x) (hr.eval y)
    exact ⟨z, by simp [execOp, eqGuard_ok h3 h4, h1], h2⟩
  case unOp op t x =>
    obtain ⟨z, h1, h2⟩ := unA_sound (P := P) h (hr.eval x)
    exact ⟨z, wrap h1, h2⟩
  case convert s d x =>
    obtain ⟨z, h1, h2⟩ := convA_sound (P := P) hT h (hr.eval x)
    exact ⟨z, wrap h1, h2⟩
  case load t x =>
    obtain ⟨z, h1, h2⟩ := loadA_sound (P := P) hT hr.inv h (hr.eval x)
    exact ⟨z, wrap h1, h2⟩
  case fieldAddr s x f =>
    obtain ⟨z, h1, h2⟩ := fieldA_sound (P := P) hT h (hr.eval x)
    exact ⟨z, wrap h1, h2⟩
  case field s x f =>
    obtain ⟨z, h1, h2⟩ := partA_sound (P := P) hT h (hr.eval x)
    exact ⟨z, wrap h1, h2⟩
  case indexAddr t x i =>
    obtain ⟨z, h1, h2⟩ := elemA_sound (P := P) hT h (hr.eval x) (hr.eval i)
    exact ⟨z, wrap h1, h2⟩
  case index t x i =>
    obtain ⟨z, h1, h2⟩ := byteA_sound (P := P) hT h (hr.eval x) (hr.eval i)
    exact ⟨z, wrap h1, h2⟩
  case slice t x lo hi mx =>
    obtain ⟨z, h1, h2⟩ := sliceA_sound (P := P) hT h (hr.eval x) (optVR_eval hr lo) (optVR_eval hr hi) (optVR_eval hr mx)
    exact ⟨z, wrap h1, h2⟩
  case build t ps =>
    obtain ⟨z, h1, h2⟩ := buildA_sound (P := P) (vs := ps.map fun (i, x) => (i, a.eval x)) hT h (by
      refine ⟨by simp, fun j i x hj => ?_⟩
      simp only [List.getElem?_map, Option.map_eq_some_iff, Prod.mk.injEq] at hj
      obtain ⟨p, hp, rfl, rfl⟩ := hj
      exact ⟨_, by simp at hp; simp [hp], hr.eval p.2⟩)
    exact ⟨z, wrap h1, h2⟩
  case extract x i =>
    have hx := hr.eval x
    split at h
    · rename_i vs hc
      rw [hc] at hx
      obtain ⟨us, e, har⟩ := hx
      obtain ⟨z, hz, hv⟩ := har.getElem h
      have hz' : us[i]? = some z := by simpa using hz
      exact ⟨z, by simp [execOp, e, Instr.extract, hz'], hv⟩
    · cases h
  case makeFunc fn first caps =>
    cases fn <;> simp only [reduceCtorEq] at h
    split at h
    · rename_i f hf
      cases h
      have : first = #[] := Array.eq_empty_of_size_eq_zero hf
      subst this
      exact ⟨_, by simp [execOp, Instr.makeFunc]; rfl, ⟨_, rfl, by simpa using evals_rel hr caps.toList⟩⟩
    · cases h
  case call c =>
    split at h
    · rename_i hc
      split at h
      · rename_i t x ht hx
        obtain ⟨z, h1, h2⟩ := lenA_sound (P := P) (ty := ty) (xs := c.args.map a.eval) hT h (hr.eval x) ht (by simp [hx])
        exact ⟨z, by simp [execOp, resolve, hc, invoke, builtin, h1], h2⟩
      · cases h
    · rename_i hc
      split at h
      · rename_i x y hxy
        split at h
        · rename_i k p k' q hx hy
          cases h
          have e1 : a.eval x = .int k p := by have := hr.eval x; rw [hx] at this; exact this
          have e2 : a.eval y = .int k' q := by have := hr.eval y; rw [hy] at this; exact this
          exact ⟨_, by simp [execOp, resolve, hc, invoke, builtin, Builtin.max_, hxy, e1, e2, Builtin.max2], rfl⟩
        · cases h
      · cases h
    · rename_i hc
      split at h
      · rename_i x y hxy
        split at h
        · rename_i k p k' q hx hy
          cases h
          have e1 : a.eval x = .int k p := by have := hr.eval x; rw [hx] at this; exact this
          have e2 : a.eval y = .int k' q := by have := hr.eval y; rw [hy] at this; exact this
          exact ⟨_, by simp [execOp, resolve, hc, invoke, builtin, Builtin.min_, hxy, e1, e2, Builtin.min2], rfl⟩
        · cases h
      · cases h
    · cases h
end
end Go.Av
