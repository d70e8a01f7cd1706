/-
  Go read by value: lemmas (part 5): A4, A5.
-/
import Derived.Laws.CopyRow
import Derived.WideShapes
import Derived.Lib.Strings
import Derived.Test.YtdeocbficanfaaaGreatDoorX04
set_option linter.unusedVariables false
set_option linter.unusedSimpArgs false
set_option linter.unusedSectionVars false
namespace Go.Av
theorem add_plain (b o n : Nat) : (⟨b, o, none⟩ : Addr).add n = ⟨b, o + n, none⟩ := by unfold Addr.add; split <;> simp_all
section
variable {g : Gh} {w : World}
theorem CR.get {b : Nat} : ∀ {cs : List AV} {o : Nat} {i : Nat} {c : AV}, CR g w b o cs → cs[i]? = some c → ∃ v, w.cell? ⟨b, o + i, none⟩ = some v ∧ o + i < g.pub b ∧ VR g w c v
  | [], _, _, _, _, h => by simp at h
  | c :: cs, o, 0, _, h, e => by simp at e; subst e; exact h.1
  | c :: cs, o, i + 1, _, h, e => by
    have := CR.get (o := o + 1) (i := i) h.2 (by simpa using e)
    rwa [show o + 1 + i = o + (i + 1) from by omega] at this
theorem CR.drop {b : Nat} : ∀ {cs : List AV} {o : Nat} (i : Nat), CR g w b o cs → CR g w b (o + i) (cs.drop i)
  | [], _, i, _ => by simp [CR]
  | _ :: _, o, 0, h => by simpa using h
  | c :: cs, o, i + 1, h => by
    have := CR.drop (o := o + 1) i h.2
    rwa [show o + 1 + i = o + (i + 1) from by omega] at this
theorem CR.take {b : Nat} : ∀ {cs : List AV} {o : Nat} (i : Nat), CR g w b o cs → CR g w b o (cs.take i)
  | [], _, i, _ => by simp [CR]
  | _ :: _, o, 0, _ => by simp [CR]
  | c :: cs, o, i + 1, h => ⟨h.1, CR.take i h.2⟩
theorem CR.vals {b : Nat} : ∀ {cs : List AV} {o : Nat}, CR g w b o cs → ∃ vs : List Value, AR g w cs vs ∧ ∀ j v, vs[j]? = some v → w.cell? ⟨b, o + j, none⟩ = some v
  | [], _, _ => ⟨[], AR.nil, by simp⟩
  | c :: cs, o, ⟨⟨v, hc, _, hv⟩, h⟩ => by
    obtain ⟨vs, h1, h2⟩ := CR.vals h
    refine ⟨v :: vs, AR.cons hv h1, fun j u hj => ?_⟩
    cases j with
    | zero => simp at hj; subst hj; exact hc
    | succ j => rw [show o + (j + 1) = o + 1 + j from by omega]; exact h2 j u (by simpa using hj)
theorem ER.get {b sz : Nat} : ∀ {es : List (List AV)} {o i : Nat} {e : List AV}, ER g w b sz o es → es[i]? = some e → e.length = sz ∧ CR g w b (o + i * sz) e
  | [], _, _, _, _, h => by simp at h
  | e :: es, o, 0, _, h, k => by simp at k; subst k; exact ⟨h.1, by simpa using h.2.1⟩
  | e :: es, o, i + 1, _, h, k => by
    have := ER.get (o := o + sz) (i := i) h.2.2 (by simpa using k)
    rwa [show o + sz + i * sz = o + (i + 1) * sz from by rw [Nat.succ_mul]; omega] at this
theorem ER.drop {b sz : Nat} : ∀ {es : List (List AV)} {o : Nat} (i : Nat), ER g w b sz o es → ER g w b sz (o + i * sz) (es.drop i)
  | [], _, i, _ => by simp [ER]
  | _ :: _, o, 0, h => by simpa using h
  | e :: es, o, i + 1, h => by
    have := ER.drop (o := o + sz) i h.2.2
    rwa [show o + sz + i * sz = o + (i + 1) * sz from by rw [Nat.succ_mul]; omega] at this
theorem ER.take {b sz : Nat} : ∀ {es : List (List AV)} {o : Nat} (i : Nat), ER g w b sz o es → ER g w b sz o (es.take i)
  | [], _, i, _ => by simp [ER]
  | _ :: _, o, 0, _ => by simp [ER]
  | e :: es, o, i + 1, h => ⟨h.1, h.2.1, ER.take i h.2.2⟩
theorem AR.getElem {cs : List AV} {vs : List Value} {i : Nat} {c : AV} (h : AR g w cs vs) (e : cs[i]? = some c) : ∃ v, vs[i]? = some v ∧ VR g w c v := by
  have hl := h.length
  have hi : i < cs.length := by
    rcases Nat.lt_or_ge i cs.length with k | k
    · exact k
    · simp [List.getElem?_eq_none k] at e
  have := AR.get i .any undef h trivial
  refine ⟨vs[i]'(by omega), List.getElem?_eq_getElem _, ?_⟩
  simpa [List.getD_eq_getElem?_getD, e, List.getElem?_eq_getElem (show i < vs.length by omega)] using this
end
def packA (i : TI) (cs : List AV) : Option AV :=
  if i.isAgg then (if i.size ≤ cs.length then some (.agg (cs.take i.size)) else none) else cs.head?
def loadA (T : Tab) (H : Hp) (t : TypeId) (a : AV) : Option AV :=
  (T t).bind fun i =>
  match a with
  | .ptr cs => packA i cs
  | .ref r k => match H.objs[r]? with | some (.cells cs) => packA i (cs.drop k) | _ => none
  | _ => none
def fieldA (T : Tab) (s : TypeId) (f : Nat) (a : AV) : Option AV :=
  match (T s).map (·.kind) with
  | some (TK.struct fs) =>
    match fs[f]? with
    | some (off, sz, _) =>
      if sz = 0 then none else
      match a with
      | .ptr cs => some (.ptr (cs.drop off))
      | .ref r k => some (.ref r (k + off))
      | _ => none
    | none => none
  | _ => none
def partA (T : Tab) (s : TypeId) (f : Nat) (a : AV) : Option AV :=
  match (T s).map (·.kind) with
  | some (TK.struct fs) =>
    match fs[f]?, a with
    | some (off, sz, ag), .agg cs => if ag then some (.agg ((cs.drop off).take sz)) else cs[off]?
    | _, _ => none
  | _ => none
def elemA (T : Tab) (t : TypeId) (a i : AV) : Option AV :=
  match (T t).map (·.kind), a, i with
  | some (TK.slice e), .sl sz es _, .int _ n => if ((T e).map (·.size)) = some sz ∧ 0 ≤ n then (es[n.toNat]?).map .ptr else none
  | some (TK.slice e), .osl r m, .int _ n => if ((T e).map (·.size)) = some 1 ∧ 0 ≤ n ∧ n < m then some (.ref r n.toNat) else none
  | _, _, _ => none
def byteA (T : Tab) (t : TypeId) (a i : AV) : Option AV :=
  match (T t).map (·.kind), a, i with
  | some TK.str, .str s, .int _ n => if 0 ≤ n then (s[n.toNat]?).map fun c => .int .u8 c.toNat else none
  | _, _, _ => none
def boundA (d : Int) : Option AV → Option Int
  | none => some d
  | some (.int _ n) => some n
  | _ => none
def sliceA (T : Tab) (t : TypeId) (a : AV) (lo hi mx : Option AV) : Option AV :=
  match (T t).map (·.kind), a, mx with
  | some TK.str, .str s, none =>
    match boundA 0 lo, boundA s.length hi with
    | some l, some h => if 0 ≤ l ∧ l ≤ h ∧ h ≤ s.length then some (.str ((s.take h.toNat).drop l.toNat)) else none
    | _, _ => none
  | some (TK.slice e), .sl sz es own, none =>
    if ((T e).map (·.size)) = some sz then
      match boundA 0 lo, boundA es.length hi with
      | some l, some h => if 0 ≤ l ∧ l ≤ h ∧ h ≤ es.length then some (.sl sz ((es.take h.toNat).drop l.toNat) (if l = 0 ∧ h = es.length then own else .shut)) else none
      | _, _ => none
    else none
  | some (TK.slice e), .slnil, none =>
    if ((T e).map (·.size)).isSome then
      match boundA 0 lo, boundA 0 hi with
      | some l, some h => if l = 0 ∧ h = 0 then some .slnil else none
      | _, _ => none
    else none
  | some (TK.slice e), .sl sz es _, some m =>
    if ((T e).map (·.size)) = some sz then
      match boundA 0 lo, hi, m with
      | some l, some (.int _ h), .int _ m => if l = 0 ∧ h = es.length ∧ m = es.length then some (.sl sz es .capped) else none
      | _, _, _ => none
    else none
  | some (TK.slice e), .slnil, some m =>
    if ((T e).map (·.size)).isSome then
      match boundA 0 lo, hi, m with
      | some l, some (.int _ h), .int _ m => if l = 0 ∧ h = 0 ∧ m = 0 then some .slnil else none
      | _, _, _ => none
    else none
  | _, _, _ => none
def unA (op : UnOp) (x : AV) : Option AV :=
  match op, x with
  | .not, .bool b => some (.bool !b)
  | .neg, .int k n => some (.int k (k.wrap (0 - n)))
  | _, _ => none
def lenA (T : Tab) (t : TypeId) (x : AV) : Option AV :=
  match (T t).map (·.kind), x with
  | some TK.str, .str s => some (.int .i64 s.length)
  | some (TK.slice _), .sl _ es _ => some (.int .i64 es.length)
  | some (TK.slice _), .slnil => some (.int .i64 0)
  | some (TK.slice _), .osl _ m => some (.int .i64 m)
  | some (TK.map _ _), .mnil => some (.int .i64 0)
  | _, _ => none
section
variable {P : Program} {T : Tab} {W0 : World} {g : Gh} {w : World}
theorem run_loadVar_vals {t : TypeId} {i : TI} {cs : List AV} {vs : List Value} {b o : Nat} {r : AV} (hT : TabOK P T) (ht : T t = some i) (hp : packA i cs = some r)
    (hv : AR g w cs vs) (hc : ∀ j v, vs[j]? = some v → w.cell? ⟨b, o + j, none⟩ = some v) :
    ∃ v, (loadVar t ⟨b, o, none⟩).run P w = .ok v w ∧ VR g w r v := by
  unfold loadVar
  simp only [Sem.run_bind, run_isAgg hT ht, Result.andThen_ok]
  unfold packA at hp
  split at hp
  · rename_i ha
    split at hp
    · rename_i hle
      cases hp
      have hl := hv.length
      have := run_loadCells_list (P := P) w ⟨b, o, none⟩ (vs.take i.size) (fun j v hj => by
        rw [add_plain]
        refine hc j v ?_
        rw [List.getElem?_take] at hj
        split at hj
        · exact hj
        · cases hj)
      rw [List.length_take, Nat.min_eq_left (by omega)] at this
      refine ⟨.agg (vs.take i.size).toArray, ?_, ⟨_, rfl, by simpa using hv.take i.size⟩⟩
      simp [ha, run_size hT ht, this]
    · cases hp
  · rename_i ha
    cases cs with
    | nil => cases hp
    | cons c cs =>
      cases hp
      obtain ⟨v, vs', rfl, h1, _⟩ := hv
      have hcell := hc 0 v rfl
      refine ⟨v, ?_, h1⟩
      simp only [ha, Bool.false_eq_true, if_false]
      have : w.cell? ⟨b, o, none⟩ = some v := by simpa using hcell
      simp [this]
theorem loadA_sound {t : TypeId} {a r : AV} {v : Value} {H : Hp} (hT : TabOK P T) (inv : WInv W0 g H w) (h : loadA T H t a = some r) (hv : VR g w a v) :
    ∃ z, (Instr.loadAt t v).run P w = .ok z w ∧ VR g w r z := by
  obtain ⟨i, ht, h⟩ := Option.bind_eq_some_iff.1 h
  cases a with
  | ptr cs =>
    obtain ⟨b, o, rfl, hc⟩ := hv
    obtain ⟨vs, h1, h2⟩ := hc.vals
    obtain ⟨z, h3, h4⟩ := run_loadVar_vals hT ht h h1 h2
    exact ⟨z, by simpa [Instr.loadAt, Instr.sureAddr] using h3, h4⟩
  | ref r' k =>
    simp only at h
    split at h
    · rename_i cs hcs
      obtain ⟨b, vs, T', hl, hp, _, hh, har⟩ := inv.obj r' _ hcs
      obtain ⟨b', hl', rfl⟩ := hv
      rw [hl] at hl'
      cases hl'
      obtain ⟨z, h3, h4⟩ := run_loadVar_vals (b := b) (o := k) hT ht h (har.drop k) (fun j v hj => by
        rw [cell_row hh]
        simpa using hj)
      exact ⟨z, by simpa [Instr.loadAt, Instr.sureAddr] using h3, h4⟩
    · cases h
  | _ => cases h
theorem fieldA_sound {s : TypeId} {f : Nat} {a r : AV} {v : Value} (hT : TabOK P T) (h : fieldA T s f a = some r) (hv : VR g w a v) :
    ∃ z, (Instr.fieldAt s v f).run P w = .ok z w ∧ VR g w r z := by
  unfold fieldA at h
  split at h
  · rename_i fs hk
    obtain ⟨i, hi, hk⟩ := Option.map_eq_some_iff.1 hk
    obtain ⟨d, hd, hkd⟩ := (hT s i hi).kind
    rw [hk] at hkd
    obtain ⟨fields, rfl, _, hf⟩ := hkd
    split at h
    · rename_i off sz ag hj
      obtain ⟨fd, fi, fdd, h1, h2, h3, h4, _⟩ := hf f off sz ag hj
      split at h
      · cases h
      · rename_i hsz
        have hsize : ∀ w, (sizeOf fd.type).run P w = .ok sz w := fun w => by simp [sizeOf, run_typeInfo (P := P) w h3, h4]
        split at h
        · cases h
          obtain ⟨b, o, rfl, hc⟩ := hv
          refine ⟨.pointer (some ⟨b, o + off, none⟩), ?_, ⟨b, o + off, rfl, hc.drop off⟩⟩
          simp [Instr.fieldAt, run_underlying hd, h1, Instr.sureAddr, fieldPlace, hsize, hsz, add_plain, h2]
        · cases h
          obtain ⟨b, hb, rfl⟩ := hv
          refine ⟨.pointer (some ⟨b, _ + off, none⟩), ?_, ⟨b, hb, rfl⟩⟩
          simp [Instr.fieldAt, run_underlying hd, h1, Instr.sureAddr, fieldPlace, hsize, hsz, add_plain, h2]
        · cases h
    · cases h
  · cases h
theorem partA_sound {s : TypeId} {f : Nat} {a r : AV} {v : Value} (hT : TabOK P T) (h : partA T s f a = some r) (hv : VR g w a v) :
    ∃ z, (Instr.field s v f).run P w = .ok z w ∧ VR g w r z := by
  unfold partA at h
  split at h
  · rename_i fs hk
    obtain ⟨i, hi, hk⟩ := Option.map_eq_some_iff.1 hk
    obtain ⟨d, hd, hkd⟩ := (hT s i hi).kind
    rw [hk] at hkd
    obtain ⟨fields, rfl, _, hf⟩ := hkd
    split at h
    · rename_i off sz ag cs hj
      obtain ⟨fd, fi, fdd, h1, h2, h3, h4, h5, h6⟩ := hf f off sz ag hj
      obtain ⟨vs, rfl, har⟩ := hv
      have hsize : ∀ w, (sizeOf fd.type).run P w = .ok sz w := fun w => by simp [sizeOf, run_typeInfo (P := P) w h3, h4]
      have hagg : ∀ w, (isAgg fd.type).run P w = .ok ag w := fun w => by
        unfold isAgg
        simp only [Sem.run_bind, run_underlying h5, Result.andThen_ok, ← h6]
        cases fdd <;> rfl
      split at h
      · rename_i ha
        cases h
        refine ⟨.agg (vs.extract off (off + sz)), ?_, ⟨_, rfl, ?_⟩⟩
        · simp [Instr.field, run_underlying hd, h1, asAgg, part, hagg, ha, hsize, h2]
        · simpa [List.take_drop, Nat.add_comm] using (har.drop off).take sz
      · rename_i ha
        obtain ⟨z, hz, hvz⟩ := har.getElem h
        refine ⟨z, ?_, hvz⟩
        have : vs[off]? = some z := by simpa using hz
        simp [Instr.field, run_underlying hd, h1, asAgg, part, hagg, ha, h2, this]
    · cases h
  · cases h
theorem elemA_sound {t : TypeId} {a i r : AV} {v x : Value} (hT : TabOK P T) (h : elemA T t a i = some r) (hv : VR g w a v) (hx : VR g w i x) :
    ∃ z, (Instr.indexAt t v x).run P w = .ok z w ∧ VR g w r z := by
  unfold elemA at h
  split at h
  · rename_i e sz es own k n hk
    obtain ⟨ti, hi, hk⟩ := Option.map_eq_some_iff.1 hk
    obtain ⟨d, hd, hkd⟩ := (hT t ti hi).kind
    rw [hk] at hkd
    cases hkd
    split at h
    · rename_i hc
      obtain ⟨he, hn⟩ := hc
      obtain ⟨ei, hei, hes⟩ := Option.map_eq_some_iff.1 he
      obtain ⟨cs, hcs, rfl⟩ := Option.map_eq_some_iff.1 h
      rcases hv with ⟨rfl, _⟩ | ⟨b, o, cap, rfl, _, _, hER⟩
      · simp at hcs
      cases hx
      obtain ⟨_, hCR⟩ := hER.get hcs
      have hlt : n.toNat < es.length := by
        rcases Nat.lt_or_ge n.toNat es.length with k | k
        · exact k
        · simp [List.getElem?_eq_none k] at hcs
      have hlt' : 0 ≤ n ∧ n < (es.length : Int) := ⟨hn, by omega⟩
      refine ⟨.pointer (some ⟨b, o + n.toNat * sz, none⟩), ?_, ⟨b, _, rfl, hCR⟩⟩
      simp [Instr.indexAt, asIntOf, run_underlying hd, hlt'.1, hlt'.2, run_size hT hei, hes, add_plain]
    · cases h
  · rename_i e q m k n hk
    obtain ⟨ti, hi, hk⟩ := Option.map_eq_some_iff.1 hk
    obtain ⟨d, hd, hkd⟩ := (hT t ti hi).kind
    rw [hk] at hkd
    cases hkd
    split at h
    · rename_i hc
      obtain ⟨he, hn, hlt⟩ := hc
      obtain ⟨ei, hei, hes⟩ := Option.map_eq_some_iff.1 he
      cases h
      obtain ⟨b, cap, rfl, hb, hle⟩ := hv
      cases hx
      refine ⟨.pointer (some ⟨b, n.toNat, none⟩), ?_, ⟨b, hb, rfl⟩⟩
      simp [Instr.indexAt, asIntOf, run_underlying hd, hn, hlt, run_size hT hei, hes, add_plain]
    · cases h
  · cases h
theorem byteA_sound {t : TypeId} {a i r : AV} {v x : Value} (hT : TabOK P T) (h : byteA T t a i = some r) (hv : VR g w a v) (hx : VR g w i x) :
    ∃ z, (Instr.index t v x).run P w = .ok z w ∧ VR g w r z := by
  unfold byteA at h
  split at h
  · rename_i s k n hk
    obtain ⟨ti, hi, hk⟩ := Option.map_eq_some_iff.1 hk
    obtain ⟨d, hd, hkd⟩ := (hT t ti hi).kind
    rw [hk] at hkd
    cases hkd
    split at h
    · rename_i hn
      obtain ⟨c, hc, rfl⟩ := Option.map_eq_some_iff.1 h
      cases hv; cases hx
      have hlt : n.toNat < s.length := by
        rcases Nat.lt_or_ge n.toNat s.length with k | k
        · exact k
        · simp [List.getElem?_eq_none k] at hc
      have hb : (⟨s.toArray⟩ : ByteArray)[n.toNat]? = some c := by
        have h2 : s[n.toNat] = c := by simpa [List.getElem?_eq_getElem hlt] using hc
        rw [getElem?_pos _ _ (by simpa [ByteArray.size] using hlt)]
        simp [ByteArray.getElem_eq_getElem_data, h2]
      refine ⟨.int .u8 c.toNat, ?_, rfl⟩
      simp [Instr.index, strV, asIntOf, run_underlying hd, hn, hb]
    · cases h
  · cases h
end
end Go.Av
namespace Go.Av
section
variable {P : Program} {T : Tab} {W0 : World} {g : Gh} {w : World}
theorem size_mk (s : List UInt8) : (⟨s.toArray⟩ : ByteArray).size = s.length := by simp [ByteArray.size]
theorem extract_mk (s : List UInt8) (l h : Nat) : (⟨s.toArray⟩ : ByteArray).extract l h = ⟨((s.take h).drop l).toArray⟩ := by
  have := Lib.extract_toList ⟨s.toArray⟩ l h
  rw [Go.ByteArray.toList_eq] at this
  have e : ((⟨s.toArray⟩ : ByteArray).extract l h).data = ((s.take h).drop l).toArray := by
    rw [← Array.toArray_toList (xs := ((⟨s.toArray⟩ : ByteArray).extract l h).data), this]
    simp [List.drop_take]
  exact congrArg ByteArray.mk e
def optVR (g : Gh) (w : World) : Option AV → Option Value → Prop
  | none, none => True
  | some a, some v => VR g w a v
  | _, _ => False
def boundRel (d : Nat) (n : Int) : Option Value → Prop
  | none => n = d
  | some v => ∃ k, v = .int k n
theorem boundA_rel {d : Nat} {lo : Option AV} {x : Option Value} {n : Int} (h : boundA d lo = some n) (hx : optVR g w lo x) : boundRel d n x := by
  unfold boundA at h
  split at h
  · cases x with
    | none => cases h; rfl
    | some v => exact hx.elim
  · cases x with
    | none => exact hx.elim
    | some v => cases h; exact ⟨_, hx⟩
  · cases h
theorem run_bound {k : IntKind} {n : Int} {y : Nat} {code : BoundsCode} (h0 : 0 ≤ n) (h : n ≤ y) : (Instr.sliceBound (.int k n) y code).run P w = .ok n.toNat w := by
  simp [Instr.sliceBound, asIntOf, h0, h]
theorem run_bounds {isS : Bool} {len cap : Nat} {xl xh : Option Value} {l h : Int} (hl : boundRel 0 l xl) (hh : boundRel len h xh) (h0 : 0 ≤ l) (h1 : l ≤ h) (h2 : h ≤ len) (hc : len ≤ cap) :
    (Instr.sliceBounds isS len cap xl xh none).run P w = .ok (l.toNat, h.toNat, cap) w := by
  unfold Instr.sliceBounds
  have k1 : ∀ k code, (Instr.sliceBound (.int k h) cap code).run P w = .ok h.toNat w := fun k code => run_bound (by omega) (by omega)
  have k2 : ∀ k code, (Instr.sliceBound (.int k l) h.toNat code).run P w = .ok l.toNat w := fun k code => run_bound h0 (by omega)
  cases xh with
  | none =>
    simp only [boundRel] at hh
    have hhn : h.toNat = len := by omega
    cases xl with
    | none => simp only [boundRel] at hl; subst hl; simp [hhn]
    | some v => obtain ⟨k, rfl⟩ := hl; rw [hhn] at k2; simp [k2, hhn]
  | some v =>
    obtain ⟨k, rfl⟩ := hh
    cases xl with
    | none => simp only [boundRel] at hl; subst hl; simp [k1]
    | some v => obtain ⟨k', rfl⟩ := hl; simp [k1, k2]
theorem run_bounds3 {isS : Bool} {len cap : Nat} {xl : Option Value} {k k' : IntKind} (hl : boundRel 0 0 xl) (hc : len ≤ cap) :
    (Instr.sliceBounds isS len cap xl (some (.int k len)) (some (.int k' len))).run P w = .ok (0, len, len) w := by
  unfold Instr.sliceBounds
  have e1 : ∀ code, (Instr.sliceBound (.int k' len) cap code).run P w = .ok len w := fun code => by simpa using run_bound (P := P) (w := w) (k := k') (n := len) (y := cap) (code := code) (by omega) (by omega)
  have e2 : ∀ code, (Instr.sliceBound (.int k len) len code).run P w = .ok len w := fun code => by simpa using run_bound (P := P) (w := w) (k := k) (n := len) (y := len) (code := code) (by omega) (by omega)
  cases xl with
  | none => simp [e1, e2]
  | some v =>
    obtain ⟨k2, rfl⟩ := hl
    have e3 : ∀ code, (Instr.sliceBound (.int k2 0) len code).run P w = .ok 0 w := fun code => by simpa using run_bound (P := P) (w := w) (k := k2) (n := 0) (y := len) (code := code) (by omega) (by omega)
    simp [e1, e2, e3]
theorem sliceA_sound {t : TypeId} {a r : AV} {v : Value} {lo hi mx : Option AV} {xl xh xm : Option Value} (hT : TabOK P T) (h : sliceA T t a lo hi mx = some r)
    (hv : VR g w a v) (hl : optVR g w lo xl) (hh : optVR g w hi xh) (hm : optVR g w mx xm) :
    ∃ z, (Instr.sliceAt t v xl xh xm).run P w = .ok z w ∧ VR g w r z := by
  unfold sliceA at h
  split at h
  · rename_i s hk
    obtain ⟨ti, hi', hk⟩ := Option.map_eq_some_iff.1 hk
    obtain ⟨d, hd, hkd⟩ := (hT t ti hi').kind
    rw [hk] at hkd
    cases hkd
    cases xm with
    | some m => exact hm.elim
    | none =>
    cases hv
    split at h
    · rename_i l hN h1 h2
      split at h
      · rename_i hc
        cases h
        refine ⟨strV ((s.take hN.toNat).drop l.toNat), ?_, rfl⟩
        have hb := run_bounds (P := P) (w := w) (isS := false) (len := s.length) (cap := s.length) (boundA_rel h1 hl) (boundA_rel h2 hh) hc.1 hc.2.1 hc.2.2 (Nat.le_refl _)
        simp [Instr.sliceAt, run_underlying hd, Instr.slice, strV, size_mk, hb, extract_mk]
      · cases h
    · cases h
  · rename_i e sz es own hk
    obtain ⟨ti, hi', hk⟩ := Option.map_eq_some_iff.1 hk
    obtain ⟨d, hd, hkd⟩ := (hT t ti hi').kind
    rw [hk] at hkd
    cases hkd
    cases xm with
    | some m => exact hm.elim
    | none =>
    split at h
    · rename_i hes
      obtain ⟨ei, hei, hes⟩ := Option.map_eq_some_iff.1 hes
      rcases hv with ⟨rfl, hfree, rfl⟩ | ⟨b, o, cap, rfl, hcap, hown, hER⟩
      · split at h
        · rename_i l hN h1 h2
          split at h
          · rename_i hc
            obtain ⟨c1, c2, c3⟩ := hc
            simp only [List.length_nil, Int.ofNat_eq_natCast, Int.natCast_zero] at c3 h2
            have hl0 : l = 0 := by omega
            have hn0 : hN = 0 := by omega
            subst hl0; subst hn0
            cases h
            have hb := run_bounds (P := P) (w := w) (isS := true) (len := 0) (cap := 0) (boundA_rel h1 hl) (boundA_rel h2 hh) (Int.le_refl _) (Int.le_refl _) (Int.le_refl _) (Nat.le_refl _)
            refine ⟨_, by simp [Instr.sliceAt, run_underlying hd, Instr.slice, hb, run_size hT hei], .inl ⟨by simp, ?_, rfl⟩⟩
            split
            · exact hfree
            · trivial
          · cases h
        · cases h
      split at h
      · rename_i l hN h1 h2
        split at h
        · rename_i hc
          cases h
          have hb := run_bounds (P := P) (w := w) (isS := true) (len := es.length) (cap := cap) (boundA_rel h1 hl) (boundA_rel h2 hh) hc.1 hc.2.1 hc.2.2 hcap
          have hlen : ((es.take hN.toNat).drop l.toNat).length = hN.toNat - l.toNat := by simp; omega
          by_cases hcl : cap = l.toNat
          · -- nothing is left: the old address
            have hz : hN.toNat - l.toNat = 0 := by omega
            refine ⟨.slice (some ⟨b, o, none⟩) (hN.toNat - l.toNat) (cap - l.toNat), ?_, .inr ⟨b, o, cap - l.toNat, by rw [hlen], by rw [hlen]; omega, ?_, ?_⟩⟩
            · rw [hcl] at hb ⊢; simp [Instr.sliceAt, run_underlying hd, Instr.slice, hb, run_size hT hei]
            · split
              · rename_i hfull
                have hl0 : l.toNat = 0 := by omega
                have : (es.take hN.toNat).drop l.toNat = es := by rw [hl0, List.drop_zero, List.take_of_length_le (by omega)]
                rw [this, hl0]; exact hown
              · trivial
            · have : (es.take hN.toNat).drop l.toNat = [] := List.eq_nil_of_length_eq_zero (by omega)
              rw [this]; trivial
          · refine ⟨.slice (some ⟨b, o + l.toNat * sz, none⟩) (hN.toNat - l.toNat) (cap - l.toNat), ?_, .inr ⟨b, o + l.toNat * sz, cap - l.toNat, by rw [hlen], by rw [hlen]; omega, ?_, ?_⟩⟩
            · simp [Instr.sliceAt, run_underlying hd, Instr.slice, hb, run_size hT hei, hes, hcl, add_plain]
            · split
              · rename_i hfull
                have hl0 : l.toNat = 0 := by omega
                have : (es.take hN.toNat).drop l.toNat = es := by rw [hl0, List.drop_zero, List.take_of_length_le (by omega)]
                rw [this, hl0]; simpa using hown
              · trivial
            · exact (hER.take _).drop _
        · cases h
      · cases h
    · cases h
  · rename_i e hk
    obtain ⟨ti, hi', hk⟩ := Option.map_eq_some_iff.1 hk
    obtain ⟨d, hd, hkd⟩ := (hT t ti hi').kind
    rw [hk] at hkd
    cases hkd
    cases xm with
    | some m => exact hm.elim
    | none =>
    split at h
    · rename_i hes
      obtain ⟨n, hes⟩ := Option.isSome_iff_exists.1 hes
      obtain ⟨ei, hei, hes⟩ := Option.map_eq_some_iff.1 hes
      cases hv
      split at h
      · rename_i l hN h1 h2
        split at h
        · rename_i hc
          obtain ⟨rfl, rfl⟩ := hc
          cases h
          have hb := run_bounds (P := P) (w := w) (isS := true) (len := 0) (cap := 0) (boundA_rel h1 hl) (boundA_rel h2 hh) (Int.le_refl _) (Int.le_refl _) (Int.le_refl _) (Nat.le_refl _)
          exact ⟨_, by simp [Instr.sliceAt, run_underlying hd, Instr.slice, hb, run_size hT hei], rfl⟩
        · cases h
      · cases h
    · cases h
  · rename_i e sz es own m hk
    obtain ⟨ti, hi', hk⟩ := Option.map_eq_some_iff.1 hk
    obtain ⟨d, hd, hkd⟩ := (hT t ti hi').kind
    rw [hk] at hkd
    cases hkd
    cases xm with
    | none => exact hm.elim
    | some xm =>
    split at h
    · rename_i hes
      obtain ⟨ei, hei, hes⟩ := Option.map_eq_some_iff.1 hes
      rcases hv with ⟨rfl, hfree, rfl⟩ | ⟨b, o, cap, rfl, hcap, hown, hER⟩
      · split at h
        · rename_i l k hN k' m h1
          split at h
          · rename_i hc
            obtain ⟨rfl, rfl, rfl⟩ := hc
            cases h
            cases xh with
            | none => exact hh.elim
            | some xh =>
            cases hh; cases hm
            have hb := run_bounds3 (P := P) (w := w) (isS := true) (len := 0) (cap := 0) (k := k) (k' := k') (boundA_rel h1 hl) (Nat.le_refl _)
            exact ⟨_, by simp at hb; simp [Instr.sliceAt, run_underlying hd, Instr.slice, hb, run_size hT hei], .inl ⟨rfl, trivial, rfl⟩⟩
          · cases h
        · cases h
      split at h
      · rename_i l k hN k' m h1
        split at h
        · rename_i hc
          obtain ⟨rfl, rfl, rfl⟩ := hc
          cases h
          cases xh with
          | none => exact hh.elim
          | some xh =>
          cases hh; cases hm
          have hb := run_bounds3 (P := P) (w := w) (isS := true) (len := es.length) (cap := cap) (k := k) (k' := k') (boundA_rel h1 hl) hcap
          refine ⟨.slice (some ⟨b, o, none⟩) es.length es.length, ?_, .inr ⟨b, o, es.length, rfl, Nat.le_refl _, rfl, hER⟩⟩
          simp [Instr.sliceAt, run_underlying hd, Instr.slice, hb, run_size hT hei, add_plain]
        · cases h
      · cases h
    · cases h
  · rename_i e m hk
    obtain ⟨ti, hi', hk⟩ := Option.map_eq_some_iff.1 hk
    obtain ⟨d, hd, hkd⟩ := (hT t ti hi').kind
    rw [hk] at hkd
    cases hkd
    cases xm with
    | none => exact hm.elim
    | some xm =>
    split at h
    · rename_i hes
      obtain ⟨n, hes⟩ := Option.isSome_iff_exists.1 hes
      obtain ⟨ei, hei, hes⟩ := Option.map_eq_some_iff.1 hes
      cases hv
      split at h
      · rename_i l k hN k' m h1
        split at h
        · rename_i hc
          obtain ⟨rfl, rfl, rfl⟩ := hc
          cases h
          cases xh with
          | none => exact hh.elim
          | some xh =>
          cases hh; cases hm
          have hb := run_bounds3 (P := P) (w := w) (isS := true) (len := 0) (cap := 0) (k := k) (k' := k') (boundA_rel h1 hl) (Nat.le_refl _)
          exact ⟨_, by simp at hb; simp [Instr.sliceAt, run_underlying hd, Instr.slice, hb, run_size hT hei], rfl⟩
        · cases h
      · cases h
    · cases h
  · cases h
theorem unA_sound {op : UnOp} {a r : AV} {v : Value} (h : unA op a = some r) (hv : VR g w a v) : ∃ z, (Op.unary op v).run P w = .ok z w ∧ VR g w r z := by
  unfold unA at h
  split at h
  · cases h; cases hv; exact ⟨_, rfl, rfl⟩
  · cases h; cases hv; exact ⟨_, rfl, rfl⟩
  · cases h
theorem lenA_sound {t ty : TypeId} {ts : Array TypeId} {xs : Array Value} {a r : AV} {v : Value} (hT : TabOK P T) (h : lenA T t a = some r) (hv : VR g w a v)
    (ht : ts[0]? = some t) (hx : xs[0]? = some v) : ∃ z, (Builtin.len_ ts ty xs).run P w = .ok z w ∧ VR g w r z := by
  unfold lenA at h
  split at h
  · rename_i s hk
    obtain ⟨ti, hi', hk⟩ := Option.map_eq_some_iff.1 hk
    obtain ⟨d, hd, hkd⟩ := (hT t ti hi').kind
    rw [hk] at hkd; cases hkd; cases h; cases hv
    exact ⟨_, by simp [Builtin.len_, ht, hx, run_underlying hd, strV, size_mk, goInt], rfl⟩
  · rename_i sz es own hk
    obtain ⟨ti, hi', hk⟩ := Option.map_eq_some_iff.1 hk
    obtain ⟨d, hd, hkd⟩ := (hT t ti hi').kind
    rw [hk] at hkd; cases hkd; cases h
    rcases hv with ⟨rfl, _, rfl⟩ | ⟨b, o, cap, rfl, _⟩
    · exact ⟨_, by simp [Builtin.len_, ht, hx, run_underlying hd, goInt], rfl⟩
    · exact ⟨_, by simp [Builtin.len_, ht, hx, run_underlying hd, goInt], rfl⟩
  · rename_i hk
    obtain ⟨ti, hi', hk⟩ := Option.map_eq_some_iff.1 hk
    obtain ⟨d, hd, hkd⟩ := (hT t ti hi').kind
    rw [hk] at hkd; cases hkd; cases h; cases hv
    exact ⟨_, by simp [Builtin.len_, ht, hx, run_underlying hd, goInt], rfl⟩
  · rename_i hk
    obtain ⟨ti, hi', hk⟩ := Option.map_eq_some_iff.1 hk
    obtain ⟨d, hd, hkd⟩ := (hT t ti hi').kind
    rw [hk] at hkd; cases hkd; cases h
    obtain ⟨b, cap, rfl, _⟩ := hv
    exact ⟨_, by simp [Builtin.len_, ht, hx, run_underlying hd, goInt], rfl⟩
  · rename_i hk
    obtain ⟨ti, hi', hk⟩ := Option.map_eq_some_iff.1 hk
    obtain ⟨d, hd, hkd⟩ := (hT t ti hi').kind
    rw [hk] at hkd; cases hkd; cases h; cases hv
    exact ⟨_, by simp [Builtin.len_, ht, hx, run_underlying hd, goInt], rfl⟩
  · cases h
end
end Go.Av
