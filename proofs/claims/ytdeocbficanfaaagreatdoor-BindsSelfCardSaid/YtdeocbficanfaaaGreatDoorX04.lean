/-
  Go read by value: lemmas (part 4): A3.
-/
import Derived.Laws.Strings
import Derived.Laws.Entries
import Derived.ChangeKeysEq
import Derived.Test.YtdeocbficanfaaaGreatDoorX03
set_option linter.unusedVariables false
set_option linter.unusedSimpArgs false
set_option linter.unusedSectionVars false
namespace Go.Av
inductive TK where
  | int (k : IntKind)
  | bool
  | str
  | ptr (e : TypeId)
  | slice (e : TypeId)
  | map (k e : TypeId)
  | func
  | struct (fs : List (Nat × Nat × Bool))
  deriving DecidableEq, Inhabited
inductive ZC where
  | int (k : IntKind)
  | bool
  | str
  | nilp
  | slnil
  | mnil
  | nilf
  deriving DecidableEq, Inhabited
def ZC.av : ZC → AV
  | .int k => .int k 0
  | .bool => .bool false
  | .str => .str []
  | .nilp => .nilp
  | .slnil => .slnil
  | .mnil => .mnil
  | .nilf => .nilf
def ZC.val : ZC → Value
  | .int k => .int k 0
  | .bool => .bool false
  | .str => .string ⟨#[]⟩
  | .nilp => .pointer none
  | .slnil => .slice none 0 0
  | .mnil => .map none
  | .nilf => .nilFunc
structure TI where
  size : Nat
  kind : TK
  zero : List ZC
  deriving DecidableEq, Inhabited
def TI.isAgg (i : TI) : Bool := match i.kind with | .struct _ => true | _ => false
abbrev Tab := TypeId → Option TI
def isAggD : TypeDesc → Bool
  | .struct _ | .array _ _ => true
  | _ => false
def KOK (P : Program) : TK → TypeDesc → Prop
  | .int k, d => d = .int k
  | .bool, d => d = .bool
  | .str, d => d = .string
  | .ptr e, d => d = .pointer e
  | .slice e, d => d = .slice e
  | .map k e, d => d = .map k e
  | .func, d => ∃ a b c, d = .func a b c
  | .struct fs, d => ∃ fields : Array Field, d = .struct fields ∧ fields.size = fs.length ∧
      ∀ (j off s : Nat) (ag : Bool), fs[j]? = some (off, s, ag) → ∃ (f : Field) (fi : TypeInfo) (fd : TypeDesc), fields[j]? = some f ∧ f.offset = off ∧ P.info? f.type = some fi ∧ fi.size = s ∧ P.underlying f.type = some fd ∧ isAggD fd = ag
structure TIOK (P : Program) (t : TypeId) (i : TI) : Prop where
  info : ∃ ti, P.info? t = some ti ∧ ti.size = i.size ∧ ti.bytes ≤ 1048576 ∧
    ti.zero = some (if i.isAgg then .agg (i.zero.map ZC.val).toArray else (i.zero.map ZC.val).headD undef) ∧ i.zero.length = i.size ∧ (i.isAgg = false → i.size = 1)
  kind : ∃ d, P.underlying t = some d ∧ KOK P i.kind d
def TabOK (P : Program) (T : Tab) : Prop := ∀ t i, T t = some i → TIOK P t i
def TK.isAgg : TK → Bool
  | .struct _ => true
  | _ => false
theorem KOK.agg {P k d} (h : KOK P k d) : isAggD d = k.isAgg := by
  cases k with
  | struct fs => obtain ⟨f, rfl, _⟩ := h; rfl
  | func => obtain ⟨_, _, _, rfl⟩ := h; rfl
  | _ => cases h; rfl
section
variable {P : Program} {T : Tab}
theorem run_isAgg {t i} (h : TabOK P T) (ht : T t = some i) (w : World) : (isAgg t).run P w = .ok i.isAgg w := by
  obtain ⟨d, hd, hk⟩ := (h t i ht).kind
  have e : i.isAgg = isAggD d := by rw [hk.agg]; cases h : i.kind <;> simp [TI.isAgg, TK.isAgg, h]
  unfold isAgg
  simp only [Sem.run_bind, run_underlying hd, Result.andThen_ok, e]
  cases d <;> rfl
theorem run_size {t i} (h : TabOK P T) (ht : T t = some i) (w : World) : (sizeOf t).run P w = .ok i.size w := by
  obtain ⟨ti, h1, h2, _⟩ := (h t i ht).info
  simp only [sizeOf, Sem.run_bind, run_typeInfo (P := P) w h1, Result.andThen_ok, Sem.run_pure, h2]
def zval (i : TI) : Value := if i.isAgg then .agg (i.zero.map ZC.val).toArray else (i.zero.map ZC.val).headD undef
theorem run_zero {t i} (h : TabOK P T) (ht : T t = some i) (w : World) : (zeroValue t).run P w = .ok (zval i) w := by
  obtain ⟨ti, h1, _, _, h2, _⟩ := (h t i ht).info
  simp [zeroValue, run_typeInfo (P := P) w h1, h2, zval]
theorem ZC.rel {g w} (z : ZC) : VR g w z.av z.val := by cases z <;> simp [ZC.av, ZC.val, VR, strV]
theorem ZC.cell (z : ZC) : z.val.cells = #[z.val] := by cases z <;> rfl
theorem zcells_rel {g w} : ∀ (l : List ZC), AR g w (l.map ZC.av) (l.map ZC.val)
  | [] => AR.nil
  | z :: l => AR.cons z.rel (zcells_rel l)
theorem zval_cells {t i} (h : TabOK P T) (ht : T t = some i) : (zval i).cells.toList = i.zero.map ZC.val := by
  obtain ⟨_, _, _, _, _, hl, hs⟩ := (h t i ht).info
  unfold zval
  split
  · simp [Value.cells]
  · rename_i ha
    have : i.zero.length = 1 := hl.trans (hs (by simpa using ha))
    match hz : i.zero, this with
    | [z], _ => simp [ZC.cell]
end
def cellsA : AV → Option (List AV)
  | .agg cs => some cs
  | .any | .tuple _ => none
  | x => some [x]
theorem cellsA_rel {g w} : ∀ {a : AV} {cs : List AV} {v : Value}, cellsA a = some cs → VR g w a v → AR g w cs v.cells.toList
  | .agg _, _, _, h, ⟨vs, e, k⟩ => by cases h; subst e; simpa [Value.cells] using k
  | .int _ _, _, _, h, k => by cases h; cases k; exact AR.cons rfl AR.nil
  | .bool _, _, _, h, k => by cases h; cases k; exact AR.cons rfl AR.nil
  | .str _, _, _, h, k => by cases h; cases k; exact AR.cons rfl AR.nil
  | .nilp, _, _, h, k => by cases h; cases k; exact AR.cons rfl AR.nil
  | .ptr _, _, _, h, k => by cases h; obtain ⟨b, o, rfl, hc⟩ := k; exact AR.cons ⟨b, o, rfl, hc⟩ AR.nil
  | .ref _ _, _, _, h, k => by cases h; obtain ⟨b, hb, rfl⟩ := k; exact AR.cons ⟨b, hb, rfl⟩ AR.nil
  | .slnil, _, _, h, k => by cases h; cases k; exact AR.cons rfl AR.nil
  | .sl _ _ _, _, _, h, k => by
    cases h
    rcases k with ⟨rfl, hf, rfl⟩ | ⟨b, o, cap, rfl, hc⟩
    · exact AR.cons (.inl ⟨rfl, hf, rfl⟩) AR.nil
    · exact AR.cons (.inr ⟨b, o, cap, rfl, hc⟩) AR.nil
  | .fn _ _, _, _, h, k => by cases h; obtain ⟨vs, rfl, hc⟩ := k; exact AR.cons ⟨vs, rfl, hc⟩ AR.nil
  | .nilf, _, _, h, k => by cases h; cases k; exact AR.cons rfl AR.nil
  | .mnil, _, _, h, k => by cases h; cases k; exact AR.cons rfl AR.nil
  | .mref _, _, _, h, k => by cases h; obtain ⟨b, hb, rfl⟩ := k; exact AR.cons ⟨b, hb, rfl⟩ AR.nil
  | .mapv _ _, _, _, h, k => by cases h; obtain ⟨b, es, cl, rfl, hc⟩ := k; exact AR.cons ⟨b, es, cl, rfl, hc⟩ AR.nil
  | .osl _ _, _, _, h, k => by cases h; obtain ⟨b, cap, rfl, hc⟩ := k; exact AR.cons ⟨b, cap, rfl, hc⟩ AR.nil
def intA (op : BinOp) (k : IntKind) (a b : Int) : Option AV :=
  match op with
  | .add => some (.int k (k.wrap (a + b)))
  | .sub => some (.int k (k.wrap (a - b)))
  | .mul => some (.int k (k.wrap (a * b)))
  | .quo => if b = 0 then none else some (.int k (k.wrap (a.tdiv b)))
  | .rem => if b = 0 then none else some (.int k (a.tmod b))
  | .eql => some (.bool (a == b))
  | .neq => some (.bool (a != b))
  | .lss => some (.bool (a < b))
  | .leq => some (.bool (a ≤ b))
  | .gtr => some (.bool (a > b))
  | .geq => some (.bool (a ≥ b))
  | _ => none
def strA (op : BinOp) (a b : List UInt8) : Option AV :=
  match op with
  | .add => if a.length + b.length ≤ 1099511627776 then some (.str (a ++ b)) else none
  | .eql => some (.bool (a == b))
  | .neq => some (.bool !(a == b))
  | .lss => some (.bool (Op.bytesLess a b))
  | .leq => some (.bool (Op.bytesLess a b || a == b))
  | .gtr => some (.bool !(Op.bytesLess a b || a == b))
  | .geq => some (.bool !(Op.bytesLess a b))
  | _ => none
def isNilA (k : TK) : AV → Option Bool
  | .nilp => match k with | .ptr _ => some true | _ => none
  | .ptr _ => match k with | .ptr _ => some false | _ => none
  | .ref _ _ => match k with | .ptr _ => some false | _ => none
  | .slnil => match k with | .slice _ => some true | _ => none
  | .sl _ es _ => if es.isEmpty then none else match k with | .slice _ => some false | _ => none
  | .mnil => match k with | .map _ _ => some true | _ => none
  | .mref _ => match k with | .map _ _ => some false | _ => none
  | .mapv _ _ => match k with | .map _ _ => some false | _ => none
  | .nilf => match k with | .func => some true | _ => none
  | .fn _ _ => match k with | .func => some false | _ => none
  | _ => none
def nilA (op : BinOp) (k : TK) (x y : AV) : Option AV :=
  match isNilA k x, isNilA k y with
  | some a, some b =>
    if a || b then
      match op with
      | .eql => some (.bool (a && b))
      | .neq => some (.bool !(a && b))
      | _ => none
    else none
  | _, _ => none
def binA (T : Tab) (op : BinOp) (t : TypeId) (x y : AV) : Option AV :=
  match x, y with
  | .int k a, .int k' b => if k = k' then intA op k a b else none
  | .str a, .str b => strA op a b
  | .bool a, .bool b =>
    match (T t).map (·.kind), op with
    | some TK.bool, .eql => some (.bool (a == b))
    | some TK.bool, .neq => some (.bool !(a == b))
    | _, _ => none
  | x, y => (T t).bind fun i => nilA op i.kind x y
section
variable {P : Program} {T : Tab} {W0 : World} {g : Gh} {w : World}
theorem strA_sound {op : BinOp} {a b : List UInt8} {r : AV} (h : strA op a b = some r) : ∃ v, (Op.stringOp op ⟨a.toArray⟩ ⟨b.toArray⟩).run P w = .ok v w ∧ VR g w r v := by
  unfold strA at h
  unfold Op.stringOp
  cases op <;> simp only [reduceCtorEq] at h ⊢
  case add =>
    split at h
    · rename_i hl
      cases h
      have : ¬ (((ByteArray.mk a.toArray).size + (ByteArray.mk b.toArray).size : Nat) : Int) > IntKind.i64.max := by
        simp [ByteArray.size, IntKind.max, IntKind.signed, IntKind.bits]; omega
      rw [if_neg this]
      refine ⟨_, rfl, ?_⟩
      show Value.string _ = strV (a ++ b)
      unfold strV
      exact congrArg Value.string (by ext1; simp)
    · cases h
  all_goals (cases h; refine ⟨_, rfl, ?_⟩; simp [VR])
theorem intA_sound {op : BinOp} {k a b} {r : AV} {t : TypeId} (h : intA op k a b = some r) : ∃ v, (binOp op t (.int k a) (.int k b)).run P w = .ok v w ∧ VR g w r v := by
  unfold intA at h
  cases op <;> simp only [reduceCtorEq] at h
  case quo => split at h <;> cases h; exact ⟨_, by simp [binOp, Op.intDiv, *], rfl⟩
  case rem => split at h <;> cases h; exact ⟨_, by simp [binOp, Op.intDiv, *], rfl⟩
  all_goals (cases h; exact ⟨_, by simp [binOp, Op.intArith, Op.intCmp], rfl⟩)
def nilForm (k : TK) (a : Bool) (u : Value) : Prop :=
  match k with
  | .ptr _ => ∃ p, u = .pointer p ∧ a = p.isNone
  | .slice _ => ∃ p l c, u = .slice p l c ∧ a = p.isNone
  | .map _ _ => ∃ r, u = .map r ∧ a = r.isNone
  | .func => (u = .nilFunc ∧ a = true) ∨ (∃ f vs, u = .func (.func f) #[] vs ∧ a = false)
  | _ => False
theorem isNilA_val {k : TK} {x : AV} {a : Bool} {u : Value} (h : isNilA k x = some a) (hx : VR g w x u) : nilForm k a u := by
  by_cases hs : ∃ sz es own, x = .sl sz es own
  · obtain ⟨sz, es, own, rfl⟩ := hs
    simp only [isNilA] at h
    split at h
    · cases h
    · rename_i he
      rcases hx with ⟨rfl, _⟩ | ⟨b, o, c, e, _⟩
      · simp at he
      · split at h
        · cases h; exact ⟨_, _, _, e, rfl⟩
        · cases h
  cases x <;> (try exact absurd ⟨_, _, _, rfl⟩ hs) <;> simp only [isNilA, reduceCtorEq] at h <;> cases k <;> simp only [reduceCtorEq] at h <;> cases h <;> simp only [VR] at hx
  · exact ⟨_, hx, rfl⟩
  · obtain ⟨b, o, e, _⟩ := hx; exact ⟨_, e, rfl⟩
  · obtain ⟨b, _, e⟩ := hx; exact ⟨_, e, rfl⟩
  · exact ⟨_, _, _, hx, rfl⟩
  · obtain ⟨vs, e, _⟩ := hx; exact .inr ⟨_, _, e, rfl⟩
  · exact .inl ⟨hx, rfl⟩
  · exact ⟨_, hx, rfl⟩
  · obtain ⟨b, _, e⟩ := hx; exact ⟨_, e, rfl⟩
  · obtain ⟨b, _, _, e, _⟩ := hx; exact ⟨_, e, rfl⟩
theorem equal_succ (t : TypeId) (u v : Value) : Op.equal t u v = Op.equalIn (9999 + 1) t u v := rfl
theorem equal_ptr {t e : TypeId} (hd : P.underlying t = some (.pointer e)) (p q : Option Addr) (h : (p.isNone || q.isNone) = true) :
    (Op.equal t (.pointer p) (.pointer q)).run P w = .ok (p.isNone && q.isNone) w := by
  rw [equal_succ]
  generalize 9999 = n
  cases p <;> cases q <;> simp at h <;> simp [Op.equalIn, run_underlying hd]
theorem equal_slice {t e : TypeId} (hd : P.underlying t = some (.slice e)) (p q : Option Addr) (l c l' c' : Nat) (h : (p.isNone || q.isNone) = true) :
    (Op.equal t (.slice p l c) (.slice q l' c')).run P w = .ok (p.isNone && q.isNone) w := by
  rw [equal_succ]
  generalize 9999 = n
  cases p <;> cases q <;> simp at h <;> simp [Op.equalIn, run_underlying hd]
theorem equal_map {t k e : TypeId} (hd : P.underlying t = some (.map k e)) (p q : Option Nat) (h : (p.isNone || q.isNone) = true) :
    (Op.equal t (.map p) (.map q)).run P w = .ok (p.isNone && q.isNone) w := by
  rw [equal_succ]
  generalize 9999 = n
  cases p <;> cases q <;> simp at h <;> simp [Op.equalIn, run_underlying hd]
theorem equal_bool {t : TypeId} (hd : P.underlying t = some .bool) (a b : Bool) : (Op.equal t (.bool a) (.bool b)).run P w = .ok (a == b) w := by
  rw [equal_succ]
  generalize 9999 = n
  simp [Op.equalIn, run_underlying hd]
theorem bin_eql {t : TypeId} {u v : Value} {b : Bool} (h : (Op.equal t u v).run P w = .ok b w) (e : binOp .eql t u v = (do pure (.bool (← Op.equal t u v)))) :
    (binOp .eql t u v).run P w = .ok (.bool b) w := by rw [e, Sem.run_bind, h]; rfl
theorem bin_neq {t : TypeId} {u v : Value} {b : Bool} (h : (Op.equal t u v).run P w = .ok b w) (e : binOp .neq t u v = (do pure (.bool (!(← Op.equal t u v))))) :
    (binOp .neq t u v).run P w = .ok (.bool !b) w := by rw [e, Sem.run_bind, h]; rfl
theorem nilA_sound {op : BinOp} {t : TypeId} {i : TI} {x y r : AV} {u v : Value} (hT : TabOK P T) (ht : T t = some i) (h : nilA op i.kind x y = some r)
    (hx : VR g w x u) (hy : VR g w y v) : ∃ z, (binOp op t u v).run P w = .ok z w ∧ VR g w r z := by
  obtain ⟨d, hd, hk⟩ := (hT t i ht).kind
  generalize i.kind = kd at *
  have main : ∀ a b : Bool, isNilA kd x = some a → isNilA kd y = some b → (a || b) = true →
      (binOp .eql t u v).run P w = .ok (.bool (a && b)) w ∧ (binOp .neq t u v).run P w = .ok (.bool !(a && b)) w := by
    intro a b ha hb hab
    have fa := isNilA_val ha hx
    have fb := isNilA_val hb hy
    cases kd <;> simp only [nilForm] at fa fb
    case ptr e =>
      obtain ⟨p, rfl, rfl⟩ := fa
      obtain ⟨q, rfl, rfl⟩ := fb
      cases hk
      exact ⟨bin_eql (equal_ptr hd p q hab) rfl, bin_neq (equal_ptr hd p q hab) rfl⟩
    case slice e =>
      obtain ⟨p, l, c, rfl, rfl⟩ := fa
      obtain ⟨q, l', c', rfl, rfl⟩ := fb
      cases hk
      exact ⟨bin_eql (equal_slice hd p q _ _ _ _ hab) rfl, bin_neq (equal_slice hd p q _ _ _ _ hab) rfl⟩
    case map k e =>
      obtain ⟨p, rfl, rfl⟩ := fa
      obtain ⟨q, rfl, rfl⟩ := fb
      cases hk
      exact ⟨bin_eql (equal_map hd p q hab) rfl, bin_neq (equal_map hd p q hab) rfl⟩
    case func =>
      obtain ⟨_, _, _, rfl⟩ := hk
      rcases fa with ⟨rfl, rfl⟩ | ⟨f, vs, rfl, rfl⟩ <;> rcases fb with ⟨rfl, rfl⟩ | ⟨f', vs', rfl, rfl⟩ <;> (try (exfalso; simp at hab; done))
      all_goals
        refine ⟨bin_eql ?_ rfl, bin_neq ?_ rfl⟩ <;>
          (rw [equal_succ]; generalize 9999 = n; simp [Op.equalIn, run_underlying hd])
  unfold nilA at h
  split at h
  · rename_i a b ha hb
    split at h
    · rename_i hab
      obtain ⟨k1, k2⟩ := main a b ha hb hab
      split at h
      · cases h; exact ⟨_, k1, rfl⟩
      · cases h; exact ⟨_, k2, rfl⟩
      · cases h
    · cases h
  · cases h
theorem eqGuard_ok {op : BinOp} {t : TypeId} {x y : Operand} {u v : Value} (h1 : u ≠ .nilIface) (h2 : ∀ c, u ≠ .agg c) : (eqGuard op t x y u v).run P w = .ok () w := by
  cases u <;> first | exact absurd rfl h1 | exact absurd rfl (h2 _) | (cases op <;> rfl)
theorem binA_sound {op : BinOp} {t : TypeId} {x y r : AV} {u v : Value} (hT : TabOK P T) (h : binA T op t x y = some r)
    (hx : VR g w x u) (hy : VR g w y v) : ∃ z, (binOp op t u v).run P w = .ok z w ∧ VR g w r z ∧ u ≠ .nilIface ∧ (∀ c, u ≠ .agg c) := by
  unfold binA at h
  split at h
  · split at h
    · rename_i e; subst e
      cases hx; cases hy
      obtain ⟨z, h1, h2⟩ := intA_sound (P := P) (w := w) (g := g) (t := t) h
      exact ⟨z, h1, h2, by simp, by simp⟩
    · cases h
  · cases hx; cases hy
    obtain ⟨z, h1, h2⟩ := strA_sound (P := P) (w := w) (g := g) h
    exact ⟨z, by cases op <;> exact h1, h2, by simp [strV], by simp [strV]⟩
  · cases hx; cases hy
    split at h
    · rename_i hk
      obtain ⟨i, hi, hk⟩ := Option.map_eq_some_iff.1 hk
      obtain ⟨d, hd, hkd⟩ := (hT t i hi).kind
      rw [hk] at hkd
      cases hkd
      cases h
      exact ⟨_, bin_eql (equal_bool hd _ _) rfl, rfl, by simp, by simp⟩
    · rename_i hk
      obtain ⟨i, hi, hk⟩ := Option.map_eq_some_iff.1 hk
      obtain ⟨d, hd, hkd⟩ := (hT t i hi).kind
      rw [hk] at hkd
      cases hkd
      cases h
      exact ⟨_, bin_neq (equal_bool hd _ _) rfl, rfl, by simp, by simp⟩
    · cases h
  · obtain ⟨i, hi, h⟩ := Option.bind_eq_some_iff.1 h
    obtain ⟨z, h1, h2⟩ := nilA_sound hT hi h hx hy
    refine ⟨z, h1, h2, ?_⟩
    unfold nilA at h
    split at h
    · rename_i a b ha hb
      have := isNilA_val ha hx
      cases hk : i.kind <;> rw [hk] at this <;> simp only [nilForm] at this
      · obtain ⟨_, rfl, _⟩ := this; simp
      · obtain ⟨_, _, _, rfl, _⟩ := this; simp
      · obtain ⟨_, rfl, _⟩ := this; simp
      · rcases this with ⟨rfl, _⟩ | ⟨_, _, rfl, _⟩ <;> simp
    · cases h
end
end Go.Av
