/-
  Go read by value: lemmas (part 11): A15, A16, A17.
-/
import Derived.Test.YtdeocbficanfaaaGreatDoorX10
set_option linter.unusedVariables false
set_option linter.unusedSimpArgs false
set_option linter.unusedSectionVars false
namespace Go.Av
section
variable {P : Program} {T : Tab} {mu : TypeId → Bool} {W0 : World} {st : St} {Q : Exit → St → Prop}
def runNext (T : Tab) (mu : TypeId → Bool) (k : St → Option St) (st : St) (dst : Option Tmp) : Option (Hp × AV) → Option St
  | some r => k (St.put { st with H := r.1 } dst r.2)
  | none => none
def runA (T : Tab) (mu : TypeId → Bool) (ops : Array Oper) : List Oper → St → Option St
  | [], st => some st
  | o :: l, st => runNext T mu (runA T mu ops l) st o.dst (stepA T mu ops st o)
theorem aops_run {ops : Array Oper} {l2 : List Oper} {st' : St} (hT : TabOK P T) : ∀ {l1 : List Oper} {st : St}, runA T mu ops l1 st = some st' → AOps P W0 ops l2 st' Q → AOps P W0 ops (l1 ++ l2) st Q
  | [], st, h, k => by cases h; exact k
  | o :: l, st, h, k => by
    simp only [runA] at h
    cases hs : stepA T mu ops st o with
    | none => rw [hs] at h; cases h
    | some r =>
      rw [hs] at h
      exact aops_step hT hs (aops_run hT h k)
theorem awp_run {id : Nat} {l : List Oper} {st' : St} (hT : TabOK P T) (h : runA T mu l.toArray l st = some st') (k : Q .normal st') : AWP P W0 (.region id l.toArray false) st Q := by
  refine awp_region ?_
  have := aops_run (P := P) (W0 := W0) (Q := Q) hT h (aops_nil k)
  rwa [List.append_nil] at this
theorem aops_take {ops : Array Oper} {l : List Oper} (n : Nat) {st' : St} (hT : TabOK P T) (h : runA T mu ops (l.take n) st = some st') (k : AOps P W0 ops (l.drop n) st' Q) : AOps P W0 ops l st Q := by
  have := aops_run hT h k
  rwa [List.take_append_drop] at this
theorem aops_fn {ops : Array Oper} {rest : List Oper} {o : Oper} {c : Call} {f : FuncId} {d : Nat} {args : List AV} (ho : o.op = .call c) (hc : c.callee = .value (.func f)) (hg : o.guard = none) (hd : o.dst = some d)
    (hen : enters P f) (ha : c.args.toList.map st.eval = args)
    (h : SF P W0 f args st.H fun r H' => AOps P W0 ops rest (St.put { st with H := H' } (some d) r) Q) : AOps P W0 ops (o :: rest) st Q := by
  refine aops_call (by simp [wantA, hg]) ho hc (f := f) (caps := []) rfl hen ?_
  rw [List.append_nil, ha, hd]
  exact h
end
attribute [simp] look absV intA strA unA boundA litA restA lookOut envOf ZC.av
@[simp] theorem okCell_int (k : IntKind) (n : Int) : okCell (.int k n) = true := rfl
@[simp] theorem cellsA_int (k : IntKind) (n : Int) : cellsA (.int k n) = some [.int k n] := rfl
@[simp] theorem okCell_bool (b : Bool) : okCell (.bool b) = true := rfl
@[simp] theorem cellsA_bool (b : Bool) : cellsA (.bool b) = some [.bool b] := rfl
@[simp] theorem okCell_str (s : List UInt8) : okCell (.str s) = true := rfl
@[simp] theorem cellsA_str (s : List UInt8) : cellsA (.str s) = some [.str s] := rfl
@[simp] theorem okCell_nilp  : okCell (.nilp) = true := rfl
@[simp] theorem cellsA_nilp  : cellsA (.nilp) = some [.nilp] := rfl
@[simp] theorem okCell_ptr (cs : List AV) : okCell (.ptr cs) = true := rfl
@[simp] theorem cellsA_ptr (cs : List AV) : cellsA (.ptr cs) = some [.ptr cs] := rfl
@[simp] theorem okCell_ref (r k : Nat) : okCell (.ref r k) = true := rfl
@[simp] theorem cellsA_ref (r k : Nat) : cellsA (.ref r k) = some [.ref r k] := rfl
@[simp] theorem okCell_slnil  : okCell (.slnil) = true := rfl
@[simp] theorem cellsA_slnil  : cellsA (.slnil) = some [.slnil] := rfl
@[simp] theorem okCell_sl (sz : Nat) (es : List (List AV)) (own : Own) : okCell (.sl sz es own) = true := rfl
@[simp] theorem cellsA_sl (sz : Nat) (es : List (List AV)) (own : Own) : cellsA (.sl sz es own) = some [.sl sz es own] := rfl
@[simp] theorem okCell_fn (f : FuncId) (cs : List AV) : okCell (.fn f cs) = true := rfl
@[simp] theorem cellsA_fn (f : FuncId) (cs : List AV) : cellsA (.fn f cs) = some [.fn f cs] := rfl
@[simp] theorem okCell_nilf  : okCell (.nilf) = true := rfl
@[simp] theorem cellsA_nilf  : cellsA (.nilf) = some [.nilf] := rfl
@[simp] theorem okCell_mnil  : okCell (.mnil) = true := rfl
@[simp] theorem cellsA_mnil  : cellsA (.mnil) = some [.mnil] := rfl
@[simp] theorem okCell_mref (r : Nat) : okCell (.mref r) = true := rfl
@[simp] theorem cellsA_mref (r : Nat) : cellsA (.mref r) = some [.mref r] := rfl
@[simp] theorem okCell_osl (r n : Nat) : okCell (.osl r n) = true := rfl
@[simp] theorem cellsA_osl (r n : Nat) : cellsA (.osl r n) = some [.osl r n] := rfl
@[simp] theorem okCell_mapv (ks : List (List UInt8)) (vs : List AV) : okCell (.mapv ks vs) = true := rfl
@[simp] theorem cellsA_mapv (ks : List (List UInt8)) (vs : List AV) : cellsA (.mapv ks vs) = some [.mapv ks vs] := rfl
@[simp] theorem cellsA_agg (cs : List AV) : cellsA (.agg cs) = some cs := rfl
def keep (H : Hp) : Option AV → Option (Hp × AV)
  | some r => some (H, r)
  | none => none
@[simp] theorem keep_some (H : Hp) (r : AV) : keep H (some r) = some (H, r) := rfl
def keepH : Option Hp → Option (Hp × AV)
  | some H => some (H, .tuple [])
  | none => none
@[simp] theorem keepH_some (H : Hp) : keepH (some H) = some (H, .tuple []) := rfl
def swapH : Option (AV × Hp) → Option (Hp × AV)
  | some r => some (r.2, r.1)
  | none => none
@[simp] theorem swapH_some (r : AV) (H : Hp) : swapH (some (r, H)) = some (H, r) := rfl
theorem map_keep (H : Hp) (x : Option AV) : (x.map fun r => (H, r)) = keep H x := by cases x <;> rfl
theorem map_keepH (x : Option Hp) : (x.map fun H => (H, AV.tuple [])) = keepH x := by cases x <;> rfl
theorem map_swapH (x : Option (AV × Hp)) : (x.map fun r => (r.2, r.1)) = swapH x := by cases x <;> rfl
section
variable {T : Tab} {mu : TypeId → Bool} {ops : Array Oper} {st : St} {dst : Option Tmp} {ty : TypeId} {pos : String} {after : Array Edge}
@[simp] theorem ev_tmp (n : Nat) (e : List (Nat × AV)) (H : Hp) (t : Nat) : (St.mk n e H).eval (.tmp t) = look e t := rfl
@[simp] theorem ev_const (n : Nat) (e : List (Nat × AV)) (H : Hp) (v : Value) : (St.mk n e H).eval (.const v) = absV v := rfl
@[simp] theorem ev_func (n : Nat) (e : List (Nat × AV)) (H : Hp) (f : FuncId) : (St.mk n e H).eval (.func f) = .fn f [] := rfl
@[simp] theorem put_mk (n : Nat) (e : List (Nat × AV)) (H : Hp) (d : Nat) (v : AV) (h : d < n) : St.put ⟨n, e, H⟩ (some d) v = ⟨n, (d, v) :: e, H⟩ := by simp [St.put, h]
@[simp] theorem put_mk_none (n : Nat) (e : List (Nat × AV)) (H : Hp) (v : AV) : St.put ⟨n, e, H⟩ none v = ⟨n, e, H⟩ := rfl
@[simp] theorem runA_nil : runA T mu ops [] st = some st := rfl
@[simp] theorem runA_cons (o : Oper) (l : List Oper) : runA T mu ops (o :: l) st = runNext T mu (runA T mu ops l) st o.dst (stepA T mu ops st o) := rfl
@[simp] theorem runNext_some (k : St → Option St) (n : Nat) (e : List (Nat × AV)) (H H' : Hp) (d : Option Tmp) (y : AV) : runNext T mu k ⟨n, e, H⟩ d (some (H', y)) = k (St.put ⟨n, e, H'⟩ d y) := rfl
def nthO : List Oper → Nat → Option Oper
  | [], _ => none
  | o :: l, i => if i = 0 then some o else nthO l (i - 1)
theorem nthO_get : ∀ (l : List Oper) (i : Nat), nthO l i = l[i]?
  | [], i => by simp [nthO]
  | o :: l, 0 => by simp [nthO]
  | o :: l, i + 1 => by simp [nthO, nthO_get l i]
theorem nthO_arr (ops : Array Oper) (i : Nat) : ops[i]? = nthO ops.toList i := by rw [nthO_get]; simp
@[simp] theorem nthO_cons (o : Oper) (l : List Oper) (i : Nat) : nthO (o :: l) i = if i = 0 then some o else nthO l (i - 1) := rfl
def dstO : Option Oper → Option Tmp
  | some o => o.dst
  | none => none
@[simp] theorem dstO_some (o : Oper) : dstO (some o) = o.dst := rfl
def gw (want : Bool) : AV → Option Bool
  | .bool b => some (b == want)
  | .tuple [] => some false
  | _ => none
@[simp] theorem gw_bool (want b : Bool) : gw want (.bool b) = some (b == want) := rfl
@[simp] theorem gw_undef (want : Bool) : gw want (.tuple []) = some false := rfl
def gwant (want : Bool) (st : St) : Option Tmp → Option Bool
  | some d => if d < st.n then gw want (look st.env d) else none
  | none => none
@[simp] theorem gwant_mk (want : Bool) (n : Nat) (e : List (Nat × AV)) (H : Hp) (d : Nat) (h : d < n) : gwant want ⟨n, e, H⟩ (some d) = gw want (look e d) := by simp [gwant, h]
def gsel (H : Hp) (yes other : Option (Hp × AV)) : Option Bool → Option (Hp × AV)
  | some true => yes
  | some false => some (H, .tuple [])
  | none => other
@[simp] theorem gsel_true (H : Hp) (yes other : Option (Hp × AV)) : gsel H yes other (some true) = yes := rfl
@[simp] theorem gsel_false (H : Hp) (yes other : Option (Hp × AV)) : gsel H yes other (some false) = some (H, .tuple []) := rfl
def stepX := stepA
@[simp] theorem st_guard {op : Op} {j : Nat} {want : Bool} :
    stepA T mu ops st ⟨dst, op, ty, pos, after, some (j, want)⟩ = gsel st.H (stepA T mu ops st ⟨dst, op, ty, pos, after, none⟩) (stepX T mu ops st ⟨dst, op, ty, pos, after, some (j, want)⟩) (gwant want st (dstO (nthO ops.toList j))) := by
  have hd0 : dstO (nthO ops.toList j) = (ops[j]?).bind (·.dst) := by rw [nthO_arr]; cases nthO ops.toList j <;> rfl
  rw [hd0]
  cases hg : gwant want st ((ops[j]?).bind (·.dst)) with
  | none => rfl
  | some b =>
    have hw : wantA ops st ⟨dst, op, ty, pos, after, some (j, want)⟩ = some b := by
      simp only [wantA]
      unfold gwant at hg
      split at hg
      · rename_i d hd
        rw [hd]
        split at hg
        · rename_i hlt
          simp only [hlt, if_true]
          unfold gw at hg
          split at hg
          · rename_i b' hb'; cases hg; rw [hb']
          · rename_i hb'; cases hg; rw [hb']
          · cases hg
        · cases hg
      · cases hg
    unfold stepA
    rw [hw]
    have hw' : wantA ops st ⟨dst, op, ty, pos, after, none⟩ = some true := rfl
    rw [hw']
    cases b <;> rfl
@[simp] theorem st_move {x : Operand} : stepA T mu ops st ⟨dst, .move x, ty, pos, after, none⟩ = some (st.H, st.eval x) := rfl
@[simp] theorem st_assign {x : Operand} : stepA T mu ops st ⟨dst, .assign x, ty, pos, after, none⟩ = some (st.H, st.eval x) := rfl
def pickA (a b : AV) : AV → Option AV
  | .bool x => some (if x then a else b)
  | _ => none
@[simp] theorem pickA_bool (a b : AV) (x : Bool) : pickA a b (.bool x) = some (if x then a else b) := rfl
@[simp] theorem st_pick {c x y : Operand} : stepA T mu ops st ⟨dst, .pick c x y, ty, pos, after, none⟩ = keep st.H (pickA (st.eval x) (st.eval y) (st.eval c)) := by
  show ((pureA T st (.pick c x y)).map fun r => (st.H, r)) = _
  rw [map_keep]; simp only [pureA, pickA]
  cases st.eval c <;> rfl
def chkA : AV → Option AV
  | .ptr cs => some (.ptr cs) | .ref r k => some (.ref r k) | .fn f cs => some (.fn f cs) | _ => none
@[simp] theorem chkA_ptr (cs : List AV) : chkA (.ptr cs) = some (.ptr cs) := rfl
@[simp] theorem chkA_ref (r k : Nat) : chkA (.ref r k) = some (.ref r k) := rfl
@[simp] theorem chkA_fn (f : FuncId) (cs : List AV) : chkA (.fn f cs) = some (.fn f cs) := rfl
@[simp] theorem st_nilCheck {x : Operand} : stepA T mu ops st ⟨dst, .nilCheck x, ty, pos, after, none⟩ = keep st.H (chkA (st.eval x)) := by
  show ((pureA T st (.nilCheck x)).map fun r => (st.H, r)) = _
  rw [map_keep]; simp only [pureA, chkA]
  cases st.eval x <;> rfl
@[simp] theorem st_binOp {op : BinOp} {t yt : TypeId} {x y : Operand} : stepA T mu ops st ⟨dst, .binOp op t x y yt, ty, pos, after, none⟩ = keep st.H (binA T op t (st.eval x) (st.eval y)) := map_keep ..
@[simp] theorem st_unOp {op : UnOp} {t : TypeId} {x : Operand} : stepA T mu ops st ⟨dst, .unOp op t x, ty, pos, after, none⟩ = keep st.H (unA op (st.eval x)) := map_keep ..
@[simp] theorem st_convert {s d : TypeId} {x : Operand} : stepA T mu ops st ⟨dst, .convert s d x, ty, pos, after, none⟩ = keep st.H (convA T s d (st.eval x)) := map_keep ..
@[simp] theorem st_load {t : TypeId} {x : Operand} : stepA T mu ops st ⟨dst, .load t x, ty, pos, after, none⟩ = keep st.H (loadA T st.H t (st.eval x)) := map_keep ..
@[simp] theorem st_fieldAddr {s : TypeId} {x : Operand} {f : Nat} : stepA T mu ops st ⟨dst, .fieldAddr s x f, ty, pos, after, none⟩ = keep st.H (fieldA T s f (st.eval x)) := map_keep ..
@[simp] theorem st_field {s : TypeId} {x : Operand} {f : Nat} : stepA T mu ops st ⟨dst, .field s x f, ty, pos, after, none⟩ = keep st.H (partA T s f (st.eval x)) := map_keep ..
@[simp] theorem st_indexAddr {t : TypeId} {x i : Operand} : stepA T mu ops st ⟨dst, .indexAddr t x i, ty, pos, after, none⟩ = keep st.H (elemA T t (st.eval x) (st.eval i)) := map_keep ..
@[simp] theorem st_index {t : TypeId} {x i : Operand} : stepA T mu ops st ⟨dst, .index t x i, ty, pos, after, none⟩ = keep st.H (byteA T t (st.eval x) (st.eval i)) := map_keep ..
@[simp] theorem st_slice {t : TypeId} {x : Operand} {lo hi mx : Option Operand} : stepA T mu ops st ⟨dst, .slice t x lo hi mx, ty, pos, after, none⟩ = keep st.H (sliceA T t (st.eval x) (lo.map st.eval) (hi.map st.eval) (mx.map st.eval)) := map_keep ..
@[simp] theorem st_build {t : TypeId} {ps : Array (Nat × Operand)} : stepA T mu ops st ⟨dst, .build t ps, ty, pos, after, none⟩ = keep st.H (buildA T t (ps.toList.map fun p => (p.1, st.eval p.2))) := map_keep ..
def extA (i : Nat) : AV → Option AV
  | .tuple vs => vs[i]?
  | _ => none
@[simp] theorem extA_tuple (i : Nat) (vs : List AV) : extA i (.tuple vs) = vs[i]? := rfl
@[simp] theorem st_extract {x : Operand} {i : Nat} : stepA T mu ops st ⟨dst, .extract x i, ty, pos, after, none⟩ = keep st.H (extA i (st.eval x)) := by
  show ((pureA T st (.extract x i)).map fun r => (st.H, r)) = _
  rw [map_keep]; simp only [pureA, extA]
  cases st.eval x <;> rfl
@[simp] theorem st_makeFunc {f : FuncId} {caps : Array Operand} : stepA T mu ops st ⟨dst, .makeFunc (.func f) #[] caps, ty, pos, after, none⟩ = some (st.H, .fn f (caps.toList.map st.eval)) := rfl
@[simp] theorem st_len {t : TypeId} {x : Operand} : stepA T mu ops st ⟨dst, .call ⟨.builtin .len, #[x], #[t]⟩, ty, pos, after, none⟩ = keep st.H (lenA T t (st.eval x)) := map_keep ..
def maxA : AV → AV → Option AV
  | .int k a, .int _ b => some (.int k (if b > a then b else a))
  | _, _ => none
def minA : AV → AV → Option AV
  | .int k a, .int _ b => some (.int k (if b < a then b else a))
  | _, _ => none
@[simp] theorem maxA_int (k k' : IntKind) (a b : Int) : maxA (.int k a) (.int k' b) = some (.int k (if b > a then b else a)) := rfl
@[simp] theorem minA_int (k k' : IntKind) (a b : Int) : minA (.int k a) (.int k' b) = some (.int k (if b < a then b else a)) := rfl
@[simp] theorem st_max {ts : Array TypeId} {x y : Operand} : stepA T mu ops st ⟨dst, .call ⟨.builtin .max, #[x, y], ts⟩, ty, pos, after, none⟩ = keep st.H (maxA (st.eval x) (st.eval y)) := by
  unfold stepA; simp only [wantA, pureA, map_keep, maxA]
  cases st.eval x <;> cases st.eval y <;> rfl
@[simp] theorem st_min {ts : Array TypeId} {x y : Operand} : stepA T mu ops st ⟨dst, .call ⟨.builtin .min, #[x, y], ts⟩, ty, pos, after, none⟩ = keep st.H (minA (st.eval x) (st.eval y)) := by
  unfold stepA; simp only [wantA, pureA, map_keep, minA]
  cases st.eval x <;> cases st.eval y <;> rfl
@[simp] theorem st_store {t : TypeId} {p x : Operand} : stepA T mu ops st ⟨dst, .store t p x, ty, pos, after, none⟩ = keepH (storeA T st.H t (st.eval p) (st.eval x)) := map_keepH ..
@[simp] theorem st_box {t : TypeId} {x : Operand} : stepA T mu ops st ⟨dst, .box t x, ty, pos, after, none⟩ = swapH (boxA mu st.H t (st.eval x)) := map_swapH ..
@[simp] theorem st_alloc {t : TypeId} : stepA T mu ops st ⟨dst, .alloc t, ty, pos, after, none⟩ = swapH (allocA T st.H t) := map_swapH ..
@[simp] theorem st_buildSlice {t : TypeId} {n : Nat} {ps : Array (Nat × Operand)} : stepA T mu ops st ⟨dst, .buildSlice t n ps, ty, pos, after, none⟩ = keep st.H (sliceLitA T t n (ps.toList.map fun p => (p.1, st.eval p.2))) := map_keep ..
@[simp] theorem st_makeMap {t : TypeId} : stepA T mu ops st ⟨dst, .makeMap t none, ty, pos, after, none⟩ = some ((mapA st.H).2, (mapA st.H).1) := rfl
@[simp] theorem st_makeSlice {t : TypeId} {x y : Operand} : stepA T mu ops st ⟨dst, .makeSlice t x y, ty, pos, after, none⟩ = swapH (makeA T st.H t (st.eval x) (st.eval y)) := map_swapH ..
@[simp] theorem st_lookup {t : TypeId} {m k : Operand} {ok : Bool} : stepA T mu ops st ⟨dst, .lookup t m k ok, ty, pos, after, none⟩ = keep st.H (lookA T st.H t (st.eval m) (st.eval k) ok) := map_keep ..
@[simp] theorem st_mapUpdate {t : TypeId} {m k v : Operand} : stepA T mu ops st ⟨dst, .mapUpdate t m k v, ty, pos, after, none⟩ = keepH (putA T st.H t (st.eval m) (st.eval k) (st.eval v)) := map_keepH ..
@[simp] theorem st_range {t : TypeId} {x : Operand} : stepA T mu ops st ⟨dst, .range t x, ty, pos, after, none⟩ = swapH (rangeA T st.H t (st.eval x)) := map_swapH ..
@[simp] theorem st_next {x : Operand} : stepA T mu ops st ⟨dst, .next x true, ty, pos, after, none⟩ = swapH (nextA st.H (st.eval x)) := map_swapH ..
@[simp] theorem st_append {s x : Operand} {t t2 : TypeId} : stepA T mu ops st ⟨dst, .call ⟨.builtin .append, #[s, x], #[t, t2]⟩, ty, pos, after, none⟩ = swapH (appendA T st.H t t2 (st.eval s) (st.eval x)) := map_swapH ..
@[simp] theorem binA_int {op : BinOp} {t : TypeId} {k : IntKind} {a b : Int} : binA T op t (.int k a) (.int k b) = intA op k a b := by simp [binA]
@[simp] theorem binA_str {op : BinOp} {t : TypeId} {a b : List UInt8} : binA T op t (.str a) (.str b) = strA op a b := rfl
end
def retQ (rs : List Tmp) (Q : AV → Hp → Prop) : Exit → St → Prop
  | .normal, st | .ret, st => match rs with
    | [] => Q (.tuple []) st.H
    | [t] => Q (look st.env t) st.H
    | ts => Q (.tuple (ts.map (look st.env))) st.H
  | _, _ => False
section
variable {P : Program} {W0 : World}
theorem sf_start {f : FuncId} {fn : Func} {c : Code} {args : List AV} {H : Hp} {Q : AV → Hp → Prop} (rs : List Tmp) (n : Nat) (hf : P.funcs[f]? = some fn) (hb : fn.body = some c) (hn : fn.ntmps = n)
    (hr : fn.results = (rs.map ResultVar.tmp).toArray) (h3 : rs.length ≤ 3) (ha : args.length ≤ n) (h : AWP P W0 c ⟨n, envOf 0 args, H⟩ (retQ rs Q)) : SF P W0 f args H Q := by
  subst hn
  refine sf_of_body hf hb ha (h.mono ?_)
  intro e st q
  have key : ∀ st, retQ rs Q .normal st → ∃ r, resA fn st = some r ∧ Q r st.H := by
    intro st q
    unfold resA
    rw [hr]
    match rs, h3, q with
    | [], _, q => exact ⟨_, rfl, q⟩
    | [t], _, q => exact ⟨_, rfl, q⟩
    | [t, u], _, q => exact ⟨_, rfl, q⟩
    | [t, u, v], _, q => exact ⟨_, rfl, q⟩
    | _ :: _ :: _ :: _ :: _, h, _ => simp at h
  cases e with
  | normal => exact key st q
  | ret => exact key st q
  | exit id => exact q.elim
  | goto l => exact q.elim
  | panic ch => exact q.elim
  | outgrown => exact q.elim
end
end Go.Av
namespace Go.Av
mutual
inductive Le : AV → AV → Prop
  | refl (a : AV) : Le a a
  | any (a : AV) : Le a .any
  | nil (sz : Nat) (own : Own) (h : own.free) : Le .slnil (.sl sz [] own)
  | sl {sz : Nat} {es es' : List (List AV)} {own own' : Own} (h : LeLL es es') (k : own' = own ∨ own' = .shut) : Le (.sl sz es own) (.sl sz es' own')
  | agg {cs ds : List AV} (h : LeL cs ds) : Le (.agg cs) (.agg ds)
  | tuple {cs ds : List AV} (h : LeL cs ds) : Le (.tuple cs) (.tuple ds)
  | ptr {cs ds : List AV} (h : LeL cs ds) : Le (.ptr cs) (.ptr ds)
  | fn {f : FuncId} {cs ds : List AV} (h : LeL cs ds) : Le (.fn f cs) (.fn f ds)
  | mapv {ks : List (List UInt8)} {cs ds : List AV} (h : LeL cs ds) : Le (.mapv ks cs) (.mapv ks ds)
inductive LeL : List AV → List AV → Prop
  | nil : LeL [] []
  | cons {a b : AV} {as bs : List AV} (h : Le a b) (k : LeL as bs) : LeL (a :: as) (b :: bs)
inductive LeLL : List (List AV) → List (List AV) → Prop
  | nil : LeLL [] []
  | cons {a b : List AV} {as bs : List (List AV)} (h : LeL a b) (k : LeLL as bs) : LeLL (a :: as) (b :: bs)
end
theorem LeL.length {cs ds : List AV} : LeL cs ds → ds.length = cs.length
  | .nil => rfl
  | .cons _ k => by simp [LeL.length k]
theorem LeLL.length {cs ds : List (List AV)} : LeLL cs ds → ds.length = cs.length
  | .nil => rfl
  | .cons _ k => by simp [LeLL.length k]
mutual
theorem Le.rel {g w} : ∀ {a b : AV} (_ : Le a b) (v : Value), VR g w a v → VR g w b v
  | _, _, .refl _, _, h => h
  | _, _, .any _, _, _ => trivial
  | _, _, .nil _ _ h, _, e => .inl ⟨rfl, h, e⟩
  | _, _, .sl (es := es) (es' := es') (own := own) (own' := own') h k, v, .inl ⟨h1, h2, h3⟩ => by
    subst h1
    cases h
    refine .inl ⟨rfl, ?_, h3⟩
    rcases k with rfl | rfl
    · exact h2
    · trivial
  | _, _, .sl (own := own) (own' := own') h k, v, .inr ⟨b, o, cap, e, hl, ho, hr⟩ => by
    refine .inr ⟨b, o, cap, by rw [h.length]; exact e, by rw [h.length]; exact hl, ?_, LeLL.rel h hr⟩
    rw [h.length]
    rcases k with rfl | rfl
    · exact ho
    · trivial
  | _, _, .agg h, _, ⟨vs, e, k⟩ => ⟨vs, e, LeL.rel h _ k⟩
  | _, _, .tuple h, _, ⟨vs, e, k⟩ => ⟨vs, e, LeL.rel h _ k⟩
  | _, _, .ptr h, _, ⟨b, o, e, k⟩ => ⟨b, o, e, LeL.crel h k⟩
  | _, _, .fn h, _, ⟨vs, e, k⟩ => ⟨vs, e, LeL.rel h _ k⟩
  | _, _, .mapv h, _, ⟨b, es, clock, e, hf, hb, hk, k⟩ => ⟨b, es, clock, e, hf, hb, hk, LeL.rel h _ k⟩
theorem LeL.rel {g w} : ∀ {cs ds : List AV} (_ : LeL cs ds) (vs : List Value), AR g w cs vs → AR g w ds vs
  | _, _, .nil, _, h => h
  | _, _, .cons h k, _, ⟨v, vs', e, k1, k2⟩ => ⟨v, vs', e, Le.rel h v k1, LeL.rel k vs' k2⟩
theorem LeL.crel {g w b} : ∀ {cs ds : List AV} (_ : LeL cs ds) {o : Nat}, CR g w b o cs → CR g w b o ds
  | _, _, .nil, _, h => h
  | _, _, .cons h k, _, ⟨⟨v, h1, h2, h3⟩, h4⟩ => ⟨⟨v, h1, h2, Le.rel h v h3⟩, LeL.crel k h4⟩
theorem LeLL.rel {g w b sz} : ∀ {es fs : List (List AV)} (_ : LeLL es fs) {o : Nat}, ER g w b sz o es → ER g w b sz o fs
  | _, _, .nil, _, h => h
  | _, _, .cons h k, _, ⟨h1, h2, h3⟩ => ⟨h.length.trans h1, LeL.crel h h2, LeLL.rel k h3⟩
end
theorem LeL.refl : ∀ cs : List AV, LeL cs cs
  | [] => .nil
  | c :: cs => .cons (.refl c) (LeL.refl cs)
theorem LeLL.refl : ∀ cs : List (List AV), LeLL cs cs
  | [] => .nil
  | c :: cs => .cons (LeL.refl c) (LeLL.refl cs)
theorem LeLL.append {as bs cs ds : List (List AV)} : LeLL as bs → LeLL cs ds → LeLL (as ++ cs) (bs ++ ds)
  | .nil, k => k
  | .cons h h2, k => .cons h (LeLL.append h2 k)
attribute [simp] Le.refl Le.any LeL.nil LeLL.nil LeL.refl LeLL.refl
theorem Le.shut (sz : Nat) (es : List (List AV)) (own : Own) : Le (.sl sz es own) (.sl sz es .shut) := .sl (LeLL.refl es) (.inr rfl)
theorem Le.nilShut (sz : Nat) : Le .slnil (.sl sz [] .shut) := .nil sz _ trivial
theorem Le.nilCap (sz : Nat) : Le .slnil (.sl sz [] .capped) := .nil sz _ trivial
attribute [simp] Le.shut Le.nilShut Le.nilCap
@[simp] theorem le_agg {cs ds : List AV} (h : LeL cs ds) : Le (.agg cs) (.agg ds) := .agg h
@[simp] theorem le_tuple {cs ds : List AV} (h : LeL cs ds) : Le (.tuple cs) (.tuple ds) := .tuple h
@[simp] theorem le_ptr {cs ds : List AV} (h : LeL cs ds) : Le (.ptr cs) (.ptr ds) := .ptr h
@[simp] theorem leL_cons {a b : AV} {as bs : List AV} (h : Le a b) (k : LeL as bs) : LeL (a :: as) (b :: bs) := .cons h k
inductive LeE : List (Nat × AV) → List (Nat × AV) → Prop
  | nil : LeE [] []
  | cons {d : Nat} {a b : AV} {as bs : List (Nat × AV)} (h : Le a b) (k : LeE as bs) : LeE ((d, a) :: as) ((d, b) :: bs)
theorem LeE.look {g w} : ∀ {e e' : List (Nat × AV)}, LeE e e' → ∀ d v, VR g w (look e d) v → VR g w (look e' d) v
  | _, _, .nil, _, _, h => h
  | _, _, .cons (d := d') h k, d, v, hv => by
    simp only [Av.look] at hv ⊢
    split
    · rename_i hd; rw [if_pos hd] at hv; exact Le.rel h v hv
    · rename_i hd; rw [if_neg hd] at hv; exact LeE.look k d v hv
section
variable {P : Program} {W0 : World} {c : Code} {st : St} {Q : Exit → St → Prop} {f : FuncId} {H : Hp}
theorem awp_only (env' : List (Nat × AV)) (he : ∀ d, Le (look st.env d) (look env' d)) (h : AWP P W0 c { st with env := env' } Q) : AWP P W0 c st Q :=
  fun g w a hr => h g w a ⟨hr.inv, hr.defers, hr.size, fun t => Le.rel (he t) _ (hr.fr t)⟩
theorem only_nil {e : List (Nat × AV)} : ∀ d, Le (look e d) (look [] d) := fun _ => .any _
theorem only_cons {e env' : List (Nat × AV)} {k : Nat} {v : AV} (h : Le (look e k) v) (r : ∀ d, Le (look e d) (look env' d)) : ∀ d, Le (look e d) (look ((k, v) :: env') d) := by
  intro d
  simp only [look]
  split
  · rename_i hd; subst hd; exact h
  · exact r d
theorem SF.args {args args' : List AV} {Q : AV → Hp → Prop} (h : LeL args args') (k : SF P W0 f args' H Q) : SF P W0 f args H Q :=
  fun g w vs i r => k g w vs i (LeL.rel h _ r)
theorem SF.le {args : List AV} {Q : AV → Hp → Prop} (k : SF P W0 f args H fun r H' => ∃ r', Le r r' ∧ Q r' H') : SF P W0 f args H Q :=
  fun g w vs i r => (k g w vs i r).mono fun _ _ ⟨v, g', x, H', e, ⟨r', hl, q⟩, ext, inv, hv⟩ => ⟨v, g', r', H', e, q, ext, inv, Le.rel hl v hv⟩
structure Gr (H0 H : Hp) : Prop where
  objs : H.objs.take H0.objs.length = H0.objs
  hi : H.hi.take H0.hi.length = H0.hi
theorem Gr.refl (H : Hp) : Gr H H := ⟨by simp, by simp⟩
theorem Gr.hilen {H0 H : Hp} (g : Gr H0 H) : H0.hi.length ≤ H.hi.length := by
  have := congrArg List.length g.hi; simp at this; omega
theorem Gr.objlen {H0 H : Hp} (g : Gr H0 H) : H0.objs.length ≤ H.objs.length := by
  have := congrArg List.length g.objs; simp at this; omega
theorem Gr.trans {H0 H H' : Hp} (g : Gr H0 H) (k : Gr H H') : Gr H0 H' := by
  refine ⟨?_, ?_⟩
  · have : H'.objs.take H0.objs.length = (H'.objs.take H.objs.length).take H0.objs.length := by rw [List.take_take, Nat.min_eq_left g.objlen]
    rw [this, k.objs]; exact g.objs
  · have : H'.hi.take H0.hi.length = (H'.hi.take H.hi.length).take H0.hi.length := by rw [List.take_take, Nat.min_eq_left g.hilen]
    rw [this, k.hi]; exact g.hi
theorem Gr.obj {H0 H : Hp} (g : Gr H0 H) (o : AObj) : Gr H0 { H with objs := H.objs ++ [o] } :=
  ⟨by simp only; rw [List.take_append_of_le_length g.objlen]; exact g.objs, g.hi⟩
theorem Gr.set {H0 H : Hp} (g : Gr H0 H) {r : Nat} (hr : H0.objs.length ≤ r) (o : AObj) : Gr H0 { H with objs := H.objs.set r o } :=
  ⟨by simp only; rw [List.take_set_of_le hr]; exact g.objs, g.hi⟩
theorem Gr.tok {H0 H : Hp} (g : Gr H0 H) (n : Nat) : Gr H0 { H with hi := H.hi ++ [n] } :=
  ⟨g.objs, by simp only; rw [List.take_append_of_le_length g.hilen]; exact g.hi⟩
theorem Gr.tokSet {H0 H : Hp} (g : Gr H0 H) {t : Nat} (ht : H0.hi.length ≤ t) (n : Nat) : Gr H0 { H with hi := H.hi.set t n } :=
  ⟨g.objs, by simp only; rw [List.take_set_of_le ht]; exact g.hi⟩
structure App (H0 H : Hp) (sz : Nat) (es : List (List AV)) (v : AV) : Prop where
  is : (v = .slnil ∧ es = []) ∨ v = .sl sz es .capped ∨ ∃ k, H0.hi.length ≤ k ∧ v = .sl sz es (.tok k) ∧ H.hi[k]? = some es.length
theorem App.nil (H0 H : Hp) (sz : Nat) : App H0 H sz [] (.sl sz [] .capped) := ⟨.inr (.inl rfl)⟩
theorem App.slnil (H0 H : Hp) (sz : Nat) : App H0 H sz [] .slnil := ⟨.inl ⟨rfl, rfl⟩⟩
theorem App.capped (H0 H : Hp) (sz : Nat) (es : List (List AV)) : App H0 H sz es (.sl sz es .capped) := ⟨.inr (.inl rfl)⟩
theorem App.same {H0 H H' : Hp} {sz : Nat} {es : List (List AV)} {v : AV} (h : App H0 H sz es v) (e : H'.hi = H.hi) : App H0 H' sz es v := by
  rcases h.is with h | h | ⟨k, h1, h2, h3⟩
  · exact ⟨.inl h⟩
  · exact ⟨.inr (.inl h)⟩
  · exact ⟨.inr (.inr ⟨k, h1, h2, by rw [e]; exact h3⟩)⟩
theorem App.le {H0 H : Hp} {sz : Nat} {es : List (List AV)} {v : AV} (h : App H0 H sz es v) : Le v (.sl sz es .shut) := by
  rcases h.is with ⟨rfl, rfl⟩ | rfl | ⟨k, h1, rfl, h3⟩ <;> simp
theorem App.le' {H0 H : Hp} {sz : Nat} {es : List (List AV)} {v : AV} (h : App H0 H sz es v) : Le (cln H0.objs.length H0.hi.length v) (.sl sz (clnLL H0.objs.length H0.hi.length es) .shut) := by
  rcases h.is with ⟨rfl, rfl⟩ | rfl | ⟨k, h1, rfl, h3⟩
  · exact .nil _ _ trivial
  · exact .sl (LeLL.refl _) (.inr rfl)
  · exact .sl (LeLL.refl _) (.inr rfl)
theorem App.le2 {H0 H : Hp} {sz : Nat} {es es' : List (List AV)} {v : AV} (h : App H0 H sz es v) (k : LeLL (clnLL H0.objs.length H0.hi.length es) es') : Le (cln H0.objs.length H0.hi.length v) (.sl sz es' .shut) := by
  rcases h.is with ⟨rfl, rfl⟩ | rfl | ⟨q, h1, rfl, h3⟩
  · cases k; exact .nil _ _ trivial
  · exact .sl k (.inr rfl)
  · exact .sl k (.inr rfl)
theorem App.rest {H0 H : Hp} {sz : Nat} {es : List (List AV)} {v : AV} (h : App H0 H sz es v) : restA sz v = some es := by
  rcases h.is with ⟨rfl, rfl⟩ | rfl | ⟨k, h1, rfl, h3⟩ <;> simp
theorem App.cells {H0 H : Hp} {sz : Nat} {es : List (List AV)} {v : AV} (h : App H0 H sz es v) : cellsA v = some [v] := by
  rcases h.is with ⟨rfl, rfl⟩ | rfl | ⟨k, h1, rfl, h3⟩ <;> rfl
theorem App.okc {H0 H : Hp} {sz : Nat} {es : List (List AV)} {v : AV} (h : App H0 H sz es v) : okCell v = true := by
  rcases h.is with ⟨rfl, rfl⟩ | rfl | ⟨k, h1, rfl, h3⟩ <;> rfl
theorem App.append {T : Tab} {H0 H : Hp} {sz : Nat} {es fs : List (List AV)} {v x : AV} {t e : TypeId} {i : TI} (h : App H0 H sz es v) (g : Gr H0 H) (ht : T t = some ⟨1, .slice e, [.slnil]⟩) (he : T e = some i) (hi : i.size = sz) (hsz : 0 < sz)
    (hx : restA sz x = some fs) (hok : fs.all (·.all okCell) = true) (hl : es.length + fs.length ≤ 67108864) :
    ∃ v' H', appendA T H t t v x = some (v', H') ∧ App H0 H' sz (es ++ fs) v' ∧ Gr H0 H' ∧ H'.objs = H.objs := by
  subst hi
  unfold appendA
  simp only [if_true, ht, Option.map_some, he, h.rest, hx]
  by_cases hf : fs = []
  · subst hf
    simp only [List.isEmpty_nil, if_true]
    exact ⟨v, H, rfl, by rw [List.append_nil]; exact h, g, rfl⟩
  · have : fs.isEmpty = false := by cases fs <;> simp_all
    simp only [this, Bool.false_eq_true, if_false, hsz, hl, and_self, if_true]
    rcases h.is with ⟨rfl, rfl⟩ | rfl | ⟨k, h1, rfl, h3⟩
    · exact ⟨_, _, rfl, ⟨.inr (.inr ⟨H.hi.length, g.hilen, by simp, by simp⟩)⟩, g.tok _, rfl⟩
    · exact ⟨_, _, rfl, ⟨.inr (.inr ⟨H.hi.length, g.hilen, rfl, by simp⟩)⟩, g.tok _, rfl⟩
    · simp only [h3, hok, and_self, if_true]
      refine ⟨_, _, rfl, ⟨.inr (.inr ⟨k, h1, rfl, ?_⟩)⟩, g.tokSet h1 _, rfl⟩
      have : k < H.hi.length := by
        rcases Nat.lt_or_ge k H.hi.length with q | q
        · exact q
        · simp [List.getElem?_eq_none q] at h3
      simp [List.getElem?_set, this]
def Parted (v u : AV) : Prop := ∀ sz es k sz' es' k', v = .sl sz es (.tok k) → u = .sl sz' es' (.tok k') → k ≠ k'
theorem Parted.symm {v u : AV} (h : Parted v u) : Parted u v := fun _ _ _ _ _ _ h1 h2 e => h _ _ _ _ _ _ h2 h1 e.symm
theorem Parted.slnil (u : AV) : Parted .slnil u := by
  intro _ _ _ _ _ _ h _; cases h
theorem Parted.capped (u : AV) (sz : Nat) (es : List (List AV)) : Parted (.sl sz es .capped) u := by
  intro _ _ _ _ _ _ h _; cases h
theorem App.append2 {T : Tab} {H0 H : Hp} {sz : Nat} {es fs : List (List AV)} {v x : AV} {t e : TypeId} {i : TI} (h : App H0 H sz es v) (g : Gr H0 H) (ht : T t = some ⟨1, .slice e, [.slnil]⟩) (he : T e = some i) (hi : i.size = sz) (hsz : 0 < sz)
    (hx : restA sz x = some fs) (hok : fs.all (·.all okCell) = true) (hl : es.length + fs.length ≤ 67108864) {sz2 : Nat} {es2 : List (List AV)} {u : AV} (h2 : App H0 H sz2 es2 u) (hp : Parted v u) :
    ∃ v' H', appendA T H t t v x = some (v', H') ∧ App H0 H' sz (es ++ fs) v' ∧ Gr H0 H' ∧ H'.objs = H.objs ∧ App H0 H' sz2 es2 u ∧ Parted v' u := by
  subst hi
  unfold appendA
  simp only [if_true, ht, Option.map_some, he, h.rest, hx]
  by_cases hf : fs = []
  · subst hf
    simp only [List.isEmpty_nil, if_true]
    exact ⟨v, H, rfl, by rw [List.append_nil]; exact h, g, rfl, h2, hp⟩
  · have : fs.isEmpty = false := by cases fs <;> simp_all
    simp only [this, Bool.false_eq_true, if_false, hsz, hl, and_self, if_true]
    have fresh : ∀ n : Nat, App H0 { H with hi := H.hi ++ [n] } sz2 es2 u := by
      intro n
      rcases h2.is with h2 | h2 | ⟨k, h1, rfl, h3⟩
      · exact ⟨.inl h2⟩
      · exact ⟨.inr (.inl h2)⟩
      · refine ⟨.inr (.inr ⟨k, h1, rfl, ?_⟩)⟩
        have : k < H.hi.length := by
          rcases Nat.lt_or_ge k H.hi.length with q | q
          · exact q
          · simp [List.getElem?_eq_none q] at h3
        simp only
        rw [List.getElem?_append_left this]; exact h3
    have apart : ∀ es', Parted (.sl i.size es' (.tok H.hi.length)) u := by
      intro es' s1 e1 k1 s2 e2 k2 q1 q2
      cases q1
      rcases h2.is with ⟨rfl, _⟩ | rfl | ⟨k, h1, rfl, h3⟩
      · cases q2
      · cases q2
      · cases q2
        rintro rfl
        simp at h3
    rcases h.is with ⟨rfl, rfl⟩ | rfl | ⟨k, h1, rfl, h3⟩
    · exact ⟨_, _, rfl, ⟨.inr (.inr ⟨H.hi.length, g.hilen, by simp, by simp⟩)⟩, g.tok _, rfl, fresh _, apart _⟩
    · exact ⟨_, _, rfl, ⟨.inr (.inr ⟨H.hi.length, g.hilen, rfl, by simp⟩)⟩, g.tok _, rfl, fresh _, apart _⟩
    · simp only [h3, hok, and_self, if_true]
      have hk : k < H.hi.length := by
        rcases Nat.lt_or_ge k H.hi.length with q | q
        · exact q
        · simp [List.getElem?_eq_none q] at h3
      refine ⟨_, _, rfl, ⟨.inr (.inr ⟨k, h1, rfl, ?_⟩)⟩, g.tokSet h1 _, rfl, ?_, ?_⟩
      · simp [List.getElem?_set, hk]
      · rcases h2.is with h2 | h2 | ⟨k', h1', rfl, h3'⟩
        · exact ⟨.inl h2⟩
        · exact ⟨.inr (.inl h2)⟩
        · refine ⟨.inr (.inr ⟨k', h1', rfl, ?_⟩)⟩
          have : k ≠ k' := hp _ _ _ _ _ _ rfl rfl
          rw [List.getElem?_set_ne this]; exact h3'
      · intro s1 e1 k1 s2 e2 k2 q1 q2
        cases q1
        exact hp _ _ _ _ _ _ rfl q2
theorem SF.pureLe {args : List AV} {Q : AV → Prop}
    (h : SF P W0 f args H fun r H' => Gr H H' ∧ ∃ r', Le (cln H.objs.length H.hi.length r) r' ∧ Q r') : SF P W0 f args H fun r H' => H' = H ∧ Q r := by
  refine SF.le (SF.mono (SF.pure (Q := fun r => ∃ r', Le r r' ∧ Q r') (h.mono ?_)) ?_)
  · rintro r H' ⟨g, q⟩; exact ⟨g.objs, g.hi, q⟩
  · rintro r H' ⟨rfl, r', hl, q⟩; exact ⟨r', hl, rfl, q⟩
end
end Go.Av
namespace Go.Av
section
variable {P : Program} {W0 : World} {st : St} {Q : Exit → St → Prop}
theorem thenN {K : St → Prop} (h : K st) : thenA K Q .normal st := h
theorem inN {id : Nat} (h : Q .normal st) : inBlockA id Q .normal st := h
theorem inE {id : Nat} (h : Q .normal st) : inBlockA id Q (.exit id) st := by simp only [inBlockA, if_true]; exact h
theorem awp_if {c : Operand} {x y : Code} {b : Bool} (hc : st.eval c = .bool b) (ht : b = true → AWP P W0 x st Q) (hf : b = false → AWP P W0 y st Q) : AWP P W0 (.cond c x y) st Q := by
  refine awp_cond hc ?_
  cases b
  · exact hf rfl
  · exact ht rfl
structure Sub (st t : St) : Prop where
  n : t.n = st.n
  H : t.H = st.H
  env : ∀ d, Le (look st.env d) (look t.env d)
theorem awp_sub {c : Code} {t : St} (h : Sub st t) (k : AWP P W0 c t Q) : AWP P W0 c st Q := by
  intro g w a hr
  refine k g w a ⟨h.H ▸ hr.inv, hr.defers, h.n ▸ hr.size, fun d => Le.rel (h.env d) _ (hr.fr d)⟩
theorem Sub.refl (st : St) : Sub st st := ⟨rfl, rfl, fun _ => .refl _⟩
theorem awp_loop_inv {c : Code} (I : Nat → St → Prop) (n : Nat) (h0 : I n st)
    (hstep : ∀ k st, I k st → AWP P W0 c st (thenA (fun st' => ∃ j, j < k ∧ I j st') Q)) : AWP P W0 (.loop c) st Q := by
  refine awp_loop (n + 1) ?_
  have key : ∀ n k st, k ≤ n → I k st → ARounds P W0 c Q (n + 1) st := by
    intro n
    induction n with
    | zero =>
      intro k st hk hI
      refine (hstep k st hI).mono ?_
      intro e st' q
      cases e with
      | normal => obtain ⟨j, hj, _⟩ := q; omega
      | _ => exact q
    | succ n ih =>
      intro k st hk hI
      refine (hstep k st hI).mono ?_
      intro e st' q
      cases e with
      | normal => obtain ⟨j, hj, hI'⟩ := q; exact ih j st' (by omega) hI'
      | _ => exact q
  exact key n n st (Nat.le_refl _) h0
end
end Go.Av
