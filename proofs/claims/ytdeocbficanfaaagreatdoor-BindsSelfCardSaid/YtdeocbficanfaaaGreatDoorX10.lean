/-
  Go read by value: lemmas (part 10): A11, A12, A13, A14.
-/
import Derived.Orders
import Derived.Test.YtdeocbficanfaaaGreatDoorX09
set_option linter.unusedVariables false
set_option linter.unusedSimpArgs false
set_option linter.unusedSectionVars false
namespace Go.Av
structure SEq (s t : St) : Prop where
  n : s.n = t.n
  H : s.H = t.H
  env : ∀ d, look s.env d = look t.env d
theorem SEq.refl (s : St) : SEq s s := ⟨rfl, rfl, fun _ => rfl⟩
theorem SEq.symm {s t : St} (h : SEq s t) : SEq t s := ⟨h.n.symm, h.H.symm, fun d => (h.env d).symm⟩
theorem SEq.trans {s t u : St} (h : SEq s t) (k : SEq t u) : SEq s u := ⟨h.n.trans k.n, h.H.trans k.H, fun d => (h.env d).trans (k.env d)⟩
theorem SEq.rel {W0 g w a} {s t : St} (h : SEq s t) (r : Rel W0 g w a t) : Rel W0 g w a s :=
  r.weak h.n h.H fun d => .inr (h.env d)
theorem look_put (st : St) (dst : Option Tmp) (v : AV) (d : Nat) : look (st.put dst v).env d = if dst = some d ∧ d < st.n then v else look st.env d := by
  cases dst with
  | none => simp [St.put]
  | some e =>
    simp only [St.put]
    by_cases he : e < st.n
    · simp only [he, if_true, look]
      by_cases hd : d = e
      · subst hd; simp [he]
      · simp [hd, Ne.symm hd]
    · simp only [he, if_false]
      by_cases hd : e = d
      · subst hd; simp [he]
      · simp [hd]
theorem put_n (st : St) (dst : Option Tmp) (v : AV) : (st.put dst v).n = st.n := by
  unfold St.put; split
  · split <;> rfl
  · rfl
theorem put_H (st : St) (dst : Option Tmp) (v : AV) : (st.put dst v).H = st.H := by
  unfold St.put; split
  · split <;> rfl
  · rfl
theorem SEq.put {s t : St} (h : SEq s t) (H : Hp) (dst : Option Tmp) (v : AV) : SEq (St.put { s with H := H } dst v) (St.put { t with H := H } dst v) := by
  refine ⟨by simp [put_n, h.n], by simp [put_H], fun d => ?_⟩
  rw [look_put, look_put]
  simp only [h.n, h.env d]
theorem SEq.comm (s : St) (H : Hp) {x y : Option Tmp} (v u : AV) (hxy : ∀ d, x = some d → y ≠ some d) :
    SEq (St.put { St.put s x v with H := H } y u) (St.put (St.put { s with H := H } y u) x v) := by
  refine ⟨by simp [put_n], by simp [put_H], fun d => ?_⟩
  rw [look_put, look_put]
  simp only [put_n, look_put]
  by_cases h1 : y = some d
  · have h2 : ¬ x = some d := fun e => hxy d e h1
    simp [h1, h2]
  · simp [h1]
section
variable {P : Program} {T : Tab} {W0 : World} {ops : Array Oper} {o : Oper}
theorem AEff.congr {s t : St} {K : Hp → AV → Prop} (h : SEq s t) (k : AEff P W0 ops o t K) : AEff P W0 ops o s K := by
  intro g w a r
  have := k g w a (h.symm.rel r)
  rwa [← h.H] at this
theorem AEff.unput {s : St} {K : Hp → AV → Prop} {dst : Option Tmp} {x : AV} (hx : ∀ g w a, Rel W0 g w a s → ∃ v, VR g w x v)
    (hs : ∀ cs b, o.op ≠ .select cs b) (hd : ∀ d, dst = some d → d ∉ o.looksAt ops)
    (k : AEff P W0 ops o (s.put dst x) K) : AEff P W0 ops o s K := by
  intro g w a r
  obtain ⟨v, hv⟩ := hx g w a r
  have := k g w _ (r.put hv dst)
  rw [wanted_put o a dst v hd, execOp_put o hs a dst v hd, put_H] at this
  exact this
def AAny (P : Program) (W0 : World) (I : Array Bool → Hp → Prop) (ops : Array Oper) (Q : Exit → St → Prop) : Nat → Array Bool → St → Prop
  | 0, listed, st => Region.ready .any ops listed = [] ∧ ∃ t, SEq t st ∧ Q .normal t
  | n + 1, listed, st => (Region.ready .any ops listed = [] → ∃ t, SEq t st ∧ Q .normal t) ∧
    ∀ i ∈ Region.ready .any ops listed, ∀ o, ops[i]? = some o → AEff P W0 ops o st fun H' y => I (listed.setIfInBounds i true) H' ∧ AAny P W0 I ops Q n (listed.setIfInBounds i true) (St.put { st with H := H' } o.dst y)
variable {I : Array Bool → Hp → Prop} {Q : Exit → St → Prop}
theorem AAny.congr : ∀ {n : Nat} {listed : Array Bool} {s t : St}, SEq s t → AAny P W0 I ops Q n listed t → AAny P W0 I ops Q n listed s
  | 0, _, _, _, e, ⟨h, u, eu, q⟩ => ⟨h, u, eu.trans e.symm, q⟩
  | n + 1, _, s, t, e, ⟨h, k⟩ => ⟨fun hr => let ⟨u, eu, q⟩ := h hr; ⟨u, eu.trans e.symm, q⟩, fun i hi o ho =>
      (AEff.congr e (k i hi o ho)).mono fun H' y ⟨hI, q⟩ => ⟨hI, AAny.congr (e.put H' o.dst y) q⟩⟩
theorem AAny.sound : ∀ {n : Nat} {listed : Array Bool} {st : St} {g0 w0 g w a}, AAny P W0 I ops Q n listed st → Ext g0 w0 g w → Rel W0 g w a st →
    wpAny P .any ops (Post W0 Q g0 w0) n listed a w
  | 0, _, st, _, _, g, w, a, ⟨h, t, et, q⟩, e, r => ⟨h, g, t, q, e, et.rel r⟩
  | n + 1, listed, st, g0, w0, g, w, a, ⟨h, k⟩, e, r => by
    refine ⟨fun hr => let ⟨t, et, q⟩ := h hr; ⟨g, t, q, e, et.rel r⟩, fun i hi => ?_⟩
    obtain ⟨_, o, ho, _⟩ := mem_ready.1 hi
    have := AEff.wp (R := wpAny P .any ops (Post W0 Q g0 w0) n (listed.setIfInBounds i true)) (Qc := Post W0 Q g0 w0) (k i hi o ho) r
      fun g' w' v H' y e' r' q => AAny.sound q.2 (e.trans e') r'
    unfold wpOp
    simp only [ho]
    split
    · rename_i hw; rw [if_pos hw] at this; exact .inl this
    · rename_i hw; rw [if_neg hw] at this; exact this
theorem awp_region_any {id : Nat} {st : St} (hm : P.follows .mixedOrders = true) (h : AAny P W0 I ops Q ops.size (Array.replicate ops.size false) st) :
    AWP P W0 (.region id ops true) st Q := by
  intro g w a r
  refine wp_region_any hm ?_
  obtain ⟨i, e⟩ := r.inv.drawn (w.drawn + 1)
  exact AAny.sound h e ⟨i, r.defers, r.size, fun t => VR.mono e _ _ (r.fr t)⟩
end
def fixA (T : Tab) (ops : Array Oper) (st : St) (o : Oper) : Option AV :=
  match wantA ops st o with
  | some false => some (.tuple [])
  | none => none
  | some true =>
    match o.op with
    | .lookup t m k ok => lookA T st.H t (st.eval m) (st.eval k) ok
    | op => pureA T st op
section
variable {P : Program} {T : Tab} {W0 : World} {ops : Array Oper} {o : Oper} {I : Array Bool → Hp → Prop} {Q : Exit → St → Prop}
theorem aeff_fix {st : St} {x : AV} {K : Hp → AV → Prop} (hT : TabOK P T) (h : fixA T ops st o = some x) (k : K st.H x) : AEff P W0 ops o st K := by
  unfold fixA at h
  split at h
  · rename_i hw; cases h; exact aeff_skip hw k
  · cases h
  · rename_i hw
    split at h
    · rename_i t m kk ok ho
      refine aeff_heap hw (H' := st.H) (x := x) (fun g w a r' => ?_) k
      obtain ⟨z, h2, h3⟩ := lookA_sound (P := P) hT r'.inv h (r'.eval m) (r'.eval kk)
      refine ⟨z, w, g, .inl ?_, .refl _ _, r'.inv, h3⟩
      unfold execOp; rw [ho]; simp [h2]
    · exact aeff_heap hw (pureA_heap hT h) k
theorem fixA_rel {st : St} {x : AV} {g w a} (hT : TabOK P T) (h : fixA T ops st o = some x) (r : Rel W0 g w a st) : ∃ v, VR g w x v := by
  unfold fixA at h
  split at h
  · cases h; exact ⟨_, VR.undef⟩
  · cases h
  · split at h
    · rename_i t m kk ok ho
      obtain ⟨z, h2, h3⟩ := lookA_sound (P := P) hT r.inv h (r.eval m) (r.eval kk)
      exact ⟨z, h3⟩
    · obtain ⟨v, h1, h2⟩ := pureA_sound hT h r
      exact ⟨v, h2⟩
theorem eval_put {st : St} {dst : Option Tmp} {v : AV} {x : Operand} (h : ∀ d, dst = some d → x ≠ .tmp d) : (st.put dst v).eval x = st.eval x := by
  cases x with
  | tmp t =>
    simp only [St.eval, look_put]
    rw [if_neg]
    rintro ⟨h1, _⟩
    exact h t h1 rfl
  | _ => rfl
theorem pureA_congr {st st' : St} {op : Op} (hH : st.H = st'.H) (h : ∀ x ∈ op.operands, st.eval x = st'.eval x) : pureA T st op = pureA T st' op := by
  have pairs : ∀ ps : Array (Nat × Operand), (∀ x ∈ ((ps.toList.map (·.2)).toArray), st.eval x = st'.eval x) →
      (ps.toList.map fun p => (p.1, st.eval p.2)) = (ps.toList.map fun p => (p.1, st'.eval p.2)) := fun ps hp =>
    List.map_congr_left fun p hm => by
      have : st.eval p.2 = st'.eval p.2 := hp p.2 (by simp only [List.mem_toArray]; exact List.mem_map_of_mem (f := (·.2)) hm)
      rw [this]
  cases op <;> simp only [Op.operands] at h <;> simp only [pureA]
  case build t ps => rw [pairs ps h]
  case makeFunc fn first captured =>
    cases fn <;> simp only [pureA]
    rw [List.map_congr_left (l := captured.toList) fun x hx => h x (by simp only [Array.mem_append]; exact .inr (Array.mem_toList_iff.1 hx))]
  case call c =>
    have hargs : ∀ x ∈ c.args, st.eval x = st'.eval x := fun x hx => h x (by simp only [Call.operands, Array.mem_append]; exact .inr hx)
    split
    · split
      · rename_i x e1 e2; rw [hargs x (Array.mem_of_getElem? e2)]
      · rfl
    · split
      · rename_i x y e
        rw [hargs x (Array.mem_toList_iff.1 (by rw [e]; simp)), hargs y (Array.mem_toList_iff.1 (by rw [e]; simp))]
      · rfl
    · split
      · rename_i x y e
        rw [hargs x (Array.mem_toList_iff.1 (by rw [e]; simp)), hargs y (Array.mem_toList_iff.1 (by rw [e]; simp))]
      · rfl
    · rfl
  case slice t x lo hi mx => cases lo <;> cases hi <;> cases mx <;> simp_all
  all_goals (first | rfl | (simp_all; done))
theorem wantA_congr {st st' : St} (hn : st.n = st'.n) (h : ∀ j b d, o.guard = some (j, b) → (ops[j]?).bind (·.dst) = some d → look st.env d = look st'.env d) : wantA ops st o = wantA ops st' o := by
  unfold wantA
  split
  · rfl
  · rename_i j want hg
    split
    · rfl
    · rename_i d hd
      rw [hn, h j want d hg hd]
theorem fixA_put {st : St} {dst : Option Tmp} {v : AV} (h : ∀ d, dst = some d → d ∉ o.looksAt ops) : fixA T ops (st.put dst v) o = fixA T ops st o := by
  have hop : ∀ x ∈ o.op.operands, (st.put dst v).eval x = st.eval x := fun x hx => eval_put fun d hd hxd => h d hd (by
    subst hxd
    exact List.mem_append_left _ (List.mem_filterMap.2 ⟨.tmp d, by simpa using hx, rfl⟩))
  have hw : wantA ops (st.put dst v) o = wantA ops st o := by
    refine wantA_congr (put_n _ _ _) fun j b d hg hd => ?_
    rw [look_put, if_neg]
    rintro ⟨h1, _⟩
    exact h d h1 (by simp [Oper.looksAt, hg, hd])
  unfold fixA
  rw [hw]
  split
  · rfl
  · rfl
  · split
    · rename_i t m k ok ho
      rw [ho] at hop
      simp only [Op.operands] at hop
      rw [put_H, hop m (by simp), hop k (by simp)]
    · exact pureA_congr (put_H _ _ _) hop
theorem put_withH (st : St) (dst : Option Tmp) (v : AV) (H : Hp) : ({ st.put dst v with H := H } : St) = St.put { st with H := H } dst v := by
  unfold St.put
  split
  · simp only; split <;> rfl
  · rfl
def Closed (ops : Array Oper) (listed : Array Bool) : Prop :=
  ∀ j oj, ops[j]? = some oj → listed.getD j false = true → ∀ e ∈ oj.after, Region.binds .any e = true → listed.getD e.on false = true
theorem getD_set_self {listed : Array Bool} {i j : Nat} (h : (listed.setIfInBounds i true).getD j false = true) : j = i ∨ listed.getD j false = true := by
  by_cases hij : i = j
  · exact .inl hij.symm
  · rw [getD_set_ne false hij] at h; exact .inr h
theorem Closed.set {listed : Array Bool} {i : Nat} (h : Closed ops listed) (hr : i ∈ Region.ready .any ops listed) : Closed ops (listed.setIfInBounds i true) := by
  intro j oj hoj hl e he hb
  rcases getD_set_self hl with rfl | hl
  · obtain ⟨_, o, ho, hall⟩ := mem_ready.1 hr
    rw [hoj] at ho; cases ho
    exact getD_set_true (hall e he hb)
  · exact getD_set_true (h j oj hoj hl e he hb)
theorem aany_first {i : Nat} {x : AV} (hT : TabOK P T) (hi : ops[i]? = some o) (hsel : ∀ (j : Nat) (o : Oper) cs b, ops[j]? = some o → o.op ≠ .select cs b)
    (hP : ∀ listed H, I (listed.setIfInBounds i true) H ↔ I listed H) :
    ∀ (n : Nat) (listed : Array Bool) (st : St),
      (∀ j oj, ops[j]? = some oj → j ≠ i → listed.getD j true = false → (∀ e ∈ oj.after, Region.binds .any e = true → e.on ≠ i) → o.apart ops oj = true) →
      i ∈ Region.ready .any ops listed → Closed ops listed → I listed st.H → fixA T ops st o = some x →
      (∀ listed' H, Closed ops listed' → listed'.getD i true = false → I listed' H → fixA T ops { st with H := H } o = some x) →
      AAny P W0 I ops Q n (listed.setIfInBounds i true) (st.put o.dst x) → AAny P W0 I ops Q (n + 1) listed st := by
  intro n
  induction n with
  | zero =>
    intro listed st _ hr _ hI hx _ H
    refine ⟨fun h => (by rw [h] at hr; cases hr), fun j hj oj hoj => ?_⟩
    by_cases hji : j = i
    · subst hji
      rw [hi] at hoj; cases hoj
      exact aeff_fix hT hx ⟨(hP _ _).2 hI, H⟩
    · have := ready_mono hj hji
      rw [H.1] at this
      cases this
  | succ n ih =>
    intro listed st hfree hr hcl hI hx hk H
    refine ⟨fun h => (by rw [h] at hr; cases hr), fun j hj oj hoj => ?_⟩
    by_cases hji : j = i
    · subst hji
      rw [hi] at hoj; cases hoj
      exact aeff_fix hT hx ⟨(hP _ _).2 hI, H⟩
    · have h1 := H.2 j (ready_mono hj hji) oj hoj
      obtain ⟨hjun, oj', hoj', hall⟩ := mem_ready.1 hj
      rw [hoj] at hoj'; cases hoj'
      have hnot : ∀ e ∈ oj.after, Region.binds .any e = true → e.on ≠ i := fun e he hb heq => by
        have h1 := hall e he hb
        have h0 := (mem_ready.1 hr).1
        rw [heq] at h1
        rcases Nat.lt_or_ge i listed.size with h' | h'
        · simp [h'] at h0 h1; rw [h0] at h1; cases h1
        · simp [Array.getElem?_eq_none h'] at h1
      obtain ⟨a1, a2, a3⟩ := Oper.apart_spec (hfree j oj hoj hji hjun hnot)
      have hrj := ready_mono hr (Ne.symm hji)
      refine AEff.mono (AEff.unput (fun g w a r => fixA_rel (o := o) (ops := ops) hT hx r) (fun cs b => hsel j oj cs b hoj) a1 h1) fun H' y ⟨hI', q⟩ => ?_
      have hI2 : I (listed.setIfInBounds j true) H' := by
        rw [Array.setIfInBounds_comm _ _ (Ne.symm hji)] at hI'
        exact (hP _ _).1 hI'
      refine ⟨hI2, ?_⟩
      refine ih _ _ ?_ hrj (hcl.set hj) (by rw [put_H]; exact hI2) ?_ ?_ ?_
      · intro k ok hk hki hun hno
        refine hfree k ok hk hki ?_ hno
        by_cases hjk : j = k
        · subst hjk; exact hjun
        · rw [getD_set_ne true hjk] at hun; exact hun
      · rw [fixA_put a3]
        exact hk _ H' (hcl.set hj) (mem_ready.1 hrj).1 hI2
      · intro listed' H'' hc' hu' hI''
        rw [put_withH, fixA_put a3]
        exact hk listed' H'' hc' hu' hI''
      · rw [Array.setIfInBounds_comm _ _ hji]
        exact AAny.congr (SEq.comm st H' x y a2).symm q
theorem aany_take {i : Nat} {x : AV} {n : Nat} {listed : Array Bool} {st : St} (hT : TabOK P T) (hs : Region.noSelect ops = true) (hi : ops[i]? = some o)
    (hf : (Region.free .any ops listed i && (Region.ready .any ops listed).contains i) = true) (hP : ∀ listed H, I (listed.setIfInBounds i true) H ↔ I listed H) (hcl : Closed ops listed) (hI : I listed st.H)
    (hx : fixA T ops st o = some x) (hk : ∀ listed' H, Closed ops listed' → listed'.getD i true = false → I listed' H → fixA T ops { st with H := H } o = some x)
    (h : AAny P W0 I ops Q n (listed.setIfInBounds i true) (st.put o.dst x)) : AAny P W0 I ops Q (n + 1) listed st := by
  rw [Bool.and_eq_true] at hf
  exact aany_first hT hi (Region.noSelect_spec hs) hP n listed st (Region.free_spec hi hf.1) (by simpa using hf.2) hcl hI hx hk h
theorem aany_done {n : Nat} {listed : Array Bool} {st : St} (hr : Region.ready .any ops listed = []) (h : Q .normal st) : AAny P W0 I ops Q n listed st := by
  cases n with
  | zero => exact ⟨hr, st, .refl _, h⟩
  | succ n => exact ⟨fun _ => ⟨st, .refl _, h⟩, by rw [hr]; simp⟩
theorem aany_one {i : Nat} {n : Nat} {listed : Array Bool} {st : St} (hi : ops[i]? = some o) (hr : Region.ready .any ops listed = [i])
    (h : AEff P W0 ops o st fun H' y => I (listed.setIfInBounds i true) H' ∧ AAny P W0 I ops Q n (listed.setIfInBounds i true) (St.put { st with H := H' } o.dst y)) : AAny P W0 I ops Q (n + 1) listed st := by
  refine ⟨fun h0 => by rw [h0] at hr; simp at hr, ?_⟩
  rw [hr]
  intro j hj oj hoj
  simp only [List.mem_singleton] at hj
  subst hj
  rw [hi] at hoj; cases hoj
  exact h
end
end Go.Av
namespace Go.Av
def clnOwn (m : Nat) : Own → Own
  | .tok t => if t < m then .tok t else .shut
  | o => o
mutual
def cln (n m : Nat) : AV → AV
  | .ref r k => if r < n then .ref r k else .any
  | .mref r => if r < n then .mref r else .any
  | .osl r k => if r < n then .osl r k else .any
  | .ptr cs => .ptr (clnL n m cs)
  | .sl sz es own => .sl sz (clnLL n m es) (clnOwn m own)
  | .agg cs => .agg (clnL n m cs)
  | .tuple cs => .tuple (clnL n m cs)
  | .fn f cs => .fn f (clnL n m cs)
  | .mapv ks cs => .mapv ks (clnL n m cs)
  | .any => .any
  | .int k i => .int k i
  | .bool b => .bool b
  | .str s => .str s
  | .nilp => .nilp
  | .slnil => .slnil
  | .nilf => .nilf
  | .mnil => .mnil
def clnL (n m : Nat) : List AV → List AV
  | [] => []
  | c :: cs => cln n m c :: clnL n m cs
def clnLL (n m : Nat) : List (List AV) → List (List AV)
  | [] => []
  | e :: es => clnL n m e :: clnLL n m es
end
def clnO (n m : Nat) : AObj → AObj
  | .cells cs => .cells (clnL n m cs)
  | .map ks cs => .map ks (clnL n m cs)
  | .miter ks cs left last => .miter ks (clnL n m cs) left last
  | o => o
def Gh.cut (g : Gh) (n m : Nat) : Gh := { g with loc := fun r => if r < n then g.loc r else none, ver := fun t k => if t < m then g.ver t k else none }
theorem clnL_length (n m : Nat) : ∀ cs, (clnL n m cs).length = cs.length
  | [] => rfl
  | _ :: cs => by simp [clnL, clnL_length n m cs]
theorem clnLL_length (n m : Nat) : ∀ es, (clnLL n m es).length = es.length
  | [] => rfl
  | _ :: es => by simp [clnLL, clnLL_length n m es]
mutual
theorem VR.cut {g w n m} : ∀ (a : AV) (v : Value), VR g w a v → VR (g.cut n m) w (cln n m a) v
  | .any, _, _ => trivial
  | .int _ _, _, k => k
  | .bool _, _, k => k
  | .str _, _, k => k
  | .nilp, _, k => k
  | .ptr cs, _, ⟨b, o, e, k⟩ => ⟨b, o, e, CR.cut b cs o k⟩
  | .ref r k, v, h => by
    simp only [cln]
    split
    · rename_i hr; obtain ⟨b, hl, e⟩ := h; exact ⟨b, by simp [Gh.cut, hr, hl], e⟩
    · trivial
  | .slnil, _, k => k
  | .sl sz es own, _, .inl ⟨h1, h2, h3⟩ => by
    subst h1
    refine .inl ⟨rfl, ?_, h3⟩
    cases own with
    | tok t => exact h2.elim
    | capped => trivial
    | shut => trivial
  | .sl sz es own, _, .inr ⟨b, o, cap, e, hl, ho, k⟩ => by
    refine .inr ⟨b, o, cap, by rw [clnLL_length]; exact e, by rw [clnLL_length]; exact hl, ?_, ER.cut b sz es o k⟩
    rw [clnLL_length]
    cases own with
    | capped => exact ho
    | shut => trivial
    | tok t =>
      simp only [clnOwn]
      split
      · rename_i ht; simp only [OwnOK, Gh.cut, if_pos ht]; exact ho
      · trivial
  | .agg cs, _, ⟨vs, e, k⟩ => ⟨vs, e, AR.cut cs _ k⟩
  | .tuple cs, _, ⟨vs, e, k⟩ => ⟨vs, e, AR.cut cs _ k⟩
  | .fn _ cs, _, ⟨vs, e, k⟩ => ⟨vs, e, AR.cut cs _ k⟩
  | .nilf, _, k => k
  | .mnil, _, k => k
  | .mref r, v, h => by
    simp only [cln]
    split
    · rename_i hr; obtain ⟨b, hl, e⟩ := h; exact ⟨b, by simp [Gh.cut, hr, hl], e⟩
    · trivial
  | .osl r k, v, h => by
    simp only [cln]
    split
    · rename_i hr; obtain ⟨b, cap, e, hl, hc⟩ := h; exact ⟨b, cap, e, by simp [Gh.cut, hr, hl], hc⟩
    · trivial
  | .mapv _ cs, _, ⟨b, es, clock, e, hf, hb, hk, k⟩ => ⟨b, es, clock, e, hf, hb, hk, AR.cut cs _ k⟩
theorem AR.cut {g w n m} : ∀ (cs : List AV) (vs : List Value), AR g w cs vs → AR (g.cut n m) w (clnL n m cs) vs
  | [], _, k => k
  | c :: cs, _, ⟨v, vs', e, k1, k2⟩ => ⟨v, vs', e, VR.cut c v k1, AR.cut cs vs' k2⟩
theorem CR.cut {g w n m} (b : Nat) : ∀ (cs : List AV) (o : Nat), CR g w b o cs → CR (g.cut n m) w b o (clnL n m cs)
  | [], _, _ => trivial
  | c :: cs, o, ⟨⟨v, hc, ho, k1⟩, k2⟩ => ⟨⟨v, hc, ho, VR.cut c v k1⟩, CR.cut b cs (o + 1) k2⟩
theorem ER.cut {g w n m} (b sz : Nat) : ∀ (es : List (List AV)) (o : Nat), ER g w b sz o es → ER (g.cut n m) w b sz o (clnLL n m es)
  | [], _, _ => trivial
  | e :: es, o, ⟨hl, k1, k2⟩ => ⟨(clnL_length n m e).trans hl, CR.cut b e o k1, ER.cut b sz es (o + sz) k2⟩
end
theorem OR.cut {g w n m r} (hr : r < n) : ∀ {o : AObj}, OR g w r o → OR (g.cut n m) w r (clnO n m o)
  | .cells cs, ⟨b, vs, T, hl, hp, hf, hh, k⟩ => ⟨b, vs, T, by simp [Gh.cut, hr, hl], hp, hf, hh, AR.cut cs _ k⟩
  | .map ks cs, ⟨b, es, cl, hl, hp, hf, hh, hk, k⟩ => ⟨b, es, cl, by simp [Gh.cut, hr, hl], hp, hf, hh, hk, AR.cut cs _ k⟩
  | .iter s p, ⟨b, hl, hp, hf, hh⟩ => ⟨b, by simp [Gh.cut, hr, hl], hp, hf, hh⟩
  | .miter ks cs left last, ⟨b, bm, es, cl, seen, hl, hp, hf, hh, hfm, hm, hk, k, h1, h2, h3⟩ => ⟨b, bm, es, cl, seen, by simp [Gh.cut, hr, hl], hp, hf, hh, hfm, hm, hk, AR.cut cs _ k, h1, h2, h3⟩
  | .gone, _ => trivial
mutual
theorem VR.old {g w n m} (hn : ∀ r b, g.loc r = some b → r < n) (hm : ∀ t k x, g.ver t k = some x → t < m) : ∀ (a : AV) (v : Value), VR g w a v → cln n m a = a
  | .any, _, _ => rfl
  | .int _ _, _, _ => rfl
  | .bool _, _, _ => rfl
  | .str _, _, _ => rfl
  | .nilp, _, _ => rfl
  | .ptr cs, _, ⟨b, o, _, k⟩ => by rw [cln, CR.old hn hm b cs o k]
  | .ref r k, _, ⟨b, hl, _⟩ => by rw [cln, if_pos (hn r b hl)]
  | .slnil, _, _ => rfl
  | .sl sz es own, _, .inl ⟨h1, h2, _⟩ => by
    subst h1
    cases own with
    | tok t => exact h2.elim
    | capped => rfl
    | shut => rfl
  | .sl sz es own, _, .inr ⟨b, o, cap, _, _, ho, k⟩ => by
    rw [cln, ER.old hn hm b sz es o k]
    cases own with
    | capped => rfl
    | shut => rfl
    | tok t => rw [clnOwn, if_pos (hm t _ _ ho)]
  | .agg cs, _, ⟨vs, _, k⟩ => by rw [cln, AR.old hn hm cs _ k]
  | .tuple cs, _, ⟨vs, _, k⟩ => by rw [cln, AR.old hn hm cs _ k]
  | .fn _ cs, _, ⟨vs, _, k⟩ => by rw [cln, AR.old hn hm cs _ k]
  | .nilf, _, _ => rfl
  | .mnil, _, _ => rfl
  | .mref r, _, ⟨b, hl, _⟩ => by rw [cln, if_pos (hn r b hl)]
  | .osl r _, _, ⟨b, _, _, hl, _⟩ => by rw [cln, if_pos (hn r b hl)]
  | .mapv _ cs, _, ⟨b, es, clock, _, _, _, _, k⟩ => by rw [cln, AR.old hn hm cs _ k]
theorem AR.old {g w n m} (hn : ∀ r b, g.loc r = some b → r < n) (hm : ∀ t k x, g.ver t k = some x → t < m) : ∀ (cs : List AV) (vs : List Value), AR g w cs vs → clnL n m cs = cs
  | [], _, _ => rfl
  | c :: cs, _, ⟨v, vs', _, k1, k2⟩ => by rw [clnL, VR.old hn hm c v k1, AR.old hn hm cs vs' k2]
theorem CR.old {g w n m} (hn : ∀ r b, g.loc r = some b → r < n) (hm : ∀ t k x, g.ver t k = some x → t < m) (b : Nat) : ∀ (cs : List AV) (o : Nat), CR g w b o cs → clnL n m cs = cs
  | [], _, _ => rfl
  | c :: cs, o, ⟨⟨v, _, _, k1⟩, k2⟩ => by rw [clnL, VR.old hn hm c v k1, CR.old hn hm b cs (o + 1) k2]
theorem ER.old {g w n m} (hn : ∀ r b, g.loc r = some b → r < n) (hm : ∀ t k x, g.ver t k = some x → t < m) (b sz : Nat) : ∀ (es : List (List AV)) (o : Nat), ER g w b sz o es → clnLL n m es = es
  | [], _, _ => rfl
  | e :: es, o, ⟨_, k1, k2⟩ => by rw [clnLL, CR.old hn hm b e o k1, ER.old hn hm b sz es (o + sz) k2]
end
theorem OR.old {g w n m r} (hn : ∀ r b, g.loc r = some b → r < n) (hm : ∀ t k x, g.ver t k = some x → t < m) : ∀ {o : AObj}, OR g w r o → clnO n m o = o
  | .cells cs, ⟨_, _, _, _, _, _, _, k⟩ => by rw [clnO, AR.old hn hm cs _ k]
  | .map ks cs, ⟨_, _, _, _, _, _, _, _, k⟩ => by rw [clnO, AR.old hn hm cs _ k]
  | .iter _ _, _ => rfl
  | .miter ks cs _ _, ⟨_, _, _, _, _, _, _, _, _, _, _, _, k, _⟩ => by rw [clnO, AR.old hn hm cs _ k]
  | .gone, _ => rfl
theorem WInv.old {W0 g H w} (h : WInv W0 g H w) {m : Nat} (hm : H.hi.length ≤ m) : H.objs.map (clnO H.objs.length m) = H.objs := by
  have hn : ∀ r b, g.loc r = some b → r < H.objs.length := fun r b hl => by
    rcases Nat.lt_or_ge r H.objs.length with k | k
    · exact k
    · rw [h.locNew r k] at hl; cases hl
  have hmm : ∀ t k x, g.ver t k = some x → t < m := fun t k x hv => by
    rcases Nat.lt_or_ge t H.hi.length with q | q
    · omega
    · rw [h.verNew t k q] at hv; cases hv
  apply List.ext_getElem?
  intro r
  rw [List.getElem?_map]
  cases ho : H.objs[r]? with
  | none => rfl
  | some o => simp [OR.old hn hmm (h.obj r o ho)]
theorem WInv.cut {W0 g H w} (h : WInv W0 g H w) (n m : Nat) : WInv W0 (g.cut n m) ⟨(H.objs.take n).map (clnO n m), H.hi.take m⟩ w := by
  have locS : ∀ r b, (g.cut n m).loc r = some b → r < n ∧ g.loc r = some b := fun r b hb => by
    simp only [Gh.cut] at hb
    split at hb
    · rename_i hr; exact ⟨hr, hb⟩
    · cases hb
  have verS : ∀ t k x, (g.cut n m).ver t k = some x → t < m ∧ g.ver t k = some x := fun t k x hb => by
    simp only [Gh.cut] at hb
    split at hb
    · rename_i hr; exact ⟨hr, hb⟩
    · cases hb
  have hiS : ∀ t k, (H.hi.take m)[t]? = some k → t < m ∧ H.hi[t]? = some k := fun t k hk => by
    rw [List.getElem?_take] at hk
    split at hk
    · rename_i ht; exact ⟨ht, hk⟩
    · cases hk
  refine ⟨h.base, h.size, h.os, h.out, h.tape, h.pubOld, h.pubNew, h.fro, fun r b hb => h.locIn r b (locS r b hb).2, fun r hr => ?_,
    fun r r' b hr hr' => h.inj r r' b (locS r b hr).2 (locS r' b hr').2, fun r o ho => ?_, fun t k b x hv => h.verIn t k b x (verS _ _ _ hv).2, fun t k ht => ?_,
    fun t k j hk hj => ?_, fun t k hk => ?_, fun t t' k k' b x x' h1 h2 h3 h4 => h.tokInj t t' k k' b x x' (hiS _ _ h1).2 (hiS _ _ h2).2 (verS _ _ _ h3).2 (verS _ _ _ h4).2⟩
  · simp only [List.length_map, List.length_take] at hr
    simp only [Gh.cut]
    split
    · exact h.locNew r (by omega)
    · rfl
  · rw [List.getElem?_map, List.getElem?_take] at ho
    split at ho
    · rename_i hr
      obtain ⟨o', ho', rfl⟩ := Option.map_eq_some_iff.1 ho
      exact OR.cut hr (h.obj r o' ho')
    · cases ho
  · simp only [List.length_take] at ht
    simp only [Gh.cut]
    split
    · exact h.verNew t k (by omega)
    · rfl
  · simp only [Gh.cut]
    split
    · exact h.verHi t k j (hiS _ _ hk).2 hj
    · rfl
  · obtain ⟨ht, hk'⟩ := hiS _ _ hk
    obtain ⟨b, o, cap, sz, cs, T, hv, hn', hs, hp, hh, hc, hl⟩ := h.tok t k hk'
    refine ⟨b, o, cap, sz, cs, T, by simp [Gh.cut, ht, hv], hn', hs, hp, hh, hc, fun r hr => ?_⟩
    exact hl r (locS r b hr).2
theorem Ext.cut {W0 g H w g' w'} (i : WInv W0 g H w) (e : Ext g w g' w') {n m : Nat} (hn : H.objs.length ≤ n) (hm : H.hi.length ≤ m) : Ext g w (g'.cut n m) w' := by
  refine ⟨e.size, e.pub, e.cell, e.fro, e.froz, fun r b hb => ?_, fun t k x hv => ?_⟩
  · have : r < n := by
      rcases Nat.lt_or_ge r H.objs.length with q | q
      · omega
      · rw [i.locNew r q] at hb; cases hb
    simp [Gh.cut, this, e.loc r b hb]
  · have : t < m := by
      rcases Nat.lt_or_ge t H.hi.length with q | q
      · omega
      · rw [i.verNew t k q] at hv; cases hv
    simp [Gh.cut, this, e.ver t k x hv]
section
variable {P : Program} {W0 : World}
theorem SF.clean {f : FuncId} {args : List AV} {H : Hp} {Q : AV → Hp → Prop}
    (h : SF P W0 f args H fun r H' => ∃ m, H.hi.length ≤ m ∧ Q (cln H.objs.length m r) ⟨(H'.objs.take H.objs.length).map (clnO H.objs.length m), H'.hi.take m⟩) : SF P W0 f args H Q := by
  intro g w vs inv har
  refine (h g w vs inv har).mono ?_
  rintro e w' ⟨v, g', r, H', rfl, ⟨m, hm, q⟩, ext, i, hv⟩
  exact ⟨v, g'.cut H.objs.length m, _, _, rfl, q, Ext.cut inv ext (Nat.le_refl _) hm, i.cut _ m, VR.cut r v hv⟩
theorem SF.pure {f : FuncId} {args : List AV} {H : Hp} {Q : AV → Prop}
    (h : SF P W0 f args H fun r H' => H'.objs.take H.objs.length = H.objs ∧ H'.hi.take H.hi.length = H.hi ∧ Q (cln H.objs.length H.hi.length r)) : SF P W0 f args H fun r H' => H' = H ∧ Q r := by
  intro g w vs inv har
  refine (h g w vs inv har).mono ?_
  rintro e w' ⟨v, g', r, H', rfl, ⟨h1, h2, q⟩, ext, i, hv⟩
  have hc := i.cut H.objs.length H.hi.length
  rw [h1, h2, inv.old (Nat.le_refl _)] at hc
  exact ⟨v, g'.cut H.objs.length H.hi.length, _, H, rfl, ⟨rfl, q⟩, Ext.cut inv ext (Nat.le_refl _) (Nat.le_refl _), hc, VR.cut r v hv⟩
theorem SF.cut {f : FuncId} {args : List AV} {H : Hp} {Q : AV → Hp → Prop}
    (h : SF P W0 f args H fun r H' => ∃ m, H.hi.length ≤ m ∧ ((H.objs.map (clnO H.objs.length m) = H.objs) → Q (cln H.objs.length m r) ⟨(H'.objs.take H.objs.length).map (clnO H.objs.length m), H'.hi.take m⟩)) : SF P W0 f args H Q := by
  intro g w vs inv har
  refine (h g w vs inv har).mono ?_
  rintro e w' ⟨v, g', r, H', rfl, ⟨m, hm, q⟩, ext, i, hv⟩
  exact ⟨v, g'.cut H.objs.length m, _, _, rfl, q (inv.old hm), Ext.cut inv ext (Nat.le_refl _) hm, i.cut _ m, VR.cut r v hv⟩
end
end Go.Av
namespace Go.Av
inductive Frz (r : Nat) (o : AObj) : AV → AV → Prop
  | same (a : AV) : Frz r o a a
  | any (a : AV) : Frz r o a .any
  | ptr (cs : List AV) (k : Nat) (h : o = .cells cs) : Frz r o (.ref r k) (.ptr (cs.drop k))
  | map (ks : List (List UInt8)) (cs : List AV) (h : o = .map ks cs) : Frz r o (.mref r) (.mapv ks cs)
inductive FrzL (r : Nat) (o : AObj) : List AV → List AV → Prop
  | nil : FrzL r o [] []
  | cons {a b : AV} {as bs : List AV} (h : Frz r o a b) (k : FrzL r o as bs) : FrzL r o (a :: as) (b :: bs)
inductive FrzE (r : Nat) (o : AObj) : List (Nat × AV) → List (Nat × AV) → Prop
  | nil : FrzE r o [] []
  | cons {d : Nat} {a b : AV} {as bs : List (Nat × AV)} (h : Frz r o a b) (k : FrzE r o as bs) : FrzE r o ((d, a) :: as) ((d, b) :: bs)
  | fn {d : Nat} {f : FuncId} {cs ds : List AV} {as bs : List (Nat × AV)} (h : FrzL r o cs ds) (k : FrzE r o as bs) : FrzE r o ((d, .fn f cs) :: as) ((d, .fn f ds) :: bs)
def Gh.open (g : Gh) (b n : Nat) : Gh := { g with pub := fun x => if x = b then n else g.pub x }
def Gh.still (g : Gh) (b : Nat) : Gh := { g with fro := fun x => if x = b then true else g.fro x }
theorem CR.row {g w b} {T fr} : ∀ {cs : List AV} {vs : List Value} {cells : Array Value} (o : Nat), w.heap[b]? = some (.cells cells T fr) → AR g w cs vs →
    (∀ j v, vs[j]? = some v → cells[o + j]? = some v) → o + cs.length ≤ g.pub b → CR g w b o cs
  | [], _, _, _, _, _, _, _ => trivial
  | c :: cs, _, cells, o, hh, ⟨v, vs', e, h1, h2⟩, hc, hp => by
    subst e
    simp only [List.length_cons] at hp
    refine ⟨⟨v, ?_, by omega, h1⟩, CR.row (o + 1) hh h2 (fun j u hj => ?_) (by omega)⟩
    · rw [cell_row hh]; exact hc 0 v (by simp)
    · have := hc (j + 1) u (by simpa using hj)
      rwa [show o + (j + 1) = o + 1 + j from by omega] at this
theorem WInv.freeze {W0 g H w} (h : WInv W0 g H w) {r : Nat} {o : AObj} (ho : H.objs[r]? = some o) :
    ∃ g', Ext g w g' w ∧ WInv W0 g' { H with objs := H.objs.set r .gone } w ∧ ∀ a b, Frz r o a b → ∀ v, VR g w a v → VR g' w b v := by
  have hlt : r < H.objs.length := by
    rcases Nat.lt_or_ge r H.objs.length with k | k
    · exact k
    · rw [List.getElem?_eq_none k] at ho; cases ho
  have hor := h.obj r o ho
  have plain : ∀ (_ : Ext g w g w), (∀ ks cs, o ≠ .map ks cs) → (∀ cs, o ≠ .cells cs) → ∃ g', Ext g w g' w ∧ WInv W0 g' { H with objs := H.objs.set r .gone } w ∧ ∀ a b, Frz r o a b → ∀ v, VR g w a v → VR g' w b v := by
    intro e n1 n2
    refine ⟨g, e, ⟨h.base, h.size, h.os, h.out, h.tape, h.pubOld, h.pubNew, h.fro, h.locIn, fun q hq => h.locNew q (by simpa using hq), h.inj, fun q y hy => ?_, h.verIn, h.verNew, h.verHi, h.tok, h.tokInj⟩, fun a b hf v hv => ?_⟩
    · rw [List.getElem?_set, if_pos hlt] at hy
      split at hy
      · cases hy; trivial
      · exact h.obj q y hy
    · cases hf with
      | same => exact hv
      | any => trivial
      | ptr cs k hc => exact absurd hc (n2 cs)
      | map ks cs hc => exact absurd hc (n1 ks cs)
  cases o with
  | iter s p => exact plain (.refl _ _) (fun _ _ => by simp) (fun _ => by simp)
  | miter ks vs l p => exact plain (.refl _ _) (fun _ _ => by simp) (fun _ => by simp)
  | gone => exact plain (.refl _ _) (fun _ _ => by simp) (fun _ => by simp)
  | cells cs =>
    obtain ⟨b, vs, T, hl, hp, hf, hh, k⟩ := hor
    have hb := h.locIn r b hl
    have e : Ext g w (g.open b cs.length) w := by
      refine ⟨Nat.le_refl _, fun x => ?_, fun _ _ _ _ hc => hc, fun _ hx => hx, fun _ _ => rfl, fun _ _ hx => hx, fun _ _ _ hx => hx⟩
      simp only [Gh.open]
      split
      · rename_i hx; subst hx; rw [hp]; exact Nat.zero_le _
      · exact Nat.le_refl _
    refine ⟨_, e, ⟨h.base, h.size, h.os, h.out, h.tape, fun x hx => ?_, fun x hx => ?_, h.fro, h.locIn, fun q hq => h.locNew q (by simpa using hq), h.inj, fun q y hy => ?_, h.verIn, h.verNew, h.verHi, fun t m hm => ?_, h.tokInj⟩, fun a c hf' v hv => ?_⟩
    · simp only [Gh.open]; rw [if_neg (by omega)]; exact h.pubOld x hx
    · simp only [Gh.open]; rw [if_neg (by omega)]; exact h.pubNew x hx
    · rw [List.getElem?_set, if_pos hlt] at hy
      split at hy
      · cases hy; trivial
      · rename_i hq
        refine (h.obj q y hy).keep e fun c hc => ⟨rfl, fun hpc => ?_, id⟩
        simp only [Gh.open]
        rw [if_neg]
        · exact hpc
        · intro e; subst e; exact hq (h.inj r q c hl hc)
    · refine (h.tok t m hm).keep e fun c y hv => ⟨rfl, ?_, fun _ => id⟩
      simp only [Gh.open]
      rw [if_neg]
      intro e; subst e
      obtain ⟨b', _, _, _, _, _, hv', _, _, _, _, _, hn⟩ := h.tok t m hm
      rw [hv] at hv'; cases hv'
      exact hn r hl
    · cases hf' with
      | same => exact VR.mono e _ _ hv
      | any => trivial
      | map ks cs hc => cases hc
      | ptr cs' kk hc =>
        cases hc
        obtain ⟨b', hl', rfl⟩ := hv
        rw [hl] at hl'; cases hl'
        refine ⟨b, kk, rfl, ?_⟩
        have hcr : CR (g.open b cs.length) w b 0 cs := CR.row 0 hh (AR.mono e _ _ k) (fun j v hj => by rw [Nat.zero_add, ← Array.getElem?_toList]; exact hj) (by simp [Gh.open])
        have := hcr.drop kk
        rwa [Nat.zero_add] at this
  | map ks cs =>
    obtain ⟨b, es, cl, hl, hp, hf, hh, hk, k⟩ := hor
    have hb := h.locIn r b hl
    have e : Ext g w (g.still b) w := by
      refine ⟨Nat.le_refl _, fun x => Nat.le_refl _, fun _ _ _ _ hc => hc, fun x hx => ?_, fun _ _ => rfl, fun _ _ hx => hx, fun _ _ _ hx => hx⟩
      simp only [Gh.still]
      split <;> simp_all
    refine ⟨_, e, ⟨h.base, h.size, h.os, h.out, h.tape, h.pubOld, h.pubNew, fun x hx => ?_, h.locIn, fun q hq => h.locNew q (by simpa using hq), h.inj, fun q y hy => ?_, h.verIn, h.verNew, h.verHi, fun t m hm => ?_, h.tokInj⟩, fun a c hf' v hv => ?_⟩
    · simp only [Gh.still] at hx
      split at hx
      · rename_i hxb; subst hxb; exact ⟨hb.1, hb.2, es, cl, hh⟩
      · exact h.fro x hx
    · rw [List.getElem?_set, if_pos hlt] at hy
      split at hy
      · cases hy; trivial
      · rename_i hq
        refine (h.obj q y hy).keep e fun c hc => ⟨rfl, id, fun hfc => ?_⟩
        simp only [Gh.still]
        rw [if_neg]
        · exact hfc
        · intro e; subst e; exact hq (h.inj r q c hl hc)
    · exact (h.tok t m hm).keep e fun c y hv => ⟨rfl, rfl, fun _ => id⟩
    · cases hf' with
      | same => exact VR.mono e _ _ hv
      | any => trivial
      | ptr cs' kk hc => cases hc
      | map ks' cs' hc =>
        cases hc
        obtain ⟨b', hl', rfl⟩ := hv
        rw [hl] at hl'; cases hl'
        exact ⟨b, es, cl, rfl, by simp [Gh.still], hh, hk, AR.mono e _ _ k⟩
theorem FrzL.rel {g w g'} {r : Nat} {o : AObj} (hf : ∀ a b, Frz r o a b → ∀ v, VR g w a v → VR g' w b v) : ∀ {as bs : List AV} {vs : List Value}, FrzL r o as bs → AR g w as vs → AR g' w bs vs
  | _, _, _, .nil, h => h
  | _, _, _, .cons h k, ⟨v, vs', e, h1, h2⟩ => ⟨v, vs', e, hf _ _ h v h1, FrzL.rel hf k h2⟩
theorem FrzE.look {g w g'} {r : Nat} {o : AObj} (hf : ∀ a b, Frz r o a b → ∀ v, VR g w a v → VR g' w b v) : ∀ {e e' : List (Nat × AV)}, FrzE r o e e' → ∀ d v, VR g w (look e d) v → VR g' w (look e' d) v
  | _, _, .nil, _, _, _ => trivial
  | _, _, .cons (d := d') h k, d, v, hv => by
    simp only [Av.look] at hv ⊢
    split
    · rename_i hd; rw [if_pos hd] at hv; exact hf _ _ h v hv
    · rename_i hd; rw [if_neg hd] at hv; exact FrzE.look hf k d v hv
  | _, _, .fn (d := d') h k, d, v, hv => by
    simp only [Av.look] at hv ⊢
    split
    · rename_i hd; rw [if_pos hd] at hv
      obtain ⟨vs, e, ha⟩ := hv
      exact ⟨vs, e, FrzL.rel hf h ha⟩
    · rename_i hd; rw [if_neg hd] at hv; exact FrzE.look hf k d v hv
section
variable {P : Program} {W0 : World} {c : Code} {st : St} {Q : Exit → St → Prop}
theorem awp_freeze (r : Nat) {o : AObj} (env' : List (Nat × AV)) (ho : st.H.objs[r]? = some o) (he : FrzE r o st.env env')
    (h : AWP P W0 c { st with env := env', H := { st.H with objs := st.H.objs.set r .gone } } Q) : AWP P W0 c st Q := by
  intro g w a hr
  obtain ⟨g', e, i, hf⟩ := hr.inv.freeze ho
  refine wp_mono (h g' w a ⟨i, hr.defers, hr.size, fun t => ?_⟩) fun _ _ _ k => k.ext e
  exact FrzE.look hf he t _ (hr.fr t)
end
end Go.Av
namespace Go.Av
def zcOf : Value → Option ZC
  | .int k n => if n = 0 then some (.int k) else none
  | .bool b => if b then none else some .bool
  | .string s => if s.size = 0 then some .str else none
  | .pointer none => some .nilp
  | .slice none 0 0 => some .slnil
  | .map none => some .mnil
  | .nilFunc => some .nilf
  | _ => none
theorem zcOf_val {v : Value} {z : ZC} (h : zcOf v = some z) : v = z.val := by
  unfold zcOf at h
  split at h <;> (try (cases h; done))
  · split at h
    · rename_i hn; cases h; subst hn; rfl
    · cases h
  · rename_i b; cases b
    · cases h; rfl
    · cases h
  · rename_i s
    split at h
    · rename_i hs
      cases h
      cases s with
      | mk d =>
        have : d = #[] := Array.eq_empty_of_size_eq_zero hs
        subst this; rfl
    · cases h
  all_goals (cases h; rfl)
def zcsOf : List Value → Option (List ZC)
  | [] => some []
  | v :: vs => match zcOf v, zcsOf vs with
    | some z, some zs => some (z :: zs)
    | _, _ => none
theorem zcsOf_val : ∀ {vs : List Value} {zs : List ZC}, zcsOf vs = some zs → vs = zs.map ZC.val
  | [], _, h => by cases h; rfl
  | v :: vs, zs, h => by
    simp only [zcsOf] at h
    split at h
    · rename_i z zs' h1 h2
      cases h
      rw [zcOf_val h1, zcsOf_val h2]; rfl
    · cases h
def fieldsOf (P : Program) : List Field → Option (List (Nat × Nat × Bool))
  | [] => some []
  | f :: fs => match P.info? f.type, P.underlying f.type, fieldsOf P fs with
    | some fi, some fd, some l => some ((f.offset, fi.size, isAggD fd) :: l)
    | _, _, _ => none
theorem fieldsOf_spec {P : Program} : ∀ {fs : List Field} {l : List (Nat × Nat × Bool)}, fieldsOf P fs = some l → fs.length = l.length ∧
    ∀ (j off s : Nat) (ag : Bool), l[j]? = some (off, s, ag) → ∃ (f : Field) (fi : TypeInfo) (fd : TypeDesc), fs[j]? = some f ∧ f.offset = off ∧ P.info? f.type = some fi ∧ fi.size = s ∧ P.underlying f.type = some fd ∧ isAggD fd = ag
  | [], _, h => by cases h; exact ⟨rfl, by simp⟩
  | f :: fs, _, h => by
    simp only [fieldsOf] at h
    split at h
    · rename_i fi fd l h1 h2 h3
      cases h
      obtain ⟨hl, k⟩ := fieldsOf_spec h3
      refine ⟨by simp [hl], fun j off s ag hj => ?_⟩
      cases j with
      | zero =>
        simp only [List.getElem?_cons_zero, Option.some.injEq, Prod.mk.injEq] at hj
        obtain ⟨rfl, rfl, rfl⟩ := hj
        exact ⟨f, fi, fd, rfl, rfl, h1, rfl, h2, rfl⟩
      | succ j => exact k j off s ag (by simpa using hj)
    · cases h
def kindOf (P : Program) : TypeDesc → Option TK
  | .int k => some (.int k)
  | .bool => some .bool
  | .string => some .str
  | .pointer e => some (.ptr e)
  | .slice e => some (.slice e)
  | .map k e => some (.map k e)
  | .func .. => some .func
  | .struct fs => (fieldsOf P fs.toList).map .struct
  | _ => none
theorem kindOf_ok {P : Program} {d : TypeDesc} {k : TK} (h : kindOf P d = some k) : KOK P k d := by
  unfold kindOf at h
  split at h
  case h_8 fs =>
    obtain ⟨l, h1, rfl⟩ := Option.map_eq_some_iff.1 h
    obtain ⟨hl, hk⟩ := fieldsOf_spec h1
    refine ⟨fs, rfl, by simpa using hl, fun j off s ag hj => ?_⟩
    obtain ⟨f, fi, fd, h2, h3⟩ := hk j off s ag hj
    exact ⟨f, fi, fd, by simpa using h2, h3⟩
  all_goals first
    | (cases h; rfl; done)
    | (cases h; exact ⟨_, _, _, rfl⟩)
    | (cases h; done)
def tabOf (P : Program) : Tab := fun t =>
  match P.info? t, P.underlying t with
  | some ti, some d =>
    match kindOf P d, ti.zero with
    | some k, some z =>
      if ti.bytes ≤ 1048576 then
        match k, z with
        | .struct fs, .agg vs => match zcsOf vs.toList with
          | some zs => if zs.length = ti.size then some ⟨ti.size, .struct fs, zs⟩ else none
          | none => none
        | .struct _, _ => none
        | k, z => match zcOf z with
          | some zc => if ti.size = 1 then some ⟨1, k, [zc]⟩ else none
          | none => none
      else none
    | _, _ => none
  | _, _ => none
theorem tabOf_ok (P : Program) : TabOK P (tabOf P) := by
  intro t i h
  unfold tabOf at h
  split at h
  · rename_i ti d hti hd
    split at h
    · rename_i k z hk hz
      split at h
      · rename_i hb
        split at h
        · rename_i fs vs
          split at h
          · rename_i zs hzs
            split at h
            · rename_i hl
              cases h
              refine ⟨⟨ti, hti, rfl, hb, ?_, hl, ?_⟩, d, hd, kindOf_ok hk⟩
              · rw [hz]; simp only [TI.isAgg, if_true, ← zcsOf_val hzs]
              · intro h; simp [TI.isAgg] at h
            · cases h
          · cases h
        · cases h
        · rename_i hne _
          have ha : ∀ zc, (⟨1, k, [zc]⟩ : TI).isAgg = false := fun zc => by
            cases hq : k with
            | struct fs => exact absurd hq (hne fs)
            | _ => simp [TI.isAgg]
          split at h
          · rename_i zc hzc
            split at h
            · rename_i hs
              cases h
              refine ⟨⟨ti, hti, hs, hb, ?_, by simp, fun _ => rfl⟩, d, hd, kindOf_ok hk⟩
              rw [hz, ha]; simp [zcOf_val hzc]
            · cases h
          · cases h
      · cases h
    · cases h
  · cases h
theorem TabOK.of {P : Program} {T T' : Tab} (h : TabOK P T') (k : ∀ t i, T t = some i → T' t = some i) : TabOK P T := fun t i e => h t i (k t i e)
end Go.Av
