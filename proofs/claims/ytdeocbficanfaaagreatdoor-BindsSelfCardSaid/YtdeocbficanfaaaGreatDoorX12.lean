/-
  Go read by value: lemmas (part 12): A18, A19.
-/
import Derived.Test.YtdeocbficanfaaaGreatDoorX11
set_option linter.unusedVariables false
set_option linter.unusedSimpArgs false
set_option linter.unusedSectionVars false
namespace Go.Av
def fixOp : Op → Bool
  | .move _ | .assign _ | .pick .. | .nilCheck _ | .binOp .. | .unOp .. | .convert .. | .load .. | .fieldAddr .. | .field .. | .indexAddr .. | .index .. | .slice .. | .build .. | .extract .. | .makeFunc .. | .lookup .. => true
  | .call c => match c.callee with | .builtin .len | .builtin .max | .builtin .min => true | _ => false
  | _ => false
def keepOp : Op → Bool
  | .buildSlice .. => true
  | op => fixOp op
theorem fix_step {T : Tab} {mu : TypeId → Bool} {ops : Array Oper} {st : St} {o : Oper} {H' : Hp} {x : AV} (hf : fixOp o.op = true) (h : stepA T mu ops st o = some (H', x)) : H' = st.H ∧ fixA T ops st o = some x := by
  unfold stepA at h
  unfold fixA
  split at h
  · rename_i hw; rw [hw]; cases h; exact ⟨rfl, rfl⟩
  · cases h
  · rename_i hw
    rw [hw]
    dsimp only
    generalize o.op = op at hf h
    have key : ∀ y : Option AV, (y.map fun r => (st.H, r)) = some (H', x) → H' = st.H ∧ y = some x := fun y hy => by
      cases y with
      | none => cases hy
      | some y => cases hy; exact ⟨rfl, rfl⟩
    split at h
    case h_7 t m k ok => exact key _ h
    case h_12 n1 n2 n3 n4 n5 n6 n7 n8 n9 n10 n11 =>
      obtain ⟨e1, e2⟩ := key _ h
      refine ⟨e1, ?_⟩
      rw [← e2]
      split
      · rename_i t m k ok; exact (n7 t m k ok rfl).elim
      · rfl
    all_goals (simp only [fixOp] at hf; cases hf; done)
theorem keep_step {T : Tab} {mu : TypeId → Bool} {ops : Array Oper} {st : St} {o : Oper} {H' : Hp} {x : AV} (hf : keepOp o.op = true) (h : stepA T mu ops st o = some (H', x)) : H' = st.H := by
  by_cases hk : fixOp o.op = true
  · exact (fix_step hk h).1
  · unfold keepOp at hf
    split at hf
    · rename_i t n ps ho
      unfold stepA at h
      rw [ho] at h
      split at h
      · cases h; rfl
      · cases h
      · simp only at h
        obtain ⟨r, _, h2⟩ := Option.map_eq_some_iff.1 h
        cases h2; rfl
    · exact absurd hf hk
def planOK (ops : Array Oper) (late : List Nat) : List (Nat × Bool) → Array Bool → Bool
  | [], listed => (Region.ready .any ops listed).isEmpty
  | (i, tk) :: p, listed =>
    (match ops[i]? with
      | none => false
      | some o =>
        if tk then fixOp o.op && Region.free .any ops listed i && (Region.ready .any ops listed).contains i && !late.contains i
        else Region.ready .any ops listed == [i]) &&
    planOK ops late p (listed.setIfInBounds i true)
def waits (ops : Array Oper) : Nat → Nat → Nat → Bool
  | 0, _, _ => false
  | f + 1, j, i => match ops[j]? with | some oj => oj.after.any (fun e => Region.binds .any e && (e.on == i || waits ops f e.on i)) | none => false
def aheadOf (ops : Array Oper) (late : List Nat) (i : Nat) : Bool := late.all fun j => waits ops 2 j i
theorem waits_listed {ops : Array Oper} {listed : Array Bool} (hcl : Closed ops listed) (i : Nat) : ∀ (f j : Nat), waits ops f j i = true → listed.getD j false = true → listed.getD i false = true
  | 0, _, h, _ => by simp [waits] at h
  | f + 1, j, h, hl => by
    simp only [waits] at h
    split at h
    · rename_i oj hoj
      obtain ⟨e, he, hb⟩ := Array.any_eq_true'.1 h
      simp only [Bool.and_eq_true, Bool.or_eq_true, beq_iff_eq] at hb
      have h2 := hcl j oj hoj hl e he hb.1
      rcases hb.2 with rfl | hb
      · exact h2
      · exact waits_listed hcl i f e.on hb h2
    · cases h
def Settled (T : Tab) (mu : TypeId → Bool) (ops : Array Oper) (late : List Nat) (i : Nat) (o : Oper) (st : St) (y : AV) : Prop :=
  aheadOf ops late i = true ∨ ∀ H, stepA T mu ops { st with H := H } o = some (H, y)
def ADr (P : Program) (W0 : World) (T : Tab) (mu : TypeId → Bool) (ops : Array Oper) (late : List Nat) (H0 : Hp) (Q : Exit → St → Prop) : List (Nat × Bool) → St → Prop
  | [], st => Q .normal st
  | (i, tk) :: p, st => ∃ o, ops[i]? = some o ∧
    ((∃ H' y, stepA T mu ops st o = some (H', y) ∧ (late.contains i = true ∨ H' = H0) ∧ (tk = true → Settled T mu ops late i o st y) ∧ ADr P W0 T mu ops late H0 Q p (St.put { st with H := H' } o.dst y)) ∨
     (tk = false ∧ AEff P W0 ops o st fun H' y => (late.contains i = true ∨ H' = H0) ∧ ADr P W0 T mu ops late H0 Q p (St.put { st with H := H' } o.dst y)))
section
variable {P : Program} {T : Tab} {mu : TypeId → Bool} {W0 : World} {ops : Array Oper} {late : List Nat} {H0 : Hp} {Q : Exit → St → Prop}
theorem withH {st : St} {H : Hp} (h : st.H = H) : ({ st with H := H } : St) = st := by subst h; rfl
def Early (late : List Nat) (H0 : Hp) (listed : Array Bool) (H : Hp) : Prop := (late.any fun j => listed.getD j false) = true ∨ H = H0
theorem Early.set {i : Nat} (hi : late.contains i = false) (listed : Array Bool) (H : Hp) : Early late H0 (listed.setIfInBounds i true) H ↔ Early late H0 listed H := by
  have : (late.any fun j => (listed.setIfInBounds i true).getD j false) = (late.any fun j => listed.getD j false) := by
    rw [Bool.eq_iff_iff, List.any_eq_true, List.any_eq_true]
    constructor
    · rintro ⟨j, hj, h⟩
      have hne : i ≠ j := fun e => by subst e; rw [List.contains_iff_mem.2 hj] at hi; cases hi
      rw [getD_set_ne false hne] at h; exact ⟨j, hj, h⟩
    · rintro ⟨j, hj, h⟩; exact ⟨j, hj, getD_set_true h⟩
  unfold Early
  rw [this]
theorem ADr.any (hT : TabOK P T) (hs : Region.noSelect ops = true) : ∀ (p : List (Nat × Bool)) (listed : Array Bool) (st : St), listed.size = ops.size → Closed ops listed → Early late H0 listed st.H →
    planOK ops late p listed = true → ADr P W0 T mu ops late H0 Q p st → AAny P W0 (Early late H0) ops Q p.length listed st
  | [], listed, st, _, _, _, hp, h => aany_done (by simpa [planOK] using hp) h
  | (i, tk) :: p, listed, st, hsz, hcl, hE, hp, ⟨o, ho, h⟩ => by
    simp only [planOK, ho, Bool.and_eq_true] at hp
    obtain ⟨hp1, hp2⟩ := hp
    have hilt : i < listed.size := by rw [hsz]; exact (Array.getElem?_eq_some_iff.1 ho).1
    have hsz' : (listed.setIfInBounds i true).size = ops.size := by simpa using hsz
    have early : ∀ H', (late.contains i = true ∨ H' = H0) → Early late H0 (listed.setIfInBounds i true) H' := by
      rintro H' (hl | rfl)
      · exact .inl (List.any_eq_true.2 ⟨i, List.contains_iff_mem.1 hl, by simp [hilt]⟩)
      · exact .inr rfl
    cases tk with
    | true =>
      rcases h with ⟨H', y, hstep, hl, hset, h⟩ | ⟨hf, _⟩
      · simp only [if_true, Bool.and_eq_true, Bool.not_eq_true'] at hp1
        obtain ⟨⟨⟨hfix, hfree⟩, hready⟩, hnl⟩ := hp1
        obtain ⟨e1, hx⟩ := fix_step hfix hstep
        subst e1
        have hH : st.H = H0 := hl.resolve_left (by rw [hnl]; simp)
        have hrd : i ∈ Region.ready .any ops listed := by simpa using hready
        refine aany_take hT hs ho (by rw [hfree, hready]; rfl) (Early.set hnl) hcl hE hx ?_ ?_
        · intro listed' H hcl' hu hI
          rcases hset rfl with hall | hall
          · have : H = H0 := hI.resolve_left fun hlj => by
              obtain ⟨j, hj, hlj⟩ := List.any_eq_true.1 hlj
              have h2 := waits_listed hcl' i 2 j (List.all_eq_true.1 hall j hj) hlj
              rcases Nat.lt_or_ge i listed'.size with q | q
              · simp [q] at h2 hu; rw [h2] at hu; cases hu
              · simp [Array.getElem?_eq_none q] at h2
            subst this
            rw [withH hH]; exact hx
          · exact (fix_step hfix (hall H)).2
        · exact ADr.any hT hs p _ _ hsz' (hcl.set hrd) (by rw [put_H]; exact (Early.set hnl _ _).2 hE) hp2 (by rwa [withH rfl] at h)
      · cases hf
    | false =>
      simp only [Bool.false_eq_true, if_false, beq_iff_eq] at hp1
      have hrd : i ∈ Region.ready .any ops listed := by rw [hp1]; simp
      refine aany_one ho hp1 ?_
      rcases h with ⟨H', y, hstep, hl, _, h⟩ | ⟨_, h⟩
      · exact aeff_step hT hstep ⟨early H' hl, ADr.any hT hs p _ _ hsz' (hcl.set hrd) (by rw [put_H]; exact early H' hl) hp2 h⟩
      · exact h.mono fun H' y ⟨hl, h⟩ => ⟨early H' hl, ADr.any hT hs p _ _ hsz' (hcl.set hrd) (by rw [put_H]; exact early H' hl) hp2 h⟩
theorem awp_draw {id : Nat} {l : List Oper} {st : St} (plan : List (Nat × Bool)) (late : List Nat) (hT : TabOK P T) (hm : P.follows .mixedOrders = true)
    (hchk : (plan.length == l.length && Region.noSelect l.toArray && planOK l.toArray late plan (Array.replicate l.length false)) = true)
    (h : ADr P W0 T mu l.toArray late st.H Q plan st) : AWP P W0 (.region id l.toArray true) st Q := by
  simp only [Bool.and_eq_true, beq_iff_eq] at hchk
  obtain ⟨⟨h1, h2⟩, h3⟩ := hchk
  refine awp_region_any (I := Early late st.H) hm ?_
  have := ADr.any hT h2 plan (Array.replicate l.length false) st (by simp) (fun j oj _ hl => by
    rcases Nat.lt_or_ge j l.length with q | q
    · simp [q] at hl
    · simp [Array.getElem?_eq_none, q] at hl) (.inr rfl) h3 h
  rwa [h1] at this
def runDN (T : Tab) (mu : TypeId → Bool) (ops : Array Oper) (k : St → Option St) (st : St) : Option Oper → Option St
  | some o => runNext T mu k st o.dst (stepA T mu ops st o)
  | none => none
def runD (T : Tab) (mu : TypeId → Bool) (ops : Array Oper) : List (Nat × Bool) → St → Option St
  | [], st => some st
  | (i, _) :: p, st => runDN T mu ops (runD T mu ops p) st (ops[i]?)
@[simp] theorem runD_nil (st : St) : runD T mu ops [] st = some st := rfl
theorem runD_cons (i : Nat) (tk : Bool) (p : List (Nat × Bool)) (st : St) : runD T mu ops ((i, tk) :: p) st = runDN T mu ops (runD T mu ops p) st (ops[i]?) := rfl
@[simp] theorem runD_nth (i : Nat) (tk : Bool) (p : List (Nat × Bool)) (st : St) : runD T mu ops ((i, tk) :: p) st = runDN T mu ops (runD T mu ops p) st (nthO ops.toList i) := by rw [runD_cons, nthO_arr]
@[simp] theorem runDN_some (k : St → Option St) (st : St) (o : Oper) : runDN T mu ops k st (some o) = runNext T mu k st o.dst (stepA T mu ops st o) := rfl
def keepAt (ops : Array Oper) (late : List Nat) (x : Nat × Bool) : Bool := (match ops[x.1]? with | some o => keepOp o.op | none => false) && (!x.2 || aheadOf ops late x.1)
def keepAt' (ops : Array Oper) (x : Nat × Bool) : Bool := match ops[x.1]? with | some o => keepOp o.op | none => false
theorem runD_step {i : Nat} {tk : Bool} {p : List (Nat × Bool)} {st st' : St} (h : runD T mu ops ((i, tk) :: p) st = some st') :
    ∃ o H' y, ops[i]? = some o ∧ stepA T mu ops st o = some (H', y) ∧ runD T mu ops p (St.put { st with H := H' } o.dst y) = some st' := by
  simp only [runD_cons] at h
  cases ho : ops[i]? with
  | none => rw [ho] at h; cases h
  | some o =>
    rw [ho] at h
    simp only [runDN_some] at h
    cases hs : stepA T mu ops st o with
    | none => rw [hs] at h; cases h
    | some r => rw [hs] at h; exact ⟨o, r.1, r.2, rfl, hs, h⟩
theorem adr_run : ∀ {p1 p2 : List (Nat × Bool)} {st st' : St}, st.H = H0 → (p1.all (keepAt ops late)) = true → runD T mu ops p1 st = some st' →
    (st'.H = H0 → ADr P W0 T mu ops late H0 Q p2 st') → ADr P W0 T mu ops late H0 Q (p1 ++ p2) st
  | [], p2, st, st', hH, _, h, k => by cases h; exact k hH
  | (i, tk) :: p1, p2, st, st', hH, hk, h, k => by
    obtain ⟨o, H', y, ho, hs, h⟩ := runD_step h
    simp only [List.all_cons, Bool.and_eq_true, keepAt, ho] at hk
    have e := keep_step hk.1.1 hs
    refine ⟨o, ho, .inl ⟨H', y, hs, .inr (e.trans hH), fun ht => .inl (by simpa [ht] using hk.1.2), ?_⟩⟩
    exact adr_run (by rw [put_H]; exact e.trans hH) hk.2 h k
theorem adr_take (n : Nat) {p : List (Nat × Bool)} {st st' : St} (hH : st.H = H0) (hk : ((p.take n).all (keepAt ops late)) = true) (h : runD T mu ops (p.take n) st = some st')
    (k : st'.H = H0 → ADr P W0 T mu ops late H0 Q (p.drop n) st') : ADr P W0 T mu ops late H0 Q p st := by
  have := adr_run (P := P) (W0 := W0) (Q := Q) (late := late) hH hk h k
  rwa [List.take_append_drop] at this
theorem adr_tail : ∀ {p : List (Nat × Bool)} {st st' : St}, (p.all fun x => late.contains x.1 && !x.2) = true → runD T mu ops p st = some st' → Q .normal st' → ADr P W0 T mu ops late H0 Q p st
  | [], st, st', _, h, k => by cases h; exact k
  | (i, tk) :: p, st, st', hk, h, k => by
    obtain ⟨o, H', y, ho, hs, h⟩ := runD_step h
    simp only [List.all_cons, Bool.and_eq_true, Bool.not_eq_true'] at hk
    exact ⟨o, ho, .inl ⟨H', y, hs, .inl hk.1.1, (fun ht => by rw [hk.1.2] at ht; cases ht), adr_tail hk.2 h k⟩⟩
abbrev noHp : Hp := ⟨[], []⟩
theorem loadA_noHp {H : Hp} {t : TypeId} {a x : AV} (h : loadA T noHp t a = some x) : loadA T H t a = some x := by
  unfold loadA at *
  cases ht : T t with
  | none => rw [ht] at h; cases h
  | some i =>
    rw [ht] at h
    cases a <;> simp at h ⊢
    exact h
theorem lookA_noHp {H : Hp} {t : TypeId} {m k x : AV} {ok : Bool} (h : lookA T noHp t m k ok = some x) : lookA T H t m k ok = some x := by
  unfold lookA at *
  split at h
  · rename_i kt et k' ht
    split at h
    · rename_i ei h1 h2
      split at h
      · cases h
      · rename_i ha
        split at h
        · cases h
        · rename_i z hz
          cases m <;> simp at h
          · simp_all
          · simp_all
    · cases h
  · cases h
theorem step_noHp {n : Nat} {e : List (Nat × AV)} {o : Oper} {H1 : Hp} {y : AV} (hf : keepOp o.op = true) (h : stepA T mu ops ⟨n, e, noHp⟩ o = some (H1, y)) (H : Hp) : stepA T mu ops ⟨n, e, H⟩ o = some (H, y) := by
  have hw : wantA ops ⟨n, e, H⟩ o = wantA ops ⟨n, e, noHp⟩ o := rfl
  have hp : ∀ op x, pureA T ⟨n, e, noHp⟩ op = some x → pureA T ⟨n, e, H⟩ op = some x := by
    intro op x hx
    cases op <;> first | exact loadA_noHp hx | exact hx | (rename_i fn _ _; cases fn <;> exact hx)
  have key : ∀ a b : Option AV, (∀ x, a = some x → b = some x) → (a.map fun r => (noHp, r)) = some (H1, y) → (b.map fun r => (H, r)) = some (H, y) := by
    intro a b hab ha
    obtain ⟨r, h1, h2⟩ := Option.map_eq_some_iff.1 ha
    cases h2
    rw [hab _ h1]; rfl
  unfold stepA at *
  rw [hw]
  split at h
  · cases h; rfl
  · cases h
  · generalize o.op = op at hf h ⊢
    cases op <;> (try (simp only [keepOp, fixOp] at hf; cases hf; done)) <;> simp only at h ⊢
    case call c =>
      obtain ⟨callee, args, tys⟩ := c
      cases callee with
      | value x => simp [keepOp, fixOp] at hf
      | invoke x m => simp [keepOp, fixOp] at hf
      | builtin b =>
        cases b <;> (try (simp [keepOp, fixOp] at hf; done)) <;> exact key _ _ (hp _) h
    all_goals first
      | exact key _ _ (hp _) h
      | exact key _ _ (fun x hx => hx) h
      | exact key _ _ (fun x hx => lookA_noHp hx) h
theorem adr_runH : ∀ {p1 p2 : List (Nat × Bool)} {n : Nat} {e e' : List (Nat × AV)}, (p1.all (keepAt' ops)) = true → runD T mu ops p1 ⟨n, e, noHp⟩ = some ⟨n, e', noHp⟩ →
    ADr P W0 T mu ops late H0 Q p2 ⟨n, e', H0⟩ → ADr P W0 T mu ops late H0 Q (p1 ++ p2) ⟨n, e, H0⟩
  | [], p2, n, e, e', _, h, k => by cases h; exact k
  | (i, tk) :: p1, p2, n, e, e', hk, h, k => by
    obtain ⟨o, H', y, ho, hs, hr⟩ := runD_step h
    simp only [List.all_cons, Bool.and_eq_true, keepAt', ho] at hk
    have e1 : H' = noHp := keep_step hk.1 hs
    subst e1
    refine ⟨o, ho, .inl ⟨H0, y, step_noHp hk.1 hs H0, .inr rfl, fun _ => .inr (step_noHp hk.1 hs), ?_⟩⟩
    have e2 : ∀ H : Hp, ∃ e1, St.put ⟨n, e, H⟩ o.dst y = ⟨n, e1, H⟩ ∧ ∀ H', St.put ⟨n, e, H'⟩ o.dst y = ⟨n, e1, H'⟩ := by
      intro H
      unfold St.put
      split
      · split
        · exact ⟨_, rfl, fun _ => by simp_all⟩
        · exact ⟨_, rfl, fun _ => by simp_all⟩
      · exact ⟨_, rfl, fun _ => rfl⟩
    obtain ⟨e1, q1, q2⟩ := e2 noHp
    simp only at hr
    rw [q1] at hr
    show ADr P W0 T mu ops late H0 Q (p1 ++ p2) (St.put ⟨n, e, H0⟩ o.dst y)
    rw [q2]
    exact adr_runH hk.2 hr k
theorem adr_takeH (m : Nat) {p : List (Nat × Bool)} {n : Nat} {e e' : List (Nat × AV)} (hk : ((p.take m).all (keepAt' ops)) = true) (h : runD T mu ops (p.take m) ⟨n, e, noHp⟩ = some ⟨n, e', noHp⟩)
    (k : ADr P W0 T mu ops late H0 Q (p.drop m) ⟨n, e', H0⟩) : ADr P W0 T mu ops late H0 Q p ⟨n, e, H0⟩ := by
  have := adr_runH (P := P) (W0 := W0) (Q := Q) (late := late) (H0 := H0) hk h k
  rwa [List.take_append_drop] at this
theorem adr_nil {st : St} (h : Q .normal st) : ADr P W0 T mu ops late H0 Q [] st := h
theorem adr_all {p : List (Nat × Bool)} {st st' : St} (hH : st.H = H0) (hk : (p.all (keepAt ops late)) = true) (h : runD T mu ops p st = some st') (k : Q .normal st') : ADr P W0 T mu ops late H0 Q p st := by
  have := adr_run (P := P) (W0 := W0) (Q := Q) (late := late) (p2 := []) hH hk h fun _ => k
  rwa [List.append_nil] at this
theorem adr_fn {i : Nat} {p : List (Nat × Bool)} {st : St} {o : Oper} {c : Call} {f : FuncId} {d : Nat} {args : List AV} (hi : ops[i]? = some o) (ho : o.op = .call c) (hc : c.callee = .value (.func f)) (hg : o.guard = none) (hd : o.dst = some d)
    (hen : enters P f) (ha : c.args.toList.map st.eval = args)
    (h : SF P W0 f args st.H fun r H' => (late.contains i = true ∨ H' = H0) ∧ ADr P W0 T mu ops late H0 Q p (St.put { st with H := H' } (some d) r)) : ADr P W0 T mu ops late H0 Q ((i, false) :: p) st := by
  refine ⟨o, hi, .inr ⟨rfl, aeff_call (by simp [wantA, hg]) ho hc (f := f) (caps := []) rfl hen ?_⟩⟩
  rw [List.append_nil, ha, hd]
  exact h
theorem aops_test {rest : List Oper} {st : St} {o : Oper} {r : Hp × AV} {b : Bool} (hT : TabOK P T) (hs : stepA T mu ops st o = some r) (hr : r.2 = .bool b)
    (ht : b = true → AOps P W0 ops rest (St.put { st with H := r.1 } o.dst (.bool true)) Q) (hf : b = false → AOps P W0 ops rest (St.put { st with H := r.1 } o.dst (.bool false)) Q) : AOps P W0 ops (o :: rest) st Q := by
  obtain ⟨H', y⟩ := r
  simp only at hr
  subst hr
  refine aops_step hT hs ?_
  cases b
  · exact hf rfl
  · exact ht rfl
theorem adr_test {i : Nat} {tk : Bool} {p : List (Nat × Bool)} {st : St} {o : Oper} {b : Bool} (hH : st.H = H0) (ha : (!tk || aheadOf ops late i) = true) (ho : nthO ops.toList i = some o) {r : Hp × AV} (hs' : stepA T mu ops st o = some r) (hr1 : r.1 = st.H) (hr2 : r.2 = .bool b)
    (ht : b = true → ADr P W0 T mu ops late H0 Q p (St.put st o.dst (.bool true))) (hf : b = false → ADr P W0 T mu ops late H0 Q p (St.put st o.dst (.bool false))) : ADr P W0 T mu ops late H0 Q ((i, tk) :: p) st := by
  obtain ⟨H', y⟩ := r
  simp only at hr1 hr2
  subst hr1 hr2
  have hs := hs'
  refine ⟨o, by rw [nthO_arr]; exact ho, .inl ⟨st.H, .bool b, hs, .inr hH, fun ht => .inl (by simpa [ht] using ha), ?_⟩⟩
  cases b
  · exact hf rfl
  · exact ht rfl
theorem wantA_guard {ops : Array Oper} {st : St} {o : Oper} {j : Nat} {want : Bool} (hg : o.guard = some (j, want)) (h : gwant want st (dstO (nthO ops.toList j)) = some true) : wantA ops st o = some true := by
  have hd0 : dstO (nthO ops.toList j) = (ops[j]?).bind (·.dst) := by rw [nthO_arr]; cases nthO ops.toList j <;> rfl
  rw [hd0] at h
  unfold gwant at h
  simp only [wantA, hg]
  split at h
  · rename_i d hd
    rw [hd]
    split at h
    · rename_i hlt
      simp only [hlt, if_true]
      unfold gw at h
      split at h
      · rename_i b' hb'; rw [hb']; exact h
      · cases h
      · cases h
    · cases h
  · cases h
theorem aops_fnG {rest : List Oper} {st : St} {o : Oper} {c : Call} {f : FuncId} {d j : Nat} {want : Bool} {args : List AV} (ho : o.op = .call c) (hc : c.callee = .value (.func f)) (hg : o.guard = some (j, want)) (hd : o.dst = some d)
    (hw : gwant want st (dstO (nthO ops.toList j)) = some true) (hen : enters P f) (ha : c.args.toList.map st.eval = args)
    (h : SF P W0 f args st.H fun r H' => AOps P W0 ops rest (St.put { st with H := H' } (some d) r) Q) : AOps P W0 ops (o :: rest) st Q := by
  refine aops_call (wantA_guard hg hw) ho hc (f := f) (caps := []) rfl hen ?_
  rw [List.append_nil, ha, hd]
  exact h
theorem adr_fnG {i : Nat} {p : List (Nat × Bool)} {st : St} {o : Oper} {c : Call} {f : FuncId} {d j : Nat} {want : Bool} {args : List AV} (hi : ops[i]? = some o) (ho : o.op = .call c) (hc : c.callee = .value (.func f)) (hg : o.guard = some (j, want)) (hd : o.dst = some d)
    (hw : gwant want st (dstO (nthO ops.toList j)) = some true) (hen : enters P f) (ha : c.args.toList.map st.eval = args)
    (h : SF P W0 f args st.H fun r H' => (late.contains i = true ∨ H' = H0) ∧ ADr P W0 T mu ops late H0 Q p (St.put { st with H := H' } (some d) r)) : ADr P W0 T mu ops late H0 Q ((i, false) :: p) st := by
  refine ⟨o, hi, .inr ⟨rfl, aeff_call (wantA_guard hg hw) ho hc (f := f) (caps := []) rfl hen ?_⟩⟩
  rw [List.append_nil, ha, hd]
  exact h
theorem adr_step {i : Nat} {tk : Bool} {p : List (Nat × Bool)} {st : St} {o : Oper} {y : AV} (hH : st.H = H0) (ha : (!tk || aheadOf ops late i) = true) (ho : nthO ops.toList i = some o) {r : Hp × AV} (hs' : stepA T mu ops st o = some r) (hr1 : r.1 = st.H) (hr2 : r.2 = y)
    (h : ADr P W0 T mu ops late H0 Q p (St.put st o.dst y)) : ADr P W0 T mu ops late H0 Q ((i, tk) :: p) st :=
  have hs : stepA T mu ops st o = some (st.H, y) := by rw [hs', ← hr1, ← hr2]
  ⟨o, by rw [nthO_arr]; exact ho, .inl ⟨st.H, y, hs, .inr hH, fun ht => .inl (by simpa [ht] using ha), h⟩⟩
theorem aops_val {rest : List Oper} {st : St} {o : Oper} {c : Call} {x : Operand} {f : FuncId} {caps : List AV} {d : Nat} {args : List AV} (ho : o.op = .call c) (hc : c.callee = .value x) (hg : o.guard = none) (hd : o.dst = some d)
    (hf : st.eval x = .fn f caps) (hen : enters P f) (ha : c.args.toList.map st.eval ++ caps = args)
    (h : SF P W0 f args st.H fun r H' => AOps P W0 ops rest (St.put { st with H := H' } (some d) r) Q) : AOps P W0 ops (o :: rest) st Q := by
  refine aops_call (by simp [wantA, hg]) ho hc hf hen ?_
  rw [ha, hd]
  exact h
theorem adr_val {i : Nat} {p : List (Nat × Bool)} {st : St} {o : Oper} {c : Call} {x : Operand} {f : FuncId} {caps : List AV} {d : Nat} {args : List AV} (hi : ops[i]? = some o) (ho : o.op = .call c) (hc : c.callee = .value x) (hg : o.guard = none) (hd : o.dst = some d)
    (hf : st.eval x = .fn f caps) (hen : enters P f) (ha : c.args.toList.map st.eval ++ caps = args)
    (h : SF P W0 f args st.H fun r H' => (late.contains i = true ∨ H' = H0) ∧ ADr P W0 T mu ops late H0 Q p (St.put { st with H := H' } (some d) r)) : ADr P W0 T mu ops late H0 Q ((i, false) :: p) st := by
  refine ⟨o, hi, .inr ⟨rfl, aeff_call (by simp [wantA, hg]) ho hc hf hen ?_⟩⟩
  rw [ha, hd]
  exact h
theorem SF.then {f : FuncId} {args : List AV} {H : Hp} {v : AV} {K : AV → Hp → Prop} (h : SF P W0 f args H fun r H' => H' = H ∧ r = v) (k : K v H) : SF P W0 f args H K :=
  h.mono fun r H' q => by obtain ⟨rfl, rfl⟩ := q; exact k
end
end Go.Av
namespace Go.Av
def retC (T : Tab) (a : Tmp) (t : TypeId) (us : List Tmp) (Q : AV → Hp → Prop) : Exit → St → Prop
  | .normal, st | .ret, st => ∃ r, loadA T st.H t (look st.env a) = some r ∧ Q (.tuple (r :: us.map (look st.env))) st.H
  | _, _ => False
section
variable {P : Program} {T : Tab} {W0 : World}
theorem cell_load {t : TypeId} {a r : AV} {v : Value} {H : Hp} {g : Gh} {w : World} (hT : TabOK P T) (inv : WInv W0 g H w) (h : loadA T H t a = some r) (hv : VR g w a v) :
    ∃ z ad, v = .pointer (some ad) ∧ (loadVar t ad).run P w = .ok z w ∧ VR g w r z := by
  obtain ⟨z, h1, h2⟩ := loadA_sound (P := P) hT inv h hv
  obtain ⟨i, ht, h⟩ := Option.bind_eq_some_iff.1 h
  cases a with
  | ptr cs =>
    obtain ⟨b, o, rfl, hc⟩ := hv
    exact ⟨z, _, rfl, by simpa [Instr.loadAt, Instr.sureAddr] using h1, h2⟩
  | ref q k =>
    obtain ⟨b, hl, rfl⟩ := hv
    exact ⟨z, _, rfl, by simpa [Instr.loadAt, Instr.sureAddr] using h1, h2⟩
  | _ => simp at h
theorem sf_startC {f : FuncId} {fn : Func} {c : Code} {args : List AV} {H : Hp} {Q : AV → Hp → Prop} (a : Tmp) (t : TypeId) (us : List Tmp) (n : Nat) (hT : TabOK P T) (hf : P.funcs[f]? = some fn) (hb : fn.body = some c) (hn : fn.ntmps = n)
    (hr : fn.results = (ResultVar.cell a t :: us.map ResultVar.tmp).toArray) (h3 : us.length = 1 ∨ us.length = 2) (ha : args.length ≤ n) (h : AWP P W0 c ⟨n, envOf 0 args, H⟩ (retC T a t us Q)) : SF P W0 f args H Q := by
  subst hn
  intro g w vs inv hargs
  have hlen : vs.size = args.length := by rw [← Array.length_toList]; exact hargs.length
  refine calls_of_wp hf hb (wp_mono (h g w _ ⟨inv, rfl, ?_, fun t => ?_⟩) ?_)
  · simp; omega
  · have := envOf_look 0 t hargs (List.replicate (fn.ntmps - vs.size) undef)
    simpa [Array.getD_eq_getD_getElem?, ← Array.getElem?_toList, List.getD_eq_getElem?_getD] using this
  · have key : ∀ e a' w', Post W0 (retC T a t us Q) g w e a' w' → (e = .normal ∨ e = .ret) → a'.defers = [] ∧ ∃ v, (results fn a'.tmps).run P w' = .ok v w' ∧ ∃ v', ∃ g' r H', Ending.returned v = .returned v' ∧ Q r H' ∧ Ext g w g' w' ∧ WInv W0 g' H' w' ∧ VR g' w' r v' := by
      rintro e a' w' ⟨g', st', q, ext, r'⟩ he
      have q' : ∃ r, loadA T st'.H t (look st'.env a) = some r ∧ Q (.tuple (r :: us.map (look st'.env))) st'.H := by
        rcases he with rfl | rfl <;> exact q
      obtain ⟨r, hl, q⟩ := q'
      obtain ⟨z, ad, hz, hrun, hv⟩ := cell_load hT r'.inv hl (r'.fr a)
      refine ⟨r'.defers, ?_⟩
      have hz' : a'.tmps[a]?.getD undef = .pointer (some ad) := by simpa [Array.getD_eq_getD_getElem?] using hz
      rcases h3 with h3 | h3
      · obtain ⟨u, rfl⟩ := List.length_eq_one_iff.1 h3
        refine ⟨.tuple #[z, a'.tmps.getD u undef], ?_, _, g', _, st'.H, rfl, q, ext, r'.inv, ⟨_, rfl, AR.cons hv (AR.cons (r'.fr u) AR.nil)⟩⟩
        simp [results, hr, hz', asAddr, hrun]
      · match us, h3 with
        | [u, u'], _ => ?_
        refine ⟨.tuple #[z, a'.tmps.getD u undef, a'.tmps.getD u' undef], ?_, _, g', _, st'.H, rfl, q, ext, r'.inv, ⟨_, rfl, AR.cons hv (AR.cons (r'.fr u) (AR.cons (r'.fr u') AR.nil))⟩⟩
        simp [results, hr, hz', asAddr, hrun]
    intro e a' w' q
    cases e with
    | normal => exact key _ _ _ q (.inl rfl)
    | ret => exact key _ _ _ q (.inr rfl)
    | exit id => obtain ⟨_, _, q, _⟩ := q; exact q.elim
    | goto l => obtain ⟨_, _, q, _⟩ := q; exact q.elim
    | panic ch => obtain ⟨_, _, q, _⟩ := q; exact q.elim
    | outgrown => obtain ⟨_, _, q, _⟩ := q; exact q.elim
end
def lenS : Option TK → Nat → Option AV
  | some (.slice _), n => some (.int .i64 n)
  | _, _ => none
@[simp] theorem lenS_slice (e n : Nat) : lenS (some (.slice e)) n = some (.int .i64 n) := rfl
def lenT : Option TK → Nat → Option AV
  | some .str, n => some (.int .i64 n)
  | _, _ => none
@[simp] theorem lenT_str (n : Nat) : lenT (some .str) n = some (.int .i64 n) := rfl
def lenM : Option TK → Option AV
  | some (.map _ _) => some (.int .i64 0)
  | _ => none
@[simp] theorem lenM_map (k e : Nat) : lenM (some (.map k e)) = some (.int .i64 0) := rfl
@[simp] theorem lenA_sl (T : Tab) (t : TypeId) (sz : Nat) (es : List (List AV)) (own : Own) : lenA T t (.sl sz es own) = lenS ((T t).map (·.kind)) es.length := by
  unfold lenA lenS; cases (T t).map (·.kind) with
  | none => rfl
  | some k => cases k <;> rfl
@[simp] theorem lenA_slnil (T : Tab) (t : TypeId) : lenA T t .slnil = lenS ((T t).map (·.kind)) 0 := by
  unfold lenA lenS; cases (T t).map (·.kind) with
  | none => rfl
  | some k => cases k <;> rfl
@[simp] theorem lenA_str (T : Tab) (t : TypeId) (s : List UInt8) : lenA T t (.str s) = lenT ((T t).map (·.kind)) s.length := by
  unfold lenA lenT; cases (T t).map (·.kind) with
  | none => rfl
  | some k => cases k <;> rfl
@[simp] theorem lenA_mnil (T : Tab) (t : TypeId) : lenA T t .mnil = lenM ((T t).map (·.kind)) := by
  unfold lenA lenM; cases (T t).map (·.kind) with
  | none => rfl
  | some k => cases k <;> rfl
theorem App.len {T : Tab} {H0 H : Hp} {sz : Nat} {es : List (List AV)} {v : AV} (h : App H0 H sz es v) {t : TypeId} {e : Nat} {s : Nat} {z : List ZC} (ht : T t = some ⟨s, .slice e, z⟩) : lenA T t v = some (.int .i64 es.length) := by
  rcases h.is with ⟨rfl, rfl⟩ | rfl | ⟨k, h1, rfl, h3⟩ <;> simp [ht]
end Go.Av
