/-
  Go read by value: lemmas (part 13): A20, A21.
-/
import Derived.Test.YtdeocbficanfaaaGreatDoorX12
set_option linter.unusedVariables false
set_option linter.unusedSimpArgs false
set_option linter.unusedSectionVars false
namespace Go.Av
def eqOwn : Own → Own → Bool
  | .capped, .capped => true
  | .shut, .shut => true
  | .tok a, .tok b => Nat.beq a b
  | _, _ => false
theorem eqOwn_ok : ∀ {a b : Own}, eqOwn a b = true → a = b
  | .capped, .capped, _ => rfl
  | .shut, .shut, _ => rfl
  | .tok a, .tok b, h => by rw [Nat.eq_of_beq_eq_true h]
def eqInt : Int → Int → Bool
  | .ofNat a, .ofNat b => Nat.beq a b
  | .negSucc a, .negSucc b => Nat.beq a b
  | _, _ => false
theorem eqInt_ok : ∀ {a b : Int}, eqInt a b = true → a = b
  | .ofNat a, .ofNat b, h => by rw [Nat.eq_of_beq_eq_true h]
  | .negSucc a, .negSucc b, h => by rw [Nat.eq_of_beq_eq_true h]
def eqStr : List UInt8 → List UInt8 → Bool
  | [], [] => true
  | a :: as, b :: bs => Nat.beq a.toNat b.toNat && eqStr as bs
  | _, _ => false
theorem eqStr_ok : ∀ {a b : List UInt8}, eqStr a b = true → a = b
  | [], [], _ => rfl
  | a :: as, b :: bs, h => by
    simp only [eqStr, Bool.and_eq_true] at h
    rw [UInt8.toNat_inj.1 (Nat.eq_of_beq_eq_true h.1), eqStr_ok h.2]
def eqStrs : List (List UInt8) → List (List UInt8) → Bool
  | [], [] => true
  | a :: as, b :: bs => eqStr a b && eqStrs as bs
  | _, _ => false
theorem eqStrs_ok : ∀ {a b : List (List UInt8)}, eqStrs a b = true → a = b
  | [], [], _ => rfl
  | a :: as, b :: bs, h => by
    simp only [eqStrs, Bool.and_eq_true] at h
    rw [eqStr_ok h.1, eqStrs_ok h.2]
mutual
def eqA : AV → AV → Bool
  | .any, .any => true
  | .int k n, .int k' n' => decide (k = k') && eqInt n n'
  | .bool b, .bool b' => b == b'
  | .str s, .str s' => eqStr s s'
  | .nilp, .nilp => true
  | .ptr cs, .ptr cs' => eqL cs cs'
  | .ref r o, .ref r' o' => Nat.beq r r' && Nat.beq o o'
  | .slnil, .slnil => true
  | .sl sz es own, .sl sz' es' own' => Nat.beq sz sz' && eqOwn own own' && eqLL es es'
  | .agg cs, .agg cs' => eqL cs cs'
  | .tuple cs, .tuple cs' => eqL cs cs'
  | .fn f cs, .fn f' cs' => Nat.beq f f' && eqL cs cs'
  | .nilf, .nilf => true
  | .mnil, .mnil => true
  | .mref r, .mref r' => Nat.beq r r'
  | .osl r k, .osl r' k' => Nat.beq r r' && Nat.beq k k'
  | .mapv ks vs, .mapv ks' vs' => eqStrs ks ks' && eqL vs vs'
  | _, _ => false
def eqL : List AV → List AV → Bool
  | [], [] => true
  | a :: as, b :: bs => eqA a b && eqL as bs
  | _, _ => false
def eqLL : List (List AV) → List (List AV) → Bool
  | [], [] => true
  | a :: as, b :: bs => eqL a b && eqLL as bs
  | _, _ => false
end
mutual
theorem eqA_ok : ∀ {a b : AV}, eqA a b = true → a = b
  | .any, b, h => by cases b <;> simp_all [eqA]
  | .int k n, b, h => by cases b <;> simp [eqA] at h; rw [h.1, eqInt_ok h.2]
  | .bool _, b, h => by cases b <;> simp_all [eqA]
  | .str _, b, h => by cases b <;> simp [eqA] at h; rw [eqStr_ok h]
  | .nilp, b, h => by cases b <;> simp_all [eqA]
  | .ptr cs, b, h => by cases b <;> simp [eqA] at h; rw [eqL_ok h]
  | .ref r o, b, h => by cases b <;> simp [eqA] at h; rw [h.1, h.2]
  | .slnil, b, h => by cases b <;> simp_all [eqA]
  | .sl sz es own, b, h => by cases b <;> simp [eqA] at h; rw [h.1.1, eqOwn_ok h.1.2, eqLL_ok h.2]
  | .agg cs, b, h => by cases b <;> simp [eqA] at h; rw [eqL_ok h]
  | .tuple cs, b, h => by cases b <;> simp [eqA] at h; rw [eqL_ok h]
  | .fn f cs, b, h => by cases b <;> simp [eqA] at h; rw [h.1, eqL_ok h.2]
  | .nilf, b, h => by cases b <;> simp_all [eqA]
  | .mnil, b, h => by cases b <;> simp_all [eqA]
  | .mref r, b, h => by cases b <;> simp [eqA] at h; rw [h]
  | .osl r k, b, h => by cases b <;> simp [eqA] at h; rw [h.1, h.2]
  | .mapv ks vs, b, h => by cases b <;> simp [eqA] at h; rw [eqStrs_ok h.1, eqL_ok h.2]
theorem eqL_ok : ∀ {a b : List AV}, eqL a b = true → a = b
  | [], [], _ => rfl
  | a :: as, b :: bs, h => by
    simp only [eqL, Bool.and_eq_true] at h
    rw [eqA_ok h.1, eqL_ok h.2]
  | [], _ :: _, h => by simp [eqL] at h
  | _ :: _, [], h => by simp [eqL] at h
theorem eqLL_ok : ∀ {a b : List (List AV)}, eqLL a b = true → a = b
  | [], [], _ => rfl
  | a :: as, b :: bs, h => by
    simp only [eqLL, Bool.and_eq_true] at h
    rw [eqL_ok h.1, eqLL_ok h.2]
  | [], _ :: _, h => by simp [eqLL] at h
  | _ :: _, [], h => by simp [eqLL] at h
end
def eqO : AObj → AObj → Bool
  | .cells a, .cells b => eqL a b
  | .map ks vs, .map ks' vs' => eqStrs ks ks' && eqL vs vs'
  | .iter s p, .iter s' p' => eqStr s s' && Nat.beq p p'
  | .gone, .gone => true
  | _, _ => false
theorem eqO_ok {a b : AObj} (h : eqO a b = true) : a = b := by
  cases a <;> cases b <;> simp [eqO] at h
  · rw [eqL_ok h]
  · rw [eqStrs_ok h.1, eqL_ok h.2]
  · rw [eqStr_ok h.1, h.2]
  · rfl
def eqOs : List AObj → List AObj → Bool
  | [], [] => true
  | a :: as, b :: bs => eqO a b && eqOs as bs
  | _, _ => false
theorem eqOs_ok : ∀ {a b : List AObj}, eqOs a b = true → a = b
  | [], [], _ => rfl
  | a :: as, b :: bs, h => by
    simp only [eqOs, Bool.and_eq_true] at h
    rw [eqO_ok h.1, eqOs_ok h.2]
def eqNs : List Nat → List Nat → Bool
  | [], [] => true
  | a :: as, b :: bs => Nat.beq a b && eqNs as bs
  | _, _ => false
theorem eqNs_ok : ∀ {a b : List Nat}, eqNs a b = true → a = b
  | [], [], _ => rfl
  | a :: as, b :: bs, h => by
    simp only [eqNs, Bool.and_eq_true] at h
    rw [Nat.eq_of_beq_eq_true h.1, eqNs_ok h.2]
def eqHp (a b : Hp) : Bool := eqNs a.hi b.hi && eqOs a.objs b.objs
theorem eqHp_ok {a b : Hp} (h : eqHp a b = true) : a = b := by
  simp only [eqHp, Bool.and_eq_true] at h
  cases a; cases b; simp only [Hp.mk.injEq]; exact ⟨eqOs_ok h.2, eqNs_ok h.1⟩
mutual
def frz (r : Nat) (o : AObj) : AV → AV
  | .ref q k => if Nat.beq q r then (match o with | .cells cs => .ptr (cs.drop k) | _ => .ref q k) else .ref q k
  | .mref q => if Nat.beq q r then (match o with | .map ks cs => .mapv ks cs | _ => .mref q) else .mref q
  | .osl q k => .osl q k
  | .ptr cs => .ptr (frzL r o cs)
  | .sl sz es own => .sl sz (frzLL r o es) own
  | .agg cs => .agg (frzL r o cs)
  | .tuple cs => .tuple (frzL r o cs)
  | .fn f cs => .fn f (frzL r o cs)
  | .mapv ks cs => .mapv ks (frzL r o cs)
  | .any => .any
  | .int k i => .int k i
  | .bool b => .bool b
  | .str s => .str s
  | .nilp => .nilp
  | .slnil => .slnil
  | .nilf => .nilf
  | .mnil => .mnil
def frzL (r : Nat) (o : AObj) : List AV → List AV
  | [] => []
  | c :: cs => frz r o c :: frzL r o cs
def frzLL (r : Nat) (o : AObj) : List (List AV) → List (List AV)
  | [] => []
  | e :: es => frzL r o e :: frzLL r o es
end
theorem frzL_length (r : Nat) (o : AObj) : ∀ cs, (frzL r o cs).length = cs.length
  | [] => rfl
  | _ :: cs => by simp [frzL, frzL_length r o cs]
theorem frzLL_length (r : Nat) (o : AObj) : ∀ es, (frzLL r o es).length = es.length
  | [] => rfl
  | _ :: es => by simp [frzLL, frzLL_length r o es]
section
variable {g g' : Gh} {w : World} {r : Nat} {o : AObj}
mutual
theorem VR.frz (e : Ext g w g' w) (hf : ∀ a b, Frz r o a b → ∀ v, VR g w a v → VR g' w b v) : ∀ (a : AV) (v : Value), VR g w a v → VR g' w (frz r o a) v
  | .any, _, _ => trivial
  | .int _ _, _, k => k
  | .bool _, _, k => k
  | .str _, _, k => k
  | .nilp, _, k => k
  | .slnil, _, k => k
  | .nilf, _, k => k
  | .mnil, _, k => k
  | .osl q k, v, h => hf _ _ (.same _) v h
  | .ref q k, v, h => by
    simp only [Av.frz]
    split
    · rename_i hq
      have := Nat.eq_of_beq_eq_true hq
      subst this
      split
      · exact hf _ _ (.ptr _ _ rfl) v h
      · exact hf _ _ (.same _) v h
    · exact hf _ _ (.same _) v h
  | .mref q, v, h => by
    simp only [Av.frz]
    split
    · rename_i hq
      have := Nat.eq_of_beq_eq_true hq
      subst this
      split
      · exact hf _ _ (.map _ _ rfl) v h
      · exact hf _ _ (.same _) v h
    · exact hf _ _ (.same _) v h
  | .ptr cs, _, ⟨b, k, h1, h2⟩ => ⟨b, k, h1, CR.frz e hf b cs k h2⟩
  | .sl sz es own, _, .inl ⟨h1, h2, h3⟩ => by subst h1; exact .inl ⟨rfl, h2, h3⟩
  | .sl sz es own, _, .inr ⟨b, k, cap, h1, hl, ho, h2⟩ => .inr ⟨b, k, cap, by rw [frzLL_length]; exact h1, by rw [frzLL_length]; exact hl, by rw [frzLL_length]; exact ho.mono e, ER.frz e hf b sz es k h2⟩
  | .agg cs, _, ⟨vs, h, k⟩ => ⟨vs, h, AR.frz e hf cs _ k⟩
  | .tuple cs, _, ⟨vs, h, k⟩ => ⟨vs, h, AR.frz e hf cs _ k⟩
  | .fn _ cs, _, ⟨vs, h, k⟩ => ⟨vs, h, AR.frz e hf cs _ k⟩
  | .mapv _ cs, _, ⟨b, es, clock, h, hfr, hb, hk, k⟩ => ⟨b, es, clock, h, e.fro _ hfr, (e.froz _ hfr).trans hb, hk, AR.frz e hf cs _ k⟩
theorem AR.frz (e : Ext g w g' w) (hf : ∀ a b, Frz r o a b → ∀ v, VR g w a v → VR g' w b v) : ∀ (cs : List AV) (vs : List Value), AR g w cs vs → AR g' w (frzL r o cs) vs
  | [], _, k => k
  | c :: cs, _, ⟨v, vs', h, k1, k2⟩ => ⟨v, vs', h, VR.frz e hf c v k1, AR.frz e hf cs vs' k2⟩
theorem CR.frz (e : Ext g w g' w) (hf : ∀ a b, Frz r o a b → ∀ v, VR g w a v → VR g' w b v) (b : Nat) : ∀ (cs : List AV) (k : Nat), CR g w b k cs → CR g' w b k (frzL r o cs)
  | [], _, _ => trivial
  | c :: cs, k, ⟨⟨v, hc, ho, k1⟩, k2⟩ => ⟨⟨v, e.cell b k v ho hc, Nat.lt_of_lt_of_le ho (e.pub b), VR.frz e hf c v k1⟩, CR.frz e hf b cs (k + 1) k2⟩
theorem ER.frz (e : Ext g w g' w) (hf : ∀ a b, Frz r o a b → ∀ v, VR g w a v → VR g' w b v) (b sz : Nat) : ∀ (es : List (List AV)) (k : Nat), ER g w b sz k es → ER g' w b sz k (frzLL r o es)
  | [], _, _ => trivial
  | c :: es, k, ⟨hl, k1, k2⟩ => ⟨(frzL_length r o c).trans hl, CR.frz e hf b c k k1, ER.frz e hf b sz es (k + sz) k2⟩
end
end
mutual
def namesA (n : Nat) : AV → Option Nat
  | .ref q _ => if Nat.ble n q then some q else none
  | .mref q => if Nat.ble n q then some q else none
  | .osl q _ => if Nat.ble n q then some q else none
  | .ptr cs => namesL n cs
  | .sl _ es _ => namesLL n es
  | .agg cs => namesL n cs
  | .tuple cs => namesL n cs
  | .mapv _ cs => namesL n cs
  | _ => none
def namesL (n : Nat) : List AV → Option Nat
  | [] => none
  | c :: cs => match namesA n c with | some q => some q | none => namesL n cs
def namesLL (n : Nat) : List (List AV) → Option Nat
  | [] => none
  | c :: cs => match namesL n c with | some q => some q | none => namesLL n cs
end
def pubA (n : Nat) : Nat → AV → Hp → AV × Hp
  | 0, r, H => (r, H)
  | k + 1, r, H => match namesA n r with
    | none => (r, H)
    | some q => match H.objs[q]? with
      | some (.cells cs) => pubA n k (frz q (.cells cs) r) { H with objs := H.objs.set q .gone }
      | some (.map ks cs) => pubA n k (frz q (.map ks cs) r) { H with objs := H.objs.set q .gone }
      | _ => (r, H)
theorem pubA_ok {W0 : World} {n : Nat} : ∀ {k : Nat} {r : AV} {H : Hp} {g : Gh} {w : World} {v : Value}, WInv W0 g H w → VR g w r v →
    ∃ g', Ext g w g' w ∧ WInv W0 g' (pubA n k r H).2 w ∧ VR g' w (pubA n k r H).1 v
  | 0, r, H, g, w, v, i, h => ⟨g, .refl _ _, i, h⟩
  | k + 1, r, H, g, w, v, i, h => by
    unfold pubA
    split
    · exact ⟨g, .refl _ _, i, h⟩
    · rename_i q _
      split
      · rename_i cs ho
        obtain ⟨g1, e1, i1, f1⟩ := i.freeze ho
        obtain ⟨g2, e2, i2, h2⟩ := pubA_ok (k := k) i1 (VR.frz e1 f1 r v h)
        exact ⟨g2, e1.trans e2, i2, h2⟩
      · rename_i ks cs ho
        obtain ⟨g1, e1, i1, f1⟩ := i.freeze ho
        obtain ⟨g2, e2, i2, h2⟩ := pubA_ok (k := k) i1 (VR.frz e1 f1 r v h)
        exact ⟨g2, e1.trans e2, i2, h2⟩
      · exact ⟨g, .refl _ _, i, h⟩
abbrev Rec := FuncId → List AV → Hp → Option (AV × Hp)
def RecOK (P : Program) (W0 : World) (rec : Rec) : Prop := ∀ f args H r H', rec f args H = some (r, H') → enters P f ∧ SF P W0 f args H fun x X => x = r ∧ X = H'
section
variable {P : Program} {T : Tab} {W0 : World} {mu : TypeId → Bool} {rec : Rec} {eff : FuncId → Bool}
def stepR (T : Tab) (mu : TypeId → Bool) (rec : Rec) (ops : Array Oper) (st : St) (o : Oper) : Option (Hp × AV) :=
  match o.op with
  | .call c =>
    match c.callee with
    | .value x =>
      match wantA ops st o with
      | some true =>
        match st.eval x with
        | .fn f caps => match rec f (c.args.toList.map st.eval ++ caps) st.H with | some r => some (r.2, r.1) | none => none
        | _ => none
      | some false => some (st.H, .tuple [])
      | none => none
    | _ => stepA T mu ops st o
  | _ => stepA T mu ops st o
theorem stepR_ok {ops : Array Oper} {st : St} {o : Oper} {H' : Hp} {y : AV} (hT : TabOK P T) (hr : RecOK P W0 rec) (h : stepR T mu rec ops st o = some (H', y)) :
    AEff P W0 ops o st fun X x => X = H' ∧ x = y := by
  unfold stepR at h
  split at h
  · rename_i c ho
    split at h
    · rename_i x hx
      split at h
      · rename_i hw
        split at h
        · rename_i f caps hf
          split at h
          · rename_i r hrec
            cases h
            obtain ⟨he, hs⟩ := hr _ _ _ _ _ hrec
            exact aeff_call hw ho hx hf he (hs.mono fun _ _ ⟨a, b⟩ => ⟨b, a⟩)
          · cases h
        · cases h
      · rename_i hw; cases h; exact aeff_skip hw ⟨rfl, rfl⟩
      · cases h
    · exact aeff_step hT h ⟨rfl, rfl⟩
  · exact aeff_step hT h ⟨rfl, rfl⟩
def runR (T : Tab) (mu : TypeId → Bool) (rec : Rec) (ops : Array Oper) : List Oper → St → Option St
  | [], st => some st
  | o :: l, st => match stepR T mu rec ops st o with
    | some r => runR T mu rec ops l (St.put { st with H := r.1 } o.dst r.2)
    | none => none
theorem runR_ok {ops : Array Oper} {Q : Exit → St → Prop} (hT : TabOK P T) (hr : RecOK P W0 rec) : ∀ {l : List Oper} {st st' : St}, runR T mu rec ops l st = some st' → Q .normal st' → AOps P W0 ops l st Q
  | [], st, st', h, q => by cases h; exact aops_nil q
  | o :: l, st, st', h, q => by
    simp only [runR] at h
    split at h
    · rename_i r hs
      refine aops_cons ((stepR_ok hT hr hs).mono ?_)
      rintro X x ⟨rfl, rfl⟩
      exact runR_ok hT hr h q
    · cases h
def stepD (T : Tab) (mu : TypeId → Bool) (rec : Rec) (ops : Array Oper) (late : List Nat) (st : St) (i : Nat) (tk : Bool) (o : Oper) : Option (Hp × AV) :=
  if late.contains i then (if tk then none else stepR T mu rec ops st o)
  else if keepOp o.op then
    (if tk && !aheadOf ops late i then (match stepA T mu ops { st with H := noHp } o with | some r => some (st.H, r.2) | none => none) else (match stepA T mu ops st o with | some r => some (st.H, r.2) | none => none))
  else if tk then none else match stepR T mu rec ops st o with
    | some r => if eqHp r.1 st.H then some (st.H, r.2) else none
    | none => none
def runP (T : Tab) (mu : TypeId → Bool) (rec : Rec) (ops : Array Oper) (late : List Nat) : Bool → List (Nat × Bool) → St → Option St
  | _, [], st => some st
  | s, (i, tk) :: p, st =>
    match ops[i]? with
    | none => none
    | some o =>
      if s && !late.contains i then none else
      match stepD T mu rec ops late st i tk o with
      | some r => runP T mu rec ops late (s || late.contains i) p (St.put { st with H := r.1 } o.dst r.2)
      | none => none
theorem runP_ok {ops : Array Oper} {late : List Nat} {H0 : Hp} {Q : Exit → St → Prop} (hT : TabOK P T) (hr : RecOK P W0 rec) : ∀ {s : Bool} {p : List (Nat × Bool)} {st st' : St}, (s = false → st.H = H0) → runP T mu rec ops late s p st = some st' →
    Q .normal st' → ADr P W0 T mu ops late H0 Q p st
  | _, [], st, st', _, h, q => by cases h; exact q
  | s, (i, tk) :: p, st, st', hs, h, q => by
    unfold runP at h
    split at h
    · cases h
    · rename_i o ho
      refine ⟨o, ho, ?_⟩
      split at h
      · cases h
      · rename_i hsl
        split at h
        · rename_i r hd
          unfold stepD at hd
          split at hd
          · rename_i hl
            split at hd
            · cases hd
            · rename_i htk
              refine .inr ⟨by simpa using htk, (stepR_ok hT hr hd).mono ?_⟩
              rintro X x ⟨rfl, rfl⟩
              exact ⟨.inl hl, runP_ok hT hr (fun hh => by rw [hl, Bool.or_true] at hh; cases hh) h q⟩
          · rename_i hl
            have hsf : s = false := by cases s <;> simp_all
            have hH := hs hsf
            have hlf : late.contains i = false := by simpa using hl
            split at hd
            · rename_i hk
              have go : ∀ y, stepA T mu ops st o = some (st.H, y) → (tk = true → Settled T mu ops late i o st y) → r = (st.H, y) →
                  (∃ H' y, stepA T mu ops st o = some (H', y) ∧ (late.contains i = true ∨ H' = H0) ∧ (tk = true → Settled T mu ops late i o st y) ∧ ADr P W0 T mu ops late H0 Q p (St.put { st with H := H' } o.dst y)) := by
                rintro y h1 h2 rfl
                refine ⟨st.H, y, h1, .inr hH, h2, runP_ok hT hr ?_ h q⟩
                intro _
                rw [put_H]; exact hH
              split at hd
              · rename_i hc
                split at hd
                · rename_i r' hr'
                  cases hd
                  have hr2 : stepA T mu ops ⟨st.n, st.env, noHp⟩ o = some (r'.1, r'.2) := hr'
                  exact .inl (go r'.2 (step_noHp hk hr2 st.H) (fun _ => .inr (step_noHp hk hr2)) rfl)
                · cases hd
              · rename_i hc
                split at hd
                · rename_i r' hr'
                  cases hd
                  have e : r'.1 = st.H := keep_step hk (H' := r'.1) (x := r'.2) hr'
                  refine .inl (go r'.2 (by rw [hr', ← e]) (fun ht => .inl ?_) rfl)
                  simp only [ht, Bool.true_and, Bool.not_eq_true', Bool.not_eq_false] at hc
                  exact hc
                · cases hd
            · split at hd
              · cases hd
              · rename_i htk
                split at hd
                · rename_i r' hr'
                  split at hd
                  · rename_i he
                    cases hd
                    refine .inr ⟨by simpa using htk, (stepR_ok hT hr hr').mono ?_⟩
                    rintro X x ⟨rfl, rfl⟩
                    have e := eqHp_ok he
                    refine ⟨.inr (e.trans hH), ?_⟩
                    rw [e]
                    exact runP_ok hT hr (fun _ => by rw [put_H]; exact hH) h q
                  · cases hd
                · cases hd
        · cases h
def mutOp (eff : FuncId → Bool) : Op → Bool
  | .store .. | .alloc _ | .box .. | .mapUpdate .. | .makeMap .. | .makeSlice .. | .range .. | .next .. => true
  | .call c => match c.callee with
    | .builtin .append => true
    | .builtin _ => false
    | .value (.func f) => eff f
    | _ => true
  | _ => false
def planGo (ops : Array Oper) : Nat → Array Bool → List (Nat × Bool)
  | 0, _ => []
  | n + 1, listed => match Region.ready .any ops listed with
    | [] => []
    | [i] => (i, false) :: planGo ops n (listed.setIfInBounds i true)
    | l => match l.find? (fun i => (match ops[i]? with | some o => fixOp o.op | none => false) && Region.free .any ops listed i) with
      | some i => (i, true) :: planGo ops n (listed.setIfInBounds i true)
      | none => []
def lateOf (eff : FuncId → Bool) (ops : Array Oper) : List (Nat × Bool) → List Nat
  | [] => []
  | (i, tk) :: p => if (match ops[i]? with | some o => mutOp eff o.op | none => false) then i :: p.map (·.1) else lateOf eff ops p
structure Plan where
  plan : List (Nat × Bool)
  late : List Nat
  ok : Bool
def planOf (eff : FuncId → Bool) (ops : Array Oper) : Plan :=
  let p := planGo ops ops.size (Array.replicate ops.size false)
  let l := lateOf eff ops p
  ⟨p, l, (p.length == ops.toList.length && Region.noSelect ops && planOK ops l p (Array.replicate ops.toList.length false))⟩
def dedup : List (Nat × AV) → List Nat → List (Nat × AV)
  | [], _ => []
  | (d, v) :: e, seen => if seen.contains d then dedup e seen else (d, v) :: dedup e (d :: seen)
theorem dedup_look : ∀ {e : List (Nat × AV)} {seen : List Nat} (d : Nat), seen.contains d = false → look (dedup e seen) d = look e d
  | [], _, _, _ => rfl
  | (k, v) :: e, seen, d, h => by
    simp only [dedup]
    split
    · rename_i hk
      rw [dedup_look d h]
      simp only [look]
      split
      · rename_i hd; subst hd; rw [hk] at h; cases h
      · rfl
    · rename_i hk
      simp only [look]
      split
      · rfl
      · rename_i hd
        refine dedup_look d ?_
        simp only [List.contains_cons, Bool.or_eq_false_iff]
        exact ⟨by simpa using hd, h⟩
def slimSt (st : St) : St := { st with env := dedup st.env [] }
theorem slim_sub (st : St) : Sub st (slimSt st) := ⟨rfl, rfl, fun d => by rw [show look (slimSt st).env d = look st.env d from dedup_look d rfl]; exact .refl _⟩
def evalC (T : Tab) (mu : TypeId → Bool) (eff : FuncId → Bool) (rec : Rec) : Nat → Code → St → Option (Exit × St)
  | 0, _, _ => none
  | k + 1, c, st =>
    match c with
    | .skip => some (.normal, st)
    | .exit id => some (.exit id, st)
    | .ret => some (.ret, st)
    | .region _ ops false => match runR T mu rec ops ops.toList st with | some st' => some (.normal, st') | none => none
    | .region _ ops true =>
      match planOf eff ops with
      | ⟨p, l, true⟩ => match runP T mu rec ops l false p st with | some st' => some (.normal, st') | none => none
      | _ => none
    | .seq a b => match evalC T mu eff rec k a st with
      | some (.normal, st') => evalC T mu eff rec k b st'
      | r => r
    | .cond c x y => match st.eval c with
      | .bool true => evalC T mu eff rec k x st
      | .bool false => evalC T mu eff rec k y st
      | _ => none
    | .block id b => match evalC T mu eff rec k b st with
      | some (.exit i, st') => if i = id then some (.normal, st') else some (.exit i, st')
      | r => r
    | .loop b => match evalC T mu eff rec k b st with
      | some (.normal, st') => evalC T mu eff rec k (.loop b) (slimSt st')
      | r => r
    | _ => none
theorem ARounds.sub {c : Code} {Q : Exit → St → Prop} {st t : St} (h : Sub st t) : ∀ {n : Nat}, ARounds P W0 c Q n t → ARounds P W0 c Q n st
  | 0, k => k.elim
  | _ + 1, k => awp_sub h k
def Comes (P : Program) (W0 : World) (Q : Exit → St → Prop) (c : Code) (st : St) : Prop :=
  AWP P W0 c st Q ∧ ∀ b, c = .loop b → ∃ n, ARounds P W0 b Q n st
theorem Comes.of {c : Code} {st : St} {Q : Exit → St → Prop} (h : AWP P W0 c st Q) (hc : ∀ b, c ≠ .loop b) : Comes P W0 Q c st := ⟨h, fun b e => absurd e (hc b)⟩
theorem evalC_ok' (hT : TabOK P T) (hm : P.follows .mixedOrders = true) (hr : RecOK P W0 rec) : ∀ {k : Nat} {c : Code} {st st' : St} {e : Exit} {Q : Exit → St → Prop}, evalC T mu eff rec k c st = some (e, st') → Q e st' → Comes P W0 Q c st := by
  intro k
  induction k with
  | zero => intro c st st' e Q h; cases h
  | succ k ih =>
    intro c st st' e Q h q
    unfold evalC at h
    split at h
    · cases h; exact .of (awp_skip q) (by simp)
    · cases h; exact .of (awp_exit q) (by simp)
    · cases h; exact .of (awp_ret q) (by simp)
    · refine .of ?_ (by simp)
      split at h
      · rename_i id ops _ st1 h1
        cases h
        obtain ⟨l⟩ := ops
        exact awp_region (runR_ok hT hr h1 q)
      · cases h
    · rename_i id ops
      refine .of ?_ (by simp)
      split at h
      · rename_i p l hp
        split at h
        · rename_i st1 h1
          cases h
          obtain ⟨ol⟩ := ops
          have hchk : (planOf eff (⟨ol⟩ : Array Oper)).ok = true := by rw [hp]
          have e1 : (planOf eff (⟨ol⟩ : Array Oper)).plan = p := by rw [hp]
          have e2 : (planOf eff (⟨ol⟩ : Array Oper)).late = l := by rw [hp]
          simp only [planOf] at hchk e1 e2
          rw [e1] at hchk e2
          rw [e2] at hchk
          exact awp_draw p l hT hm hchk (runP_ok hT hr (fun _ => rfl) h1 q)
        · cases h
      · cases h
    · rename_i a b
      refine .of (awp_seq ?_) (by simp)
      split at h
      · rename_i st1 h1
        exact (ih h1 (Q := thenA (fun st => AWP P W0 b st Q) Q) (ih h q).1).1
      · rename_i hne
        refine (ih h (Q := thenA (fun st => AWP P W0 b st Q) Q) (e := e) ?_).1
        cases e with
        | normal => exact absurd h (hne _)
        | _ => exact q
    · rename_i x a b
      refine .of ?_ (by simp)
      split at h
      · rename_i hc; exact awp_cond hc (ih h q).1
      · rename_i hc; exact awp_cond hc (ih h q).1
      · cases h
    · rename_i id b
      refine .of (awp_block ?_) (by simp)
      split at h
      · rename_i i st1 h1
        split at h
        · rename_i hi
          cases h
          exact (ih h1 (Q := inBlockA id Q) (by simp only [inBlockA, if_pos hi]; exact q)).1
        · rename_i hi
          cases h
          exact (ih h1 (Q := inBlockA id Q) (by simp only [inBlockA, if_neg hi]; exact q)).1
      · rename_i hne
        refine (ih h (Q := inBlockA id Q) (e := e) ?_).1
        cases e with
        | exit i => exact absurd h (hne _ _)
        | _ => exact q
    · rename_i b
      have key : ∃ n, ARounds P W0 b Q n st := by
        split at h
        · rename_i st1 h1
          obtain ⟨n, hn⟩ := (ih h q).2 b rfl
          exact ⟨n + 1, (ih h1 (Q := thenA (ARounds P W0 b Q n) Q) (ARounds.sub (slim_sub st1) hn)).1⟩
        · rename_i hne
          refine ⟨1, (ih h (Q := thenA (ARounds P W0 b Q 0) Q) (e := e) ?_).1⟩
          cases e with
          | normal => exact absurd h (hne _)
          | _ => exact q
      obtain ⟨n, hn⟩ := key
      exact ⟨awp_loop n hn, fun b' e => by cases e; exact ⟨n, hn⟩⟩
    · cases h
theorem evalC_ok (hT : TabOK P T) (hm : P.follows .mixedOrders = true) (hr : RecOK P W0 rec) {k : Nat} {c : Code} {st st' : St} {e : Exit} {Q : Exit → St → Prop} (h : evalC T mu eff rec k c st = some (e, st')) (q : Q e st') : AWP P W0 c st Q :=
  (evalC_ok' hT hm hr h q).1
def resX (T : Tab) (fn : Func) (st : St) : Option AV :=
  match fn.results.toList with
  | [.tmp t] => some (look st.env t)
  | [] => some (.tuple [])
  | [.tmp t, .tmp u] => some (.tuple [look st.env t, look st.env u])
  | [.tmp t, .tmp u, .tmp v] => some (.tuple [look st.env t, look st.env u, look st.env v])
  | [.cell a t, .tmp u] => match loadA T st.H t (look st.env a) with | some r => some (.tuple [r, look st.env u]) | none => none
  | [.cell a t, .tmp u, .tmp v] => match loadA T st.H t (look st.env a) with | some r => some (.tuple [r, look st.env u, look st.env v]) | none => none
  | _ => none
def finA (keep : Bool) (H : Hp) (r : AV) (H' : Hp) : Option (AV × Hp) :=
  match pubA H.objs.length 64 r H' with
  | (r1, H1) =>
    if keep then some (cln H.objs.length (max H.hi.length H1.hi.length) r1, ⟨(H1.objs.take H.objs.length).map (clnO H.objs.length (max H.hi.length H1.hi.length)), H1.hi.take (max H.hi.length H1.hi.length)⟩)
    else if eqOs (H1.objs.take H.objs.length) H.objs && eqNs (H1.hi.take H.hi.length) H.hi then some (cln H.objs.length H.hi.length r1, H) else none
def entersB (fn : Func) : Bool := decide (fn.name ≠ "runtime.NumGoroutine")
def evalF (P : Program) (T : Tab) (mu : TypeId → Bool) (eff : FuncId → Bool) (lib : Rec) : Nat → Rec
  | 0 => lib
  | k + 1 => fun f args H =>
    match lib f args H with
    | some r => some r
    | none => match P.funcs[f]? with
      | none => none
      | some fn => match fn.body with
        | none => none
        | some c =>
          if entersB fn && Nat.ble args.length fn.ntmps then
            match evalC T mu eff (evalF P T mu eff lib k) 1000000 c ⟨fn.ntmps, envOf 0 args, H⟩ with
            | some (.normal, st) => match resX T fn st with | some r => finA (eff f) H r st.H | none => none
            | some (.ret, st) => match resX T fn st with | some r => finA (eff f) H r st.H | none => none
            | _ => none
          else none
theorem pub_sf {f : FuncId} {args : List AV} {H : Hp} {n k : Nat} {Q : AV → Hp → Prop} (h : SF P W0 f args H fun r H' => Q (pubA n k r H').1 (pubA n k r H').2) : SF P W0 f args H Q := by
  intro g w vs inv har
  refine (h g w vs inv har).mono ?_
  rintro e w' ⟨v, g', r, H', rfl, q, ext, i, hv⟩
  obtain ⟨g2, e2, i2, h2⟩ := pubA_ok (n := n) (k := k) i hv
  exact ⟨v, g2, _, _, rfl, q, ext.trans e2, i2, h2⟩
theorem fin_sf {f : FuncId} {args : List AV} {H : Hp} {keep : Bool} {r2 : AV} {H2 : Hp} (h : SF P W0 f args H fun r H' => finA keep H r H' = some (r2, H2)) :
    SF P W0 f args H fun x X => x = r2 ∧ X = H2 := by
  cases keep with
  | true =>
    refine SF.clean (pub_sf (n := H.objs.length) (k := 64) (h.mono ?_))
    intro r H' hf
    unfold finA at hf
    simp only [if_true, Option.some.injEq, Prod.mk.injEq] at hf
    exact ⟨max H.hi.length (pubA H.objs.length 64 r H').2.hi.length, Nat.le_max_left _ _, hf.1, hf.2⟩
  | false =>
    have : SF P W0 f args H fun x X => X = H ∧ (x = r2 ∧ H = H2) := by
      refine SF.pure (pub_sf (n := H.objs.length) (k := 64) (h.mono ?_))
      intro r H' hf
      unfold finA at hf
      simp only [Bool.false_eq_true, if_false] at hf
      split at hf
      · rename_i hc
        simp only [Bool.and_eq_true] at hc
        simp only [Option.some.injEq, Prod.mk.injEq] at hf
        exact ⟨eqOs_ok hc.1, eqNs_ok hc.2, hf.1, hf.2⟩
      · cases hf
    exact this.mono fun _ _ ⟨a, b, c⟩ => ⟨b, a.trans c⟩
theorem sf_of_bodyX {f : FuncId} {fn : Func} {c : Code} {args : List AV} {H : Hp} {Q : AV → Hp → Prop} (hT : TabOK P T)
    (hf : P.funcs[f]? = some fn) (hb : fn.body = some c) (hn : args.length ≤ fn.ntmps)
    (h : AWP P W0 c ⟨fn.ntmps, envOf 0 args, H⟩ fun e st => (e = .normal ∨ e = .ret) ∧ ∃ r, resX T fn st = some r ∧ Q r st.H) : SF P W0 f args H Q := by
  have split : (∃ (a : Tmp) (t : TypeId) (us : List Tmp), fn.results = (ResultVar.cell a t :: us.map ResultVar.tmp).toArray ∧ (us.length = 1 ∨ us.length = 2)) ∨ ∀ st r, resX T fn st = some r → resA fn st = some r := by
    unfold resX resA
    generalize hl : fn.results.toList = l
    have e : fn.results = l.toArray := by rw [← hl]
    match l, e with
    | [.tmp t], _ => exact .inr fun _ _ h => h
    | [], _ => exact .inr fun _ _ h => h
    | [.tmp t, .tmp u], _ => exact .inr fun _ _ h => h
    | [.tmp t, .tmp u, .tmp v], _ => exact .inr fun _ _ h => h
    | [.cell a t, .tmp u], e => exact .inl ⟨a, t, [u], e, .inl rfl⟩
    | [.cell a t, .tmp u, .tmp v], e => exact .inl ⟨a, t, [u, v], e, .inr rfl⟩
    | [.cell _ _], _ => exact .inr fun _ _ h => by simp at h
    | [.cell _ _, .cell _ _], _ => exact .inr fun _ _ h => by simp at h
    | [.tmp _, .cell _ _], _ => exact .inr fun _ _ h => by simp at h
    | [.cell _ _, .cell _ _, _], _ => exact .inr fun _ _ h => by simp at h
    | [.cell _ _, .tmp _, .cell _ _], _ => exact .inr fun _ _ h => by simp at h
    | [.tmp _, .cell _ _, _], _ => exact .inr fun _ _ h => by simp at h
    | [.tmp _, .tmp _, .cell _ _], _ => exact .inr fun _ _ h => by simp at h
    | _ :: _ :: _ :: _ :: _, _ => exact .inr fun _ _ h => by simp at h
  rcases split with ⟨a, t, us, hr, h3⟩ | hr
  · refine sf_startC a t us fn.ntmps hT hf hb rfl hr h3 hn (h.mono ?_)
    rintro e st ⟨he, r, h1, q⟩
    have key : ∃ r, loadA T st.H t (look st.env a) = some r ∧ Q (.tuple (r :: us.map (look st.env))) st.H := by
      unfold resX at h1
      rw [hr] at h1
      rcases h3 with h3 | h3
      · obtain ⟨u, rfl⟩ := List.length_eq_one_iff.1 h3
        simp only [List.map_cons, List.map_nil] at h1
        split at h1
        · rename_i r0 hl; cases h1; exact ⟨r0, hl, q⟩
        · cases h1
      · match us, h3 with
        | [u, u'], _ =>
          simp only [List.map_cons, List.map_nil] at h1
          split at h1
          · rename_i r0 hl; cases h1; exact ⟨r0, hl, q⟩
          · cases h1
    rcases he with rfl | rfl <;> exact key
  · refine sf_of_body hf hb hn (h.mono ?_)
    rintro e st ⟨he, r, h1, q⟩
    rcases he with rfl | rfl <;> exact ⟨r, hr _ _ h1, q⟩
theorem evalF_ok {lib : Rec} (hT : TabOK P T) (hm : P.follows .mixedOrders = true) (hl : RecOK P W0 lib) : ∀ k, RecOK P W0 (evalF P T mu eff lib k)
  | 0 => hl
  | k + 1 => by
    intro f args H r H' h
    unfold evalF at h
    split at h
    · rename_i r0 h0; cases h; exact hl _ _ _ _ _ h0
    · split at h
      · cases h
      · rename_i fn hfn
        split at h
        · cases h
        · rename_i c hb
          split at h
          · rename_i hc
            simp only [Bool.and_eq_true, entersB, decide_eq_true_eq] at hc
            have hen : enters P f := ⟨fn, hfn, hc.1, by rw [hb]; simp⟩
            refine ⟨hen, ?_⟩
            have hlen : args.length ≤ fn.ntmps := Nat.le_of_ble_eq_true hc.2
            split at h
            · rename_i st h1
              split at h
              · rename_i r1 hr1
                refine fin_sf (keep := eff f) (sf_of_bodyX hT hfn hb hlen ?_)
                exact evalC_ok hT hm (evalF_ok hT hm hl k) h1 ⟨.inl rfl, r1, hr1, h⟩
              · cases h
            · rename_i st h1
              split at h
              · rename_i r1 hr1
                refine fin_sf (keep := eff f) (sf_of_bodyX hT hfn hb hlen ?_)
                exact evalC_ok hT hm (evalF_ok hT hm hl k) h1 ⟨.inr rfl, r1, hr1, h⟩
              · cases h
            · cases h
          · cases h
end
end Go.Av
namespace Go.Av
def ADrJ (P : Program) (W0 : World) (T : Tab) (ops : Array Oper) (late : List Nat) (J : Hp → Prop) (Q : Exit → St → Prop) : List (Nat × Bool) → St → Prop
  | [], st => Q .normal st
  | (i, tk) :: p, st => ∃ o, ops[i]? = some o ∧
    ((tk = true ∧ aheadOf ops late i = true ∧ ∃ y, fixA T ops st o = some y ∧ (∀ H, J H → fixA T ops { st with H := H } o = some y) ∧ ADrJ P W0 T ops late J Q p (St.put st o.dst y)) ∨
     (tk = false ∧ AEff P W0 ops o st fun H' y => (late.contains i = true ∨ J H') ∧ ADrJ P W0 T ops late J Q p (St.put { st with H := H' } o.dst y)))
section
variable {P : Program} {T : Tab} {mu : TypeId → Bool} {W0 : World} {ops : Array Oper} {late : List Nat} {J : Hp → Prop} {Q : Exit → St → Prop}
def EarlyJ (late : List Nat) (J : Hp → Prop) (listed : Array Bool) (H : Hp) : Prop := (late.any fun j => listed.getD j false) = true ∨ J H
theorem EarlyJ.set {i : Nat} (hi : late.contains i = false) (listed : Array Bool) (H : Hp) : EarlyJ late J (listed.setIfInBounds i true) H ↔ EarlyJ late J listed H := by
  have : (late.any fun j => (listed.setIfInBounds i true).getD j false) = (late.any fun j => listed.getD j false) := by
    rw [Bool.eq_iff_iff, List.any_eq_true, List.any_eq_true]
    constructor
    · rintro ⟨j, hj, h⟩
      have hne : i ≠ j := fun e => by subst e; rw [List.contains_iff_mem.2 hj] at hi; cases hi
      rw [getD_set_ne false hne] at h; exact ⟨j, hj, h⟩
    · rintro ⟨j, hj, h⟩; exact ⟨j, hj, getD_set_true h⟩
  unfold EarlyJ
  rw [this]
theorem ADrJ.any (hT : TabOK P T) (hs : Region.noSelect ops = true) : ∀ (p : List (Nat × Bool)) (listed : Array Bool) (st : St), listed.size = ops.size → Closed ops listed → EarlyJ late J listed st.H →
    planOK ops late p listed = true → ADrJ P W0 T ops late J Q p st → AAny P W0 (EarlyJ late J) ops Q p.length listed st
  | [], listed, st, _, _, _, hp, h => aany_done (by simpa [planOK] using hp) h
  | (i, tk) :: p, listed, st, hsz, hcl, hE, hp, ⟨o, ho, h⟩ => by
    simp only [planOK, ho, Bool.and_eq_true] at hp
    obtain ⟨hp1, hp2⟩ := hp
    have hilt : i < listed.size := by rw [hsz]; exact (Array.getElem?_eq_some_iff.1 ho).1
    have hsz' : (listed.setIfInBounds i true).size = ops.size := by simpa using hsz
    rcases h with ⟨rfl, hall, y, hx, hJ, h⟩ | ⟨rfl, h⟩
    · simp only [if_true, Bool.and_eq_true, Bool.not_eq_true'] at hp1
      obtain ⟨⟨⟨hfix, hfree⟩, hready⟩, hnl⟩ := hp1
      have hrd : i ∈ Region.ready .any ops listed := by simpa using hready
      refine aany_take hT hs ho (by rw [hfree, hready]; rfl) (EarlyJ.set hnl) hcl hE hx ?_ ?_
      · intro listed' H hcl' hu hI
        refine hJ H (hI.resolve_left fun hlj => ?_)
        obtain ⟨j, hj, hlj⟩ := List.any_eq_true.1 hlj
        have h2 := waits_listed hcl' i 2 j (List.all_eq_true.1 hall j hj) hlj
        rcases Nat.lt_or_ge i listed'.size with q | q
        · simp [q] at h2 hu; rw [h2] at hu; cases hu
        · simp [Array.getElem?_eq_none q] at h2
      · exact ADrJ.any hT hs p _ _ hsz' (hcl.set hrd) (by rw [put_H]; exact (EarlyJ.set hnl _ _).2 hE) hp2 h
    · simp only [Bool.false_eq_true, if_false, beq_iff_eq] at hp1
      have hrd : i ∈ Region.ready .any ops listed := by rw [hp1]; simp
      have early : ∀ H', (late.contains i = true ∨ J H') → EarlyJ late J (listed.setIfInBounds i true) H' := by
        rintro H' (hl | hj)
        · exact .inl (List.any_eq_true.2 ⟨i, List.contains_iff_mem.1 hl, by simp [hilt]⟩)
        · exact .inr hj
      refine aany_one ho hp1 ?_
      exact h.mono fun H' y ⟨hl, h⟩ => ⟨early H' hl, ADrJ.any hT hs p _ _ hsz' (hcl.set hrd) (by rw [put_H]; exact early H' hl) hp2 h⟩
theorem awp_drawJ {id : Nat} {l : List Oper} {st : St} (J : Hp → Prop) (plan : List (Nat × Bool)) (late : List Nat) (hT : TabOK P T) (hm : P.follows .mixedOrders = true)
    (hchk : (plan.length == l.length && Region.noSelect l.toArray && planOK l.toArray late plan (Array.replicate l.length false)) = true) (hJ : J st.H)
    (h : ADrJ P W0 T l.toArray late J Q plan st) : AWP P W0 (.region id l.toArray true) st Q := by
  simp only [Bool.and_eq_true, beq_iff_eq] at hchk
  obtain ⟨⟨h1, h2⟩, h3⟩ := hchk
  refine awp_region_any (I := EarlyJ late J) hm ?_
  have := ADrJ.any hT h2 plan (Array.replicate l.length false) st (by simp) (fun j oj _ hl => by
    rcases Nat.lt_or_ge j l.length with q | q
    · simp [q] at hl
    · simp [Array.getElem?_eq_none, q] at hl) (.inr hJ) h3 h
  rwa [h1] at this
theorem adj_nil {st : St} (h : Q .normal st) : ADrJ P W0 T ops late J Q [] st := h
theorem adj_fix {i : Nat} {p : List (Nat × Bool)} {st : St} {o : Oper} {y : AV} (ho : ops[i]? = some o) (ha : aheadOf ops late i = true) (hf : fixOp o.op = true) (hJs : J st.H)
    (hx : ∀ H, J H → stepA T mu ops { st with H := H } o = some (H, y)) (h : ADrJ P W0 T ops late J Q p (St.put st o.dst y)) : ADrJ P W0 T ops late J Q ((i, true) :: p) st := by
  have key : ∀ H, J H → fixA T ops { st with H := H } o = some y := fun H hH => (fix_step hf (hx H hH)).2
  exact ⟨o, ho, .inl ⟨rfl, ha, y, key st.H hJs, key, h⟩⟩
theorem adj_step {i : Nat} {p : List (Nat × Bool)} {st : St} {o : Oper} {y : AV} {H' : Hp} (hT : TabOK P T) (ho : ops[i]? = some o) (hx : stepA T mu ops st o = some (H', y)) (hl : late.contains i = true ∨ J H')
    (h : ADrJ P W0 T ops late J Q p (St.put { st with H := H' } o.dst y)) : ADrJ P W0 T ops late J Q ((i, false) :: p) st :=
  ⟨o, ho, .inr ⟨rfl, aeff_step hT hx ⟨hl, h⟩⟩⟩
theorem adj_val {i : Nat} {p : List (Nat × Bool)} {st : St} {o : Oper} {c : Call} {x : Operand} {f : FuncId} {caps args : List AV} {d : Nat} (ho : ops[i]? = some o) (hop : o.op = .call c) (hc : c.callee = .value x) (hg : o.guard = none) (hd : o.dst = some d)
    (hf : st.eval x = .fn f caps) (hen : enters P f) (ha : c.args.toList.map st.eval ++ caps = args)
    (h : SF P W0 f args st.H fun r H' => (late.contains i = true ∨ J H') ∧ ADrJ P W0 T ops late J Q p (St.put { st with H := H' } (some d) r)) : ADrJ P W0 T ops late J Q ((i, false) :: p) st := by
  refine ⟨o, ho, .inr ⟨rfl, aeff_call (by simp [wantA, hg]) hop hc hf hen ?_⟩⟩
  rw [ha, hd]
  exact h
end
end Go.Av
