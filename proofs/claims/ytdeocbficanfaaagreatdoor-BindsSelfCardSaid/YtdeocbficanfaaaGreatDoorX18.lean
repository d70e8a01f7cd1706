/-
  Go read by value: lemmas (part 18): D14, D15, E1, E2, E3, C2, D16, D17, D18, C3.
-/
import Derived.Test.YtdeocbficanfaaaGreatDoorX01
import Derived.Test.YtdeocbficanfaaaGreatDoorX14
import Derived.Test.YtdeocbficanfaaaGreatDoorX17
set_option linter.unusedVariables false
set_option linter.unusedSimpArgs false
set_option linter.unusedSectionVars false
namespace Go.Av
open Go.Proofs
variable {W0 : World}
set_option maxRecDepth 10000
set_option maxHeartbeats 4000000
theorem sf164 {l : List Str} {own : Own} {s : Str} {H : Hp} (hl : l.length ≤ 67108864) :
    SF Tryz.prog W0 164 [.sl 1 (strs l) own, .str s] H fun r H' => H' = H ∧ ∃ v : Int, r = .int .i64 v ∧ (0 ≤ v ↔ l.any (· == s) = true) := by
  refine SF.pureLe (sf_start [4] 19 Tryz.func164 rfl rfl rfl (by decide) (by simp) ?_)
  repeat' first
    | refine aSq ?_ | refine aBl ?_
    | refine ru ?_
    | fail
  refine awp_loop_inv (fun m st => ∃ i : Nat, m = l.length - i ∧ i ≤ l.length ∧ (l.take i).any (· == s) = false ∧ Sub st ⟨19, [(8, .int .i64 i), (7, .int .i64 l.length), (0, .sl 1 (strs l) own), (1, .str s)], H⟩) l.length ⟨0, by simp, by simp, by simp, ⟨rfl, rfl, only_cons (by simp) (only_cons (by simp) (only_cons (by simp) (only_cons (by simp) only_nil)))⟩⟩ ?_
  rintro m st ⟨i, rfl, hi, hh, hs2⟩
  refine awp_sub hs2 ?_
  clear hs2 st
  repeat' first
    | refine aSq ?_ | refine aRt ?_ | refine aSk ?_ | refine aEx ?_ | refine aBl ?_ | refine tN ?_ | refine tR ?_ | refine iR ?_
    | refine ru ?_
    | (refine awp_if rfl (fun hb => ?_) (fun hb => ?_) <;> (try simp at hb) <;> try (exfalso; omega))
    | fail
  · have h5 := any_take_succ (· == s) l i (by assumption)
    have h6 : l.any (· == s) = true := any_of_take _ l (i + 1) (by rw [h5]; simp [hb])
    exact ⟨Gr.refl _, .int .i64 i, by simp, i, rfl, by simp only [h6, iff_true]; omega⟩
  · have h5 := any_take_succ (· == s) l i (by assumption)
    exact ⟨l.length - (i + 1), by omega, i + 1, rfl, by omega, by rw [h5, hh]; simp; exact fun e => hb e.symm, rfl, rfl, only_cons (by simp (disch := omega)) (only_cons (by simp) (only_cons (by simp) (only_cons (by simp) only_nil)))⟩
  · rw [List.take_of_length_le (by omega)] at hh
    exact ⟨Gr.refl _, .int .i64 (-1), by simp, -1, rfl, by simp only [hh]; simp⟩
theorem sf123 {l : List Str} {own : Own} {s : Str} {H : Hp} (hl : l.length ≤ 67108864) :
    SF Tryz.prog W0 123 [.sl 1 (strs l) own, .str s] H fun r H' => H' = H ∧ r = .bool (l.any (· == s)) := by
  refine SF.pureLe (sf_start [4] 9 Tryz.func123 rfl rfl rfl (by decide) (by simp) ?_)
  repeat' first
    | refine aSq ?_ | refine aRt ?_
    | (refine rg 1 ?_; refine tk 2 ?_; refine fc en164 ?_; refine (sf164 hl).mono ?_; rintro r H1 ⟨rfl, v, rfl, hv⟩; refine tk 2 ?_; refine dn ?_)
    | refine ru ?_
    | fail
  have h5 : decide (0 ≤ v) = l.any (· == s) := by rw [Bool.eq_iff_iff]; simpa using hv
  exact ⟨Gr.refl _, .bool (l.any (· == s)), by simp only [retQ, look]; simp [h5], rfl⟩
theorem sf124 {H : Hp} : SF Tryz.prog W0 124 [] H fun r H' => H' = H ∧ r = .sl 1 (strs wordsL) .shut := by
  refine SF.pureLe (sf_start [0] 2 Tryz.func124 rfl rfl rfl (by decide) (by simp) ?_)
  repeat' first
    | refine aSq ?_ | refine aRt ?_
    | refine ru ?_
    | fail
  exact ⟨Gr.refl _, _, by simp [strs, wordsL], rfl⟩
theorem sf88 {s : Str} {H : Hp} : SF Tryz.prog W0 88 [.str s] H fun r H' => H' = H ∧ r = .bool (wordsL.any (· == s)) := by
  refine SF.pureLe (sf_start [2] 6 Tryz.func88 rfl rfl rfl (by decide) (by simp) ?_)
  repeat' first
    | refine aSq ?_ | refine aRt ?_
    | (refine rg 1 ?_; refine fc en124 ?_; refine SF.then sf124 ?_; refine tk 1 ?_; refine fc en123 ?_; refine SF.then (sf123 (by decide)) ?_; refine tk 1 ?_; refine dn ?_)
    | refine ru ?_
    | fail
  all_goals (simp [retQ])
theorem aeff_nilq {P : Program} {T : Tab} {ops : Array Oper} {st : St} {o : Oper} {t t' e : TypeId} {s sz : Nat} {z : List ZC} {x y : Operand} {own : Own} {K : Hp → AV → Prop} (hT : TabOK P T) (hw : wantA ops st o = some true) (ho : o.op = .binOp .eql t x y t')
    (ht : T t = some ⟨s, .slice e, z⟩) (hx : st.eval x = .sl sz [] own) (hy : st.eval y = .slnil) (h : ∀ b, K st.H (.bool b)) : AEff P W0 ops o st K := by
  intro g w a r
  refine .inr ⟨wantA_sound hw r, ?_⟩
  obtain ⟨d, hd, hk⟩ := (hT t _ ht).kind
  cases hk
  have vx := r.eval x
  have vy := r.eval y
  rw [hx] at vx; rw [hy] at vy
  have main : ∀ p l c, a.eval x = .slice p l c → Runs P ((execOp a.eval o).run P w) fun v w' => ∃ g' y H', Ext g w g' w' ∧ WInv W0 g' H' w' ∧ VR g' w' y v ∧ K H' y := by
    intro p l c hp
    have hrun : (execOp a.eval o).run P w = .ok (.value (.bool (p.isNone && true))) w := by
      have h1 := bin_eql (equal_slice (w := w) hd p none l c 0 0 (by simp)) rfl
      have h2 : (eqGuard .eql t x y (.slice p l c) (.slice none 0 0)).run P w = .ok () w := eqGuard_ok (by simp) (by simp)
      simp only [VR] at vy
      unfold execOp; rw [ho]
      simp [hp, vy, h2, h1]
    rw [hrun]
    exact ⟨g, .bool (p.isNone && true), st.H, .refl _ _, r.inv, rfl, h _⟩
  rcases vx with ⟨_, _, e⟩ | ⟨b, o, cap, e, _⟩
  · exact main _ _ _ e
  · exact main _ _ _ e
theorem binA_sl_nil {T : Tab} {t e s sz : Nat} {z : List ZC} {es : List (List AV)} {own : Own} (h : T t = some ⟨s, .slice e, z⟩) (hne : es ≠ []) : binA T .eql t (.sl sz es own) .slnil = some (.bool false) := by
  have : es.isEmpty = false := by cases es <;> simp_all
  simp [binA, h, nilA, isNilA, this]
theorem sf25 {l : List Int} {own : Own} {H : Hp} (hl : l.length ≤ 67108864) : SF Tryz.prog W0 25 [.sl 1 (ints l) own] H fun r H' => H' = H ∧ r = .sl 1 (ints l) .shut := by
  refine SF.pureLe (sf_start [2] 8 Tryz.func25 rfl rfl rfl (by decide) (by simp) ?_)
  have key : ∃ v' H', appendA tab H 33 33 (.sl 1 [] .capped) (.sl 1 (ints l) own) = some (v', H') ∧ App H H' 1 ([] ++ ints l) v' ∧ Gr H H' ∧ H'.objs = H.objs :=
    (App.capped H H 1 []).append (Gr.refl H) tab33 tab3 rfl (by decide) (by simp) (by simp) (by simp; omega)
  obtain ⟨v', H', e1, a1, g1, o1⟩ := key
  simp only [List.nil_append] at a1
  have hfin : Le (cln H.objs.length H.hi.length v') (.sl 1 (ints l) .shut) := by simpa using a1.le'
  cases l with
  | nil =>
    repeat' first
      | refine aSq ?_ | refine aRt ?_ | refine aSk ?_ | refine tN ?_ | refine tR ?_
      | (refine rg 1 ?_; refine aops_take 1 (mu := mu0) tab_ok (by simp; rfl) ?_; refine aops_cons (aeff_nilq tab_ok rfl rfl tab33 rfl rfl fun b => ?_); refine dn ?_)
      | (refine awp_run (mu := mu0) tab_ok (by simp [e1]; rfl) ?_)
      | (refine awp_if rfl (fun hb => ?_) (fun hb => ?_) <;> (try simp at hb) <;> try (exfalso; omega))
      | fail
    · exact ⟨Gr.refl _, _, by simp; exact .nilShut 1, rfl⟩
    · exact ⟨g1, _, by simp; exact hfin, rfl⟩
  | cons x l =>
    have hne := binA_sl_nil (T := tab) (sz := 1) (own := own) tab33 (show ints (x :: l) ≠ [] by simp)
    repeat' first
      | refine aSq ?_ | refine aRt ?_ | refine aSk ?_ | refine tN ?_
      | (refine awp_run (mu := mu0) tab_ok (by simp [e1]; rfl) ?_)
      | (refine awp_if rfl (fun hb => ?_) (fun hb => ?_) <;> (try simp at hb) <;> try (exfalso; omega))
      | fail
    exact ⟨g1, _, by simp; exact hfin, rfl⟩
theorem sf113 {l : List Str} {own : Own} {H : Hp} (hl : l.length ≤ 67108864) : SF Tryz.prog W0 113 [.sl 1 (strs l) own] H fun r H' => H' = H ∧ r = .sl 1 (strs l) .shut := by
  refine SF.pureLe (sf_start [2] 8 Tryz.func113 rfl rfl rfl (by decide) (by simp) ?_)
  have key : ∃ v' H', appendA tab H 36 36 (.sl 1 [] .capped) (.sl 1 (strs l) own) = some (v', H') ∧ App H H' 1 ([] ++ strs l) v' ∧ Gr H H' ∧ H'.objs = H.objs :=
    (App.capped H H 1 []).append (Gr.refl H) tab36 tab9 rfl (by decide) (by simp) (by simp) (by simp; omega)
  obtain ⟨v', H', e1, a1, g1, o1⟩ := key
  simp only [List.nil_append] at a1
  have hfin : Le (cln H.objs.length H.hi.length v') (.sl 1 (strs l) .shut) := by simpa using a1.le'
  cases l with
  | nil =>
    repeat' first
      | refine aSq ?_ | refine aRt ?_ | refine aSk ?_ | refine tN ?_ | refine tR ?_
      | (refine rg 1 ?_; refine aops_take 1 (mu := mu0) tab_ok (by simp; rfl) ?_; refine aops_cons (aeff_nilq tab_ok rfl rfl tab36 rfl rfl fun b => ?_); refine dn ?_)
      | (refine awp_run (mu := mu0) tab_ok (by simp [e1]; rfl) ?_)
      | (refine awp_if rfl (fun hb => ?_) (fun hb => ?_) <;> (try simp at hb) <;> try (exfalso; omega))
      | fail
    · exact ⟨Gr.refl _, _, by simp; exact .nilShut 1, rfl⟩
    · exact ⟨g1, _, by simp; exact hfin, rfl⟩
  | cons x l =>
    have hne := binA_sl_nil (T := tab) (sz := 1) (own := own) tab36 (show strs (x :: l) ≠ [] by simp)
    repeat' first
      | refine aSq ?_ | refine aRt ?_ | refine aSk ?_ | refine tN ?_
      | (refine awp_run (mu := mu0) tab_ok (by simp [e1]; rfl) ?_)
      | (refine awp_if rfl (fun hb => ?_) (fun hb => ?_) <;> (try simp at hb) <;> try (exfalso; omega))
      | fail
    exact ⟨g1, _, by simp; exact hfin, rfl⟩
end Go.Av
namespace Go.Av
open Go.Proofs
open Go.Lib (decodeL decodeL_width decodeL_le validD validD_step validD_nil)
variable {W0 : World}
set_option maxRecDepth 10000
set_option maxHeartbeats 4000000
def sortS (l : List Str) : List Str := l.mergeSort fun x y => decide (x ≤ y)
def mapIs (H : Hp) (m : AV) (ks : List Str) : Prop := (m = .mnil ∧ ks = []) ∨ (∃ vs, m = .mapv ks vs) ∨ ∃ r vs, m = .mref r ∧ H.objs[r]? = some (.map ks vs)
def joinL (l : List Str) : Str := List.intercalate [46] l
structure LibOK (W0 : World) : Prop where
  u121 : ∀ (s : Str) (H : Hp), s.length ≤ 67108864 → SF Tryz.prog W0 121 [.str s] H fun r H' => H' = H ∧ r = .bool (validD s)
  u27 : ∀ (s : Str) (H : Hp), s.length ≤ 67108863 → SF Tryz.prog W0 27 [.str s, .str [46]] H fun r H' => H' = H ∧ r = .sl 1 (strs (pieces [] s)) .shut
  u112 : ∀ (l : List Str) (own : Own) (H : Hp), l.length ≤ 67108864 → (joinL l).length ≤ 67108864 → SF Tryz.prog W0 112 [.sl 1 (strs l) own, .str [46]] H fun r H' => H' = H ∧ r = .str (joinL l)
  u72 : ∀ (m : AV) (ks : List Str) (H : Hp), mapIs H m ks → SF Tryz.prog W0 72 [m] H fun r H' => H' = { H with objs := H.objs ++ [.cells [m]] } ∧ r = .fn 111 [.ref H.objs.length 0]
  u107 : ∀ (m : AV) (ks : List Str) (H : Hp), mapIs H m ks → SF Tryz.prog W0 107 [m] H fun r H' => H' = { H with objs := H.objs ++ [.cells [m]] } ∧ r = .fn 149 [.ref H.objs.length 0]
  u71a : ∀ (m : AV) (ks : List Str) (H : Hp) (k : Nat), mapIs H m ks → H.objs[k]? = some (.cells [m]) → ks.length ≤ 67108864 → (∀ x ∈ ks, x.length ≤ 9223372036854775807) → SF Tryz.prog W0 71 [.fn 111 [.ref k 0]] H fun r H' => H' = H ∧ r = .sl 1 (strs (sortS ks)) .shut
  u71b : ∀ (m : AV) (ks : List Str) (H : Hp) (k : Nat), mapIs H m ks → H.objs[k]? = some (.cells [m]) → ks.length ≤ 67108864 → (∀ x ∈ ks, x.length ≤ 9223372036854775807) → SF Tryz.prog W0 71 [.fn 149 [.ref k 0]] H fun r H' => H' = H ∧ r = .sl 1 (strs (sortS ks)) .shut
theorem sf87 (hB : LibOK W0) {s : Str} {H : Hp} (hs : s.length ≤ 67108864) : SF Tryz.prog W0 87 [.str s] H fun r H' => H' = H ∧ r = .bool (nameB s) := by
  refine SF.pureLe (sf_start [2] 37 Tryz.func87 rfl rfl rfl (by decide) (by simp) ?_)
  repeat' first
    | refine aSq ?_ | refine aRt ?_ | refine aSk ?_ | refine aBl ?_ | refine tN ?_ | refine tR ?_
    | (refine rg 1 ?_; refine tk 2 ?_; (first | (refine te (fun hb => ?_) (fun hb => ?_) <;> (try simp at hb) <;> try (exfalso; omega)) | (refine tk 1 ?_)); all_goals (refine tk 4 ?_; (first | (refine te (fun hb => ?_) (fun hb => ?_) <;> (try simp at hb) <;> try (exfalso; omega)) | (refine tk 1 ?_)); all_goals (refine tk 1 ?_; (first | (refine fg en121 ?_; refine SF.then (hB.u121 _ _ hs) ?_) | (refine tk 1 ?_)); refine tk 2 ?_; refine dn ?_)))
    | refine ru ?_
    | (refine awp_if rfl (fun hb => ?_) (fun hb => ?_) <;> (try simp at hb) <;> try (exfalso; omega))
    | fail
  · exact ⟨Gr.refl _, .bool false, by simp, by rename_i h _; subst h; simp [nameB]⟩
  · exact ⟨Gr.refl _, .bool false, by simp, by simp [nameB]; omega⟩
  · exact ⟨Gr.refl _, .bool false, by simp, by simp [nameB, hb]⟩
  rename_i hne _
  have hpos : 1 ≤ s.length := List.length_pos_iff.2 hne
  have hv : validD s = true := hb
  have hlb : nameB s = nameRs true (runes s) := by
    have : decide (1 ≤ s.length ∧ s.length ≤ 32) = true := by simp; omega
    rw [nameB, this, hv]; simp
  rw [hlb]
  refine awp_loop_inv (fun q st => ∃ p : Nat, q = s.length - p ∧ p ≤ s.length ∧ nameRs true (runes s) = nameRs (decide (p = 0)) (runes (s.drop p)) ∧ Sub st ⟨37, [(18, .ref H.objs.length 0)], ⟨H.objs ++ [.iter s p], H.hi⟩⟩) s.length ⟨0, by simp, by simp, by simp, ⟨rfl, rfl, only_cons (by simp) only_nil⟩⟩ ?_
  rintro q st ⟨p, rfl, hp, hn, hs2⟩
  refine awp_sub hs2 ?_
  clear hs2 st
  rcases Nat.lt_or_ge p s.length with hlt | hge
  · have hne2 : s.drop p ≠ [] := by intro h; have := congrArg List.length h; simp at this; omega
    have hw := decodeL_width (s.drop p)
    have hle := decodeL_le (s.drop p) hne2
    rw [List.length_drop] at hle
    rw [runes_step _ hne2, List.drop_drop] at hn
    obtain ⟨r, w, hd⟩ : ∃ r w, decodeL (s.drop p) = (r, w) := ⟨_, _, rfl⟩
    rw [hd] at hn hw hle
    simp only at hn hw hle
    simp only [nameRs] at hn
    repeat' first
      | refine aSq ?_ | refine aRt ?_ | refine aSk ?_ | refine aBl ?_ | refine tN ?_ | refine tR ?_ | refine iR ?_
      | (refine rg 6 ?_; refine tk 1 ?_ (by simp (disch := omega) [hlt, dec_at, hd]; with_reducible rfl); refine fc en122 ?_; refine SF.then sf122 ?_; refine dn ?_)
      | (refine rg 7 ?_; refine tk 2 ?_ (by simp (disch := omega) [hlt, dec_at, hd]; with_reducible rfl); (first | (refine te (hs := (by simp (disch := omega) [hlt, dec_at, hd]; with_reducible rfl)) (fun hb => ?_) (fun hb => ?_) <;> (try simp at hb) <;> try (exfalso; omega)) | (refine tk 1 ?_ (by simp (disch := omega) [hlt, dec_at, hd]; with_reducible rfl))); all_goals (refine tk 3 ?_ (by simp (disch := omega) [hlt, dec_at, hd]; with_reducible rfl); refine dn ?_))
      | (refine ru ?_ (by simp (disch := omega) [hlt, dec_at, hd]; with_reducible rfl))
      | (refine awp_if rfl (fun hb => ?_) (fun hb => ?_) <;> (try simp at hb) <;> try (exfalso; omega))
      | refine inN ?_
    all_goals first
      | (have ho : okR (decide (p = 0)) r = false := by clear hn; simp_all [okR] <;> omega
         rw [ho] at hn
         exact ⟨(Gr.refl _).obj _, .bool false, by simp, by rw [hn]; rfl⟩)
      | (have ho : okR (decide (p = 0)) r = true := by clear hn; simp_all [okR] <;> omega
         rw [ho, Bool.true_and] at hn
         exact ⟨s.length - (p + w), by omega, p + w, rfl, by omega, by rw [hn, decide_eq_false (by omega : ¬ p + w = 0)], rfl, rfl, only_cons (by simp) only_nil⟩)
  · have : p = s.length := by omega
    subst this
    simp only [List.drop_length, runes_nil, nameRs] at hn
    repeat' first
      | refine aSq ?_ | refine aRt ?_ | refine aEx ?_
      | refine ru ?_
      | (refine awp_if rfl (fun hb => ?_) (fun hb => ?_) <;> (try simp at hb) <;> try (exfalso; omega))
      | fail
    exact ⟨(Gr.refl _).obj _, .bool true, by simp, by rw [hn]⟩
theorem sf43 (hB : LibOK W0) {s : Str} {H : Hp} (hs : s.length ≤ 67108864) : SF Tryz.prog W0 43 [.str s] H fun r H' => H' = H ∧ r = .bool (checkB s) := by
  refine SF.pureLe (sf_start [2] 10 Tryz.func43 rfl rfl rfl (by decide) (by simp) ?_)
  repeat' first
    | refine aSq ?_ | refine aRt ?_
    | (refine rg 1 ?_; refine tk 1 ?_; refine fc en87 ?_; refine SF.then (sf87 hB hs) ?_; (first | (refine te (fun hb => ?_) (fun hb => ?_) <;> (try simp at hb) <;> try (exfalso; omega)) | (refine tk 1 ?_)); all_goals (refine tk 1 ?_; (first | (refine fg en88 ?_; refine SF.then sf88 ?_) | (refine tk 1 ?_)); refine tk 3 ?_; refine dn ?_))
    | refine ru ?_
    | fail
  all_goals (simp [retQ, checkB, *])
theorem sf42 (hB : LibOK W0) {s : Str} {H : Hp} (hs : s.length ≤ 67108864) : SF Tryz.prog W0 42 [.str s] H fun r H' => H' = H ∧ r = .bool (!checkB s) := by
  refine SF.pureLe (sf_start [2] 6 Tryz.func42 rfl rfl rfl (by decide) (by simp) ?_)
  repeat' first
    | refine aSq ?_ | refine aRt ?_
    | (refine rg 1 ?_; refine tk 1 ?_; refine fc en43 ?_; refine SF.then (sf43 hB hs) ?_; refine tk 2 ?_; refine dn ?_)
    | refine ru ?_
    | fail
  all_goals (simp [retQ])
theorem not_any (l : List Str) : (!l.any fun s => !checkB s) = l.all checkB := by
  induction l with
  | nil => rfl
  | cons x l ih => simp [← ih]
theorem sf26 (hB : LibOK W0) {s : Str} {H : Hp} (hs : s.length ≤ 67108863) : SF Tryz.prog W0 26 [.str s] H fun r H' => H' = H ∧ r = .bool (longB s) := by
  refine SF.pureLe (sf_start [2] 14 Tryz.func26 rfl rfl rfl (by decide) (by simp) ?_)
  have hx := pieces_le s [] s (by simp)
  have hl := pieces_len [] s
  have hf : ∀ t ∈ pieces [] s, SF Tryz.prog W0 42 (.str t :: []) H fun r H' => H' = H ∧ r = .bool (!checkB t) := fun t ht => sf42 hB (by have := hx t ht; omega)
  repeat' first
    | refine aSq ?_ | refine aRt ?_
    | (refine rg 2 ?_; refine tk 3 ?_; (first | (refine te (fun hb => ?_) (fun hb => ?_) <;> (try simp at hb) <;> try (exfalso; omega)) | (refine tk 1 ?_)); all_goals (refine tk 1 ?_; (first | (refine fg en27 ?_; refine SF.then (hB.u27 _ _ hs) ?_) | (refine tk 1 ?_)); refine tk 1 ?_; (first | (refine fg en44 ?_; refine SF.then (sf44 (p := fun t => !checkB t) (by omega) en42 hf) ?_) | (refine tk 1 ?_)); refine tk 3 ?_; refine dn ?_))
    | refine ru ?_
    | fail
  · have hd : decide (s.length ≤ 128) = true := by simp; omega
    exact ⟨Gr.refl _, .bool (longB s), by simp only [retQ, look]; simp [longB, hd, not_any], rfl⟩
  · exact ⟨Gr.refl _, .bool false, by simp, by simp [longB]; omega⟩
theorem sf15 (hB : LibOK W0) {s : Str} {H : Hp} (hs : s.length ≤ 67108863) : SF Tryz.prog W0 15 [.str s] H fun r H' => H' = H ∧ r = .sl 1 (strs (splitB s)) .shut := by
  refine SF.pureLe (sf_start [2] 8 Tryz.func15 rfl rfl rfl (by decide) (by simp) ?_)
  repeat' first
    | refine aSq ?_ | refine aRt ?_ | refine aSk ?_ | refine tN ?_ | refine tR ?_
    | (refine rg 1 ?_; refine tk 1 ?_; refine fc en26 ?_; refine SF.then (sf26 hB hs) ?_; refine tk 1 ?_; refine dn ?_)
    | (refine rg 3 ?_; refine tk 1 ?_; refine fc en27 ?_; refine SF.then (hB.u27 _ _ hs) ?_; refine tk 1 ?_; refine dn ?_)
    | refine ru ?_
    | (refine awp_if rfl (fun hb => ?_) (fun hb => ?_) <;> (try simp at hb) <;> try (exfalso; omega))
    | fail
  · exact ⟨Gr.refl _, _, by simp; exact .nilShut 1, by simp [splitB, hb, strs]⟩
  · exact ⟨Gr.refl _, _, by simp; exact .refl _, by simp [splitB, hb]⟩
end Go.Av
namespace Go.Av
open Go.Proofs
open Go.RowKit (Below)
variable {W0 : World}
set_option maxRecDepth 10000
set_option maxHeartbeats 4000000
structure Base (W0 : World) : Prop where
  tabs : Lib.Utf8Tabs 1 2 W0
  maxlen : ∃ m, W0.cell? ⟨0, 0, none⟩ = some (.int .i64 m)
theorem AR.one {g : Gh} {w : World} {a : AV} {vs : Array Value} (h : AR g w [a] vs.toList) : ∃ v, vs = #[v] ∧ VR g w a v := by
  obtain ⟨v, vs', e, h1, h2⟩ := h
  cases h2
  exact ⟨v, by rw [← Array.toArray_toList (xs := vs), e], h1⟩
theorem AR.two {g : Gh} {w : World} {a b : AV} {vs : Array Value} (h : AR g w [a, b] vs.toList) : ∃ v u, vs = #[v, u] ∧ VR g w a v ∧ VR g w b u := by
  obtain ⟨v, vs', e, h1, u, us, e2, h2, h3⟩ := h
  cases h3
  subst e2
  exact ⟨v, u, by rw [← Array.toArray_toList (xs := vs), e], h1, h2⟩
theorem lib121 (hB : Base W0) (s : Str) (H : Hp) (hs : s.length ≤ 67108864) : SF Tryz.prog W0 121 [.str s] H fun r H' => H' = H ∧ r = .bool (Lib.validD s) := by
  refine SF.lib fun g w vs inv har => ?_
  obtain ⟨v, rfl, hv⟩ := AR.one har
  cases hv
  have hT := Utf8Tabs_below hB.tabs (Below.of inv)
  have c := Any.utf8_ValidString Tryz.lays196 ⟨s.toArray⟩ w (by show s.toArray.size ≤ _; simp; omega) hT
  refine c.mono ?_
  rintro e w' ⟨rfl, hb⟩
  exact ⟨_, rfl, hb, by simp [VR]⟩
theorem pieces_acc : ∀ (l acc : Str), ∃ h t, pieces [] l = h :: t ∧ pieces acc l = (acc ++ h) :: t
  | [], acc => ⟨[], [], rfl, by simp [pieces]⟩
  | c :: l, acc => by
    simp only [pieces]
    split
    · exact ⟨[], _, rfl, by simp⟩
    · obtain ⟨h, t, e1, e2⟩ := pieces_acc l [c]
      obtain ⟨h', t', e3, e4⟩ := pieces_acc l (acc ++ [c])
      rw [e1] at e3
      obtain ⟨rfl, rfl⟩ := List.cons.inj e3
      exact ⟨c :: h, t, by simpa using e2, by rw [e4]; simp⟩
theorem split_pieces : ∀ s : Str, Lib.splitK [46] 0 (Lib.count s [46]) s = pieces [] s
  | [] => rfl
  | c :: l => by
    have ih := split_pieces l
    by_cases hc : c = 46
    · subst hc
      rw [Lib.count_cons_eq, Nat.add_comm, Lib.splitK]
      have hi : Lib.index (46 :: l) [46] = 0 := by simp [Lib.index, List.isPrefixOf]
      rw [hi]
      simp [pieces, ih]
    · rw [Lib.count_cons_ne c 46 l hc]
      obtain ⟨h, t, e1, e2⟩ := pieces_acc l [c]
      have e3 : pieces [] (c :: l) = (c :: h) :: t := by simp only [pieces, if_neg hc]; simpa using e2
      rw [e3]
      rw [e1] at ih
      cases hk : Lib.count l [46] with
      | zero =>
        rw [hk] at ih
        simp only [Lib.splitK] at ih ⊢
        obtain ⟨rfl, rfl⟩ := List.cons.inj ih
        rfl
      | succ k =>
        rw [hk] at ih
        have hp : List.isPrefixOf [46] (c :: l) = false := by
          simp only [List.isPrefixOf, Bool.and_eq_false_iff]
          exact .inl (by simpa using fun e => hc e.symm)
        have hg := Lib.index_ge l [46]
        simp only [Lib.splitK] at ih ⊢
        simp only [Lib.index, hp, Bool.false_eq_true, if_false]
        by_cases hm : (Lib.index l [46] == -1) = true
        · rw [if_pos hm] at ih ⊢
          obtain ⟨rfl, rfl⟩ := List.cons.inj ih
          simp
        · rw [if_neg hm] at ih ⊢
          have hm' : Lib.index l [46] ≠ -1 := by simpa using hm
          have q : ¬ (Lib.index l [46] + 1 == -1) = true := by
            intro e
            have := beq_iff_eq.1 e
            omega
          rw [if_neg q]
          obtain ⟨e4, e5⟩ := List.cons.inj ih
          have q2 : (Lib.index l [46] + 1).toNat = (Lib.index l [46]).toNat + 1 := by omega
          rw [q2]
          simp only [Nat.add_zero, List.length_singleton] at *
          rw [List.take_succ_cons, e4, List.drop_succ_cons, e5]
theorem lib27 (hB : Base W0) (s : Str) (H : Hp) (hs : s.length ≤ 67108863) : SF Tryz.prog W0 27 [.str s, .str [46]] H fun r H' => H' = H ∧ r = .sl 1 (strs (pieces [] s)) .shut := by
  intro g w vs inv har
  obtain ⟨v, u, rfl, hv, hu⟩ := AR.two har
  cases hv; cases hu
  obtain ⟨m, hm⟩ := hB.maxlen
  have hm' : w.cell? ⟨0, 0, none⟩ = some (.int .i64 m) := by rw [cell_heap (inv.base 0 (cell_lt hm))]; exact hm
  have c := Tryz.strings_Split ⟨s.toArray⟩ ⟨[46].toArray⟩ m w (by show s.toArray.size < _; simp; omega) hm' (by decide)
  refine c.mono ?_
  rintro e w' ⟨rfl, rfl⟩
  have hd := Lib.splitB_data ⟨[46].toArray⟩ 0 (Lib.countB ⟨s.toArray⟩ ⟨[46].toArray⟩) ⟨s.toArray⟩
  have hc : Lib.countB ⟨s.toArray⟩ ⟨[46].toArray⟩ = Lib.count s [46] := rfl
  have hlen := Lib.splitB_all ⟨[46].toArray⟩ (by decide) 0 _ ⟨s.toArray⟩ rfl
  generalize hl : Lib.splitB ⟨[46].toArray⟩ 0 (Lib.countB ⟨s.toArray⟩ ⟨[46].toArray⟩) ⟨s.toArray⟩ = l at *
  have hp : l.map (fun x => x.data.toList) = pieces [] s := by
    rw [hd, hc]
    exact split_pieces s
  obtain ⟨i, ext⟩ := inv.made (.cells (l.map Value.string).toArray 9 (0, 0)) l.length
  refine ⟨_, _, .sl 1 (strs (pieces [] s)) .shut, H, rfl, ⟨rfl, rfl⟩, ext, i, .inr ⟨w.heap.size, 0, l.length, ?_, ?_, trivial, ?_⟩⟩
  · rw [strs_len, ← hp, List.length_map, ← hlen]
  · rw [strs_len, ← hp, List.length_map]; exact Nat.le_refl _
  · refine ER_row heap_push_new _ 0 (fun j e hj => ?_) ?_
    · rw [strs_get, ← hp, List.getElem?_map] at hj
      cases hx : l[j]? with
      | none => rw [hx] at hj; cases hj
      | some x =>
        rw [hx] at hj
        cases hj
        exact ⟨_, .string x, rfl, by simp [hx], by simp [VR, strV]⟩
    · simp [← hp, strs, Gh.publish]
end Go.Av
namespace Go.Av
open Go.Proofs
open Go.RowKit (Below)
open Go.Maps Go.Sort
variable {W0 : World}
set_option maxRecDepth 10000
set_option maxHeartbeats 4000000
def noRead : Value → Option (DataW Unit × List MemPlace) := fun _ => some (.nil, [])
theorem keys_own {g : Gh} {w : World} {b : Nat} {es : Array MapEntry} {cl : Nat} {ks : List Str} (hh : w.heap[b]? = some (.map es cl)) (hk : KeysOf es cl ks) (hlen : ks.length ≤ 67108864) (hsz : ∀ x ∈ ks, x.length ≤ 9223372036854775807) :
    ∃ D0 : DataW Unit, w.ownsMap Tryz.prog 9 noRead b ks.length D0 ∧ (strKeys D0).Perm ks ∧ Maps.size D0 = ks.length := by
  obtain ⟨h1, h2⟩ := hk
  have hes : es.size = ks.length := by have := congrArg List.length h1; simpa using this
  have hmem : ∀ x ∈ es.toList, ∃ k ∈ ks, x.key = strV k := fun x hx => by
    have : x.key ∈ ks.map strV := h1 ▸ List.mem_map_of_mem hx
    obtain ⟨k, hk, e⟩ := List.mem_map.1 this
    exact ⟨k, hk, e.symm⟩
  have hrd : ∀ x ∈ es.toList, ∀ k ∈ ks, x.key = strV k → WideElems.rd Tryz.prog 9 noRead x = some (.string k, .nil) := fun x hx k hk e => by
    unfold WideElems.rd
    rw [e]
    have := WideMaps.keyOf_string_mk (P := Tryz.prog) (k := 9) Tryz.underlying9 (s := ⟨k.toArray⟩) (by have := hsz k hk; show k.toArray.size ≤ maxLen; simp [maxLen]; omega)
    rw [show strV k = .string ⟨k.toArray⟩ from rfl, this]
    rfl
  refine ⟨_, ⟨es, cl, hh, ⟨by rw [hes]; simp [maxLen]; omega, h2, fun x hx => ?_⟩, Nat.le_of_eq hes, rfl⟩, ?_, ?_⟩
  · obtain ⟨k, hk, e⟩ := hmem x hx
    exact ⟨_, hrd x hx k hk e⟩
  · have hp := (WideShapes.sorted_perm (es.toList.map (WideElems.rg Tryz.prog 9 noRead))).map fun p => strOf p.1
    refine hp.trans ?_
    have e : ((es.toList.map (WideElems.rg Tryz.prog 9 noRead)).map fun p => strOf p.1) = ks := by
      rw [List.map_map]
      apply List.ext_getElem?
      intro i
      rw [List.getElem?_map]
      have hi := congrArg (fun l => l[i]?) h1
      simp only [List.getElem?_map] at hi
      cases hx : es.toList[i]? with
      | none => rw [hx] at hi; cases hk : ks[i]? with
        | none => rfl
        | some k => rw [hk] at hi; cases hi
      | some x =>
        rw [hx] at hi
        cases hk : ks[i]? with
        | none => rw [hk] at hi; cases hi
        | some k =>
          rw [hk] at hi
          simp only [Option.map_some, Option.some.injEq] at hi
          simp only [Option.map_some, Function.comp, Option.some.injEq]
          rw [WideElems.rg_of (hrd x (List.mem_of_getElem? hx) k (List.mem_of_getElem? hk) hi)]
          rfl
    rw [e]
  · rw [Maps.size_eq, (WideShapes.sorted_perm _).length_eq, List.length_map]; simpa using hes
theorem lib_keys {f fi : FuncId} (hc : ∀ (mb : Option Nat) (W : World), ∃ T, Calls Tryz.prog f #[.map mb] W fun e w' => e = .returned (.func (.func fi) #[] #[.pointer (some ⟨W.heap.size, 0, none⟩)]) ∧ w' = W.alloc (.cells #[.map mb] T))
    (m : AV) (ks : List Str) (H : Hp) (hm : mapIs H m ks) : SF Tryz.prog W0 f [m] H fun r H' => H' = { H with objs := H.objs ++ [.cells [m]] } ∧ r = .fn fi [.ref H.objs.length 0] := by
  intro g w vs inv har
  obtain ⟨v, rfl, hv⟩ := AR.one har
  have hmap : ∃ mb, v = .map mb := by
    rcases hm with ⟨rfl, _⟩ | ⟨vs, rfl⟩ | ⟨r, vs, rfl, _⟩
    · exact ⟨none, hv⟩
    · obtain ⟨b, _, _, e, _⟩ := hv; exact ⟨_, e⟩
    · obtain ⟨b, _, e⟩ := hv; exact ⟨_, e⟩
  obtain ⟨mb, rfl⟩ := hmap
  obtain ⟨T, c⟩ := hc mb w
  refine c.mono ?_
  rintro e w' ⟨rfl, rfl⟩
  have har1 : AR g w [m] (#[Value.map mb] : Array Value).toList := AR.cons hv AR.nil
  obtain ⟨g', ext, i, l⟩ := made_object inv T har1
  exact ⟨_, g', .fn fi [.ref H.objs.length 0], _, rfl, ⟨rfl, rfl⟩, ext, i, _, rfl, AR.cons ⟨_, l, rfl⟩ AR.nil⟩
theorem lib_sorted {fi : FuncId} (hk : ∀ (Bm b nn : Nat) (D0 : DataW Unit) (w : World), Bm < w.heap.size → w.cell? ⟨Bm, 0, none⟩ = some (.map (some b)) → w.ownsMap Tryz.prog 9 noRead b nn D0 →
      SeqGives Fence.wide 2 Tryz.prog fi #[.pointer (some ⟨Bm, 0, none⟩)] encStr (fun ss => ss.Perm (strKeys D0)) (Maps.size D0) w)
    (hn : ∀ (Bm : Nat) (w : World), Bm < w.heap.size → w.cell? ⟨Bm, 0, none⟩ = some (.map none) → SeqGives Fence.wide 2 Tryz.prog fi #[.pointer (some ⟨Bm, 0, none⟩)] encStr (fun ss : List (List UInt8) => ss = []) 0 w)
    (hen : ∀ args w, (callFunc fi args).run Tryz.prog w = .ok (.enter fi args) w)
    (m : AV) (ks : List Str) (H : Hp) (k : Nat) (hm : mapIs H m ks) (hob : H.objs[k]? = some (.cells [m])) (hlen : ks.length ≤ 67108864) (hsz : ∀ x ∈ ks, x.length ≤ 9223372036854775807) :
    SF Tryz.prog W0 71 [.fn fi [.ref k 0]] H fun r H' => H' = H ∧ r = .sl 1 (strs (sortS ks)) .shut := by
  intro g w vs inv har
  obtain ⟨v, rfl, hv⟩ := AR.one har
  obtain ⟨cs, rfl, hcs⟩ := hv
  obtain ⟨p, q, h1, hp, h2⟩ := hcs
  cases h2
  obtain ⟨Bm, hl, rfl⟩ := hp
  have hcsv : cs = #[.pointer (some ⟨Bm, 0, none⟩)] := by rw [← Array.toArray_toList (xs := cs), h1]
  subst hcsv
  obtain ⟨b', mvs, T, hl', hpub, hfro, hh, hmv⟩ := inv.obj k _ hob
  rw [hl] at hl'; cases hl'
  obtain ⟨mv, r', e1, hmvr, e2⟩ := hmv
  cases e2
  have hcell : w.cell? ⟨Bm, 0, none⟩ = some mv := by
    rw [cell_row hh, ← Array.getElem?_toList, e1]; rfl
  have hBm : Bm < w.heap.size := cell_lt hcell
  have key : ∃ (S : List (List UInt8) → Prop) (N : Nat), SeqGives Fence.wide 2 Tryz.prog fi #[.pointer (some ⟨Bm, 0, none⟩)] encStr S N w ∧ N ≤ 67108864 ∧ ∀ ss, S ss → ss.Perm ks := by
    have owned : ∀ b es cl, w.heap[b]? = some (.map es cl) → KeysOf es cl ks → mv = .map (some b) → ∃ (S : List (List UInt8) → Prop) (N : Nat), SeqGives Fence.wide 2 Tryz.prog fi #[.pointer (some ⟨Bm, 0, none⟩)] encStr S N w ∧ N ≤ 67108864 ∧ ∀ ss, S ss → ss.Perm ks := by
      rintro b es cl hb hke rfl
      obtain ⟨D0, ho, hpm, hsz0⟩ := keys_own (g := g) hb hke hlen hsz
      exact ⟨_, _, hk Bm b _ D0 w hBm hcell ho, by rw [hsz0]; exact hlen, fun ss h => h.trans hpm⟩
    rcases hm with ⟨rfl, rfl⟩ | ⟨vs, rfl⟩ | ⟨r, vs, rfl, hor⟩
    · cases hmvr
      exact ⟨_, _, hn Bm w hBm hcell, Nat.zero_le _, fun ss h => by subst h; exact .refl _⟩
    · obtain ⟨b, es, cl, e, _, hb, hke, _⟩ := hmvr
      exact owned b es cl hb hke e
    · obtain ⟨b, hlb, e⟩ := hmvr
      obtain ⟨b2, es, cl, hlb2, _, _, hb, hke, _⟩ := inv.obj r _ hor
      rw [hlb] at hlb2; cases hlb2
      exact owned b es cl hb hke e
  obtain ⟨S, N, hseq, hN, hS⟩ := key
  have c := callsIn_wide.1 (AnyZ.sorted_in Tryz.sorted71 Fence.wide 5 trivial trivial trivial trivial rfl (by omega) (Tryz.sorts71 _) (enters_of Tryz.func110 (by kernel_rfl) rfl) fi #[.pointer (some ⟨Bm, 0, none⟩)] trivial hen S N (by simp [maxLen]; omega) (by omega) w hseq)
  refine c.mono ?_
  rintro e w' ⟨v, ss, rfl, hss, hrow, hnil, hb⟩
  have hsort : ss.mergeSort (fun x y => decide (x ≤ y)) = sortS ks := mergeSort_of_perm (hS ss hss)
  rw [hsort] at hrow
  have hlens : ss.length = (sortS ks).length := by rw [← hsort]; simp
  obtain ⟨hx, hrow⟩ := hrow
  rcases hrow with ⟨rfl, h0⟩ | ⟨nb, cap, cur, rfl, hbase, hnb, hncap, hcap, hcur, htake⟩
  · obtain ⟨i, ext⟩ := inv.below hb
    have : sortS ks = [] := List.eq_nil_of_length_eq_zero (by omega)
    exact ⟨_, g, .sl 1 (strs (sortS ks)) .shut, H, rfl, ⟨rfl, rfl⟩, ext, i, .inl ⟨by simp [this], trivial, rfl⟩⟩
  · obtain ⟨i, ext⟩ := inv.showNew hb (sortS ks).length hbase (heap_some_lt hnb)
    refine ⟨_, _, .sl 1 (strs (sortS ks)) .shut, H, rfl, ⟨rfl, rfl⟩, ext, i, .inr ⟨nb, 0, cap, ?_, ?_, trivial, ?_⟩⟩
    · rw [strs_len, hlens]
    · rw [strs_len, ← hlens]; exact hncap
    · refine ER_row hnb _ 0 (fun j e hj => ?_) ?_
      · rw [strs_get] at hj
        cases hx2 : (sortS ks)[j]? with
        | none => rw [hx2] at hj; cases hj
        | some x =>
          rw [hx2] at hj
          cases hj
          have hjl : j < (sortS ks).length := (List.getElem?_eq_some_iff.1 hx2).1
          refine ⟨.str x, strV x, rfl, ?_, rfl⟩
          have := congrArg (fun l => l[j]?) htake
          simp only [List.getElem?_map, hx2, Option.map_some] at this
          rw [List.getElem?_take, if_pos (by omega), Array.getElem?_toList] at this
          rw [Nat.zero_add, this]; rfl
      · simp [Gh.publish]
end Go.Av
namespace Go.Av
open Go.Proofs
open Go.RowKit (Below)
open Go.Maps Go.Sort
variable {W0 : World}
set_option maxRecDepth 10000
set_option maxHeartbeats 4000000
theorem ER_strs {g : Gh} {w : World} {b : Nat} : ∀ (l : List Str) (o : Nat), ER g w b 1 o (strs l) → ∀ (j : Nat) (x : Str), l[j]? = some x → w.cell? ⟨b, o + j, none⟩ = some (strV x)
  | [], _, _, j, x, h => by simp at h
  | s :: l, o, ⟨_, ⟨⟨v, hc, _, hv⟩, _⟩, he⟩, 0, x, h => by
    simp only [List.getElem?_cons_zero, Option.some.injEq] at h
    subst h
    cases hv
    exact hc
  | s :: l, o, ⟨_, _, he⟩, j + 1, x, h => by
    have := ER_strs l (o + 1) he j x (by simpa using h)
    rw [show o + (j + 1) = o + 1 + j from by omega]
    exact this
theorem lib112 (l : List Str) (own : Own) (H : Hp) (hl : l.length ≤ 67108864) (hj : (joinL l).length ≤ 67108864) : SF Tryz.prog W0 112 [.sl 1 (strs l) own, .str [46]] H fun r H' => H' = H ∧ r = .str (joinL l) := by
  refine SF.lib fun g w vs inv har => ?_
  obtain ⟨v, u, rfl, hv, hu⟩ := AR.two har
  cases hu
  have none_case : ∀ (a : Option Addr) (c : Nat), l = [] → Calls Tryz.prog 112 #[.slice a 0 c, strV [46]] w fun e w' => ∃ v, e = .returned v ∧ Below w.heap.size w w' ∧ VR g w (.str (joinL l)) v := by
    rintro a c rfl
    refine (Tryz.strings_Join_none a c ⟨[46].toArray⟩ w).mono ?_
    rintro e w' ⟨rfl, rfl⟩
    exact ⟨_, rfl, Below.refl _ _, by simp [VR, strV, joinL]⟩
  rcases hv with ⟨h0, _, rfl⟩ | ⟨b, o, cap, rfl, hcap, _, he⟩
  · exact none_case _ _ (by simpa using h0)
  · by_cases h0 : l = []
    · have e0 : (strs l).length = 0 := by simp [h0]
      rw [e0]
      exact none_case _ _ h0
    · rw [strs_len] at hcap ⊢
      have hlen : (l.map fun x => (⟨x.toArray⟩ : ByteArray)).length = l.length := by simp
      have hd : (l.map fun x => (⟨x.toArray⟩ : ByteArray)).map (·.data.toList) = l := by rw [List.map_map]; exact List.map_id l
      have hp : 0 < l.length := List.length_pos_iff.2 h0
      have c := Tryz.strings_Join b o cap (l.map fun x => (⟨x.toArray⟩ : ByteArray)) ⟨[46].toArray⟩ w (fun j x hx => by
        rw [List.getElem?_map] at hx
        cases hy : l[j]? with
        | none => rw [hy] at hx; cases hx
        | some y =>
          rw [hy] at hx
          cases hx
          exact ER_strs l o he j y hy) (cell_lt (ER_strs l o he 0 l[0] (List.getElem?_eq_getElem hp))) (by rw [hlen]; omega) (by rw [hlen]; exact hcap) (by rw [hd]; show (joinL l).length ≤ _; omega)
      rw [hlen, hd] at c
      refine c.mono ?_
      rintro e w' ⟨rfl, hb⟩
      exact ⟨_, rfl, hb, rfl⟩
theorem libOK (hB : Base W0) : LibOK W0 where
  u121 := lib121 hB
  u27 := lib27 hB
  u112 := lib112
  u72 := lib_keys fun mb W => ⟨82, callsIn_wide.1 (Tryz.maps_Keys_72 mb W)⟩
  u107 := lib_keys fun mb W => ⟨86, callsIn_wide.1 (Tryz.maps_Keys_107 mb W)⟩
  u71a := lib_sorted (fun Bm b nn D0 w h1 h2 h3 => AnyZ.keys_gives (ρ := Tryz.keys72_ren) { Tryz.keys72 with } Fence.wide _ trivial rfl (by omega) Bm b nn D0 _ h1 h2 h3) (fun Bm w h1 h2 => AnyZ.keys_gives_nil (ρ := Tryz.keys72_ren) { Tryz.keys72 with } Fence.wide _ trivial rfl Bm _ h1 h2) (enters_of Tryz.func111 (by kernel_rfl) rfl)
  u71b := lib_sorted (fun Bm b nn D0 w h1 h2 h3 => AnyZ.keys_gives (ρ := Tryz.keys107_ren) { Tryz.keys107 with } Fence.wide _ trivial rfl (by omega) Bm b nn D0 _ h1 h2 h3) (fun Bm w h1 h2 => AnyZ.keys_gives_nil (ρ := Tryz.keys107_ren) { Tryz.keys107 with } Fence.wide _ trivial rfl Bm _ h1 h2) (enters_of Tryz.func149 (by kernel_rfl) rfl)
end Go.Av
namespace Go.Av
structure RowM where
  cat : Int
  kind : Int
  nm : Str
  mrk : Str
  lo : Int
  hi : Int
  kids : Str
def RowM.av (r : RowM) : List AV := [.int .i64 r.cat, .int .i64 r.kind, .str r.nm, .str r.mrk, .int .i64 r.lo, .int .i64 r.hi, .str r.kids]
def rowsL : List RowM := [
  ⟨1, 1, [], [], 0, 0, []⟩,
  ⟨1, 2, [], [], 0, 0, []⟩,
  ⟨1, 3, [], [], 0, 0, []⟩,
  ⟨1, 4, [108], [], 0, 0, []⟩,
  ⟨1, 5, [], [], 0, 0, [116, 116]⟩,
  ⟨1, 6, [], [], 0, 0, [116, 116]⟩,
  ⟨1, 7, [110], [], 0, 0, [67]⟩,
  ⟨2, 20, [], [], -1073741824, 1073741824, []⟩,
  ⟨2, 21, [], [], 0, 1, []⟩,
  ⟨2, 22, [], [], 0, 0, []⟩,
  ⟨2, 23, [108], [], 0, 0, []⟩,
  ⟨2, 24, [110], [], 0, 0, [116, 101]⟩,
  ⟨2, 25, [], [], 0, 0, [101, 101]⟩,
  ⟨2, 26, [], [], 0, 0, [101, 101]⟩,
  ⟨2, 27, [], [], 0, 0, [101]⟩,
  ⟨2, 28, [], [], 0, 0, [101]⟩,
  ⟨2, 29, [110], [], 0, 0, [101, 101]⟩,
  ⟨2, 30, [], [], 0, 0, [101, 101, 101]⟩,
  ⟨2, 31, [], [], 1, 5, [101, 101]⟩,
  ⟨2, 32, [], [], 0, 0, [101, 65]⟩,
  ⟨2, 33, [], [], 0, 0, [101, 116, 65]⟩,
  ⟨3, 40, [], [], 0, 0, [42, 105]⟩,
  ⟨3, 41, [108], [], 0, 0, []⟩,
  ⟨3, 42, [110], [], 0, 0, [109]⟩,
  ⟨3, 43, [], [], 0, 1, [109, 115]⟩,
  ⟨4, 50, [], [], 0, 0, [42, 112]⟩,
  ⟨4, 51, [110], [], 0, 0, []⟩,
  ⟨4, 52, [108], [], 0, 0, [115, 116]⟩,
  ⟨5, 60, [110], [], 0, 0, [116]⟩,
  ⟨5, 61, [110], [], 0, 0, [116]⟩,
  ⟨5, 61, [110], [], 0, 0, []⟩,
  ⟨5, 62, [110], [], 0, 0, [67]⟩,
  ⟨5, 63, [110], [], 0, 0, [115]⟩,
  ⟨5, 64, [], [], 0, 0, [115]⟩,
  ⟨5, 65, [108], [108], 0, 0, []⟩,
  ⟨6, 70, [110], [], 0, 0, [101]⟩,
  ⟨6, 70, [110], [], 0, 0, [116, 101]⟩,
  ⟨6, 71, [110], [], 0, 0, [116]⟩,
  ⟨6, 72, [110], [], 0, 0, [67]⟩,
  ⟨6, 73, [110], [], 0, 0, [109]⟩,
  ⟨6, 74, [110], [], 0, 0, [115]⟩,
  ⟨6, 75, [110], [110], 0, 0, [115, 109]⟩,
  ⟨6, 76, [108], [], 0, 0, []⟩,
  ⟨6, 77, [108], [], 0, 0, []⟩,
  ⟨7, 80, [], [], 0, 0, [42, 100]⟩,
  ⟨8, 8, [110], [], 0, 0, [116]⟩,
  ⟨9, 34, [110], [110], 0, 0, [101]⟩]
def wordB (s what : Str) : Bool := if what = [110] then checkB s else if what = [108] then longB s else decide (s = [])
def catB (c : UInt8) : Int := if c = 116 then 1 else if c = 101 then 2 else if c = 109 then 3 else if c = 115 then 4 else if c = 112 then 5 else 6
def Tr.kind : Tr → Int
  | .none => 0
  | .node k _ _ _ _ => k
def Tr.name : Tr → Str
  | .none => []
  | .node _ _ a _ _ => a
def distinctB : List Str → Bool
  | [] => true
  | x :: l => !l.contains x && distinctB l
def innerB (w : Str) (t : Tr) : Bool := !(w.head? == some 105 && (t.kind == 74 || t.kind == 75))
def headC (w : Str) : UInt8 := w.headD 0
mutual
def isB : Tr → Int → Bool
  | .none, _ => false
  | .node k n a b l, c => rowsL.any fun r => r.cat == c && (r.kind == k && (wordB a r.nm && (wordB b r.mrk && (decide (r.lo ≤ n) && (decide (n ≤ r.hi) && kidsB l r.kids)))))
def kidsB : List Tr → Str → Bool
  | [], w => w == [] || w.head? == some 42
  | t :: l, [] => false
  | t :: l, c :: w =>
    if c = 42 then isB t (catB (headC w)) && innerB w t && starB l w
    else if c = 67 then isB t 8 && allB l 8 && distinctB ((t :: l).map Tr.name)
    else if c = 65 then isB t 9 && allB l 9
    else isB t (catB c) && kidsB l w
def starB : List Tr → Str → Bool
  | [], _ => true
  | t :: l, w => isB t (catB (headC w)) && innerB w t && starB l w
def allB : List Tr → Int → Bool
  | [], _ => true
  | t :: l, c => isB t c && allB l c
end
mutual
def Tr.neat : Tr → Prop
  | .none => True
  | .node _ _ a b l => a.length ≤ 67108863 ∧ b.length ≤ 67108863 ∧ l.length ≤ 67108864 ∧ Tr.neats l
def Tr.neats : List Tr → Prop
  | [] => True
  | t :: l => t.neat ∧ Tr.neats l
end
mutual
theorem Tr.slim_of_neat : ∀ t : Tr, t.neat → t.slim
  | .none, _ => trivial
  | .node _ _ _ _ l, h => ⟨h.2.2.1, Tr.slims_of_neats l h.2.2.2⟩
theorem Tr.slims_of_neats : ∀ l : List Tr, Tr.neats l → Tr.slims l
  | [], _ => trivial
  | t :: l, h => ⟨Tr.slim_of_neat t h.1, Tr.slims_of_neats l h.2⟩
end
theorem allB_all (l : List Tr) (c : Int) : allB l c = l.all fun t => isB t c := by
  induction l with
  | nil => simp [allB]
  | cons t l ih => simp [allB, ih]
theorem starB_all (l : List Tr) (w : Str) : starB l w = l.all fun t => isB t (catB (headC w)) && innerB w t := by
  induction l with
  | nil => simp [starB]
  | cons t l ih => simp [starB, ih]
end Go.Av
namespace Go.Av
open Go.Proofs
variable {W0 : World} {N : Nat}
set_option maxRecDepth 10000
set_option maxHeartbeats 4000000
def rowsAV : List (List AV) := rowsL.map RowM.av
@[simp] theorem rows_cln (n m : Nat) : clnLL n m rowsAV = rowsAV := clnLL_map (fun _ _ _ => by simp [RowM.av]) n m rowsL
theorem awp_runK {P : Program} {T : Tab} {mu : TypeId → Bool} {id : Nat} {l : List Oper} {st : St} {c2 : Code} {Q : Exit → St → Prop} (d : Nat) (v : AV) (hT : TabOK P T)
    (h : (runA T mu l.toArray l st).map (fun s => (s.n, look s.env d, s.H)) = some (st.n, v, st.H)) (k : AWP P W0 c2 ⟨st.n, [(d, v)], st.H⟩ Q) :
    AWP P W0 (.region id l.toArray false) st (thenA (fun s => AWP P W0 c2 s Q) Q) := by
  cases hs : runA T mu l.toArray l st with
  | none => rw [hs] at h; cases h
  | some s =>
    rw [hs] at h
    simp only [Option.map_some, Option.some.injEq, Prod.mk.injEq] at h
    obtain ⟨h1, h2, h3⟩ := h
    exact awp_run hT hs (show thenA _ _ .normal s from awp_sub (t := ⟨st.n, [(d, v)], st.H⟩) ⟨h1.symm, h3.symm, only_cons (by rw [h2]; exact .refl _) only_nil⟩ k)
def Tr.good (t : Tr) : Prop := t.neat ∧ t.hole = false
def Tr.goods (l : List Tr) : Prop := l.length ≤ 67108864 ∧ ∀ t ∈ l, t.good
theorem holes_mem : ∀ {l : List Tr}, Tr.holes l = false → ∀ t ∈ l, t.hole = false
  | t :: l, h, x, hx => by
    simp only [Tr.holes, Bool.or_eq_false_iff] at h
    rcases List.mem_cons.1 hx with rfl | hx
    · exact h.1
    · exact holes_mem h.2 x hx
theorem neats_mem : ∀ {l : List Tr}, Tr.neats l → ∀ t ∈ l, t.neat
  | t :: l, h, x, hx => by
    rcases List.mem_cons.1 hx with rfl | hx
    · exact h.1
    · exact neats_mem h.2 x hx
theorem Tr.good_kids {k n : Int} {a b : Str} {l : List Tr} (h : (Tr.node k n a b l).good) : Tr.goods l :=
  ⟨h.1.2.2.1, fun t ht => ⟨neats_mem h.1.2.2.2 t ht, holes_mem h.2 t ht⟩⟩
theorem good_node {t : Tr} (h : t.good) : ∃ k n a b l, t = .node k n a b l := by
  cases t with
  | none => exact absurd h.2 (by simp [Tr.hole])
  | node k n a b l => exact ⟨k, n, a, b, l, rfl⟩
theorem kidsB_star (l : List Tr) (w : Str) : kidsB l (42 :: w) = l.all fun t => isB t (catB (headC w)) && innerB w t := by
  cases l with
  | nil => simp [kidsB]
  | cons t l => simp [kidsB, starB_all]
theorem kidsB_C (l : List Tr) (w : Str) : kidsB l (67 :: w) = (decide (l ≠ []) && (l.all (fun t => isB t 8) && distinctB (l.map Tr.name))) := by
  cases l with
  | nil => simp [kidsB]
  | cons t l => simp [kidsB, allB_all, Bool.and_assoc]
theorem kidsB_A (l : List Tr) (w : Str) : kidsB l (65 :: w) = (decide (l ≠ []) && l.all fun t => isB t 9) := by
  cases l with
  | nil => simp [kidsB]
  | cons t l => simp [kidsB, allB_all]
end Go.Av
namespace Go.Av
open Go.Proofs
variable {W0 : World} {N : Nat}
set_option maxRecDepth 10000
set_option maxHeartbeats 4000000
theorem distinct_nodup : ∀ l : List Str, distinctB l = true ↔ l.Nodup
  | [] => by simp [distinctB]
  | x :: l => by simp [distinctB, distinct_nodup l]
theorem map_take_succ (l : List Tr) (i : Nat) (h : i < l.length) : (l.take (i + 1)).map Tr.name = (l.take i).map Tr.name ++ [(l[i]).name] := by
  rw [List.take_add_one, List.getElem?_eq_getElem h, List.map_append]; rfl
end Go.Av
namespace Go.Av
open Go.Proofs
variable {W0 : World}
set_option maxRecDepth 10000
set_option maxHeartbeats 4000000
def fitB (k n c : Int) (a b : Str) (l : List Tr) (r : RowM) : Bool := r.cat == c && (r.kind == k && (wordB a r.nm && (wordB b r.mrk && (decide (r.lo ≤ n) && (decide (n ≤ r.hi) && kidsB l r.kids)))))
end Go.Av
namespace Go.Av
theorem isB_node (k n : Int) (a b : Str) (l : List Tr) (c : Int) : isB (.node k n a b l) c = rowsL.any (fitB k n c a b l) := by simp only [isB]; rfl
theorem zz (n : Int) (x : Bool) : (decide (0 ≤ n) && (decide (n ≤ 0) && x)) = ((n == 0) && x) := by
  by_cases h : n = 0
  · subst h; simp
  · have : (n == 0) = false := by simpa using h
    rw [this]
    by_cases h1 : 0 ≤ n
    · have h2 : ¬ n ≤ 0 := by omega
      simp [h2]
    · simp [h1]
theorem is_1_1 (n : Int) (a b : Str) (l : List Tr) : isB (.node 1 n a b l) 1 = ((decide (a = []) && (decide (b = []) && ((n == 0) && kidsB l [])))) := by
  simp [isB_node, rowsL, fitB, wordB, zz, Bool.and_assoc]
theorem is_1_2 (n : Int) (a b : Str) (l : List Tr) : isB (.node 2 n a b l) 1 = ((decide (a = []) && (decide (b = []) && ((n == 0) && kidsB l [])))) := by
  simp [isB_node, rowsL, fitB, wordB, zz, Bool.and_assoc]
theorem is_1_3 (n : Int) (a b : Str) (l : List Tr) : isB (.node 3 n a b l) 1 = ((decide (a = []) && (decide (b = []) && ((n == 0) && kidsB l [])))) := by
  simp [isB_node, rowsL, fitB, wordB, zz, Bool.and_assoc]
theorem is_1_4 (n : Int) (a b : Str) (l : List Tr) : isB (.node 4 n a b l) 1 = ((longB a && (decide (b = []) && ((n == 0) && kidsB l [])))) := by
  simp [isB_node, rowsL, fitB, wordB, zz, Bool.and_assoc]
theorem is_1_5 (n : Int) (a b : Str) (l : List Tr) : isB (.node 5 n a b l) 1 = ((decide (a = []) && (decide (b = []) && ((n == 0) && kidsB l [116, 116])))) := by
  simp [isB_node, rowsL, fitB, wordB, zz, Bool.and_assoc]
theorem is_1_6 (n : Int) (a b : Str) (l : List Tr) : isB (.node 6 n a b l) 1 = ((decide (a = []) && (decide (b = []) && ((n == 0) && kidsB l [116, 116])))) := by
  simp [isB_node, rowsL, fitB, wordB, zz, Bool.and_assoc]
theorem is_1_7 (n : Int) (a b : Str) (l : List Tr) : isB (.node 7 n a b l) 1 = ((checkB a && (decide (b = []) && ((n == 0) && kidsB l [67])))) := by
  simp [isB_node, rowsL, fitB, wordB, zz, Bool.and_assoc]
theorem is_1_else {k : Int} (n : Int) (a b : Str) (l : List Tr) (h1 : k ≠ 1) (h2 : k ≠ 2) (h3 : k ≠ 3) (h4 : k ≠ 4) (h5 : k ≠ 5) (h6 : k ≠ 6) (h7 : k ≠ 7) : isB (.node k n a b l) 1 = false := by
  simp [isB_node, rowsL, fitB, Ne.symm h1, Ne.symm h2, Ne.symm h3, Ne.symm h4, Ne.symm h5, Ne.symm h6, Ne.symm h7]
theorem is_2_20 (n : Int) (a b : Str) (l : List Tr) : isB (.node 20 n a b l) 2 = ((decide (a = []) && (decide (b = []) && (decide (-1073741824 ≤ n) && decide (n ≤ 1073741824) && kidsB l [])))) := by
  simp [isB_node, rowsL, fitB, wordB, zz, Bool.and_assoc]
theorem is_2_21 (n : Int) (a b : Str) (l : List Tr) : isB (.node 21 n a b l) 2 = ((decide (a = []) && (decide (b = []) && (decide (0 ≤ n) && decide (n ≤ 1) && kidsB l [])))) := by
  simp [isB_node, rowsL, fitB, wordB, zz, Bool.and_assoc]
theorem is_2_22 (n : Int) (a b : Str) (l : List Tr) : isB (.node 22 n a b l) 2 = ((decide (a = []) && (decide (b = []) && ((n == 0) && kidsB l [])))) := by
  simp [isB_node, rowsL, fitB, wordB, zz, Bool.and_assoc]
theorem is_2_23 (n : Int) (a b : Str) (l : List Tr) : isB (.node 23 n a b l) 2 = ((longB a && (decide (b = []) && ((n == 0) && kidsB l [])))) := by
  simp [isB_node, rowsL, fitB, wordB, zz, Bool.and_assoc]
theorem is_2_24 (n : Int) (a b : Str) (l : List Tr) : isB (.node 24 n a b l) 2 = ((checkB a && (decide (b = []) && ((n == 0) && kidsB l [116, 101])))) := by
  simp [isB_node, rowsL, fitB, wordB, zz, Bool.and_assoc]
theorem is_2_25 (n : Int) (a b : Str) (l : List Tr) : isB (.node 25 n a b l) 2 = ((decide (a = []) && (decide (b = []) && ((n == 0) && kidsB l [101, 101])))) := by
  simp [isB_node, rowsL, fitB, wordB, zz, Bool.and_assoc]
theorem is_2_26 (n : Int) (a b : Str) (l : List Tr) : isB (.node 26 n a b l) 2 = ((decide (a = []) && (decide (b = []) && ((n == 0) && kidsB l [101, 101])))) := by
  simp [isB_node, rowsL, fitB, wordB, zz, Bool.and_assoc]
theorem is_2_27 (n : Int) (a b : Str) (l : List Tr) : isB (.node 27 n a b l) 2 = ((decide (a = []) && (decide (b = []) && ((n == 0) && kidsB l [101])))) := by
  simp [isB_node, rowsL, fitB, wordB, zz, Bool.and_assoc]
theorem is_2_28 (n : Int) (a b : Str) (l : List Tr) : isB (.node 28 n a b l) 2 = ((decide (a = []) && (decide (b = []) && ((n == 0) && kidsB l [101])))) := by
  simp [isB_node, rowsL, fitB, wordB, zz, Bool.and_assoc]
theorem is_2_29 (n : Int) (a b : Str) (l : List Tr) : isB (.node 29 n a b l) 2 = ((checkB a && (decide (b = []) && ((n == 0) && kidsB l [101, 101])))) := by
  simp [isB_node, rowsL, fitB, wordB, zz, Bool.and_assoc]
theorem is_2_30 (n : Int) (a b : Str) (l : List Tr) : isB (.node 30 n a b l) 2 = ((decide (a = []) && (decide (b = []) && ((n == 0) && kidsB l [101, 101, 101])))) := by
  simp [isB_node, rowsL, fitB, wordB, zz, Bool.and_assoc]
theorem is_2_31 (n : Int) (a b : Str) (l : List Tr) : isB (.node 31 n a b l) 2 = ((decide (a = []) && (decide (b = []) && (decide (1 ≤ n) && decide (n ≤ 5) && kidsB l [101, 101])))) := by
  simp [isB_node, rowsL, fitB, wordB, zz, Bool.and_assoc]
theorem is_2_32 (n : Int) (a b : Str) (l : List Tr) : isB (.node 32 n a b l) 2 = ((decide (a = []) && (decide (b = []) && ((n == 0) && kidsB l [101, 65])))) := by
  simp [isB_node, rowsL, fitB, wordB, zz, Bool.and_assoc]
theorem is_2_33 (n : Int) (a b : Str) (l : List Tr) : isB (.node 33 n a b l) 2 = ((decide (a = []) && (decide (b = []) && ((n == 0) && kidsB l [101, 116, 65])))) := by
  simp [isB_node, rowsL, fitB, wordB, zz, Bool.and_assoc]
theorem is_2_else {k : Int} (n : Int) (a b : Str) (l : List Tr) (h20 : k ≠ 20) (h21 : k ≠ 21) (h22 : k ≠ 22) (h23 : k ≠ 23) (h24 : k ≠ 24) (h25 : k ≠ 25) (h26 : k ≠ 26) (h27 : k ≠ 27) (h28 : k ≠ 28) (h29 : k ≠ 29) (h30 : k ≠ 30) (h31 : k ≠ 31) (h32 : k ≠ 32) (h33 : k ≠ 33) : isB (.node k n a b l) 2 = false := by
  simp [isB_node, rowsL, fitB, Ne.symm h20, Ne.symm h21, Ne.symm h22, Ne.symm h23, Ne.symm h24, Ne.symm h25, Ne.symm h26, Ne.symm h27, Ne.symm h28, Ne.symm h29, Ne.symm h30, Ne.symm h31, Ne.symm h32, Ne.symm h33]
theorem is_3_40 (n : Int) (a b : Str) (l : List Tr) : isB (.node 40 n a b l) 3 = ((decide (a = []) && (decide (b = []) && ((n == 0) && kidsB l [42, 105])))) := by
  simp [isB_node, rowsL, fitB, wordB, zz, Bool.and_assoc]
theorem is_3_41 (n : Int) (a b : Str) (l : List Tr) : isB (.node 41 n a b l) 3 = ((longB a && (decide (b = []) && ((n == 0) && kidsB l [])))) := by
  simp [isB_node, rowsL, fitB, wordB, zz, Bool.and_assoc]
theorem is_3_42 (n : Int) (a b : Str) (l : List Tr) : isB (.node 42 n a b l) 3 = ((checkB a && (decide (b = []) && ((n == 0) && kidsB l [109])))) := by
  simp [isB_node, rowsL, fitB, wordB, zz, Bool.and_assoc]
theorem is_3_43 (n : Int) (a b : Str) (l : List Tr) : isB (.node 43 n a b l) 3 = ((decide (a = []) && (decide (b = []) && (decide (0 ≤ n) && decide (n ≤ 1) && kidsB l [109, 115])))) := by
  simp [isB_node, rowsL, fitB, wordB, zz, Bool.and_assoc]
theorem is_3_else {k : Int} (n : Int) (a b : Str) (l : List Tr) (h40 : k ≠ 40) (h41 : k ≠ 41) (h42 : k ≠ 42) (h43 : k ≠ 43) : isB (.node k n a b l) 3 = false := by
  simp [isB_node, rowsL, fitB, Ne.symm h40, Ne.symm h41, Ne.symm h42, Ne.symm h43]
theorem is_4_50 (n : Int) (a b : Str) (l : List Tr) : isB (.node 50 n a b l) 4 = ((decide (a = []) && (decide (b = []) && ((n == 0) && kidsB l [42, 112])))) := by
  simp [isB_node, rowsL, fitB, wordB, zz, Bool.and_assoc]
theorem is_4_51 (n : Int) (a b : Str) (l : List Tr) : isB (.node 51 n a b l) 4 = ((checkB a && (decide (b = []) && ((n == 0) && kidsB l [])))) := by
  simp [isB_node, rowsL, fitB, wordB, zz, Bool.and_assoc]
theorem is_4_52 (n : Int) (a b : Str) (l : List Tr) : isB (.node 52 n a b l) 4 = ((longB a && (decide (b = []) && ((n == 0) && kidsB l [115, 116])))) := by
  simp [isB_node, rowsL, fitB, wordB, zz, Bool.and_assoc]
theorem is_4_else {k : Int} (n : Int) (a b : Str) (l : List Tr) (h50 : k ≠ 50) (h51 : k ≠ 51) (h52 : k ≠ 52) : isB (.node k n a b l) 4 = false := by
  simp [isB_node, rowsL, fitB, Ne.symm h50, Ne.symm h51, Ne.symm h52]
theorem is_5_60 (n : Int) (a b : Str) (l : List Tr) : isB (.node 60 n a b l) 5 = ((checkB a && (decide (b = []) && ((n == 0) && kidsB l [116])))) := by
  simp [isB_node, rowsL, fitB, wordB, zz, Bool.and_assoc]
theorem is_5_61 (n : Int) (a b : Str) (l : List Tr) : isB (.node 61 n a b l) 5 = ((checkB a && (decide (b = []) && ((n == 0) && kidsB l [116]))) || (checkB a && (decide (b = []) && ((n == 0) && kidsB l [])))) := by
  simp [isB_node, rowsL, fitB, wordB, zz, Bool.and_assoc]
theorem is_5_62 (n : Int) (a b : Str) (l : List Tr) : isB (.node 62 n a b l) 5 = ((checkB a && (decide (b = []) && ((n == 0) && kidsB l [67])))) := by
  simp [isB_node, rowsL, fitB, wordB, zz, Bool.and_assoc]
theorem is_5_63 (n : Int) (a b : Str) (l : List Tr) : isB (.node 63 n a b l) 5 = ((checkB a && (decide (b = []) && ((n == 0) && kidsB l [115])))) := by
  simp [isB_node, rowsL, fitB, wordB, zz, Bool.and_assoc]
theorem is_5_64 (n : Int) (a b : Str) (l : List Tr) : isB (.node 64 n a b l) 5 = ((decide (a = []) && (decide (b = []) && ((n == 0) && kidsB l [115])))) := by
  simp [isB_node, rowsL, fitB, wordB, zz, Bool.and_assoc]
theorem is_5_65 (n : Int) (a b : Str) (l : List Tr) : isB (.node 65 n a b l) 5 = ((longB a && (longB b && ((n == 0) && kidsB l [])))) := by
  simp [isB_node, rowsL, fitB, wordB, zz, Bool.and_assoc]
theorem is_5_else {k : Int} (n : Int) (a b : Str) (l : List Tr) (h60 : k ≠ 60) (h61 : k ≠ 61) (h62 : k ≠ 62) (h63 : k ≠ 63) (h64 : k ≠ 64) (h65 : k ≠ 65) : isB (.node k n a b l) 5 = false := by
  simp [isB_node, rowsL, fitB, Ne.symm h60, Ne.symm h61, Ne.symm h62, Ne.symm h63, Ne.symm h64, Ne.symm h65]
theorem is_6_70 (n : Int) (a b : Str) (l : List Tr) : isB (.node 70 n a b l) 6 = ((checkB a && (decide (b = []) && ((n == 0) && kidsB l [101]))) || (checkB a && (decide (b = []) && ((n == 0) && kidsB l [116, 101])))) := by
  simp [isB_node, rowsL, fitB, wordB, zz, Bool.and_assoc]
theorem is_6_71 (n : Int) (a b : Str) (l : List Tr) : isB (.node 71 n a b l) 6 = ((checkB a && (decide (b = []) && ((n == 0) && kidsB l [116])))) := by
  simp [isB_node, rowsL, fitB, wordB, zz, Bool.and_assoc]
theorem is_6_72 (n : Int) (a b : Str) (l : List Tr) : isB (.node 72 n a b l) 6 = ((checkB a && (decide (b = []) && ((n == 0) && kidsB l [67])))) := by
  simp [isB_node, rowsL, fitB, wordB, zz, Bool.and_assoc]
theorem is_6_73 (n : Int) (a b : Str) (l : List Tr) : isB (.node 73 n a b l) 6 = ((checkB a && (decide (b = []) && ((n == 0) && kidsB l [109])))) := by
  simp [isB_node, rowsL, fitB, wordB, zz, Bool.and_assoc]
theorem is_6_74 (n : Int) (a b : Str) (l : List Tr) : isB (.node 74 n a b l) 6 = ((checkB a && (decide (b = []) && ((n == 0) && kidsB l [115])))) := by
  simp [isB_node, rowsL, fitB, wordB, zz, Bool.and_assoc]
theorem is_6_75 (n : Int) (a b : Str) (l : List Tr) : isB (.node 75 n a b l) 6 = ((checkB a && (checkB b && ((n == 0) && kidsB l [115, 109])))) := by
  simp [isB_node, rowsL, fitB, wordB, zz, Bool.and_assoc]
theorem is_6_76 (n : Int) (a b : Str) (l : List Tr) : isB (.node 76 n a b l) 6 = ((longB a && (decide (b = []) && ((n == 0) && kidsB l [])))) := by
  simp [isB_node, rowsL, fitB, wordB, zz, Bool.and_assoc]
theorem is_6_77 (n : Int) (a b : Str) (l : List Tr) : isB (.node 77 n a b l) 6 = ((longB a && (decide (b = []) && ((n == 0) && kidsB l [])))) := by
  simp [isB_node, rowsL, fitB, wordB, zz, Bool.and_assoc]
theorem is_6_else {k : Int} (n : Int) (a b : Str) (l : List Tr) (h70 : k ≠ 70) (h71 : k ≠ 71) (h72 : k ≠ 72) (h73 : k ≠ 73) (h74 : k ≠ 74) (h75 : k ≠ 75) (h76 : k ≠ 76) (h77 : k ≠ 77) : isB (.node k n a b l) 6 = false := by
  simp [isB_node, rowsL, fitB, Ne.symm h70, Ne.symm h71, Ne.symm h72, Ne.symm h73, Ne.symm h74, Ne.symm h75, Ne.symm h76, Ne.symm h77]
theorem is_7_80 (n : Int) (a b : Str) (l : List Tr) : isB (.node 80 n a b l) 7 = ((decide (a = []) && (decide (b = []) && ((n == 0) && kidsB l [42, 100])))) := by
  simp [isB_node, rowsL, fitB, wordB, zz, Bool.and_assoc]
theorem is_7_else {k : Int} (n : Int) (a b : Str) (l : List Tr) (h80 : k ≠ 80) : isB (.node k n a b l) 7 = false := by
  simp [isB_node, rowsL, fitB, Ne.symm h80]
theorem is_8_8 (n : Int) (a b : Str) (l : List Tr) : isB (.node 8 n a b l) 8 = ((checkB a && (decide (b = []) && ((n == 0) && kidsB l [116])))) := by
  simp [isB_node, rowsL, fitB, wordB, zz, Bool.and_assoc]
theorem is_8_else {k : Int} (n : Int) (a b : Str) (l : List Tr) (h8 : k ≠ 8) : isB (.node k n a b l) 8 = false := by
  simp [isB_node, rowsL, fitB, Ne.symm h8]
theorem is_9_34 (n : Int) (a b : Str) (l : List Tr) : isB (.node 34 n a b l) 9 = ((checkB a && (checkB b && ((n == 0) && kidsB l [101])))) := by
  simp [isB_node, rowsL, fitB, wordB, zz, Bool.and_assoc]
theorem is_9_else {k : Int} (n : Int) (a b : Str) (l : List Tr) (h34 : k ≠ 34) : isB (.node k n a b l) 9 = false := by
  simp [isB_node, rowsL, fitB, Ne.symm h34]
def plainB (w : Str) : Bool := w.all fun c => c != 42 && (c != 67 && c != 65)
theorem kidsB_plain : ∀ (w : Str) (l : List Tr), plainB w = true → (kidsB l w = true ↔ l.length = w.length ∧ ∀ j (h1 : j < l.length) (h2 : j < w.length), isB l[j] (catB w[j]) = true)
  | [], [], _ => by simp [kidsB]
  | [], _ :: _, _ => by simp [kidsB]
  | c :: w, [], h => by
    simp [plainB] at h
    simp [kidsB, h.1.1]
  | c :: w, t :: l, h => by
    have hw : plainB w = true := by
      simp only [plainB, List.all_cons, Bool.and_eq_true] at h ⊢
      exact h.2
    simp [plainB] at h
    have ih := kidsB_plain w l hw
    simp only [kidsB, h.1.1, h.1.2.1, h.1.2.2, if_false, Bool.and_eq_true, ih, List.length_cons]
    constructor
    · rintro ⟨h1, h2, h3⟩
      refine ⟨by omega, fun j q1 q2 => ?_⟩
      cases j with
      | zero => exact h1
      | succ j => exact h3 j (by simpa using q1) (by simpa using q2)
    · rintro ⟨h1, h2⟩
      exact ⟨h2 0 (by simp) (by simp), by omega, fun j q1 q2 => h2 (j + 1) (by simpa using q1) (by simpa using q2)⟩
end Go.Av
