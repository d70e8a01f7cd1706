/-
  Go read by value: lemmas (part 17): D14, D15, E1, E2, E3, A24, C2, D16, D17, D18.
-/
import Derived.Test.YtdeocbficanfaaaGreatDoorY01
import Derived.Test.YtdeocbficanfaaaGreatDoorY11
import Derived.Test.YtdeocbficanfaaaGreatDoorY13
import Derived.Test.YtdeocbficanfaaaGreatDoorY16
set_option linter.unusedVariables false
set_option linter.unusedSimpArgs false
set_option linter.unusedSectionVars false
namespace Go.Av
open Go.Proofs
variable {W0 : World}
set_option maxRecDepth 10000
set_option maxHeartbeats 4000000
theorem sf164 {l : List Str} {own : Own} {s : Str} {H : Hp} (hl : l.length ≤ 67108864) :
    SF Tryz.prog W0 164 [.sl 1 (strs l) own, .str s] H fun r H' => H' = H ∧ ∃ v : Int, r = .int .i64 v ∧ (0 ≤ v ↔ l.any (· == s) = true) := by
  refine SF.pureLe (sf_start [4] 19 Tryz.func164 rfl rfl rfl (by decide) (by simp) ?_)
  repeat' first
    | refine aSq ?_ | refine aBl ?_
    | refine ru ?_
    | fail
  refine awp_loop_inv (fun m st => ∃ i : Nat, m = l.length - i ∧ i ≤ l.length ∧ (l.take i).any (· == s) = false ∧ Sub st ⟨19, [(8, .int .i64 i), (7, .int .i64 l.length), (0, .sl 1 (strs l) own), (1, .str s)], H⟩) l.length ⟨0, by simp, by simp, by simp, ⟨rfl, rfl, only_cons (by simp) (only_cons (by simp) (only_cons (by simp) (only_cons (by simp) only_nil)))⟩⟩ ?_
  rintro m st ⟨i, rfl, hi, hh, hs2⟩
  refine awp_sub hs2 ?_
  clear hs2 st
  repeat' first
    | refine aSq ?_ | refine aRt ?_ | refine aSk ?_ | refine aEx ?_ | refine aBl ?_ | refine tN ?_ | refine tR ?_ | refine iR ?_
    | refine ru ?_
    | (refine awp_if rfl (fun hb => ?_) (fun hb => ?_) <;> (try simp at hb) <;> try (exfalso; omega))
    | fail
  · have h5 := any_take_succ (· == s) l i (by assumption)
    have h6 : l.any (· == s) = true := any_of_take _ l (i + 1) (by rw [h5]; simp [hb])
    exact ⟨Gr.refl _, .int .i64 i, by simp, i, rfl, by simp only [h6, iff_true]; omega⟩
  · have h5 := any_take_succ (· == s) l i (by assumption)
    exact ⟨l.length - (i + 1), by omega, i + 1, rfl, by omega, by rw [h5, hh]; simp; exact fun e => hb e.symm, rfl, rfl, only_cons (by simp (disch := omega)) (only_cons (by simp) (only_cons (by simp) (only_cons (by simp) only_nil)))⟩
  · rw [List.take_of_length_le (by omega)] at hh
    exact ⟨Gr.refl _, .int .i64 (-1), by simp, -1, rfl, by simp only [hh]; simp⟩
theorem sf123 {l : List Str} {own : Own} {s : Str} {H : Hp} (hl : l.length ≤ 67108864) :
    SF Tryz.prog W0 123 [.sl 1 (strs l) own, .str s] H fun r H' => H' = H ∧ r = .bool (l.any (· == s)) := by
  refine SF.pureLe (sf_start [4] 9 Tryz.func123 rfl rfl rfl (by decide) (by simp) ?_)
  repeat' first
    | refine aSq ?_ | refine aRt ?_
    | (refine rg 1 ?_; refine tk 2 ?_; refine fc en164 ?_; refine (sf164 hl).mono ?_; rintro r H1 ⟨rfl, v, rfl, hv⟩; refine tk 2 ?_; refine dn ?_)
    | refine ru ?_
    | fail
  have h5 : decide (0 ≤ v) = l.any (· == s) := by rw [Bool.eq_iff_iff]; simpa using hv
  exact ⟨Gr.refl _, .bool (l.any (· == s)), by simp only [retQ, look]; simp [h5], rfl⟩
theorem sf124 {H : Hp} : SF Tryz.prog W0 124 [] H fun r H' => H' = H ∧ r = .sl 1 (strs wordsL) .shut := by
  refine SF.pureLe (sf_start [0] 2 Tryz.func124 rfl rfl rfl (by decide) (by simp) ?_)
  repeat' first
    | refine aSq ?_ | refine aRt ?_
    | refine ru ?_
    | fail
  exact ⟨Gr.refl _, _, by simp [strs, wordsL], rfl⟩
theorem sf88 {s : Str} {H : Hp} : SF Tryz.prog W0 88 [.str s] H fun r H' => H' = H ∧ r = .bool (wordsL.any (· == s)) := by
  refine SF.pureLe (sf_start [2] 6 Tryz.func88 rfl rfl rfl (by decide) (by simp) ?_)
  repeat' first
    | refine aSq ?_ | refine aRt ?_
    | (refine rg 1 ?_; refine fc en124 ?_; refine SF.then sf124 ?_; refine tk 1 ?_; refine fc en123 ?_; refine SF.then (sf123 (by decide)) ?_; refine tk 1 ?_; refine dn ?_)
    | refine ru ?_
    | fail
  all_goals (simp [retQ])
theorem aeff_nilq {P : Program} {T : Tab} {ops : Array Oper} {st : St} {o : Oper} {t t' e : TypeId} {s sz : Nat} {z : List ZC} {x y : Operand} {own : Own} {K : Hp → AV → Prop} (hT : TabOK P T) (hw : wantA ops st o = some true) (ho : o.op = .binOp .eql t x y t')
    (ht : T t = some ⟨s, .slice e, z⟩) (hx : st.eval x = .sl sz [] own) (hy : st.eval y = .slnil) (h : ∀ b, K st.H (.bool b)) : AEff P W0 ops o st K := by
  intro g w a r
  refine .inr ⟨wantA_sound hw r, ?_⟩
  obtain ⟨d, hd, hk⟩ := (hT t _ ht).kind
  cases hk
  have vx := r.eval x
  have vy := r.eval y
  rw [hx] at vx; rw [hy] at vy
  have main : ∀ p l c, a.eval x = .slice p l c → Runs P ((execOp a.eval o).run P w) fun v w' => ∃ g' y H', Ext g w g' w' ∧ WInv W0 g' H' w' ∧ VR g' w' y v ∧ K H' y := by
    intro p l c hp
    have hrun : (execOp a.eval o).run P w = .ok (.value (.bool (p.isNone && true))) w := by
      have h1 := bin_eql (equal_slice (w := w) hd p none l c 0 0 (by simp)) rfl
      have h2 : (eqGuard .eql t x y (.slice p l c) (.slice none 0 0)).run P w = .ok () w := eqGuard_ok (by simp) (by simp)
      simp only [VR] at vy
      unfold execOp; rw [ho]
      simp [hp, vy, h2, h1]
    rw [hrun]
    exact ⟨g, .bool (p.isNone && true), st.H, .refl _ _, r.inv, rfl, h _⟩
  rcases vx with ⟨_, _, e⟩ | ⟨b, o, cap, e, _⟩
  · exact main _ _ _ e
  · exact main _ _ _ e
theorem binA_sl_nil {T : Tab} {t e s sz : Nat} {z : List ZC} {es : List (List AV)} {own : Own} (h : T t = some ⟨s, .slice e, z⟩) (hne : es ≠ []) : binA T .eql t (.sl sz es own) .slnil = some (.bool false) := by
  have : es.isEmpty = false := by cases es <;> simp_all
  simp [binA, h, nilA, isNilA, this]
theorem sf25 {l : List Int} {own : Own} {H : Hp} (hl : l.length ≤ 67108864) : SF Tryz.prog W0 25 [.sl 1 (ints l) own] H fun r H' => H' = H ∧ r = .sl 1 (ints l) .shut := by
  refine SF.pureLe (sf_start [2] 8 Tryz.func25 rfl rfl rfl (by decide) (by simp) ?_)
  have key : ∃ v' H', appendA tab H 33 33 (.sl 1 [] .capped) (.sl 1 (ints l) own) = some (v', H') ∧ App H H' 1 ([] ++ ints l) v' ∧ Gr H H' ∧ H'.objs = H.objs :=
    (App.capped H H 1 []).append (Gr.refl H) tab33 tab3 rfl (by decide) (by simp) (by simp) (by simp; omega)
  obtain ⟨v', H', e1, a1, g1, o1⟩ := key
  simp only [List.nil_append] at a1
  have hfin : Le (cln H.objs.length H.hi.length v') (.sl 1 (ints l) .shut) := by simpa using a1.le'
  cases l with
  | nil =>
    repeat' first
      | refine aSq ?_ | refine aRt ?_ | refine aSk ?_ | refine tN ?_ | refine tR ?_
      | (refine rg 1 ?_; refine aops_take 1 (mu := mu0) tab_ok (by simp; rfl) ?_; refine aops_cons (aeff_nilq tab_ok rfl rfl tab33 rfl rfl fun b => ?_); refine dn ?_)
      | (refine awp_run (mu := mu0) tab_ok (by simp [e1]; rfl) ?_)
      | (refine awp_if rfl (fun hb => ?_) (fun hb => ?_) <;> (try simp at hb) <;> try (exfalso; omega))
      | fail
    · exact ⟨Gr.refl _, _, by simp; exact .nilShut 1, rfl⟩
    · exact ⟨g1, _, by simp; exact hfin, rfl⟩
  | cons x l =>
    have hne := binA_sl_nil (T := tab) (sz := 1) (own := own) tab33 (show ints (x :: l) ≠ [] by simp)
    repeat' first
      | refine aSq ?_ | refine aRt ?_ | refine aSk ?_ | refine tN ?_
      | (refine awp_run (mu := mu0) tab_ok (by simp [e1]; rfl) ?_)
      | (refine awp_if rfl (fun hb => ?_) (fun hb => ?_) <;> (try simp at hb) <;> try (exfalso; omega))
      | fail
    exact ⟨g1, _, by simp; exact hfin, rfl⟩
theorem sf113 {l : List Str} {own : Own} {H : Hp} (hl : l.length ≤ 67108864) : SF Tryz.prog W0 113 [.sl 1 (strs l) own] H fun r H' => H' = H ∧ r = .sl 1 (strs l) .shut := by
  refine SF.pureLe (sf_start [2] 8 Tryz.func113 rfl rfl rfl (by decide) (by simp) ?_)
  have key : ∃ v' H', appendA tab H 36 36 (.sl 1 [] .capped) (.sl 1 (strs l) own) = some (v', H') ∧ App H H' 1 ([] ++ strs l) v' ∧ Gr H H' ∧ H'.objs = H.objs :=
    (App.capped H H 1 []).append (Gr.refl H) tab36 tab9 rfl (by decide) (by simp) (by simp) (by simp; omega)
  obtain ⟨v', H', e1, a1, g1, o1⟩ := key
  simp only [List.nil_append] at a1
  have hfin : Le (cln H.objs.length H.hi.length v') (.sl 1 (strs l) .shut) := by simpa using a1.le'
  cases l with
  | nil =>
    repeat' first
      | refine aSq ?_ | refine aRt ?_ | refine aSk ?_ | refine tN ?_ | refine tR ?_
      | (refine rg 1 ?_; refine aops_take 1 (mu := mu0) tab_ok (by simp; rfl) ?_; refine aops_cons (aeff_nilq tab_ok rfl rfl tab36 rfl rfl fun b => ?_); refine dn ?_)
      | (refine awp_run (mu := mu0) tab_ok (by simp [e1]; rfl) ?_)
      | (refine awp_if rfl (fun hb => ?_) (fun hb => ?_) <;> (try simp at hb) <;> try (exfalso; omega))
      | fail
    · exact ⟨Gr.refl _, _, by simp; exact .nilShut 1, rfl⟩
    · exact ⟨g1, _, by simp; exact hfin, rfl⟩
  | cons x l =>
    have hne := binA_sl_nil (T := tab) (sz := 1) (own := own) tab36 (show strs (x :: l) ≠ [] by simp)
    repeat' first
      | refine aSq ?_ | refine aRt ?_ | refine aSk ?_ | refine tN ?_
      | (refine awp_run (mu := mu0) tab_ok (by simp [e1]; rfl) ?_)
      | (refine awp_if rfl (fun hb => ?_) (fun hb => ?_) <;> (try simp at hb) <;> try (exfalso; omega))
      | fail
    exact ⟨g1, _, by simp; exact hfin, rfl⟩
end Go.Av
namespace Go.Av
open Go.Proofs
open Go.Lib (decodeL decodeL_width decodeL_le validD validD_step validD_nil)
variable {W0 : World}
set_option maxRecDepth 10000
set_option maxHeartbeats 4000000
def sortS (l : List Str) : List Str := l.mergeSort fun x y => decide (x ≤ y)
def mapIs (H : Hp) (m : AV) (ks : List Str) : Prop := (m = .mnil ∧ ks = []) ∨ (∃ vs, m = .mapv ks vs) ∨ ∃ r vs, m = .mref r ∧ H.objs[r]? = some (.map ks vs)
def joinL (l : List Str) : Str := List.intercalate [46] l
structure LibOK (W0 : World) : Prop where
  u121 : ∀ (s : Str) (H : Hp), s.length ≤ 67108864 → SF Tryz.prog W0 121 [.str s] H fun r H' => H' = H ∧ r = .bool (validD s)
  u27 : ∀ (s : Str) (H : Hp), s.length ≤ 67108863 → SF Tryz.prog W0 27 [.str s, .str [46]] H fun r H' => H' = H ∧ r = .sl 1 (strs (pieces [] s)) .shut
  u112 : ∀ (l : List Str) (own : Own) (H : Hp), l.length ≤ 67108864 → (joinL l).length ≤ 67108864 → SF Tryz.prog W0 112 [.sl 1 (strs l) own, .str [46]] H fun r H' => H' = H ∧ r = .str (joinL l)
  u72 : ∀ (m : AV) (ks : List Str) (H : Hp), mapIs H m ks → SF Tryz.prog W0 72 [m] H fun r H' => H' = { H with objs := H.objs ++ [.cells [m]] } ∧ r = .fn 111 [.ref H.objs.length 0]
  u107 : ∀ (m : AV) (ks : List Str) (H : Hp), mapIs H m ks → SF Tryz.prog W0 107 [m] H fun r H' => H' = { H with objs := H.objs ++ [.cells [m]] } ∧ r = .fn 149 [.ref H.objs.length 0]
  u71a : ∀ (m : AV) (ks : List Str) (H : Hp) (k : Nat), mapIs H m ks → H.objs[k]? = some (.cells [m]) → ks.length ≤ 67108864 → (∀ x ∈ ks, x.length ≤ 9223372036854775807) → SF Tryz.prog W0 71 [.fn 111 [.ref k 0]] H fun r H' => H' = H ∧ r = .sl 1 (strs (sortS ks)) .shut
  u71b : ∀ (m : AV) (ks : List Str) (H : Hp) (k : Nat), mapIs H m ks → H.objs[k]? = some (.cells [m]) → ks.length ≤ 67108864 → (∀ x ∈ ks, x.length ≤ 9223372036854775807) → SF Tryz.prog W0 71 [.fn 149 [.ref k 0]] H fun r H' => H' = H ∧ r = .sl 1 (strs (sortS ks)) .shut
theorem sf87 (hB : LibOK W0) {s : Str} {H : Hp} (hs : s.length ≤ 67108864) : SF Tryz.prog W0 87 [.str s] H fun r H' => H' = H ∧ r = .bool (nameB s) := by
  refine SF.pureLe (sf_start [2] 37 Tryz.func87 rfl rfl rfl (by decide) (by simp) ?_)
  repeat' first
    | refine aSq ?_ | refine aRt ?_ | refine aSk ?_ | refine aBl ?_ | refine tN ?_ | refine tR ?_
    | (refine rg 1 ?_; refine tk 2 ?_; (first | (refine te (fun hb => ?_) (fun hb => ?_) <;> (try simp at hb) <;> try (exfalso; omega)) | (refine tk 1 ?_)); all_goals (refine tk 4 ?_; (first | (refine te (fun hb => ?_) (fun hb => ?_) <;> (try simp at hb) <;> try (exfalso; omega)) | (refine tk 1 ?_)); all_goals (refine tk 1 ?_; (first | (refine fg en121 ?_; refine SF.then (hB.u121 _ _ hs) ?_) | (refine tk 1 ?_)); refine tk 2 ?_; refine dn ?_)))
    | refine ru ?_
    | (refine awp_if rfl (fun hb => ?_) (fun hb => ?_) <;> (try simp at hb) <;> try (exfalso; omega))
    | fail
  · exact ⟨Gr.refl _, .bool false, by simp, by rename_i h _; subst h; simp [nameB]⟩
  · exact ⟨Gr.refl _, .bool false, by simp, by simp [nameB]; omega⟩
  · exact ⟨Gr.refl _, .bool false, by simp, by simp [nameB, hb]⟩
  rename_i hne _
  have hpos : 1 ≤ s.length := List.length_pos_iff.2 hne
  have hv : validD s = true := hb
  have hlb : nameB s = nameRs true (runes s) := by
    have : decide (1 ≤ s.length ∧ s.length ≤ 32) = true := by simp; omega
    rw [nameB, this, hv]; simp
  rw [hlb]
  refine awp_loop_inv (fun q st => ∃ p : Nat, q = s.length - p ∧ p ≤ s.length ∧ nameRs true (runes s) = nameRs (decide (p = 0)) (runes (s.drop p)) ∧ Sub st ⟨37, [(18, .ref H.objs.length 0)], ⟨H.objs ++ [.iter s p], H.hi⟩⟩) s.length ⟨0, by simp, by simp, by simp, ⟨rfl, rfl, only_cons (by simp) only_nil⟩⟩ ?_
  rintro q st ⟨p, rfl, hp, hn, hs2⟩
  refine awp_sub hs2 ?_
  clear hs2 st
  rcases Nat.lt_or_ge p s.length with hlt | hge
  · have hne2 : s.drop p ≠ [] := by intro h; have := congrArg List.length h; simp at this; omega
    have hw := decodeL_width (s.drop p)
    have hle := decodeL_le (s.drop p) hne2
    rw [List.length_drop] at hle
    rw [runes_step _ hne2, List.drop_drop] at hn
    obtain ⟨r, w, hd⟩ : ∃ r w, decodeL (s.drop p) = (r, w) := ⟨_, _, rfl⟩
    rw [hd] at hn hw hle
    simp only at hn hw hle
    simp only [nameRs] at hn
    repeat' first
      | refine aSq ?_ | refine aRt ?_ | refine aSk ?_ | refine aBl ?_ | refine tN ?_ | refine tR ?_ | refine iR ?_
      | (refine rg 6 ?_; refine tk 1 ?_ (by simp (disch := omega) [hlt, dec_at, hd]; with_reducible rfl); refine fc en122 ?_; refine SF.then sf122 ?_; refine dn ?_)
      | (refine rg 7 ?_; refine tk 2 ?_ (by simp (disch := omega) [hlt, dec_at, hd]; with_reducible rfl); (first | (refine te (hs := (by simp (disch := omega) [hlt, dec_at, hd]; with_reducible rfl)) (fun hb => ?_) (fun hb => ?_) <;> (try simp at hb) <;> try (exfalso; omega)) | (refine tk 1 ?_ (by simp (disch := omega) [hlt, dec_at, hd]; with_reducible rfl))); all_goals (refine tk 3 ?_ (by simp (disch := omega) [hlt, dec_at, hd]; with_reducible rfl); refine dn ?_))
      | (refine ru ?_ (by simp (disch := omega) [hlt, dec_at, hd]; with_reducible rfl))
      | (refine awp_if rfl (fun hb => ?_) (fun hb => ?_) <;> (try simp at hb) <;> try (exfalso; omega))
      | refine inN ?_
    all_goals first
      | (have ho : okR (decide (p = 0)) r = false := by clear hn; simp_all [okR] <;> omega
         rw [ho] at hn
         exact ⟨(Gr.refl _).obj _, .bool false, by simp, by rw [hn]; rfl⟩)
      | (have ho : okR (decide (p = 0)) r = true := by clear hn; simp_all [okR] <;> omega
         rw [ho, Bool.true_and] at hn
         exact ⟨s.length - (p + w), by omega, p + w, rfl, by omega, by rw [hn, decide_eq_false (by omega : ¬ p + w = 0)], rfl, rfl, only_cons (by simp) only_nil⟩)
  · have : p = s.length := by omega
    subst this
    simp only [List.drop_length, runes_nil, nameRs] at hn
    repeat' first
      | refine aSq ?_ | refine aRt ?_ | refine aEx ?_
      | refine ru ?_
      | (refine awp_if rfl (fun hb => ?_) (fun hb => ?_) <;> (try simp at hb) <;> try (exfalso; omega))
      | fail
    exact ⟨(Gr.refl _).obj _, .bool true, by simp, by rw [hn]⟩
theorem sf43 (hB : LibOK W0) {s : Str} {H : Hp} (hs : s.length ≤ 67108864) : SF Tryz.prog W0 43 [.str s] H fun r H' => H' = H ∧ r = .bool (checkB s) := by
  refine SF.pureLe (sf_start [2] 10 Tryz.func43 rfl rfl rfl (by decide) (by simp) ?_)
  repeat' first
    | refine aSq ?_ | refine aRt ?_
    | (refine rg 1 ?_; refine tk 1 ?_; refine fc en87 ?_; refine SF.then (sf87 hB hs) ?_; (first | (refine te (fun hb => ?_) (fun hb => ?_) <;> (try simp at hb) <;> try (exfalso; omega)) | (refine tk 1 ?_)); all_goals (refine tk 1 ?_; (first | (refine fg en88 ?_; refine SF.then sf88 ?_) | (refine tk 1 ?_)); refine tk 3 ?_; refine dn ?_))
    | refine ru ?_
    | fail
  all_goals (simp [retQ, checkB, *])
theorem sf42 (hB : LibOK W0) {s : Str} {H : Hp} (hs : s.length ≤ 67108864) : SF Tryz.prog W0 42 [.str s] H fun r H' => H' = H ∧ r = .bool (!checkB s) := by
  refine SF.pureLe (sf_start [2] 6 Tryz.func42 rfl rfl rfl (by decide) (by simp) ?_)
  repeat' first
    | refine aSq ?_ | refine aRt ?_
    | (refine rg 1 ?_; refine tk 1 ?_; refine fc en43 ?_; refine SF.then (sf43 hB hs) ?_; refine tk 2 ?_; refine dn ?_)
    | refine ru ?_
    | fail
  all_goals (simp [retQ])
theorem not_any (l : List Str) : (!l.any fun s => !checkB s) = l.all checkB := by
  induction l with
  | nil => rfl
  | cons x l ih => simp [← ih]
theorem sf26 (hB : LibOK W0) {s : Str} {H : Hp} (hs : s.length ≤ 67108863) : SF Tryz.prog W0 26 [.str s] H fun r H' => H' = H ∧ r = .bool (longB s) := by
  refine SF.pureLe (sf_start [2] 14 Tryz.func26 rfl rfl rfl (by decide) (by simp) ?_)
  have hx := pieces_le s [] s (by simp)
  have hl := pieces_len [] s
  have hf : ∀ t ∈ pieces [] s, SF Tryz.prog W0 42 (.str t :: []) H fun r H' => H' = H ∧ r = .bool (!checkB t) := fun t ht => sf42 hB (by have := hx t ht; omega)
  repeat' first
    | refine aSq ?_ | refine aRt ?_
    | (refine rg 2 ?_; refine tk 3 ?_; (first | (refine te (fun hb => ?_) (fun hb => ?_) <;> (try simp at hb) <;> try (exfalso; omega)) | (refine tk 1 ?_)); all_goals (refine tk 1 ?_; (first | (refine fg en27 ?_; refine SF.then (hB.u27 _ _ hs) ?_) | (refine tk 1 ?_)); refine tk 1 ?_; (first | (refine fg en44 ?_; refine SF.then (sf44 (p := fun t => !checkB t) (by omega) en42 hf) ?_) | (refine tk 1 ?_)); refine tk 3 ?_; refine dn ?_))
    | refine ru ?_
    | fail
  · have hd : decide (s.length ≤ 128) = true := by simp; omega
    exact ⟨Gr.refl _, .bool (longB s), by simp only [retQ, look]; simp [longB, hd, not_any], rfl⟩
  · exact ⟨Gr.refl _, .bool false, by simp, by simp [longB]; omega⟩
theorem sf15 (hB : LibOK W0) {s : Str} {H : Hp} (hs : s.length ≤ 67108863) : SF Tryz.prog W0 15 [.str s] H fun r H' => H' = H ∧ r = .sl 1 (strs (splitB s)) .shut := by
  refine SF.pureLe (sf_start [2] 8 Tryz.func15 rfl rfl rfl (by decide) (by simp) ?_)
  repeat' first
    | refine aSq ?_ | refine aRt ?_ | refine aSk ?_ | refine tN ?_ | refine tR ?_
    | (refine rg 1 ?_; refine tk 1 ?_; refine fc en26 ?_; refine SF.then (sf26 hB hs) ?_; refine tk 1 ?_; refine dn ?_)
    | (refine rg 3 ?_; refine tk 1 ?_; refine fc en27 ?_; refine SF.then (hB.u27 _ _ hs) ?_; refine tk 1 ?_; refine dn ?_)
    | refine ru ?_
    | (refine awp_if rfl (fun hb => ?_) (fun hb => ?_) <;> (try simp at hb) <;> try (exfalso; omega))
    | fail
  · exact ⟨Gr.refl _, _, by simp; exact .nilShut 1, by simp [splitB, hb, strs]⟩
  · exact ⟨Gr.refl _, _, by simp; exact .refl _, by simp [splitB, hb]⟩
end Go.Av
namespace Go.Av
open Go.Proofs
open Go.RowKit (Below)
variable {W0 : World}
set_option maxRecDepth 10000
set_option maxHeartbeats 4000000
structure Base (W0 : World) : Prop where
  tabs : Lib.Utf8Tabs 1 2 W0
  maxlen : ∃ m, W0.cell? ⟨0, 0, none⟩ = some (.int .i64 m)
theorem AR.one {g : Gh} {w : World} {a : AV} {vs : Array Value} (h : AR g w [a] vs.toList) : ∃ v, vs = #[v] ∧ VR g w a v := by
  obtain ⟨v, vs', e, h1, h2⟩ := h
  cases h2
  exact ⟨v, by rw [← Array.toArray_toList (xs := vs), e], h1⟩
theorem AR.two {g : Gh} {w : World} {a b : AV} {vs : Array Value} (h : AR g w [a, b] vs.toList) : ∃ v u, vs = #[v, u] ∧ VR g w a v ∧ VR g w b u := by
  obtain ⟨v, vs', e, h1, u, us, e2, h2, h3⟩ := h
  cases h3
  subst e2
  exact ⟨v, u, by rw [← Array.toArray_toList (xs := vs), e], h1, h2⟩
theorem lib121 (hB : Base W0) (s : Str) (H : Hp) (hs : s.length ≤ 67108864) : SF Tryz.prog W0 121 [.str s] H fun r H' => H' = H ∧ r = .bool (Lib.validD s) := by
  refine SF.lib fun g w vs inv har => ?_
  obtain ⟨v, rfl, hv⟩ := AR.one har
  cases hv
  have hT := Utf8Tabs_below hB.tabs (Below.of inv)
  have c := Any.utf8_ValidString Tryz.lays196 ⟨s.toArray⟩ w (by show s.toArray.size ≤ _; simp; omega) hT
  refine c.mono ?_
  rintro e w' ⟨rfl, hb⟩
  exact ⟨_, rfl, hb, by simp [VR]⟩
theorem pieces_acc : ∀ (l acc : Str), ∃ h t, pieces [] l = h :: t ∧ pieces acc l = (acc ++ h) :: t
  | [], acc => ⟨[], [], rfl, by simp [pieces]⟩
  | c :: l, acc => by
    simp only [pieces]
    split
    · exact ⟨[], _, rfl, by simp⟩
    · obtain ⟨h, t, e1, e2⟩ := pieces_acc l [c]
      obtain ⟨h', t', e3, e4⟩ := pieces_acc l (acc ++ [c])
      rw [e1] at e3
      obtain ⟨rfl, rfl⟩ := List.cons.inj e3
      exact ⟨c :: h, t, by simpa using e2, by rw [e4]; simp⟩
theorem split_pieces : ∀ s : Str, Lib.splitK [46] 0 (Lib.count s [46]) s = pieces [] s
  | [] => rfl
  | c :: l => by
    have ih := split_pieces l
    by_cases hc : c = 46
    · subst hc
      rw [Lib.count_cons_eq, Nat.add_comm, Lib.splitK]
      have hi : Lib.index (46 :: l) [46] = 0 := by simp [Lib.index, List.isPrefixOf]
      rw [hi]
      simp [pieces, ih]
    · rw [Lib.count_cons_ne c 46 l hc]
      obtain ⟨h, t, e1, e2⟩ := pieces_acc l [c]
      have e3 : pieces [] (c :: l) = (c :: h) :: t := by simp only [pieces, if_neg hc]; simpa using e2
      rw [e3]
      rw [e1] at ih
      cases hk : Lib.count l [46] with
      | zero =>
        rw [hk] at ih
        simp only [Lib.splitK] at ih ⊢
        obtain ⟨rfl, rfl⟩ := List.cons.inj ih
        rfl
      | succ k =>
        rw [hk] at ih
        have hp : List.isPrefixOf [46] (c :: l) = false := by
          simp only [List.isPrefixOf, Bool.and_eq_false_iff]
          exact .inl (by simpa using fun e => hc e.symm)
        have hg := Lib.index_ge l [46]
        simp only [Lib.splitK] at ih ⊢
        simp only [Lib.index, hp, Bool.false_eq_true, if_false]
        by_cases hm : (Lib.index l [46] == -1) = true
        · rw [if_pos hm] at ih ⊢
          obtain ⟨rfl, rfl⟩ := List.cons.inj ih
          simp
        · rw [if_neg hm] at ih ⊢
          have hm' : Lib.index l [46] ≠ -1 := by simpa using hm
          have q : ¬ (Lib.index l [46] + 1 == -1) = true := by
            intro e
            have := beq_iff_eq.1 e
            omega
          rw [if_neg q]
          obtain ⟨e4, e5⟩ := List.cons.inj ih
          have q2 : (Lib.index l [46] + 1).toNat = (Lib.index l [46]).toNat + 1 := by omega
          rw [q2]
          simp only [Nat.add_zero, List.length_singleton] at *
          rw [List.take_succ_cons, e4, List.drop_succ_cons, e5]
theorem lib27 (hB : Base W0) (s : Str) (H : Hp) (hs : s.length ≤ 67108863) : SF Tryz.prog W0 27 [.str s, .str [46]] H fun r H' => H' = H ∧ r = .sl 1 (strs (pieces [] s)) .shut := by
  intro g w vs inv har
  obtain ⟨v, u, rfl, hv, hu⟩ := AR.two har
  cases hv; cases hu
  obtain ⟨m, hm⟩ := hB.maxlen
  have hm' : w.cell? ⟨0, 0, none⟩ = some (.int .i64 m) := by rw [cell_heap (inv.base 0 (cell_lt hm))]; exact hm
  have c := Tryz.strings_Split ⟨s.toArray⟩ ⟨[46].toArray⟩ m w (by show s.toArray.size < _; simp; omega) hm' (by decide)
  refine c.mono ?_
  rintro e w' ⟨rfl, rfl⟩
  have hd := Lib.splitB_data ⟨[46].toArray⟩ 0 (Lib.countB ⟨s.toArray⟩ ⟨[46].toArray⟩) ⟨s.toArray⟩
  have hc : Lib.countB ⟨s.toArray⟩ ⟨[46].toArray⟩ = Lib.count s [46] := rfl
  have hlen := Lib.splitB_all ⟨[46].toArray⟩ (by decide) 0 _ ⟨s.toArray⟩ rfl
  generalize hl : Lib.splitB ⟨[46].toArray⟩ 0 (Lib.countB ⟨s.toArray⟩ ⟨[46].toArray⟩) ⟨s.toArray⟩ = l at *
  have hp : l.map (fun x => x.data.toList) = pieces [] s := by
    rw [hd, hc]
    exact split_pieces s
  obtain ⟨i, ext⟩ := inv.made (.cells (l.map Value.string).toArray 9 (0, 0)) l.length
  refine ⟨_, _, .sl 1 (strs (pieces [] s)) .shut, H, rfl, ⟨rfl, rfl⟩, ext, i, .inr ⟨w.heap.size, 0, l.length, ?_, ?_, trivial, ?_⟩⟩
  · rw [strs_len, ← hp, List.length_map, ← hlen]
  · rw [strs_len, ← hp, List.length_map]; exact Nat.le_refl _
  · refine ER_row heap_push_new _ 0 (fun j e hj => ?_) ?_
    · rw [strs_get, ← hp, List.getElem?_map] at hj
      cases hx : l[j]? with
      | none => rw [hx] at hj; cases hj
      | some x =>
        rw [hx] at hj
        cases hj
        exact ⟨_, .string x, rfl, by simp [hx], by simp [VR, strV]⟩
    · simp [← hp, strs, Gh.publish]
end Go.Av
namespace Go.Av
open Go.Proofs
open Go.RowKit (Below)
open Go.Maps Go.Sort
variable {W0 : World}
set_option maxRecDepth 10000
set_option maxHeartbeats 4000000
def noRead : Value → Option (DataW Unit × List MemPlace) := fun _ => some (.nil, [])
theorem keys_own {g : Gh} {w : World} {b : Nat} {es : Array MapEntry} {cl : Nat} {ks : List Str} (hh : w.heap[b]? = some (.map es cl)) (hk : KeysOf es cl ks) (hlen : ks.length ≤ 67108864) (hsz : ∀ x ∈ ks, x.length ≤ 9223372036854775807) :
    ∃ D0 : DataW Unit, w.ownsMap Tryz.prog 9 noRead b ks.length D0 ∧ (strKeys D0).Perm ks ∧ Maps.size D0 = ks.length := by
  obtain ⟨h1, h2⟩ := hk
  have hes : es.size = ks.length := by have := congrArg List.length h1; simpa using this
  have hmem : ∀ x ∈ es.toList, ∃ k ∈ ks, x.key = strV k := fun x hx => by
    have : x.key ∈ ks.map strV := h1 ▸ List.mem_map_of_mem hx
    obtain ⟨k, hk, e⟩ := List.mem_map.1 this
    exact ⟨k, hk, e.symm⟩
  have hrd : ∀ x ∈ es.toList, ∀ k ∈ ks, x.key = strV k → WideElems.rd Tryz.prog 9 noRead x = some (.string k, .nil) := fun x hx k hk e => by
    unfold WideElems.rd
    rw [e]
    have := WideMaps.keyOf_string_mk (P := Tryz.prog) (k := 9) Tryz.underlying9 (s := ⟨k.toArray⟩) (by have := hsz k hk; show k.toArray.size ≤ maxLen; simp [maxLen]; omega)
    rw [show strV k = .string ⟨k.toArray⟩ from rfl, this]
    rfl
  refine ⟨_, ⟨es, cl, hh, ⟨by rw [hes]; simp [maxLen]; omega, h2, fun x hx => ?_⟩, Nat.le_of_eq hes, rfl⟩, ?_, ?_⟩
  · obtain ⟨k, hk, e⟩ := hmem x hx
    exact ⟨_, hrd x hx k hk e⟩
  · have hp := (WideShapes.sorted_perm (es.toList.map (WideElems.rg Tryz.prog 9 noRead))).map fun p => strOf p.1
    refine hp.trans ?_
    have e : ((es.toList.map (WideElems.rg Tryz.prog 9 noRead)).map fun p => strOf p.1) = ks := by
      rw [List.map_map]
      apply List.ext_getElem?
      intro i
      rw [List.getElem?_map]
      have hi := congrArg (fun l => l[i]?) h1
      simp only [List.getElem?_map] at hi
      cases hx : es.toList[i]? with
      | none => rw [hx] at hi; cases hk : ks[i]? with
        | none => rfl
        | some k => rw [hk] at hi; cases hi
      | some x =>
        rw [hx] at hi
        cases hk : ks[i]? with
        | none => rw [hk] at hi; cases hi
        | some k =>
          rw [hk] at hi
          simp only [Option.map_some, Option.some.injEq] at hi
          simp only [Option.map_some, Function.comp, Option.some.injEq]
          rw [WideElems.rg_of (hrd x (List.mem_of_getElem? hx) k (List.mem_of_getElem? hk) hi)]
          rfl
    rw [e]
  · rw [Maps.size_eq, (WideShapes.sorted_perm _).length_eq, List.length_map]; simpa using hes
theorem lib_keys {f fi : FuncId} (hc : ∀ (mb : Option Nat) (W : World), ∃ T, Calls Tryz.prog f #[.map mb] W fun e w' => e = .returned (.func (.func fi) #[] #[.pointer (some ⟨W.heap.size, 0, none⟩)]) ∧ w' = W.alloc (.cells #[.map mb] T))
    (m : AV) (ks : List Str) (H : Hp) (hm : mapIs H m ks) : SF Tryz.prog W0 f [m] H fun r H' => H' = { H with objs := H.objs ++ [.cells [m]] } ∧ r = .fn fi [.ref H.objs.length 0] := by
  intro g w vs inv har
  obtain ⟨v, rfl, hv⟩ := AR.one har
  have hmap : ∃ mb, v = .map mb := by
    rcases hm with ⟨rfl, _⟩ | ⟨vs, rfl⟩ | ⟨r, vs, rfl, _⟩
    · exact ⟨none, hv⟩
    · obtain ⟨b, _, _, e, _⟩ := hv; exact ⟨_, e⟩
    · obtain ⟨b, _, e⟩ := hv; exact ⟨_, e⟩
  obtain ⟨mb, rfl⟩ := hmap
  obtain ⟨T, c⟩ := hc mb w
  refine c.mono ?_
  rintro e w' ⟨rfl, rfl⟩
  have har1 : AR g w [m] (#[Value.map mb] : Array Value).toList := AR.cons hv AR.nil
  obtain ⟨g', ext, i, l⟩ := made_object inv T har1
  exact ⟨_, g', .fn fi [.ref H.objs.length 0], _, rfl, ⟨rfl, rfl⟩, ext, i, _, rfl, AR.cons ⟨_, l, rfl⟩ AR.nil⟩
theorem lib_sorted {fi : FuncId} (hk : ∀ (Bm b nn : Nat) (D0 : DataW Unit) (w : World), Bm < w.heap.size → w.cell? ⟨Bm, 0, none⟩ = some (.map (some b)) → w.ownsMap Tryz.prog 9 noRead b nn D0 →
      SeqGives Fence.wide 2 Tryz.prog fi #[.pointer (some ⟨Bm, 0, none⟩)] encStr (fun ss => ss.Perm (strKeys D0)) (Maps.size D0) w)
    (hn : ∀ (Bm : Nat) (w : World), Bm < w.heap.size → w.cell? ⟨Bm, 0, none⟩ = some (.map none) → SeqGives Fence.wide 2 Tryz.prog fi #[.pointer (some ⟨Bm, 0, none⟩)] encStr (fun ss : List (List UInt8) => ss = []) 0 w)
    (hen : ∀ args w, (callFunc fi args).run Tryz.prog w = .ok (.enter fi args) w)
    (m : AV) (ks : List Str) (H : Hp) (k : Nat) (hm : mapIs H m ks) (hob : H.objs[k]? = some (.cells [m])) (hlen : ks.length ≤ 67108864) (hsz : ∀ x ∈ ks, x.length ≤ 9223372036854775807) :
    SF Tryz.prog W0 71 [.fn fi [.ref k 0]] H fun r H' => H' = H ∧ r = .sl 1 (strs (sortS ks)) .shut := by
  intro g w vs inv har
  obtain ⟨v, rfl, hv⟩ := AR.one har
  obtain ⟨cs, rfl, hcs⟩ := hv
  obtain ⟨p, q, h1, hp, h2⟩ := hcs
  cases h2
  obtain ⟨Bm, hl, rfl⟩ := hp
  have hcsv : cs = #[.pointer (some ⟨Bm, 0, none⟩)] := by rw [← Array.toArray_toList (xs := cs), h1]
  subst hcsv
  obtain ⟨b', mvs, T, hl', hpub, hfro, hh, hmv⟩ := inv.obj k _ hob
  rw [hl] at hl'; cases hl'
  obtain ⟨mv, r', e1, hmvr, e2⟩ := hmv
  cases e2
  have hcell : w.cell? ⟨Bm, 0, none⟩ = some mv := by
    rw [cell_row hh, ← Array.getElem?_toList, e1]; rfl
  have hBm : Bm < w.heap.size := cell_lt hcell
  have key : ∃ (S : List (List UInt8) → Prop) (N : Nat), SeqGives Fence.wide 2 Tryz.prog fi #[.pointer (some ⟨Bm, 0, none⟩)] encStr S N w ∧ N ≤ 67108864 ∧ ∀ ss, S ss → ss.Perm ks := by
    have owned : ∀ b es cl, w.heap[b]? = some (.map es cl) → KeysOf es cl ks → mv = .map (some b) → ∃ (S : List (List UInt8) → Prop) (N : Nat), SeqGives Fence.wide 2 Tryz.prog fi #[.pointer (some ⟨Bm, 0, none⟩)] encStr S N w ∧ N ≤ 67108864 ∧ ∀ ss, S ss → ss.Perm ks := by
      rintro b es cl hb hke rfl
      obtain ⟨D0, ho, hpm, hsz0⟩ := keys_own (g := g) hb hke hlen hsz
      exact ⟨_, _, hk Bm b _ D0 w hBm hcell ho, by rw [hsz0]; exact hlen, fun ss h => h.trans hpm⟩
    rcases hm with ⟨rfl, rfl⟩ | ⟨vs, rfl⟩ | ⟨r, vs, rfl, hor⟩
    · cases hmvr
      exact ⟨_, _, hn Bm w hBm hcell, Nat.zero_le _, fun ss h => by subst h; exact .refl _⟩
    · obtain ⟨b, es, cl, e, _, hb, hke, _⟩ := hmvr
      exact owned b es cl hb hke e
    · obtain ⟨b, hlb, e⟩ := hmvr
      obtain ⟨b2, es, cl, hlb2, _, _, hb, hke, _⟩ := inv.obj r _ hor
      rw [hlb] at hlb2; cases hlb2
      exact owned b es cl hb hke e
  obtain ⟨S, N, hseq, hN, hS⟩ := key
  have c := callsIn_wide.1 (AnyZ.sorted_in Tryz.sorted71 Fence.wide 5 trivial trivial trivial trivial rfl (by omega) (Tryz.sorts71 _) (enters_of Tryz.func110 (by kernel_rfl) rfl) fi #[.pointer (some ⟨Bm, 0, none⟩)] trivial hen S N (by simp [maxLen]; omega) (by omega) w hseq)
  refine c.mono ?_
  rintro e w' ⟨v, ss, rfl, hss, hrow, hnil, hb⟩
  have hsort : ss.mergeSort (fun x y => decide (x ≤ y)) = sortS ks := mergeSort_of_perm (hS ss hss)
  rw [hsort] at hrow
  have hlens : ss.length = (sortS ks).length := by rw [← hsort]; simp
  obtain ⟨hx, hrow⟩ := hrow
  rcases hrow with ⟨rfl, h0⟩ | ⟨nb, cap, cur, rfl, hbase, hnb, hncap, hcap, hcur, htake⟩
  · obtain ⟨i, ext⟩ := inv.below hb
    have : sortS ks = [] := List.eq_nil_of_length_eq_zero (by omega)
    exact ⟨_, g, .sl 1 (strs (sortS ks)) .shut, H, rfl, ⟨rfl, rfl⟩, ext, i, .inl ⟨by simp [this], trivial, rfl⟩⟩
  · obtain ⟨i, ext⟩ := inv.showNew hb (sortS ks).length hbase (heap_some_lt hnb)
    refine ⟨_, _, .sl 1 (strs (sortS ks)) .shut, H, rfl, ⟨rfl, rfl⟩, ext, i, .inr ⟨nb, 0, cap, ?_, ?_, trivial, ?_⟩⟩
    · rw [strs_len, hlens]
    · rw [strs_len, ← hlens]; exact hncap
    · refine ER_row hnb _ 0 (fun j e hj => ?_) ?_
      · rw [strs_get] at hj
        cases hx2 : (sortS ks)[j]? with
        | none => rw [hx2] at hj; cases hj
        | some x =>
          rw [hx2] at hj
          cases hj
          have hjl : j < (sortS ks).length := (List.getElem?_eq_some_iff.1 hx2).1
          refine ⟨.str x, strV x, rfl, ?_, rfl⟩
          have := congrArg (fun l => l[j]?) htake
          simp only [List.getElem?_map, hx2, Option.map_some] at this
          rw [List.getElem?_take, if_pos (by omega), Array.getElem?_toList] at this
          rw [Nat.zero_add, this]; rfl
      · simp [Gh.publish]
end Go.Av
namespace Go.Av
open Go.Proofs
open Go.RowKit (Below)
open Go.Maps Go.Sort
variable {W0 : World}
set_option maxRecDepth 10000
set_option maxHeartbeats 4000000
theorem ER_strs {g : Gh} {w : World} {b : Nat} : ∀ (l : List Str) (o : Nat), ER g w b 1 o (strs l) → ∀ (j : Nat) (x : Str), l[j]? = some x → w.cell? ⟨b, o + j, none⟩ = some (strV x)
  | [], _, _, j, x, h => by simp at h
  | s :: l, o, ⟨_, ⟨⟨v, hc, _, hv⟩, _⟩, he⟩, 0, x, h => by
    simp only [List.getElem?_cons_zero, Option.some.injEq] at h
    subst h
    cases hv
    exact hc
  | s :: l, o, ⟨_, _, he⟩, j + 1, x, h => by
    have := ER_strs l (o + 1) he j x (by simpa using h)
    rw [show o + (j + 1) = o + 1 + j from by omega]
    exact this
theorem lib112 (l : List Str) (own : Own) (H : Hp) (hl : l.length ≤ 67108864) (hj : (joinL l).length ≤ 67108864) : SF Tryz.prog W0 112 [.sl 1 (strs l) own, .str [46]] H fun r H' => H' = H ∧ r = .str (joinL l) := by
  refine SF.lib fun g w vs inv har => ?_
  obtain ⟨v, u, rfl, hv, hu⟩ := AR.two har
  cases hu
  have none_case : ∀ (a : Option Addr) (c : Nat), l = [] → Calls Tryz.prog 112 #[.slice a 0 c, strV [46]] w fun e w' => ∃ v, e = .returned v ∧ Below w.heap.size w w' ∧ VR g w (.str (joinL l)) v := by
    rintro a c rfl
    refine (Tryz.strings_Join_none a c ⟨[46].toArray⟩ w).mono ?_
    rintro e w' ⟨rfl, rfl⟩
    exact ⟨_, rfl, Below.refl _ _, by simp [VR, strV, joinL]⟩
  rcases hv with ⟨h0, _, rfl⟩ | ⟨b, o, cap, rfl, hcap, _, he⟩
  · exact none_case _ _ (by simpa using h0)
  · by_cases h0 : l = []
    · have e0 : (strs l).length = 0 := by simp [h0]
      rw [e0]
      exact none_case _ _ h0
    · rw [strs_len] at hcap ⊢
      have hlen : (l.map fun x => (⟨x.toArray⟩ : ByteArray)).length = l.length := by simp
      have hd : (l.map fun x => (⟨x.toArray⟩ : ByteArray)).map (·.data.toList) = l := by rw [List.map_map]; exact List.map_id l
      have hp : 0 < l.length := List.length_pos_iff.2 h0
      have c := Tryz.strings_Join b o cap (l.map fun x => (⟨x.toArray⟩ : ByteArray)) ⟨[46].toArray⟩ w (fun j x hx => by
        rw [List.getElem?_map] at hx
        cases hy : l[j]? with
        | none => rw [hy] at hx; cases hx
        | some y =>
          rw [hy] at hx
          cases hx
          exact ER_strs l o he j y hy) (cell_lt (ER_strs l o he 0 l[0] (List.getElem?_eq_getElem hp))) (by rw [hlen]; omega) (by rw [hlen]; exact hcap) (by rw [hd]; show (joinL l).length ≤ _; omega)
      rw [hlen, hd] at c
      refine c.mono ?_
      rintro e w' ⟨rfl, hb⟩
      exact ⟨_, rfl, hb, rfl⟩
theorem libOK (hB : Base W0) : LibOK W0 where
  u121 := lib121 hB
  u27 := lib27 hB
  u112 := lib112
  u72 := lib_keys fun mb W => ⟨82, callsIn_wide.1 (Tryz.maps_Keys_72 mb W)⟩
  u107 := lib_keys fun mb W => ⟨86, callsIn_wide.1 (Tryz.maps_Keys_107 mb W)⟩
  u71a := lib_sorted (fun Bm b nn D0 w h1 h2 h3 => AnyZ.keys_gives (ρ := Tryz.keys72_ren) { Tryz.keys72 with } Fence.wide _ trivial rfl (by omega) Bm b nn D0 _ h1 h2 h3) (fun Bm w h1 h2 => AnyZ.keys_gives_nil (ρ := Tryz.keys72_ren) { Tryz.keys72 with } Fence.wide _ trivial rfl Bm _ h1 h2) (enters_of Tryz.func111 (by kernel_rfl) rfl)
  u71b := lib_sorted (fun Bm b nn D0 w h1 h2 h3 => AnyZ.keys_gives (ρ := Tryz.keys107_ren) { Tryz.keys107 with } Fence.wide _ trivial rfl (by omega) Bm b nn D0 _ h1 h2 h3) (fun Bm w h1 h2 => AnyZ.keys_gives_nil (ρ := Tryz.keys107_ren) { Tryz.keys107 with } Fence.wide _ trivial rfl Bm _ h1 h2) (enters_of Tryz.func149 (by kernel_rfl) rfl)
end Go.Av
namespace Go.Av
def planPre (ops : Array Oper) (late : List Nat) : List (Nat × Bool) → Array Bool → Bool
  | [], _ => true
  | (i, tk) :: p, listed =>
    (match ops[i]? with
      | none => false
      | some o =>
        if tk then fixOp o.op && Region.free .any ops listed i && (Region.ready .any ops listed).contains i && !late.contains i
        else Region.ready .any ops listed == [i]) &&
    planPre ops late p (listed.setIfInBounds i true)
def after : List (Nat × Bool) → Array Bool → Array Bool
  | [], listed => listed
  | (i, _) :: p, listed => after p (listed.setIfInBounds i true)
def AW (P : Program) (W0 : World) (ops : Array Oper) (late : List Nat) (H0 : Hp) (Q : Exit → St → Prop) (listed : Array Bool) (n : Nat) (st : St) : Prop :=
  listed.size = ops.size → Closed ops listed → Early late H0 listed st.H → AAny P W0 (Early late H0) ops Q n listed st
section
variable {P : Program} {T : Tab} {mu : TypeId → Bool} {W0 : World} {ops : Array Oper} {late : List Nat} {H0 : Hp} {Q : Exit → St → Prop}
theorem ADr.anyK {n : Nat} (hT : TabOK P T) (hs : Region.noSelect ops = true) : ∀ (p : List (Nat × Bool)) (listed : Array Bool) (st : St), listed.size = ops.size → Closed ops listed → Early late H0 listed st.H →
    planPre ops late p listed = true → ADr P W0 T mu ops late H0 (fun _ st => AW P W0 ops late H0 Q (after p listed) n st) p st → AAny P W0 (Early late H0) ops Q (p.length + n) listed st
  | [], listed, st, hsz, hcl, hE, hp, h => by rw [List.length_nil, Nat.zero_add]; exact h hsz hcl hE
  | (i, tk) :: p, listed, st, hsz, hcl, hE, hp, ⟨o, ho, h⟩ => by
    simp only [planPre, ho, Bool.and_eq_true] at hp
    obtain ⟨hp1, hp2⟩ := hp
    rw [show (((i, tk) :: p).length + n) = (p.length + n) + 1 from by simp only [List.length_cons]; omega]
    have hilt : i < listed.size := by rw [hsz]; exact (Array.getElem?_eq_some_iff.1 ho).1
    have hsz' : (listed.setIfInBounds i true).size = ops.size := by simpa using hsz
    have early : ∀ H', (late.contains i = true ∨ H' = H0) → Early late H0 (listed.setIfInBounds i true) H' := by
      rintro H' (hl | rfl)
      · exact .inl (List.any_eq_true.2 ⟨i, List.contains_iff_mem.1 hl, by simp [hilt]⟩)
      · exact .inr rfl
    cases tk with
    | true =>
      rcases h with ⟨H', y, hstep, hl, hset, h⟩ | ⟨hf, _⟩
      · simp only [if_true, Bool.and_eq_true, Bool.not_eq_true'] at hp1
        obtain ⟨⟨⟨hfix, hfree⟩, hready⟩, hnl⟩ := hp1
        obtain ⟨e1, hx⟩ := fix_step hfix hstep
        subst e1
        have hH : st.H = H0 := hl.resolve_left (by rw [hnl]; simp)
        have hrd : i ∈ Region.ready .any ops listed := by simpa using hready
        refine aany_take hT hs ho (by rw [hfree, hready]; rfl) (Early.set hnl) hcl hE hx ?_ ?_
        · intro listed' H hcl' hu hI
          rcases hset rfl with hall | hall
          · have : H = H0 := hI.resolve_left fun hlj => by
              obtain ⟨j, hj, hlj⟩ := List.any_eq_true.1 hlj
              have h2 := waits_listed hcl' i 2 j (List.all_eq_true.1 hall j hj) hlj
              rcases Nat.lt_or_ge i listed'.size with q | q
              · simp [q] at h2 hu; rw [h2] at hu; cases hu
              · simp [Array.getElem?_eq_none q] at h2
            subst this
            rw [withH hH]; exact hx
          · exact (fix_step hfix (hall H)).2
        · exact ADr.anyK hT hs p _ _ hsz' (hcl.set hrd) (by rw [put_H]; exact (Early.set hnl _ _).2 hE) hp2 (by rwa [withH rfl] at h)
      · cases hf
    | false =>
      simp only [Bool.false_eq_true, if_false, beq_iff_eq] at hp1
      have hrd : i ∈ Region.ready .any ops listed := by rw [hp1]; simp
      refine aany_one ho hp1 ?_
      rcases h with ⟨H', y, hstep, hl, _, h⟩ | ⟨_, h⟩
      · exact aeff_step hT hstep ⟨early H' hl, ADr.anyK hT hs p _ _ hsz' (hcl.set hrd) (by rw [put_H]; exact early H' hl) hp2 h⟩
      · exact h.mono fun H' y ⟨hl, h⟩ => ⟨early H' hl, ADr.anyK hT hs p _ _ hsz' (hcl.set hrd) (by rw [put_H]; exact early H' hl) hp2 h⟩
theorem cutIf {st : St} (id : Nat) {l : Array Oper} {b : Bool} {c : Operand} {x y : Code} (T : St → Prop) (h : AWP P W0 (.seq (.region id l b) (.cond c x y)) st (fun e s => e = .normal ∧ T s)) (k : ∀ s, T s → Q .normal s) : AWP P W0 (.seq (.region id l b) (.cond c x y)) st Q :=
  h.mono fun _ _ ⟨e, t⟩ => e ▸ k _ t
theorem awp_drawK {id : Nat} {l : List Oper} {st : St} (plan : List (Nat × Bool)) (late : List Nat) (hT : TabOK P T) (hm : P.follows .mixedOrders = true)
    (hchk : (Region.noSelect l.toArray && planPre l.toArray late plan (Array.replicate l.length false)) = true) (n : Nat) (hn : plan.length + n = l.length)
    (h : ADr P W0 T mu l.toArray late st.H (fun _ st' => AW P W0 l.toArray late st.H Q (after plan (Array.replicate l.length false)) n st') plan st) : AWP P W0 (.region id l.toArray true) st Q := by
  simp only [Bool.and_eq_true] at hchk
  refine awp_region_any (I := Early late st.H) hm ?_
  have := ADr.anyK hT hchk.1 plan (Array.replicate l.length false) st (by simp) (fun j oj _ hl => by
    rcases Nat.lt_or_ge j l.length with q | q
    · simp [q] at hl
    · simp [Array.getElem?_eq_none, q] at hl) (.inr rfl) hchk.2 h
  rwa [hn] at this
theorem aw_done {n : Nat} {listed : Array Bool} {st : St} (h : Q .normal st) (hr : Region.ready .any ops listed = []) : AW P W0 ops late H0 Q listed n st :=
  fun _ _ _ => aany_done hr h
theorem aw_next {i : Nat} {n : Nat} {listed : Array Bool} {st : St} {o : Oper} (hi : ops[i]? = some o) (hr : i ∈ Region.ready .any ops listed) (hl : late.contains i = true)
    (h : AEff P W0 ops o st fun H' y => AW P W0 ops late H0 Q (listed.setIfInBounds i true) n (St.put { st with H := H' } o.dst y)) :
    listed.size = ops.size → Closed ops listed → Early late H0 listed st.H → AEff P W0 ops o st fun H' y => Early late H0 (listed.setIfInBounds i true) H' ∧ AAny P W0 (Early late H0) ops Q n (listed.setIfInBounds i true) (St.put { st with H := H' } o.dst y) := by
  intro hsz hcl _
  have hilt : i < listed.size := by rw [hsz]; exact (Array.getElem?_eq_some_iff.1 hi).1
  have early : ∀ H', Early late H0 (listed.setIfInBounds i true) H' := fun H' => .inl (List.any_eq_true.2 ⟨i, List.contains_iff_mem.1 hl, by simp [hilt]⟩)
  exact h.mono fun H' y q => ⟨early H', q (by simpa using hsz) (hcl.set hr) (by rw [put_H]; exact early H')⟩
theorem aw_one {i : Nat} {n : Nat} {listed : Array Bool} {st : St} {o : Oper} (hi : ops[i]? = some o) (hr : Region.ready .any ops listed = [i]) (hl : late.contains i = true)
    (h : AEff P W0 ops o st fun H' y => AW P W0 ops late H0 Q (listed.setIfInBounds i true) n (St.put { st with H := H' } o.dst y)) : AW P W0 ops late H0 Q listed (n + 1) st :=
  fun hsz hcl hE => aany_one hi hr (aw_next hi (by rw [hr]; simp) hl h hsz hcl hE)
theorem aw_many {is : List Nat} {n : Nat} {listed : Array Bool} {st : St} (hr : Region.ready .any ops listed = is) (hl : (is.all fun i => late.contains i) = true)
    (h : ∀ i ∈ is, ∀ o, ops[i]? = some o → AEff P W0 ops o st fun H' y => AW P W0 ops late H0 Q (listed.setIfInBounds i true) n (St.put { st with H := H' } o.dst y)) (hne : is.isEmpty = false) : AW P W0 ops late H0 Q listed (n + 1) st := by
  intro hsz hcl hE
  exact ⟨fun h0 => (by rw [hr] at h0; rw [h0] at hne; cases hne), fun i hi o ho => aw_next ho hi (List.all_eq_true.1 hl i (by rw [← hr]; exact hi)) (h i (by rw [← hr]; exact hi) o ho) hsz hcl hE⟩
theorem aw_two {i j : Nat} {oi oj : Oper} {n : Nat} {listed : Array Bool} {st : St} (hi : ops[i]? = some oi) (hj : ops[j]? = some oj) (hr : Region.ready .any ops listed = [i, j]) (hl : ([i, j].all fun i => late.contains i) = true)
    (h : AEff P W0 ops oi st fun H' y => AW P W0 ops late H0 Q (listed.setIfInBounds i true) n (St.put { st with H := H' } oi.dst y))
    (k : AEff P W0 ops oj st fun H' y => AW P W0 ops late H0 Q (listed.setIfInBounds j true) n (St.put { st with H := H' } oj.dst y)) : AW P W0 ops late H0 Q listed (n + 1) st := by
  refine aw_many hr hl (fun l hl o ho => ?_) rfl
  simp only [List.mem_cons, List.not_mem_nil, or_false] at hl
  rcases hl with rfl | rfl
  · rw [hi] at ho; cases ho; exact h
  · rw [hj] at ho; cases ho; exact k
theorem aw_fn {st : St} {o : Oper} {c : Call} {f : FuncId} {args : List AV} {K : Hp → AV → Prop} (ho : o.op = .call c) (hc : c.callee = .value (.func f)) (hg : o.guard = none) (hen : enters P f) (ha : c.args.toList.map st.eval = args)
    (h : SF P W0 f args st.H fun r H' => K H' r) : AEff P W0 ops o st K :=
  aeff_call (by simp [wantA, hg]) ho hc (f := f) (caps := []) rfl hen (by rw [List.append_nil, ha]; exact h)
def Goes (P : Program) (W0 : World) (ops : Array Oper) (i : Nat) (st st' : St) : Prop := ∃ o, ops[i]? = some o ∧ ∀ K : St → Prop, K st' → AEff P W0 ops o st fun H' y => K (St.put { st with H := H' } o.dst y)
theorem goes_run {ops : Array Oper} {i : Nat} {st st' : St} (hT : TabOK P T) (h : runD T mu ops [(i, false)] st = some st') : Goes P W0 ops i st st' := by
  obtain ⟨o, H', y, ho, hs, h2⟩ := runD_step h
  cases h2
  exact ⟨o, ho, fun K k => aeff_step hT hs k⟩
theorem goes_fn {ops : Array Oper} {i : Nat} {o : Oper} {st st' : St} {c : Call} {f : FuncId} {args : List AV} {v : AV} (ho : ops[i]? = some o) (hop : o.op = .call c) (hc : c.callee = .value (.func f)) (hg : o.guard = none) (hen : enters P f) (ha : c.args.toList.map st.eval = args)
    (h : SF P W0 f args st.H fun r H' => H' = st.H ∧ r = v) (hput : St.put st o.dst v = st') : Goes P W0 ops i st st' :=
  ⟨o, ho, fun K k => aw_fn hop hc hg hen ha (h.mono (by rintro r H' ⟨rfl, rfl⟩; rw [show ({ st with H := st.H } : St) = st from rfl, hput]; exact k))⟩
theorem ag_one {i : Nat} {n : Nat} {listed : Array Bool} {st st' : St} (hr : Region.ready .any ops listed = [i]) (hl : late.contains i = true) (h : Goes P W0 ops i st st') (k : AW P W0 ops late H0 Q (listed.setIfInBounds i true) n st') : AW P W0 ops late H0 Q listed (n + 1) st := by
  obtain ⟨o, ho, h⟩ := h
  exact aw_one ho hr hl (h _ k)
theorem ag_two {i j : Nat} {n : Nat} {listed : Array Bool} {st st1 st2 : St} (hr : Region.ready .any ops listed = [i, j]) (hl : ([i, j].all fun i => late.contains i) = true) (h1 : Goes P W0 ops i st st1) (h2 : Goes P W0 ops j st st2)
    (k1 : AW P W0 ops late H0 Q (listed.setIfInBounds i true) n st1) (k2 : AW P W0 ops late H0 Q (listed.setIfInBounds j true) n st2) : AW P W0 ops late H0 Q listed (n + 1) st := by
  obtain ⟨o1, ho1, h1⟩ := h1
  obtain ⟨o2, ho2, h2⟩ := h2
  exact aw_two ho1 ho2 hr hl (h1 _ k1) (h2 _ k2)
theorem ag_three {i j k : Nat} {n : Nat} {listed : Array Bool} {st st1 st2 st3 : St} (hr : Region.ready .any ops listed = [i, j, k]) (hl : ([i, j, k].all fun i => late.contains i) = true) (h1 : Goes P W0 ops i st st1) (h2 : Goes P W0 ops j st st2) (h3 : Goes P W0 ops k st st3)
    (k1 : AW P W0 ops late H0 Q (listed.setIfInBounds i true) n st1) (k2 : AW P W0 ops late H0 Q (listed.setIfInBounds j true) n st2) (k3 : AW P W0 ops late H0 Q (listed.setIfInBounds k true) n st3) : AW P W0 ops late H0 Q listed (n + 1) st := by
  obtain ⟨o1, ho1, h1⟩ := h1
  obtain ⟨o2, ho2, h2⟩ := h2
  obtain ⟨o3, ho3, h3⟩ := h3
  refine aw_many hr hl (fun l hl o ho => ?_) rfl
  simp only [List.mem_cons, List.not_mem_nil, or_false] at hl
  rcases hl with rfl | rfl | rfl
  · rw [ho1] at ho; cases ho; exact h1 _ k1
  · rw [ho2] at ho; cases ho; exact h2 _ k2
  · rw [ho3] at ho; cases ho; exact h3 _ k3
theorem ag_plan {n : Nat} {listed : Array Bool} {st : St} (p : List (Nat × Bool)) (hT : TabOK P T) (hs : (Region.noSelect ops && planPre ops late p listed) = true) (h : ADr P W0 T mu ops late H0 (fun _ st => AW P W0 ops late H0 Q (after p listed) n st) p st) : AW P W0 ops late H0 Q listed (p.length + n) st := by
  rw [Bool.and_eq_true] at hs
  exact fun hsz hcl hE => ADr.anyK hT hs.1 p listed st hsz hcl hE hs.2 h
end
end Go.Av
namespace Go.Av
structure RowM where
  cat : Int
  kind : Int
  nm : Str
  mrk : Str
  lo : Int
  hi : Int
  kids : Str
def RowM.av (r : RowM) : List AV := [.int .i64 r.cat, .int .i64 r.kind, .str r.nm, .str r.mrk, .int .i64 r.lo, .int .i64 r.hi, .str r.kids]
def rowsL : List RowM := [
  ⟨1, 1, [], [], 0, 0, []⟩,
  ⟨1, 2, [], [], 0, 0, []⟩,
  ⟨1, 3, [], [], 0, 0, []⟩,
  ⟨1, 4, [108], [], 0, 0, []⟩,
  ⟨1, 5, [], [], 0, 0, [116, 116]⟩,
  ⟨1, 6, [], [], 0, 0, [116, 116]⟩,
  ⟨1, 7, [110], [], 0, 0, [67]⟩,
  ⟨2, 20, [], [], -1073741824, 1073741824, []⟩,
  ⟨2, 21, [], [], 0, 1, []⟩,
  ⟨2, 22, [], [], 0, 0, []⟩,
  ⟨2, 23, [108], [], 0, 0, []⟩,
  ⟨2, 24, [110], [], 0, 0, [116, 101]⟩,
  ⟨2, 25, [], [], 0, 0, [101, 101]⟩,
  ⟨2, 26, [], [], 0, 0, [101, 101]⟩,
  ⟨2, 27, [], [], 0, 0, [101]⟩,
  ⟨2, 28, [], [], 0, 0, [101]⟩,
  ⟨2, 29, [110], [], 0, 0, [101, 101]⟩,
  ⟨2, 30, [], [], 0, 0, [101, 101, 101]⟩,
  ⟨2, 31, [], [], 1, 5, [101, 101]⟩,
  ⟨2, 32, [], [], 0, 0, [101, 65]⟩,
  ⟨2, 33, [], [], 0, 0, [101, 116, 65]⟩,
  ⟨3, 40, [], [], 0, 0, [42, 105]⟩,
  ⟨3, 41, [108], [], 0, 0, []⟩,
  ⟨3, 42, [110], [], 0, 0, [109]⟩,
  ⟨3, 43, [], [], 0, 1, [109, 115]⟩,
  ⟨4, 50, [], [], 0, 0, [42, 112]⟩,
  ⟨4, 51, [110], [], 0, 0, []⟩,
  ⟨4, 52, [108], [], 0, 0, [115, 116]⟩,
  ⟨5, 60, [110], [], 0, 0, [116]⟩,
  ⟨5, 61, [110], [], 0, 0, [116]⟩,
  ⟨5, 61, [110], [], 0, 0, []⟩,
  ⟨5, 62, [110], [], 0, 0, [67]⟩,
  ⟨5, 63, [110], [], 0, 0, [115]⟩,
  ⟨5, 64, [], [], 0, 0, [115]⟩,
  ⟨5, 65, [108], [108], 0, 0, []⟩,
  ⟨6, 70, [110], [], 0, 0, [101]⟩,
  ⟨6, 70, [110], [], 0, 0, [116, 101]⟩,
  ⟨6, 71, [110], [], 0, 0, [116]⟩,
  ⟨6, 72, [110], [], 0, 0, [67]⟩,
  ⟨6, 73, [110], [], 0, 0, [109]⟩,
  ⟨6, 74, [110], [], 0, 0, [115]⟩,
  ⟨6, 75, [110], [110], 0, 0, [115, 109]⟩,
  ⟨6, 76, [108], [], 0, 0, []⟩,
  ⟨6, 77, [108], [], 0, 0, []⟩,
  ⟨7, 80, [], [], 0, 0, [42, 100]⟩,
  ⟨8, 8, [110], [], 0, 0, [116]⟩,
  ⟨9, 34, [110], [110], 0, 0, [101]⟩]
def wordB (s what : Str) : Bool := if what = [110] then checkB s else if what = [108] then longB s else decide (s = [])
def catB (c : UInt8) : Int := if c = 116 then 1 else if c = 101 then 2 else if c = 109 then 3 else if c = 115 then 4 else if c = 112 then 5 else 6
def Tr.kind : Tr → Int
  | .none => 0
  | .node k _ _ _ _ => k
def Tr.name : Tr → Str
  | .none => []
  | .node _ _ a _ _ => a
def distinctB : List Str → Bool
  | [] => true
  | x :: l => !l.contains x && distinctB l
def innerB (w : Str) (t : Tr) : Bool := !(w.head? == some 105 && (t.kind == 74 || t.kind == 75))
def headC (w : Str) : UInt8 := w.headD 0
mutual
def isB : Tr → Int → Bool
  | .none, _ => false
  | .node k n a b l, c => rowsL.any fun r => r.cat == c && (r.kind == k && (wordB a r.nm && (wordB b r.mrk && (decide (r.lo ≤ n) && (decide (n ≤ r.hi) && kidsB l r.kids)))))
def kidsB : List Tr → Str → Bool
  | [], w => w == [] || w.head? == some 42
  | t :: l, [] => false
  | t :: l, c :: w =>
    if c = 42 then isB t (catB (headC w)) && innerB w t && starB l w
    else if c = 67 then isB t 8 && allB l 8 && distinctB ((t :: l).map Tr.name)
    else if c = 65 then isB t 9 && allB l 9
    else isB t (catB c) && kidsB l w
def starB : List Tr → Str → Bool
  | [], _ => true
  | t :: l, w => isB t (catB (headC w)) && innerB w t && starB l w
def allB : List Tr → Int → Bool
  | [], _ => true
  | t :: l, c => isB t c && allB l c
end
mutual
def Tr.neat : Tr → Prop
  | .none => True
  | .node _ _ a b l => a.length ≤ 67108863 ∧ b.length ≤ 67108863 ∧ l.length ≤ 67108864 ∧ Tr.neats l
def Tr.neats : List Tr → Prop
  | [] => True
  | t :: l => t.neat ∧ Tr.neats l
end
mutual
theorem Tr.slim_of_neat : ∀ t : Tr, t.neat → t.slim
  | .none, _ => trivial
  | .node _ _ _ _ l, h => ⟨h.2.2.1, Tr.slims_of_neats l h.2.2.2⟩
theorem Tr.slims_of_neats : ∀ l : List Tr, Tr.neats l → Tr.slims l
  | [], _ => trivial
  | t :: l, h => ⟨Tr.slim_of_neat t h.1, Tr.slims_of_neats l h.2⟩
end
theorem allB_all (l : List Tr) (c : Int) : allB l c = l.all fun t => isB t c := by
  induction l with
  | nil => simp [allB]
  | cons t l ih => simp [allB, ih]
theorem starB_all (l : List Tr) (w : Str) : starB l w = l.all fun t => isB t (catB (headC w)) && innerB w t := by
  induction l with
  | nil => simp [starB]
  | cons t l ih => simp [starB, ih]
end Go.Av
namespace Go.Av
open Go.Proofs
variable {W0 : World} {N : Nat}
set_option maxRecDepth 10000
set_option maxHeartbeats 4000000
def rowsAV : List (List AV) := rowsL.map RowM.av
@[simp] theorem rows_cln (n m : Nat) : clnLL n m rowsAV = rowsAV := clnLL_map (fun _ _ _ => by simp [RowM.av]) n m rowsL
theorem awp_runK {P : Program} {T : Tab} {mu : TypeId → Bool} {id : Nat} {l : List Oper} {st : St} {c2 : Code} {Q : Exit → St → Prop} (d : Nat) (v : AV) (hT : TabOK P T)
    (h : (runA T mu l.toArray l st).map (fun s => (s.n, look s.env d, s.H)) = some (st.n, v, st.H)) (k : AWP P W0 c2 ⟨st.n, [(d, v)], st.H⟩ Q) :
    AWP P W0 (.region id l.toArray false) st (thenA (fun s => AWP P W0 c2 s Q) Q) := by
  cases hs : runA T mu l.toArray l st with
  | none => rw [hs] at h; cases h
  | some s =>
    rw [hs] at h
    simp only [Option.map_some, Option.some.injEq, Prod.mk.injEq] at h
    obtain ⟨h1, h2, h3⟩ := h
    exact awp_run hT hs (show thenA _ _ .normal s from awp_sub (t := ⟨st.n, [(d, v)], st.H⟩) ⟨h1.symm, h3.symm, only_cons (by rw [h2]; exact .refl _) only_nil⟩ k)
def Tr.good (t : Tr) : Prop := t.neat ∧ t.hole = false
def Tr.goods (l : List Tr) : Prop := l.length ≤ 67108864 ∧ ∀ t ∈ l, t.good
theorem holes_mem : ∀ {l : List Tr}, Tr.holes l = false → ∀ t ∈ l, t.hole = false
  | t :: l, h, x, hx => by
    simp only [Tr.holes, Bool.or_eq_false_iff] at h
    rcases List.mem_cons.1 hx with rfl | hx
    · exact h.1
    · exact holes_mem h.2 x hx
theorem neats_mem : ∀ {l : List Tr}, Tr.neats l → ∀ t ∈ l, t.neat
  | t :: l, h, x, hx => by
    rcases List.mem_cons.1 hx with rfl | hx
    · exact h.1
    · exact neats_mem h.2 x hx
theorem Tr.good_kids {k n : Int} {a b : Str} {l : List Tr} (h : (Tr.node k n a b l).good) : Tr.goods l :=
  ⟨h.1.2.2.1, fun t ht => ⟨neats_mem h.1.2.2.2 t ht, holes_mem h.2 t ht⟩⟩
theorem good_node {t : Tr} (h : t.good) : ∃ k n a b l, t = .node k n a b l := by
  cases t with
  | none => exact absurd h.2 (by simp [Tr.hole])
  | node k n a b l => exact ⟨k, n, a, b, l, rfl⟩
theorem kidsB_star (l : List Tr) (w : Str) : kidsB l (42 :: w) = l.all fun t => isB t (catB (headC w)) && innerB w t := by
  cases l with
  | nil => simp [kidsB]
  | cons t l => simp [kidsB, starB_all]
theorem kidsB_C (l : List Tr) (w : Str) : kidsB l (67 :: w) = (decide (l ≠ []) && (l.all (fun t => isB t 8) && distinctB (l.map Tr.name))) := by
  cases l with
  | nil => simp [kidsB]
  | cons t l => simp [kidsB, allB_all, Bool.and_assoc]
theorem kidsB_A (l : List Tr) (w : Str) : kidsB l (65 :: w) = (decide (l ≠ []) && l.all fun t => isB t 9) := by
  cases l with
  | nil => simp [kidsB]
  | cons t l => simp [kidsB, allB_all]
end Go.Av
namespace Go.Av
open Go.Proofs
variable {W0 : World} {N : Nat}
set_option maxRecDepth 10000
set_option maxHeartbeats 4000000
theorem distinct_nodup : ∀ l : List Str, distinctB l = true ↔ l.Nodup
  | [] => by simp [distinctB]
  | x :: l => by simp [distinctB, distinct_nodup l]
theorem map_take_succ (l : List Tr) (i : Nat) (h : i < l.length) : (l.take (i + 1)).map Tr.name = (l.take i).map Tr.name ++ [(l[i]).name] := by
  rw [List.take_add_one, List.getElem?_eq_getElem h, List.map_append]; rfl
end Go.Av
namespace Go.Av
open Go.Proofs
variable {W0 : World}
set_option maxRecDepth 10000
set_option maxHeartbeats 4000000
def fitB (k n c : Int) (a b : Str) (l : List Tr) (r : RowM) : Bool := r.cat == c && (r.kind == k && (wordB a r.nm && (wordB b r.mrk && (decide (r.lo ≤ n) && (decide (n ≤ r.hi) && kidsB l r.kids)))))
end Go.Av
