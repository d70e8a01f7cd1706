/-
  Go read by value: lemmas (part 36): D55.
-/
import Derived.Scope
import Derived.Test.YtdeocbficanfaaaGreatDoorX35
set_option linter.unusedVariables false
set_option linter.unusedSimpArgs false
set_option linter.unusedSectionVars false
namespace Go.Av
open Go.Proofs
variable {W0 : World}
set_option maxRecDepth 10000
set_option maxHeartbeats 4000000
theorem awp_scope {P : Program} {st : St} {Q : Exit → St → Prop} {c : Code} (hg : ∀ l st, Q (.goto l) st → False) (h : AWP P W0 c st Q) : AWP P W0 (.scope c) st Q :=
  fun g w a r => wp_scope_straight (wp_mono (h g w a r) fun e _ _ q => match e, q with
    | .normal, q => q
    | .exit _, q => q
    | .ret, q => q
    | .panic _, q => q
    | .outgrown, q => q
    | .goto _, ⟨_, _, q, _⟩ => (hg _ _ q).elim)
theorem awp_label {P : Program} {st : St} {Q : Exit → St → Prop} {l : Nat} (h : Q .normal st) : AWP P W0 (.label l) st Q :=
  fun g w _ r => wp_label ⟨g, st, h, .refl _ _, r⟩
def bls (l : List Bool) : List AV := l.map .bool
@[simp] theorem bls_len (l : List Bool) : (bls l).length = l.length := by simp [bls]
theorem bls_drop (l : List Bool) (i : Nat) (h : i < l.length) : (bls l).drop i = .bool l[i] :: (bls l).drop (i + 1) := by simp only [bls, ← List.map_drop]; rw [List.drop_eq_getElem_cons h]; rfl
theorem bls_set (l : List Bool) (i : Nat) (b : Bool) (h : i < l.length) : (bls l).take i ++ .bool b :: (bls l).drop (i + 1) = bls (l.set i b) := by
  simp [bls, List.set_eq_take_append_cons_drop, h]
theorem Gr.get {H0 H : Hp} (g : Gr H0 H) {r : Nat} (h : r < H0.objs.length) : H.objs[r]? = H0.objs[r]? := by
  have := congrArg (fun l => l[r]?) g.objs
  simpa [List.getElem?_take, h] using this
theorem pickI_drop {f : Lk → Bool} {l : List Lk} {us : List Bool} (hl : us.length = l.length) {i : Nat} (h : i < l.length) (h2 : i < us.length) :
    pickI f (l.drop i) (us.drop i) i = if !us[i] && f l[i] then some i else pickI f (l.drop (i + 1)) (us.drop (i + 1)) (i + 1) := by
  rw [List.drop_eq_getElem_cons h, List.drop_eq_getElem_cons h2]; rfl
theorem agreeU_drop {S : Lk → Lk → Bool} {old now : List Lk} {us : List Bool} {j : Nat} (h : j < now.length) :
    agreeU S old (now.drop j) us = match pickI (fun o => S o now[j]) old us 0 with | none => false | some i => agreeU S old (now.drop (j + 1)) (us.set i true) := by
  rw [List.drop_eq_getElem_cons h]; rfl
theorem sf17 {ps : List Pr} {old now : List Lk} {o1 o2 o3 : Own} {H : Hp} (hp : PrOK ps) (ho : old.length ≤ 67108863 ∧ ∀ k ∈ old, LkOK k) (hn : now.length ≤ 67108863 ∧ ∀ k ∈ now, LkOK k) :
    SF Tryz.prog W0 17 [.sl 5 (lks old) o1, .sl 5 (lks now) o2, .sl 2 (prs ps) o3] H fun r H' => H' = H ∧ r = .bool (agreeB ps old now) := by
  refine SF.pureLe (sf_start [6] 49 Tryz.func17 rfl rfl rfl (by decide) (by simp) ?_)
  have hle : ((now.length : Nat) : Int) ≤ 268435455 := by omega
  by_cases hlen : old.length = now.length
  · rw [agreeB, decide_eq_true hlen, Bool.true_and]
    obtain ⟨res, hres⟩ : ∃ res, agreeU (sameB ps) old now (List.replicate old.length false) = res := ⟨_, rfl⟩
    rw [hres]
    repeat' first
      | refine awp_scope (fun _ _ h => h) ?_
      | refine awp_label ?_
      | refine aSq ?_ | refine aRt ?_ | refine aSk ?_ | refine aEx ?_ | refine aBl ?_ | refine tN ?_ | refine tR ?_ | refine tE ?_ | refine iR ?_
      | (refine rg 10 ?_
         refine aops_take 5 (mu := mu0) tab_ok (by simp (disch := omega) [makeA, hle, hlen]; with_reducible rfl) ?_
         first | (refine aops_test (mu := mu0) tab_ok (by simp (disch := omega) [makeA, hle, hlen]; with_reducible rfl) rfl (fun hb => ?_) (fun hb => ?_) <;> (try simp at hb) <;> try (exfalso; omega)) | (refine aops_take 1 (mu := mu0) tab_ok (by simp (disch := omega) [makeA, hle, hlen]; with_reducible rfl) ?_)
         all_goals (refine aops_take 3 (mu := mu0) tab_ok (by simp (disch := omega) [makeA, hle, hlen]; with_reducible rfl) ?_
                    first | (refine fg en28 ?_; refine SF.then (sf28 ..) ?_) | (refine aops_take 1 (mu := mu0) tab_ok (by simp (disch := omega) [makeA, hle, hlen]; with_reducible rfl) ?_)
                    refine aops_take 1 (mu := mu0) tab_ok (by simp (disch := omega) [makeA, hle, hlen]; with_reducible rfl) ?_
                    refine dn ?_))
      | (refine awp_run (mu := mu0) tab_ok (by simp (disch := omega) [makeA, hle, hlen]; with_reducible rfl) ?_)
      | (refine awp_if rfl (fun hb => ?_) (fun hb => ?_) <;> (try simp at hb) <;> try (exfalso; omega))
      | refine inN ?_
    refine awp_loop_inv (fun q st => ∃ (j : Nat) (us : List Bool) (Hc : Hp), q = now.length - j ∧ j ≤ now.length ∧ us.length = old.length ∧ agreeU (sameB ps) old (now.drop j) us = res ∧ Gr H Hc ∧ Hc.objs[H.objs.length]? = some (.cells (bls us)) ∧
      Sub st ⟨49, [(0, .sl 5 (lks old) o1), (1, .sl 5 (lks now) o2), (2, .sl 2 (prs ps) o3), (7, .osl H.objs.length now.length), (20, .sl 5 (lks now) o2), (21, .int .i64 now.length), (22, .int .i64 j)], Hc⟩) now.length
      ⟨0, List.replicate old.length false, ⟨H.objs ++ [.cells (bls (List.replicate old.length false))], H.hi⟩, by simp, by simp, by simp, hres, (Gr.refl H).obj _, by simp, sb (hH := by simp [bls, hlen])⟩ ?_
    clear hres
    rintro q st ⟨j, us, Hc, rfl, hj, hul, hag, hg, hob, hs2⟩
    refine awp_sub hs2 ?_
    clear hs2 st
    have hr0 : H.objs.length < Hc.objs.length := obj_lt hob
    have hob2 : ∀ x, (Hc.objs ++ x)[H.objs.length]? = some (.cells (bls us)) := fun x => by rw [List.getElem?_append_left hr0]; exact hob
    repeat' first
      | refine aSq ?_ | refine aRt ?_ | refine aSk ?_ | refine aEx ?_ | refine aBl ?_ | refine tN ?_ | refine tR ?_ | refine tE ?_ | refine iR ?_
      | (refine rg 10 ?_
         refine aops_take 5 (mu := mu0) tab_ok (by simp (disch := omega) [hob2]; with_reducible rfl) ?_
         first | (refine aops_test (mu := mu0) tab_ok (by simp (disch := omega) [hob2]; with_reducible rfl) rfl (fun hb => ?_) (fun hb => ?_) <;> (try simp at hb) <;> try (exfalso; omega)) | (refine aops_take 1 (mu := mu0) tab_ok (by simp (disch := omega) [hob2]; with_reducible rfl) ?_)
         all_goals (refine aops_take 3 (mu := mu0) tab_ok (by simp (disch := omega) [hob2]; with_reducible rfl) ?_
                    first | (refine fg en28 ?_; refine SF.then (sf28 ..) ?_) | (refine aops_take 1 (mu := mu0) tab_ok (by simp (disch := omega) [hob2]; with_reducible rfl) ?_)
                    refine aops_take 1 (mu := mu0) tab_ok (by simp (disch := omega) [hob2]; with_reducible rfl) ?_
                    refine dn ?_))
      | (fail)
      | (refine awp_run (mu := mu0) tab_ok (by simp (disch := omega) [hob2]; with_reducible rfl) ?_)
      | (refine awp_if rfl (fun hb => ?_) (fun hb => ?_) <;> (try simp at hb) <;> try (exfalso; omega))
      | refine inN ?_
    · have hlt : j < now.length := by assumption
      rw [agreeU_drop hlt] at hag
      obtain ⟨pk, hpk⟩ : ∃ pk, pickI (fun o => sameB ps o now[j]) old us 0 = pk := ⟨_, rfl⟩
      rw [hpk] at hag
      refine awp_loop_inv (fun q st => ∃ (i : Nat) (Hd : Hp), q = old.length - i ∧ i ≤ old.length ∧ pickI (fun o => sameB ps o now[j]) (old.drop i) (us.drop i) i = pk ∧ Gr Hc Hd ∧ Hd.objs[Hc.objs.length]? = some (.cells now[j].av) ∧
        Sub st ⟨49, [(0, .sl 5 (lks old) o1), (1, .sl 5 (lks now) o2), (2, .sl 2 (prs ps) o3), (7, .osl H.objs.length now.length), (9, .ref Hc.objs.length 0), (20, .sl 5 (lks now) o2), (21, .int .i64 now.length), (22, .int .i64 j), (26, .sl 5 (lks old) o1), (27, .int .i64 old.length), (28, .int .i64 i)], Hd⟩) old.length
        ⟨0, _, by simp, by simp, hpk, (Gr.refl Hc).obj _, by simp; rfl, sb⟩ ?_
      clear hpk
      rintro q st ⟨i, Hd, rfl, hi, hpk, hgd, hk9, hs2⟩
      refine awp_sub hs2 ?_
      clear hs2 st
      have hod : Hd.objs[H.objs.length]? = some (.cells (bls us)) := by rw [hgd.get hr0]; exact hob
      have hrd : H.objs.length < Hd.objs.length := obj_lt hod
      have hod2 : ∀ x, (Hd.objs ++ x)[H.objs.length]? = some (.cells (bls us)) := fun x => by rw [List.getElem?_append_left hrd]; exact hod
      have hkl : Hc.objs.length < Hd.objs.length := obj_lt hk9
      have hk92 : ∀ x, (Hd.objs ++ x)[Hc.objs.length]? = some (.cells now[j].av) := fun x => by rw [List.getElem?_append_left hkl]; exact hk9
      rcases Nat.lt_or_ge i old.length with hio | hio
      · have hiu : i < us.length := by omega
        have hbi := bls_drop us i hiu
        have hi1 : i + 1 ≤ us.length := hiu
        have hin : (i : Int) < now.length := by omega
        have hin2 : i < now.length := by omega
        have hst := bls_set us i true hiu
        rw [pickI_drop hul hio hiu] at hpk
        have hkj := hn.2 _ (List.getElem_mem hlt)
        have hki := ho.2 _ (List.getElem_mem hio)
        cases hu : us[i] with
        | true =>
          rw [hu] at hpk hbi
          simp only [Bool.not_true, Bool.false_and, Bool.false_eq_true, if_false] at hpk
          repeat' first
            | refine aSq ?_ | refine aRt ?_ | refine aSk ?_ | refine aEx ?_ | refine aBl ?_ | refine tN ?_ | refine tR ?_ | refine tE ?_ | refine iR ?_
            | (refine rg 10 ?_
               refine aops_take 5 (mu := mu0) tab_ok (by simp (disch := omega) [hod2, hk92, hbi, hi1, hin, hin2]; with_reducible rfl) ?_
               first | (refine aops_test (mu := mu0) tab_ok (by simp (disch := omega) [hod2, hk92, hbi, hi1, hin, hin2]; with_reducible rfl) rfl (fun hb => ?_) (fun hb => ?_) <;> (try simp at hb) <;> try (exfalso; omega)) | (refine aops_take 1 (mu := mu0) tab_ok (by simp (disch := omega) [hod2, hk92, hbi, hi1, hin, hin2]; with_reducible rfl) ?_)
               all_goals (refine aops_take 3 (mu := mu0) tab_ok (by simp (disch := omega) [hod2, hk92, hbi, hi1, hin, hin2]; with_reducible rfl) ?_
                          first | (refine fg en28 ?_; refine SF.then (sf28 ..) ?_) | (refine aops_take 1 (mu := mu0) tab_ok (by simp (disch := omega) [hod2, hk92, hbi, hi1, hin, hin2]; with_reducible rfl) ?_)
                          refine aops_take 1 (mu := mu0) tab_ok (by simp (disch := omega) [hod2, hk92, hbi, hi1, hin, hin2]; with_reducible rfl) ?_
                          refine dn ?_))
            | (refine awp_run (mu := mu0) tab_ok (by simp (disch := omega) [hod2, hk92, hbi, hi1, hin, hin2]; with_reducible rfl) ?_)
            | (refine awp_if rfl (fun hb => ?_) (fun hb => ?_) <;> (try simp at hb) <;> try (exfalso; omega))
            | refine inN ?_
          exact ⟨old.length - (i + 1), by omega, i + 1, _, rfl, by omega, hpk, hgd.obj _, hk92 _, sb⟩
        | false =>
          rw [hu] at hpk hbi
          simp only [Bool.not_false, Bool.true_and] at hpk
          cases hsm : sameB ps old[i] now[j] with
          | true =>
            rw [hsm, if_pos rfl] at hpk
            subst hpk
            repeat' first
              | refine aSq ?_ | refine aRt ?_ | refine aSk ?_ | refine aEx ?_ | refine aBl ?_ | refine tN ?_ | refine tR ?_ | refine tE ?_ | refine iR ?_
              | (refine rg 10 ?_
                 refine aops_take 5 (mu := mu0) tab_ok (by simp (disch := omega) [hod2, hk92, hbi, hi1, hin, hin2, hst, Lk.av]; with_reducible rfl) ?_
                 first | (refine aops_test (mu := mu0) tab_ok (by simp (disch := omega) [hod2, hk92, hbi, hi1, hin, hin2, hst, Lk.av]; with_reducible rfl) rfl (fun hb => ?_) (fun hb => ?_) <;> (try simp at hb) <;> try (exfalso; omega)) | (refine aops_take 1 (mu := mu0) tab_ok (by simp (disch := omega) [hod2, hk92, hbi, hi1, hin, hin2, hst, Lk.av]; with_reducible rfl) ?_)
                 all_goals (refine aops_take 3 (mu := mu0) tab_ok (by simp (disch := omega) [hod2, hk92, hbi, hi1, hin, hin2, hst, Lk.av]; with_reducible rfl) ?_
                            first | (refine fg en28 ?_; refine SF.then (sf28 hp hki hkj) ?_; rw [hsm]) | (refine aops_take 1 (mu := mu0) tab_ok (by simp (disch := omega) [hod2, hk92, hbi, hi1, hin, hin2, hst, Lk.av]; with_reducible rfl) ?_)
                            refine aops_take 1 (mu := mu0) tab_ok (by simp (disch := omega) [hod2, hk92, hbi, hi1, hin, hin2, hst, Lk.av]; with_reducible rfl) ?_
                            refine dn ?_))
              | (refine awp_run (mu := mu0) tab_ok (by simp (disch := omega) [hod2, hk92, hbi, hi1, hin, hin2, hst, Lk.av]; with_reducible rfl) ?_)
              | (refine awp_if rfl (fun hb => ?_) (fun hb => ?_) <;> (try simp at hb) <;> try (exfalso; omega))
              | refine inN ?_
            exact ⟨now.length - (j + 1), by omega, j + 1, us.set i true, { Hd with objs := (Hd.objs ++ [AObj.cells old[i].av]).set H.objs.length (AObj.cells (bls (us.set i true))) }, rfl, by omega, by simp [hul], hag, ((hg.trans hgd).obj _).set (Nat.le_refl _) _, by rw [List.getElem?_set_self (by simp; omega)], sb (hH := by rw [List.set_append_left _ _ hrd]; simp only [Lk.av])⟩
          | false =>
            rw [hsm, if_neg (by decide)] at hpk
            repeat' first
              | refine aSq ?_ | refine aRt ?_ | refine aSk ?_ | refine aEx ?_ | refine aBl ?_ | refine tN ?_ | refine tR ?_ | refine tE ?_ | refine iR ?_
              | (refine rg 10 ?_
                 refine aops_take 5 (mu := mu0) tab_ok (by simp (disch := omega) [hod2, hk92, hbi, hi1, hin, hin2, Lk.av]; with_reducible rfl) ?_
                 first | (refine aops_test (mu := mu0) tab_ok (by simp (disch := omega) [hod2, hk92, hbi, hi1, hin, hin2, Lk.av]; with_reducible rfl) rfl (fun hb => ?_) (fun hb => ?_) <;> (try simp at hb) <;> try (exfalso; omega)) | (refine aops_take 1 (mu := mu0) tab_ok (by simp (disch := omega) [hod2, hk92, hbi, hi1, hin, hin2, Lk.av]; with_reducible rfl) ?_)
                 all_goals (refine aops_take 3 (mu := mu0) tab_ok (by simp (disch := omega) [hod2, hk92, hbi, hi1, hin, hin2, Lk.av]; with_reducible rfl) ?_
                            first | (refine fg en28 ?_; refine SF.then (sf28 hp hki hkj) ?_; rw [hsm]) | (refine aops_take 1 (mu := mu0) tab_ok (by simp (disch := omega) [hod2, hk92, hbi, hi1, hin, hin2, Lk.av]; with_reducible rfl) ?_)
                            refine aops_take 1 (mu := mu0) tab_ok (by simp (disch := omega) [hod2, hk92, hbi, hi1, hin, hin2, Lk.av]; with_reducible rfl) ?_
                            refine dn ?_))
              | (refine awp_run (mu := mu0) tab_ok (by simp (disch := omega) [hod2, hk92, hbi, hi1, hin, hin2, Lk.av]; with_reducible rfl) ?_)
              | (refine awp_if rfl (fun hb => ?_) (fun hb => ?_) <;> (try simp at hb) <;> try (exfalso; omega))
              | refine inN ?_
            exact ⟨old.length - (i + 1), by omega, i + 1, _, rfl, by omega, hpk, hgd.obj _, hk92 _, sb⟩
      · have hil : i = old.length := by omega
        subst hil
        rw [List.drop_length] at hpk
        simp only [pickI] at hpk
        subst hpk
        repeat' first
          | refine aSq ?_ | refine aRt ?_ | refine aSk ?_ | refine aEx ?_ | refine aBl ?_ | refine tN ?_ | refine tR ?_ | refine tE ?_ | refine iR ?_
          | (refine rg 10 ?_
             refine tk 5 ?_
             first | (refine te (fun hb => ?_) (fun hb => ?_) <;> (try simp at hb) <;> try (exfalso; omega)) | (refine tk 1 ?_)
             all_goals (refine tk 3 ?_
                        first | (refine fg en28 ?_; refine SF.then (sf28 ..) ?_) | (refine tk 1 ?_)
                        refine tk 1 ?_
                        refine dn ?_))
          | refine ru ?_
          | (refine awp_if rfl (fun hb => ?_) (fun hb => ?_) <;> (try simp at hb) <;> try (exfalso; omega))
          | refine inN ?_
        exact ⟨hg.trans hgd, _, .refl _, by simp; exact hag.symm⟩
    · have hjl : j = now.length := by omega
      subst hjl
      rw [List.drop_length] at hag
      exact ⟨hg, _, .refl _, by simp; exact hag.symm⟩
  · repeat' first
      | refine awp_scope (fun _ _ h => h) ?_
      | refine awp_label ?_
      | refine aSq ?_ | refine aRt ?_ | refine aSk ?_ | refine aEx ?_ | refine aBl ?_ | refine tN ?_ | refine tR ?_ | refine tE ?_ | refine iR ?_
      | (refine rg 10 ?_
         refine aops_take 5 (mu := mu0) tab_ok (by simp (disch := omega) [hlen]; with_reducible rfl) ?_
         first | (refine aops_test (mu := mu0) tab_ok (by simp (disch := omega) [hlen]; with_reducible rfl) rfl (fun hb => ?_) (fun hb => ?_) <;> (try simp at hb) <;> try (exfalso; omega)) | (refine aops_take 1 (mu := mu0) tab_ok (by simp (disch := omega) [hlen]; with_reducible rfl) ?_)
         all_goals (refine aops_take 3 (mu := mu0) tab_ok (by simp (disch := omega) [hlen]; with_reducible rfl) ?_
                    first | (refine fg en28 ?_; refine SF.then (sf28 ..) ?_) | (refine aops_take 1 (mu := mu0) tab_ok (by simp (disch := omega) [hlen]; with_reducible rfl) ?_)
                    refine aops_take 1 (mu := mu0) tab_ok (by simp (disch := omega) [hlen]; with_reducible rfl) ?_
                    refine dn ?_))
      | (refine awp_run (mu := mu0) tab_ok (by simp (disch := omega) [hlen]; with_reducible rfl) ?_)
      | (refine awp_if rfl (fun hb => ?_) (fun hb => ?_) <;> (try simp at hb) <;> try (exfalso; omega))
      | refine inN ?_
    exact ⟨Gr.refl _, _, .refl _, by simp [agreeB, hlen]⟩
end Go.Av
