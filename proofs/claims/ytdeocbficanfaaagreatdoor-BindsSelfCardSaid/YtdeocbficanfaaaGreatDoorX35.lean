/-
  Go read by value: lemmas (part 35): D53.
-/
import Derived.Test.YtdeocbficanfaaaGreatDoorX21
import Derived.Test.YtdeocbficanfaaaGreatDoorX34
set_option linter.unusedVariables false
set_option linter.unusedSimpArgs false
set_option linter.unusedSectionVars false
namespace Go.Av
open Go.Proofs
variable {W0 : World}
set_option maxRecDepth 10000
set_option maxHeartbeats 4000000
theorem binA_neqb (a b : Bool) : binA tab .neq 4 (.bool a) (.bool b) = some (.bool !(a == b)) := by simp [binA, tab4]
theorem len0 (l : Path) : ((l.length : Int) == 0) = decide (l = []) := by cases l <;> simp <;> omega
theorem backB_len {ps : List Pr} {q x : Path} (hp : PrOK ps) (h : backB ps q = some x) : x.length ≤ 1000000 + q.length := by
  unfold backB at h
  split at h
  · cases h
  · cases h
    have hr := bestB_range ps q
    have hj : (bestB ps q).toNat < ps.length := by omega
    have := (hp.2 _ (List.getElem_mem hj)).1
    simp [List.getD, hj]; omega
theorem sf28 {ps : List Pr} {o k : Lk} {own : Own} {H : Hp} (hp : PrOK ps) (ho : LkOK o) (hk : LkOK k) :
    SF Tryz.prog W0 28 [.agg o.av, .agg k.av, .sl 2 (prs ps) own] H fun r H' => H' = H ∧ r = .bool (sameB ps o k) := by
  obtain ⟨ho1, ho2, ho3⟩ := ho
  obtain ⟨hk1, hk2, hk3⟩ := hk
  have hsl : ∀ x, backB ps k.site = some x → x.length ≤ 67108864 := fun x h => by have := backB_len hp h; omega
  have hal : ∀ x, backB ps k.at' = some x → x.length ≤ 67108864 := fun x h => by have := backB_len hp h; omega
  obtain ⟨oa, osp, on, os, orr⟩ := o
  obtain ⟨ka, ksp, kn, ks, kr⟩ := k
  simp only [Lk.av] at *
  refine SF.pureLe (sf_start [6] 73 Tryz.func28 rfl rfl rfl (by decide) (by simp) ?_)
  rcases hs : backB ps ks with _ | s1
  · have e1 : backR ps ks = .tuple [.sl 1 (ints []) .shut, .bool false] := by simp [backR, hs]
    repeat' first
      | refine aSq ?_ | refine aRt ?_ | refine aSk ?_ | refine aEx ?_ | refine aBl ?_ | refine tN ?_ | refine tR ?_ | refine tE ?_ | refine iR ?_
      | (refine rg 1 ?_
         refine aops_take 5 (mu := mu0) tab_ok (by simp (disch := omega) [binA_neqb, len0]; with_reducible rfl) ?_
         first | (refine aops_test (mu := mu0) tab_ok (by simp (disch := omega) [binA_neqb, len0]; with_reducible rfl) rfl (fun hb => ?_) (fun hb => ?_) <;> (try simp at hb) <;> try (exfalso; omega)) | (refine aops_take 1 (mu := mu0) tab_ok (by simp (disch := omega) [binA_neqb, len0]; with_reducible rfl) ?_)
         all_goals (refine aops_take 4 (mu := mu0) tab_ok (by simp (disch := omega) [binA_neqb, len0]; with_reducible rfl) ?_
                    first | (refine fg en46 ?_; refine SF.then (sf46 (by omega)) ?_) | (refine aops_take 1 (mu := mu0) tab_ok (by simp (disch := omega) [binA_neqb, len0]; with_reducible rfl) ?_)
                    refine aops_take 2 (mu := mu0) tab_ok (by simp (disch := omega) [binA_neqb, len0]; with_reducible rfl) ?_
                    first | (refine aops_test (mu := mu0) tab_ok (by simp (disch := omega) [binA_neqb, len0]; with_reducible rfl) rfl (fun hb => ?_) (fun hb => ?_) <;> (try simp at hb) <;> try (exfalso; omega)) | (refine aops_take 1 (mu := mu0) tab_ok (by simp (disch := omega) [binA_neqb, len0]; with_reducible rfl) ?_)
                    all_goals (refine aops_take 10 (mu := mu0) tab_ok (by simp (disch := omega) [binA_neqb, len0]; with_reducible rfl) ?_
                               refine dn ?_)))
      | (refine rg 3 ?_
         refine aops_take 3 (mu := mu0) tab_ok (by simp (disch := omega) [binA_neqb, len0]; with_reducible rfl) ?_
         refine fc en47 ?_
         refine SF.then (sf47 hp (by omega)) ?_; rw [e1]
         refine aops_take 5 (mu := mu0) tab_ok (by simp (disch := omega) [binA_neqb, len0]; with_reducible rfl) ?_
         refine dn ?_)
      | (refine rg 4 ?_
         refine aops_take 2 (mu := mu0) tab_ok (by simp (disch := omega) [binA_neqb, len0]; with_reducible rfl) ?_
         first | (refine aops_test (mu := mu0) tab_ok (by simp (disch := omega) [binA_neqb, len0]; with_reducible rfl) rfl (fun hb => ?_) (fun hb => ?_) <;> (try simp at hb) <;> try (exfalso; omega)) | (refine aops_take 1 (mu := mu0) tab_ok (by simp (disch := omega) [binA_neqb, len0]; with_reducible rfl) ?_)
         all_goals (refine aops_take 3 (mu := mu0) tab_ok (by simp (disch := omega) [binA_neqb, len0]; with_reducible rfl) ?_
                    first | (refine fg en48 ?_; refine SF.then (sf48 ..) ?_) | (refine aops_take 1 (mu := mu0) tab_ok (by simp (disch := omega) [binA_neqb, len0]; with_reducible rfl) ?_)
                    refine aops_take 2 (mu := mu0) tab_ok (by simp (disch := omega) [binA_neqb, len0]; with_reducible rfl) ?_
                    refine dn ?_))
      | (refine rg 8 ?_
         refine aops_take 3 (mu := mu0) tab_ok (by simp (disch := omega) [binA_neqb, len0]; with_reducible rfl) ?_
         refine fc en47 ?_
         refine SF.then (sf47 hp (by omega)) ?_; rw [e1]
         refine aops_take 5 (mu := mu0) tab_ok (by simp (disch := omega) [binA_neqb, len0]; with_reducible rfl) ?_
         refine dn ?_)
      | (refine rg 9 ?_
         refine aops_take 1 (mu := mu0) tab_ok (by simp (disch := omega) [binA_neqb, len0]; with_reducible rfl) ?_
         first | (refine aops_test (mu := mu0) tab_ok (by simp (disch := omega) [binA_neqb, len0]; with_reducible rfl) rfl (fun hb => ?_) (fun hb => ?_) <;> (try simp at hb) <;> try (exfalso; omega)) | (refine aops_take 1 (mu := mu0) tab_ok (by simp (disch := omega) [binA_neqb, len0]; with_reducible rfl) ?_)
         all_goals (refine aops_take 3 (mu := mu0) tab_ok (by simp (disch := omega) [binA_neqb, len0]; with_reducible rfl) ?_
                    first | (refine fg en48 ?_; refine SF.then (sf48 ..) ?_) | (refine aops_take 1 (mu := mu0) tab_ok (by simp (disch := omega) [binA_neqb, len0]; with_reducible rfl) ?_)
                    refine aops_take 2 (mu := mu0) tab_ok (by simp (disch := omega) [binA_neqb, len0]; with_reducible rfl) ?_
                    refine dn ?_))
      | (refine awp_run (mu := mu0) tab_ok (by simp (disch := omega) [binA_neqb, len0]; with_reducible rfl) ?_)
      | (refine awp_if rfl (fun hb => ?_) (fun hb => ?_) <;> (try simp at hb) <;> try (exfalso; omega))
      | refine inN ?_
    all_goals exact ⟨Gr.refl _, .bool false, by simp, by simp_all [sameB]⟩
  have hs1 := hsl _ hs
  have e1 : backR ps ks = .tuple [.sl 1 (ints s1) .shut, .bool true] := by simp [backR, hs]
  rcases ha : backB ps ka with _ | a1
  · have e2 : backR ps ka = .tuple [.sl 1 (ints []) .shut, .bool false] := by simp [backR, ha]
    repeat' first
      | refine aSq ?_ | refine aRt ?_ | refine aSk ?_ | refine aEx ?_ | refine aBl ?_ | refine tN ?_ | refine tR ?_ | refine tE ?_ | refine iR ?_
      | (refine rg 1 ?_
         refine aops_take 5 (mu := mu0) tab_ok (by simp (disch := omega) [binA_neqb, len0]; with_reducible rfl) ?_
         first | (refine aops_test (mu := mu0) tab_ok (by simp (disch := omega) [binA_neqb, len0]; with_reducible rfl) rfl (fun hb => ?_) (fun hb => ?_) <;> (try simp at hb) <;> try (exfalso; omega)) | (refine aops_take 1 (mu := mu0) tab_ok (by simp (disch := omega) [binA_neqb, len0]; with_reducible rfl) ?_)
         all_goals (refine aops_take 4 (mu := mu0) tab_ok (by simp (disch := omega) [binA_neqb, len0]; with_reducible rfl) ?_
                    first | (refine fg en46 ?_; refine SF.then (sf46 (by omega)) ?_) | (refine aops_take 1 (mu := mu0) tab_ok (by simp (disch := omega) [binA_neqb, len0]; with_reducible rfl) ?_)
                    refine aops_take 2 (mu := mu0) tab_ok (by simp (disch := omega) [binA_neqb, len0]; with_reducible rfl) ?_
                    first | (refine aops_test (mu := mu0) tab_ok (by simp (disch := omega) [binA_neqb, len0]; with_reducible rfl) rfl (fun hb => ?_) (fun hb => ?_) <;> (try simp at hb) <;> try (exfalso; omega)) | (refine aops_take 1 (mu := mu0) tab_ok (by simp (disch := omega) [binA_neqb, len0]; with_reducible rfl) ?_)
                    all_goals (refine aops_take 10 (mu := mu0) tab_ok (by simp (disch := omega) [binA_neqb, len0]; with_reducible rfl) ?_
                               refine dn ?_)))
      | (refine rg 3 ?_
         refine aops_take 3 (mu := mu0) tab_ok (by simp (disch := omega) [binA_neqb, len0]; with_reducible rfl) ?_
         refine fc en47 ?_
         refine SF.then (sf47 hp (by omega)) ?_; first | rw [e1] | rw [e2]
         refine aops_take 5 (mu := mu0) tab_ok (by simp (disch := omega) [binA_neqb, len0]; with_reducible rfl) ?_
         refine dn ?_)
      | (refine rg 4 ?_
         refine aops_take 2 (mu := mu0) tab_ok (by simp (disch := omega) [binA_neqb, len0]; with_reducible rfl) ?_
         first | (refine aops_test (mu := mu0) tab_ok (by simp (disch := omega) [binA_neqb, len0]; with_reducible rfl) rfl (fun hb => ?_) (fun hb => ?_) <;> (try simp at hb) <;> try (exfalso; omega)) | (refine aops_take 1 (mu := mu0) tab_ok (by simp (disch := omega) [binA_neqb, len0]; with_reducible rfl) ?_)
         all_goals (refine aops_take 3 (mu := mu0) tab_ok (by simp (disch := omega) [binA_neqb, len0]; with_reducible rfl) ?_
                    first | (refine fg en48 ?_; refine SF.then (sf48 (by omega)) ?_) | (refine aops_take 1 (mu := mu0) tab_ok (by simp (disch := omega) [binA_neqb, len0]; with_reducible rfl) ?_)
                    refine aops_take 2 (mu := mu0) tab_ok (by simp (disch := omega) [binA_neqb, len0]; with_reducible rfl) ?_
                    refine dn ?_))
      | (refine rg 8 ?_
         refine aops_take 3 (mu := mu0) tab_ok (by simp (disch := omega) [binA_neqb, len0]; with_reducible rfl) ?_
         refine fc en47 ?_
         refine SF.then (sf47 hp (by omega)) ?_; first | rw [e1] | rw [e2]
         refine aops_take 5 (mu := mu0) tab_ok (by simp (disch := omega) [binA_neqb, len0]; with_reducible rfl) ?_
         refine dn ?_)
      | (refine rg 9 ?_
         refine aops_take 1 (mu := mu0) tab_ok (by simp (disch := omega) [binA_neqb, len0]; with_reducible rfl) ?_
         first | (refine aops_test (mu := mu0) tab_ok (by simp (disch := omega) [binA_neqb, len0]; with_reducible rfl) rfl (fun hb => ?_) (fun hb => ?_) <;> (try simp at hb) <;> try (exfalso; omega)) | (refine aops_take 1 (mu := mu0) tab_ok (by simp (disch := omega) [binA_neqb, len0]; with_reducible rfl) ?_)
         all_goals (refine aops_take 3 (mu := mu0) tab_ok (by simp (disch := omega) [binA_neqb, len0]; with_reducible rfl) ?_
                    first | (refine fg en48 ?_; refine SF.then (sf48 (by omega)) ?_) | (refine aops_take 1 (mu := mu0) tab_ok (by simp (disch := omega) [binA_neqb, len0]; with_reducible rfl) ?_)
                    refine aops_take 2 (mu := mu0) tab_ok (by simp (disch := omega) [binA_neqb, len0]; with_reducible rfl) ?_
                    refine dn ?_))
      | (refine awp_run (mu := mu0) tab_ok (by simp (disch := omega) [binA_neqb, len0]; with_reducible rfl) ?_)
      | (refine awp_if rfl (fun hb => ?_) (fun hb => ?_) <;> (try simp at hb) <;> try (exfalso; omega))
      | refine inN ?_
    all_goals (refine ⟨Gr.refl _, _, .refl _, ?_⟩; simp_all [sameB] <;> (rw [Bool.eq_iff_iff]; simp); done)
  have ha1 := hal _ ha
  have e2 : backR ps ka = .tuple [.sl 1 (ints a1) .shut, .bool true] := by simp [backR, ha]
  repeat' first
    | refine aSq ?_ | refine aRt ?_ | refine aSk ?_ | refine aEx ?_ | refine aBl ?_ | refine tN ?_ | refine tR ?_ | refine tE ?_ | refine iR ?_
    | (refine rg 1 ?_
       refine aops_take 5 (mu := mu0) tab_ok (by simp (disch := omega) [binA_neqb, len0]; with_reducible rfl) ?_
       first | (refine aops_test (mu := mu0) tab_ok (by simp (disch := omega) [binA_neqb, len0]; with_reducible rfl) rfl (fun hb => ?_) (fun hb => ?_) <;> (try simp at hb) <;> try (exfalso; omega)) | (refine aops_take 1 (mu := mu0) tab_ok (by simp (disch := omega) [binA_neqb, len0]; with_reducible rfl) ?_)
       all_goals (refine aops_take 4 (mu := mu0) tab_ok (by simp (disch := omega) [binA_neqb, len0]; with_reducible rfl) ?_
                  first | (refine fg en46 ?_; refine SF.then (sf46 (by omega)) ?_) | (refine aops_take 1 (mu := mu0) tab_ok (by simp (disch := omega) [binA_neqb, len0]; with_reducible rfl) ?_)
                  refine aops_take 2 (mu := mu0) tab_ok (by simp (disch := omega) [binA_neqb, len0]; with_reducible rfl) ?_
                  first | (refine aops_test (mu := mu0) tab_ok (by simp (disch := omega) [binA_neqb, len0]; with_reducible rfl) rfl (fun hb => ?_) (fun hb => ?_) <;> (try simp at hb) <;> try (exfalso; omega)) | (refine aops_take 1 (mu := mu0) tab_ok (by simp (disch := omega) [binA_neqb, len0]; with_reducible rfl) ?_)
                  all_goals (refine aops_take 10 (mu := mu0) tab_ok (by simp (disch := omega) [binA_neqb, len0]; with_reducible rfl) ?_
                             refine dn ?_)))
    | (refine rg 3 ?_
       refine aops_take 3 (mu := mu0) tab_ok (by simp (disch := omega) [binA_neqb, len0]; with_reducible rfl) ?_
       refine fc en47 ?_
       refine SF.then (sf47 hp (by omega)) ?_; first | rw [e1] | rw [e2]
       refine aops_take 5 (mu := mu0) tab_ok (by simp (disch := omega) [binA_neqb, len0]; with_reducible rfl) ?_
       refine dn ?_)
    | (refine rg 4 ?_
       refine aops_take 2 (mu := mu0) tab_ok (by simp (disch := omega) [binA_neqb, len0]; with_reducible rfl) ?_
       first | (refine aops_test (mu := mu0) tab_ok (by simp (disch := omega) [binA_neqb, len0]; with_reducible rfl) rfl (fun hb => ?_) (fun hb => ?_) <;> (try simp at hb) <;> try (exfalso; omega)) | (refine aops_take 1 (mu := mu0) tab_ok (by simp (disch := omega) [binA_neqb, len0]; with_reducible rfl) ?_)
       all_goals (refine aops_take 3 (mu := mu0) tab_ok (by simp (disch := omega) [binA_neqb, len0]; with_reducible rfl) ?_
                  first | (refine fg en48 ?_; refine SF.then (sf48 (by omega)) ?_) | (refine aops_take 1 (mu := mu0) tab_ok (by simp (disch := omega) [binA_neqb, len0]; with_reducible rfl) ?_)
                  refine aops_take 2 (mu := mu0) tab_ok (by simp (disch := omega) [binA_neqb, len0]; with_reducible rfl) ?_
                  refine dn ?_))
    | (refine rg 8 ?_
       refine aops_take 3 (mu := mu0) tab_ok (by simp (disch := omega) [binA_neqb, len0]; with_reducible rfl) ?_
       refine fc en47 ?_
       refine SF.then (sf47 hp (by omega)) ?_; first | rw [e1] | rw [e2]
       refine aops_take 5 (mu := mu0) tab_ok (by simp (disch := omega) [binA_neqb, len0]; with_reducible rfl) ?_
       refine dn ?_)
    | (refine rg 9 ?_
       refine aops_take 1 (mu := mu0) tab_ok (by simp (disch := omega) [binA_neqb, len0]; with_reducible rfl) ?_
       first | (refine aops_test (mu := mu0) tab_ok (by simp (disch := omega) [binA_neqb, len0]; with_reducible rfl) rfl (fun hb => ?_) (fun hb => ?_) <;> (try simp at hb) <;> try (exfalso; omega)) | (refine aops_take 1 (mu := mu0) tab_ok (by simp (disch := omega) [binA_neqb, len0]; with_reducible rfl) ?_)
       all_goals (refine aops_take 3 (mu := mu0) tab_ok (by simp (disch := omega) [binA_neqb, len0]; with_reducible rfl) ?_
                  first | (refine fg en48 ?_; refine SF.then (sf48 (by omega)) ?_) | (refine aops_take 1 (mu := mu0) tab_ok (by simp (disch := omega) [binA_neqb, len0]; with_reducible rfl) ?_)
                  refine aops_take 2 (mu := mu0) tab_ok (by simp (disch := omega) [binA_neqb, len0]; with_reducible rfl) ?_
                  refine dn ?_))
    | (refine awp_run (mu := mu0) tab_ok (by simp (disch := omega) [binA_neqb, len0]; with_reducible rfl) ?_)
    | (refine awp_if rfl (fun hb => ?_) (fun hb => ?_) <;> (try simp at hb) <;> try (exfalso; omega))
    | refine inN ?_
  all_goals (refine ⟨Gr.refl _, _, .refl _, ?_⟩; simp_all [sameB] <;> (rw [Bool.eq_iff_iff]; simp); done)
end Go.Av
