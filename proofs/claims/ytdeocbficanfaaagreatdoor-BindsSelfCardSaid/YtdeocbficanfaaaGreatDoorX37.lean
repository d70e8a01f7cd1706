/-
  Go read by value: lemmas (part 37): G3.
-/
import Derived.Test.YtdeocbficanfaaaGreatDoorX33
import Derived.Test.YtdeocbficanfaaaGreatDoorX34
import Derived.Test.YtdeocbficanfaaaGreatDoorX36
set_option linter.unusedVariables false
set_option linter.unusedSimpArgs false
set_option linter.unusedSectionVars false
namespace Go.Av
open Go.Proofs
variable {W0 : World}
set_option maxRecDepth 10000
set_option maxHeartbeats 8000000
theorem errT_chk {t : Tr} (h : errT t = 0) : checkE t 7 = 0 := by
  unfold errT at h
  by_cases h2 : checkE t 7 = 0
  · exact h2
  · rw [if_neg h2] at h; exact absurd h h2
theorem le_lead : Le (.ptr [.int .i64 71, .int .i64 0, .str [122, 122, 122], .str [], .sl 1 [[.ptr [.int .i64 1, .int .i64 0, .str [], .str [], .slnil]]] .capped]) leadT.av :=
  .ptr (.cons (.refl _) (.cons (.refl _) (.cons (.refl _) (.cons (.refl _) (.cons (.sl (.cons (.cons (.ptr (.cons (.refl _) (.cons (.refl _) (.cons (.refl _) (.cons (.refl _) (.cons (.nilShut 1) .nil)))))) .nil) .nil) (.inr rfl)) .nil)))))
def prE (i : Nat) : List AV := [.sl 1 [[.int .i64 i]] .capped, .sl 1 [[.int .i64 ((i : Int) + 1)]] .capped]
theorem prE_le : ∀ l : List Nat, LeLL (l.map prE) (prs (l.map fun (i : Nat) => ⟨[(i : Int)], [(i : Int) + 1]⟩))
  | [] => .nil
  | i :: l => .cons (.cons (.sl (LeLL.refl _) (.inr rfl)) (.cons (.sl (LeLL.refl _) (.inr rfl)) .nil)) (prE_le l)
theorem prE_succ (i : Nat) : (List.range (i + 1)).map prE = (List.range i).map prE ++ [prE i] := by simp [List.range_succ]
theorem sf5 (hB : LibOK W0) (hC : Base W0) {s : Str} {H : Hp} (hs : s.length ≤ 9223372036854775807) : SF Tryz.prog W0 5 [.str s] H fun r _ => r = .bool true := by
  refine sf_start [2] 122 Tryz.func5 rfl rfl rfl (by decide) (by simp) ?_
  repeat' first
    | refine aSq ?_ | refine aRt ?_ | refine aSk ?_ | refine aEx ?_ | refine aBl ?_ | refine tN ?_ | refine tR ?_ | refine tE ?_ | refine iR ?_
    | (refine rg 1 ?_
       refine tk 1 ?_
       refine fc en6 ?_
       refine (sf6 hs).mono ?_; rintro x0 H0 ⟨rfl, t, rfl, hn, hc⟩
       refine tk 1 ?_
       refine dn ?_)
    | (refine rg 2 ?_
       refine tk 1 ?_
       refine fc en7 ?_
       refine (sf7 hB (by omega) hn).mono ?_; rintro x1 H1 ⟨ho1, rfl⟩; rw [show linksR t = .tuple [.sl 5 (lks (linksL t)) .shut, .int .i64 (errT t)] from rfl]
       refine tk 5 ?_
       refine dn ?_)
    | (refine rg 3 ?_
       refine tk 1 ?_
       refine fc en9 ?_
       refine (sf9 hB (by omega) hn).mono ?_; rintro x1 H2 ⟨ho2, rfl⟩; rw [show exportsR t = .tuple [.sl 5 (lks (exportsL t)) .shut, .int .i64 (errT t)] from rfl]
       refine tk 5 ?_
       refine dn ?_)
    | (refine rg 4 ?_
       refine tk 2 ?_
       first | (refine te (fun hb => ?_) (fun hb => ?_) <;> (try simp at hb) <;> try (exfalso; omega)) | (refine tk 1 ?_)
       all_goals (refine tk 3 ?_
                  refine dn ?_))
    | (refine rg 5 ?_
       refine fc en12 ?_
       refine (sf12 hB).mono ?_; rintro x1 H5 ⟨ho5, rfl⟩
       refine tk 1 ?_
       refine dn ?_)
    | (fail)
    | (refine rg 13 ?_
       refine tk 2 ?_
       refine fc en18 ?_
       refine SF.then (sf18 ..) ?_
       refine tk 1 ?_
       refine dn ?_)
    | (refine rg 14 ?_
       refine fc en12 ?_
       refine (sf12 hB).mono ?_; rintro x1 H5 ⟨ho5, rfl⟩
       refine tk 1 ?_
       refine dn ?_)
    | (refine rg 17 ?_
       refine tk 1 ?_
       refine fc en7 ?_
       refine (sf7 hB (by omega) hn).mono ?_; rintro x1 H1 ⟨ho1, rfl⟩; rw [show linksR t = .tuple [.sl 5 (lks (linksL t)) .shut, .int .i64 (errT t)] from rfl]
       refine tk 5 ?_
       refine dn ?_)
    | (refine rg 24 ?_
       refine tk 2 ?_
       first | (refine te (fun hb => ?_) (fun hb => ?_) <;> (try simp at hb) <;> try (exfalso; omega)) | (refine tk 1 ?_)
       all_goals (refine tk 3 ?_
                  first | (refine te (fun hb => ?_) (fun hb => ?_) <;> (try simp at hb) <;> try (exfalso; omega)) | (refine tk 1 ?_)
                  all_goals (refine tk 2 ?_
                             first | (refine te (fun hb => ?_) (fun hb => ?_) <;> (try simp at hb) <;> try (exfalso; omega)) | (refine tk 1 ?_)
                             all_goals (refine tk 3 ?_
                                        first | (refine fg en17 ?_; refine SF.then (sf17 ..) ?_) | (refine tk 1 ?_)
                                        refine tk 2 ?_
                                        first | (refine te (fun hb => ?_) (fun hb => ?_) <;> (try simp at hb) <;> try (exfalso; omega)) | (refine tk 1 ?_)
                                        all_goals (first | (refine fg en12 ?_; refine (sf12 hB).mono ?_; rintro x1 H5 ⟨ho5, rfl⟩) | (refine tk 1 ?_)
                                                   refine tk 2 ?_
                                                   refine dn ?_)))))
    | refine ru ?_
    | (refine awp_if rfl (fun hb => ?_) (fun hb => ?_) <;> (try simp at hb) <;> try (exfalso; omega))
    | refine inN ?_
  · rfl
  have he : errT t = 0 := by assumption
  obtain ⟨hk1, hk2⟩ := links_ok (t := t) (by omega)
  have hln := links_len (t := t) (by omega)
  obtain ⟨l1, l2⟩ := hln
  have hS : ∀ {l : List Lk} {o1 o2 : Own} {H : Hp}, (l.length ≤ 67108863 ∧ ∀ k ∈ l, LkOK k) → SF Tryz.prog W0 17 [.sl 5 (lks l) o1, .sl 5 (lks l) o2, .sl 2 [[.slnil, .slnil]] .capped] H fun r H' => H' = H ∧ r = .bool true := fun {l o1 o2 H} h => by
    have := sf17 (W0 := W0) (ps := [⟨[], []⟩]) (o1 := o1) (o2 := o2) (o3 := .capped) (H := H) ⟨by simp, by simp⟩ h h
    rw [agree_self] at this
    exact SF.args (.cons (.refl _) (.cons (.refl _) (.cons (.sl (.cons (.cons (.nilShut 1) (.cons (.nilShut 1) .nil)) .nil) (.inl rfl)) .nil))) this
  obtain ⟨L, hL⟩ : ∃ L, linksL t = L := ⟨_, rfl⟩
  obtain ⟨X, hX⟩ : ∃ X, exportsL t = X := ⟨_, rfl⟩
  rw [hL] at hk1 l1 ⊢
  rw [hX] at hk2 l2 ⊢
  repeat' first
    | refine aSq ?_ | refine aRt ?_ | refine aSk ?_ | refine aEx ?_ | refine aBl ?_ | refine tN ?_ | refine tR ?_ | refine tE ?_ | refine iR ?_
    | (refine rg 1 ?_
       refine tk 1 ?_
       refine fc en6 ?_
       refine SF.then (sf6 ..) ?_
       refine tk 1 ?_
       refine dn ?_)
    | (refine rg 2 ?_
       refine tk 1 ?_
       refine fc en7 ?_
       refine SF.then (sf7 ..) ?_
       refine tk 5 ?_
       refine dn ?_)
    | (refine rg 3 ?_
       refine tk 1 ?_
       refine fc en9 ?_
       refine SF.then (sf9 ..) ?_
       refine tk 5 ?_
       refine dn ?_)
    | (refine rg 4 ?_
       refine tk 2 ?_
       first | (refine te (fun hb => ?_) (fun hb => ?_) <;> (try simp at hb) <;> try (exfalso; omega)) | (refine tk 1 ?_)
       all_goals (refine tk 3 ?_
                  refine dn ?_))
    | (refine rg 5 ?_
       refine fc en12 ?_
       refine SF.then (sf12 ..) ?_
       refine tk 1 ?_
       refine dn ?_)
    | (refine rg 7 ?_
       refine tk 3 ?_
       refine fc en17 ?_
       (first | refine SF.then (hS hk1) ?_ | refine SF.then (hS hk2) ?_)
       refine tk 1 ?_
       first | (refine te (fun hb => ?_) (fun hb => ?_) <;> (try simp at hb) <;> try (exfalso; omega)) | (refine tk 1 ?_)
       all_goals (refine tk 3 ?_
                  first | (refine fg en17 ?_; (first | refine SF.then (hS hk1) ?_ | refine SF.then (hS hk2) ?_)) | (refine tk 1 ?_)
                  refine tk 2 ?_
                  refine dn ?_))
    | (fail)
    | (refine rg 13 ?_
       refine tk 2 ?_
       refine fc en18 ?_
       refine SF.then (sf18 ..) ?_
       refine tk 1 ?_
       refine dn ?_)
    | (refine rg 14 ?_
       refine fc en12 ?_
       refine SF.then (sf12 ..) ?_
       refine tk 1 ?_
       refine dn ?_)
    | (refine rg 17 ?_
       refine tk 1 ?_
       refine fc en7 ?_
       refine SF.then (sf7 ..) ?_
       refine tk 5 ?_
       refine dn ?_)
    | (refine rg 24 ?_
       refine tk 2 ?_
       first | (refine te (fun hb => ?_) (fun hb => ?_) <;> (try simp at hb) <;> try (exfalso; omega)) | (refine tk 1 ?_)
       all_goals (refine tk 3 ?_
                  first | (refine te (fun hb => ?_) (fun hb => ?_) <;> (try simp at hb) <;> try (exfalso; omega)) | (refine tk 1 ?_)
                  all_goals (refine tk 2 ?_
                             first | (refine te (fun hb => ?_) (fun hb => ?_) <;> (try simp at hb) <;> try (exfalso; omega)) | (refine tk 1 ?_)
                             all_goals (refine tk 3 ?_
                                        first | (refine fg en17 ?_; (first | refine SF.then (hS hk1) ?_ | refine SF.then (hS hk2) ?_)) | (refine tk 1 ?_)
                                        refine tk 2 ?_
                                        first | (refine te (fun hb => ?_) (fun hb => ?_) <;> (try simp at hb) <;> try (exfalso; omega)) | (refine tk 1 ?_)
                                        all_goals (first | (refine fg en12 ?_; refine SF.then (sf12 ..) ?_) | (refine tk 1 ?_)
                                                   refine tk 2 ?_
                                                   refine dn ?_)))))
    | refine ru ?_
    | (refine awp_if rfl (fun hb => ?_) (fun hb => ?_) <;> (try simp at hb) <;> try (exfalso; omega))
    | refine inN ?_
  obtain ⟨v1, Ha, e1, a1, g1, _⟩ := (App.capped H2 H2 5 []).append (T := tab) (Gr.refl H2) (x := .sl 5 (lks L) .shut) (fs := lks L) (t := 24) (e := 38) tab24 tab38 rfl (by decide) (by simp) (by simp) (by simp; omega)
  obtain ⟨v2, Hb, e2, a2, g2, _⟩ := a1.append (T := tab) g1 (x := .sl 5 (lks X) .shut) (fs := lks X) (t := 24) (e := 38) tab24 tab38 rfl (by decide) (by simp) (by simp) (by simp; omega)
  have hl2 := a2.len tab24
  have ha2 := a2.le
  rw [List.nil_append, ← lks_append] at ha2 hl2
  obtain ⟨n, a, b, l, rfl, hdl⟩ := pr_ok (checkE_ok (errT_chk he))
  repeat' first
    | refine aSq ?_ | refine aRt ?_ | refine aSk ?_ | refine aEx ?_ | refine aBl ?_ | refine tN ?_ | refine tR ?_ | refine tE ?_ | refine iR ?_
    | (refine rg 1 ?_
       refine aops_take 1 (mu := mu0) tab_ok (by simp (disch := omega) [e1, e2, hl2]; with_reducible rfl) ?_
       refine fc en6 ?_
       refine SF.then (sf6 ..) ?_
       refine aops_take 1 (mu := mu0) tab_ok (by simp (disch := omega) [e1, e2, hl2]; with_reducible rfl) ?_
       refine dn ?_)
    | (refine rg 2 ?_
       refine aops_take 1 (mu := mu0) tab_ok (by simp (disch := omega) [e1, e2, hl2]; with_reducible rfl) ?_
       refine fc en7 ?_
       refine SF.then (sf7 ..) ?_
       refine aops_take 5 (mu := mu0) tab_ok (by simp (disch := omega) [e1, e2, hl2]; with_reducible rfl) ?_
       refine dn ?_)
    | (refine rg 3 ?_
       refine aops_take 1 (mu := mu0) tab_ok (by simp (disch := omega) [e1, e2, hl2]; with_reducible rfl) ?_
       refine fc en9 ?_
       refine SF.then (sf9 ..) ?_
       refine aops_take 5 (mu := mu0) tab_ok (by simp (disch := omega) [e1, e2, hl2]; with_reducible rfl) ?_
       refine dn ?_)
    | (refine rg 4 ?_
       refine aops_take 2 (mu := mu0) tab_ok (by simp (disch := omega) [e1, e2, hl2]; with_reducible rfl) ?_
       first | (refine aops_test (mu := mu0) tab_ok (by simp (disch := omega) [e1, e2, hl2]; with_reducible rfl) rfl (fun hb => ?_) (fun hb => ?_) <;> (try simp at hb) <;> try (exfalso; omega)) | (refine aops_take 1 (mu := mu0) tab_ok (by simp (disch := omega) [e1, e2, hl2]; with_reducible rfl) ?_)
       all_goals (refine aops_take 3 (mu := mu0) tab_ok (by simp (disch := omega) [e1, e2, hl2]; with_reducible rfl) ?_
                  refine dn ?_))
    | (refine rg 5 ?_
       refine fc en12 ?_
       refine SF.then (sf12 ..) ?_
       refine aops_take 1 (mu := mu0) tab_ok (by simp (disch := omega) [e1, e2, hl2]; with_reducible rfl) ?_
       refine dn ?_)
    | (refine rg 7 ?_
       refine aops_take 3 (mu := mu0) tab_ok (by simp (disch := omega) [e1, e2, hl2]; with_reducible rfl) ?_
       refine fc en17 ?_
       refine SF.then (sf17 ..) ?_
       refine aops_take 1 (mu := mu0) tab_ok (by simp (disch := omega) [e1, e2, hl2]; with_reducible rfl) ?_
       first | (refine aops_test (mu := mu0) tab_ok (by simp (disch := omega) [e1, e2, hl2]; with_reducible rfl) rfl (fun hb => ?_) (fun hb => ?_) <;> (try simp at hb) <;> try (exfalso; omega)) | (refine aops_take 1 (mu := mu0) tab_ok (by simp (disch := omega) [e1, e2, hl2]; with_reducible rfl) ?_)
       all_goals (refine aops_take 3 (mu := mu0) tab_ok (by simp (disch := omega) [e1, e2, hl2]; with_reducible rfl) ?_
                  first | (refine fg en17 ?_; refine SF.then (sf17 ..) ?_) | (refine aops_take 1 (mu := mu0) tab_ok (by simp (disch := omega) [e1, e2, hl2]; with_reducible rfl) ?_)
                  refine aops_take 2 (mu := mu0) tab_ok (by simp (disch := omega) [e1, e2, hl2]; with_reducible rfl) ?_
                  refine dn ?_))
    | (fail)
    | (fail)
    | (refine rg 13 ?_
       refine aops_take 2 (mu := mu0) tab_ok (by simp (disch := omega) [e1, e2, hl2]; with_reducible rfl) ?_
       refine fc en18 ?_
       refine SF.then (sf18 ..) ?_
       refine aops_take 1 (mu := mu0) tab_ok (by simp (disch := omega) [e1, e2, hl2]; with_reducible rfl) ?_
       refine dn ?_)
    | (refine rg 14 ?_
       refine fc en12 ?_
       refine SF.then (sf12 ..) ?_
       refine aops_take 1 (mu := mu0) tab_ok (by simp (disch := omega) [e1, e2, hl2]; with_reducible rfl) ?_
       refine dn ?_)
    | (refine rg 17 ?_
       refine aops_take 1 (mu := mu0) tab_ok (by simp (disch := omega) [e1, e2, hl2]; with_reducible rfl) ?_
       refine fc en7 ?_
       refine SF.then (sf7 ..) ?_
       refine aops_take 5 (mu := mu0) tab_ok (by simp (disch := omega) [e1, e2, hl2]; with_reducible rfl) ?_
       refine dn ?_)
    | (refine rg 24 ?_
       refine aops_take 2 (mu := mu0) tab_ok (by simp (disch := omega) [e1, e2, hl2]; with_reducible rfl) ?_
       first | (refine aops_test (mu := mu0) tab_ok (by simp (disch := omega) [e1, e2, hl2]; with_reducible rfl) rfl (fun hb => ?_) (fun hb => ?_) <;> (try simp at hb) <;> try (exfalso; omega)) | (refine aops_take 1 (mu := mu0) tab_ok (by simp (disch := omega) [e1, e2, hl2]; with_reducible rfl) ?_)
       all_goals (refine aops_take 3 (mu := mu0) tab_ok (by simp (disch := omega) [e1, e2, hl2]; with_reducible rfl) ?_
                  first | (refine aops_test (mu := mu0) tab_ok (by simp (disch := omega) [e1, e2, hl2]; with_reducible rfl) rfl (fun hb => ?_) (fun hb => ?_) <;> (try simp at hb) <;> try (exfalso; omega)) | (refine aops_take 1 (mu := mu0) tab_ok (by simp (disch := omega) [e1, e2, hl2]; with_reducible rfl) ?_)
                  all_goals (refine aops_take 2 (mu := mu0) tab_ok (by simp (disch := omega) [e1, e2, hl2]; with_reducible rfl) ?_
                             first | (refine aops_test (mu := mu0) tab_ok (by simp (disch := omega) [e1, e2, hl2]; with_reducible rfl) rfl (fun hb => ?_) (fun hb => ?_) <;> (try simp at hb) <;> try (exfalso; omega)) | (refine aops_take 1 (mu := mu0) tab_ok (by simp (disch := omega) [e1, e2, hl2]; with_reducible rfl) ?_)
                             all_goals (refine aops_take 3 (mu := mu0) tab_ok (by simp (disch := omega) [e1, e2, hl2]; with_reducible rfl) ?_
                                        first | (refine fg en17 ?_; refine SF.then (sf17 ..) ?_) | (refine aops_take 1 (mu := mu0) tab_ok (by simp (disch := omega) [e1, e2, hl2]; with_reducible rfl) ?_)
                                        refine aops_take 2 (mu := mu0) tab_ok (by simp (disch := omega) [e1, e2, hl2]; with_reducible rfl) ?_
                                        first | (refine aops_test (mu := mu0) tab_ok (by simp (disch := omega) [e1, e2, hl2]; with_reducible rfl) rfl (fun hb => ?_) (fun hb => ?_) <;> (try simp at hb) <;> try (exfalso; omega)) | (refine aops_take 1 (mu := mu0) tab_ok (by simp (disch := omega) [e1, e2, hl2]; with_reducible rfl) ?_)
                                        all_goals (first | (refine fg en12 ?_; refine SF.then (sf12 ..) ?_) | (refine aops_take 1 (mu := mu0) tab_ok (by simp (disch := omega) [e1, e2, hl2]; with_reducible rfl) ?_)
                                                   refine aops_take 2 (mu := mu0) tab_ok (by simp (disch := omega) [e1, e2, hl2]; with_reducible rfl) ?_
                                                   refine dn ?_)))))
    | (refine awp_run (mu := mu0) tab_ok (by simp (disch := omega) [e1, e2, hl2]; with_reducible rfl) ?_)
    | (refine awp_if rfl (fun hb => ?_) (fun hb => ?_) <;> (try simp at hb) <;> try (exfalso; omega))
    | refine inN ?_
  refine awp_sub (t := ⟨122, [(3, (Tr.node 80 n a b l).av), (4, .sl 5 (lks L) .shut), (9, leadT.av), (59, .sl 5 (lks (L ++ X)) .shut), (60, .int .i64 (L ++ X).length), (61, .int .i64 0)], Hb⟩) (sb (only_cons (by simp) (only_cons (by simp) (only_cons (by simp; exact le_lead) (only_cons (by simp; exact ha2) (only_cons (by simp) (only_cons (by simp) only_nil))))))) ?_
  clear e1 e2 a1 a2 g1 g2 hl2 ha2 ho1 ho2
  have hok : ∀ k ∈ L ++ X, LkOK k := fun k hk => (List.mem_append.1 hk).elim (hk1.2 k) (hk2.2 k)
  refine awp_loop_inv (fun q st => ∃ (i : Nat) (Hc : Hp), q = (L ++ X).length - i ∧ i ≤ (L ++ X).length ∧ Sub st ⟨122, [(3, (Tr.node 80 n a b l).av), (4, .sl 5 (lks L) .shut), (9, leadT.av), (59, .sl 5 (lks (L ++ X)) .shut), (60, .int .i64 (L ++ X).length), (61, .int .i64 i)], Hc⟩) (L ++ X).length
    ⟨0, Hb, by simp, by simp, sb⟩ ?_
  rintro q st ⟨i, Hc, rfl, hi, hs2⟩
  refine awp_sub hs2 ?_
  clear hs2 st
  obtain ⟨A, hA⟩ : ∃ A, L ++ X = A := ⟨_, rfl⟩
  have hal : A.length ≤ 67108864 := by rw [← hA, List.length_append]; omega
  rw [hA] at hok hi ⊢
  repeat' first
    | refine aSq ?_ | refine aRt ?_ | refine aSk ?_ | refine aEx ?_ | refine aBl ?_ | refine tN ?_ | refine tR ?_ | refine tE ?_ | refine iR ?_
    | (refine rg 1 ?_
       refine aops_take 1 (mu := mu0) tab_ok (by simp (disch := omega) [Lk.av]; with_reducible rfl) ?_
       refine fc en6 ?_
       refine SF.then (sf6 ..) ?_
       refine aops_take 1 (mu := mu0) tab_ok (by simp (disch := omega) [Lk.av]; with_reducible rfl) ?_
       refine dn ?_)
    | (refine rg 2 ?_
       refine aops_take 1 (mu := mu0) tab_ok (by simp (disch := omega) [Lk.av]; with_reducible rfl) ?_
       refine fc en7 ?_
       refine SF.then (sf7 ..) ?_
       refine aops_take 5 (mu := mu0) tab_ok (by simp (disch := omega) [Lk.av]; with_reducible rfl) ?_
       refine dn ?_)
    | (refine rg 3 ?_
       refine aops_take 1 (mu := mu0) tab_ok (by simp (disch := omega) [Lk.av]; with_reducible rfl) ?_
       refine fc en9 ?_
       refine SF.then (sf9 ..) ?_
       refine aops_take 5 (mu := mu0) tab_ok (by simp (disch := omega) [Lk.av]; with_reducible rfl) ?_
       refine dn ?_)
    | (refine rg 4 ?_
       refine aops_take 2 (mu := mu0) tab_ok (by simp (disch := omega) [Lk.av]; with_reducible rfl) ?_
       first | (refine aops_test (mu := mu0) tab_ok (by simp (disch := omega) [Lk.av]; with_reducible rfl) rfl (fun hb => ?_) (fun hb => ?_) <;> (try simp at hb) <;> try (exfalso; omega)) | (refine aops_take 1 (mu := mu0) tab_ok (by simp (disch := omega) [Lk.av]; with_reducible rfl) ?_)
       all_goals (refine aops_take 3 (mu := mu0) tab_ok (by simp (disch := omega) [Lk.av]; with_reducible rfl) ?_
                  refine dn ?_))
    | (refine rg 5 ?_
       refine fc en12 ?_
       refine (sf12 hB).mono ?_; rintro x1 H5 ⟨ho5, rfl⟩
       refine aops_take 1 (mu := mu0) tab_ok (by simp (disch := omega) [Lk.av]; with_reducible rfl) ?_
       refine dn ?_)
    | (refine rg 7 ?_
       refine aops_take 3 (mu := mu0) tab_ok (by simp (disch := omega) [Lk.av]; with_reducible rfl) ?_
       refine fc en17 ?_
       refine SF.then (sf17 ..) ?_
       refine aops_take 1 (mu := mu0) tab_ok (by simp (disch := omega) [Lk.av]; with_reducible rfl) ?_
       first | (refine aops_test (mu := mu0) tab_ok (by simp (disch := omega) [Lk.av]; with_reducible rfl) rfl (fun hb => ?_) (fun hb => ?_) <;> (try simp at hb) <;> try (exfalso; omega)) | (refine aops_take 1 (mu := mu0) tab_ok (by simp (disch := omega) [Lk.av]; with_reducible rfl) ?_)
       all_goals (refine aops_take 3 (mu := mu0) tab_ok (by simp (disch := omega) [Lk.av]; with_reducible rfl) ?_
                  first | (refine fg en17 ?_; refine SF.then (sf17 ..) ?_) | (refine aops_take 1 (mu := mu0) tab_ok (by simp (disch := omega) [Lk.av]; with_reducible rfl) ?_)
                  refine aops_take 2 (mu := mu0) tab_ok (by simp (disch := omega) [Lk.av]; with_reducible rfl) ?_
                  refine dn ?_))
    | (refine rg 13 ?_
       refine aops_take 2 (mu := mu0) tab_ok (by simp (disch := omega) [Lk.av]; with_reducible rfl) ?_
       refine fc en18 ?_
       refine (sf18 hB hC).mono ?_; rintro x1 H5 ⟨rfl, x, rfl⟩
       refine aops_take 1 (mu := mu0) tab_ok (by simp (disch := omega) [Lk.av]; with_reducible rfl) ?_
       refine dn ?_)
    | (refine rg 14 ?_
       refine fc en12 ?_
       refine (sf12 hB).mono ?_; rintro x1 H5 ⟨ho5, rfl⟩
       refine aops_take 1 (mu := mu0) tab_ok (by simp (disch := omega) [Lk.av]; with_reducible rfl) ?_
       refine dn ?_)
    | (fail)
    | (refine rg 17 ?_
       refine aops_take 1 (mu := mu0) tab_ok (by simp (disch := omega) [Lk.av]; with_reducible rfl) ?_
       refine fc en7 ?_
       refine SF.then (sf7 ..) ?_
       refine aops_take 5 (mu := mu0) tab_ok (by simp (disch := omega) [Lk.av]; with_reducible rfl) ?_
       refine dn ?_)
    | (refine rg 24 ?_
       refine aops_take 2 (mu := mu0) tab_ok (by simp (disch := omega) [Lk.av]; with_reducible rfl) ?_
       first | (refine aops_test (mu := mu0) tab_ok (by simp (disch := omega) [Lk.av]; with_reducible rfl) rfl (fun hb => ?_) (fun hb => ?_) <;> (try simp at hb) <;> try (exfalso; omega)) | (refine aops_take 1 (mu := mu0) tab_ok (by simp (disch := omega) [Lk.av]; with_reducible rfl) ?_)
       all_goals (refine aops_take 3 (mu := mu0) tab_ok (by simp (disch := omega) [Lk.av]; with_reducible rfl) ?_
                  first | (refine aops_test (mu := mu0) tab_ok (by simp (disch := omega) [Lk.av]; with_reducible rfl) rfl (fun hb => ?_) (fun hb => ?_) <;> (try simp at hb) <;> try (exfalso; omega)) | (refine aops_take 1 (mu := mu0) tab_ok (by simp (disch := omega) [Lk.av]; with_reducible rfl) ?_)
                  all_goals (refine aops_take 2 (mu := mu0) tab_ok (by simp (disch := omega) [Lk.av]; with_reducible rfl) ?_
                             first | (refine aops_test (mu := mu0) tab_ok (by simp (disch := omega) [Lk.av]; with_reducible rfl) rfl (fun hb => ?_) (fun hb => ?_) <;> (try simp at hb) <;> try (exfalso; omega)) | (refine aops_take 1 (mu := mu0) tab_ok (by simp (disch := omega) [Lk.av]; with_reducible rfl) ?_)
                             all_goals (refine aops_take 3 (mu := mu0) tab_ok (by simp (disch := omega) [Lk.av]; with_reducible rfl) ?_
                                        first | (refine fg en17 ?_; refine SF.then (sf17 ..) ?_) | (refine aops_take 1 (mu := mu0) tab_ok (by simp (disch := omega) [Lk.av]; with_reducible rfl) ?_)
                                        refine aops_take 2 (mu := mu0) tab_ok (by simp (disch := omega) [Lk.av]; with_reducible rfl) ?_
                                        first | (refine aops_test (mu := mu0) tab_ok (by simp (disch := omega) [Lk.av]; with_reducible rfl) rfl (fun hb => ?_) (fun hb => ?_) <;> (try simp at hb) <;> try (exfalso; omega)) | (refine aops_take 1 (mu := mu0) tab_ok (by simp (disch := omega) [Lk.av]; with_reducible rfl) ?_)
                                        all_goals (first | (refine fg en12 ?_; refine (sf12 hB).mono ?_; rintro x1 H5 ⟨ho5, rfl⟩) | (refine aops_take 1 (mu := mu0) tab_ok (by simp (disch := omega) [Lk.av]; with_reducible rfl) ?_)
                                                   refine aops_take 2 (mu := mu0) tab_ok (by simp (disch := omega) [Lk.av]; with_reducible rfl) ?_
                                                   refine dn ?_)))))
    | (refine awp_run (mu := mu0) tab_ok (by simp (disch := omega) [Lk.av]; with_reducible rfl) ?_)
    | (refine awp_if rfl (fun hb => ?_) (fun hb => ?_) <;> (try simp at hb) <;> try (exfalso; omega))
    | refine inN ?_
  · rfl
  · exact ⟨A.length - (i + 1), by omega, i + 1, _, rfl, by omega, sb⟩
  clear hA hok hi
  have hnl : l.length ≤ 67108864 := hn.2.2.1
  have hcl : (Tr.node 80 n a b l).cnt = 1 + Tr.cnts l := rfl
  obtain ⟨v3, Hd, e3, a3, g3, _⟩ := (App.capped Hc Hc 1 [[leadT.av]]).append (T := tab) (Gr.refl Hc) (x := .sl 1 (Tr.avs l) .shut) (fs := Tr.avs l) (t := 41) (e := 22) tab41 tab22 rfl (by decide) (by simp) (by simp) (by simp; have := pos_len (fun t ht => (hdl t ht).pos); omega)
  have h12 : Le (.ptr [.int .i64 80, .int .i64 0, .str [], .str [], v3]) (aheadT l).av := .ptr (.cons (.refl _) (.cons (.refl _) (.cons (.refl _) (.cons (.refl _) (.cons a3.le .nil)))))
  have hca : (aheadT l).cnt ≤ 4000 := by simp [aheadT, leadT, Tr.cnt, Tr.cnts]; omega
  have hna : (aheadT l).neat := ⟨by simp, by simp, by simp; have := pos_len (fun t ht => (hdl t ht).pos); omega, ⟨by simp, by simp, by simp, ⟨by simp, by simp, by simp, trivial⟩, trivial⟩, hn.2.2.2⟩
  obtain ⟨B, hBd⟩ : ∃ B, linksL (aheadT l) = B := ⟨_, rfl⟩
  have hkB := (links_ok (t := aheadT l) hca).1
  have hah := ahead_links he
  rw [hBd] at hkB hah
  rw [hL] at hah
  obtain ⟨E, hE⟩ : ∃ E, errT (aheadT l) = E := ⟨_, rfl⟩
  rw [hE] at hah
  repeat' first
    | refine aSq ?_ | refine aRt ?_ | refine aSk ?_ | refine aEx ?_ | refine aBl ?_ | refine tN ?_ | refine tR ?_ | refine tE ?_ | refine iR ?_
    | (refine rg 1 ?_
       refine aops_take 1 (mu := mu0) tab_ok (by simp (disch := omega) [e3, Tr.av, a3.cells, a3.okc]; with_reducible rfl) ?_
       refine fc en6 ?_
       refine SF.then (sf6 ..) ?_
       refine aops_take 1 (mu := mu0) tab_ok (by simp (disch := omega) [e3, Tr.av, a3.cells, a3.okc]; with_reducible rfl) ?_
       refine dn ?_)
    | (refine rg 2 ?_
       refine aops_take 1 (mu := mu0) tab_ok (by simp (disch := omega) [e3, Tr.av, a3.cells, a3.okc]; with_reducible rfl) ?_
       refine fc en7 ?_
       refine (SF.args (.cons h12 .nil) (sf7 hB hca hna)).mono ?_; rintro x1 H6 ⟨ho6, rfl⟩; rw [show linksR (aheadT l) = .tuple [.sl 5 (lks (linksL (aheadT l))) .shut, .int .i64 (errT (aheadT l))] from rfl, hBd, hE]
       refine aops_take 5 (mu := mu0) tab_ok (by simp (disch := omega) [e3, Tr.av, a3.cells, a3.okc]; with_reducible rfl) ?_
       refine dn ?_)
    | (refine rg 3 ?_
       refine aops_take 1 (mu := mu0) tab_ok (by simp (disch := omega) [e3, Tr.av, a3.cells, a3.okc]; with_reducible rfl) ?_
       refine fc en9 ?_
       refine SF.then (sf9 ..) ?_
       refine aops_take 5 (mu := mu0) tab_ok (by simp (disch := omega) [e3, Tr.av, a3.cells, a3.okc]; with_reducible rfl) ?_
       refine dn ?_)
    | (refine rg 4 ?_
       refine aops_take 2 (mu := mu0) tab_ok (by simp (disch := omega) [e3, Tr.av, a3.cells, a3.okc]; with_reducible rfl) ?_
       first | (refine aops_test (mu := mu0) tab_ok (by simp (disch := omega) [e3, Tr.av, a3.cells, a3.okc]; with_reducible rfl) rfl (fun hb => ?_) (fun hb => ?_) <;> (try simp at hb) <;> try (exfalso; omega)) | (refine aops_take 1 (mu := mu0) tab_ok (by simp (disch := omega) [e3, Tr.av, a3.cells, a3.okc]; with_reducible rfl) ?_)
       all_goals (refine aops_take 3 (mu := mu0) tab_ok (by simp (disch := omega) [e3, Tr.av, a3.cells, a3.okc]; with_reducible rfl) ?_
                  refine dn ?_))
    | (refine rg 5 ?_
       refine fc en12 ?_
       refine SF.then (sf12 ..) ?_
       refine aops_take 1 (mu := mu0) tab_ok (by simp (disch := omega) [e3, Tr.av, a3.cells, a3.okc]; with_reducible rfl) ?_
       refine dn ?_)
    | (refine rg 7 ?_
       refine aops_take 3 (mu := mu0) tab_ok (by simp (disch := omega) [e3, Tr.av, a3.cells, a3.okc]; with_reducible rfl) ?_
       refine fc en17 ?_
       refine SF.then (sf17 ..) ?_
       refine aops_take 1 (mu := mu0) tab_ok (by simp (disch := omega) [e3, Tr.av, a3.cells, a3.okc]; with_reducible rfl) ?_
       first | (refine aops_test (mu := mu0) tab_ok (by simp (disch := omega) [e3, Tr.av, a3.cells, a3.okc]; with_reducible rfl) rfl (fun hb => ?_) (fun hb => ?_) <;> (try simp at hb) <;> try (exfalso; omega)) | (refine aops_take 1 (mu := mu0) tab_ok (by simp (disch := omega) [e3, Tr.av, a3.cells, a3.okc]; with_reducible rfl) ?_)
       all_goals (refine aops_take 3 (mu := mu0) tab_ok (by simp (disch := omega) [e3, Tr.av, a3.cells, a3.okc]; with_reducible rfl) ?_
                  first | (refine fg en17 ?_; refine SF.then (sf17 ..) ?_) | (refine aops_take 1 (mu := mu0) tab_ok (by simp (disch := omega) [e3, Tr.av, a3.cells, a3.okc]; with_reducible rfl) ?_)
                  refine aops_take 2 (mu := mu0) tab_ok (by simp (disch := omega) [e3, Tr.av, a3.cells, a3.okc]; with_reducible rfl) ?_
                  refine dn ?_))
    | (refine rg 13 ?_
       refine aops_take 2 (mu := mu0) tab_ok (by simp (disch := omega) [e3, Tr.av, a3.cells, a3.okc]; with_reducible rfl) ?_
       refine fc en18 ?_
       refine SF.then (sf18 ..) ?_
       refine aops_take 1 (mu := mu0) tab_ok (by simp (disch := omega) [e3, Tr.av, a3.cells, a3.okc]; with_reducible rfl) ?_
       refine dn ?_)
    | (refine rg 14 ?_
       refine fc en12 ?_
       refine SF.then (sf12 ..) ?_
       refine aops_take 1 (mu := mu0) tab_ok (by simp (disch := omega) [e3, Tr.av, a3.cells, a3.okc]; with_reducible rfl) ?_
       refine dn ?_)
    | (refine rg 17 ?_
       refine aops_take 1 (mu := mu0) tab_ok (by simp (disch := omega) [e3, Tr.av, a3.cells, a3.okc]; with_reducible rfl) ?_
       refine fc en7 ?_
       refine (SF.args (.cons h12 .nil) (sf7 hB hca hna)).mono ?_; rintro x1 H6 ⟨ho6, rfl⟩; rw [show linksR (aheadT l) = .tuple [.sl 5 (lks (linksL (aheadT l))) .shut, .int .i64 (errT (aheadT l))] from rfl, hBd, hE]
       refine aops_take 5 (mu := mu0) tab_ok (by simp (disch := omega) [e3, Tr.av, a3.cells, a3.okc]; with_reducible rfl) ?_
       refine dn ?_)
    | (fail)
    | (fail)
    | (refine rg 24 ?_
       refine aops_take 2 (mu := mu0) tab_ok (by simp (disch := omega) [e3, Tr.av, a3.cells, a3.okc]; with_reducible rfl) ?_
       first | (refine aops_test (mu := mu0) tab_ok (by simp (disch := omega) [e3, Tr.av, a3.cells, a3.okc]; with_reducible rfl) rfl (fun hb => ?_) (fun hb => ?_) <;> (try simp at hb) <;> try (exfalso; omega)) | (refine aops_take 1 (mu := mu0) tab_ok (by simp (disch := omega) [e3, Tr.av, a3.cells, a3.okc]; with_reducible rfl) ?_)
       all_goals (refine aops_take 3 (mu := mu0) tab_ok (by simp (disch := omega) [e3, Tr.av, a3.cells, a3.okc]; with_reducible rfl) ?_
                  first | (refine aops_test (mu := mu0) tab_ok (by simp (disch := omega) [e3, Tr.av, a3.cells, a3.okc]; with_reducible rfl) rfl (fun hb => ?_) (fun hb => ?_) <;> (try simp at hb) <;> try (exfalso; omega)) | (refine aops_take 1 (mu := mu0) tab_ok (by simp (disch := omega) [e3, Tr.av, a3.cells, a3.okc]; with_reducible rfl) ?_)
                  all_goals (refine aops_take 2 (mu := mu0) tab_ok (by simp (disch := omega) [e3, Tr.av, a3.cells, a3.okc]; with_reducible rfl) ?_
                             first | (refine aops_test (mu := mu0) tab_ok (by simp (disch := omega) [e3, Tr.av, a3.cells, a3.okc]; with_reducible rfl) rfl (fun hb => ?_) (fun hb => ?_) <;> (try simp at hb) <;> try (exfalso; omega)) | (refine aops_take 1 (mu := mu0) tab_ok (by simp (disch := omega) [e3, Tr.av, a3.cells, a3.okc]; with_reducible rfl) ?_)
                             all_goals (refine aops_take 3 (mu := mu0) tab_ok (by simp (disch := omega) [e3, Tr.av, a3.cells, a3.okc]; with_reducible rfl) ?_
                                        first | (refine fg en17 ?_; refine SF.then (sf17 ..) ?_) | (refine aops_take 1 (mu := mu0) tab_ok (by simp (disch := omega) [e3, Tr.av, a3.cells, a3.okc]; with_reducible rfl) ?_)
                                        refine aops_take 2 (mu := mu0) tab_ok (by simp (disch := omega) [e3, Tr.av, a3.cells, a3.okc]; with_reducible rfl) ?_
                                        first | (refine aops_test (mu := mu0) tab_ok (by simp (disch := omega) [e3, Tr.av, a3.cells, a3.okc]; with_reducible rfl) rfl (fun hb => ?_) (fun hb => ?_) <;> (try simp at hb) <;> try (exfalso; omega)) | (refine aops_take 1 (mu := mu0) tab_ok (by simp (disch := omega) [e3, Tr.av, a3.cells, a3.okc]; with_reducible rfl) ?_)
                                        all_goals (first | (refine fg en12 ?_; refine SF.then (sf12 ..) ?_) | (refine aops_take 1 (mu := mu0) tab_ok (by simp (disch := omega) [e3, Tr.av, a3.cells, a3.okc]; with_reducible rfl) ?_)
                                                   refine aops_take 2 (mu := mu0) tab_ok (by simp (disch := omega) [e3, Tr.av, a3.cells, a3.okc]; with_reducible rfl) ?_
                                                   refine dn ?_)))))
    | (refine awp_run (mu := mu0) tab_ok (by simp (disch := omega) [e3, Tr.av, a3.cells, a3.okc]; with_reducible rfl) ?_)
    | (refine awp_if rfl (fun hb => ?_) (fun hb => ?_) <;> (try simp at hb) <;> try (exfalso; omega))
    | refine inN ?_
  clear ho6 e3 a3 g3 h12
  refine awp_loop_inv (fun q st => ∃ (i : Nat) (v : AV) (Hc : Hp), q = l.length - i ∧ i ≤ l.length ∧ App H6 Hc 2 ((List.range i).map prE) v ∧ Gr H6 Hc ∧
      Sub st ⟨122, [(4, .sl 5 (lks L) .shut), (13, .sl 5 (lks B) .shut), (14, .int .i64 E), (15, v), (89, .int .i64 l.length), (90, .int .i64 i)], Hc⟩) l.length
    ⟨0, .slnil, H6, by simp, by simp, .slnil _ _ _, .refl _, sb⟩ ?_
  rintro q st ⟨i, v, Hg, rfl, hi, ha, hg, hs2⟩
  refine awp_sub hs2 ?_
  clear hs2 st
  have hll : l.length ≤ 4000 := by have := pos_len (fun t ht => (hdl t ht).pos); omega
  rcases Nat.lt_or_ge i l.length with hlt | hge
  · obtain ⟨v', Hh, e4, a4, g4, _⟩ := ha.append (T := tab) hg (x := .sl 2 [prE i] .capped) (fs := [prE i]) (t := 48) (e := 47) tab48 tab47 rfl (by decide) (by simp) (by simp [prE]) (by simp; omega)
    rw [← prE_succ] at a4
    simp only [prE] at e4
    repeat' first
      | refine aSq ?_ | refine aRt ?_ | refine aSk ?_ | refine aEx ?_ | refine aBl ?_ | refine tN ?_ | refine tR ?_ | refine tE ?_ | refine iR ?_
      | (refine rg 1 ?_
         refine aops_take 1 (mu := mu0) tab_ok (by simp (disch := omega) [e4, a4.cells, a4.okc]; with_reducible rfl) ?_
         refine fc en6 ?_
         refine SF.then (sf6 ..) ?_
         refine aops_take 1 (mu := mu0) tab_ok (by simp (disch := omega) [e4, a4.cells, a4.okc]; with_reducible rfl) ?_
         refine dn ?_)
      | (refine rg 2 ?_
         refine aops_take 1 (mu := mu0) tab_ok (by simp (disch := omega) [e4, a4.cells, a4.okc]; with_reducible rfl) ?_
         refine fc en7 ?_
         refine SF.then (sf7 ..) ?_
         refine aops_take 5 (mu := mu0) tab_ok (by simp (disch := omega) [e4, a4.cells, a4.okc]; with_reducible rfl) ?_
         refine dn ?_)
      | (refine rg 3 ?_
         refine aops_take 1 (mu := mu0) tab_ok (by simp (disch := omega) [e4, a4.cells, a4.okc]; with_reducible rfl) ?_
         refine fc en9 ?_
         refine SF.then (sf9 ..) ?_
         refine aops_take 5 (mu := mu0) tab_ok (by simp (disch := omega) [e4, a4.cells, a4.okc]; with_reducible rfl) ?_
         refine dn ?_)
      | (refine rg 4 ?_
         refine aops_take 2 (mu := mu0) tab_ok (by simp (disch := omega) [e4, a4.cells, a4.okc]; with_reducible rfl) ?_
         first | (refine aops_test (mu := mu0) tab_ok (by simp (disch := omega) [e4, a4.cells, a4.okc]; with_reducible rfl) rfl (fun hb => ?_) (fun hb => ?_) <;> (try simp at hb) <;> try (exfalso; omega)) | (refine aops_take 1 (mu := mu0) tab_ok (by simp (disch := omega) [e4, a4.cells, a4.okc]; with_reducible rfl) ?_)
         all_goals (refine aops_take 3 (mu := mu0) tab_ok (by simp (disch := omega) [e4, a4.cells, a4.okc]; with_reducible rfl) ?_
                    refine dn ?_))
      | (refine rg 5 ?_
         refine fc en12 ?_
         refine SF.then (sf12 ..) ?_
         refine aops_take 1 (mu := mu0) tab_ok (by simp (disch := omega) [e4, a4.cells, a4.okc]; with_reducible rfl) ?_
         refine dn ?_)
      | (refine rg 7 ?_
         refine aops_take 3 (mu := mu0) tab_ok (by simp (disch := omega) [e4, a4.cells, a4.okc]; with_reducible rfl) ?_
         refine fc en17 ?_
         refine SF.then (sf17 ..) ?_
         refine aops_take 1 (mu := mu0) tab_ok (by simp (disch := omega) [e4, a4.cells, a4.okc]; with_reducible rfl) ?_
         first | (refine aops_test (mu := mu0) tab_ok (by simp (disch := omega) [e4, a4.cells, a4.okc]; with_reducible rfl) rfl (fun hb => ?_) (fun hb => ?_) <;> (try simp at hb) <;> try (exfalso; omega)) | (refine aops_take 1 (mu := mu0) tab_ok (by simp (disch := omega) [e4, a4.cells, a4.okc]; with_reducible rfl) ?_)
         all_goals (refine aops_take 3 (mu := mu0) tab_ok (by simp (disch := omega) [e4, a4.cells, a4.okc]; with_reducible rfl) ?_
                    first | (refine fg en17 ?_; refine SF.then (sf17 ..) ?_) | (refine aops_take 1 (mu := mu0) tab_ok (by simp (disch := omega) [e4, a4.cells, a4.okc]; with_reducible rfl) ?_)
                    refine aops_take 2 (mu := mu0) tab_ok (by simp (disch := omega) [e4, a4.cells, a4.okc]; with_reducible rfl) ?_
                    refine dn ?_))
      | (refine rg 13 ?_
         refine aops_take 2 (mu := mu0) tab_ok (by simp (disch := omega) [e4, a4.cells, a4.okc]; with_reducible rfl) ?_
         refine fc en18 ?_
         refine SF.then (sf18 ..) ?_
         refine aops_take 1 (mu := mu0) tab_ok (by simp (disch := omega) [e4, a4.cells, a4.okc]; with_reducible rfl) ?_
         refine dn ?_)
      | (refine rg 14 ?_
         refine fc en12 ?_
         refine SF.then (sf12 ..) ?_
         refine aops_take 1 (mu := mu0) tab_ok (by simp (disch := omega) [e4, a4.cells, a4.okc]; with_reducible rfl) ?_
         refine dn ?_)
      | (refine rg 17 ?_
         refine aops_take 1 (mu := mu0) tab_ok (by simp (disch := omega) [e4, a4.cells, a4.okc]; with_reducible rfl) ?_
         refine fc en7 ?_
         refine SF.then (sf7 ..) ?_
         refine aops_take 5 (mu := mu0) tab_ok (by simp (disch := omega) [e4, a4.cells, a4.okc]; with_reducible rfl) ?_
         refine dn ?_)
      | (refine rg 24 ?_
         refine aops_take 2 (mu := mu0) tab_ok (by simp (disch := omega) [e4, a4.cells, a4.okc]; with_reducible rfl) ?_
         first | (refine aops_test (mu := mu0) tab_ok (by simp (disch := omega) [e4, a4.cells, a4.okc]; with_reducible rfl) rfl (fun hb => ?_) (fun hb => ?_) <;> (try simp at hb) <;> try (exfalso; omega)) | (refine aops_take 1 (mu := mu0) tab_ok (by simp (disch := omega) [e4, a4.cells, a4.okc]; with_reducible rfl) ?_)
         all_goals (refine aops_take 3 (mu := mu0) tab_ok (by simp (disch := omega) [e4, a4.cells, a4.okc]; with_reducible rfl) ?_
                    first | (refine aops_test (mu := mu0) tab_ok (by simp (disch := omega) [e4, a4.cells, a4.okc]; with_reducible rfl) rfl (fun hb => ?_) (fun hb => ?_) <;> (try simp at hb) <;> try (exfalso; omega)) | (refine aops_take 1 (mu := mu0) tab_ok (by simp (disch := omega) [e4, a4.cells, a4.okc]; with_reducible rfl) ?_)
                    all_goals (refine aops_take 2 (mu := mu0) tab_ok (by simp (disch := omega) [e4, a4.cells, a4.okc]; with_reducible rfl) ?_
                               first | (refine aops_test (mu := mu0) tab_ok (by simp (disch := omega) [e4, a4.cells, a4.okc]; with_reducible rfl) rfl (fun hb => ?_) (fun hb => ?_) <;> (try simp at hb) <;> try (exfalso; omega)) | (refine aops_take 1 (mu := mu0) tab_ok (by simp (disch := omega) [e4, a4.cells, a4.okc]; with_reducible rfl) ?_)
                               all_goals (refine aops_take 3 (mu := mu0) tab_ok (by simp (disch := omega) [e4, a4.cells, a4.okc]; with_reducible rfl) ?_
                                          first | (refine fg en17 ?_; refine SF.then (sf17 ..) ?_) | (refine aops_take 1 (mu := mu0) tab_ok (by simp (disch := omega) [e4, a4.cells, a4.okc]; with_reducible rfl) ?_)
                                          refine aops_take 2 (mu := mu0) tab_ok (by simp (disch := omega) [e4, a4.cells, a4.okc]; with_reducible rfl) ?_
                                          first | (refine aops_test (mu := mu0) tab_ok (by simp (disch := omega) [e4, a4.cells, a4.okc]; with_reducible rfl) rfl (fun hb => ?_) (fun hb => ?_) <;> (try simp at hb) <;> try (exfalso; omega)) | (refine aops_take 1 (mu := mu0) tab_ok (by simp (disch := omega) [e4, a4.cells, a4.okc]; with_reducible rfl) ?_)
                                          all_goals (first | (refine fg en12 ?_; refine SF.then (sf12 ..) ?_) | (refine aops_take 1 (mu := mu0) tab_ok (by simp (disch := omega) [e4, a4.cells, a4.okc]; with_reducible rfl) ?_)
                                                     refine aops_take 2 (mu := mu0) tab_ok (by simp (disch := omega) [e4, a4.cells, a4.okc]; with_reducible rfl) ?_
                                                     refine dn ?_)))))
      | (refine awp_run (mu := mu0) tab_ok (by simp (disch := omega) [e4, a4.cells, a4.okc]; with_reducible rfl) ?_)
      | (refine awp_if rfl (fun hb => ?_) (fun hb => ?_) <;> (try simp at hb) <;> try (exfalso; omega))
      | refine inN ?_
    exact ⟨l.length - (i + 1), by omega, i + 1, v', Hh, rfl, by omega, a4, g4, sb⟩
  · have hil : i = l.length := by omega
    subst hil
    have hag : ∀ K, SF Tryz.prog W0 17 [.sl 5 (lks L) .shut, .sl 5 (lks B) .shut, v] K fun r H' => H' = K ∧ r = .bool (agreeB (pairsN l.length) L B) := fun K =>
      SF.args (.cons (.refl _) (.cons (.refl _) (.cons ha.le .nil))) (SF.args (.cons (.refl _) (.cons (.refl _) (.cons (.sl (prE_le _) (.inl rfl)) .nil))) (sf17 ⟨by simp; omega, by simp⟩ hk1 hkB))
    rcases hah with rfl | rfl | ⟨rfl, hb⟩
    · repeat' first
        | refine aSq ?_ | refine aRt ?_ | refine aSk ?_ | refine aEx ?_ | refine aBl ?_ | refine tN ?_ | refine tR ?_ | refine tE ?_ | refine iR ?_
        | (refine rg 1 ?_
           refine tk 1 ?_
           refine fc en6 ?_
           refine SF.then (sf6 ..) ?_
           refine tk 1 ?_
           refine dn ?_)
        | (refine rg 2 ?_
           refine tk 1 ?_
           refine fc en7 ?_
           refine SF.then (sf7 ..) ?_
           refine tk 5 ?_
           refine dn ?_)
        | (refine rg 3 ?_
           refine tk 1 ?_
           refine fc en9 ?_
           refine SF.then (sf9 ..) ?_
           refine tk 5 ?_
           refine dn ?_)
        | (refine rg 4 ?_
           refine tk 2 ?_
           first | (refine te (fun hb => ?_) (fun hb => ?_) <;> (try simp at hb) <;> try (exfalso; omega)) | (refine tk 1 ?_)
           all_goals (refine tk 3 ?_
                      refine dn ?_))
        | (refine rg 5 ?_
           refine fc en12 ?_
           refine (sf12 hB).mono ?_; rintro x1 H7 ⟨ho7, rfl⟩
           refine tk 1 ?_
           refine dn ?_)
        | (refine rg 7 ?_
           refine tk 3 ?_
           refine fc en17 ?_
           refine SF.then (sf17 ..) ?_
           refine tk 1 ?_
           first | (refine te (fun hb => ?_) (fun hb => ?_) <;> (try simp at hb) <;> try (exfalso; omega)) | (refine tk 1 ?_)
           all_goals (refine tk 3 ?_
                      first | (refine fg en17 ?_; refine SF.then (sf17 ..) ?_) | (refine tk 1 ?_)
                      refine tk 2 ?_
                      refine dn ?_))
        | (refine rg 13 ?_
           refine tk 2 ?_
           refine fc en18 ?_
           refine SF.then (sf18 ..) ?_
           refine tk 1 ?_
           refine dn ?_)
        | (refine rg 14 ?_
           refine fc en12 ?_
           refine (sf12 hB).mono ?_; rintro x1 H7 ⟨ho7, rfl⟩
           refine tk 1 ?_
           refine dn ?_)
        | (refine rg 17 ?_
           refine tk 1 ?_
           refine fc en7 ?_
           refine SF.then (sf7 ..) ?_
           refine tk 5 ?_
           refine dn ?_)
        | (refine rg 24 ?_
           refine tk 2 ?_
           first | (refine te (fun hb => ?_) (fun hb => ?_) <;> (try simp at hb) <;> try (exfalso; omega)) | (refine tk 1 ?_)
           all_goals (refine tk 3 ?_
                      first | (refine te (fun hb => ?_) (fun hb => ?_) <;> (try simp at hb) <;> try (exfalso; omega)) | (refine tk 1 ?_)
                      all_goals (refine tk 2 ?_
                                 first | (refine te (fun hb => ?_) (fun hb => ?_) <;> (try simp at hb) <;> try (exfalso; omega)) | (refine tk 1 ?_)
                                 all_goals (refine tk 3 ?_
                                            first | (refine fg en17 ?_; refine SF.then (sf17 ..) ?_) | (refine tk 1 ?_)
                                            refine tk 2 ?_
                                            first | (refine te (fun hb => ?_) (fun hb => ?_) <;> (try simp at hb) <;> try (exfalso; omega)) | (refine tk 1 ?_)
                                            all_goals (first | (refine fg en12 ?_; refine (sf12 hB).mono ?_; rintro x1 H7 ⟨ho7, rfl⟩) | (refine tk 1 ?_)
                                                       refine tk 2 ?_
                                                       refine dn ?_)))))
        | refine ru ?_
        | (refine awp_if rfl (fun hb => ?_) (fun hb => ?_) <;> (try simp at hb) <;> try (exfalso; omega))
        | refine inN ?_
      rfl
    · repeat' first
        | refine aSq ?_ | refine aRt ?_ | refine aSk ?_ | refine aEx ?_ | refine aBl ?_ | refine tN ?_ | refine tR ?_ | refine tE ?_ | refine iR ?_
        | (refine rg 1 ?_
           refine tk 1 ?_
           refine fc en6 ?_
           refine SF.then (sf6 ..) ?_
           refine tk 1 ?_
           refine dn ?_)
        | (refine rg 2 ?_
           refine tk 1 ?_
           refine fc en7 ?_
           refine SF.then (sf7 ..) ?_
           refine tk 5 ?_
           refine dn ?_)
        | (refine rg 3 ?_
           refine tk 1 ?_
           refine fc en9 ?_
           refine SF.then (sf9 ..) ?_
           refine tk 5 ?_
           refine dn ?_)
        | (refine rg 4 ?_
           refine tk 2 ?_
           first | (refine te (fun hb => ?_) (fun hb => ?_) <;> (try simp at hb) <;> try (exfalso; omega)) | (refine tk 1 ?_)
           all_goals (refine tk 3 ?_
                      refine dn ?_))
        | (refine rg 5 ?_
           refine fc en12 ?_
           refine (sf12 hB).mono ?_; rintro x1 H7 ⟨ho7, rfl⟩
           refine tk 1 ?_
           refine dn ?_)
        | (refine rg 7 ?_
           refine tk 3 ?_
           refine fc en17 ?_
           refine SF.then (sf17 ..) ?_
           refine tk 1 ?_
           first | (refine te (fun hb => ?_) (fun hb => ?_) <;> (try simp at hb) <;> try (exfalso; omega)) | (refine tk 1 ?_)
           all_goals (refine tk 3 ?_
                      first | (refine fg en17 ?_; refine SF.then (sf17 ..) ?_) | (refine tk 1 ?_)
                      refine tk 2 ?_
                      refine dn ?_))
        | (refine rg 13 ?_
           refine tk 2 ?_
           refine fc en18 ?_
           refine SF.then (sf18 ..) ?_
           refine tk 1 ?_
           refine dn ?_)
        | (refine rg 14 ?_
           refine fc en12 ?_
           refine (sf12 hB).mono ?_; rintro x1 H7 ⟨ho7, rfl⟩
           refine tk 1 ?_
           refine dn ?_)
        | (refine rg 17 ?_
           refine tk 1 ?_
           refine fc en7 ?_
           refine SF.then (sf7 ..) ?_
           refine tk 5 ?_
           refine dn ?_)
        | (refine rg 24 ?_
           refine tk 2 ?_
           first | (refine te (fun hb => ?_) (fun hb => ?_) <;> (try simp at hb) <;> try (exfalso; omega)) | (refine tk 1 ?_)
           all_goals (refine tk 3 ?_
                      first | (refine te (fun hb => ?_) (fun hb => ?_) <;> (try simp at hb) <;> try (exfalso; omega)) | (refine tk 1 ?_)
                      all_goals (refine tk 2 ?_
                                 first | (refine te (fun hb => ?_) (fun hb => ?_) <;> (try simp at hb) <;> try (exfalso; omega)) | (refine tk 1 ?_)
                                 all_goals (refine tk 3 ?_
                                            first | (refine fg en17 ?_; refine SF.then (sf17 ..) ?_) | (refine tk 1 ?_)
                                            refine tk 2 ?_
                                            first | (refine te (fun hb => ?_) (fun hb => ?_) <;> (try simp at hb) <;> try (exfalso; omega)) | (refine tk 1 ?_)
                                            all_goals (first | (refine fg en12 ?_; refine (sf12 hB).mono ?_; rintro x1 H7 ⟨ho7, rfl⟩) | (refine tk 1 ?_)
                                                       refine tk 2 ?_
                                                       refine dn ?_)))))
        | refine ru ?_
        | (refine awp_if rfl (fun hb => ?_) (fun hb => ?_) <;> (try simp at hb) <;> try (exfalso; omega))
        | refine inN ?_
      rfl
    · rw [hb] at hag
      repeat' first
        | refine aSq ?_ | refine aRt ?_ | refine aSk ?_ | refine aEx ?_ | refine aBl ?_ | refine tN ?_ | refine tR ?_ | refine tE ?_ | refine iR ?_
        | (refine rg 1 ?_
           refine tk 1 ?_
           refine fc en6 ?_
           refine SF.then (sf6 ..) ?_
           refine tk 1 ?_
           refine dn ?_)
        | (refine rg 2 ?_
           refine tk 1 ?_
           refine fc en7 ?_
           refine SF.then (sf7 ..) ?_
           refine tk 5 ?_
           refine dn ?_)
        | (refine rg 3 ?_
           refine tk 1 ?_
           refine fc en9 ?_
           refine SF.then (sf9 ..) ?_
           refine tk 5 ?_
           refine dn ?_)
        | (refine rg 4 ?_
           refine tk 2 ?_
           first | (refine te (fun hb => ?_) (fun hb => ?_) <;> (try simp at hb) <;> try (exfalso; omega)) | (refine tk 1 ?_)
           all_goals (refine tk 3 ?_
                      refine dn ?_))
        | (refine rg 5 ?_
           refine fc en12 ?_
           refine (sf12 hB).mono ?_; rintro x1 H7 ⟨ho7, rfl⟩
           refine tk 1 ?_
           refine dn ?_)
        | (refine rg 7 ?_
           refine tk 3 ?_
           refine fc en17 ?_
           refine SF.then (hag _) ?_
           refine tk 1 ?_
           first | (refine te (fun hb => ?_) (fun hb => ?_) <;> (try simp at hb) <;> try (exfalso; omega)) | (refine tk 1 ?_)
           all_goals (refine tk 3 ?_
                      first | (refine fg en17 ?_; refine SF.then (hag _) ?_) | (refine tk 1 ?_)
                      refine tk 2 ?_
                      refine dn ?_))
        | (refine rg 13 ?_
           refine tk 2 ?_
           refine fc en18 ?_
           refine SF.then (sf18 ..) ?_
           refine tk 1 ?_
           refine dn ?_)
        | (refine rg 14 ?_
           refine fc en12 ?_
           refine (sf12 hB).mono ?_; rintro x1 H7 ⟨ho7, rfl⟩
           refine tk 1 ?_
           refine dn ?_)
        | (refine rg 17 ?_
           refine tk 1 ?_
           refine fc en7 ?_
           refine SF.then (sf7 ..) ?_
           refine tk 5 ?_
           refine dn ?_)
        | (refine rg 24 ?_
           refine tk 2 ?_
           first | (refine te (fun hb => ?_) (fun hb => ?_) <;> (try simp at hb) <;> try (exfalso; omega)) | (refine tk 1 ?_)
           all_goals (refine tk 3 ?_
                      first | (refine te (fun hb => ?_) (fun hb => ?_) <;> (try simp at hb) <;> try (exfalso; omega)) | (refine tk 1 ?_)
                      all_goals (refine tk 2 ?_
                                 first | (refine te (fun hb => ?_) (fun hb => ?_) <;> (try simp at hb) <;> try (exfalso; omega)) | (refine tk 1 ?_)
                                 all_goals (refine tk 3 ?_
                                            first | (refine fg en17 ?_; refine SF.then (hag _) ?_) | (refine tk 1 ?_)
                                            refine tk 2 ?_
                                            first | (refine te (fun hb => ?_) (fun hb => ?_) <;> (try simp at hb) <;> try (exfalso; omega)) | (refine tk 1 ?_)
                                            all_goals (first | (refine fg en12 ?_; refine (sf12 hB).mono ?_; rintro x1 H7 ⟨ho7, rfl⟩) | (refine tk 1 ?_)
                                                       refine tk 2 ?_
                                                       refine dn ?_)))))
        | refine ru ?_
        | (refine awp_if rfl (fun hb => ?_) (fun hb => ?_) <;> (try simp at hb) <;> try (exfalso; omega))
        | refine inN ?_
      rfl
end Go.Av
