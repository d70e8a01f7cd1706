/-
  Go read by value: lemmas (part 17): D12, D13, D14, D15, E1, E2, E3.
-/
import Derived.Test.YtdeocbficanfaaaGreatDoorZ01
import Derived.Test.YtdeocbficanfaaaGreatDoorZ13
import Derived.Test.YtdeocbficanfaaaGreatDoorZ16
set_option linter.unusedVariables false
set_option linter.unusedSimpArgs false
set_option linter.unusedSectionVars false
namespace Go.Av
open Go.Proofs
open Go.Lib (decodeL decodeL_width decodeL_le validD validD_step validD_nil)
variable {W0 : World}
set_option maxRecDepth 10000
set_option maxHeartbeats 4000000
def rns (l : List Nat) : List (List AV) := l.map fun (r : Nat) => [AV.int .i32 r]
@[simp] theorem rns_len (l : List Nat) : (rns l).length = l.length := by simp [rns]
@[simp] theorem rns_get (l : List Nat) (i : Nat) : (rns l)[i]? = (l[i]?).map fun (r : Nat) => [AV.int .i32 r] := by simp [rns]
@[simp] theorem rns_getE (l : List Nat) (i : Nat) (h : i < (rns l).length) : (rns l)[i] = [.int .i32 (l[i]'(by simpa using h))] := by simp [rns]
@[simp] theorem rns_ok (l : List Nat) : (rns l).all (fun x => x.all okCell) = true := by simp [rns]
@[simp] theorem rns_cln (n m : Nat) (l : List Nat) : clnLL n m (rns l) = rns l := clnLL_map (fun _ _ _ => rfl) n m l
theorem rns_append (a b : List Nat) : rns (a ++ b) = rns a ++ rns b := by simp [rns]
theorem sf51 {s : Str} {H : Hp} (hs : s.length ≤ 67108864) :
    SF Tryz.prog W0 51 [.str s] H fun r H' => H' = H ∧ r = (if validD s then .tuple [.sl 1 (rns (runes s)) .shut, .int .i64 0] else .tuple [.sl 1 [] .shut, .int .i64 4]) := by
  refine SF.pureLe (sf_start [2, 3] 28 Tryz.func51 rfl rfl rfl (by decide) (by simp) ?_)
  repeat' first
    | refine aSq ?_ | refine aBl ?_
    | refine ru ?_
    | fail
  refine awp_loop_inv (fun q st => ∃ (i : Nat) (pre : List Nat) (v : AV) (Hc : Hp), q = s.length - i ∧ i ≤ s.length ∧ pre.length ≤ i ∧ validD s = validD (s.drop i) ∧ runes s = pre ++ runes (s.drop i) ∧ Gr H Hc ∧ App H Hc 1 (rns pre) v ∧
    Sub st ⟨28, [(0, .str s), (4, v), (5, .int .i64 i)], Hc⟩) s.length
    ⟨0, [], .slnil, H, by simp, by simp, by simp, by simp, by simp, Gr.refl _, App.slnil _ _ _, rfl, rfl, only_cons (by simp) (only_cons (by simp) (only_cons (by simp) only_nil))⟩ ?_
  rintro q st ⟨i, pre, v, Hc, rfl, hi, hpl, hv, hr, hg, a1, hs2⟩
  refine awp_sub hs2 ?_
  clear hs2 st
  rcases Nat.lt_or_ge i s.length with hlt | hge
  · have hne : s.drop i ≠ [] := by intro h; have := congrArg List.length h; simp at this; omega
    have hw := decodeL_width (s.drop i)
    have hle := decodeL_le (s.drop i) hne
    rw [List.length_drop] at hle
    rw [validD_step _ hne] at hv
    rw [runes_step _ hne, List.drop_drop] at hr
    rw [List.drop_drop] at hv
    by_cases hbad : (decodeL (s.drop i)).1 = 65533 ∧ (decodeL (s.drop i)).2 = 1
    · rw [if_pos hbad] at hv
      have hn : nextR (s.drop i) = (0, 0) := if_pos hbad
      repeat' first
        | refine aSq ?_ | refine aRt ?_ | refine aSk ?_ | refine aBl ?_ | refine tN ?_ | refine tR ?_ | refine iR ?_
        | (refine rg 4 ?_; refine tk 2 ?_; refine fc en95 ?_; refine SF.then (sf95 hlt hs) ?_; simp only [hn]; refine tk 5 ?_; refine dn ?_)
        | refine ru ?_
        | (refine awp_if rfl (fun hb => ?_) (fun hb => ?_) <;> (try simp at hb) <;> try (exfalso; omega))
        | fail
      rw [if_neg (by rw [hv]; simp)]
      exact ⟨hg, .tuple [.sl 1 [] .shut, .int .i64 4], by simp, rfl⟩
    · rw [if_neg hbad] at hv
      have hn : nextR (s.drop i) = decodeL (s.drop i) := if_neg hbad
      obtain ⟨p, q, hd⟩ : ∃ p q, decodeL (s.drop i) = (p, q) := ⟨_, _, rfl⟩
      rw [hd] at hn hv hr hw hle
      simp only at hv hr hw hle
      repeat' first
        | refine aSq ?_ | refine aSk ?_ | refine aBl ?_ | refine tN ?_
        | (refine rg 4 ?_; refine tk 2 ?_; refine fc en95 ?_; refine SF.then (sf95 hlt hs) ?_; simp only [hn]; refine tk 5 ?_; refine dn ?_)
        | (refine rg 7 ?_; refine aops_take 3 (mu := mu0) tab_ok (by simp; rfl) ?_; obtain ⟨v', H', e1, a2, g2, ho2⟩ := a1.append (T := tab) hg (x := .sl 1 [[.int .i32 p]] .capped) (fs := [[.int .i32 p]]) (t := 109) (e := 21) tab109 tab21 rfl (by decide) (by simp) (by simp) (by simp; omega); refine aops_take 2 (mu := mu0) tab_ok (by simp [e1]; rfl) ?_; refine dn ?_)
        | refine ru ?_
        | (refine awp_if rfl (fun hb => ?_) (fun hb => ?_) <;> (try simp at hb) <;> try (exfalso; omega))
        | fail
      exact ⟨s.length - (i + q), by omega, i + q, pre ++ [p], v', H', rfl, by omega, by simp; omega, hv, by rw [hr]; simp, g2, by rw [rns_append]; exact a2, rfl, rfl, only_cons (by simp) (only_cons (by simp) (only_cons (by simp (disch := omega)) only_nil))⟩
  · have : i = s.length := by omega
    subst this
    simp only [List.drop_length, validD_nil, runes_nil, List.append_nil] at hv hr
    repeat' first
      | refine aSq ?_ | refine aRt ?_ | refine aEx ?_ | refine tN ?_
      | refine ru ?_
      | (refine awp_if rfl (fun hb => ?_) (fun hb => ?_) <;> (try simp at hb) <;> try (exfalso; omega))
      | fail
    rw [if_pos hv]
    exact ⟨hg, .tuple [.sl 1 (rns (runes s)) .shut, .int .i64 0], by rw [hr]; have q := a1.le'; simp at q; simp; exact .tuple (.cons q (.cons (.refl _) .nil)), rfl⟩
theorem nameRs_drop (l : List Nat) (i : Nat) (h : i < l.length) (f : Bool) : nameRs f (l.drop i) = (okR f l[i] && nameRs false (l.drop (i + 1))) := by
  rw [List.drop_eq_getElem_cons h]; rfl
theorem runesF_len : ∀ (n : Nat) (l : Str), (runesF n l).length ≤ n
  | 0, _ => by simp [runesF]
  | n + 1, l => by
    simp only [runesF]
    split
    · simp
    · simpa using runesF_len n _
theorem runes_len (s : Str) : (runes s).length ≤ s.length := runesF_len _ _
theorem sf135 {s : Str} {H : Hp} (hs : s.length ≤ 67108864) : SF Tryz.prog W0 135 [.str s] H fun r H' => H' = H ∧ r = .bool (nameB s) := by
  refine SF.pureLe (sf_start [2] 52 Tryz.func135 rfl rfl rfl (by decide) (by simp) ?_)
  by_cases hv : validD s = true
  · repeat' first
      | refine aSq ?_ | refine aRt ?_ | refine aSk ?_ | refine aBl ?_ | refine tN ?_ | refine tR ?_
      | (refine rg 1 ?_; refine tk 1 ?_; refine fc en51 ?_; refine SF.then (sf51 hs) ?_; simp only [hv, if_true]; refine tk 5 ?_; refine dn ?_)
      | (refine rg 2 ?_; refine tk 2 ?_; (first | (refine te (fun hb => ?_) (fun hb => ?_) <;> (try simp at hb) <;> try (exfalso; omega)) | (refine tk 1 ?_)); all_goals (refine tk 4 ?_; (first | (refine te (fun hb => ?_) (fun hb => ?_) <;> (try simp at hb) <;> try (exfalso; omega)) | (refine tk 1 ?_)); all_goals (refine tk 4 ?_; refine dn ?_)))
      | refine ru ?_
      | (refine awp_if rfl (fun hb => ?_) (fun hb => ?_) <;> (try simp at hb) <;> try (exfalso; omega))
      | fail
    · exact ⟨Gr.refl _, .bool false, by simp, by simp [nameB]; omega⟩
    · exact ⟨Gr.refl _, .bool false, by simp, by simp [nameB]; omega⟩
    have hlb : (decide (1 ≤ s.length ∧ s.length ≤ 32)) = true := by simp; omega
    have hrl := runes_len s
    refine awp_loop_inv (fun q st => ∃ i : Nat, q = (runes s).length - i ∧ i ≤ (runes s).length ∧ nameRs true (runes s) = nameRs (decide (i = 0)) ((runes s).drop i) ∧ Sub st ⟨52, [(5, .int .i64 i), (3, .sl 1 (rns (runes s)) .shut)], H⟩) (runes s).length ⟨0, by simp, by simp, by simp, ⟨rfl, rfl, only_cons (by simp) (only_cons (by simp) only_nil)⟩⟩ ?_
    rintro q st ⟨i, rfl, hi, hn, hs2⟩
    refine awp_sub hs2 ?_
    clear hs2 st
    rcases Nat.lt_or_ge i (runes s).length with hlt | hge
    · rw [nameRs_drop _ _ hlt] at hn
      repeat' first
        | refine aSq ?_ | refine aRt ?_ | refine aSk ?_ | refine aBl ?_ | refine tN ?_ | refine tR ?_ | refine iR ?_
        | (refine rg 7 ?_; refine tk 4 ?_; refine fc en53 ?_; refine SF.then sf53 ?_; refine tk 1 ?_; refine dn ?_)
        | (refine rg 8 ?_; refine tk 2 ?_; (first | (refine te (fun hb => ?_) (fun hb => ?_) <;> (try simp at hb) <;> try (exfalso; omega)) | (refine tk 1 ?_)); all_goals (refine tk 2 ?_; (first | (refine te (fun hb => ?_) (fun hb => ?_) <;> (try simp at hb) <;> try (exfalso; omega)) | (refine tk 1 ?_)); all_goals (refine tk 2 ?_; (first | (refine te (fun hb => ?_) (fun hb => ?_) <;> (try simp at hb) <;> try (exfalso; omega)) | (refine tk 1 ?_)); all_goals (refine tk 8 ?_; refine dn ?_))))
        | refine ru ?_
        | (refine awp_if rfl (fun hb => ?_) (fun hb => ?_) <;> (try simp at hb) <;> try (exfalso; omega))
        | fail
      all_goals first
        | (have ho : okR (decide (i = 0)) (runes s)[i] = false := by clear hn; simp_all [okR] <;> omega
           rw [ho] at hn
           exact ⟨Gr.refl _, .bool false, by simp, by simp [nameB, hn]⟩)
        | (have ho : okR (decide (i = 0)) (runes s)[i] = true := by clear hn; simp_all [okR] <;> omega
           rw [ho] at hn
           exact ⟨(runes s).length - (i + 1), by omega, i + 1, rfl, by omega, by simpa using hn, rfl, rfl, only_cons (by simp (disch := omega)) (only_cons (by simp) only_nil)⟩)
    · have : i = (runes s).length := by omega
      subst this
      simp only [List.drop_length, nameRs] at hn
      repeat' first
        | refine aSq ?_ | refine aRt ?_ | refine aEx ?_ | refine tN ?_
        | refine ru ?_
        | (refine awp_if rfl (fun hb => ?_) (fun hb => ?_) <;> (try simp at hb) <;> try (exfalso; omega))
        | fail
      exact ⟨Gr.refl _, .bool true, by simp, by simp [nameB, hv, hn]; omega⟩
  · have hv : validD s = false := by simpa using hv
    repeat' first
      | refine aSq ?_ | refine aRt ?_ | refine tN ?_ | refine tR ?_
      | (refine rg 1 ?_; refine tk 1 ?_; refine fc en51 ?_; refine SF.then (sf51 hs) ?_; simp only [hv, Bool.false_eq_true, if_false]; refine tk 5 ?_; refine dn ?_)
      | (refine rg 2 ?_; refine tk 2 ?_; (first | (refine te (fun hb => ?_) (fun hb => ?_) <;> (try simp at hb) <;> try (exfalso; omega)) | (refine tk 1 ?_)); all_goals (refine tk 4 ?_; (first | (refine te (fun hb => ?_) (fun hb => ?_) <;> (try simp at hb) <;> try (exfalso; omega)) | (refine tk 1 ?_)); all_goals (refine tk 4 ?_; refine dn ?_)))
      | refine ru ?_
      | (refine awp_if rfl (fun hb => ?_) (fun hb => ?_) <;> (try simp at hb) <;> try (exfalso; omega))
      | fail
    all_goals (exact ⟨Gr.refl _, .bool false, by simp, by simp [nameB, hv]⟩)
def wordsL : List Str := [[118, 97, 108], [116, 121, 112, 101], [100, 97, 116, 97, 116, 121, 112, 101], [115, 116, 114, 117, 99, 116, 117, 114, 101], [115, 105, 103, 110, 97, 116, 117, 114, 101], [102, 117, 110, 99, 116, 111, 114], [111, 112, 101, 110], [105, 110, 99, 108, 117, 100, 101], [115, 116, 114, 117, 99, 116], [101, 110, 100], [115, 105, 103], [119, 104, 101, 114, 101], [115, 104, 97, 114, 105, 110, 103], [102, 110], [108, 101, 116], [105, 110], [105, 102], [116, 104, 101, 110], [101, 108, 115, 101], [99, 97, 115, 101], [102, 111, 108, 100], [111, 102], [116, 111], [105, 110, 116], [98, 111, 111, 108], [117, 110, 105, 116], [116, 114, 117, 101], [102, 97, 108, 115, 101], [109, 117]]
theorem sf168 {H : Hp} : SF Tryz.prog W0 168 [] H fun r H' => H' = H ∧ r = .sl 1 (strs wordsL) .shut := by
  refine SF.pureLe (sf_start [0] 2 Tryz.func168 rfl rfl rfl (by decide) (by simp) ?_)
  repeat' first
    | refine aSq ?_ | refine aRt ?_
    | refine ru ?_
    | fail
  exact ⟨Gr.refl _, _, by simp [strs, wordsL], rfl⟩
theorem sf134 {s : Str} {H : Hp} : SF Tryz.prog W0 134 [.str s] H fun r H' => H' = H ∧ r = .bool (wordsL.any (· == s)) := by
  refine SF.pureLe (sf_start [2] 18 Tryz.func134 rfl rfl rfl (by decide) (by simp) ?_)
  repeat' first
    | refine aSq ?_ | refine aBl ?_
    | (refine rg 1 ?_; refine fc en168 ?_; refine SF.then sf168 ?_; refine tk 1 ?_; refine dn ?_)
    | refine ru ?_
    | fail
  have hl : wordsL.length = 29 := rfl
  refine awp_loop_inv (fun q st => ∃ i : Nat, q = 29 - i ∧ i ≤ 29 ∧ (wordsL.take i).any (· == s) = false ∧ Sub st ⟨18, [(4, .int .i64 i), (0, .str s), (3, .sl 1 (strs wordsL) .shut)], H⟩) 29 ⟨0, by simp, by simp, by simp, ⟨rfl, rfl, only_cons (by simp) (only_cons (by simp) (only_cons (by simp) only_nil))⟩⟩ ?_
  rintro q st ⟨i, rfl, hi, hh, hs2⟩
  refine awp_sub hs2 ?_
  clear hs2 st
  generalize wordsL = l at *
  repeat' first
    | refine aSq ?_ | refine aRt ?_ | refine aSk ?_ | refine aEx ?_ | refine aBl ?_ | refine tN ?_ | refine tR ?_ | refine iR ?_
    | refine ru ?_
    | (refine awp_if rfl (fun hb => ?_) (fun hb => ?_) <;> (try simp at hb) <;> try (exfalso; omega))
    | fail
  · have h5 := any_take_succ (· == s) l i (by assumption)
    have h6 : l.any (· == s) = true := any_of_take _ l (i + 1) (by rw [h5]; simp [hb])
    exact ⟨Gr.refl _, .bool true, by simp, by rw [h6]⟩
  · have h5 := any_take_succ (· == s) l i (by assumption)
    exact ⟨29 - (i + 1), by omega, i + 1, rfl, by omega, by rw [h5, hh]; simp [hb], rfl, rfl, only_cons (by simp (disch := omega)) (only_cons (by simp) (only_cons (by simp) only_nil))⟩
  · rw [List.take_of_length_le (by omega)] at hh
    exact ⟨Gr.refl _, .bool false, by simp, by rw [hh]⟩
def checkB (s : Str) : Bool := nameB s && !(wordsL.any (· == s))
theorem sf157 {s : Str} {H : Hp} (hs : s.length ≤ 67108864) : SF Tryz.prog W0 157 [.str s] H fun r H' => H' = H ∧ r = .bool (checkB s) := by
  refine SF.pureLe (sf_start [2] 10 Tryz.func157 rfl rfl rfl (by decide) (by simp) ?_)
  repeat' first
    | refine aSq ?_ | refine aRt ?_
    | (refine rg 1 ?_; refine tk 1 ?_; refine fc en135 ?_; refine SF.then (sf135 hs) ?_; (first | (refine te (fun hb => ?_) (fun hb => ?_) <;> (try simp at hb) <;> try (exfalso; omega)) | (refine tk 1 ?_)); all_goals (refine tk 1 ?_; (first | (refine fg en134 ?_; refine SF.then sf134 ?_) | (refine tk 1 ?_)); refine tk 3 ?_; refine dn ?_))
    | refine ru ?_
    | fail
  all_goals (simp [retQ, checkB, *])
end Go.Av
namespace Go.Av
open Go.Proofs
variable {W0 : World}
set_option maxRecDepth 10000
set_option maxHeartbeats 4000000
theorem pieces_step (s : Str) (i : Nat) (h : i < s.length) (acc : Str) : pieces acc (s.drop i) = if s[i] = 46 then acc :: pieces [] (s.drop (i + 1)) else pieces (acc ++ [s[i]]) (s.drop (i + 1)) := by
  rw [List.drop_eq_getElem_cons h]; rfl
theorem pieces_len (acc l : Str) : (pieces acc l).length ≤ l.length + 1 := by
  induction l generalizing acc with
  | nil => simp [pieces]
  | cons c l ih =>
    simp only [pieces]
    split
    · have := ih []; simp only [List.length_cons]; omega
    · have := ih (acc ++ [c]); simp only [List.length_cons]; omega
theorem take_drop_succ (s : Str) (a i : Nat) (ha : a ≤ i) (h : i < s.length) : (s.take i).drop a ++ [s[i]] = (s.take (i + 1)).drop a := by
  rw [List.take_add_one, List.getElem?_eq_getElem h, List.drop_append_of_le_length (by simp; omega)]; rfl
theorem sf193 {s : Str} {H : Hp} (hs : s.length ≤ 67108863) : SF Tryz.prog W0 193 [.str s] H fun r H' => H' = H ∧ r = .sl 1 (strs (pieces [] s)) .shut := by
  refine SF.pureLe (sf_start [2] 31 Tryz.func193 rfl rfl rfl (by decide) (by simp) ?_)
  repeat' first
    | refine aSq ?_ | refine aBl ?_
    | refine ru ?_
    | fail
  refine awp_loop_inv (fun q st => ∃ (i a : Nat) (pre : List Str) (v : AV) (Hc : Hp), q = s.length - i ∧ i ≤ s.length ∧ a ≤ i ∧ pre.length ≤ i ∧ pieces [] s = pre ++ pieces ((s.take i).drop a) (s.drop i) ∧ Gr H Hc ∧ App H Hc 1 (strs pre) v ∧
    Sub st ⟨31, [(0, .str s), (3, v), (4, .int .i64 a), (5, .int .i64 i)], Hc⟩) s.length
    ⟨0, 0, [], .slnil, H, by simp, by simp, by simp, by simp, by simp, Gr.refl _, App.slnil _ _ _, rfl, rfl, only_cons (by simp) (only_cons (by simp) (only_cons (by simp) (only_cons (by simp) only_nil)))⟩ ?_
  rintro q st ⟨i, a, pre, v, Hc, rfl, hi, hai, hpl, hp, hg, a1, hs2⟩
  refine awp_sub hs2 ?_
  clear hs2 st
  rcases Nat.lt_or_ge i s.length with hlt | hge
  · rw [pieces_step s i hlt] at hp
    repeat' first
      | refine aSq ?_ | refine aSk ?_ | refine aBl ?_ | refine tN ?_
      | (refine rg 7 ?_; refine aops_take 6 (mu := mu0) tab_ok (by simp [hai, hi]; rfl) ?_; obtain ⟨v', H', e1, a2, g2, ho2⟩ := a1.append (T := tab) hg (x := .sl 1 [[.str ((s.take i).drop a)]] .capped) (fs := [[.str ((s.take i).drop a)]]) (t := 36) (e := 9) tab36 tab9 rfl (by decide) (by simp) (by simp) (by simp; omega); refine aops_take 2 (mu := mu0) tab_ok (by simp [e1]; rfl) ?_; refine dn ?_)
      | (refine ru ?_ (by simp (disch := omega) [hai, hi]; with_reducible rfl))
      | (refine awp_if rfl (fun hb => ?_) (fun hb => ?_) <;> (try simp at hb) <;> try (exfalso; omega))
      | fail
    · have h46 : s[i] = 46 := by rw [← UInt8.toNat_inj]; show s[i].toNat = 46; omega
      rw [if_pos h46] at hp
      exact ⟨s.length - (i + 1), by omega, i + 1, i + 1, pre ++ [(s.take i).drop a], v', H', rfl, by omega, by omega, by simp; omega, by rw [hp]; simp, g2, by rw [strs_append]; exact a2, rfl, rfl, only_cons (by simp) (only_cons (by simp) (only_cons (by simp (disch := omega)) (only_cons (by simp (disch := omega)) only_nil)))⟩
    · have h46 : s[i] ≠ 46 := by intro h; rw [h] at hb; exact hb rfl
      rw [if_neg h46, take_drop_succ s a i hai hlt] at hp
      exact ⟨s.length - (i + 1), by omega, i + 1, a, pre, v, Hc, rfl, by omega, by omega, by omega, hp, hg, a1, rfl, rfl, only_cons (by simp) (only_cons (by simp) (only_cons (by simp (disch := omega)) (only_cons (by simp (disch := omega)) only_nil)))⟩
  · have : i = s.length := by omega
    subst this
    simp only [List.drop_length, pieces, List.take_length] at hp
    repeat' first
      | refine aSq ?_ | refine aRt ?_ | refine aEx ?_ | refine tN ?_
      | (refine rg 9 ?_; refine aops_take 5 (mu := mu0) tab_ok (by simp [hai, hi]; rfl) ?_; obtain ⟨v', H', e1, a2, g2, ho2⟩ := a1.append (T := tab) hg (x := .sl 1 [[.str (s.drop a)]] .capped) (fs := [[.str (s.drop a)]]) (t := 36) (e := 9) tab36 tab9 rfl (by decide) (by simp) (by simp) (by simp; omega); refine aops_take 2 (mu := mu0) tab_ok (by simp [e1]; rfl) ?_; refine dn ?_)
      | (refine ru ?_ (by simp (disch := omega) [hai, hi]; with_reducible rfl))
      | (refine awp_if rfl (fun hb => ?_) (fun hb => ?_) <;> (try simp at hb) <;> try (exfalso; omega))
      | fail
    refine ⟨g2, _, ?_, rfl⟩
    have q := a2.le'
    rw [hp, strs_append]
    rw [show strs [s.drop a] = [[AV.str (s.drop a)]] from rfl]
    simpa [clnLL_append] using q
def longB (s : Str) : Bool := decide (s.length ≤ 128) && (pieces [] s).all checkB
theorem pieces_le (s : Str) : ∀ (acc l : Str), acc.length + l.length ≤ s.length → ∀ x ∈ pieces acc l, x.length ≤ s.length := by
  intro acc l
  induction l generalizing acc with
  | nil => intro h x hx; simp only [pieces, List.mem_singleton] at hx; subst hx; simpa using h
  | cons c l ih =>
    intro h x hx
    simp only [List.length_cons] at h
    simp only [pieces] at hx
    split at hx
    · simp only [List.mem_cons] at hx
      rcases hx with rfl | hx
      · omega
      · exact ih [] (by simp; omega) x hx
    · exact ih _ (by simp; omega) x hx
theorem sf158 {s : Str} {H : Hp} (hs : s.length ≤ 67108863) : SF Tryz.prog W0 158 [.str s] H fun r H' => H' = H ∧ r = .bool (longB s) := by
  refine SF.pureLe (sf_start [2] 22 Tryz.func158 rfl rfl rfl (by decide) (by simp) ?_)
  repeat' first
    | refine aSq ?_ | refine aRt ?_ | refine aSk ?_ | refine aBl ?_ | refine tN ?_ | refine tR ?_
    | (refine rg 3 ?_; refine tk 1 ?_; refine fc en193 ?_; refine SF.then (sf193 hs) ?_; refine tk 1 ?_; refine dn ?_)
    | refine ru ?_
    | (refine awp_if rfl (fun hb => ?_) (fun hb => ?_) <;> (try simp at hb) <;> try (exfalso; omega))
    | fail
  · exact ⟨Gr.refl _, .bool false, by simp, by simp [longB]; omega⟩
  have hl := pieces_len [] s
  have hx := pieces_le s [] s (by simp)
  have hd : decide (s.length ≤ 128) = true := by simp; omega
  have hL : longB s = (pieces [] s).all checkB := by rw [longB, hd, Bool.true_and]
  rw [hL]
  generalize pieces [] s = l at *
  refine awp_loop_inv (fun q st => ∃ i : Nat, q = l.length - i ∧ i ≤ l.length ∧ (l.take i).all checkB = true ∧ Sub st ⟨22, [(4, .int .i64 i), (3, .sl 1 (strs l) .shut)], H⟩) l.length ⟨0, by simp, by simp, by simp, ⟨rfl, rfl, only_cons (by simp) (only_cons (by simp) only_nil)⟩⟩ ?_
  rintro q st ⟨i, rfl, hi, hh, hs2⟩
  refine awp_sub hs2 ?_
  clear hs2 st
  repeat' first
    | refine aSq ?_ | refine aRt ?_ | refine aSk ?_ | refine aEx ?_ | refine aBl ?_ | refine tN ?_ | refine tR ?_ | refine iR ?_
    | (refine rg 7 ?_; refine tk 4 ?_; refine fc en157 ?_; refine SF.then (sf157 (by have := hx l[i] (List.getElem_mem _); omega)) ?_; refine tk 1 ?_; refine dn ?_)
    | refine ru ?_
    | (refine awp_if rfl (fun hb => ?_) (fun hb => ?_) <;> (try simp at hb) <;> try (exfalso; omega))
    | fail
  · have h5 := all_take_succ checkB l i (by assumption)
    have h6 : l.all checkB = false := all_of_take checkB l (i + 1) (by rw [h5, hb]; simp)
    exact ⟨Gr.refl _, .bool false, by simp, by rw [h6]⟩
  · have h5 := all_take_succ checkB l i (by assumption)
    exact ⟨l.length - (i + 1), by omega, i + 1, rfl, by omega, by rw [h5, hh, hb]; rfl, rfl, rfl, only_cons (by simp (disch := omega)) (only_cons (by simp) only_nil)⟩
  · rw [List.take_of_length_le (by omega)] at hh
    exact ⟨Gr.refl _, .bool true, by simp, by rw [hh]⟩
def splitB (s : Str) : List Str := if longB s then pieces [] s else []
theorem sf160 {s : Str} {H : Hp} (hs : s.length ≤ 67108863) : SF Tryz.prog W0 160 [.str s] H fun r H' => H' = H ∧ r = .sl 1 (strs (splitB s)) .shut := by
  refine SF.pureLe (sf_start [2] 8 Tryz.func160 rfl rfl rfl (by decide) (by simp) ?_)
  repeat' first
    | refine aSq ?_ | refine aRt ?_ | refine aSk ?_ | refine tN ?_ | refine tR ?_
    | (refine rg 1 ?_; refine tk 1 ?_; refine fc en158 ?_; refine SF.then (sf158 hs) ?_; refine tk 1 ?_; refine dn ?_)
    | (refine rg 3 ?_; refine tk 1 ?_; refine fc en193 ?_; refine SF.then (sf193 hs) ?_; refine tk 1 ?_; refine dn ?_)
    | refine ru ?_
    | (refine awp_if rfl (fun hb => ?_) (fun hb => ?_) <;> (try simp at hb) <;> try (exfalso; omega))
    | fail
  · exact ⟨Gr.refl _, _, by simp; exact .nilShut 1, by simp [splitB, hb, strs]⟩
  · exact ⟨Gr.refl _, _, by simp; exact .refl _, by simp [splitB, hb]⟩
end Go.Av
namespace Go.Av
open Go.Proofs
variable {W0 : World}
set_option maxRecDepth 10000
set_option maxHeartbeats 4000000
theorem sf164 {l : List Str} {own : Own} {s : Str} {H : Hp} (hl : l.length ≤ 67108864) :
    SF Tryz.prog W0 164 [.sl 1 (strs l) own, .str s] H fun r H' => H' = H ∧ ∃ v : Int, r = .int .i64 v ∧ (0 ≤ v ↔ l.any (· == s) = true) := by
  refine SF.pureLe (sf_start [4] 19 Tryz.func164 rfl rfl rfl (by decide) (by simp) ?_)
  repeat' first
    | refine aSq ?_ | refine aBl ?_
    | refine ru ?_
    | fail
  refine awp_loop_inv (fun m st => ∃ i : Nat, m = l.length - i ∧ i ≤ l.length ∧ (l.take i).any (· == s) = false ∧ Sub st ⟨19, [(8, .int .i64 i), (7, .int .i64 l.length), (0, .sl 1 (strs l) own), (1, .str s)], H⟩) l.length ⟨0, by simp, by simp, by simp, ⟨rfl, rfl, only_cons (by simp) (only_cons (by simp) (only_cons (by simp) (only_cons (by simp) only_nil)))⟩⟩ ?_
  rintro m st ⟨i, rfl, hi, hh, hs2⟩
  refine awp_sub hs2 ?_
  clear hs2 st
  repeat' first
    | refine aSq ?_ | refine aRt ?_ | refine aSk ?_ | refine aEx ?_ | refine aBl ?_ | refine tN ?_ | refine tR ?_ | refine iR ?_
    | refine ru ?_
    | (refine awp_if rfl (fun hb => ?_) (fun hb => ?_) <;> (try simp at hb) <;> try (exfalso; omega))
    | fail
  · have h5 := any_take_succ (· == s) l i (by assumption)
    have h6 : l.any (· == s) = true := any_of_take _ l (i + 1) (by rw [h5]; simp [hb])
    exact ⟨Gr.refl _, .int .i64 i, by simp, i, rfl, by simp only [h6, iff_true]; omega⟩
  · have h5 := any_take_succ (· == s) l i (by assumption)
    exact ⟨l.length - (i + 1), by omega, i + 1, rfl, by omega, by rw [h5, hh]; simp; exact fun e => hb e.symm, rfl, rfl, only_cons (by simp (disch := omega)) (only_cons (by simp) (only_cons (by simp) (only_cons (by simp) only_nil)))⟩
  · rw [List.take_of_length_le (by omega)] at hh
    exact ⟨Gr.refl _, .int .i64 (-1), by simp, -1, rfl, by simp only [hh]; simp⟩
theorem sf123 {l : List Str} {own : Own} {s : Str} {H : Hp} (hl : l.length ≤ 67108864) :
    SF Tryz.prog W0 123 [.sl 1 (strs l) own, .str s] H fun r H' => H' = H ∧ r = .bool (l.any (· == s)) := by
  refine SF.pureLe (sf_start [4] 9 Tryz.func123 rfl rfl rfl (by decide) (by simp) ?_)
  repeat' first
    | refine aSq ?_ | refine aRt ?_
    | (refine rg 1 ?_; refine tk 2 ?_; refine fc en164 ?_; refine (sf164 hl).mono ?_; rintro r H1 ⟨rfl, v, rfl, hv⟩; refine tk 2 ?_; refine dn ?_)
    | refine ru ?_
    | fail
  have h5 : decide (0 ≤ v) = l.any (· == s) := by rw [Bool.eq_iff_iff]; simpa using hv
  exact ⟨Gr.refl _, .bool (l.any (· == s)), by simp only [retQ, look]; simp [h5], rfl⟩
theorem sf124 {H : Hp} : SF Tryz.prog W0 124 [] H fun r H' => H' = H ∧ r = .sl 1 (strs wordsL) .shut := by
  refine SF.pureLe (sf_start [0] 2 Tryz.func124 rfl rfl rfl (by decide) (by simp) ?_)
  repeat' first
    | refine aSq ?_ | refine aRt ?_
    | refine ru ?_
    | fail
  exact ⟨Gr.refl _, _, by simp [strs, wordsL], rfl⟩
theorem sf88 {s : Str} {H : Hp} : SF Tryz.prog W0 88 [.str s] H fun r H' => H' = H ∧ r = .bool (wordsL.any (· == s)) := by
  refine SF.pureLe (sf_start [2] 6 Tryz.func88 rfl rfl rfl (by decide) (by simp) ?_)
  repeat' first
    | refine aSq ?_ | refine aRt ?_
    | (refine rg 1 ?_; refine fc en124 ?_; refine SF.then sf124 ?_; refine tk 1 ?_; refine fc en123 ?_; refine SF.then (sf123 (by decide)) ?_; refine tk 1 ?_; refine dn ?_)
    | refine ru ?_
    | fail
  all_goals (simp [retQ])
theorem aeff_nilq {P : Program} {T : Tab} {ops : Array Oper} {st : St} {o : Oper} {t t' e : TypeId} {s sz : Nat} {z : List ZC} {x y : Operand} {own : Own} {K : Hp → AV → Prop} (hT : TabOK P T) (hw : wantA ops st o = some true) (ho : o.op = .binOp .eql t x y t')
    (ht : T t = some ⟨s, .slice e, z⟩) (hx : st.eval x = .sl sz [] own) (hy : st.eval y = .slnil) (h : ∀ b, K st.H (.bool b)) : AEff P W0 ops o st K := by
  intro g w a r
  refine .inr ⟨wantA_sound hw r, ?_⟩
  obtain ⟨d, hd, hk⟩ := (hT t _ ht).kind
  cases hk
  have vx := r.eval x
  have vy := r.eval y
  rw [hx] at vx; rw [hy] at vy
  have main : ∀ p l c, a.eval x = .slice p l c → Runs P ((execOp a.eval o).run P w) fun v w' => ∃ g' y H', Ext g w g' w' ∧ WInv W0 g' H' w' ∧ VR g' w' y v ∧ K H' y := by
    intro p l c hp
    have hrun : (execOp a.eval o).run P w = .ok (.value (.bool (p.isNone && true))) w := by
      have h1 := bin_eql (equal_slice (w := w) hd p none l c 0 0 (by simp)) rfl
      have h2 : (eqGuard .eql t x y (.slice p l c) (.slice none 0 0)).run P w = .ok () w := eqGuard_ok (by simp) (by simp)
      simp only [VR] at vy
      unfold execOp; rw [ho]
      simp [hp, vy, h2, h1]
    rw [hrun]
    exact ⟨g, .bool (p.isNone && true), st.H, .refl _ _, r.inv, rfl, h _⟩
  rcases vx with ⟨_, _, e⟩ | ⟨b, o, cap, e, _⟩
  · exact main _ _ _ e
  · exact main _ _ _ e
theorem binA_sl_nil {T : Tab} {t e s sz : Nat} {z : List ZC} {es : List (List AV)} {own : Own} (h : T t = some ⟨s, .slice e, z⟩) (hne : es ≠ []) : binA T .eql t (.sl sz es own) .slnil = some (.bool false) := by
  have : es.isEmpty = false := by cases es <;> simp_all
  simp [binA, h, nilA, isNilA, this]
theorem sf25 {l : List Int} {own : Own} {H : Hp} (hl : l.length ≤ 67108864) : SF Tryz.prog W0 25 [.sl 1 (ints l) own] H fun r H' => H' = H ∧ r = .sl 1 (ints l) .shut := by
  refine SF.pureLe (sf_start [2] 8 Tryz.func25 rfl rfl rfl (by decide) (by simp) ?_)
  have key : ∃ v' H', appendA tab H 33 33 (.sl 1 [] .capped) (.sl 1 (ints l) own) = some (v', H') ∧ App H H' 1 ([] ++ ints l) v' ∧ Gr H H' ∧ H'.objs = H.objs :=
    (App.capped H H 1 []).append (Gr.refl H) tab33 tab3 rfl (by decide) (by simp) (by simp) (by simp; omega)
  obtain ⟨v', H', e1, a1, g1, o1⟩ := key
  simp only [List.nil_append] at a1
  have hfin : Le (cln H.objs.length H.hi.length v') (.sl 1 (ints l) .shut) := by simpa using a1.le'
  cases l with
  | nil =>
    repeat' first
      | refine aSq ?_ | refine aRt ?_ | refine aSk ?_ | refine tN ?_ | refine tR ?_
      | (refine rg 1 ?_; refine aops_take 1 (mu := mu0) tab_ok (by simp; rfl) ?_; refine aops_cons (aeff_nilq tab_ok rfl rfl tab33 rfl rfl fun b => ?_); refine dn ?_)
      | (refine awp_run (mu := mu0) tab_ok (by simp [e1]; rfl) ?_)
      | (refine awp_if rfl (fun hb => ?_) (fun hb => ?_) <;> (try simp at hb) <;> try (exfalso; omega))
      | fail
    · exact ⟨Gr.refl _, _, by simp; exact .nilShut 1, rfl⟩
    · exact ⟨g1, _, by simp; exact hfin, rfl⟩
  | cons x l =>
    have hne := binA_sl_nil (T := tab) (sz := 1) (own := own) tab33 (show ints (x :: l) ≠ [] by simp)
    repeat' first
      | refine aSq ?_ | refine aRt ?_ | refine aSk ?_ | refine tN ?_
      | (refine awp_run (mu := mu0) tab_ok (by simp [e1]; rfl) ?_)
      | (refine awp_if rfl (fun hb => ?_) (fun hb => ?_) <;> (try simp at hb) <;> try (exfalso; omega))
      | fail
    exact ⟨g1, _, by simp; exact hfin, rfl⟩
theorem sf113 {l : List Str} {own : Own} {H : Hp} (hl : l.length ≤ 67108864) : SF Tryz.prog W0 113 [.sl 1 (strs l) own] H fun r H' => H' = H ∧ r = .sl 1 (strs l) .shut := by
  refine SF.pureLe (sf_start [2] 8 Tryz.func113 rfl rfl rfl (by decide) (by simp) ?_)
  have key : ∃ v' H', appendA tab H 36 36 (.sl 1 [] .capped) (.sl 1 (strs l) own) = some (v', H') ∧ App H H' 1 ([] ++ strs l) v' ∧ Gr H H' ∧ H'.objs = H.objs :=
    (App.capped H H 1 []).append (Gr.refl H) tab36 tab9 rfl (by decide) (by simp) (by simp) (by simp; omega)
  obtain ⟨v', H', e1, a1, g1, o1⟩ := key
  simp only [List.nil_append] at a1
  have hfin : Le (cln H.objs.length H.hi.length v') (.sl 1 (strs l) .shut) := by simpa using a1.le'
  cases l with
  | nil =>
    repeat' first
      | refine aSq ?_ | refine aRt ?_ | refine aSk ?_ | refine tN ?_ | refine tR ?_
      | (refine rg 1 ?_; refine aops_take 1 (mu := mu0) tab_ok (by simp; rfl) ?_; refine aops_cons (aeff_nilq tab_ok rfl rfl tab36 rfl rfl fun b => ?_); refine dn ?_)
      | (refine awp_run (mu := mu0) tab_ok (by simp [e1]; rfl) ?_)
      | (refine awp_if rfl (fun hb => ?_) (fun hb => ?_) <;> (try simp at hb) <;> try (exfalso; omega))
      | fail
    · exact ⟨Gr.refl _, _, by simp; exact .nilShut 1, rfl⟩
    · exact ⟨g1, _, by simp; exact hfin, rfl⟩
  | cons x l =>
    have hne := binA_sl_nil (T := tab) (sz := 1) (own := own) tab36 (show strs (x :: l) ≠ [] by simp)
    repeat' first
      | refine aSq ?_ | refine aRt ?_ | refine aSk ?_ | refine tN ?_
      | (refine awp_run (mu := mu0) tab_ok (by simp [e1]; rfl) ?_)
      | (refine awp_if rfl (fun hb => ?_) (fun hb => ?_) <;> (try simp at hb) <;> try (exfalso; omega))
      | fail
    exact ⟨g1, _, by simp; exact hfin, rfl⟩
end Go.Av
namespace Go.Av
open Go.Proofs
open Go.Lib (decodeL decodeL_width decodeL_le validD validD_step validD_nil)
variable {W0 : World}
set_option maxRecDepth 10000
set_option maxHeartbeats 4000000
def sortS (l : List Str) : List Str := l.mergeSort fun x y => decide (x ≤ y)
def mapIs (H : Hp) (m : AV) (ks : List Str) : Prop := (m = .mnil ∧ ks = []) ∨ (∃ vs, m = .mapv ks vs) ∨ ∃ r vs, m = .mref r ∧ H.objs[r]? = some (.map ks vs)
def joinL (l : List Str) : Str := List.intercalate [46] l
structure LibOK (W0 : World) : Prop where
  u121 : ∀ (s : Str) (H : Hp), s.length ≤ 67108864 → SF Tryz.prog W0 121 [.str s] H fun r H' => H' = H ∧ r = .bool (validD s)
  u27 : ∀ (s : Str) (H : Hp), s.length ≤ 67108863 → SF Tryz.prog W0 27 [.str s, .str [46]] H fun r H' => H' = H ∧ r = .sl 1 (strs (pieces [] s)) .shut
  u112 : ∀ (l : List Str) (own : Own) (H : Hp), l.length ≤ 67108864 → (joinL l).length ≤ 67108864 → SF Tryz.prog W0 112 [.sl 1 (strs l) own, .str [46]] H fun r H' => H' = H ∧ r = .str (joinL l)
  u72 : ∀ (m : AV) (ks : List Str) (H : Hp), mapIs H m ks → SF Tryz.prog W0 72 [m] H fun r H' => H' = { H with objs := H.objs ++ [.cells [m]] } ∧ r = .fn 111 [.ref H.objs.length 0]
  u107 : ∀ (m : AV) (ks : List Str) (H : Hp), mapIs H m ks → SF Tryz.prog W0 107 [m] H fun r H' => H' = { H with objs := H.objs ++ [.cells [m]] } ∧ r = .fn 149 [.ref H.objs.length 0]
  u71a : ∀ (m : AV) (ks : List Str) (H : Hp) (k : Nat), mapIs H m ks → H.objs[k]? = some (.cells [m]) → ks.length ≤ 67108864 → (∀ x ∈ ks, x.length ≤ 9223372036854775807) → SF Tryz.prog W0 71 [.fn 111 [.ref k 0]] H fun r H' => H' = H ∧ r = .sl 1 (strs (sortS ks)) .shut
  u71b : ∀ (m : AV) (ks : List Str) (H : Hp) (k : Nat), mapIs H m ks → H.objs[k]? = some (.cells [m]) → ks.length ≤ 67108864 → (∀ x ∈ ks, x.length ≤ 9223372036854775807) → SF Tryz.prog W0 71 [.fn 149 [.ref k 0]] H fun r H' => H' = H ∧ r = .sl 1 (strs (sortS ks)) .shut
theorem sf87 (hB : LibOK W0) {s : Str} {H : Hp} (hs : s.length ≤ 67108864) : SF Tryz.prog W0 87 [.str s] H fun r H' => H' = H ∧ r = .bool (nameB s) := by
  refine SF.pureLe (sf_start [2] 37 Tryz.func87 rfl rfl rfl (by decide) (by simp) ?_)
  repeat' first
    | refine aSq ?_ | refine aRt ?_ | refine aSk ?_ | refine aBl ?_ | refine tN ?_ | refine tR ?_
    | (refine rg 1 ?_; refine tk 2 ?_; (first | (refine te (fun hb => ?_) (fun hb => ?_) <;> (try simp at hb) <;> try (exfalso; omega)) | (refine tk 1 ?_)); all_goals (refine tk 4 ?_; (first | (refine te (fun hb => ?_) (fun hb => ?_) <;> (try simp at hb) <;> try (exfalso; omega)) | (refine tk 1 ?_)); all_goals (refine tk 1 ?_; (first | (refine fg en121 ?_; refine SF.then (hB.u121 _ _ hs) ?_) | (refine tk 1 ?_)); refine tk 2 ?_; refine dn ?_)))
    | refine ru ?_
    | (refine awp_if rfl (fun hb => ?_) (fun hb => ?_) <;> (try simp at hb) <;> try (exfalso; omega))
    | fail
  · exact ⟨Gr.refl _, .bool false, by simp, by rename_i h _; subst h; simp [nameB]⟩
  · exact ⟨Gr.refl _, .bool false, by simp, by simp [nameB]; omega⟩
  · exact ⟨Gr.refl _, .bool false, by simp, by simp [nameB, hb]⟩
  rename_i hne _
  have hpos : 1 ≤ s.length := List.length_pos_iff.2 hne
  have hv : validD s = true := hb
  have hlb : nameB s = nameRs true (runes s) := by
    have : decide (1 ≤ s.length ∧ s.length ≤ 32) = true := by simp; omega
    rw [nameB, this, hv]; simp
  rw [hlb]
  refine awp_loop_inv (fun q st => ∃ p : Nat, q = s.length - p ∧ p ≤ s.length ∧ nameRs true (runes s) = nameRs (decide (p = 0)) (runes (s.drop p)) ∧ Sub st ⟨37, [(18, .ref H.objs.length 0)], ⟨H.objs ++ [.iter s p], H.hi⟩⟩) s.length ⟨0, by simp, by simp, by simp, ⟨rfl, rfl, only_cons (by simp) only_nil⟩⟩ ?_
  rintro q st ⟨p, rfl, hp, hn, hs2⟩
  refine awp_sub hs2 ?_
  clear hs2 st
  rcases Nat.lt_or_ge p s.length with hlt | hge
  · have hne2 : s.drop p ≠ [] := by intro h; have := congrArg List.length h; simp at this; omega
    have hw := decodeL_width (s.drop p)
    have hle := decodeL_le (s.drop p) hne2
    rw [List.length_drop] at hle
    rw [runes_step _ hne2, List.drop_drop] at hn
    obtain ⟨r, w, hd⟩ : ∃ r w, decodeL (s.drop p) = (r, w) := ⟨_, _, rfl⟩
    rw [hd] at hn hw hle
    simp only at hn hw hle
    simp only [nameRs] at hn
    repeat' first
      | refine aSq ?_ | refine aRt ?_ | refine aSk ?_ | refine aBl ?_ | refine tN ?_ | refine tR ?_ | refine iR ?_
      | (refine rg 6 ?_; refine tk 1 ?_ (by simp (disch := omega) [hlt, dec_at, hd]; with_reducible rfl); refine fc en122 ?_; refine SF.then sf122 ?_; refine dn ?_)
      | (refine rg 7 ?_; refine tk 2 ?_ (by simp (disch := omega) [hlt, dec_at, hd]; with_reducible rfl); (first | (refine te (hs := (by simp (disch := omega) [hlt, dec_at, hd]; with_reducible rfl)) (fun hb => ?_) (fun hb => ?_) <;> (try simp at hb) <;> try (exfalso; omega)) | (refine tk 1 ?_ (by simp (disch := omega) [hlt, dec_at, hd]; with_reducible rfl))); all_goals (refine tk 3 ?_ (by simp (disch := omega) [hlt, dec_at, hd]; with_reducible rfl); refine dn ?_))
      | (refine ru ?_ (by simp (disch := omega) [hlt, dec_at, hd]; with_reducible rfl))
      | (refine awp_if rfl (fun hb => ?_) (fun hb => ?_) <;> (try simp at hb) <;> try (exfalso; omega))
      | refine inN ?_
    all_goals first
      | (have ho : okR (decide (p = 0)) r = false := by clear hn; simp_all [okR] <;> omega
         rw [ho] at hn
         exact ⟨(Gr.refl _).obj _, .bool false, by simp, by rw [hn]; rfl⟩)
      | (have ho : okR (decide (p = 0)) r = true := by clear hn; simp_all [okR] <;> omega
         rw [ho, Bool.true_and] at hn
         exact ⟨s.length - (p + w), by omega, p + w, rfl, by omega, by rw [hn, decide_eq_false (by omega : ¬ p + w = 0)], rfl, rfl, only_cons (by simp) only_nil⟩)
  · have : p = s.length := by omega
    subst this
    simp only [List.drop_length, runes_nil, nameRs] at hn
    repeat' first
      | refine aSq ?_ | refine aRt ?_ | refine aEx ?_
      | refine ru ?_
      | (refine awp_if rfl (fun hb => ?_) (fun hb => ?_) <;> (try simp at hb) <;> try (exfalso; omega))
      | fail
    exact ⟨(Gr.refl _).obj _, .bool true, by simp, by rw [hn]⟩
theorem sf43 (hB : LibOK W0) {s : Str} {H : Hp} (hs : s.length ≤ 67108864) : SF Tryz.prog W0 43 [.str s] H fun r H' => H' = H ∧ r = .bool (checkB s) := by
  refine SF.pureLe (sf_start [2] 10 Tryz.func43 rfl rfl rfl (by decide) (by simp) ?_)
  repeat' first
    | refine aSq ?_ | refine aRt ?_
    | (refine rg 1 ?_; refine tk 1 ?_; refine fc en87 ?_; refine SF.then (sf87 hB hs) ?_; (first | (refine te (fun hb => ?_) (fun hb => ?_) <;> (try simp at hb) <;> try (exfalso; omega)) | (refine tk 1 ?_)); all_goals (refine tk 1 ?_; (first | (refine fg en88 ?_; refine SF.then sf88 ?_) | (refine tk 1 ?_)); refine tk 3 ?_; refine dn ?_))
    | refine ru ?_
    | fail
  all_goals (simp [retQ, checkB, *])
theorem sf42 (hB : LibOK W0) {s : Str} {H : Hp} (hs : s.length ≤ 67108864) : SF Tryz.prog W0 42 [.str s] H fun r H' => H' = H ∧ r = .bool (!checkB s) := by
  refine SF.pureLe (sf_start [2] 6 Tryz.func42 rfl rfl rfl (by decide) (by simp) ?_)
  repeat' first
    | refine aSq ?_ | refine aRt ?_
    | (refine rg 1 ?_; refine tk 1 ?_; refine fc en43 ?_; refine SF.then (sf43 hB hs) ?_; refine tk 2 ?_; refine dn ?_)
    | refine ru ?_
    | fail
  all_goals (simp [retQ])
theorem not_any (l : List Str) : (!l.any fun s => !checkB s) = l.all checkB := by
  induction l with
  | nil => rfl
  | cons x l ih => simp [← ih]
theorem sf26 (hB : LibOK W0) {s : Str} {H : Hp} (hs : s.length ≤ 67108863) : SF Tryz.prog W0 26 [.str s] H fun r H' => H' = H ∧ r = .bool (longB s) := by
  refine SF.pureLe (sf_start [2] 14 Tryz.func26 rfl rfl rfl (by decide) (by simp) ?_)
  have hx := pieces_le s [] s (by simp)
  have hl := pieces_len [] s
  have hf : ∀ t ∈ pieces [] s, SF Tryz.prog W0 42 (.str t :: []) H fun r H' => H' = H ∧ r = .bool (!checkB t) := fun t ht => sf42 hB (by have := hx t ht; omega)
  repeat' first
    | refine aSq ?_ | refine aRt ?_
    | (refine rg 2 ?_; refine tk 3 ?_; (first | (refine te (fun hb => ?_) (fun hb => ?_) <;> (try simp at hb) <;> try (exfalso; omega)) | (refine tk 1 ?_)); all_goals (refine tk 1 ?_; (first | (refine fg en27 ?_; refine SF.then (hB.u27 _ _ hs) ?_) | (refine tk 1 ?_)); refine tk 1 ?_; (first | (refine fg en44 ?_; refine SF.then (sf44 (p := fun t => !checkB t) (by omega) en42 hf) ?_) | (refine tk 1 ?_)); refine tk 3 ?_; refine dn ?_))
    | refine ru ?_
    | fail
  · have hd : decide (s.length ≤ 128) = true := by simp; omega
    exact ⟨Gr.refl _, .bool (longB s), by simp only [retQ, look]; simp [longB, hd, not_any], rfl⟩
  · exact ⟨Gr.refl _, .bool false, by simp, by simp [longB]; omega⟩
theorem sf15 (hB : LibOK W0) {s : Str} {H : Hp} (hs : s.length ≤ 67108863) : SF Tryz.prog W0 15 [.str s] H fun r H' => H' = H ∧ r = .sl 1 (strs (splitB s)) .shut := by
  refine SF.pureLe (sf_start [2] 8 Tryz.func15 rfl rfl rfl (by decide) (by simp) ?_)
  repeat' first
    | refine aSq ?_ | refine aRt ?_ | refine aSk ?_ | refine tN ?_ | refine tR ?_
    | (refine rg 1 ?_; refine tk 1 ?_; refine fc en26 ?_; refine SF.then (sf26 hB hs) ?_; refine tk 1 ?_; refine dn ?_)
    | (refine rg 3 ?_; refine tk 1 ?_; refine fc en27 ?_; refine SF.then (hB.u27 _ _ hs) ?_; refine tk 1 ?_; refine dn ?_)
    | refine ru ?_
    | (refine awp_if rfl (fun hb => ?_) (fun hb => ?_) <;> (try simp at hb) <;> try (exfalso; omega))
    | fail
  · exact ⟨Gr.refl _, _, by simp; exact .nilShut 1, by simp [splitB, hb, strs]⟩
  · exact ⟨Gr.refl _, _, by simp; exact .refl _, by simp [splitB, hb]⟩
end Go.Av
namespace Go.Av
open Go.Proofs
open Go.RowKit (Below)
variable {W0 : World}
set_option maxRecDepth 10000
set_option maxHeartbeats 4000000
structure Base (W0 : World) : Prop where
  tabs : Lib.Utf8Tabs 1 2 W0
  maxlen : ∃ m, W0.cell? ⟨0, 0, none⟩ = some (.int .i64 m)
theorem AR.one {g : Gh} {w : World} {a : AV} {vs : Array Value} (h : AR g w [a] vs.toList) : ∃ v, vs = #[v] ∧ VR g w a v := by
  obtain ⟨v, vs', e, h1, h2⟩ := h
  cases h2
  exact ⟨v, by rw [← Array.toArray_toList (xs := vs), e], h1⟩
theorem AR.two {g : Gh} {w : World} {a b : AV} {vs : Array Value} (h : AR g w [a, b] vs.toList) : ∃ v u, vs = #[v, u] ∧ VR g w a v ∧ VR g w b u := by
  obtain ⟨v, vs', e, h1, u, us, e2, h2, h3⟩ := h
  cases h3
  subst e2
  exact ⟨v, u, by rw [← Array.toArray_toList (xs := vs), e], h1, h2⟩
theorem lib121 (hB : Base W0) (s : Str) (H : Hp) (hs : s.length ≤ 67108864) : SF Tryz.prog W0 121 [.str s] H fun r H' => H' = H ∧ r = .bool (Lib.validD s) := by
  refine SF.lib fun g w vs inv har => ?_
  obtain ⟨v, rfl, hv⟩ := AR.one har
  cases hv
  have hT := Utf8Tabs_below hB.tabs (Below.of inv)
  have c := Any.utf8_ValidString Tryz.lays196 ⟨s.toArray⟩ w (by show s.toArray.size ≤ _; simp; omega) hT
  refine c.mono ?_
  rintro e w' ⟨rfl, hb⟩
  exact ⟨_, rfl, hb, by simp [VR]⟩
theorem pieces_acc : ∀ (l acc : Str), ∃ h t, pieces [] l = h :: t ∧ pieces acc l = (acc ++ h) :: t
  | [], acc => ⟨[], [], rfl, by simp [pieces]⟩
  | c :: l, acc => by
    simp only [pieces]
    split
    · exact ⟨[], _, rfl, by simp⟩
    · obtain ⟨h, t, e1, e2⟩ := pieces_acc l [c]
      obtain ⟨h', t', e3, e4⟩ := pieces_acc l (acc ++ [c])
      rw [e1] at e3
      obtain ⟨rfl, rfl⟩ := List.cons.inj e3
      exact ⟨c :: h, t, by simpa using e2, by rw [e4]; simp⟩
theorem split_pieces : ∀ s : Str, Lib.splitK [46] 0 (Lib.count s [46]) s = pieces [] s
  | [] => rfl
  | c :: l => by
    have ih := split_pieces l
    by_cases hc : c = 46
    · subst hc
      rw [Lib.count_cons_eq, Nat.add_comm, Lib.splitK]
      have hi : Lib.index (46 :: l) [46] = 0 := by simp [Lib.index, List.isPrefixOf]
      rw [hi]
      simp [pieces, ih]
    · rw [Lib.count_cons_ne c 46 l hc]
      obtain ⟨h, t, e1, e2⟩ := pieces_acc l [c]
      have e3 : pieces [] (c :: l) = (c :: h) :: t := by simp only [pieces, if_neg hc]; simpa using e2
      rw [e3]
      rw [e1] at ih
      cases hk : Lib.count l [46] with
      | zero =>
        rw [hk] at ih
        simp only [Lib.splitK] at ih ⊢
        obtain ⟨rfl, rfl⟩ := List.cons.inj ih
        rfl
      | succ k =>
        rw [hk] at ih
        have hp : List.isPrefixOf [46] (c :: l) = false := by
          simp only [List.isPrefixOf, Bool.and_eq_false_iff]
          exact .inl (by simpa using fun e => hc e.symm)
        have hg := Lib.index_ge l [46]
        simp only [Lib.splitK] at ih ⊢
        simp only [Lib.index, hp, Bool.false_eq_true, if_false]
        by_cases hm : (Lib.index l [46] == -1) = true
        · rw [if_pos hm] at ih ⊢
          obtain ⟨rfl, rfl⟩ := List.cons.inj ih
          simp
        · rw [if_neg hm] at ih ⊢
          have hm' : Lib.index l [46] ≠ -1 := by simpa using hm
          have q : ¬ (Lib.index l [46] + 1 == -1) = true := by
            intro e
            have := beq_iff_eq.1 e
            omega
          rw [if_neg q]
          obtain ⟨e4, e5⟩ := List.cons.inj ih
          have q2 : (Lib.index l [46] + 1).toNat = (Lib.index l [46]).toNat + 1 := by omega
          rw [q2]
          simp only [Nat.add_zero, List.length_singleton] at *
          rw [List.take_succ_cons, e4, List.drop_succ_cons, e5]
theorem lib27 (hB : Base W0) (s : Str) (H : Hp) (hs : s.length ≤ 67108863) : SF Tryz.prog W0 27 [.str s, .str [46]] H fun r H' => H' = H ∧ r = .sl 1 (strs (pieces [] s)) .shut := by
  intro g w vs inv har
  obtain ⟨v, u, rfl, hv, hu⟩ := AR.two har
  cases hv; cases hu
  obtain ⟨m, hm⟩ := hB.maxlen
  have hm' : w.cell? ⟨0, 0, none⟩ = some (.int .i64 m) := by rw [cell_heap (inv.base 0 (cell_lt hm))]; exact hm
  have c := Tryz.strings_Split ⟨s.toArray⟩ ⟨[46].toArray⟩ m w (by show s.toArray.size < _; simp; omega) hm' (by decide)
  refine c.mono ?_
  rintro e w' ⟨rfl, rfl⟩
  have hd := Lib.splitB_data ⟨[46].toArray⟩ 0 (Lib.countB ⟨s.toArray⟩ ⟨[46].toArray⟩) ⟨s.toArray⟩
  have hc : Lib.countB ⟨s.toArray⟩ ⟨[46].toArray⟩ = Lib.count s [46] := rfl
  have hlen := Lib.splitB_all ⟨[46].toArray⟩ (by decide) 0 _ ⟨s.toArray⟩ rfl
  generalize hl : Lib.splitB ⟨[46].toArray⟩ 0 (Lib.countB ⟨s.toArray⟩ ⟨[46].toArray⟩) ⟨s.toArray⟩ = l at *
  have hp : l.map (fun x => x.data.toList) = pieces [] s := by
    rw [hd, hc]
    exact split_pieces s
  obtain ⟨i, ext⟩ := inv.made (.cells (l.map Value.string).toArray 9 (0, 0)) l.length
  refine ⟨_, _, .sl 1 (strs (pieces [] s)) .shut, H, rfl, ⟨rfl, rfl⟩, ext, i, .inr ⟨w.heap.size, 0, l.length, ?_, ?_, trivial, ?_⟩⟩
  · rw [strs_len, ← hp, List.length_map, ← hlen]
  · rw [strs_len, ← hp, List.length_map]; exact Nat.le_refl _
  · refine ER_row heap_push_new _ 0 (fun j e hj => ?_) ?_
    · rw [strs_get, ← hp, List.getElem?_map] at hj
      cases hx : l[j]? with
      | none => rw [hx] at hj; cases hj
      | some x =>
        rw [hx] at hj
        cases hj
        exact ⟨_, .string x, rfl, by simp [hx], by simp [VR, strV]⟩
    · simp [← hp, strs, Gh.publish]
end Go.Av
namespace Go.Av
open Go.Proofs
open Go.RowKit (Below)
open Go.Maps Go.Sort
variable {W0 : World}
set_option maxRecDepth 10000
set_option maxHeartbeats 4000000
def noRead : Value → Option (DataW Unit × List MemPlace) := fun _ => some (.nil, [])
theorem keys_own {g : Gh} {w : World} {b : Nat} {es : Array MapEntry} {cl : Nat} {ks : List Str} (hh : w.heap[b]? = some (.map es cl)) (hk : KeysOf es cl ks) (hlen : ks.length ≤ 67108864) (hsz : ∀ x ∈ ks, x.length ≤ 9223372036854775807) :
    ∃ D0 : DataW Unit, w.ownsMap Tryz.prog 9 noRead b ks.length D0 ∧ (strKeys D0).Perm ks ∧ Maps.size D0 = ks.length := by
  obtain ⟨h1, h2⟩ := hk
  have hes : es.size = ks.length := by have := congrArg List.length h1; simpa using this
  have hmem : ∀ x ∈ es.toList, ∃ k ∈ ks, x.key = strV k := fun x hx => by
    have : x.key ∈ ks.map strV := h1 ▸ List.mem_map_of_mem hx
    obtain ⟨k, hk, e⟩ := List.mem_map.1 this
    exact ⟨k, hk, e.symm⟩
  have hrd : ∀ x ∈ es.toList, ∀ k ∈ ks, x.key = strV k → WideElems.rd Tryz.prog 9 noRead x = some (.string k, .nil) := fun x hx k hk e => by
    unfold WideElems.rd
    rw [e]
    have := WideMaps.keyOf_string_mk (P := Tryz.prog) (k := 9) Tryz.underlying9 (s := ⟨k.toArray⟩) (by have := hsz k hk; show k.toArray.size ≤ maxLen; simp [maxLen]; omega)
    rw [show strV k = .string ⟨k.toArray⟩ from rfl, this]
    rfl
  refine ⟨_, ⟨es, cl, hh, ⟨by rw [hes]; simp [maxLen]; omega, h2, fun x hx => ?_⟩, Nat.le_of_eq hes, rfl⟩, ?_, ?_⟩
  · obtain ⟨k, hk, e⟩ := hmem x hx
    exact ⟨_, hrd x hx k hk e⟩
  · have hp := (WideShapes.sorted_perm (es.toList.map (WideElems.rg Tryz.prog 9 noRead))).map fun p => strOf p.1
    refine hp.trans ?_
    have e : ((es.toList.map (WideElems.rg Tryz.prog 9 noRead)).map fun p => strOf p.1) = ks := by
      rw [List.map_map]
      apply List.ext_getElem?
      intro i
      rw [List.getElem?_map]
      have hi := congrArg (fun l => l[i]?) h1
      simp only [List.getElem?_map] at hi
      cases hx : es.toList[i]? with
      | none => rw [hx] at hi; cases hk : ks[i]? with
        | none => rfl
        | some k => rw [hk] at hi; cases hi
      | some x =>
        rw [hx] at hi
        cases hk : ks[i]? with
        | none => rw [hk] at hi; cases hi
        | some k =>
          rw [hk] at hi
          simp only [Option.map_some, Option.some.injEq] at hi
          simp only [Option.map_some, Function.comp, Option.some.injEq]
          rw [WideElems.rg_of (hrd x (List.mem_of_getElem? hx) k (List.mem_of_getElem? hk) hi)]
          rfl
    rw [e]
  · rw [Maps.size_eq, (WideShapes.sorted_perm _).length_eq, List.length_map]; simpa using hes
theorem lib_keys {f fi : FuncId} (hc : ∀ (mb : Option Nat) (W : World), ∃ T, Calls Tryz.prog f #[.map mb] W fun e w' => e = .returned (.func (.func fi) #[] #[.pointer (some ⟨W.heap.size, 0, none⟩)]) ∧ w' = W.alloc (.cells #[.map mb] T))
    (m : AV) (ks : List Str) (H : Hp) (hm : mapIs H m ks) : SF Tryz.prog W0 f [m] H fun r H' => H' = { H with objs := H.objs ++ [.cells [m]] } ∧ r = .fn fi [.ref H.objs.length 0] := by
  intro g w vs inv har
  obtain ⟨v, rfl, hv⟩ := AR.one har
  have hmap : ∃ mb, v = .map mb := by
    rcases hm with ⟨rfl, _⟩ | ⟨vs, rfl⟩ | ⟨r, vs, rfl, _⟩
    · exact ⟨none, hv⟩
    · obtain ⟨b, _, _, e, _⟩ := hv; exact ⟨_, e⟩
    · obtain ⟨b, _, e⟩ := hv; exact ⟨_, e⟩
  obtain ⟨mb, rfl⟩ := hmap
  obtain ⟨T, c⟩ := hc mb w
  refine c.mono ?_
  rintro e w' ⟨rfl, rfl⟩
  have har1 : AR g w [m] (#[Value.map mb] : Array Value).toList := AR.cons hv AR.nil
  obtain ⟨g', ext, i, l⟩ := made_object inv T har1
  exact ⟨_, g', .fn fi [.ref H.objs.length 0], _, rfl, ⟨rfl, rfl⟩, ext, i, _, rfl, AR.cons ⟨_, l, rfl⟩ AR.nil⟩
theorem lib_sorted {fi : FuncId} (hk : ∀ (Bm b nn : Nat) (D0 : DataW Unit) (w : World), Bm < w.heap.size → w.cell? ⟨Bm, 0, none⟩ = some (.map (some b)) → w.ownsMap Tryz.prog 9 noRead b nn D0 →
      SeqGives Fence.wide 2 Tryz.prog fi #[.pointer (some ⟨Bm, 0, none⟩)] encStr (fun ss => ss.Perm (strKeys D0)) (Maps.size D0) w)
    (hn : ∀ (Bm : Nat) (w : World), Bm < w.heap.size → w.cell? ⟨Bm, 0, none⟩ = some (.map none) → SeqGives Fence.wide 2 Tryz.prog fi #[.pointer (some ⟨Bm, 0, none⟩)] encStr (fun ss : List (List UInt8) => ss = []) 0 w)
    (hen : ∀ args w, (callFunc fi args).run Tryz.prog w = .ok (.enter fi args) w)
    (m : AV) (ks : List Str) (H : Hp) (k : Nat) (hm : mapIs H m ks) (hob : H.objs[k]? = some (.cells [m])) (hlen : ks.length ≤ 67108864) (hsz : ∀ x ∈ ks, x.length ≤ 9223372036854775807) :
    SF Tryz.prog W0 71 [.fn fi [.ref k 0]] H fun r H' => H' = H ∧ r = .sl 1 (strs (sortS ks)) .shut := by
  intro g w vs inv har
  obtain ⟨v, rfl, hv⟩ := AR.one har
  obtain ⟨cs, rfl, hcs⟩ := hv
  obtain ⟨p, q, h1, hp, h2⟩ := hcs
  cases h2
  obtain ⟨Bm, hl, rfl⟩ := hp
  have hcsv : cs = #[.pointer (some ⟨Bm, 0, none⟩)] := by rw [← Array.toArray_toList (xs := cs), h1]
  subst hcsv
  obtain ⟨b', mvs, T, hl', hpub, hfro, hh, hmv⟩ := inv.obj k _ hob
  rw [hl] at hl'; cases hl'
  obtain ⟨mv, r', e1, hmvr, e2⟩ := hmv
  cases e2
  have hcell : w.cell? ⟨Bm, 0, none⟩ = some mv := by
    rw [cell_row hh, ← Array.getElem?_toList, e1]; rfl
  have hBm : Bm < w.heap.size := cell_lt hcell
  have key : ∃ (S : List (List UInt8) → Prop) (N : Nat), SeqGives Fence.wide 2 Tryz.prog fi #[.pointer (some ⟨Bm, 0, none⟩)] encStr S N w ∧ N ≤ 67108864 ∧ ∀ ss, S ss → ss.Perm ks := by
    have owned : ∀ b es cl, w.heap[b]? = some (.map es cl) → KeysOf es cl ks → mv = .map (some b) → ∃ (S : List (List UInt8) → Prop) (N : Nat), SeqGives Fence.wide 2 Tryz.prog fi #[.pointer (some ⟨Bm, 0, none⟩)] encStr S N w ∧ N ≤ 67108864 ∧ ∀ ss, S ss → ss.Perm ks := by
      rintro b es cl hb hke rfl
      obtain ⟨D0, ho, hpm, hsz0⟩ := keys_own (g := g) hb hke hlen hsz
      exact ⟨_, _, hk Bm b _ D0 w hBm hcell ho, by rw [hsz0]; exact hlen, fun ss h => h.trans hpm⟩
    rcases hm with ⟨rfl, rfl⟩ | ⟨vs, rfl⟩ | ⟨r, vs, rfl, hor⟩
    · cases hmvr
      exact ⟨_, _, hn Bm w hBm hcell, Nat.zero_le _, fun ss h => by subst h; exact .refl _⟩
    · obtain ⟨b, es, cl, e, _, hb, hke, _⟩ := hmvr
      exact owned b es cl hb hke e
    · obtain ⟨b, hlb, e⟩ := hmvr
      obtain ⟨b2, es, cl, hlb2, _, _, hb, hke, _⟩ := inv.obj r _ hor
      rw [hlb] at hlb2; cases hlb2
      exact owned b es cl hb hke e
  obtain ⟨S, N, hseq, hN, hS⟩ := key
  have c := callsIn_wide.1 (AnyZ.sorted_in Tryz.sorted71 Fence.wide 5 trivial trivial trivial trivial rfl (by omega) (Tryz.sorts71 _) (enters_of Tryz.func110 (by kernel_rfl) rfl) fi #[.pointer (some ⟨Bm, 0, none⟩)] trivial hen S N (by simp [maxLen]; omega) (by omega) w hseq)
  refine c.mono ?_
  rintro e w' ⟨v, ss, rfl, hss, hrow, hnil, hb⟩
  have hsort : ss.mergeSort (fun x y => decide (x ≤ y)) = sortS ks := mergeSort_of_perm (hS ss hss)
  rw [hsort] at hrow
  have hlens : ss.length = (sortS ks).length := by rw [← hsort]; simp
  obtain ⟨hx, hrow⟩ := hrow
  rcases hrow with ⟨rfl, h0⟩ | ⟨nb, cap, cur, rfl, hbase, hnb, hncap, hcap, hcur, htake⟩
  · obtain ⟨i, ext⟩ := inv.below hb
    have : sortS ks = [] := List.eq_nil_of_length_eq_zero (by omega)
    exact ⟨_, g, .sl 1 (strs (sortS ks)) .shut, H, rfl, ⟨rfl, rfl⟩, ext, i, .inl ⟨by simp [this], trivial, rfl⟩⟩
  · obtain ⟨i, ext⟩ := inv.showNew hb (sortS ks).length hbase (heap_some_lt hnb)
    refine ⟨_, _, .sl 1 (strs (sortS ks)) .shut, H, rfl, ⟨rfl, rfl⟩, ext, i, .inr ⟨nb, 0, cap, ?_, ?_, trivial, ?_⟩⟩
    · rw [strs_len, hlens]
    · rw [strs_len, ← hlens]; exact hncap
    · refine ER_row hnb _ 0 (fun j e hj => ?_) ?_
      · rw [strs_get] at hj
        cases hx2 : (sortS ks)[j]? with
        | none => rw [hx2] at hj; cases hj
        | some x =>
          rw [hx2] at hj
          cases hj
          have hjl : j < (sortS ks).length := (List.getElem?_eq_some_iff.1 hx2).1
          refine ⟨.str x, strV x, rfl, ?_, rfl⟩
          have := congrArg (fun l => l[j]?) htake
          simp only [List.getElem?_map, hx2, Option.map_some] at this
          rw [List.getElem?_take, if_pos (by omega), Array.getElem?_toList] at this
          rw [Nat.zero_add, this]; rfl
      · simp [Gh.publish]
end Go.Av
namespace Go.Av
open Go.Proofs
open Go.RowKit (Below)
open Go.Maps Go.Sort
variable {W0 : World}
set_option maxRecDepth 10000
set_option maxHeartbeats 4000000
theorem ER_strs {g : Gh} {w : World} {b : Nat} : ∀ (l : List Str) (o : Nat), ER g w b 1 o (strs l) → ∀ (j : Nat) (x : Str), l[j]? = some x → w.cell? ⟨b, o + j, none⟩ = some (strV x)
  | [], _, _, j, x, h => by simp at h
  | s :: l, o, ⟨_, ⟨⟨v, hc, _, hv⟩, _⟩, he⟩, 0, x, h => by
    simp only [List.getElem?_cons_zero, Option.some.injEq] at h
    subst h
    cases hv
    exact hc
  | s :: l, o, ⟨_, _, he⟩, j + 1, x, h => by
    have := ER_strs l (o + 1) he j x (by simpa using h)
    rw [show o + (j + 1) = o + 1 + j from by omega]
    exact this
theorem lib112 (l : List Str) (own : Own) (H : Hp) (hl : l.length ≤ 67108864) (hj : (joinL l).length ≤ 67108864) : SF Tryz.prog W0 112 [.sl 1 (strs l) own, .str [46]] H fun r H' => H' = H ∧ r = .str (joinL l) := by
  refine SF.lib fun g w vs inv har => ?_
  obtain ⟨v, u, rfl, hv, hu⟩ := AR.two har
  cases hu
  have none_case : ∀ (a : Option Addr) (c : Nat), l = [] → Calls Tryz.prog 112 #[.slice a 0 c, strV [46]] w fun e w' => ∃ v, e = .returned v ∧ Below w.heap.size w w' ∧ VR g w (.str (joinL l)) v := by
    rintro a c rfl
    refine (Tryz.strings_Join_none a c ⟨[46].toArray⟩ w).mono ?_
    rintro e w' ⟨rfl, rfl⟩
    exact ⟨_, rfl, Below.refl _ _, by simp [VR, strV, joinL]⟩
  rcases hv with ⟨h0, _, rfl⟩ | ⟨b, o, cap, rfl, hcap, _, he⟩
  · exact none_case _ _ (by simpa using h0)
  · by_cases h0 : l = []
    · have e0 : (strs l).length = 0 := by simp [h0]
      rw [e0]
      exact none_case _ _ h0
    · rw [strs_len] at hcap ⊢
      have hlen : (l.map fun x => (⟨x.toArray⟩ : ByteArray)).length = l.length := by simp
      have hd : (l.map fun x => (⟨x.toArray⟩ : ByteArray)).map (·.data.toList) = l := by rw [List.map_map]; exact List.map_id l
      have hp : 0 < l.length := List.length_pos_iff.2 h0
      have c := Tryz.strings_Join b o cap (l.map fun x => (⟨x.toArray⟩ : ByteArray)) ⟨[46].toArray⟩ w (fun j x hx => by
        rw [List.getElem?_map] at hx
        cases hy : l[j]? with
        | none => rw [hy] at hx; cases hx
        | some y =>
          rw [hy] at hx
          cases hx
          exact ER_strs l o he j y hy) (cell_lt (ER_strs l o he 0 l[0] (List.getElem?_eq_getElem hp))) (by rw [hlen]; omega) (by rw [hlen]; exact hcap) (by rw [hd]; show (joinL l).length ≤ _; omega)
      rw [hlen, hd] at c
      refine c.mono ?_
      rintro e w' ⟨rfl, hb⟩
      exact ⟨_, rfl, hb, rfl⟩
theorem libOK (hB : Base W0) : LibOK W0 where
  u121 := lib121 hB
  u27 := lib27 hB
  u112 := lib112
  u72 := lib_keys fun mb W => ⟨82, callsIn_wide.1 (Tryz.maps_Keys_72 mb W)⟩
  u107 := lib_keys fun mb W => ⟨86, callsIn_wide.1 (Tryz.maps_Keys_107 mb W)⟩
  u71a := lib_sorted (fun Bm b nn D0 w h1 h2 h3 => AnyZ.keys_gives (ρ := Tryz.keys72_ren) { Tryz.keys72 with } Fence.wide _ trivial rfl (by omega) Bm b nn D0 _ h1 h2 h3) (fun Bm w h1 h2 => AnyZ.keys_gives_nil (ρ := Tryz.keys72_ren) { Tryz.keys72 with } Fence.wide _ trivial rfl Bm _ h1 h2) (enters_of Tryz.func111 (by kernel_rfl) rfl)
  u71b := lib_sorted (fun Bm b nn D0 w h1 h2 h3 => AnyZ.keys_gives (ρ := Tryz.keys107_ren) { Tryz.keys107 with } Fence.wide _ trivial rfl (by omega) Bm b nn D0 _ h1 h2 h3) (fun Bm w h1 h2 => AnyZ.keys_gives_nil (ρ := Tryz.keys107_ren) { Tryz.keys107 with } Fence.wide _ trivial rfl Bm _ h1 h2) (enters_of Tryz.func149 (by kernel_rfl) rfl)
end Go.Av
