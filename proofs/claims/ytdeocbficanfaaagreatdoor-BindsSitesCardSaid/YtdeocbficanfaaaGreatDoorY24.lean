/-
  Go read by value: lemmas (part 24): D43, D44, D45, D46, D47, D48, D20.
-/
import Derived.Test.YtdeocbficanfaaaGreatDoorY17
import Derived.Test.YtdeocbficanfaaaGreatDoorY18
import Derived.Test.YtdeocbficanfaaaGreatDoorY19
import Derived.Test.YtdeocbficanfaaaGreatDoorY20
import Derived.Test.YtdeocbficanfaaaGreatDoorY23
set_option linter.unusedVariables false
set_option linter.unusedSimpArgs false
set_option linter.unusedSectionVars false
namespace Go.Av
open Go.Proofs
open Go.Lib (decodeL decodeL_width decodeL_le validD validD_step validD_nil)
variable {W0 : World}
set_option maxRecDepth 10000
set_option maxHeartbeats 4000000
theorem enc_len (n : Int) : (Utf8.encode n).data.toList.length ≤ 4 := by
  unfold Utf8.encode
  generalize (if Utf8.valid n then n.toNat else Utf8.runeError) = c
  simp only
  (repeat' split) <;> simp
theorem sf50 {s : Str} {H : Hp} (hs : s.length ≤ 67108864) : SF Tryz.prog W0 50 [.str s] H fun r H' => H' = H ∧ ∃ p e : Int, r = .tuple [.int .i64 p, .int .i64 e] ∧ (e = 0 → s.length ≤ 16384) := by
  refine SF.pureLe (sf_start [2, 3] 46 Tryz.func50 rfl rfl rfl (by decide) (by simp) ?_)
  repeat' first
    | refine aSq ?_ | refine aRt ?_ | refine aSk ?_ | refine aBl ?_ | refine tN ?_ | refine tR ?_
    | refine ru ?_
    | (refine awp_if rfl (fun hb => ?_) (fun hb => ?_) <;> (try simp at hb) <;> try (exfalso; omega))
    | fail
  · simp [retQ]
    exact ⟨_, .refl _, _, _, rfl, by omega⟩
  refine awp_loop_inv (fun q st => ∃ i : Nat, q = s.length - i ∧ i ≤ s.length ∧ Sub st ⟨46, [(0, .str s), (4, .int .i64 i)], H⟩) s.length ⟨0, by simp, by simp, rfl, rfl, only_cons (by simp) (only_cons (by simp) only_nil)⟩ ?_
  rintro q st ⟨i, rfl, hi, hs2⟩
  refine awp_sub hs2 ?_
  clear hs2 st
  obtain ⟨p, n, hpn⟩ : ∃ p n, nextR (s.drop i) = (p, n) := ⟨_, _, rfl⟩
  have hw : i < s.length → n ≠ 0 → i + n ≤ s.length := by
    intro hlt hn
    have hne : s.drop i ≠ [] := by intro h; have := congrArg List.length h; simp at this; omega
    have hle := decodeL_le (s.drop i) hne
    rw [List.length_drop] at hle
    unfold nextR at hpn
    split at hpn
    · cases hpn; exact absurd rfl hn
    · rw [hpn] at hle; simp at hle; omega
  repeat' first
    | refine aSq ?_ | refine aRt ?_ | refine aSk ?_ | refine aEx ?_ | refine aBl ?_ | refine tN ?_ | refine tR ?_ | refine iR ?_
    | (refine rg 5 ?_; refine tk 2 ?_; refine fc en95 ?_; refine SF.then (sf95 (by omega) hs) ?_; simp only [hpn]; refine tk 5 ?_; refine dn ?_)
    | (refine rg 6 ?_; refine tk 2 ?_; (first | (refine te (fun hb => ?_) (fun hb => ?_) <;> (try simp at hb) <;> try (exfalso; omega)) | (refine tk 1 ?_)); all_goals (refine tk 3 ?_; (first | (refine te (fun hb => ?_) (fun hb => ?_) <;> (try simp at hb) <;> try (exfalso; omega)) | (refine tk 1 ?_)); all_goals (refine tk 2 ?_; (first | (refine te (fun hb => ?_) (fun hb => ?_) <;> (try simp at hb) <;> try (exfalso; omega)) | (refine tk 1 ?_)); all_goals (refine tk 3 ?_; (first | (refine te (fun hb => ?_) (fun hb => ?_) <;> (try simp at hb) <;> try (exfalso; omega)) | (refine tk 1 ?_)); all_goals (refine tk 4 ?_; (first | (refine te (fun hb => ?_) (fun hb => ?_) <;> (try simp at hb) <;> try (exfalso; omega)) | (refine tk 1 ?_)); all_goals (refine tk 3 ?_; refine dn ?_))))))
    | refine ru ?_
    | (refine awp_if rfl (fun hb => ?_) (fun hb => ?_) <;> (try simp at hb) <;> try (exfalso; omega))
    | refine inN ?_
  all_goals first
    | (simp [retQ]; first | exact ⟨_, .refl _, _, _, rfl, by omega⟩ | exact ⟨Gr.refl _, _, .refl _, _, _, rfl, by omega⟩)
    | (have := hw (by assumption) (by assumption)
       exact ⟨s.length - (i + n), by omega, i + n, rfl, by omega, rfl, rfl, only_cons (by simp) (only_cons (by simp (disch := omega)) only_nil)⟩)
    | skip
def runesOK (l : List Nat) : Prop := l.length ≤ 20000
theorem sf52 {l : List Nat} {own : Own} {a b : Nat} {H : Hp} (hl : runesOK l) (hb : b ≤ l.length) : SF Tryz.prog W0 52 [.sl 1 (rns l) own, .int .i64 a, .int .i64 b] H fun r H' => H' = H ∧ ∃ s : Str, r = .str s ∧ s.length ≤ 4 * (b - a) := by
  unfold runesOK at hl
  refine SF.pureLe (sf_start [6] 24 Tryz.func52 rfl rfl rfl (by decide) (by simp) ?_)
  repeat' first
    | refine aSq ?_ | refine aBl ?_
    | refine ru ?_
    | fail
  refine awp_loop_inv (fun q st => ∃ (i : Nat) (s : Str), q = b - i ∧ a ≤ i ∧ (i ≤ b ∨ i = a) ∧ s.length ≤ 4 * (i - a) ∧ Sub st ⟨24, [(0, .sl 1 (rns l) own), (2, .int .i64 b), (7, .str s), (8, .int .i64 i)], H⟩) (b - a) ⟨a, [], rfl, by omega, by omega, by simp, rfl, rfl, only_cons (by simp) (only_cons (by simp) (only_cons (by simp) (only_cons (by simp) only_nil)))⟩ ?_
  rintro q st ⟨i, s, rfl, hi, hi2, hsl, hs2⟩
  refine awp_sub hs2 ?_
  clear hs2 st
  rcases Nat.lt_or_ge i b with hlt | hge
  · obtain ⟨j, hj⟩ : ∃ j : Nat, (i : Int) + 1 = j := ⟨i + 1, rfl⟩
    have h1 : i ≤ j := by omega
    have h2 : j ≤ l.length := by omega
    have hn : nums .i32 (((rns l).take j).drop i) = some [(l[i]'(by omega) : Int)] := by
      have : j = i + 1 := by omega
      subst this
      rw [List.drop_take, List.drop_eq_getElem_cons (by simp; omega)]
      simp [nums]
    have hel := enc_len (l[i]'(by omega) : Int)
    have hes : (Utf8.encode (l[i]'(by omega) : Int)).size ≤ 4 := by simpa using hel
    have hz : List.length s + (Utf8.encode (l[i]'(by omega) : Int)).size ≤ 1099511627776 := by omega
    repeat' first
      | refine aSq ?_ | refine aSk ?_ | refine aBl ?_ | refine tN ?_
      | (refine rg 5 ?_; refine aops_take 6 (mu := mu0) tab_ok (by simp (disch := omega) [hj, h1, h2]; rfl) ?_; refine tk 1 ?_ (by simp (disch := omega) [convA, hn]; with_reducible rfl); refine tk 2 ?_ (by simp [hz]; with_reducible rfl); refine dn ?_)
      | refine ru ?_
      | (refine awp_if rfl (fun hb => ?_) (fun hb => ?_) <;> (try simp at hb) <;> try (exfalso; omega))
      | fail
    exact ⟨b - (i + 1), by omega, i + 1, s ++ (Utf8.encode (l[i]'(by omega) : Int)).data.toList, rfl, by omega, by omega, by simp only [List.length_append]; omega, rfl, rfl, only_cons (by simp) (only_cons (by simp) (only_cons (by simp) (only_cons (by simp [hj]) only_nil)))⟩
  · repeat' first
      | refine aSq ?_ | refine aRt ?_ | refine aEx ?_ | refine tN ?_
      | refine ru ?_
      | (refine awp_if rfl (fun hb => ?_) (fun hb => ?_) <;> (try simp at hb) <;> try (exfalso; omega))
      | fail
    exact ⟨Gr.refl _, _, .refl _, s, rfl, by omega⟩
theorem sf136 {r : Int} {H : Hp} : SF Tryz.prog W0 136 [.int .i32 r] H fun x H' => H' = H ∧ x = .bool (cls r == 1 || cls r == 2 || r == 39) := by
  refine SF.pureLe (sf_start [2] 16 Tryz.func136 rfl rfl rfl (by decide) (by simp) ?_)
  repeat' first
    | refine aSq ?_ | refine aRt ?_
    | (refine rg 1 ?_; refine tk 1 ?_; refine fc en53 ?_; refine SF.then sf53 ?_; refine tk 1 ?_; refine dn ?_)
    | (refine rg 2 ?_; refine tk 2 ?_; (first | (refine te (fun hb => ?_) (fun hb => ?_) <;> (try simp at hb) <;> try (exfalso; omega)) | (refine tk 1 ?_)); all_goals (refine tk 3 ?_; (first | (refine te (fun hb => ?_) (fun hb => ?_) <;> (try simp at hb) <;> try (exfalso; omega)) | (refine tk 1 ?_)); all_goals (refine tk 4 ?_; refine dn ?_)))
    | refine ru ?_
    | fail
  all_goals (refine ⟨Gr.refl _, _, .refl _, ?_⟩; simp [look, *])
theorem sf98 {H : Hp} : SF Tryz.prog W0 98 [] H fun r H' => H' = H ∧ ∃ x : List Str, r = .sl 1 (strs x) .shut ∧ x.length ≤ 20 ∧ ∀ s ∈ x, s.length ≤ 2 := by
  refine SF.pureLe (sf_start [0] 2 Tryz.func98 rfl rfl rfl (by decide) (by simp) ?_)
  repeat' first
    | refine aSq ?_ | refine aRt ?_
    | refine ru ?_
    | fail
  exact ⟨Gr.refl _, _, by simp; exact .shut _ _ _, [[40], [41], [123], [125], [44], [58], [58, 62], [61], [61, 62], [45, 62], [42], [43], [45], [60], [124], [35, 49], [35, 50]], rfl, by decide, by decide⟩
end Go.Av
namespace Go.Av
open Go.Proofs
variable {W0 : World}
set_option maxRecDepth 10000
set_option maxHeartbeats 4000000
theorem sf133 {l : List Nat} {own : Own} {i : Nat} {H : Hp} (hl : runesOK l) (hi : i ≤ l.length) : SF Tryz.prog W0 133 [.sl 1 (rns l) own, .int .i64 i] H fun r H' => H' = H ∧ ∃ n : Nat, r = .int .i64 n ∧ i + n ≤ l.length ∧ (∀ h : i < l.length, cls l[i] = 1 → 1 ≤ n) := by
  unfold runesOK at hl
  refine SF.pureLe (sf_start [4] 24 Tryz.func133 rfl rfl rfl (by decide) (by simp) ?_)
  repeat' first
    | refine aSq ?_ | refine aBl ?_
    | refine ru ?_
    | fail
  refine awp_loop_inv (fun q st => ∃ n : Nat, q = l.length - (i + n) ∧ i + n ≤ l.length ∧ Sub st ⟨24, [(0, .sl 1 (rns l) own), (1, .int .i64 i), (5, .int .i64 n)], H⟩) (l.length - i) ⟨0, by simp, by omega, rfl, rfl, only_cons (by simp) (only_cons (by simp) (only_cons (by simp) only_nil))⟩ ?_
  rintro q st ⟨n, rfl, hn, hs2⟩
  refine awp_sub hs2 ?_
  clear hs2 st
  obtain ⟨j, hj⟩ : ∃ j : Nat, (i : Int) + n = j := ⟨i + n, rfl⟩
  have hjn : j = i + n := by omega
  repeat' first
    | refine aSq ?_ | refine aRt ?_ | refine aSk ?_ | refine aEx ?_ | refine aBl ?_ | refine tN ?_
    | (refine rg 2 ?_; refine tk 6 ?_ (by simp (disch := omega) [hj]; with_reducible rfl); (first | (refine te (hs := (by simp (disch := omega) [hj]; with_reducible rfl)) (fun hb => ?_) (fun hb => ?_) <;> (try simp at hb) <;> try (exfalso; omega)) | (refine tk 1 ?_ (by simp (disch := omega) [hj]; with_reducible rfl))); all_goals (refine tk 6 ?_ (by simp (disch := omega) [hj]; with_reducible rfl); (first | (refine fg en136 ?_; refine SF.then sf136 ?_) | (refine tk 1 ?_ (by simp (disch := omega) [hj]; with_reducible rfl))); refine tk 1 ?_ (by simp (disch := omega) [hj]; with_reducible rfl); refine dn ?_))
    | (refine ru ?_ (by simp (disch := omega) [hj]; with_reducible rfl))
    | (refine awp_if rfl (fun hb => ?_) (fun hb => ?_) <;> (try simp at hb) <;> try (exfalso; omega))
    | refine inN ?_
  · exact ⟨l.length - (i + (n + 1)), by omega, n + 1, rfl, by omega, rfl, rfl, only_cons (by simp) (only_cons (by simp) (only_cons (by simp (disch := omega)) only_nil))⟩
  · refine ⟨Gr.refl _, _, .refl _, n, rfl, hn, fun h hc => ?_⟩
    rcases Nat.eq_zero_or_pos n with rfl | hp
    · have : j = i := by omega
      subst this
      exact absurd hc hb.1.1
    · exact hp
  · exact ⟨Gr.refl _, _, .refl _, n, rfl, hn, fun h hc => by omega⟩
theorem sf54 {l : List Nat} {own : Own} {i : Nat} {H : Hp} (hl : runesOK l) (hi : i ≤ l.length) : SF Tryz.prog W0 54 [.sl 1 (rns l) own, .int .i64 i] H fun r H' => H' = H ∧ ∃ n : Nat, r = .int .i64 n ∧ (n = 0 ∨ (i < n ∧ n ≤ l.length)) := by
  unfold runesOK at hl
  refine SF.pureLe (sf_start [4] 50 Tryz.func54 rfl rfl rfl (by decide) (by simp) ?_)
  repeat' first
    | refine aSq ?_ | refine aBl ?_
    | refine ru ?_
    | fail
  refine awp_loop_inv (fun q st => ∃ (k : Nat) (d : Int), q = l.length - k ∧ i ≤ k ∧ k ≤ l.length ∧ -(k : Int) ≤ d ∧ d ≤ k ∧ Sub st ⟨50, [(0, .sl 1 (rns l) own), (1, .int .i64 k), (5, .int .i64 d)], H⟩) (l.length - i) ⟨i, 0, rfl, by omega, by omega, by omega, by omega, rfl, rfl, only_cons (by simp) (only_cons (by simp) (only_cons (by simp) only_nil))⟩ ?_
  rintro q st ⟨k, d, rfl, hk, hk2, hd1, hd2, hs2⟩
  refine awp_sub hs2 ?_
  clear hs2 st
  obtain ⟨j, hj⟩ : ∃ j : Nat, (k : Int) + 1 = j := ⟨k + 1, rfl⟩
  have hjn : j = k + 1 := by omega
  repeat' first
    | refine aSq ?_ | refine aRt ?_ | refine aSk ?_ | refine aEx ?_ | refine aBl ?_ | refine tN ?_ | refine tR ?_ | refine iR ?_
    | (refine rg 3 ?_; refine tk 5 ?_ (by simp (disch := omega) [hj]; with_reducible rfl); (first | (refine te (hs := (by simp (disch := omega) [hj]; with_reducible rfl)) (fun hb => ?_) (fun hb => ?_) <;> (try simp at hb) <;> try (exfalso; omega)) | (refine tk 1 ?_ (by simp (disch := omega) [hj]; with_reducible rfl))); all_goals (refine tk 7 ?_ (by simp (disch := omega) [hj]; with_reducible rfl); refine dn ?_))
    | (refine rg 6 ?_; refine tk 5 ?_ (by simp (disch := omega) [hj]; with_reducible rfl); (first | (refine te (hs := (by simp (disch := omega) [hj]; with_reducible rfl)) (fun hb => ?_) (fun hb => ?_) <;> (try simp at hb) <;> try (exfalso; omega)) | (refine tk 1 ?_ (by simp (disch := omega) [hj]; with_reducible rfl))); all_goals (refine tk 7 ?_ (by simp (disch := omega) [hj]; with_reducible rfl); refine dn ?_))
    | (refine ru ?_ (by simp (disch := omega) [hj]; with_reducible rfl))
    | (refine awp_if rfl (fun hb => ?_) (fun hb => ?_) <;> (try simp at hb) <;> try (exfalso; omega))
    | refine inN ?_
  all_goals first
    | exact ⟨l.length - (k + 2), by omega, k + 2, d + 1, rfl, by omega, by omega, by omega, by omega, rfl, rfl, only_cons (by simp) (only_cons (.of_eq (by simp <;> omega)) (only_cons (.refl _) only_nil))⟩
    | exact ⟨l.length - (k + 2), by omega, k + 2, d - 1, rfl, by omega, by omega, by omega, by omega, rfl, rfl, only_cons (by simp) (only_cons (.of_eq (by simp <;> omega)) (only_cons (.refl _) only_nil))⟩
    | exact ⟨l.length - (k + 1), by omega, k + 1, d, rfl, by omega, by omega, by omega, by omega, rfl, rfl, only_cons (by simp) (only_cons (.of_eq (by simp <;> omega)) (only_cons (.refl _) only_nil))⟩
    | exact ⟨Gr.refl _, .int .i64 0, .refl _, 0, rfl, .inl rfl⟩
    | exact ⟨Gr.refl _, .int .i64 (k + 2 : Nat), .of_eq (by simp), k + 2, rfl, .inr ⟨by omega, by omega⟩⟩
theorem conj_if {α : Type} {n m : Nat} {k l : Int} (h1 : n ≤ m) (h2 : k ≤ l) (a b : α) : (if n ≤ m ∧ k ≤ l then a else b) = a := if_pos ⟨h1, h2⟩
theorem sf137 : ∀ (N : Nat) (x : Int) (H : Hp), N ≤ 100 → -10 ^ N < x → x < 10 ^ N → -1099511627776 ≤ x → x ≤ 1099511627776 → SF Tryz.prog W0 137 [.int .i64 x] H fun r H' => H' = H ∧ ∃ s : Str, r = .str s ∧ s.length ≤ N + 2 := by
  intro N
  induction N with
  | zero =>
    intro x H _ h1 h2 _ _
    have : x = 0 := by omega
    subst this
    refine SF.pureLe (sf_start [2] 44 Tryz.func137 rfl rfl rfl (by decide) (by simp) ?_)
    repeat' first
      | refine aSq ?_ | refine aRt ?_ | refine aSk ?_ | refine tN ?_ | refine tR ?_
      | (refine rg 1 ?_; refine tk 2 ?_; (first | (refine te (fun hb => ?_) (fun hb => ?_) <;> (try simp at hb) <;> try (exfalso; omega)) | (refine tk 1 ?_)); all_goals (refine tk 3 ?_; refine dn ?_))
      | refine ru ?_
      | (refine awp_if rfl (fun hb => ?_) (fun hb => ?_) <;> (try simp at hb) <;> try (exfalso; omega))
      | fail
    exact ⟨Gr.refl _, _, .refl _, _, rfl, by simp⟩
  | succ N ih =>
    intro x H hN h1 h2 h3 h4
    rw [Int.pow_succ] at h1 h2
    refine SF.pureLe (sf_start [2] 44 Tryz.func137 rfl rfl rfl (by decide) (by simp) ?_)
    rcases (by omega : x < 0 ∨ 0 ≤ x) with hn | hp
    · obtain ⟨m, rfl⟩ : ∃ m : Nat, x = -(m : Int) := ⟨(-x).toNat, by omega⟩
      obtain ⟨m1, hm1⟩ : ∃ m1 : Nat, (1 : Int) + m = m1 := ⟨1 + m, rfl⟩
      have hq : Int.tdiv (-(m : Int)) 10 = -((m / 10 : Nat) : Int) := by rw [Int.neg_tdiv]; rfl
      have hr : Int.tmod (-(m : Int)) 10 = -((m % 10 : Nat) : Int) := by rw [Int.neg_tmod]; rfl
      obtain ⟨q, hqm⟩ : ∃ q : Nat, m / 10 = q := ⟨_, rfl⟩
      obtain ⟨r, hrm⟩ : ∃ r : Nat, m % 10 = r := ⟨_, rfl⟩
      rw [hqm] at hq
      rw [hrm] at hr
      obtain ⟨r1, hr1⟩ : ∃ r1 : Nat, (1 : Int) + r = r1 := ⟨1 + r, rfl⟩
      repeat' first
        | refine aSq ?_ | refine aRt ?_ | refine aSk ?_ | refine tN ?_ | refine tR ?_
        | (refine rg 1 ?_; refine tk 2 ?_ (by simp (disch := omega) [hm1, hq, hr, hr1, conj_if, small_if]; with_reducible rfl); (first | (refine te (hs := (by simp (disch := omega) [hm1, hq, hr, hr1, conj_if, small_if]; with_reducible rfl)) (fun hb => ?_) (fun hb => ?_) <;> (try simp at hb) <;> try (exfalso; omega)) | (refine tk 1 ?_ (by simp (disch := omega) [hm1, hq, hr, hr1, conj_if, small_if]; with_reducible rfl))); all_goals (refine tk 3 ?_ (by simp (disch := omega) [hm1, hq, hr, hr1, conj_if, small_if]; with_reducible rfl); refine dn ?_))
        | (refine dr 4 [(0, true), (1, true), (3, true), (4, true), (5, true), (6, true), (7, true), (8, true), (9, true), (2, false), (10, true), (11, true)] [] ?_; refine da 9 (fun _ => ?_) (h := (by simp (disch := omega) [hm1, hq, hr, hr1, conj_if, small_if]; with_reducible rfl)); refine df en137 ?_; refine (ih _ _ (by omega) (by omega) (by omega) (by omega) (by omega)).mono ?_; rintro x1 H1 ⟨rfl, s1, rfl, hs1⟩; refine ⟨.inr rfl, ?_⟩; refine dl ?_ (h := (by simp (disch := omega) [hm1, hq, hr, hr1, conj_if, small_if]; with_reducible rfl)))
        | (refine ru ?_ (by simp (disch := omega) [hm1, hq, hr, hr1, conj_if, small_if]; with_reducible rfl))
        | (refine awp_if rfl (fun hb => ?_) (fun hb => ?_) <;> (try simp at hb) <;> try (exfalso; omega))
        | fail
      all_goals refine ⟨Gr.refl _, _, .refl _, _, rfl, ?_⟩
      all_goals simp
      all_goals omega
    · obtain ⟨m, rfl⟩ : ∃ m : Nat, x = (m : Int) := ⟨x.toNat, by omega⟩
      obtain ⟨m1, hm1⟩ : ∃ m1 : Nat, (m : Int) + 1 = m1 := ⟨m + 1, rfl⟩
      have hq : Int.tdiv (m : Int) 10 = ((m / 10 : Nat) : Int) := rfl
      have hr : Int.tmod (m : Int) 10 = ((m % 10 : Nat) : Int) := rfl
      obtain ⟨q, hqm⟩ : ∃ q : Nat, m / 10 = q := ⟨_, rfl⟩
      obtain ⟨r, hrm⟩ : ∃ r : Nat, m % 10 = r := ⟨_, rfl⟩
      rw [hqm] at hq
      rw [hrm] at hr
      obtain ⟨r1, hr1⟩ : ∃ r1 : Nat, (r : Int) + 1 = r1 := ⟨r + 1, rfl⟩
      repeat' first
        | refine aSq ?_ | refine aRt ?_ | refine aSk ?_ | refine tN ?_ | refine tR ?_
        | (refine rg 1 ?_; refine tk 2 ?_ (by simp (disch := omega) [hm1, hq, hr, hr1, conj_if, small_if]; with_reducible rfl); (first | (refine te (hs := (by simp (disch := omega) [hm1, hq, hr, hr1, conj_if, small_if]; with_reducible rfl)) (fun hb => ?_) (fun hb => ?_) <;> (try simp at hb) <;> try (exfalso; omega)) | (refine tk 1 ?_ (by simp (disch := omega) [hm1, hq, hr, hr1, conj_if, small_if]; with_reducible rfl))); all_goals (refine tk 3 ?_ (by simp (disch := omega) [hm1, hq, hr, hr1, conj_if, small_if]; with_reducible rfl); refine dn ?_))
        | (refine dr 7 [(0, true), (1, true), (3, true), (4, true), (5, true), (6, true), (7, true), (8, true), (2, false), (9, true), (10, true)] [] ?_; refine da 8 (fun _ => ?_) (h := (by simp (disch := omega) [hm1, hq, hr, hr1, conj_if, small_if]; with_reducible rfl)); refine df en137 ?_; refine (ih _ _ (by omega) (by omega) (by omega) (by omega) (by omega)).mono ?_; rintro x1 H1 ⟨rfl, s1, rfl, hs1⟩; refine ⟨.inr rfl, ?_⟩; refine dl ?_ (h := (by simp (disch := omega) [hm1, hq, hr, hr1, conj_if, small_if]; with_reducible rfl)))
        | (refine ru ?_ (by simp (disch := omega) [hm1, hq, hr, hr1, conj_if, small_if]; with_reducible rfl))
        | (refine awp_if rfl (fun hb => ?_) (fun hb => ?_) <;> (try simp at hb) <;> try (exfalso; omega))
        | fail
      all_goals refine ⟨Gr.refl _, _, .refl _, _, rfl, ?_⟩
      all_goals simp
      all_goals omega
end Go.Av
namespace Go.Av
open Go.Proofs
variable {W0 : World}
set_option maxRecDepth 10000
set_option maxHeartbeats 4000000
def TokR (l : List Nat) (i : Nat) (r : AV) : Prop := ∃ (t : Tok) (tz : Int) (ok : Bool), r = .tuple [.agg t.av, .int .i64 tz, .bool ok] ∧ t.text.length ≤ 67108863 ∧ (ok = true → ∃ n : Nat, tz = n ∧ i < n ∧ n ≤ l.length)
theorem tokr_ret {l : List Nat} {i : Nat} {H : Hp} {st : St} (t : Tok) {tz : Int} {ok : Bool} (hl : look st.env 4 = .ref H.objs.length 0) (ho : st.H = ⟨H.objs ++ [.cells t.av], H.hi⟩) (h5 : look st.env 5 = .int .i64 tz) (h6 : look st.env 6 = .bool ok) (ht : t.text.length ≤ 67108863)
    (hk : ok = true → ∃ n : Nat, tz = n ∧ i < n ∧ n ≤ l.length) : retC tab 4 77 [5, 6] (fun r H' => Gr H H' ∧ ∃ r', Le (cln H.objs.length H.hi.length r) r' ∧ TokR l i r') .ret st := by
  refine ⟨.agg t.av, ?_, ?_, .tuple [.agg t.av, .int .i64 tz, .bool ok], ?_, t, tz, ok, rfl, ht, hk⟩
  · rw [hl, ho]; simp [Tok.av]
  · rw [ho]; exact (Gr.refl H).obj _
  · simp only [List.map_cons, List.map_nil, h5, h6]; simp [Tok.av]
theorem sf96 {l : List Nat} {own : Own} {i : Nat} {H : Hp} (hl : runesOK l) (hi : i < l.length) (hc : cls l[i] = 1) : SF Tryz.prog W0 96 [.sl 1 (rns l) own, .int .i64 i] H fun r H' => H' = H ∧ TokR l i r := by
  have hl' := hl
  unfold runesOK at hl'
  refine SF.pureLe (sf_startC 4 77 [5, 6] 95 tab_ok Tryz.func96 rfl rfl rfl (by decide) (by simp) ?_)
  repeat' first
    | refine aSq ?_
    | (refine rg 1 ?_; refine tk 3 ?_; refine fc en133 ?_; refine (sf133 hl (by omega)).mono ?_; rintro x1 H1 ⟨rfl, n1, rfl, hn1, hk1⟩; refine tk 2 ?_; refine dn ?_)
    | refine ru ?_
    | fail
  have hk := hk1 hi hc
  obtain ⟨j, hj⟩ : ∃ j : Nat, (i : Int) + n1 = j := ⟨i + n1, rfl⟩
  have hjn : j = i + n1 := by omega
  repeat' first
    | refine aSq ?_ | refine aRt ?_ | refine aSk ?_ | refine aBl ?_ | refine tN ?_ | refine tR ?_
    | (refine rg 2 ?_; refine tk 3 ?_ (by simp (disch := omega) [hj]; with_reducible rfl); refine fc en52 ?_; refine (sf52 hl (by omega)).mono ?_; rintro x1 H1 ⟨rfl, s1, rfl, hs1⟩; refine tk 1 ?_ (by simp (disch := omega) [hj]; with_reducible rfl); refine dn ?_)
    | (refine rg 3 ?_; refine tk 1 ?_ (by simp (disch := omega) [hj]; with_reducible rfl); refine fc en134 ?_; refine SF.then sf134 ?_; (first | (refine te (hs := (by simp (disch := omega) [hj]; with_reducible rfl)) (fun hb => ?_) (fun hb => ?_) <;> (try simp at hb) <;> try (exfalso; omega)) | (refine tk 1 ?_ (by simp (disch := omega) [hj]; with_reducible rfl))); all_goals (refine tk 4 ?_ (by simp (disch := omega) [hj]; with_reducible rfl); (first | (refine te (hs := (by simp (disch := omega) [hj]; with_reducible rfl)) (fun hb => ?_) (fun hb => ?_) <;> (try simp at hb) <;> try (exfalso; omega)) | (refine tk 1 ?_ (by simp (disch := omega) [hj]; with_reducible rfl))); all_goals (refine tk 7 ?_ (by simp (disch := omega) [hj]; with_reducible rfl); refine dn ?_)))
    | (refine rg 5 ?_; refine tk 1 ?_ (by simp (disch := omega) [hj]; with_reducible rfl); refine fc en135 ?_; refine SF.then (sf135 (by omega)) ?_; (first | (refine te (hs := (by simp (disch := omega) [hj]; with_reducible rfl)) (fun hb => ?_) (fun hb => ?_) <;> (try simp at hb) <;> try (exfalso; omega)) | (refine tk 1 ?_ (by simp (disch := omega) [hj]; with_reducible rfl))); all_goals (refine tk 1 ?_ (by simp (disch := omega) [hj]; with_reducible rfl); (first | (refine fg en134 ?_; refine SF.then sf134 ?_) | (refine tk 1 ?_ (by simp (disch := omega) [hj]; with_reducible rfl))); refine tk 3 ?_ (by simp (disch := omega) [hj]; with_reducible rfl); refine dn ?_))
    | (refine ru ?_ (by simp (disch := omega) [hj]; with_reducible rfl))
    | (refine awp_if rfl (fun hb => ?_) (fun hb => ?_) <;> (try simp at hb) <;> try (exfalso; omega))
    | fail
  all_goals first
    | exact tokr_ret ⟨3, s1, 0, 0⟩ rfl rfl rfl rfl (by simp only; omega) (fun _ => ⟨j, rfl, by omega, by omega⟩)
    | skip
  all_goals
   refine awp_loop_inv (fun q st => ∃ (tz : Nat) (w : Str) (ok : Bool), q = l.length - tz ∧ i < tz ∧ tz ≤ l.length ∧ Sub st ⟨95, [(0, .sl 1 (rns l) own), (1, .int .i64 i), (4, .ref H.objs.length 0), (7, .int .i64 tz), (8, .str w), (9, .bool ok)], ⟨H.objs ++ [.cells [.int .i64 0, .str [], .int .i64 0, .int .i64 0]], H.hi⟩⟩) (l.length - j)
    ⟨j, s1, _, rfl, by omega, by omega, sb (by (repeat' first | exact only_nil | refine only_cons (by first | (simp (disch := omega); done) | exact Le.refl _) ?_))⟩ ?_
   rintro q st ⟨tz, w, ok, rfl, hto, hto2, hs2⟩
   refine awp_sub hs2 ?_
   clear hs2 st
   obtain ⟨to1, ht1⟩ : ∃ k : Nat, (tz : Int) + 1 = k := ⟨tz + 1, rfl⟩
   have ht1n : to1 = tz + 1 := by omega
   repeat' first
     | refine aSq ?_ | refine aRt ?_ | refine aSk ?_ | refine aEx ?_ | refine aBl ?_ | refine tN ?_
     | (refine rg 6 ?_; refine tk 1 ?_ (by simp (disch := omega) [ht1]; with_reducible rfl); (first | (refine te (hs := (by simp (disch := omega) [ht1]; with_reducible rfl)) (fun hb => ?_) (fun hb => ?_) <;> (try simp at hb) <;> try (exfalso; omega)) | (refine tk 1 ?_ (by simp (disch := omega) [ht1]; with_reducible rfl))); all_goals (refine tk 5 ?_ (by simp (disch := omega) [ht1]; with_reducible rfl); (first | (refine te (hs := (by simp (disch := omega) [ht1]; with_reducible rfl)) (fun hb => ?_) (fun hb => ?_) <;> (try simp at hb) <;> try (exfalso; omega)) | (refine tk 1 ?_ (by simp (disch := omega) [ht1]; with_reducible rfl))); all_goals (refine tk 6 ?_ (by simp (disch := omega) [ht1]; with_reducible rfl); refine dn ?_)))
     | (refine rg 7 ?_; refine tk 3 ?_ (by simp (disch := omega) [ht1]; with_reducible rfl); refine fc en133 ?_; refine (sf133 hl (by omega)).mono ?_; rintro x1 H1 ⟨rfl, n2, rfl, hn2, hk2⟩; refine tk 1 ?_ (by simp (disch := omega) [ht1]; with_reducible rfl); refine dn ?_)
     | (refine rg 11 ?_; refine tk 3 ?_ (by simp (disch := omega) [ht1]; with_reducible rfl); refine fc en52 ?_; refine (sf52 hl (by omega)).mono ?_; rintro x1 H1 ⟨rfl, s2, rfl, hs2⟩; refine tk 1 ?_ (by simp (disch := omega) [ht1]; with_reducible rfl); refine dn ?_)
     | (refine rg 12 ?_; refine tk 4 ?_ (by simp (disch := omega) [ht1]; with_reducible rfl); (first | (refine te (hs := (by simp (disch := omega) [ht1]; with_reducible rfl)) (fun hb => ?_) (fun hb => ?_) <;> (try simp at hb) <;> try (exfalso; omega)) | (refine tk 1 ?_ (by simp (disch := omega) [ht1]; with_reducible rfl))); all_goals (refine tk 7 ?_ (by simp (disch := omega) [ht1]; with_reducible rfl); refine dn ?_))
     | (refine awp_if rfl (fun hb => ?_) (fun hb => ?_) <;> (try simp at hb) <;> try (exfalso; omega))
     | fail
   all_goals first
     | exact tokr_ret ⟨1, s2, 0, 0⟩ rfl rfl rfl rfl (by simp only; omega) (fun _ => ⟨tz, rfl, by omega, by omega⟩)
     | (obtain ⟨m, hm⟩ : ∃ m : Nat, (to1 : Int) + n2 = m := ⟨to1 + n2, rfl⟩
        have hmn : m = to1 + n2 := by omega
        repeat' first
          | refine aSq ?_ | refine tN ?_
          | (refine rg 8 ?_; refine tk 7 ?_ (by simp (disch := omega) [ht1, hm]; with_reducible rfl); refine fc en52 ?_; refine (sf52 hl (by omega)).mono ?_; rintro x1 H1 ⟨rfl, s2, rfl, hs2⟩; refine tk 1 ?_ (by simp (disch := omega) [ht1, hm]; with_reducible rfl); refine dn ?_)
          | (refine rg 9 ?_; refine tk 1 ?_ (by simp (disch := omega) [ht1, hm]; with_reducible rfl); refine fc en135 ?_; refine SF.then (sf135 (by omega)) ?_; (first | (refine te (hs := (by simp (disch := omega) [ht1, hm]; with_reducible rfl)) (fun hb => ?_) (fun hb => ?_) <;> (try simp at hb) <;> try (exfalso; omega)) | (refine tk 1 ?_ (by simp (disch := omega) [ht1, hm]; with_reducible rfl))); all_goals (refine tk 1 ?_ (by simp (disch := omega) [ht1, hm]; with_reducible rfl); (first | (refine fg en134 ?_; refine SF.then sf134 ?_) | (refine tk 1 ?_ (by simp (disch := omega) [ht1, hm]; with_reducible rfl))); refine tk 3 ?_ (by simp (disch := omega) [ht1, hm]; with_reducible rfl); refine dn ?_))
          | (refine ru ?_ (by simp (disch := omega) [ht1, hm]; with_reducible rfl))
          | refine inN ?_
        all_goals exact ⟨l.length - m, by omega, m, s2, _, rfl, by omega, by omega, sb (by (repeat' first | exact only_nil | refine only_cons (by first | (simp (disch := omega); done) | exact Le.refl _) ?_))⟩)
     | trace_state
end Go.Av
namespace Go.Av
open Go.Proofs
variable {W0 : World}
set_option maxRecDepth 10000
set_option maxHeartbeats 4000000
theorem cls2 {n : Nat} (h : cls n = 2) : 48 ≤ n ∧ n ≤ 57 := by
  unfold cls at h
  repeat' split at h
  all_goals first | omega | simp at h
theorem sf97 {l : List Nat} {own : Own} {i : Nat} {H : Hp} (hl : runesOK l) (hi : i < l.length) : SF Tryz.prog W0 97 [.sl 1 (rns l) own, .int .i64 i] H fun r H' => H' = H ∧ TokR l i r := by
  have hl' := hl
  unfold runesOK at hl'
  refine SF.pureLe (sf_startC 4 77 [5, 6] 72 tab_ok Tryz.func97 rfl rfl rfl (by decide) (by simp) ?_)
  repeat' first
    | (refine cutIf 2 (fun s' => ∃ fr : Nat, i ≤ fr ∧ fr ≤ l.length ∧ Sub s' ⟨72, [(0, .sl 1 (rns l) own), (1, .int .i64 i), (4, .ref H.objs.length 0), (7, .int .i64 fr)], ⟨H.objs ++ [.cells [.int .i64 0, .str [], .int .i64 0, .int .i64 0]], H.hi⟩⟩) (aSq ?_) (fun s' hs' => ?_))
    | refine aSq ?_ | refine aSk ?_ | refine tN ?_
    | refine ru ?_
    | (refine awp_if rfl (fun hb => ?_) (fun hb => ?_) <;> (try simp at hb) <;> try (exfalso; omega))
    | fail
  · exact ⟨rfl, i + 1, by omega, by omega, sb⟩
  · exact ⟨rfl, i, by omega, by omega, sb⟩
  obtain ⟨fr, hf1, hf2, hs'⟩ := hs'
  refine awp_sub hs' ?_
  clear hs' s'
  repeat' first
    | refine aSq ?_ | refine aBl ?_
    | refine ru ?_
    | fail
  refine awp_loop_inv (fun q st => ∃ (tz v : Nat), q = l.length - tz ∧ fr ≤ tz ∧ tz ≤ l.length ∧ v ≤ 1073741824 ∧ Sub st ⟨72, [(0, .sl 1 (rns l) own), (1, .int .i64 i), (4, .ref H.objs.length 0), (7, .int .i64 tz), (8, .int .i64 fr), (9, .int .i64 v)], ⟨H.objs ++ [.cells [.int .i64 0, .str [], .int .i64 0, .int .i64 0]], H.hi⟩⟩) (l.length - fr)
    ⟨fr, 0, rfl, by omega, by omega, by omega, sb⟩ ?_
  rintro q st ⟨tz, v, rfl, hto, hto2, hv, hs2⟩
  refine awp_sub hs2 ?_
  clear hs2 st
  repeat' first
    | refine aSq ?_ | refine aRt ?_ | refine aSk ?_ | refine aEx ?_ | refine aBl ?_ | refine tN ?_ | refine tR ?_ | refine iR ?_
    | (refine rg 6 ?_; refine tk 4 ?_; (first | (refine te (fun hb => ?_) (fun hb => ?_) <;> (try simp at hb) <;> try (exfalso; omega)) | (refine tk 1 ?_)); all_goals (refine tk 4 ?_; (first | (refine fg en53 ?_; refine SF.then sf53 ?_) | (refine tk 1 ?_)); refine tk 2 ?_; refine dn ?_))
    | (refine rg 7 ?_; have hcl := cls2 (n := l[tz]) (by assumption); refine tk 10 ?_; refine dn ?_)
    | (refine rg 11 ?_; refine tk 3 ?_; (first | (refine te (fun hb => ?_) (fun hb => ?_) <;> (try simp at hb) <;> try (exfalso; omega)) | (refine tk 1 ?_)); all_goals (refine tk 4 ?_; (first | (refine te (fun hb => ?_) (fun hb => ?_) <;> (try simp at hb) <;> try (exfalso; omega)) | (refine tk 1 ?_)); all_goals (refine tk 4 ?_; (first | (refine fg en136 ?_; refine SF.then sf136 ?_) | (refine tk 1 ?_)); refine tk 2 ?_; refine dn ?_)))
    | (refine rg 15 ?_; refine tk 1 ?_; refine fc en137 ?_; (first | (refine (sf137 12 (v : Int) _ (by omega) (by omega) (by omega) (by omega) (by omega)).mono ?_; rintro x1 H1 ⟨rfl, s1, rfl, hs1⟩) | (refine (sf137 12 (-(v : Int)) _ (by omega) (by omega) (by omega) (by omega) (by omega)).mono ?_; rintro x1 H1 ⟨rfl, s1, rfl, hs1⟩)); refine tk 6 ?_; refine dn ?_)
    | refine ru ?_
    | (refine awp_if rfl (fun hb => ?_) (fun hb => ?_) <;> (try simp at hb) <;> try (exfalso; omega))
    | refine inN ?_
  all_goals first
    | exact tokr_ret ⟨0, [], 0, 0⟩ rfl rfl rfl rfl (by simp) (fun h => by cases h)
    | exact tokr_ret ⟨2, s1, _, 0⟩ rfl rfl rfl rfl (by simp only; omega) (fun _ => ⟨tz, rfl, by omega, by omega⟩)
    | exact ⟨l.length - (tz + 1), by omega, tz + 1, 10 * v + l[tz] - 48, rfl, by omega, by omega, by omega, sb (by (repeat' first | exact only_nil | refine only_cons (by first | (simp (disch := omega); done) | exact Le.of_eq (congrArg (AV.int .i64) (by omega))) ?_))⟩
    | fail
theorem sf55 {l : List Nat} {own : Own} {i : Nat} {H : Hp} (hl : runesOK l) (hi : i < l.length) : SF Tryz.prog W0 55 [.sl 1 (rns l) own, .int .i64 i] H fun r H' => H' = H ∧ TokR l i r := by
  have hl' := hl
  unfold runesOK at hl'
  refine SF.pureLe (sf_startC 4 77 [5, 6] 91 tab_ok Tryz.func55 rfl rfl rfl (by decide) (by simp) ?_)
  repeat' first
    | refine aSq ?_ | refine aRt ?_ | refine aSk ?_ | refine aBl ?_ | refine tN ?_ | refine tR ?_
    | (refine rg 1 ?_; refine tk 4 ?_ (by simp (disch := omega) [Tok.av]; with_reducible rfl); refine fc en53 ?_; refine SF.then sf53 ?_; refine tk 1 ?_ (by simp (disch := omega) [Tok.av]; with_reducible rfl); refine dn ?_)
    | (refine rg 3 ?_; refine tk 2 ?_ (by simp (disch := omega) [Tok.av]; with_reducible rfl); refine fc en96 ?_; refine (sf96 hl hi (by assumption)).mono ?_; rintro x1 H1 ⟨rfl, t1, to1, ok1, rfl, ht1, hk1⟩; refine tk 6 ?_ (by simp (disch := omega) [Tok.av]; with_reducible rfl); refine dn ?_)
    | (refine rg 4 ?_; refine tk 2 ?_ (by simp (disch := omega) [Tok.av]; with_reducible rfl); (first | (refine te (hs := (by simp (disch := omega) [Tok.av]; with_reducible rfl)) (fun hb => ?_) (fun hb => ?_) <;> (try simp at hb) <;> try (exfalso; omega)) | (refine tk 1 ?_ (by simp (disch := omega) [Tok.av]; with_reducible rfl))); all_goals (refine tk 6 ?_ (by simp (disch := omega) [Tok.av]; with_reducible rfl); refine dn ?_))
    | (refine rg 5 ?_; refine tk 2 ?_ (by simp (disch := omega) [Tok.av]; with_reducible rfl); refine fc en97 ?_; refine (sf97 hl hi).mono ?_; rintro x1 H1 ⟨rfl, t1, to1, ok1, rfl, ht1, hk1⟩; refine tk 6 ?_ (by simp (disch := omega) [Tok.av]; with_reducible rfl); refine dn ?_)
    | (refine rg 6 ?_; refine fc en98 ?_; refine sf98.mono ?_; rintro x1 H1 ⟨rfl, x, rfl, hx, hx2⟩; refine tk 1 ?_ (by simp (disch := omega) [Tok.av]; with_reducible rfl); refine dn ?_)
    | (refine ru ?_ (by simp (disch := omega) [Tok.av]; with_reducible rfl))
    | (refine awp_if rfl (fun hb => ?_) (fun hb => ?_) <;> (try simp at hb) <;> try (exfalso; omega))
    | fail
  all_goals first
    | exact tokr_ret t1 rfl rfl rfl rfl ht1 hk1
    | skip
  refine awp_loop_inv (fun q st => ∃ (k : Nat) (b : Str), q = x.length - k ∧ k ≤ x.length ∧ b.length ≤ 2 ∧ i + b.length ≤ l.length ∧ Sub st ⟨91, [(0, .sl 1 (rns l) own), (1, .int .i64 i), (4, .ref H.objs.length 0), (8, .sl 1 (strs x) .shut), (9, .str b), (10, .int .i64 k)], ⟨H.objs ++ [.cells [.int .i64 0, .str [], .int .i64 0, .int .i64 0]], H.hi⟩⟩) x.length
    ⟨0, [], rfl, by omega, by simp, by simp; omega, sb⟩ ?_
  rintro q st ⟨k, b, rfl, hk, hb1, hb2, hs2⟩
  refine awp_sub hs2 ?_
  clear hs2 st
  repeat' first
    | refine aSq ?_ | refine aRt ?_ | refine aSk ?_ | refine aEx ?_ | refine aBl ?_ | refine tN ?_
    | (refine rg 11 ?_; (have hlt : k < x.length := by assumption); have hx3 := hx2 x[k] (List.getElem_mem hlt); obtain ⟨j, hj⟩ : ∃ j : Nat, (i : Int) + x[k].length = j := ⟨i + x[k].length, rfl⟩; (have hjn : j = i + x[k].length := by omega); refine tk 8 ?_ (by simp (disch := omega) [hj]; with_reducible rfl); refine dn ?_)
    | refine ru ?_
    | (refine awp_if rfl (fun hb => ?_) (fun hb => ?_) <;> (try simp at hb) <;> try (exfalso; omega))
    | fail
  · repeat' first
      | refine aSk ?_ | refine tN ?_
      | (refine dr 12 [(0, true), (1, true), (2, true), (3, true), (4, true), (5, true), (6, true), (7, true), (9, true), (10, true), (11, true), (12, true), (8, false), (13, true), (14, true), (15, true), (16, true), (17, true), (18, true), (19, true), (20, true), (21, true), (22, true), (23, true), (24, true)] [] ?_; refine da 4 (fun _ => ?_) (h := (by simp (disch := omega) [hj, small_if]; with_reducible rfl)); (first | (refine de (hs' := (by simp (disch := omega) [hj, small_if]; with_reducible rfl)) (fun hb => ?_) (fun hb => ?_) <;> (try simp at hb) <;> try (exfalso; omega)) | (refine da 1 (fun _ => ?_) (h := (by simp (disch := omega) [hj, small_if]; with_reducible rfl)))); all_goals (refine da 7 (fun _ => ?_) (h := (by simp (disch := omega) [hj, small_if]; with_reducible rfl)); (first | (refine dg en52 ?_; refine (sf52 hl (by omega)).mono ?_; rintro x1 H1 ⟨rfl, s2, rfl, hs2⟩; refine ⟨.inr rfl, ?_⟩) | (refine ds ?_ (hs' := (by simp (disch := omega) [hj, small_if]; with_reducible rfl)))); refine da 2 (fun _ => ?_) (h := (by simp (disch := omega) [hj, small_if]; with_reducible rfl)); (first | (refine de (hs' := (by simp (disch := omega) [hj, small_if]; with_reducible rfl)) (fun hb => ?_) (fun hb => ?_) <;> (try simp at hb) <;> try (exfalso; omega)) | (refine da 1 (fun _ => ?_) (h := (by simp (disch := omega) [hj, small_if]; with_reducible rfl)))); all_goals (refine dl ?_ (h := (by simp (disch := omega) [hj, small_if]; with_reducible rfl)))))
      | (refine ru ?_ (by simp (disch := omega) [hj, small_if]; with_reducible rfl))
      | (refine awp_if rfl (fun hb => ?_) (fun hb => ?_) <;> (try simp at hb) <;> try (exfalso; omega))
      | fail
    · exact ⟨x.length - (k + 1), by omega, k + 1, x[k], rfl, by omega, by omega, by omega, sb⟩
    all_goals exact ⟨x.length - (k + 1), by omega, k + 1, b, rfl, by omega, by omega, by omega, sb⟩
  · first
      | exact tokr_ret ⟨3, b, 0, 0⟩ rfl rfl rfl rfl (by simp only; omega) (fun h => ⟨i + b.length, by simp, by (rcases b with _ | ⟨c, b⟩; simp at h; simp), by omega⟩)
      | fail
end Go.Av
namespace Go.Av
open Go.Proofs
open Go.Lib (validD)
variable {W0 : World}
set_option maxRecDepth 10000
set_option maxHeartbeats 4000000
theorem lex_err {H : Hp} {s : Str} {st : St} {a e : Int} (hg : Gr H st.H) (h2 : look st.env 2 = .slnil) (h3 : look st.env 3 = .int .i64 a) (h4 : look st.env 4 = .int .i64 e) :
    retQ [2, 3, 4] (fun r H' => Gr H H' ∧ ∃ r', Le (cln H.objs.length H.hi.length r) r' ∧ ∃ (l : List Tok) (a e : Int), r' = .tuple [.sl 4 (toks l) .shut, .int .i64 a, .int .i64 e] ∧ TokOKs l ∧ l.length ≤ s.length) .ret st := by
  refine ⟨hg, .tuple [.sl 4 (toks []) .shut, .int .i64 a, .int .i64 e], ?_, [], a, e, rfl, ⟨by simp, by simp⟩, by simp⟩
  simp only [List.map_cons, List.map_nil, h2, h3, h4, cln, clnL]
  exact .tuple (.cons (.nilShut 4) (.cons (.refl _) (.cons (.refl _) .nil)))
theorem sf30 {s : Str} {H : Hp} (hs : s.length ≤ 67108864) : SF Tryz.prog W0 30 [.str s] H fun r H' => H' = H ∧ ∃ (l : List Tok) (a e : Int), r = .tuple [.sl 4 (toks l) .shut, .int .i64 a, .int .i64 e] ∧ TokOKs l ∧ l.length ≤ s.length := by
  refine SF.pureLe (sf_start [2, 3, 4] 89 Tryz.func30 rfl rfl rfl (by decide) (by simp) ?_)
  obtain ⟨rs, e5, hrl, hif⟩ : ∃ (rs : List Nat) (e5 : Int), rs.length ≤ s.length ∧ (if validD s then AV.tuple [.sl 1 (rns (runes s)) .shut, .int .i64 0] else .tuple [.sl 1 [] .shut, .int .i64 4]) = .tuple [.sl 1 (rns rs) .shut, .int .i64 e5] := by
    by_cases hv : validD s = true
    · exact ⟨runes s, 0, runesF_len _ _, by rw [if_pos hv]⟩
    · exact ⟨[], 4, by simp, by rw [if_neg hv]; rfl⟩
  repeat' first
    | refine aSq ?_ | refine aRt ?_ | refine aSk ?_ | refine aBl ?_ | refine tN ?_ | refine tR ?_
    | (refine rg 1 ?_; refine tk 1 ?_; refine fc en50 ?_; refine (sf50 (by omega)).mono ?_; rintro x1 H1 ⟨rfl, p1, e1, rfl, he1⟩; refine tk 5 ?_; refine dn ?_)
    | (refine rg 4 ?_; refine tk 1 ?_; refine fc en51 ?_; refine (sf51 (by omega)).mono ?_; rintro x1 H1 ⟨rfl, rfl⟩; rw [hif]; refine tk 5 ?_; refine dn ?_)
    | refine ru ?_
    | (refine awp_if rfl (fun hb => ?_) (fun hb => ?_) <;> (try simp at hb) <;> try (exfalso; omega))
    | fail
  · exact ⟨Gr.refl _, .tuple [.sl 4 (toks []) .shut, .int .i64 p1, .int .i64 e1], by simp; exact .tuple (.cons (.nilShut 4) (.cons (.refl _) (.cons (.refl _) .nil))), [], p1, e1, rfl, ⟨by simp, by simp⟩, by simp⟩
  have hsl : s.length ≤ 16384 := he1 (by assumption)
  have hrk : runesOK rs := by unfold runesOK; omega
  refine awp_loop_inv (fun q st => ∃ (i : Nat) (ts : List Tok) (v : AV) (Hc : Hp), q = rs.length - i ∧ i ≤ rs.length ∧ ts.length ≤ i ∧ (∀ t ∈ ts, t.text.length ≤ 67108863) ∧ Gr H1 Hc ∧ App H1 Hc 4 (toks ts) v ∧
    Sub st ⟨89, [(7, .sl 1 (rns rs) .shut), (9, v), (10, .int .i64 i)], Hc⟩) rs.length
    ⟨0, [], .slnil, H1, rfl, by omega, by simp, by simp, Gr.refl _, App.slnil _ _ _, sb⟩ ?_
  rintro q st ⟨i, ts, v, Hc, rfl, hi, htl, htt, hg, a1, hs2⟩
  refine awp_sub hs2 ?_
  clear hs2 st
  obtain ⟨j, hj⟩ : ∃ j : Nat, (i : Int) + 1 = j := ⟨i + 1, rfl⟩
  have hjn : j = i + 1 := by omega
  repeat' first
    | refine aSq ?_ | refine aRt ?_ | refine aSk ?_ | refine aEx ?_ | refine aBl ?_ | refine tN ?_ | refine tR ?_ | refine tE ?_ | refine iR ?_
    | (refine rg 8 ?_; refine tk 2 ?_ (by simp (disch := omega) [hj, Tok.av]; with_reducible rfl); refine fc en52 ?_; refine (sf52 (a := 0) (b := i) hrk hi).mono ?_; rintro x1 H2 ⟨rfl, s2, rfl, hs2⟩; refine tk 2 ?_ (by simp (disch := omega) [hj, Tok.av]; with_reducible rfl); refine dn ?_)
    | (refine rg 9 ?_; refine tk 4 ?_ (by simp (disch := omega) [hj, Tok.av]; with_reducible rfl); refine fc en53 ?_; refine SF.then sf53 ?_; refine tk 1 ?_ (by simp (disch := omega) [hj, Tok.av]; with_reducible rfl); refine dn ?_)
    | (refine rg 11 ?_; refine tk 5 ?_ (by simp (disch := omega) [hj, Tok.av]; with_reducible rfl); (first | (refine te (hs := (by simp (disch := omega) [hj, Tok.av]; with_reducible rfl)) (fun hb => ?_) (fun hb => ?_) <;> (try simp at hb) <;> try (exfalso; omega)) | (refine tk 1 ?_ (by simp (disch := omega) [hj, Tok.av]; with_reducible rfl))); all_goals (refine tk 6 ?_ (by simp (disch := omega) [hj, Tok.av]; with_reducible rfl); (first | (refine te (hs := (by simp (disch := omega) [hj, Tok.av]; with_reducible rfl)) (fun hb => ?_) (fun hb => ?_) <;> (try simp at hb) <;> try (exfalso; omega)) | (refine tk 1 ?_ (by simp (disch := omega) [hj, Tok.av]; with_reducible rfl))); all_goals (refine tk 7 ?_ (by simp (disch := omega) [hj, Tok.av]; with_reducible rfl); refine dn ?_)))
    | (refine rg 12 ?_; refine tk 2 ?_ (by simp (disch := omega) [hj, Tok.av]; with_reducible rfl); refine fc en54 ?_; refine (sf54 hrk hi).mono ?_; rintro x1 H3 ⟨rfl, n3, rfl, hn3⟩; refine tk 1 ?_ (by simp (disch := omega) [hj, Tok.av]; with_reducible rfl); refine dn ?_)
    | (refine rg 15 ?_; refine tk 2 ?_ (by simp (disch := omega) [hj, Tok.av]; with_reducible rfl); refine fc en55 ?_; refine (sf55 hrk (by assumption)).mono ?_; rintro x1 H3 ⟨rfl, t3, to3, ok3, rfl, ht3, hk3⟩; refine tk 8 ?_ (by simp (disch := omega) [hj, Tok.av]; with_reducible rfl); refine dn ?_)
    | (refine rg 19 ?_; refine tk 3 ?_; obtain ⟨v', H', e3, a2, g2, o2⟩ := (a1.same (H' := ⟨H3.objs ++ [.cells [.int .i64 t3.kind, .str t3.text, .int .i64 t3.n, .int .i64 s2.length]], H3.hi⟩) rfl).append (T := tab) (hg.obj _) (x := .sl 4 [(Tok.mk t3.kind t3.text t3.n s2.length).av] .capped) (fs := [(Tok.mk t3.kind t3.text t3.n s2.length).av]) (t := 71) (e := 77) tab71 tab77 rfl (by decide) (by simp [Tok.av]) (by simp [Tok.av]) (by simp; omega); simp only [Tok.av] at e3; refine tk 2 ?_ (by simp [e3]; with_reducible rfl); refine dn ?_)
    | (refine ru ?_ (by simp (disch := omega) [hj, Tok.av]; with_reducible rfl))
    | (refine awp_if rfl (fun hb => ?_) (fun hb => ?_) <;> (try simp at hb) <;> try (exfalso; omega))
    | refine inE ?_
    | refine inN ?_
  · exact ⟨rs.length - j, by omega, j, ts, v, _, rfl, by omega, by omega, htt, hg, a1, sb⟩
  · exact lex_err hg rfl rfl rfl
  · have hn := hn3.resolve_left (by omega)
    exact ⟨rs.length - n3, by omega, n3, ts, v, _, rfl, by omega, by omega, htt, hg, a1, sb⟩
  iterate 3
    · exact lex_err (hg.obj _) rfl rfl rfl
    · obtain ⟨n, rfl, hn1, hn2⟩ := hk3 (by assumption)
      refine ⟨rs.length - n, by omega, n, ts ++ [Tok.mk t3.kind t3.text t3.n s2.length], v', H', rfl, hn2, by simp; omega, fun t ht => ?_, g2, ?_, sb⟩
      · rcases List.mem_append.1 ht with q | q
        · exact htt t q
        · rw [List.mem_singleton.1 q]; exact ht3
      · have e5 : toks (ts ++ [Tok.mk t3.kind t3.text t3.n s2.length]) = toks ts ++ [(Tok.mk t3.kind t3.text t3.n s2.length).av] := by simp [toks]
        rw [e5]; exact a2
  · have q := a1.le'
    simp only [toks_cln] at q
    exact ⟨hg, .tuple [.sl 4 (toks ts) .shut, .int .i64 0, .int .i64 0], by simp; exact .tuple (.cons q (.cons (.refl _) (.cons (.refl _) .nil))), ts, 0, 0, rfl, ⟨by omega, htt⟩, by omega⟩
end Go.Av
namespace Go.Av
open Go.Proofs
variable {W0 : World}
set_option maxRecDepth 10000
set_option maxHeartbeats 4000000
theorem src_none {H : Hp} {s : Str} {st : St} {a e : Int} (hg : Gr H st.H) (h2 : look st.env 2 = .nilp) (h3 : look st.env 3 = .int .i64 a) (h4 : look st.env 4 = .int .i64 e) :
    retQ [2, 3, 4] (fun r H' => Gr H H' ∧ ∃ r', Le (cln H.objs.length H.hi.length r) r' ∧ ∃ (t : Tr) (a e : Int), r' = .tuple [t.av, .int .i64 a, .int .i64 e] ∧ t.neat ∧ t.cnt ≤ 2 * s.length + 1) .ret st := by
  refine ⟨hg, .tuple [Tr.none.av, .int .i64 a, .int .i64 e], ?_, .none, a, e, rfl, trivial, by simp [Tr.cnt]⟩
  simp only [List.map_cons, List.map_nil, h2, h3, h4, cln, clnL, Tr.av]
  exact .refl _
theorem sf19 {s : Str} {H : Hp} (hs : s.length ≤ 67108864) : SF Tryz.prog W0 19 [.str s] H fun r H' => H' = H ∧ ∃ (t : Tr) (a e : Int), r = .tuple [t.av, .int .i64 a, .int .i64 e] ∧ t.neat ∧ t.cnt ≤ 2 * s.length + 1 := by
  refine SF.pureLe (sf_start [2, 3, 4] 59 Tryz.func19 rfl rfl rfl (by decide) (by simp) ?_)
  repeat' first
    | refine aSq ?_ | refine aRt ?_ | refine aSk ?_ | refine tN ?_ | refine tR ?_
    | (refine rg 1 ?_; refine tk 1 ?_; refine fc en30 ?_; refine (sf30 hs).mono ?_; rintro x1 H1 ⟨rfl, l, a1, e1, rfl, hl, hll⟩; refine tk 7 ?_; refine dn ?_)
    | (refine rg 4 ?_; refine tk 1 ?_; refine fc en31 ?_; refine (p31 hl (x := 0) (by omega) (by omega)).mono ?_; rintro x1 H1 ⟨rfl, ts, y1, e2, rfl, hy1, hy1l, hn1, hk1, hc1⟩; refine tk 7 ?_; refine dn ?_)
    | refine ru ?_
    | (refine awp_if rfl (fun hb => ?_) (fun hb => ?_) <;> (try simp at hb) <;> try (exfalso; omega))
    | fail
  · exact ⟨Gr.refl _, .tuple [Tr.none.av, .int .i64 a1, .int .i64 e1], by simp [Tr.av], .none, a1, e1, rfl, trivial, by simp [Tr.cnt]⟩
  obtain ⟨y, rfl⟩ : ∃ y : Nat, y1 = y := ⟨y1.toNat, by omega⟩
  have hln := hl.1
  have hne : (Tr.node 80 0 [] [] ts).neat := neatN (by simp) (by omega) hn1
  have hc67 : (Tr.node 80 0 [] [] ts).cnt ≤ 67108864 := by simp only [Tr.cnt]; omega
  have hcn : (Tr.node 80 0 [] [] ts).cnt ≤ 2 * s.length + 1 := by simp only [Tr.cnt]; omega
  repeat' first
    | refine aSq ?_ | refine aRt ?_ | refine aSk ?_ | refine tN ?_ | refine tR ?_
    | (refine rg 5 ?_; refine tk 2 ?_; (first | (refine te (fun hb => ?_) (fun hb => ?_) <;> (try simp at hb) <;> try (exfalso; omega)) | (refine tk 1 ?_)); all_goals (refine tk 5 ?_; refine dn ?_))
    | (refine dr 9 [(0, true), (1, true), (2, true), (3, true), (4, true), (5, true), (6, true), (7, true), (8, true)] [] ?_; refine dl ?_)
    | (refine rg 11 ?_; refine tk 1 ?_; refine fc en32 ?_; refine SF.then (sf32 (l := ts)) ?_; refine tk 1 ?_; refine dn ?_)
    | (refine rg 12 ?_; refine tk 1 ?_; refine fc en33 ?_; refine SF.then (sf33 _ _ _ (Nat.le_refl _) hc67 (Tr.slim_of_neat _ hne)) ?_; refine tk 1 ?_; refine dn ?_)
    | (refine rg 14 ?_; refine tk 1 ?_; refine fc en34 ?_; refine SF.then (sf34 _ _ _ (Nat.le_refl _) hc67 (Tr.slim_of_neat _ hne)) ?_; refine tk 1 ?_; refine dn ?_)
    | refine ru ?_
    | (refine awp_if rfl (fun hb => ?_) (fun hb => ?_) <;> (try simp at hb) <;> try (exfalso; omega))
    | fail
  all_goals first
    | exact src_none (Gr.refl _) rfl rfl rfl
    | exact ⟨Gr.refl _, .tuple [(Tr.node 80 0 [] [] ts).av, .int .i64 0, .int .i64 0], by simp, _, 0, 0, rfl, hne, hcn⟩
    | fail
theorem sf6 {s : Str} {H : Hp} (hs : s.length ≤ 9223372036854775807) : SF Tryz.prog W0 6 [.str s] H fun r H' => H' = H ∧ ∃ t : Tr, r = t.av ∧ t.neat ∧ t.cnt ≤ 1401 := by
  refine SF.pureLe (sf_start [2] 17 Tryz.func6 rfl rfl rfl (by decide) (by simp) ?_)
  obtain ⟨m, hmm⟩ : ∃ m : Nat, (if (700 : Int) < (s.length : Int) then (700 : Int) else s.length) = m := ⟨min s.length 700, by split <;> omega⟩
  have hm7 : m ≤ 700 ∧ m ≤ s.length := by split at hmm <;> omega
  have hm : (s.take m).length ≤ 700 := by rw [List.length_take]; omega
  repeat' first
    | refine aSq ?_ | refine aRt ?_
    | (refine rg 1 ?_; refine tk 5 ?_ (by simp (disch := omega) [hmm, small_if, small_ifI]; with_reducible rfl); refine fc en19 ?_; refine (sf19 (by omega)).mono ?_; rintro x1 H1 ⟨rfl, t, a1, e1, rfl, hn, hc⟩; refine tk 7 ?_ (by simp (disch := omega) [hmm, small_if, small_ifI]; with_reducible rfl); refine dn ?_)
    | (refine ru ?_ (by simp (disch := omega) [hmm, small_if, small_ifI]; with_reducible rfl))
    | fail
  exact ⟨Gr.refl _, t.av, by simp, t, rfl, hn, by omega⟩
end Go.Av
namespace Go.Av
open Go.Proofs
variable {W0 : World}
set_option maxRecDepth 10000
set_option maxHeartbeats 4000000
theorem sf144k {k n : Int} {a b : Str} {l : List Tr} {own : Own} {H : Hp} (hl : l.length ≤ 67108864) (fs : List FuncId) (w : Str) (hw : plainB w = true) (hlen : fs.length = w.length) (hen : ∀ f ∈ fs, enters Tryz.prog f)
    (hf : ∀ j (h1 : j < fs.length) (h2 : j < w.length), ∀ t ∈ l, SF Tryz.prog W0 fs[j] [t.av] H fun r H' => H' = H ∧ r = .bool (isB t (catB w[j]))) :
    SF Tryz.prog W0 144 [(Tr.node k n a b l).av, .sl 1 (fs.map fun f => [.fn f []]) own] H fun r H' => H' = H ∧ r = .bool (kidsB l w) := by
  have key := sf144 (W0 := W0) (k := k) (n := n) (a := a) (b := b) (l := l) (own := own) (H := H)
    (fs := (List.range fs.length).map fun j => ⟨fs.getD j 0, [], fun t => isB t (catB (w.getD j 0))⟩) hl
    (by intro F hF
        obtain ⟨j, hj, rfl⟩ := List.mem_map.1 hF
        simp only [List.mem_range] at hj
        simp only [List.getD_eq_getElem?_getD, List.getElem?_eq_getElem hj, Option.getD_some]
        exact hen _ (List.getElem_mem hj))
    (by intro F hF t ht
        obtain ⟨j, hj, rfl⟩ := List.mem_map.1 hF
        simp only [List.mem_range] at hj
        have h2 : j < w.length := by omega
        simp only [List.getD_eq_getElem?_getD, List.getElem?_eq_getElem hj, List.getElem?_eq_getElem h2, Option.getD_some]
        exact hf j hj h2 t ht)
  have e : forms ((List.range fs.length).map fun j => (⟨fs.getD j 0, [], fun t => isB t (catB (w.getD j 0))⟩ : Form)) = fs.map fun f => [.fn f []] := by
    apply List.ext_getElem
    · simp
    · intro i h1 h2
      simp only [List.length_map] at h2
      simp [forms, List.getElem?_eq_getElem h2]
  rw [e] at key
  refine key.mono ?_
  rintro r H' ⟨rfl, ok, rfl, hok⟩
  refine ⟨rfl, ?_⟩
  congr 1
  rw [Bool.eq_iff_iff, hok, kidsB_plain w l hw]
  simp only [List.length_map, List.length_range, hlen]
  constructor
  · rintro ⟨h1, h2⟩
    refine ⟨h1, fun j q1 q2 => ?_⟩
    have := h2 j q1 (by simpa using q2)
    simpa [List.getElem?_eq_getElem q2] using this
  · rintro ⟨h1, h2⟩
    refine ⟨h1, fun j q1 q2 => ?_⟩
    have q3 : j < w.length := by simpa using q2
    have := h2 j q1 q3
    simpa [List.getElem?_eq_getElem q3] using this
structure Shapes (W0 : World) (N : Nat) : Prop where
  ty : ∀ (t : Tr) (H : Hp), t.cnt ≤ N → t.good → SF Tryz.prog W0 177 [t.av] H fun r H' => H' = H ∧ r = .bool (isB t 1)
  ex : ∀ (t : Tr) (H : Hp), t.cnt ≤ N → t.good → SF Tryz.prog W0 178 [t.av] H fun r H' => H' = H ∧ r = .bool (isB t 2)
theorem beq0 (n m : Int) : (n == m) = decide (n = m) := by rw [Bool.eq_iff_iff]; simp
theorem mem_cnt : ∀ {l : List Tr} {t : Tr}, t ∈ l → t.cnt ≤ Tr.cnts l
  | x :: l, t, h => by
    simp only [Tr.cnts]
    rcases List.mem_cons.1 h with rfl | h
    · omega
    · have := mem_cnt h; omega
theorem sf177 (hB : LibOK W0) {N : Nat} (S : ∀ (t : Tr) (H : Hp), t.cnt ≤ N → t.good → SF Tryz.prog W0 177 [t.av] H fun r H' => H' = H ∧ r = .bool (isB t 1))
    (C : ∀ (k n : Int) (a b : Str) (l : List Tr) (H : Hp), Tr.cnts l ≤ N → Tr.goods l → SF Tryz.prog W0 179 [(Tr.node k n a b l).av] H fun r H' => H' = H ∧ r = .bool (kidsB l [67]))
    (t : Tr) (H : Hp) (hN : t.cnt ≤ N + 1) (hg : t.good) : SF Tryz.prog W0 177 [t.av] H fun r H' => H' = H ∧ r = .bool (isB t 1) := by
  obtain ⟨k, n, a, b, l, rfl⟩ := good_node hg
  have hkg := Tr.good_kids hg
  have hcl : Tr.cnts l ≤ N := by simp only [Tr.cnt] at hN; omega
  have ha := hg.1.1
  have h144a : SF Tryz.prog W0 144 [(Tr.node k n a b l).av, .slnil] H fun r H' => H' = H ∧ r = .bool (kidsB l []) :=
    SF.args (args' := [(Tr.node k n a b l).av, .sl 1 [] .shut]) (by simp) (sf144k (own := .shut) hkg.1 [] [] rfl rfl (by simp) (by intro j h1; simp at h1))
  have h144b : SF Tryz.prog W0 144 [(Tr.node k n a b l).av, .sl 1 [[.fn 177 []], [.fn 177 []]] .capped] H fun r H' => H' = H ∧ r = .bool (kidsB l [116, 116]) :=
    sf144k (own := .capped) hkg.1 [177, 177] [116, 116] rfl rfl (by simp [en177]) (fun j h1 h2 t ht => by
      have hj : j < 2 := h2
      match j, hj with
      | 0, _ => exact S t H (Nat.le_trans (mem_cnt ht) hcl) (hkg.2 t ht)
      | 1, _ => exact S t H (Nat.le_trans (mem_cnt ht) hcl) (hkg.2 t ht))
  have h179 := C k n a b l H hcl hkg
  have h102 := fun x y z => sf102 (W0 := W0) (H := H) (k := k) (n := n) (a := a) (b := b) (l := l) (x := x) (y := y) (z := z)
  simp only [Tr.av] at h144a h144b h179 h102 ⊢
  refine SF.pureLe (sf_start [2] 57 Tryz.func177 rfl rfl rfl (by decide) (by simp) ?_)
  repeat' first
    | refine aSq ?_ | refine aRt ?_ | refine aSk ?_ | refine aBl ?_ | refine tN ?_ | refine tR ?_ | refine iR ?_
    | (refine rg 5 ?_; refine tk 1 ?_; refine fc en102 ?_; refine SF.then (h102 _ _ _) ?_; (first | (refine te (fun hb => ?_) (fun hb => ?_) <;> (try simp at hb) <;> try (exfalso; omega)) | (refine tk 1 ?_)); all_goals (refine tk 1 ?_; (first | (refine fg en144 ?_; first | refine SF.then h144a ?_ | refine SF.then h144b ?_) | (refine tk 1 ?_)); refine tk 2 ?_; refine dn ?_))
    | (refine rg 7 ?_; refine tk 1 ?_; refine fc en102 ?_; refine SF.then (h102 _ _ _) ?_; (first | (refine te (fun hb => ?_) (fun hb => ?_) <;> (try simp at hb) <;> try (exfalso; omega)) | (refine tk 1 ?_)); all_goals (refine tk 4 ?_; (first | (refine fg en26 ?_; refine SF.then (sf26 hB ha) ?_) | (refine tk 1 ?_)); refine tk 1 ?_; (first | (refine te (fun hb => ?_) (fun hb => ?_) <;> (try simp at hb) <;> try (exfalso; omega)) | (refine tk 1 ?_)); all_goals (refine tk 1 ?_; (first | (refine fg en144 ?_; first | refine SF.then h144a ?_ | refine SF.then h144b ?_) | (refine tk 1 ?_)); refine tk 2 ?_; refine dn ?_)))
    | (refine rg 10 ?_; refine tk 1 ?_; refine fc en102 ?_; refine SF.then (h102 _ _ _) ?_; (first | (refine te (fun hb => ?_) (fun hb => ?_) <;> (try simp at hb) <;> try (exfalso; omega)) | (refine tk 1 ?_)); all_goals (refine tk 2 ?_; (first | (refine fg en144 ?_; first | refine SF.then h144a ?_ | refine SF.then h144b ?_) | (refine tk 1 ?_)); refine tk 2 ?_; refine dn ?_))
    | (refine rg 12 ?_; refine tk 1 ?_; refine fc en102 ?_; refine SF.then (h102 _ _ _) ?_; (first | (refine te (fun hb => ?_) (fun hb => ?_) <;> (try simp at hb) <;> try (exfalso; omega)) | (refine tk 1 ?_)); all_goals (refine tk 4 ?_; (first | (refine fg en43 ?_; refine SF.then (sf43 hB (by omega)) ?_) | (refine tk 1 ?_)); refine tk 1 ?_; (first | (refine te (fun hb => ?_) (fun hb => ?_) <;> (try simp at hb) <;> try (exfalso; omega)) | (refine tk 1 ?_)); all_goals (refine tk 1 ?_; (first | (refine fg en179 ?_; refine SF.then h179 ?_) | (refine tk 1 ?_)); refine tk 2 ?_; refine dn ?_)))
    | refine ru ?_
    | (refine awp_if rfl (fun hb => ?_) (fun hb => ?_) <;> (try simp at hb) <;> try (exfalso; omega))
    | fail
  all_goals (clear h144a h144b h179 h102 S C hg hkg hcl hN)
  all_goals first | (simp_all [retQ, bareT, is_1_1, is_1_2, is_1_3, is_1_4, is_1_5, is_1_6, is_1_7, is_1_else, beq0]; done) | (by_cases q1 : a = [] <;> by_cases q2 : b = [] <;> by_cases q3 : n = 0 <;> simp_all [retQ, bareT, is_1_1, is_1_2, is_1_3, is_1_4, is_1_5, is_1_6, is_1_7, is_1_else, beq0])
end Go.Av
